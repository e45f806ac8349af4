/- contracts of the three tests of sameness, at things that are alike -/
import Derived.Test.YtoifodabfpbjlaaSumsA
import Derived.Test.YtoifodabfpbjlaaLoadB
import Derived.BigQuiet
namespace Go.Proofs.Ytoifodabfpbjlaa
open Go.RowKit

theorem below_drewN' {B : Nat} {a w : World} (h : Below B a w) (n : Nat) : Below B a (w.drewN n) := h.trans ⟨rfl, rfl, rfl, Nat.le_refl _, fun _ _ => rfl⟩

theorem same_bytes (a1 a2 : Option Addr) (len c1 c2 : Nat) (bs : List UInt8) (w : World) (hl : len ≤ 1000000) (h1 : Cells w a1 len (u8s bs)) (h2 : Cells w a2 len (u8s bs)) :
    Calls Try.prog 12 #[.slice a1 len c1, .slice a2 len c2] w (fun e w' => e = .returned (.bool true) ∧ ∃ m, w' = w.drewN m) := by
  go_enter Try.func12, Try.ntmps12
  go_wp2_with fail
  go_loopw [5, 13, 25] (fun _ i _ wr => ∃ k : Nat, k ≤ len ∧ i = .int .i64 k ∧ ∃ m, wr = w.drewN m) (fun _ i _ _ => len - (intOf i).toNat)
  case atStart => exact ⟨0, by omega, rfl, 0, rfl⟩
  case round =>
    obtain ⟨k, hk, rfl, m, rfl⟩ := hrel
    by_cases hlt : k < len
    · obtain ⟨b1, o1, rfl, hc1⟩ := h1.at hlt
      obtain ⟨b2, o2, rfl, hc2⟩ := h2.at hlt
      unfold u8s at hc1 hc2
      generalize ((bs.getD k 0).toNat : Int) = x at hc1 hc2
      have f1 : decide ((k : Int) < len) = true := decide_eq_true (by omega)
      go_wp2_with fail
      go_quiet (fail)
      go_wp2_with fail
      go_round
      case rel => exact ⟨k + 1, by omega, by go_num, _, rfl⟩
      case measure => simp [intOf]; omega
    · obtain rfl : k = len := by omega
      go_wp2_with fail
      go_ret
      exact ⟨rfl, _, rfl⟩
theorem same_ints (a1 a2 : Option Addr) (len c1 c2 : Nat) (zs : List Int) (w : World) (hl : len ≤ 1000000) (h1 : Cells w a1 len (zints zs)) (h2 : Cells w a2 len (zints zs)) :
    Calls Try.prog 27 #[.slice a1 len c1, .slice a2 len c2] w (fun e w' => e = .returned (.bool true) ∧ ∃ m, w' = w.drewN m) := by
  go_enter Try.func27, Try.ntmps27
  go_wp2_with fail
  go_loopw [5, 13, 25] (fun _ i _ wr => ∃ k : Nat, k ≤ len ∧ i = .int .i64 k ∧ ∃ m, wr = w.drewN m) (fun _ i _ _ => len - (intOf i).toNat)
  case atStart => exact ⟨0, by omega, rfl, 0, rfl⟩
  case round =>
    obtain ⟨k, hk, rfl, m, rfl⟩ := hrel
    by_cases hlt : k < len
    · obtain ⟨b1, o1, rfl, hc1⟩ := h1.at hlt
      obtain ⟨b2, o2, rfl, hc2⟩ := h2.at hlt
      unfold zints at hc1 hc2
      generalize zs.getD k 0 = x at hc1 hc2
      have f1 : decide ((k : Int) < len) = true := decide_eq_true (by omega)
      go_wp2_with fail
      go_quiet (fail)
      go_wp2_with fail
      go_round
      case rel => exact ⟨k + 1, by omega, by go_num, _, rfl⟩
      case measure => simp [intOf]; omega
    · obtain rfl : k = len := by omega
      go_wp2_with fail
      go_ret
      exact ⟨rfl, _, rfl⟩

set_option maxHeartbeats 1000000 in
theorem same_image (aw au as' aw' au' as'' : Option Addr) (lw cw lu cu ls cs cw' cu' cs' : Nat) (ws us : List Int) (sp : List (ByteArray × Int)) (w : World)
    (hw : lw ≤ 1000000) (hu : lu ≤ 1000000) (hs : ls ≤ 1000000)
    (hcw : Cells w aw lw (zints ws)) (hcu : Cells w au lu (zints us)) (hcs : Cells w as' (2 * ls) (spotsV sp))
    (hcw' : Cells w aw' lw (zints ws)) (hcu' : Cells w au' lu (zints us)) (hcs' : Cells w as'' (2 * ls) (spotsV sp)) :
    Calls Try.prog 15 #[.agg #[.slice aw lw cw, .slice au lu cu, .slice as' ls cs], .agg #[.slice aw' lw cw', .slice au' lu cu', .slice as'' ls cs']] w (Grows w true) := by
  have H1 := Lib.hid (fun w' (h : Below w.heap.size w w') => same_ints aw aw' lw cw cw' ws w' hw (Cells.grow hcw h) (Cells.grow hcw' h))
  have H2 := Lib.hid (fun w' (h : Below w.heap.size w w') => same_ints au au' lu cu cu' us w' hu (Cells.grow hcu h) (Cells.grow hcu' h))
  clear hcw hcu hcw' hcu'
  go_enter Try.func15, Try.ntmps15
  go_wp2_with fail
  have hb2 : Below w.heap.size w ((w.alloc (.cells #[.slice aw lw cw, .slice au lu cu, .slice as' ls cs] 29)).alloc (.cells #[.slice aw' lw cw', .slice au' lu cu', .slice as'' ls cs'] 29)) :=
    ((Below.refl _ _).alloc (Nat.le_refl _) _).alloc (by simp) _
  have himg1 : ((w.alloc (.cells #[.slice aw lw cw, .slice au lu cu, .slice as' ls cs] 29)).alloc (.cells #[.slice aw' lw cw', .slice au' lu cu', .slice as'' ls cs'] 29)).heap[w.heap.size]? = some (.cells #[.slice aw lw cw, .slice au lu cu, .slice as' ls cs] 29) :=
    blk_alloc (blk_new _ _) _
  have himg2 : ((w.alloc (.cells #[.slice aw lw cw, .slice au lu cu, .slice as' ls cs] 29)).alloc (.cells #[.slice aw' lw cw', .slice au' lu cu', .slice as'' ls cs'] 29)).heap[w.heap.size + 1]? = some (.cells #[.slice aw' lw cw', .slice au' lu cu', .slice as'' ls cs'] 29) := by
    have := blk_new (w.alloc (.cells #[.slice aw lw cw, .slice au lu cu, .slice as' ls cs] 29)) (.cells #[.slice aw' lw cw', .slice au' lu cu', .slice as'' ls cs'] 29)
    simpa using this
  generalize (w.alloc (.cells #[.slice aw lw cw, .slice au lu cu, .slice as' ls cs] 29)).alloc (.cells #[.slice aw' lw cw', .slice au' lu cu', .slice as'' ls cs'] 29) = wo at *
  have hcs2 := Cells.grow hcs hb2
  have hcs2' := Cells.grow hcs' hb2
  clear hcs hcs'
  have c12 := blk_cell himg1 2
  have c11 := blk_cell himg1 1
  have c22 := blk_cell himg2 2
  have c21 := blk_cell himg2 1
  have C12 := Lib.hid c12
  have C22 := Lib.hid c22
  clear himg1 himg2
  refine (H1.out wo hb2).mono ?_
  rintro e w1 ⟨rfl, m1, rfl⟩
  go_wp2_with fail
  refine (H2.out _ (below_drewN' hb2 m1)).mono ?_
  rintro e w1 ⟨rfl, m2, rfl⟩
  go_wp2_with fail
  go_loopw [5, 32, 46] (fun _ i _ wr => ∃ k : Nat, k ≤ ls ∧ i = .int .i64 k ∧ ∃ m, wr = wo.drewN m) (fun _ i _ _ => ls - (intOf i).toNat)
  case atStart => exact ⟨0, by omega, rfl, m1 + m2, by simp⟩
  case round =>
    obtain ⟨k, hk, rfl, m, rfl⟩ := hrel
    by_cases hlt : k < ls
    · obtain ⟨b1, o1, rfl, hc1⟩ := hcs2.at (k := 2 * k) (by omega)
      obtain ⟨b2, o2, rfl, hc2⟩ := hcs2'.at (k := 2 * k) (by omega)
      obtain ⟨b1', o1', he1, hc1'⟩ := hcs2.at (k := 2 * k + 1) (by omega)
      obtain ⟨b2', o2', he2, hc2'⟩ := hcs2'.at (k := 2 * k + 1) (by omega)
      cases he1
      cases he2
      have e1 : spotsV sp (2 * k) = .string (sp.getD k (ByteArray.empty, 0)).1 := by
        unfold spotsV; rw [if_pos (by omega)]; congr 3; omega
      have e2 : spotsV sp (2 * k + 1) = .int .i64 (sp.getD k (ByteArray.empty, 0)).2 := by
        unfold spotsV; rw [if_neg (by omega)]; congr 3; omega
      rw [← Nat.add_assoc] at hc1' hc2'
      rw [e1, Nat.mul_comm 2 k] at hc1 hc2
      rw [e2, Nat.mul_comm 2 k] at hc1' hc2'
      clear e1 e2
      generalize sp.getD k (ByteArray.empty, 0) = s at *
      obtain ⟨nm, pl⟩ := s
      simp only at hc1 hc1' hc2 hc2'
      have f1 : decide ((k : Int) < ls) = true := decide_eq_true (by omega)
      go_wp2_with fail
      go_quiet (fail)
      go_wp2_with fail
      go_round
      case rel => exact ⟨k + 1, by omega, by go_num, m + nq, by simp⟩
      case measure => simp [intOf]; omega
    · obtain rfl : k = ls := by omega
      go_wp2_with fail
      go_ret
      exact ⟨rfl, below_drewN' hb2 _⟩
end Go.Proofs.Ytoifodabfpbjlaa
