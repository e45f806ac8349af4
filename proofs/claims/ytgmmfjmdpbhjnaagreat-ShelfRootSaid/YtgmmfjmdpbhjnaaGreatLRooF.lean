/-
  ShelfRoot: the law's function.
-/
import Derived.Test.YtgmmfjmdpbhjnaaGreatJRd
import Derived.Test.YtgmmfjmdpbhjnaaGreatLNuR
namespace Go.Proofs.YtgmmfjmdpbhjnaaGreat
open Go Go.RowKit


set_option maxHeartbeats 4000000 in
set_option maxRecDepth 100000 in
theorem shelfRoot_ok (w : World) (n : Nat) (hn : n < 18446744073709551616) {rdy : Rdy} (hP : Played 1919905652 4 rdy) (hR : rdy = ⟨2, rooBd, [List.replicate 20 0]⟩) :
    Calls Tryz.prog 9 #[.int .u64 (n : Nat)] w fun e w' => e = .returned (.bool true) ∧ Below w.heap.size w w' := by
  subst hR
  have T := tellsAsk_of hP (nm := ⟨#[114, 111, 111, 116]⟩) (by kernel_rfl) (root_means hn)
  obtain ⟨R, hR⟩ : ∃ R, R = rt n 31 0 := ⟨_, rfl⟩
  obtain ⟨top, htop⟩ : ∃ top : Nat, top = 31 := ⟨_, rfl⟩
  have hsq := rt_sq n top 0 (Nat.zero_le _) (by rw [htop]; exact Nat.lt_of_lt_of_le hn (by decide))
  have hle := rt_le n top 0
  have hp : 2 ^ top = 2147483648 := by rw [htop]
  rw [hp] at hle
  rw [← htop] at hR
  rw [← hR] at hsq hle
  have hRle : R ≤ 4294967295 := by omega
  have HT : Hid (TellsAsk ⟨#[114, 111, 111, 116]⟩ [n] (digs R ++ [10])) := Lib.hid (by rw [hR, htop]; exact T)
  have HR := Lib.hid (show rt n top 0 = R from hR.symm)
  have HP := Lib.hid hp
  have HQ := Lib.hid hsq
  clear T hP hR hsq hle hp htop
  go_enter Tryz.func9, Tryz.ntmps9
  go_wp2_with fail
  go_loopw [3, 4] (fun va vb wr => (∃ m r bb : Nat, va = .int .u64 (r : Nat) ∧ vb = .int .u64 (bb : Nat) ∧ r + 2 * bb ≤ 4294967296 ∧ 0 < bb ∧ Hid (bb = 2 ^ m ∧ rt n m r = R) ∧ Below w.heap.size w wr) ∨ (va = .int .u64 (R : Nat) ∧ vb = .int .u64 0 ∧ Below w.heap.size w wr)) (fun _ vb _ => (intOf vb).toNat)
  case atStart => exact .inl ⟨top, 0, 2147483648, rfl, rfl, by omega, by omega, Lib.hid ⟨HP.out.symm, HR.out⟩, Below.refl _ _⟩
  case round =>
    rcases hrel with ⟨m, r, bb, rfl, rfl, hb, h0, hH, hb0⟩ | ⟨rfl, rfl, hb0⟩
    · have hls : decide ((0 : Int) < bb) = true := decide_eq_true (by omega)
      obtain ⟨z, hz⟩ : ∃ z, z = (r + bb) * (r + bb) := ⟨_, rfl⟩
      have hz64 : z < 18446744073709551616 := by rw [hz]; exact sq_fit (by omega)
      have w1 : IntKind.u64.wrap (((r : Int) + bb) * ((r : Int) + bb)) = (z : Int) := by
        have := wr_fit z hz64
        rw [hz] at this ⊢
        push_cast at this ⊢
        exact this
      have hnext : ∀ r' : Nat, r' = rtS n bb r → r' ≤ r + bb → ((∃ m r1 bb1 : Nat, Value.int .u64 (r' : Nat) = .int .u64 (r1 : Nat) ∧ Value.int .u64 (((bb / 2 : Nat)) : Int) = .int .u64 (bb1 : Nat) ∧ r1 + 2 * bb1 ≤ 4294967296 ∧ 0 < bb1 ∧ Hid (bb1 = 2 ^ m ∧ rt n m r1 = R) ∧ Below w.heap.size w wr) ∨ (Value.int .u64 (r' : Nat) = .int .u64 (R : Nat) ∧ Value.int .u64 (((bb / 2 : Nat)) : Int) = .int .u64 0 ∧ Below w.heap.size w wr)) := fun r' hr' hle => by
        obtain ⟨k1, k2⟩ := hH.out
        cases m with
        | zero =>
          obtain rfl : bb = 1 := k1
          have : r' = R := by rw [hr', ← k2]; rfl
          rw [this]
          exact .inr ⟨rfl, rfl, hb0⟩
        | succ m =>
          have e : 2 ^ (m + 1) = 2 * 2 ^ m := Nat.pow_succ'
          have hp : 0 < 2 ^ m := Nat.pow_pos (by decide)
          refine .inl ⟨m, r', bb / 2, rfl, rfl, by omega, by omega, Lib.hid ⟨by omega, ?_⟩, hb0⟩
          rw [hr', ← k2, k1]; rfl
      have HN := Lib.hid hnext
      have e2 : ((bb / 2 : Nat) : Int) = (bb : Int) / 2 := by push_cast; rfl
      by_cases hc : z ≤ n
      · have q1 : decide ((z : Int) ≤ n) = true := decide_eq_true (by omega)
        have HS := Lib.hid (show r + bb = rtS n bb r by unfold rtS; rw [if_pos (by rw [← hz]; exact hc)])
        clear hz hnext hH e2
        go_wp2_with fail
        go_round
        case rel => exact HN.out (r + bb) HS.out (Nat.le_refl _)
        case measure => simp [intOf]; omega
      · have q1 : decide ((z : Int) ≤ n) = false := decide_eq_false (by omega)
        have HS := Lib.hid (show r = rtS n bb r by unfold rtS; rw [if_neg (by rw [← hz]; exact hc)])
        clear hz hnext hH e2
        go_wp2_with fail
        go_round
        case rel => exact HN.out r HS.out (by omega)
        case measure => simp [intOf]; omega
    · have hls : decide ((0 : Int) < 0) = false := rfl
      obtain ⟨k1, k2⟩ := HQ.out
      obtain ⟨z, hz⟩ : ∃ z, z = R * R := ⟨_, rfl⟩
      have hz64 : z < 18446744073709551616 := by rw [hz]; exact sq_fit (by omega)
      have w1 : IntKind.u64.wrap ((R : Int) * R) = (z : Int) := by
        have := wr_fit z hz64
        rw [hz] at this ⊢
        push_cast at this ⊢
        exact this
      rw [← hz] at k1
      have q1 : decide ((n : Int) < z) = false := decide_eq_false (by omega)
      have q1' : decide (n < z) = false := decide_eq_false (by omega)
      by_cases hc : R < 4294967295
      · have q2 : decide ((R : Int) < 4294967295) = true := decide_eq_true (by omega)
        have q2' : decide (R < 4294967295) = true := decide_eq_true (by omega)
        obtain ⟨y, hy⟩ : ∃ y, y = (R + 1) * (R + 1) := ⟨_, rfl⟩
        have hy64 : y < 18446744073709551616 := by rw [hy]; exact sq_fit (by omega)
        have w2 : IntKind.u64.wrap (((R : Int) + 1) * ((R : Int) + 1)) = (y : Int) := by
          have := wr_fit y hy64
          rw [hy] at this ⊢
          push_cast at this ⊢
          exact this
        rw [← hy] at k2
        have q3 : decide ((y : Int) ≤ n) = false := decide_eq_false (by omega)
        have q3' : decide (y ≤ n) = false := decide_eq_false (by omega)
        have hR64 : R < 18446744073709551616 := by omega
        clear hz hy k1 k2 hz64 hy64 hRle
        have HL0 := Lib.hid (line_ok R hR64)
        generalize digs R ++ [10] = want at *
        have HB0 := Lib.hid hb0
        clear hb0
        go_wp2_with fail
        refine (asked_ok [n] (by simp) _ _ _ (nums_one _ n hn _ _)).mono ?_
        rintro e w1 ⟨a1, c1, rfl, hy1, hb1⟩
        have HL := HL0.out w1
        have HY1 := Lib.hid (And.intro hy1 (below2 (HB0.out.alloc HB0.out.size _) hb1))
        clear hy1 hb1
        go_wp2_with fail
        refine HL.mono ?_
        rintro e w2 ⟨a2, c2, rfl, hy2, hb2⟩
        have TT := HT.out w2 (some a1) (some a2) c1 c2 (HY1.out.1.below hb2) hy2 (fun e => by cases e)
        have HY2 := Lib.hid (below2 HY1.out.2 hb2)
        clear hy2 hb2 HL
        go_wp2_with fail
        refine TT.mono ?_
        rintro e w3 ⟨rfl, hb3⟩
        have HY3 := Lib.hid (below2 HY2.out hb3)
        clear TT hb3
        go_wp2_with fail
        exact bodyPost_ret (v := .bool true) (by simp [results, Tryz.results9, go_sem]) rfl ⟨rfl, HY3.out⟩
      · have q2 : decide ((R : Int) < 4294967295) = false := decide_eq_false (by omega)
        have q2' : decide (R < 4294967295) = false := decide_eq_false (by omega)
        have hR64 : R < 18446744073709551616 := by omega
        clear hz k1 k2 hz64 hRle hc
        have HL0 := Lib.hid (line_ok R hR64)
        generalize digs R ++ [10] = want at *
        have HB0 := Lib.hid hb0
        clear hb0
        go_wp2_with fail
        refine (asked_ok [n] (by simp) _ _ _ (nums_one _ n hn _ _)).mono ?_
        rintro e w1 ⟨a1, c1, rfl, hy1, hb1⟩
        have HL := HL0.out w1
        have HY1 := Lib.hid (And.intro hy1 (below2 (HB0.out.alloc HB0.out.size _) hb1))
        clear hy1 hb1
        go_wp2_with fail
        refine HL.mono ?_
        rintro e w2 ⟨a2, c2, rfl, hy2, hb2⟩
        have TT := HT.out w2 (some a1) (some a2) c1 c2 (HY1.out.1.below hb2) hy2 (fun e => by cases e)
        have HY2 := Lib.hid (below2 HY1.out.2 hb2)
        clear hy2 hb2 HL
        go_wp2_with fail
        refine TT.mono ?_
        rintro e w3 ⟨rfl, hb3⟩
        have HY3 := Lib.hid (below2 HY2.out hb3)
        clear TT hb3
        go_wp2_with fail
        exact bodyPost_ret (v := .bool true) (by simp [results, Tryz.results9, go_sem]) rfl ⟨rfl, HY3.out⟩
end Go.Proofs.YtgmmfjmdpbhjnaaGreat
