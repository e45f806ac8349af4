/-
  ShelfQueens: the law's function.
-/
import Derived.Test.YtgmmfjmdpbhjnaaGreatJRd
import Derived.Test.YtgmmfjmdpbhjnaaGreatLNuX
namespace Go.Proofs.YtgmmfjmdpbhjnaaGreat
open Go Go.RowKit Go.XM

/-- the law's own counting of ways, on paper -/
noncomputable def wayP (n : Nat) : Option Nat := ob (runC 30 false ⟨.nil, 0⟩ 26 [.a (.s .nils), .a (.s (.i .i64 (.ofNat n)))]) fun r => match r.1 with
  | .a (.s (.i .u64 (.ofNat k))) => some k
  | _ => none
set_option maxRecDepth 100000 in
theorem wayP_0 : wayP 0 = some (wayN 0 [] 0) := by kernel_rfl
set_option maxRecDepth 100000 in
theorem wayP_1 : wayP 1 = some (wayN 1 [] 1) := by kernel_rfl
set_option maxRecDepth 100000 in
theorem wayP_2 : wayP 2 = some (wayN 2 [] 2) := by kernel_rfl
set_option maxRecDepth 100000 in
theorem wayP_3 : wayP 3 = some (wayN 3 [] 3) := by kernel_rfl
set_option maxRecDepth 100000 in
theorem wayP_4 : wayP 4 = some (wayN 4 [] 4) := by kernel_rfl
set_option maxRecDepth 100000 in
theorem wayP_5 : wayP 5 = some (wayN 5 [] 5) := by kernel_rfl
theorem ways_ok {n : Nat} (hn : n ≤ 5) (w : World) : Calls Tryz.prog 26 #[.slice none 0 0, .int .i64 (n : Nat)] w fun e w' => e = .returned (.int .u64 (wayN n [] n : Nat)) ∧ Below w.heap.size w w' := by
  have hp : wayP n = some (wayN n [] n) := by
    have : n = 0 ∨ n = 1 ∨ n = 2 ∨ n = 3 ∨ n = 4 ∨ n = 5 := by omega
    rcases this with rfl | rfl | rfl | rfl | rfl | rfl
    · exact wayP_0
    · exact wayP_1
    · exact wayP_2
    · exact wayP_3
    · exact wayP_4
    · exact wayP_5
  generalize wayN n [] n = g at *
  unfold wayP at hp
  obtain ⟨r, e1, hp⟩ := ob_some hp
  obtain ⟨r1, rh⟩ := r
  simp only at hp
  split at hp
  · rename_i k hr
    cases hp
    have U : UU := ⟨ByteArray.empty, fun _ => .slice none 0 0, ⟨none, 0, 0, rfl, by omega⟩, fun _ => rfl⟩
    have r0 := rel_none U w (fun c => c < w.heap.size) fun c h => h
    refine ((runC_ok 30).run r0 (us := [.slice none 0 0, .int .i64 (n : Nat)]) rfl e1).2.mono fun e w' he => ?_
    obtain ⟨m', u, rfl, hle, hr', hd⟩ := he
    have hd : some (Value.int .u64 (Int.ofNat g)) = some u := hd
    cases hd
    exact ⟨rfl, rel_below hr'⟩
  · cases hp
set_option maxHeartbeats 1000000 in
set_option maxRecDepth 100000 in
theorem shelfQueens_ok (w : World) (n : Nat) (hn : n < 18446744073709551616) {rdy : Rdy} (hP : Played 124749026258547 6 rdy) (hR : rdy = ⟨3, queBd, [List.replicate 20 0, List.replicate 8 0]⟩) :
    Calls Tryz.prog 19 #[.int .u64 (n : Nat)] w fun e w' => e = .returned (.bool true) ∧ Below w.heap.size w w' := by
  subst hR
  by_cases h5 : n ≤ 5
  · have T := tellsAsk_of hP (nm := ⟨#[113, 117, 101, 101, 110, 115]⟩) (by kernel_rfl) (que_means h5)
    have HT := Lib.hid T
    have HW0 := Lib.hid (ways_ok h5)
    have hw5 := wayN_le h5 n []
    have hp5 : 5 ^ n ≤ 5 ^ 5 := Nat.pow_le_pow_right (by decide) h5
    have HL0 := Lib.hid (line_ok (wayN n [] n) (by omega))
    clear T hP hw5 hp5
    have g1 : decide ((5 : Int) < n) = false := decide_eq_false (by omega)
    have g2 : IntKind.i64.wrap (n : Int) = (n : Int) := by rw [IntKind.wrap]; simp [IntKind.bits, IntKind.signed]; omega
    generalize digs (wayN n [] n) ++ [10] = want at *
    generalize wayN n [] n = g at *
    go_enter Tryz.func19, Tryz.ntmps19
    go_wp2_with fail
    refine (asked_ok [n] (by simp) _ _ _ (nums_one _ n hn _ _)).mono ?_
    rintro e w1 ⟨a1, c1, rfl, hy1, hb1⟩
    have HW := HW0.out w1
    have HY1 := Lib.hid (And.intro hy1 (below2 ((Below.refl _ w).alloc (Nat.le_refl _) _) hb1))
    clear hy1 hb1
    go_wp2_with fail
    refine HW.mono ?_
    rintro e w2 ⟨rfl, hb2⟩
    have HL := HL0.out w2
    have HY2 := Lib.hid (And.intro (HY1.out.1.below hb2) (below2 HY1.out.2 hb2))
    clear hb2 HW
    go_wp2_with fail
    refine HL.mono ?_
    rintro e w3 ⟨a2, c2, rfl, hy3, hb3⟩
    have TT := HT.out w3 (some a1) (some a2) c1 c2 (HY2.out.1.below hb3) hy3 (fun e => by cases e)
    have HY3 := Lib.hid (below2 HY2.out.2 hb3)
    clear hy3 hb3 HL
    go_wp2_with fail
    refine TT.mono ?_
    rintro e w4 ⟨rfl, hb4⟩
    have HY4 := Lib.hid (below2 HY3.out hb4)
    clear TT hb4
    go_wp2_with fail
    exact bodyPost_ret (v := .bool true) (by simp [results, Tryz.results19, go_sem]) rfl ⟨rfl, HY4.out⟩
  · have g1 : decide ((5 : Int) < n) = true := decide_eq_true (by omega)
    clear hP
    go_enter Tryz.func19, Tryz.ntmps19
    go_wp2_with fail
    exact bodyPost_ret (v := .bool true) (by simp [results, Tryz.results19, go_sem]) rfl ⟨rfl, Below.refl _ _⟩
end Go.Proofs.YtgmmfjmdpbhjnaaGreat
