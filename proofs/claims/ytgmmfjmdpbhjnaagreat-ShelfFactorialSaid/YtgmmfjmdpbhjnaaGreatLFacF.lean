/-
  ShelfFactorial: the law's function.
-/
import Derived.Test.YtgmmfjmdpbhjnaaGreatJRd
import Derived.Test.YtgmmfjmdpbhjnaaGreatLTrpF
import Derived.Test.YtgmmfjmdpbhjnaaGreatLNuV
namespace Go.Proofs.YtgmmfjmdpbhjnaaGreat
open Go Go.RowKit

set_option maxHeartbeats 4000000 in
set_option maxRecDepth 100000 in
theorem shelfFactorial_ok (w : World) (n : Nat) (hn : n < 18446744073709551616) {rdy : Rdy} (hP : Played 1888585476184757330284 9 rdy) (hR : rdy = ⟨3, facBd, [List.replicate 20 0]⟩) :
    Calls Tryz.prog 7 #[.int .u64 (n : Nat)] w fun e w' => e = .returned (.bool true) ∧ Below w.heap.size w w' := by
  subst hR
  have HT : Hid ((n < 60 → TellsAsk ⟨#[102, 97, 99, 116, 111, 114, 105, 97, 108]⟩ [n] (digs (facN n) ++ [10])) ∧ (60 ≤ n → TrapsAsk ⟨#[102, 97, 99, 116, 111, 114, 105, 97, 108]⟩ [n] 3)) := Lib.hid ⟨fun h => tellsAsk_of hP (by kernel_rfl) (fac_means h), fun h => trapsAsk_of hP (by kernel_rfl) (by
    have := askL_len [n] (fun v hv => by have : v = n := by simpa using hv
                                         omega)
    simp at this
    omega) (fac_traps h hn)⟩
  clear hP
  go_enter Tryz.func7, Tryz.ntmps7
  go_wp2_with fail
  go_loopw [3, 4] (fun vf vk wr => ∃ k f : Nat, 2 ≤ k ∧ k ≤ 101 ∧ (k ≤ n + 1 ∨ k = 2) ∧ vf = .int .u64 (f : Nat) ∧ vk = .int .u64 (k : Nat) ∧ Hid (f = facN (k - 1)) ∧ Below w.heap.size w wr) (fun _ vk _ => 101 - (intOf vk).toNat)
  case atStart => exact ⟨2, 1, by omega, by omega, .inr rfl, rfl, rfl, Lib.hid rfl, Below.refl _ _⟩
  case round =>
    obtain ⟨k, f, hk2, hk, hkn, rfl, rfl, hf, hb0⟩ := hrel
    have hf64 : f < 18446744073709551616 := by rw [hf.out]; exact facN_lt _
    have hend : ¬ (k ≤ n ∧ k ≤ 100) → (n < 60 → f = facN n) := fun h h60 => by
      rw [hf.out]
      by_cases h2 : k ≤ n + 1 ∧ n + 1 ≤ k
      · congr 1; omega
      · have h01 : n = 0 ∨ n = 1 := by omega
        obtain rfl : k = 2 := by omega
        clear hn HT h h60 h2 hkn
        rcases h01 with rfl | rfl <;> rfl
    have HE := Lib.hid hend
    clear hend
    by_cases h1 : k ≤ n
    · have p1 : decide ((k : Int) ≤ n) = true := decide_eq_true (by omega)
      have p1' : decide (k ≤ n) = true := decide_eq_true (by omega)
      by_cases h100 : k ≤ 100
      · have p2 : decide ((k : Int) ≤ 100) = true := decide_eq_true (by omega)
        have p2' : decide (k ≤ 100) = true := decide_eq_true (by omega)
        have w1 := wr_mul f k
        have HS := Lib.hid (show f * k % 18446744073709551616 = facN (k + 1 - 1) by
          obtain ⟨j, rfl⟩ : ∃ j, k = j + 1 := ⟨k - 1, by omega⟩
          have e : facN (j + 1) = (j + 1) * facN j % 18446744073709551616 := if_neg (by omega)
          rw [hf.out, Nat.mul_comm]
          exact e.symm)
        clear hf HE HT
        go_wp2_with fail
        go_round
        case rel => exact ⟨k + 1, f * k % 18446744073709551616, by omega, by omega, .inl (by omega), by simp, by go_num, HS, hb0⟩
        case measure => simp [intOf]; omega
      · have p2 : decide ((k : Int) ≤ 100) = false := decide_eq_false (by omega)
        have p2' : decide (k ≤ 100) = false := decide_eq_false (by omega)
        have h60 : 60 ≤ n := by omega
        have p3 : decide ((n : Int) < 60) = false := decide_eq_false (by omega)
        have TT := HT.out.2 h60
        have HTR := Lib.hid TT
        clear TT hf
        have HB0 := Lib.hid hb0
        clear hb0
        go_wp2_with fail
        refine (asked_ok [n] (by simp) _ _ _ (nums_one _ n hn _ _)).mono ?_
        rintro e w1 ⟨a1, c1, rfl, hy1, hb1⟩
        have TR := HTR.out w1 (some a1) c1 hy1
        have HY1 := Lib.hid (below2 (HB0.out.alloc HB0.out.size _) hb1)
        clear hy1 hb1
        go_wp2_with fail
        refine TR.mono ?_
        rintro e w2 ⟨sa, sc, rd, tk, res, rfl, hb2⟩
        have HY2 := Lib.hid (below2 HY1.out hb2)
        clear hb2 TR
        go_wp2_with fail
        exact bodyPost_ret (v := .bool true) (by simp [results, Tryz.results7, go_sem]) rfl ⟨rfl, HY2.out.alloc HY2.out.size _⟩
    · have p1 : decide ((k : Int) ≤ n) = false := decide_eq_false (by omega)
      have p1' : decide (k ≤ n) = false := decide_eq_false (by omega)
      by_cases h60 : n < 60
      · have p3 : decide ((n : Int) < 60) = true := decide_eq_true (by omega)
        have hfn := HE.out (fun h => h1 h.1) h60
        have T := HT.out.1 h60
        rw [← hfn] at T
        replace HT := Lib.hid T
        clear T hfn hf HE
        have HL0 := Lib.hid (line_ok (f) hf64)
        generalize digs f ++ [10] = want at *
        have HB0 := Lib.hid hb0
        clear hb0
        go_wp2_with fail
        refine (asked_ok [n] (by simp) _ _ _ (nums_one _ n hn _ _)).mono ?_
        rintro e w1 ⟨a1, c1, rfl, hy1, hb1⟩
        have HL := HL0.out w1
        have HY1 := Lib.hid (And.intro hy1 (below2 (HB0.out.alloc HB0.out.size _) hb1))
        clear hy1 hb1
        go_wp2_with fail
        refine HL.mono ?_
        rintro e w2 ⟨a2, c2, rfl, hy2, hb2⟩
        have TT := HT.out w2 (some a1) (some a2) c1 c2 (HY1.out.1.below hb2) hy2 (fun e => by cases e)
        have HY2 := Lib.hid (below2 HY1.out.2 hb2)
        clear hy2 hb2 HL
        go_wp2_with fail
        refine TT.mono ?_
        rintro e w3 ⟨rfl, hb3⟩
        have HY3 := Lib.hid (below2 HY2.out hb3)
        clear TT hb3
        go_wp2_with fail
        exact bodyPost_ret (v := .bool true) (by simp [results, Tryz.results7, go_sem]) rfl ⟨rfl, HY3.out⟩
      · have p3 : decide ((n : Int) < 60) = false := decide_eq_false (by omega)
        have TT := HT.out.2 (by omega)
        have HTR := Lib.hid TT
        clear TT hf
        have HB0 := Lib.hid hb0
        clear hb0
        go_wp2_with fail
        refine (asked_ok [n] (by simp) _ _ _ (nums_one _ n hn _ _)).mono ?_
        rintro e w1 ⟨a1, c1, rfl, hy1, hb1⟩
        have TR := HTR.out w1 (some a1) c1 hy1
        have HY1 := Lib.hid (below2 (HB0.out.alloc HB0.out.size _) hb1)
        clear hy1 hb1
        go_wp2_with fail
        refine TR.mono ?_
        rintro e w2 ⟨sa, sc, rd, tk, res, rfl, hb2⟩
        have HY2 := Lib.hid (below2 HY1.out hb2)
        clear hb2 TR
        go_wp2_with fail
        exact bodyPost_ret (v := .bool true) (by simp [results, Tryz.results7, go_sem]) rfl ⟨rfl, HY2.out.alloc HY2.out.size _⟩
end Go.Proofs.YtgmmfjmdpbhjnaaGreat
