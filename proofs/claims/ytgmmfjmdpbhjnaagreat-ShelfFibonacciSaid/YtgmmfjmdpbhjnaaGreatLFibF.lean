/-
  ShelfFibonacci: the law's function.
-/
import Derived.Test.YtgmmfjmdpbhjnaaGreatJRd
import Derived.Test.YtgmmfjmdpbhjnaaGreatLNuQ
namespace Go.Proofs.YtgmmfjmdpbhjnaaGreat
open Go Go.RowKit

set_option maxHeartbeats 1000000 in
set_option maxRecDepth 100000 in
theorem shelfFibonacci_ok (w : World) (n : Nat) (hn : n < 18446744073709551616) {rdy : Rdy} (hP : Played 1889161649959945331561 9 rdy) (hR : rdy = ⟨2, fibBd, [List.replicate 20 0]⟩) :
    Calls Tryz.prog 6 #[.int .u64 (n : Nat)] w fun e w' => e = .returned (.bool true) ∧ Below w.heap.size w w' := by
  subst hR
  by_cases h5 : n ≤ 5000
  · have T := tellsAsk_of hP (nm := ⟨#[102, 105, 98, 111, 110, 97, 99, 99, 105]⟩) (by kernel_rfl) (fib_means h5)
    have HT := Lib.hid T
    clear T hP
    have g1 : decide ((5000 : Int) < n) = false := decide_eq_false (by omega)
    go_enter Tryz.func6, Tryz.ntmps6
    go_wp2_with fail
    go_loopw [3, 4, 5] (fun va vb vk wr => ∃ k : Nat, k ≤ n ∧ va = .int .u64 ((fiP k).1 : Nat) ∧ vb = .int .u64 ((fiP k).2 : Nat) ∧ vk = .int .u64 (k : Nat) ∧ Below w.heap.size w wr) (fun _ _ vk _ => n - (intOf vk).toNat)
    case atStart => exact ⟨0, Nat.zero_le _, rfl, rfl, rfl, Below.refl _ _⟩
    case round =>
      obtain ⟨k, hk, rfl, rfl, rfl, hb0⟩ := hrel
      obtain ⟨q1, q2⟩ := fiP_lt k
      by_cases hlt : k < n
      · have hls : decide ((k : Int) < n) = true := decide_eq_true (by omega)
        have HS := Lib.hid (show (fiP (k + 1)).1 = (fiP k).2 ∧ (fiP (k + 1)).2 = ((fiP k).1 + (fiP k).2) % 18446744073709551616 from ⟨rfl, rfl⟩)
        generalize (fiP k).1 = x at *
        generalize (fiP k).2 = y at *
        have w1 : IntKind.u64.wrap ((x : Int) + y) = (((x + y) % 18446744073709551616 : Nat) : Int) := by rw [IntKind.wrap]; simp [IntKind.bits, IntKind.signed]
        have w2 : IntKind.u64.wrap ((k : Int) + 1) = ((k + 1 : Nat) : Int) := by rw [IntKind.wrap]; simp [IntKind.bits, IntKind.signed]; omega
        go_wp2_with fail
        go_round
        case rel => exact ⟨k + 1, by omega, by rw [HS.out.1], by rw [HS.out.2]; simp, by go_num, hb0⟩
        case measure => simp [intOf]; omega
      · obtain rfl : k = n := by omega
        have hls : decide ((k : Int) < k) = false := decide_eq_false (by omega)
        have HL0 := Lib.hid (line_ok (fiP k).1 (fiP_lt k).1)
        generalize digs ((fiP k).1) ++ [10] = want at *
        have HB0 := Lib.hid hb0
        clear hb0
        go_wp2_with fail
        refine (asked_ok [k] (by simp) _ _ _ (nums_one _ k hn _ _)).mono ?_
        rintro e w1 ⟨a1, c1, rfl, hy1, hb1⟩
        have HL := HL0.out w1
        have HY1 := Lib.hid (And.intro hy1 (below2 (HB0.out.alloc HB0.out.size _) hb1))
        clear hy1 hb1
        go_wp2_with fail
        refine HL.mono ?_
        rintro e w2 ⟨a2, c2, rfl, hy2, hb2⟩
        have TT := HT.out w2 (some a1) (some a2) c1 c2 (HY1.out.1.below hb2) hy2 (fun e => by cases e)
        have HY2 := Lib.hid (below2 HY1.out.2 hb2)
        clear hy2 hb2 HL
        go_wp2_with fail
        refine TT.mono ?_
        rintro e w3 ⟨rfl, hb3⟩
        have HY3 := Lib.hid (below2 HY2.out hb3)
        clear TT hb3
        go_wp2_with fail
        exact bodyPost_ret (v := .bool true) (by simp [results, Tryz.results6, go_sem]) rfl ⟨rfl, HY3.out⟩
  · have g1 : decide ((5000 : Int) < n) = true := decide_eq_true (by omega)
    clear hP
    go_enter Tryz.func6, Tryz.ntmps6
    go_wp2_with fail
    exact bodyPost_ret (v := .bool true) (by simp [results, Tryz.results6, go_sem]) rfl ⟨rfl, Below.refl _ _⟩
end Go.Proofs.YtgmmfjmdpbhjnaaGreat
