/-
  ShelfCollatz: the law's function.
-/
import Derived.Test.YtgmmfjmdpbhjnaaGreatJRd
import Derived.Test.YtgmmfjmdpbhjnaaGreatLNuU
namespace Go.Proofs.YtgmmfjmdpbhjnaaGreat
open Go Go.RowKit

set_option maxHeartbeats 4000000 in
set_option maxRecDepth 100000 in
theorem shelfCollatz_ok (w : World) (n : Nat) (hn : n < 18446744073709551616) {rdy : Rdy} (hP : Played 27988534159832186 7 rdy) (hR : rdy = ⟨2, colBd, [List.replicate 20 0]⟩) :
    Calls Tryz.prog 8 #[.int .u64 (n : Nat)] w fun e w' => e = .returned (.bool true) ∧ Below w.heap.size w w' := by
  subst hR
  by_cases h5 : n ≤ 100000
  · obtain ⟨K, hlo, hK, hhi, hE⟩ := col_means h5
    have T := tellsAsk_of hP (nm := ⟨#[99, 111, 108, 108, 97, 116, 122]⟩) (by kernel_rfl) hE
    have HT := Lib.hid T
    have HH := Lib.hid (And.intro hlo hhi)
    clear T hP hE hhi hlo
    have g1 : decide ((100000 : Int) < n) = false := decide_eq_false (by omega)
    go_enter Tryz.func8, Tryz.ntmps8
    go_wp2_with fail
    go_loopw [3, 4] (fun vk vm wr => ∃ i x : Nat, i ≤ K ∧ vk = .int .u64 (i : Nat) ∧ vm = .int .u64 (x : Nat) ∧ Hid (x = czI i n) ∧ Below w.heap.size w wr) (fun vk _ _ => K - (intOf vk).toNat)
    case atStart => exact ⟨0, n, by omega, rfl, rfl, Lib.hid rfl, Below.refl _ _⟩
    case round =>
      obtain ⟨i, x, hi, rfl, rfl, hx, hb0⟩ := hrel
      by_cases hlt : i < K
      · obtain ⟨q1, q2⟩ := HH.out.2 i hlt
        rw [← hx.out] at q1 q2
        have HX := Lib.hid (show cz x = czI (i + 1) n by rw [hx.out]; rfl)
        have hls : decide ((1 : Int) < x) = true := decide_eq_true (by omega)
        have e1 := tm_nat x 2
        have e1' : (x : Int).tmod 2 = ((x % 2 : Nat) : Int) := e1
        clear hx e1
        by_cases ho : x % 2 = 0
        · rw [ho] at e1'
          have HZ := Lib.hid (show x / 2 = czI (i + 1) n by rw [← HX.out]; unfold cz; rw [if_pos ho])
          clear ho
          go_wp2_with fail
          go_round
          case rel => exact ⟨i + 1, x / 2, by omega, by go_num, by go_num, HZ, hb0⟩
          case measure => simp [intOf]; omega
        · have p1 : (((x % 2 : Nat) : Int) == 0) = false := t_ne (by omega)
          have HZ := Lib.hid (show 3 * x + 1 = czI (i + 1) n by rw [← HX.out]; unfold cz; rw [if_neg ho, Nat.mul_comm])
          clear ho
          go_wp2_with fail
          go_round
          case rel => exact ⟨i + 1, 3 * x + 1, by omega, by go_num, by go_num, HZ, hb0⟩
          case measure => simp [intOf]; omega
      · obtain rfl : i = K := by omega
        have hlo := HH.out.1
        rw [← hx.out] at hlo
        have hls : decide ((1 : Int) < x) = false := decide_eq_false (by omega)
        clear hx
        have HL0 := Lib.hid (line_ok i (show i < 18446744073709551616 by omega))
        generalize digs i ++ [10] = want at *
        have HB0 := Lib.hid hb0
        clear hb0
        go_wp2_with fail
        refine (asked_ok [n] (by simp) _ _ _ (nums_one _ n hn _ _)).mono ?_
        rintro e w1 ⟨a1, c1, rfl, hy1, hb1⟩
        have HL := HL0.out w1
        have HY1 := Lib.hid (And.intro hy1 (below2 (HB0.out.alloc HB0.out.size _) hb1))
        clear hy1 hb1
        go_wp2_with fail
        refine HL.mono ?_
        rintro e w2 ⟨a2, c2, rfl, hy2, hb2⟩
        have TT := HT.out w2 (some a1) (some a2) c1 c2 (HY1.out.1.below hb2) hy2 (fun e => by cases e)
        have HY2 := Lib.hid (below2 HY1.out.2 hb2)
        clear hy2 hb2 HL
        go_wp2_with fail
        refine TT.mono ?_
        rintro e w3 ⟨rfl, hb3⟩
        have HY3 := Lib.hid (below2 HY2.out hb3)
        clear TT hb3
        go_wp2_with fail
        exact bodyPost_ret (v := .bool true) (by simp [results, Tryz.results8, go_sem]) rfl ⟨rfl, HY3.out⟩
  · have g1 : decide ((100000 : Int) < n) = true := decide_eq_true (by omega)
    clear hP
    go_enter Tryz.func8, Tryz.ntmps8
    go_wp2_with fail
    exact bodyPost_ret (v := .bool true) (by simp [results, Tryz.results8, go_sem]) rfl ⟨rfl, Below.refl _ _⟩
end Go.Proofs.YtgmmfjmdpbhjnaaGreat
