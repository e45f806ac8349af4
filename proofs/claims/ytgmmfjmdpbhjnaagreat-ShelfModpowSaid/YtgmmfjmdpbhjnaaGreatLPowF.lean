/-
  ShelfPower: the law's function.
-/
import Derived.Test.YtgmmfjmdpbhjnaaGreatJRd
import Derived.Test.YtgmmfjmdpbhjnaaGreatLNuQ
namespace Go.Proofs.YtgmmfjmdpbhjnaaGreat
open Go Go.RowKit

theorem pw_next (a b j : Nat) : (a ^ (b / 2 ^ (j + 1)) % 18446744073709551616) * (a ^ (b / 2 ^ (j + 1)) % 18446744073709551616) % 18446744073709551616 = a ^ (2 * (b / 2 ^ (j + 1))) % 18446744073709551616 := by
  rw [← Nat.mul_mod, ← Nat.pow_add, ← Nat.two_mul]
theorem half_next (b j : Nat) : b / 2 ^ j = 2 * (b / 2 ^ (j + 1)) + b / 2 ^ j % 2 := by
  rw [Nat.pow_succ, ← Nat.div_div_eq_div_mul]
  omega

set_option maxHeartbeats 4000000 in
set_option maxRecDepth 100000 in
theorem shelfPower_ok (w : World) (a b : Nat) (ha : a < 18446744073709551616) (hb : b < 18446744073709551616) {rdy : Rdy} (hP : Played 482906432882 5 rdy) (hR : rdy = ⟨2, powBd, [List.replicate 20 0]⟩) :
    Calls Tryz.prog 5 #[.int .u64 (a : Nat), .int .u64 (b : Nat)] w fun e w' => e = .returned (.bool true) ∧ Below w.heap.size w w' := by
  subst hR
  have T := tellsAsk_of hP (nm := ⟨#[112, 111, 119, 101, 114]⟩) (by kernel_rfl) (pow_means ha hb)
  have HT := Lib.hid T
  clear T hP
  by_cases h1 : b ≤ 1000
  · have g1 : decide ((b : Int) ≤ 1000) = true := decide_eq_true (by omega)
    go_enter Tryz.func5, Tryz.ntmps5
    go_wp2_with fail
    go_loopw [5, 6] (fun va vk wr => ∃ k : Nat, k ≤ b ∧ va = .int .u64 ((a ^ k % 18446744073709551616 : Nat) : Int) ∧ vk = .int .u64 (k : Nat) ∧ Below w.heap.size w wr) (fun _ vk _ => b - (intOf vk).toNat)
    case atStart => exact ⟨0, Nat.zero_le _, by rw [Nat.pow_zero]; rfl, rfl, Below.refl _ _⟩
    case round =>
      obtain ⟨k, hk, rfl, rfl, hb0⟩ := hrel
      have hx := Nat.mod_lt (a ^ k) (show 18446744073709551616 > 0 by decide)
      by_cases hlt : k < b
      · have hls : decide ((k : Int) < b) = true := decide_eq_true (by omega)
        have HS := Lib.hid (show a ^ (k + 1) % 18446744073709551616 = a ^ k % 18446744073709551616 * a % 18446744073709551616 by rw [Nat.pow_succ, Nat.mul_mod (a ^ k), Nat.mod_eq_of_lt ha])
        generalize a ^ k % 18446744073709551616 = x at *
        have w1 := wr_mul x a
        go_wp2_with fail
        go_round
        case rel => exact ⟨k + 1, by omega, by rw [HS.out]; simp, by go_num, hb0⟩
        case measure => simp [intOf]; omega
      · obtain rfl : k = b := by omega
        have hls : decide ((k : Int) < k) = false := decide_eq_false (by omega)
        generalize a ^ k % 18446744073709551616 = x at *
        have HL0 := Lib.hid (line_ok x hx)
        generalize digs x ++ [10] = want at *
        have HB0 := Lib.hid hb0
        clear hb0
        go_wp2_with fail
        refine (asked_ok [a, k] (by simp) _ _ _ (nums_two _ a k ha hb _ _)).mono ?_
        rintro e w1 ⟨a1, c1, rfl, hy1, hb1⟩
        have HL := HL0.out w1
        have HY1 := Lib.hid (And.intro hy1 (below2 (HB0.out.alloc HB0.out.size _) hb1))
        clear hy1 hb1
        go_wp2_with fail
        refine HL.mono ?_
        rintro e w2 ⟨a2, c2, rfl, hy2, hb2⟩
        have TT := HT.out w2 (some a1) (some a2) c1 c2 (HY1.out.1.below hb2) hy2 (fun e => by cases e)
        have HY2 := Lib.hid (below2 HY1.out.2 hb2)
        clear hy2 hb2 HL
        go_wp2_with fail
        refine TT.mono ?_
        rintro e w3 ⟨rfl, hb3⟩
        have HY3 := Lib.hid (below2 HY2.out hb3)
        clear TT hb3
        go_wp2_with fail
        exact bodyPost_ret (v := .bool true) (by simp [results, Tryz.results5, go_sem]) rfl ⟨rfl, HY3.out⟩
  · have g1 : decide ((b : Int) ≤ 1000) = false := decide_eq_false (by omega)
    go_enter Tryz.func5, Tryz.ntmps5
    go_wp2_with fail
    go_loopw [5, 7] (fun va vk wr => ∃ j : Nat, j ≤ 64 ∧ va = .int .u64 ((a ^ (b / 2 ^ j) % 18446744073709551616 : Nat) : Int) ∧ vk = .int .i64 ((j : Int) - 1) ∧ Below w.heap.size w wr) (fun _ vk _ => (intOf vk + 1).toNat)
    case atStart => exact ⟨64, Nat.le_refl _, by rw [Nat.div_eq_of_lt hb, Nat.pow_zero]; rfl, rfl, Below.refl _ _⟩
    case round =>
      obtain ⟨j, hj, rfl, rfl, hb0⟩ := hrel
      cases j with
      | zero =>
        have hx := Nat.mod_lt (a ^ b) (show 18446744073709551616 > 0 by decide)
        rw [Nat.pow_zero, Nat.div_one]
        generalize a ^ b % 18446744073709551616 = x at *
        have hls : decide ((0 : Int) ≤ ((0 : Nat) : Int) - 1) = false := rfl
        have HL0 := Lib.hid (line_ok x hx)
        generalize digs x ++ [10] = want at *
        have HB0 := Lib.hid hb0
        clear hb0
        go_wp2_with fail
        refine (asked_ok [a, b] (by simp) _ _ _ (nums_two _ a b ha hb _ _)).mono ?_
        rintro e w1 ⟨a1, c1, rfl, hy1, hb1⟩
        have HL := HL0.out w1
        have HY1 := Lib.hid (And.intro hy1 (below2 (HB0.out.alloc HB0.out.size _) hb1))
        clear hy1 hb1
        go_wp2_with fail
        refine HL.mono ?_
        rintro e w2 ⟨a2, c2, rfl, hy2, hb2⟩
        have TT := HT.out w2 (some a1) (some a2) c1 c2 (HY1.out.1.below hb2) hy2 (fun e => by cases e)
        have HY2 := Lib.hid (below2 HY1.out.2 hb2)
        clear hy2 hb2 HL
        go_wp2_with fail
        refine TT.mono ?_
        rintro e w3 ⟨rfl, hb3⟩
        have HY3 := Lib.hid (below2 HY2.out hb3)
        clear TT hb3
        go_wp2_with fail
        exact bodyPost_ret (v := .bool true) (by simp [results, Tryz.results5, go_sem]) rfl ⟨rfl, HY3.out⟩
      | succ j =>
        have ej : ((j + 1 : Nat) : Int) - 1 = (j : Int) := by omega
        rw [ej]
        have hls : decide ((0 : Int) ≤ (j : Int)) = true := decide_eq_true (by omega)
        obtain ⟨q, hq⟩ : ∃ q, q = b / 2 ^ j := ⟨_, rfl⟩
        have e1 : (b : Int) / 2 ^ j = (q : Int) := by rw [hq]; push_cast; rfl
        have hqb : q ≤ b := by rw [hq]; exact Nat.div_le_self _ _
        have e2 : bits .and .u64 (q : Int) 1 = ((q % 2 : Nat) : Int) := by
          have := u64_and_nat q 1 (by omega) (by omega)
          rw [Nat.and_one_is_mod] at this
          exact this
        have HN := pw_next a b j
        have HH := half_next b j
        rw [← hq] at HH
        have hx := Nat.mod_lt (a ^ (b / 2 ^ (j + 1))) (show 18446744073709551616 > 0 by decide)
        have hy := Nat.mod_lt (a ^ (b / 2 ^ (j + 1)) % 18446744073709551616 * (a ^ (b / 2 ^ (j + 1)) % 18446744073709551616)) (show 18446744073709551616 > 0 by decide)
        generalize a ^ (b / 2 ^ (j + 1)) % 18446744073709551616 = x at *
        have w1 := wr_mul x x
        obtain ⟨y, hy2⟩ : ∃ y, y = x * x % 18446744073709551616 := ⟨_, rfl⟩
        rw [← hy2] at w1 HN hy
        by_cases hb1 : q % 2 = 1
        · have q1 : (((q % 2 : Nat) : Int) == 1) = true := by rw [hb1]; rfl
          have w2 := wr_mul y a
          have HR := Lib.hid (show a ^ (b / 2 ^ j) % 18446744073709551616 = y * a % 18446744073709551616 by
            rw [← hq, HH, hb1, Nat.pow_succ, HN, Nat.mul_mod (a ^ (2 * _)), Nat.mod_eq_of_lt ha])
          clear HN HH hy2 hq hb1
          go_wp2_with fail
          go_round
          case rel => exact ⟨j, by omega, by rw [HR.out]; simp, rfl, hb0⟩
          case measure => simp [intOf]
        · have q1 : (((q % 2 : Nat) : Int) == 1) = false := t_ne (by omega)
          have HR := Lib.hid (show a ^ (b / 2 ^ j) % 18446744073709551616 = y by
            rw [← hq, HH, show q % 2 = 0 by omega, Nat.add_zero, HN])
          clear HN HH hy2 hq hb1
          go_wp2_with fail
          go_round
          case rel => exact ⟨j, by omega, by rw [HR.out], rfl, hb0⟩
          case measure => simp [intOf]
end Go.Proofs.YtgmmfjmdpbhjnaaGreat
