/-
  ShelfAckermann: the law's function.
-/
import Derived.Test.YtgmmfjmdpbhjnaaGreatJRd
import Derived.Test.YtgmmfjmdpbhjnaaGreatLNuV
namespace Go.Proofs.YtgmmfjmdpbhjnaaGreat
open Go Go.RowKit

theorem ackG_0 (n : Nat) (hn : n < 1000000) (w : World) : Calls Tryz.prog 24 #[.int .u64 0, .int .u64 (n : Nat)] w fun e w' => e = .returned (.int .u64 ((n + 1 : Nat) : Int)) ∧ w = w' := by
  go_enter Tryz.func24, Tryz.ntmps24
  go_wp2_with fail
  go_ret
  exact ⟨by push_cast; rfl, rfl⟩
theorem ackG_1 : ∀ (n : Nat), n < 1000 → ∀ (w : World), Calls Tryz.prog 24 #[.int .u64 1, .int .u64 (n : Nat)] w fun e w' => e = .returned (.int .u64 ((n + 2 : Nat) : Int)) ∧ w = w'
  | 0, _, w => by
    have H := ackG_0 1 (by omega) w
    go_enter Tryz.func24, Tryz.ntmps24
    go_wp2_with fail
    refine H.mono ?_
    rintro e w' ⟨rfl, rfl⟩
    go_wp2_with fail
    go_ret
    exact ⟨rfl, rfl⟩
  | n + 1, hn, w => by
    have H := ackG_1 n (by omega) w
    have H2 := ackG_0 (n + 2) (by omega) w
    obtain ⟨m, hm⟩ : ∃ m, m = n + 1 := ⟨_, rfl⟩
    have e1 : ((m : Int) - 1) = (n : Int) := by omega
    have hm1 : 1 ≤ m := by omega
    have q1 : ((m : Int) == 0) = false := t_ne (by omega)
    have w1 : IntKind.u64.wrap ((m : Int) - 1) = (n : Int) := by rw [e1]; exact wr_fit n (by omega)
    have HM := Lib.hid hm
    rw [← hm]
    clear hm
    go_enter Tryz.func24, Tryz.ntmps24
    go_wp2_with fail
    refine H.mono ?_
    rintro e w' ⟨rfl, rfl⟩
    go_wp2_with fail
    refine H2.mono ?_
    rintro e w' ⟨rfl, rfl⟩
    go_wp2_with fail
    go_ret
    exact ⟨by have := HM.out; show Ending.returned (.int .u64 _) = .returned (.int .u64 _); congr 2; push_cast; omega, rfl⟩
theorem ackG_2 : ∀ (n : Nat), n < 100 → ∀ (w : World), Calls Tryz.prog 24 #[.int .u64 2, .int .u64 (n : Nat)] w fun e w' => e = .returned (.int .u64 ((2 * n + 3 : Nat) : Int)) ∧ w = w'
  | 0, _, w => by
    have H := ackG_1 1 (by omega) w
    go_enter Tryz.func24, Tryz.ntmps24
    go_wp2_with fail
    refine H.mono ?_
    rintro e w' ⟨rfl, rfl⟩
    go_wp2_with fail
    go_ret
    exact ⟨rfl, rfl⟩
  | n + 1, hn, w => by
    have H := ackG_2 n (by omega) w
    have H2 := ackG_1 (2 * n + 3) (by omega) w
    obtain ⟨m, hm⟩ : ∃ m, m = n + 1 := ⟨_, rfl⟩
    have e1 : ((m : Int) - 1) = (n : Int) := by omega
    have hm1 : 1 ≤ m := by omega
    have q1 : ((m : Int) == 0) = false := t_ne (by omega)
    have w1 : IntKind.u64.wrap ((m : Int) - 1) = (n : Int) := by rw [e1]; exact wr_fit n (by omega)
    have HM := Lib.hid hm
    rw [← hm]
    clear hm
    generalize hz : 2 * n + 3 = z at *
    have HZ := Lib.hid hz
    clear hz
    go_enter Tryz.func24, Tryz.ntmps24
    go_wp2_with fail
    refine H.mono ?_
    rintro e w' ⟨rfl, rfl⟩
    go_wp2_with fail
    refine H2.mono ?_
    rintro e w' ⟨rfl, rfl⟩
    go_wp2_with fail
    go_ret
    exact ⟨by have := HM.out; have := HZ.out; show Ending.returned (.int .u64 _) = .returned (.int .u64 _); congr 2; push_cast; omega, rfl⟩

set_option maxHeartbeats 4000000 in
set_option maxRecDepth 100000 in
theorem shelfAckermann_ok (w : World) (m n : Nat) (hm : m < 18446744073709551616) (hn : n < 18446744073709551616) {rdy : Rdy} (hP : Played 1796498106324225191534 9 rdy) (hR : rdy = ⟨3, ackBd, [List.replicate 20 0]⟩) :
    Calls Tryz.prog 16 #[.int .u64 (m : Nat), .int .u64 (n : Nat)] w fun e w' => e = .returned (.bool true) ∧ Below w.heap.size w w' := by
  subst hR
  by_cases hM : m ≤ 2
  · by_cases hN : n ≤ 10
    · have T := tellsAsk_of hP (nm := ⟨#[97, 99, 107, 101, 114, 109, 97, 110, 110]⟩) (by kernel_rfl) (ack_means hM hN)
      have g2 : decide ((10 : Int) < n) = false := decide_eq_false (by omega)
      have g2' : decide (10 < n) = false := decide_eq_false (by omega)
      have hb0 := Below.refl w.heap.size w
      have H : ∀ w, Calls Tryz.prog 24 #[.int .u64 (m : Nat), .int .u64 (n : Nat)] w fun e w' => e = .returned (.int .u64 ((ackV m n : Nat) : Int)) ∧ w = w' := by
        have : m = 0 ∨ m = 1 ∨ m = 2 := by omega
        rcases this with rfl | rfl | rfl
        · exact ackG_0 n (by omega)
        · exact ackG_1 n (by omega)
        · exact ackG_2 n (by omega)
      have hz1 : m = 1 → ackV m n = n + 2 := fun h => by subst h; rfl
      have hz2 : m = 2 → ackV m n = 2 * n + 3 := fun h => by subst h; rfl
      have hz := ackV_le (m := m) hN
      have H1 := H w
      have HT := Lib.hid T
      have g1 : decide ((2 : Int) < m) = false := decide_eq_false (by omega)
      have g1' : decide (2 < m) = false := decide_eq_false (by omega)
      clear T hP H
      generalize ackV m n = z at *
      by_cases h1 : m = 1
      · have h1z := hz1 h1
        subst h1 h1z
        have HH := Lib.hid (And.intro hz1 hz2)
        clear hz1 hz2 g1 g1'
        go_enter Tryz.func16, Tryz.ntmps16
        go_wp2_with fail
        refine H1.mono ?_
        rintro e w' ⟨rfl, rfl⟩
        have HL0 := Lib.hid (line_ok (n + 2) (by omega))
        generalize digs (n + 2) ++ [10] = want at *
        have HB0 := Lib.hid hb0
        clear hb0
        go_wp2_with fail
        refine (asked_ok [1, n] (by simp) _ _ _ (nums_two _ 1 n hm hn _ _)).mono ?_
        rintro e w1 ⟨a1, c1, rfl, hy1, hb1⟩
        have HL := HL0.out w1
        have HY1 := Lib.hid (And.intro hy1 (below2 (HB0.out.alloc HB0.out.size _) hb1))
        clear hy1 hb1
        go_wp2_with fail
        refine HL.mono ?_
        rintro e w2 ⟨a2, c2, rfl, hy2, hb2⟩
        have TT := HT.out w2 (some a1) (some a2) c1 c2 (HY1.out.1.below hb2) hy2 (fun e => by cases e)
        have HY2 := Lib.hid (below2 HY1.out.2 hb2)
        clear hy2 hb2 HL
        go_wp2_with fail
        refine TT.mono ?_
        rintro e w3 ⟨rfl, hb3⟩
        have HY3 := Lib.hid (below2 HY2.out hb3)
        clear TT hb3
        go_wp2_with fail
        exact bodyPost_ret (v := .bool true) (by simp [results, Tryz.results16, go_sem]) rfl ⟨rfl, HY3.out⟩
      · by_cases h2 : m = 2
        · have h2z := hz2 h2
          subst h2 h2z
          clear hz1 hz2 g1 g1'
          go_enter Tryz.func16, Tryz.ntmps16
          go_wp2_with fail
          refine H1.mono ?_
          rintro e w' ⟨rfl, rfl⟩
          have HL0 := Lib.hid (line_ok (2 * n + 3) (by omega))
          generalize digs (2 * n + 3) ++ [10] = want at *
          have HB0 := Lib.hid hb0
          clear hb0
          go_wp2_with fail
          refine (asked_ok [2, n] (by simp) _ _ _ (nums_two _ 2 n hm hn _ _)).mono ?_
          rintro e w1 ⟨a1, c1, rfl, hy1, hb1⟩
          have HL := HL0.out w1
          have HY1 := Lib.hid (And.intro hy1 (below2 (HB0.out.alloc HB0.out.size _) hb1))
          clear hy1 hb1
          go_wp2_with fail
          refine HL.mono ?_
          rintro e w2 ⟨a2, c2, rfl, hy2, hb2⟩
          have TT := HT.out w2 (some a1) (some a2) c1 c2 (HY1.out.1.below hb2) hy2 (fun e => by cases e)
          have HY2 := Lib.hid (below2 HY1.out.2 hb2)
          clear hy2 hb2 HL
          go_wp2_with fail
          refine TT.mono ?_
          rintro e w3 ⟨rfl, hb3⟩
          have HY3 := Lib.hid (below2 HY2.out hb3)
          clear TT hb3
          go_wp2_with fail
          exact bodyPost_ret (v := .bool true) (by simp [results, Tryz.results16, go_sem]) rfl ⟨rfl, HY3.out⟩
        · obtain rfl : m = 0 := by omega
          clear hz1 hz2 g1 g1' h1 h2
          go_enter Tryz.func16, Tryz.ntmps16
          go_wp2_with fail
          refine H1.mono ?_
          rintro e w' ⟨rfl, rfl⟩
          have HL0 := Lib.hid (line_ok (z) (by omega))
          generalize digs z ++ [10] = want at *
          have HB0 := Lib.hid hb0
          clear hb0
          go_wp2_with fail
          refine (asked_ok [0, n] (by simp) _ _ _ (nums_two _ 0 n hm hn _ _)).mono ?_
          rintro e w1 ⟨a1, c1, rfl, hy1, hb1⟩
          have HL := HL0.out w1
          have HY1 := Lib.hid (And.intro hy1 (below2 (HB0.out.alloc HB0.out.size _) hb1))
          clear hy1 hb1
          go_wp2_with fail
          refine HL.mono ?_
          rintro e w2 ⟨a2, c2, rfl, hy2, hb2⟩
          have TT := HT.out w2 (some a1) (some a2) c1 c2 (HY1.out.1.below hb2) hy2 (fun e => by cases e)
          have HY2 := Lib.hid (below2 HY1.out.2 hb2)
          clear hy2 hb2 HL
          go_wp2_with fail
          refine TT.mono ?_
          rintro e w3 ⟨rfl, hb3⟩
          have HY3 := Lib.hid (below2 HY2.out hb3)
          clear TT hb3
          go_wp2_with fail
          exact bodyPost_ret (v := .bool true) (by simp [results, Tryz.results16, go_sem]) rfl ⟨rfl, HY3.out⟩
    · have g2 : decide ((10 : Int) < n) = true := decide_eq_true (by omega)
      have g2' : decide (10 < n) = true := decide_eq_true (by omega)
      have g1 : decide ((2 : Int) < m) = false := decide_eq_false (by omega)
      have g1' : decide (2 < m) = false := decide_eq_false (by omega)
      clear hP
      go_enter Tryz.func16, Tryz.ntmps16
      go_wp2_with fail
      exact bodyPost_ret (v := .bool true) (by simp [results, Tryz.results16, go_sem]) rfl ⟨rfl, Below.refl _ _⟩
  · have g1 : decide ((2 : Int) < m) = true := decide_eq_true (by omega)
    have g1' : decide (2 < m) = true := decide_eq_true (by omega)
    clear hP
    go_enter Tryz.func16, Tryz.ntmps16
    go_wp2_with fail
    exact bodyPost_ret (v := .bool true) (by simp [results, Tryz.results16, go_sem]) rfl ⟨rfl, Below.refl _ _⟩
end Go.Proofs.YtgmmfjmdpbhjnaaGreat
