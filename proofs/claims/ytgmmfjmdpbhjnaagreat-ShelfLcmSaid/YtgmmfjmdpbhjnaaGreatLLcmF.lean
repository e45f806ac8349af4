/-
  ShelfLcm: the law's function.
-/
import Derived.Test.YtgmmfjmdpbhjnaaGreatJRd
import Derived.Test.YtgmmfjmdpbhjnaaGreatLNuS
namespace Go.Proofs.YtgmmfjmdpbhjnaaGreat
open Go Go.RowKit

theorem lcN_dvd {a b : Nat} (h0 : Nat.gcd a b ≠ 0) : a ∣ a / Nat.gcd a b * b ∧ b ∣ a / Nat.gcd a b * b ∧ ∀ k, a ∣ k → b ∣ k → a / Nat.gcd a b * b ∣ k := by
  have e : a / Nat.gcd a b * b = Nat.lcm a b := by
    unfold Nat.lcm
    obtain ⟨c, hc⟩ := Nat.gcd_dvd_left a b
    have hp : 0 < Nat.gcd a b := Nat.pos_of_ne_zero h0
    generalize Nat.gcd a b = g at *
    rw [hc, Nat.mul_div_cancel_left c hp, Nat.mul_assoc, Nat.mul_div_cancel_left _ hp]
  rw [e]
  exact ⟨Nat.dvd_lcm_left a b, Nat.dvd_lcm_right a b, fun k h1 h2 => Nat.lcm_dvd h1 h2⟩
theorem di_nat (x y : Nat) : (x : Int) / y = ((x / y : Nat) : Int) := by push_cast; rfl

set_option maxHeartbeats 4000000 in
set_option maxRecDepth 100000 in
theorem shelfLcm_ok (w : World) (a b k : Nat) (ha : a < 18446744073709551616) (hb : b < 18446744073709551616) (_ : k < 18446744073709551616) {rdy : Rdy} (hP : Played 7103341 3 rdy) (hR : rdy = ⟨2, lcmBd, [List.replicate 20 0]⟩) :
    Calls Tryz.prog 14 #[.int .u64 (a : Nat), .int .u64 (b : Nat), .int .u64 (k : Nat)] w fun e w' => e = .returned (.bool true) ∧ Below w.heap.size w w' := by
  subst hR
  by_cases hA : a < 4294967296
  · have g1 : decide ((4294967296 : Int) ≤ a) = false := decide_eq_false (by omega)
    have g1' : decide (4294967296 ≤ a) = false := decide_eq_false (by omega)
    by_cases hB : b < 4294967296
    · have g2 : decide ((4294967296 : Int) ≤ b) = false := decide_eq_false (by omega)
      have g2' : decide (4294967296 ≤ b) = false := decide_eq_false (by omega)
      have T := tellsAsk_of hP (nm := ⟨#[108, 99, 109]⟩) (by kernel_rfl) (lcm_means hA hB)
      have HT := Lib.hid T
      have HG := Lib.hid (gcd_64 ha hb)
      have HL := Lib.hid (lcN_lt hA hB)
      clear T hP
      go_enter Tryz.func14, Tryz.ntmps14
      go_wp2_with fail
      go_loopw [7, 8] (fun vx vy wr => ∃ x y : Nat, vx = .int .u64 (x : Nat) ∧ vy = .int .u64 (y : Nat) ∧ x < 18446744073709551616 ∧ y < 18446744073709551616 ∧ Hid (Nat.gcd x y = Nat.gcd a b) ∧ Below w.heap.size w wr) (fun _ vy _ => (intOf vy).toNat)
      case atStart => exact ⟨a, b, rfl, rfl, ha, hb, Lib.hid rfl, Below.refl _ _⟩
      case round =>
        obtain ⟨x, y, rfl, rfl, hx, hy, hgc, hb0⟩ := hrel
        by_cases h0 : y = 0
        · have n1 : ((y : Int) != 0) = false := by rw [h0]; rfl
          have hxg : x = Nat.gcd a b := by rw [← hgc.out, h0, Nat.gcd_zero_right]
          have hLL := HL.out
          have hlc : lcN a b = if Nat.gcd a b = 0 then 0 else a / Nat.gcd a b * b := rfl
          by_cases hg0 : Nat.gcd a b = 0
          · rw [if_pos hg0] at hlc
            rw [hlc] at HT
            have q1 : ((x : Int) != 0) = false := by rw [hxg, hg0]; rfl
            clear hlc hg0 hxg hgc HL hLL HG h0
            have HL0 := Lib.hid (line_ok (0) (by decide))
            generalize digs 0 ++ [10] = want at *
            have HB0 := Lib.hid hb0
            clear hb0
            go_wp2_with fail
            refine (asked_ok [a, b] (by simp) _ _ _ (nums_two _ a b ha hb _ _)).mono ?_
            rintro e w1 ⟨a1, c1, rfl, hy1, hb1⟩
            have HL := HL0.out w1
            have HY1 := Lib.hid (And.intro hy1 (below2 (HB0.out.alloc HB0.out.size _) hb1))
            clear hy1 hb1
            go_wp2_with fail
            refine HL.mono ?_
            rintro e w2 ⟨a2, c2, rfl, hy2, hb2⟩
            have TT := HT.out w2 (some a1) (some a2) c1 c2 (HY1.out.1.below hb2) hy2 (fun e => by cases e)
            have HY2 := Lib.hid (below2 HY1.out.2 hb2)
            clear hy2 hb2 HL
            go_wp2_with fail
            refine TT.mono ?_
            rintro e w3 ⟨rfl, hb3⟩
            have HY3 := Lib.hid (below2 HY2.out hb3)
            clear TT hb3
            go_wp2_with fail
            exact bodyPost_ret (v := .bool true) (by simp [results, Tryz.results14, go_sem]) rfl ⟨rfl, HY3.out⟩
          · rw [if_neg hg0] at hlc
            obtain ⟨d1, d2, d3⟩ := lcN_dvd hg0
            rw [hlc] at HT
            have hx0 : x ≠ 0 := by rw [hxg]; exact hg0
            rw [← hxg] at HT hLL d1 d2 d3
            obtain ⟨q, hq⟩ : ∃ q, q = a / x := ⟨_, rfl⟩
            obtain ⟨m, hm⟩ : ∃ m, m = q * b := ⟨_, rfl⟩
            rw [← hq, ← hm] at HT hLL d1 d2 d3
            have q1 : ((x : Int) != 0) = true := by simp; omega
            have w1 := wr_fit q (Nat.lt_of_le_of_lt (by rw [hq]; exact Nat.div_le_self _ _) ha)
            have e0 : (a : Int) / x = (q : Int) := by rw [hq]; exact di_nat a x
            have w2 := wr_mfit q b m hm.symm hLL
            have e1 := tm_nat m a
            have e2 := tm_nat m b
            have e3 := tm_nat k a
            have e4 := tm_nat k b
            have e5 := tm_nat k m
            rw [Nat.mod_eq_zero_of_dvd d1] at e1
            rw [Nat.mod_eq_zero_of_dvd d2] at e2
            by_cases hm0 : m = 0
            · have p1 : ((m : Int) != 0) = false := by rw [hm0]; rfl
              clear hm0 hm hq d1 d2 d3 hlc hg0 hxg hgc HL HG h0
              have HL0 := Lib.hid (line_ok (m) hLL)
              generalize digs m ++ [10] = want at *
              have HB0 := Lib.hid hb0
              clear hb0
              go_wp2_with fail
              refine (asked_ok [a, b] (by simp) _ _ _ (nums_two _ a b ha hb _ _)).mono ?_
              rintro e w1 ⟨a1, c1, rfl, hy1, hb1⟩
              have HL := HL0.out w1
              have HY1 := Lib.hid (And.intro hy1 (below2 (HB0.out.alloc HB0.out.size _) hb1))
              clear hy1 hb1
              go_wp2_with fail
              refine HL.mono ?_
              rintro e w2 ⟨a2, c2, rfl, hy2, hb2⟩
              have TT := HT.out w2 (some a1) (some a2) c1 c2 (HY1.out.1.below hb2) hy2 (fun e => by cases e)
              have HY2 := Lib.hid (below2 HY1.out.2 hb2)
              clear hy2 hb2 HL
              go_wp2_with fail
              refine TT.mono ?_
              rintro e w3 ⟨rfl, hb3⟩
              have HY3 := Lib.hid (below2 HY2.out hb3)
              clear TT hb3
              go_wp2_with fail
              exact bodyPost_ret (v := .bool true) (by simp [results, Tryz.results14, go_sem]) rfl ⟨rfl, HY3.out⟩
            · have p1 : ((m : Int) != 0) = true := by simp; omega
              have ha0 : a ≠ 0 := fun h => hm0 (Nat.eq_zero_of_zero_dvd (by rw [← h]; exact d1))
              have hb1 : b ≠ 0 := fun h => hm0 (Nat.eq_zero_of_zero_dvd (by rw [← h]; exact d2))
              by_cases hka : k % a = 0
              · rw [hka] at e3
                by_cases hkb : k % b = 0
                · rw [hkb] at e4
                  rw [Nat.mod_eq_zero_of_dvd (d3 k (Nat.dvd_of_mod_eq_zero hka) (Nat.dvd_of_mod_eq_zero hkb))] at e5
                  clear hm hq d1 d2 d3 hlc hg0 hxg hgc HL HG h0 hka hkb
                  have HL0 := Lib.hid (line_ok (m) hLL)
                  generalize digs m ++ [10] = want at *
                  have HB0 := Lib.hid hb0
                  clear hb0
                  go_wp2_with fail
                  refine (asked_ok [a, b] (by simp) _ _ _ (nums_two _ a b ha hb _ _)).mono ?_
                  rintro e w1 ⟨a1, c1, rfl, hy1, hb1⟩
                  have HL := HL0.out w1
                  have HY1 := Lib.hid (And.intro hy1 (below2 (HB0.out.alloc HB0.out.size _) hb1))
                  clear hy1 hb1
                  go_wp2_with fail
                  refine HL.mono ?_
                  rintro e w2 ⟨a2, c2, rfl, hy2, hb2⟩
                  have TT := HT.out w2 (some a1) (some a2) c1 c2 (HY1.out.1.below hb2) hy2 (fun e => by cases e)
                  have HY2 := Lib.hid (below2 HY1.out.2 hb2)
                  clear hy2 hb2 HL
                  go_wp2_with fail
                  refine TT.mono ?_
                  rintro e w3 ⟨rfl, hb3⟩
                  have HY3 := Lib.hid (below2 HY2.out hb3)
                  clear TT hb3
                  go_wp2_with fail
                  exact bodyPost_ret (v := .bool true) (by simp [results, Tryz.results14, go_sem]) rfl ⟨rfl, HY3.out⟩
                · have p4 : (((k % b : Nat) : Int) == 0) = false := t_ne (by omega)
                  clear hm hq d1 d2 d3 hlc hg0 hxg hgc HL HG h0 hka hkb
                  have HL0 := Lib.hid (line_ok (m) hLL)
                  generalize digs m ++ [10] = want at *
                  have HB0 := Lib.hid hb0
                  clear hb0
                  go_wp2_with fail
                  refine (asked_ok [a, b] (by simp) _ _ _ (nums_two _ a b ha hb _ _)).mono ?_
                  rintro e w1 ⟨a1, c1, rfl, hy1, hb1⟩
                  have HL := HL0.out w1
                  have HY1 := Lib.hid (And.intro hy1 (below2 (HB0.out.alloc HB0.out.size _) hb1))
                  clear hy1 hb1
                  go_wp2_with fail
                  refine HL.mono ?_
                  rintro e w2 ⟨a2, c2, rfl, hy2, hb2⟩
                  have TT := HT.out w2 (some a1) (some a2) c1 c2 (HY1.out.1.below hb2) hy2 (fun e => by cases e)
                  have HY2 := Lib.hid (below2 HY1.out.2 hb2)
                  clear hy2 hb2 HL
                  go_wp2_with fail
                  refine TT.mono ?_
                  rintro e w3 ⟨rfl, hb3⟩
                  have HY3 := Lib.hid (below2 HY2.out hb3)
                  clear TT hb3
                  go_wp2_with fail
                  exact bodyPost_ret (v := .bool true) (by simp [results, Tryz.results14, go_sem]) rfl ⟨rfl, HY3.out⟩
              · have p3 : (((k % a : Nat) : Int) == 0) = false := t_ne (by omega)
                have p3' : ((k : Int) % a = 0) = False := eq_false (fun h => hka (by have e : (k : Int) % a = ((k % a : Nat) : Int) := rfl; rw [e] at h; omega))
                clear hm hq d1 d2 d3 hlc hg0 hxg hgc HL HG h0 hka
                have HL0 := Lib.hid (line_ok (m) hLL)
                generalize digs m ++ [10] = want at *
                have HB0 := Lib.hid hb0
                clear hb0
                go_wp2_with fail
                refine (asked_ok [a, b] (by simp) _ _ _ (nums_two _ a b ha hb _ _)).mono ?_
                rintro e w1 ⟨a1, c1, rfl, hy1, hb1⟩
                have HL := HL0.out w1
                have HY1 := Lib.hid (And.intro hy1 (below2 (HB0.out.alloc HB0.out.size _) hb1))
                clear hy1 hb1
                go_wp2_with fail
                refine HL.mono ?_
                rintro e w2 ⟨a2, c2, rfl, hy2, hb2⟩
                have TT := HT.out w2 (some a1) (some a2) c1 c2 (HY1.out.1.below hb2) hy2 (fun e => by cases e)
                have HY2 := Lib.hid (below2 HY1.out.2 hb2)
                clear hy2 hb2 HL
                go_wp2_with fail
                refine TT.mono ?_
                rintro e w3 ⟨rfl, hb3⟩
                have HY3 := Lib.hid (below2 HY2.out hb3)
                clear TT hb3
                go_wp2_with fail
                exact bodyPost_ret (v := .bool true) (by simp [results, Tryz.results14, go_sem]) rfl ⟨rfl, HY3.out⟩
        · have n1 : ((y : Int) != 0) = true := by simp; omega
          have e1 := tm_nat x y
          have hlt : x % y < y := Nat.mod_lt _ (by omega)
          obtain ⟨z, hz⟩ : ∃ z, z = x % y := ⟨_, rfl⟩
          have HZ := Lib.hid (show Nat.gcd y z = Nat.gcd a b by rw [hz, gcd_step]; exact hgc.out)
          rw [← hz] at e1 hlt
          clear hz hgc
          go_wp2_with fail
          go_quiet (fail)
          go_wp2_with fail
          go_round
          case rel => exact ⟨y, z, rfl, rfl, hy, by omega, HZ, below2 hb0 ⟨rfl, rfl, rfl, Nat.le_refl _, fun _ _ => rfl⟩⟩
          case measure => simp [intOf]; omega
    · have g2 : decide ((4294967296 : Int) ≤ b) = true := decide_eq_true (by omega)
      have g2' : decide (4294967296 ≤ b) = true := decide_eq_true (by omega)
      clear hP
      go_enter Tryz.func14, Tryz.ntmps14
      go_wp2_with fail
      exact bodyPost_ret (v := .bool true) (by simp [results, Tryz.results14, go_sem]) rfl ⟨rfl, Below.refl _ _⟩
  · have g1 : decide ((4294967296 : Int) ≤ a) = true := decide_eq_true (by omega)
    have g1' : decide (4294967296 ≤ a) = true := decide_eq_true (by omega)
    clear hP
    go_enter Tryz.func14, Tryz.ntmps14
    go_wp2_with fail
    exact bodyPost_ret (v := .bool true) (by simp [results, Tryz.results14, go_sem]) rfl ⟨rfl, Below.refl _ _⟩
end Go.Proofs.YtgmmfjmdpbhjnaaGreat
