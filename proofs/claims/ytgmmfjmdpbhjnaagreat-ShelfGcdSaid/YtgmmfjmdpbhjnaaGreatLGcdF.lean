/-
  ShelfGcd: the law's function.
-/
import Derived.Test.YtgmmfjmdpbhjnaaGreatJRd
import Derived.Test.YtgmmfjmdpbhjnaaGreatJPc
namespace Go.Proofs.YtgmmfjmdpbhjnaaGreat
open Go Go.RowKit


set_option maxHeartbeats 4000000 in
set_option maxRecDepth 100000 in
theorem shelfGcd_ok (w : World) (a b d : Nat) (ha : a < 18446744073709551616) (hb : b < 18446744073709551616) (_ : d < 18446744073709551616) {rdy : Rdy} (hP : Played 6775652 3 rdy) (hR : rdy = ⟨2, gcdBd, [List.replicate 20 0]⟩) :
    Calls Tryz.prog 4 #[.int .u64 (a : Nat), .int .u64 (b : Nat), .int .u64 (d : Nat)] w fun e w' => e = .returned (.bool true) ∧ Below w.heap.size w w' := by
  subst hR
  have T := tellsAsk_of hP (nm := ⟨#[103, 99, 100]⟩) (by kernel_rfl) (gcd_means ha hb)
  have HT := Lib.hid T
  have HG := Lib.hid (gcd_64 ha hb)
  clear T hP
  go_enter Tryz.func4, Tryz.ntmps4
  go_wp2_with fail
  go_loopw [7, 8] (fun vx vy wr => ∃ x y : Nat, vx = .int .u64 (x : Nat) ∧ vy = .int .u64 (y : Nat) ∧ x < 18446744073709551616 ∧ y < 18446744073709551616 ∧ Hid (Nat.gcd x y = Nat.gcd a b) ∧ Below w.heap.size w wr) (fun _ vy _ => (intOf vy).toNat)
  case atStart => exact ⟨a, b, rfl, rfl, ha, hb, Lib.hid rfl, Below.refl _ _⟩
  case round =>
    obtain ⟨x, y, rfl, rfl, hx, hy, hgc, hb0⟩ := hrel
    by_cases h0 : y = 0
    · have n1 : ((y : Int) != 0) = false := by rw [h0]; rfl
      obtain ⟨g, hg⟩ : ∃ g, g = Nat.gcd a b := ⟨_, rfl⟩
      have hxg : x = g := by rw [hg, ← hgc.out, h0, Nat.gcd_zero_right]
      rw [← hg] at HT HG
      have hda : g ∣ a := by rw [hg]; exact Nat.gcd_dvd_left a b
      have hdb : g ∣ b := by rw [hg]; exact Nat.gcd_dvd_right a b
      have hdd : a % d = 0 → b % d = 0 → g % d = 0 := fun h1 h2 => by
        rw [hg]
        exact Nat.mod_eq_zero_of_dvd (Nat.dvd_gcd (Nat.dvd_of_mod_eq_zero h1) (Nat.dvd_of_mod_eq_zero h2))
      subst hxg
      have e1 := tm_nat a x
      have e2 := tm_nat b x
      have e3 := tm_nat a d
      have e4 := tm_nat b d
      have e5 := tm_nat x d
      have f1 : a % x = 0 := Nat.mod_eq_zero_of_dvd hda
      have f2 : b % x = 0 := Nat.mod_eq_zero_of_dvd hdb
      rw [f1] at e1
      rw [f2] at e2
      clear hda hdb hgc hg f1 f2
      by_cases hg0 : x = 0
      · have q1 : ((x : Int) != 0) = false := by rw [hg0]; rfl
        clear hg0
        by_cases hd0 : d = 0
        · have q2 : ((d : Int) != 0) = false := by rw [hd0]; rfl
          clear hdd
          have HL0 := Lib.hid (line_ok x hx)
          generalize digs x ++ [10] = want at *
          have HB0 := Lib.hid hb0
          clear hb0
          go_wp2_with fail
          refine (asked_ok [a, b] (by simp) _ _ _ (nums_two _ a b ha hb _ _)).mono ?_
          rintro e w1 ⟨a1, c1, rfl, hy1, hb1⟩
          have HL := HL0.out w1
          have HY1 := Lib.hid (And.intro hy1 (below2 (HB0.out.alloc HB0.out.size _) hb1))
          clear hy1 hb1
          go_wp2_with fail
          refine HL.mono ?_
          rintro e w2 ⟨a2, c2, rfl, hy2, hb2⟩
          have TT := HT.out w2 (some a1) (some a2) c1 c2 (HY1.out.1.below hb2) hy2 (fun e => by cases e)
          have HY2 := Lib.hid (below2 HY1.out.2 hb2)
          clear hy2 hb2 HL
          go_wp2_with fail
          refine TT.mono ?_
          rintro e w3 ⟨rfl, hb3⟩
          have HY3 := Lib.hid (below2 HY2.out hb3)
          clear TT hb3
          go_wp2_with fail
          exact bodyPost_ret (v := .bool true) (by simp [results, Tryz.results4, go_sem]) rfl ⟨rfl, HY3.out⟩
        · have q2 : ((d : Int) != 0) = true := by simp; omega
          clear hdd
          have HL0 := Lib.hid (line_ok x hx)
          generalize digs x ++ [10] = want at *
          have HB0 := Lib.hid hb0
          clear hb0
          go_wp2_with fail
          refine (asked_ok [a, b] (by simp) _ _ _ (nums_two _ a b ha hb _ _)).mono ?_
          rintro e w1 ⟨a1, c1, rfl, hy1, hb1⟩
          have HL := HL0.out w1
          have HY1 := Lib.hid (And.intro hy1 (below2 (HB0.out.alloc HB0.out.size _) hb1))
          clear hy1 hb1
          go_wp2_with fail
          refine HL.mono ?_
          rintro e w2 ⟨a2, c2, rfl, hy2, hb2⟩
          have TT := HT.out w2 (some a1) (some a2) c1 c2 (HY1.out.1.below hb2) hy2 (fun e => by cases e)
          have HY2 := Lib.hid (below2 HY1.out.2 hb2)
          clear hy2 hb2 HL
          go_wp2_with fail
          refine TT.mono ?_
          rintro e w3 ⟨rfl, hb3⟩
          have HY3 := Lib.hid (below2 HY2.out hb3)
          clear TT hb3
          go_wp2_with fail
          exact bodyPost_ret (v := .bool true) (by simp [results, Tryz.results4, go_sem]) rfl ⟨rfl, HY3.out⟩
      · have q1 : ((x : Int) != 0) = true := by simp; omega
        by_cases hd0 : d = 0
        · have q2 : ((d : Int) != 0) = false := by rw [hd0]; rfl
          clear hdd
          have HL0 := Lib.hid (line_ok x hx)
          generalize digs x ++ [10] = want at *
          have HB0 := Lib.hid hb0
          clear hb0
          go_wp2_with fail
          refine (asked_ok [a, b] (by simp) _ _ _ (nums_two _ a b ha hb _ _)).mono ?_
          rintro e w1 ⟨a1, c1, rfl, hy1, hb1⟩
          have HL := HL0.out w1
          have HY1 := Lib.hid (And.intro hy1 (below2 (HB0.out.alloc HB0.out.size _) hb1))
          clear hy1 hb1
          go_wp2_with fail
          refine HL.mono ?_
          rintro e w2 ⟨a2, c2, rfl, hy2, hb2⟩
          have TT := HT.out w2 (some a1) (some a2) c1 c2 (HY1.out.1.below hb2) hy2 (fun e => by cases e)
          have HY2 := Lib.hid (below2 HY1.out.2 hb2)
          clear hy2 hb2 HL
          go_wp2_with fail
          refine TT.mono ?_
          rintro e w3 ⟨rfl, hb3⟩
          have HY3 := Lib.hid (below2 HY2.out hb3)
          clear TT hb3
          go_wp2_with fail
          exact bodyPost_ret (v := .bool true) (by simp [results, Tryz.results4, go_sem]) rfl ⟨rfl, HY3.out⟩
        · have q2 : ((d : Int) != 0) = true := by simp; omega
          by_cases hA : a % d = 0
          · rw [hA] at e3
            by_cases hB : b % d = 0
            · rw [hB] at e4
              rw [hdd hA hB] at e5
              clear hdd
              have HL0 := Lib.hid (line_ok x hx)
              generalize digs x ++ [10] = want at *
              have HB0 := Lib.hid hb0
              clear hb0
              go_wp2_with fail
              refine (asked_ok [a, b] (by simp) _ _ _ (nums_two _ a b ha hb _ _)).mono ?_
              rintro e w1 ⟨a1, c1, rfl, hy1, hb1⟩
              have HL := HL0.out w1
              have HY1 := Lib.hid (And.intro hy1 (below2 (HB0.out.alloc HB0.out.size _) hb1))
              clear hy1 hb1
              go_wp2_with fail
              refine HL.mono ?_
              rintro e w2 ⟨a2, c2, rfl, hy2, hb2⟩
              have TT := HT.out w2 (some a1) (some a2) c1 c2 (HY1.out.1.below hb2) hy2 (fun e => by cases e)
              have HY2 := Lib.hid (below2 HY1.out.2 hb2)
              clear hy2 hb2 HL
              go_wp2_with fail
              refine TT.mono ?_
              rintro e w3 ⟨rfl, hb3⟩
              have HY3 := Lib.hid (below2 HY2.out hb3)
              clear TT hb3
              go_wp2_with fail
              exact bodyPost_ret (v := .bool true) (by simp [results, Tryz.results4, go_sem]) rfl ⟨rfl, HY3.out⟩
            · have q4 : (((b % d : Nat) : Int) == 0) = false := t_ne (by omega)
              clear hdd
              have HL0 := Lib.hid (line_ok x hx)
              generalize digs x ++ [10] = want at *
              have HB0 := Lib.hid hb0
              clear hb0
              go_wp2_with fail
              refine (asked_ok [a, b] (by simp) _ _ _ (nums_two _ a b ha hb _ _)).mono ?_
              rintro e w1 ⟨a1, c1, rfl, hy1, hb1⟩
              have HL := HL0.out w1
              have HY1 := Lib.hid (And.intro hy1 (below2 (HB0.out.alloc HB0.out.size _) hb1))
              clear hy1 hb1
              go_wp2_with fail
              refine HL.mono ?_
              rintro e w2 ⟨a2, c2, rfl, hy2, hb2⟩
              have TT := HT.out w2 (some a1) (some a2) c1 c2 (HY1.out.1.below hb2) hy2 (fun e => by cases e)
              have HY2 := Lib.hid (below2 HY1.out.2 hb2)
              clear hy2 hb2 HL
              go_wp2_with fail
              refine TT.mono ?_
              rintro e w3 ⟨rfl, hb3⟩
              have HY3 := Lib.hid (below2 HY2.out hb3)
              clear TT hb3
              go_wp2_with fail
              exact bodyPost_ret (v := .bool true) (by simp [results, Tryz.results4, go_sem]) rfl ⟨rfl, HY3.out⟩
          · have q3 : (((a % d : Nat) : Int) == 0) = false := t_ne (by omega)
            clear hdd
            have HL0 := Lib.hid (line_ok x hx)
            generalize digs x ++ [10] = want at *
            have HB0 := Lib.hid hb0
            clear hb0
            go_wp2_with fail
            refine (asked_ok [a, b] (by simp) _ _ _ (nums_two _ a b ha hb _ _)).mono ?_
            rintro e w1 ⟨a1, c1, rfl, hy1, hb1⟩
            have HL := HL0.out w1
            have HY1 := Lib.hid (And.intro hy1 (below2 (HB0.out.alloc HB0.out.size _) hb1))
            clear hy1 hb1
            go_wp2_with fail
            refine HL.mono ?_
            rintro e w2 ⟨a2, c2, rfl, hy2, hb2⟩
            have TT := HT.out w2 (some a1) (some a2) c1 c2 (HY1.out.1.below hb2) hy2 (fun e => by cases e)
            have HY2 := Lib.hid (below2 HY1.out.2 hb2)
            clear hy2 hb2 HL
            go_wp2_with fail
            refine TT.mono ?_
            rintro e w3 ⟨rfl, hb3⟩
            have HY3 := Lib.hid (below2 HY2.out hb3)
            clear TT hb3
            go_wp2_with fail
            exact bodyPost_ret (v := .bool true) (by simp [results, Tryz.results4, go_sem]) rfl ⟨rfl, HY3.out⟩
    · have n1 : ((y : Int) != 0) = true := by simp; omega
      have e1 := tm_nat x y
      have hlt : x % y < y := Nat.mod_lt _ (by omega)
      obtain ⟨z, hz⟩ : ∃ z, z = x % y := ⟨_, rfl⟩
      have HZ := Lib.hid (show Nat.gcd y z = Nat.gcd a b by rw [hz, gcd_step]; exact hgc.out)
      rw [← hz] at e1 hlt
      clear hz hgc
      go_wp2_with fail
      go_quiet (fail)
      go_wp2_with fail
      go_round
      case rel => exact ⟨y, z, rfl, rfl, hy, by omega, HZ, below2 hb0 ⟨rfl, rfl, rfl, Nat.le_refl _, fun _ _ => rfl⟩⟩
      case measure => simp [intOf]; omega
end Go.Proofs.YtgmmfjmdpbhjnaaGreat
