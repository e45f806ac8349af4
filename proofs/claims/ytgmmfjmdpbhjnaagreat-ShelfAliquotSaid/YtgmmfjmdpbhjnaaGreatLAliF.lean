/-
  ShelfAliquot: the law's function.
-/
import Derived.Test.YtgmmfjmdpbhjnaaGreatJRd
import Derived.Test.YtgmmfjmdpbhjnaaGreatLNuR
namespace Go.Proofs.YtgmmfjmdpbhjnaaGreat
open Go Go.RowKit

set_option maxHeartbeats 4000000 in
set_option maxRecDepth 100000 in
theorem shelfAliquot_ok (w : World) (n : Nat) (hn : n < 18446744073709551616) {rdy : Rdy} (hP : Played 27422272871821172 7 rdy) (hR : rdy = ⟨2, aliBd, [List.replicate 20 0]⟩) :
    Calls Tryz.prog 17 #[.int .u64 (n : Nat)] w fun e w' => e = .returned (.bool true) ∧ Below w.heap.size w w' := by
  subst hR
  by_cases h5 : n ≤ 5000
  · have T := tellsAsk_of hP (nm := ⟨#[97, 108, 105, 113, 117, 111, 116]⟩) (by kernel_rfl) (ali_means h5)
    have HT := Lib.hid T
    have HB := Lib.hid (alS_le n)
    clear T hP
    have g1 : decide ((5000 : Int) < n) = false := decide_eq_false (by omega)
    go_enter Tryz.func17, Tryz.ntmps17
    go_wp2_with fail
    go_loopw [3, 4] (fun va vd wr => ∃ d s : Nat, 1 ≤ d ∧ (d ≤ n ∨ d = 1) ∧ va = .int .u64 (s : Nat) ∧ vd = .int .u64 (d : Nat) ∧ s ≤ 25000000 ∧ Hid (s = alS n (d - 1)) ∧ Below w.heap.size w wr) (fun _ vd _ => n - (intOf vd).toNat)
    case atStart => exact ⟨1, 0, by omega, .inr rfl, rfl, rfl, by omega, Lib.hid rfl, Below.refl _ _⟩
    case round =>
      obtain ⟨d, s, hd1, hd2, rfl, rfl, hs, hH, hb0⟩ := hrel
      by_cases hlt : d < n
      · have hls : decide ((d : Int) < n) = true := decide_eq_true (by omega)
        have e1 := tm_nat n d
        have hb2 := HB.out d (by omega)
        have hE : alS n (d + 1 - 1) = if n % d = 0 then s + d else s := by
          obtain ⟨i, rfl⟩ : ∃ i, d = i + 1 := ⟨d - 1, by omega⟩
          rw [hH.out]; rfl
        have h25 : 5000 * d ≤ 25000000 := by omega
        by_cases hm : n % d = 0
        · rw [hm] at e1
          rw [if_pos hm] at hE
          have hbs : s + d ≤ 25000000 := by rw [← hE]; exact Nat.le_trans hb2 h25
          have HE := Lib.hid hE.symm
          clear hE hH hb2
          go_wp2_with fail
          go_round
          case rel => exact ⟨d + 1, s + d, by omega, .inl (by omega), by go_num, by go_num, hbs, HE, hb0⟩
          case measure => simp [intOf]; omega
        · have q1 : (((n % d : Nat) : Int) == 0) = false := t_ne (by omega)
          rw [if_neg hm] at hE
          have HE := Lib.hid hE.symm
          clear hE hH hb2 hm
          go_wp2_with fail
          go_round
          case rel => exact ⟨d + 1, s, by omega, .inl (by omega), rfl, by go_num, hs, HE, hb0⟩
          case measure => simp [intOf]; omega
      · have hls : decide ((d : Int) < n) = false := decide_eq_false (by omega)
        have hsd : s = alS n (n - 1) := by
          rw [hH.out]
          congr 1
          omega
        rw [← hsd] at HT
        have hs64 : s < 18446744073709551616 := by omega
        clear hls
        have hls : decide ((d : Int) < n) = false := decide_eq_false (by omega)
        by_cases h6 : n = 6
        · have hsn : s = 6 := by rw [hsd, h6]; rfl
          clear hls hsd hH hd2
          subst hsn
          subst h6
          have hls : decide ((d : Int) < 6) = false := decide_eq_false (by omega)
          have HL0 := Lib.hid (line_ok 6 hs64)
          generalize digs 6 ++ [10] = want at *
          have HB0 := Lib.hid hb0
          clear hb0
          go_wp2_with fail
          refine (asked_ok [6] (by simp) _ _ _ (nums_one _ 6 hn _ _)).mono ?_
          rintro e w1 ⟨a1, c1, rfl, hy1, hb1⟩
          have HL := HL0.out w1
          have HY1 := Lib.hid (And.intro hy1 (below2 (HB0.out.alloc HB0.out.size _) hb1))
          clear hy1 hb1
          go_wp2_with fail
          refine HL.mono ?_
          rintro e w2 ⟨a2, c2, rfl, hy2, hb2⟩
          have TT := HT.out w2 (some a1) (some a2) c1 c2 (HY1.out.1.below hb2) hy2 (fun e => by cases e)
          have HY2 := Lib.hid (below2 HY1.out.2 hb2)
          clear hy2 hb2 HL
          go_wp2_with fail
          refine TT.mono ?_
          rintro e w3 ⟨rfl, hb3⟩
          have HY3 := Lib.hid (below2 HY2.out hb3)
          clear TT hb3
          go_wp2_with fail
          exact bodyPost_ret (v := .bool true) (by simp [results, Tryz.results17, go_sem]) rfl ⟨rfl, HY3.out⟩
        · have p1 : ((n : Int) == 6) = false := t_ne (by omega)
          by_cases h28 : n = 28
          · have hsn : s = 28 := by rw [hsd, h28]; rfl
            clear hls hsd hH hd2
            subst hsn
            subst h28
            have hls : decide ((d : Int) < 28) = false := decide_eq_false (by omega)
            have HL0 := Lib.hid (line_ok 28 hs64)
            generalize digs 28 ++ [10] = want at *
            have HB0 := Lib.hid hb0
            clear hb0
            go_wp2_with fail
            refine (asked_ok [28] (by simp) _ _ _ (nums_one _ 28 hn _ _)).mono ?_
            rintro e w1 ⟨a1, c1, rfl, hy1, hb1⟩
            have HL := HL0.out w1
            have HY1 := Lib.hid (And.intro hy1 (below2 (HB0.out.alloc HB0.out.size _) hb1))
            clear hy1 hb1
            go_wp2_with fail
            refine HL.mono ?_
            rintro e w2 ⟨a2, c2, rfl, hy2, hb2⟩
            have TT := HT.out w2 (some a1) (some a2) c1 c2 (HY1.out.1.below hb2) hy2 (fun e => by cases e)
            have HY2 := Lib.hid (below2 HY1.out.2 hb2)
            clear hy2 hb2 HL
            go_wp2_with fail
            refine TT.mono ?_
            rintro e w3 ⟨rfl, hb3⟩
            have HY3 := Lib.hid (below2 HY2.out hb3)
            clear TT hb3
            go_wp2_with fail
            exact bodyPost_ret (v := .bool true) (by simp [results, Tryz.results17, go_sem]) rfl ⟨rfl, HY3.out⟩
          · have p2 : ((n : Int) == 28) = false := t_ne (by omega)
            by_cases h496 : n = 496
            · have hsn : s = 496 := by rw [hsd, h496]; kernel_rfl
              clear hls hsd hH hd2
              subst hsn
              subst h496
              have hls : decide ((d : Int) < 496) = false := decide_eq_false (by omega)
              have HL0 := Lib.hid (line_ok 496 hs64)
              generalize digs 496 ++ [10] = want at *
              have HB0 := Lib.hid hb0
              clear hb0
              go_wp2_with fail
              refine (asked_ok [496] (by simp) _ _ _ (nums_one _ 496 hn _ _)).mono ?_
              rintro e w1 ⟨a1, c1, rfl, hy1, hb1⟩
              have HL := HL0.out w1
              have HY1 := Lib.hid (And.intro hy1 (below2 (HB0.out.alloc HB0.out.size _) hb1))
              clear hy1 hb1
              go_wp2_with fail
              refine HL.mono ?_
              rintro e w2 ⟨a2, c2, rfl, hy2, hb2⟩
              have TT := HT.out w2 (some a1) (some a2) c1 c2 (HY1.out.1.below hb2) hy2 (fun e => by cases e)
              have HY2 := Lib.hid (below2 HY1.out.2 hb2)
              clear hy2 hb2 HL
              go_wp2_with fail
              refine TT.mono ?_
              rintro e w3 ⟨rfl, hb3⟩
              have HY3 := Lib.hid (below2 HY2.out hb3)
              clear TT hb3
              go_wp2_with fail
              exact bodyPost_ret (v := .bool true) (by simp [results, Tryz.results17, go_sem]) rfl ⟨rfl, HY3.out⟩
            · have p3 : ((n : Int) == 496) = false := t_ne (by omega)
              clear hsd hH hd2
              have HL0 := Lib.hid (line_ok s hs64)
              generalize digs s ++ [10] = want at *
              have HB0 := Lib.hid hb0
              clear hb0
              go_wp2_with fail
              refine (asked_ok [n] (by simp) _ _ _ (nums_one _ n hn _ _)).mono ?_
              rintro e w1 ⟨a1, c1, rfl, hy1, hb1⟩
              have HL := HL0.out w1
              have HY1 := Lib.hid (And.intro hy1 (below2 (HB0.out.alloc HB0.out.size _) hb1))
              clear hy1 hb1
              go_wp2_with fail
              refine HL.mono ?_
              rintro e w2 ⟨a2, c2, rfl, hy2, hb2⟩
              have TT := HT.out w2 (some a1) (some a2) c1 c2 (HY1.out.1.below hb2) hy2 (fun e => by cases e)
              have HY2 := Lib.hid (below2 HY1.out.2 hb2)
              clear hy2 hb2 HL
              go_wp2_with fail
              refine TT.mono ?_
              rintro e w3 ⟨rfl, hb3⟩
              have HY3 := Lib.hid (below2 HY2.out hb3)
              clear TT hb3
              go_wp2_with fail
              exact bodyPost_ret (v := .bool true) (by simp [results, Tryz.results17, go_sem]) rfl ⟨rfl, HY3.out⟩
  · have g1 : decide ((5000 : Int) < n) = true := decide_eq_true (by omega)
    clear hP
    go_enter Tryz.func17, Tryz.ntmps17
    go_wp2_with fail
    exact bodyPost_ret (v := .bool true) (by simp [results, Tryz.results17, go_sem]) rfl ⟨rfl, Below.refl _ _⟩
end Go.Proofs.YtgmmfjmdpbhjnaaGreat
