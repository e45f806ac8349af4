/-
  ShelfTells: the law's function.
-/
import Derived.Test.YtiflcnlnlkegaaaGreatJTc
namespace Go.Proofs.YtiflcnlnlkegaaaGreat
open Go Go.RowKit Go.XM

theorem fld_ok (w : World) : (Instr.field 33 (.agg #[.int .i64 0, .int .i64 0]) 0).run Tryz.prog w = .ok (.int .i64 0) w := by kernel_rfl
theorem txt_lt {k : Nat} {x : Nat × Nat × Nat × Nat} (hk : tabT[k]? = some x) : x.2.2.1 < 256 ^ x.2.2.2 := by
  have h := List.all_eq_true.1 ref_all x (List.mem_of_getElem? hk)
  unfold refChk at h
  simp only [Bool.and_eq_true] at h
  exact blt_iff.1 h.1.2
set_option maxHeartbeats 4000000 in
set_option maxRecDepth 100000 in
theorem shelfTells_ok (w : World) (nm : ByteArray) (wh : Int) (hw : -9223372036854775808 ≤ wh ∧ wh ≤ 9223372036854775807) (hR : ∀ x ∈ tabT, ReadsOK 9 10 x.2.2.1 x.2.2.2) :
    Calls Tryz.prog 3 #[.string nm, .int .i64 wh] w fun e w' => e = .returned (.bool true) ∧ Below w.heap.size w w' := by
  obtain ⟨N, hN⟩ := pos_ex nm
  have HT := Lib.hid fun w => text_ok w nm N hN
  have HF := Lib.hid fun w => ref_ok w nm N hN
  have HN1 := Lib.hid (names_ok names_run)
  have HN2 := Lib.hid (names_ok rnames_run)
  have HS := Lib.hid same_ok
  have HT2 := Lib.hid text_ok
  have HF2 := Lib.hid ref_ok
  have HP := Lib.hid pos_ex
  have HR := Lib.hid hR
  clear hN hR
  generalize ansT N = ans at *
  obtain ⟨tx, er⟩ := ans
  go_enter Tryz.func3, Tryz.ntmps3
  go_wp2_with fail
  refine (HT.out _).mono ?_
  rintro e w1 ⟨rfl, hb1⟩
  have HB1 := Lib.hid hb1
  clear hb1
  go_wp2_with fail
  refine (HF.out _).mono ?_
  rintro e w2 ⟨rfl, hb2⟩
  have HB2 := Lib.hid (tl_two HB1.out hb2)
  clear hb2
  go_wp2_with fail
  refine (HN1.out _).mono ?_
  rintro e w3 ⟨b1, c1, rfl, hb3, hl3, hn3⟩
  have HB3 := Lib.hid (tl_two HB2.out hb3)
  have HL3 := Lib.hid (And.intro hl3 hn3)
  clear hb3 hl3 hn3
  go_wp2_with fail
  refine (HN2.out _).mono ?_
  rintro e w4 ⟨b2, c2, rfl, hb4, hl4, hn4⟩
  have HB4 := Lib.hid (tl_two HB3.out hb4)
  have HL4 := Lib.hid (And.intro (HL3.out.2.below hb4) hn4)
  clear hb4 hl4 hn4
  go_wp2_with fail
  refine (HS.out w4 b1 c1 b2 c2 HL4.out.1 HL4.out.2).mono ?_
  rintro e w5 ⟨rfl, hb5⟩
  have HB5 := Lib.hid (tl_two HB4.out hb5)
  have HN5 := Lib.hid (HL4.out.1.below hb5)
  clear hb5
  by_cases h0 : wh < 0
  · have g1 : decide (wh < 0) = true := decide_eq_true h0
    go_wp2_with fail
    exact bodyPost_ret (v := .bool true) (by simp [results, Tryz.results3, go_sem]) rfl ⟨rfl, HB5.out⟩
  · have g1 : decide (wh < 0) = false := decide_eq_false h0
    by_cases h30 : wh < 30
    · obtain ⟨k, rfl⟩ : ∃ k : Nat, wh = (k : Int) := ⟨wh.toNat, by omega⟩
      have hk : k < 30 := by omega
      have g2 : decide ((30 : Int) ≤ (k : Int)) = false := decide_eq_false (by omega)
      have g3 : decide ((k : Int) < 30) = true := decide_eq_true (by omega)
      obtain ⟨x, hx⟩ : ∃ x, tabT[k]? = some x := ⟨_, List.getElem?_eq_getElem (show k < tabT.length from hk)⟩
      have k5 := HN5.out k x hx
      obtain ⟨N2, hP2⟩ := HP.out (unB x.1 x.2.1)
      have hN2 : N2 < 30 := by
        refine Nat.lt_of_not_le fun hle => ?_
        have e30 : N2 = 30 := Nat.le_antisymm hP2.1 hle
        exact hP2.2.1 k x (by omega) hx rfl
      obtain ⟨y, hy⟩ : ∃ y, tabT[N2]? = some y := ⟨_, List.getElem?_eq_getElem (show N2 < tabT.length from hN2)⟩
      have hans : ansT N2 = (unB y.2.2.1 y.2.2.2, 0) := by unfold ansT; rw [hy]
      have T6 := fun w => HT2.out w (unB x.1 x.2.1) N2 hP2
      have F6 := fun w => HF2.out w (unB x.1 x.2.1) N2 hP2
      rw [hans] at T6 F6
      have HT6 := Lib.hid T6
      have HF6 := Lib.hid F6
      have HRD := Lib.hid fun w => reads_ok (HR.out y (List.mem_of_getElem? hy)) (txt_lt hy) w
      have HX := Lib.hid hx
      clear T6 F6 hx hP2 hN2 hy hans HR HP HT2 HF2 HS HN1 HN2 HT HF
      generalize unB y.2.2.1 y.2.2.2 = tx2 at *
      obtain ⟨nm2, hnm2⟩ : ∃ s, s = unB x.1 x.2.1 := ⟨_, rfl⟩
      have HNM := Lib.hid hnm2
      rw [← hnm2] at k5 HT6 HF6
      clear hnm2
      go_wp2_with fail
      refine (HT6.out _).mono ?_
      rintro e w6 ⟨rfl, hb6⟩
      have HB6 := Lib.hid (tl_two HB5.out hb6)
      have k6 := tl_cell hb6 k5
      clear hb6 k5
      go_wp2_with fail
      refine (HF6.out _).mono ?_
      rintro e w7 ⟨rfl, hb7⟩
      have HB7 := Lib.hid (tl_two HB6.out hb7)
      clear hb7 k6
      go_wp2_with fail
      refine (HRD.out _).mono ?_
      rintro e w8 ⟨s1, n1, d1, s2, n2, d2, rfl, hb8, hC⟩
      have HB8 := Lib.hid hb8
      have HC := Lib.hid hC
      clear hb8 hC
      go_wp2_with fail
      have hbb : Below w8.heap.size w8 ((w8.alloc (.cells #[.slice s1 n1 d1, .slice s2 n2 d2] 31)).alloc (.cells #[.int .i64 0, .int .i64 0] 33)) := ((Below.refl _ w8).alloc (Nat.le_refl _) _).alloc (by rw [tl_sz]; omega) _
      refine (HC.out _ hbb).mono ?_
      rintro e w9 ⟨rfl, hb9⟩
      have HB9 := Lib.hid (tl_two HB7.out hb9)
      have kf := fld_ok w9
      clear hbb hb9
      go_wp2_with fail
      exact bodyPost_ret (v := .bool true) (by simp [results, Tryz.results3, go_sem]) rfl ⟨rfl, HB9.out⟩
    · have g2 : decide ((30 : Int) ≤ wh) = true := decide_eq_true (by omega)
      have g3 : decide (wh < 30) = false := decide_eq_false h30
      go_wp2_with fail
      exact bodyPost_ret (v := .bool true) (by simp [results, Tryz.results3, go_sem]) rfl ⟨rfl, HB5.out⟩
end Go.Proofs.YtiflcnlnlkegaaaGreat
