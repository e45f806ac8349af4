/-
  'ShelfTells': for every input the law returns true, and the input reads as it did.
  Conditions: none beside the form's own.
-/
import Derived.Test.YtiflcnlnlkegaaaGreatLTelF
import Derived.Test.YtiflcnlnlkegaaaGreatLTelAll
import Derived.Test.YtiflcnlnlkegaaaGreatJTc
import Derived.ChangeMaps5
import Derived.SizedLaws
namespace Go.Proofs.YtiflcnlnlkegaaaGreat
open Go.ChangeShapes Go.WideShapes Go.ChangeAt Go.RowKit

/-! what the row says of the program that it reaches -/
theorem tel_k1 : (Rows.shelfTellsRow.inPlace == Tryz.prog.inPlace 3) = true := by kernel_rfl
theorem tel_k2 : (Rows.shelfTellsRow.unfollowed == Tryz.prog.unfollowed 3) = true := by kernel_rfl
theorem tel_k3 : (Rows.shelfTellsRow.recurses == Tryz.prog.recurses 3) = true := by kernel_rfl
theorem tel_k4 : (Rows.shelfTellsRow.named == Tryz.prog.varsNamed 3) = true := by kernel_rfl
theorem tel_k5 : (Rows.shelfTellsRow.plainKeys == Tryz.prog.plainKeys) = true := Tryz.k_keys
theorem tel_k6 : (Rows.shelfTellsRow.lifted == Tryz.prog.liftsFinal) = true := Tryz.k_lifts
theorem tel_k7 : (Tryz.prog.make == some Rows.shelfTellsRow.make) = true := Tryz.k_make
theorem tel_closed : joinedFacts Tryz.prog 3 Tryz.f3 Rows.shelfTellsSpec Rows.shelfTellsRow = true := by
  unfold joinedFacts
  rw [tel_k1, tel_k2, tel_k3, tel_k4, tel_k5, tel_k6, tel_k7, Tryz.laidOut, Tryz.k_maps, Tryz.k_stops, Tryz.k_knobs, Tryz.k_heard, Tryz.k_enter]
  kernel_rfl

set_option maxRecDepth 100000 in
theorem tel_lifted (os : Os) (started : os.Started) (H : Type) (enc : TypeId × Value → H) :
    ReturnsInHanded {} Tryz.checked os 3 .any (Rows.shelfTellsSpec.pre6 enc Tryz.prog Tryz.f3 Rows.shelfTellsRow.domain false) (Rows.shelfTellsSpec.post enc Tryz.prog Tryz.f3 false true false false) := by
  refine returnsInHanded_of_change_sized (C := Tryz.checked) Tryz.own started (by kernel_rfl) Tryz.func3
    (ChangeSpec.witness6 (enc := enc) (C := Tryz.checked) false ⟨#[], #[.string ⟨#[]⟩, .int .i64 0], []⟩ 8 (by kernel_rfl) (by kernel_rfl) (by kernel_rfl) (by kernel_rfl)) ?_
  intro W base args ds gs before hval0 hW _ hsz0 _
  clear hsz0
  have hval : ∀ (j : Nat) t v, Tryz.f3.params[j]? = some t → args[j]? = some v → Value.okWide Tryz.prog W .any base t v := hval0
  have hW' := hW
  obtain ⟨p, q, hA0, hV, rfl, _, _⟩ := hW
  have hA : DataW.TrodAll enc Tryz.prog W 0 (fun _ => true) true Tryz.f3.params.toList args.toList ds p := hA0
  rw [Tryz.params3] at hA hval
  obtain ⟨v0, vs0, d0, ds0, p0, q0, hargs0, rfl, rfl, h0, r0⟩ := trodAll_cons hA
  obtain ⟨v1, vs1, d1, ds1, p1, q1, rfl, rfl, rfl, h1, r1⟩ := trodAll_cons r0
  obtain ⟨rfl, rfl, rfl⟩ := trodAll_nil r1
  obtain rfl : args = #[v0, v1] := by cases args; simp_all
  obtain ⟨rfl, rfl⟩ := trodVars_none hV
  obtain ⟨nm, rfl, rfl, rfl, wf0⟩ := Go.ChangeMaps.open_string Tryz.underlying9 (hval 0 9 v0 rfl rfl) h0
  obtain ⟨z1, rfl, rfl, rfl, wf1⟩ := open_int Tryz.underlying3 (hval 1 3 v1 rfl rfl) h1
  have b1 : -9223372036854775808 ≤ z1 ∧ z1 ≤ 9223372036854775807 := by simpa [Lit.wf, IntKind.min, IntKind.max, IntKind.signed, IntKind.bits] using wf1
  clear hA0 hval0 hval
  simp only [List.append_nil] at hW'
  have fin : ∀ e W', (e = .returned (.bool true) ∧ Below W.heap.size W W') → ∃ v, e = Ending.returned v ∧ Rows.shelfTellsSpec.post enc Tryz.prog Tryz.f3 false true false false W #[.string nm, .int .i64 z1] v W' := by
    rintro e W' ⟨rfl, hg⟩
    exact ⟨_, rfl, _, _, _, [], [], [], hW', trodAll_mk1 (shut_bool Tryz.underlying4 true), ⟨[], [], Go.ChangeMaps.shut_string Tryz.underlying9 wf0, ⟨[], [], shut_int Tryz.underlying3 wf1, trodAll_mk0, rfl⟩, rfl⟩, rfl, hg.frame _, fun h => by cases h⟩
  exact (shelfTells_ok W nm z1 b1 tel_all).mono fin

theorem tel_holds : Rows.ShelfTellsSaid :=
  OpenClaim.holds_of_wide 3 Tryz.f3 rfl rfl rfl rfl rfl rfl rfl ⟨rfl, rfl, rfl, rfl, rfl⟩ rfl rfl rfl rfl rfl (by kernel_rfl) Tryz.func3 tel_closed
    (of_decide_eq_true (by kernel_rfl)) (by unfold Func.isWrapper; first | (rw [if_pos (by decide +kernel)]; kernel_rfl) | (rw [if_neg (by decide +kernel)]; exact ⟨rfl, rfl⟩))
    (fun os started H enc _ => tel_lifted os started H enc)

#print axioms tel_holds
end Go.Proofs.YtiflcnlnlkegaaaGreat
