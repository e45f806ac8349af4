/-
  'ShelfBinary': for every input the law returns true, and the input reads as it did.
  Conditions: none beside the form's own.
-/
import Derived.Test.YtgmmfjmdpbhjnaaGreatLBinG
import Derived.Test.YtgmmfjmdpbhjnaaGreatJRf
import Derived.SizedLaws
namespace Go.Proofs.YtgmmfjmdpbhjnaaGreat
open Go.ChangeShapes Go.WideShapes Go.ChangeAt Go.RowKit

/-! what the row says of the program that it reaches -/
theorem bin_k1 : (Rows.shelfBinaryRow.inPlace == Tryz.prog.inPlace 13) = true := by kernel_rfl
theorem bin_k2 : (Rows.shelfBinaryRow.unfollowed == Tryz.prog.unfollowed 13) = true := by kernel_rfl
theorem bin_k3 : (Rows.shelfBinaryRow.recurses == Tryz.prog.recurses 13) = true := by kernel_rfl
theorem bin_k4 : (Rows.shelfBinaryRow.named == Tryz.prog.varsNamed 13) = true := by kernel_rfl
theorem bin_k5 : (Rows.shelfBinaryRow.plainKeys == Tryz.prog.plainKeys) = true := Tryz.k_keys
theorem bin_k6 : (Rows.shelfBinaryRow.lifted == Tryz.prog.liftsFinal) = true := Tryz.k_lifts
theorem bin_k7 : (Tryz.prog.make == some Rows.shelfBinaryRow.make) = true := Tryz.k_make
theorem bin_closed : joinedFacts Tryz.prog 13 Tryz.f13 Rows.shelfBinarySpec Rows.shelfBinaryRow = true := by
  unfold joinedFacts
  rw [bin_k1, bin_k2, bin_k3, bin_k4, bin_k5, bin_k6, bin_k7, Tryz.laidOut, Tryz.k_maps, Tryz.k_stops, Tryz.k_knobs, Tryz.k_heard, Tryz.k_enter]
  kernel_rfl

set_option maxRecDepth 100000 in
theorem bin_lifted (os : Os) (started : os.Started) (H : Type) (enc : TypeId × Value → H) :
    ReturnsInHanded {} Tryz.checked os 13 .any (Rows.shelfBinarySpec.pre6 enc Tryz.prog Tryz.f13 Rows.shelfBinaryRow.domain false) (Rows.shelfBinarySpec.post enc Tryz.prog Tryz.f13 false true false false) := by
  refine returnsInHanded_of_change_sized (C := Tryz.checked) Tryz.own started (by kernel_rfl) Tryz.func13
    (ChangeSpec.witness6 (enc := enc) (C := Tryz.checked) false ⟨#[], #[.int .u64 0], []⟩ 8 (by kernel_rfl) (by kernel_rfl) (by kernel_rfl) (by kernel_rfl)) ?_
  intro W base args ds gs before hval0 hW _ hsz0 _
  clear hsz0
  have hval : ∀ (j : Nat) t v, Tryz.f13.params[j]? = some t → args[j]? = some v → Value.okWide Tryz.prog W .any base t v := hval0
  have hW' := hW
  obtain ⟨p, q, hA0, hV, rfl, _, _⟩ := hW
  have hA : DataW.TrodAll enc Tryz.prog W 0 (fun _ => true) true Tryz.f13.params.toList args.toList ds p := hA0
  rw [Tryz.params13] at hA hval
  obtain ⟨v0, vs0, d0, ds0, p0, q0, hargs0, rfl, rfl, h0, r0⟩ := trodAll_cons hA
  obtain ⟨rfl, rfl, rfl⟩ := trodAll_nil r0
  obtain rfl : args = #[v0] := by cases args; simp_all
  obtain ⟨rfl, rfl⟩ := trodVars_none hV
  obtain ⟨z0, rfl, rfl, rfl, wf0⟩ := open_int Tryz.underlying26 (hval 0 26 v0 rfl rfl) h0
  have b0 : 0 ≤ z0 ∧ z0 ≤ 18446744073709551615 := by simpa [Lit.wf, IntKind.min, IntKind.max, IntKind.signed, IntKind.bits] using wf0
  obtain ⟨n0, rfl⟩ : ∃ n : Nat, z0 = (n : Int) := ⟨z0.toNat, by omega⟩
  clear hA0 hval0 hval
  simp only [List.append_nil] at hW'
  have fin : ∀ e W', (e = .returned (.bool true) ∧ Below W.heap.size W W') → ∃ v, e = Ending.returned v ∧ Rows.shelfBinarySpec.post enc Tryz.prog Tryz.f13 false true false false W #[.int .u64 (n0 : Int)] v W' := by
    rintro e W' ⟨rfl, hg⟩
    exact ⟨_, rfl, _, _, _, [], [], [], hW', trodAll_mk1 (shut_bool Tryz.underlying4 true), ⟨[], [], shut_int Tryz.underlying26 wf0, trodAll_mk0, rfl⟩, rfl, hg.frame _, fun h => by cases h⟩
  exact (bin_law W n0 (by omega)).mono fin

theorem bin_holds : Rows.ShelfBinarySaid :=
  OpenClaim.holds_of_wide 13 Tryz.f13 rfl rfl rfl rfl rfl rfl rfl ⟨rfl, rfl, rfl, rfl, rfl⟩ rfl rfl rfl rfl rfl (by kernel_rfl) Tryz.func13 bin_closed
    (of_decide_eq_true (by kernel_rfl)) (by unfold Func.isWrapper; first | (rw [if_pos (by decide +kernel)]; kernel_rfl) | (rw [if_neg (by decide +kernel)]; exact ⟨rfl, rfl⟩))
    (fun os started H enc _ => bin_lifted os started H enc)

#print axioms bin_holds
end Go.Proofs.YtgmmfjmdpbhjnaaGreat
