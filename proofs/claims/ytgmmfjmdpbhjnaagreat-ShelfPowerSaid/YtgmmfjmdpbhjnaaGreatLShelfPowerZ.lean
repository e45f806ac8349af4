/-
  'ShelfPower': for every input the law returns true, and the input reads as it did.
  Conditions: none beside the form's own.
-/
import Derived.Test.YtgmmfjmdpbhjnaaGreatLPowG
import Derived.Test.YtgmmfjmdpbhjnaaGreatJRf
import Derived.SizedLaws
namespace Go.Proofs.YtgmmfjmdpbhjnaaGreat
open Go.ChangeShapes Go.WideShapes Go.ChangeAt Go.RowKit

/-! what the row says of the program that it reaches -/
theorem pow_k1 : (Rows.shelfPowerRow.inPlace == Tryz.prog.inPlace 5) = true := by kernel_rfl
theorem pow_k2 : (Rows.shelfPowerRow.unfollowed == Tryz.prog.unfollowed 5) = true := by kernel_rfl
theorem pow_k3 : (Rows.shelfPowerRow.recurses == Tryz.prog.recurses 5) = true := by kernel_rfl
theorem pow_k4 : (Rows.shelfPowerRow.named == Tryz.prog.varsNamed 5) = true := by kernel_rfl
theorem pow_k5 : (Rows.shelfPowerRow.plainKeys == Tryz.prog.plainKeys) = true := Tryz.k_keys
theorem pow_k6 : (Rows.shelfPowerRow.lifted == Tryz.prog.liftsFinal) = true := Tryz.k_lifts
theorem pow_k7 : (Tryz.prog.make == some Rows.shelfPowerRow.make) = true := Tryz.k_make
theorem pow_closed : joinedFacts Tryz.prog 5 Tryz.f5 Rows.shelfPowerSpec Rows.shelfPowerRow = true := by
  unfold joinedFacts
  rw [pow_k1, pow_k2, pow_k3, pow_k4, pow_k5, pow_k6, pow_k7, Tryz.laidOut, Tryz.k_maps, Tryz.k_stops, Tryz.k_knobs, Tryz.k_heard, Tryz.k_enter]
  kernel_rfl

set_option maxRecDepth 100000 in
theorem pow_lifted (os : Os) (started : os.Started) (H : Type) (enc : TypeId × Value → H) :
    ReturnsInHanded {} Tryz.checked os 5 .any (Rows.shelfPowerSpec.pre6 enc Tryz.prog Tryz.f5 Rows.shelfPowerRow.domain false) (Rows.shelfPowerSpec.post enc Tryz.prog Tryz.f5 false true false false) := by
  refine returnsInHanded_of_change_sized (C := Tryz.checked) Tryz.own started (by kernel_rfl) Tryz.func5
    (ChangeSpec.witness6 (enc := enc) (C := Tryz.checked) false ⟨#[], #[.int .u64 0, .int .u64 0], []⟩ 8 (by kernel_rfl) (by kernel_rfl) (by kernel_rfl) (by kernel_rfl)) ?_
  intro W base args ds gs before hval0 hW _ hsz0 _
  clear hsz0
  have hval : ∀ (j : Nat) t v, Tryz.f5.params[j]? = some t → args[j]? = some v → Value.okWide Tryz.prog W .any base t v := hval0
  have hW' := hW
  obtain ⟨p, q, hA0, hV, rfl, _, _⟩ := hW
  have hA : DataW.TrodAll enc Tryz.prog W 0 (fun _ => true) true Tryz.f5.params.toList args.toList ds p := hA0
  rw [Tryz.params5] at hA hval
  obtain ⟨v0, vs0, d0, ds0, p0, q0, hargs0, rfl, rfl, h0, r0⟩ := trodAll_cons hA
  obtain ⟨v1, vs1, d1, ds1, p1, q1, rfl, rfl, rfl, h1, r1⟩ := trodAll_cons r0
  obtain ⟨rfl, rfl, rfl⟩ := trodAll_nil r1
  obtain rfl : args = #[v0, v1] := by cases args; simp_all
  obtain ⟨rfl, rfl⟩ := trodVars_none hV
  obtain ⟨z0, rfl, rfl, rfl, wf0⟩ := open_int Tryz.underlying26 (hval 0 26 v0 rfl rfl) h0
  obtain ⟨z1, rfl, rfl, rfl, wf1⟩ := open_int Tryz.underlying26 (hval 1 26 v1 rfl rfl) h1
  have b0 : 0 ≤ z0 ∧ z0 ≤ 18446744073709551615 := by simpa [Lit.wf, IntKind.min, IntKind.max, IntKind.signed, IntKind.bits] using wf0
  obtain ⟨n0, rfl⟩ : ∃ n : Nat, z0 = (n : Int) := ⟨z0.toNat, by omega⟩
  have b1 : 0 ≤ z1 ∧ z1 ≤ 18446744073709551615 := by simpa [Lit.wf, IntKind.min, IntKind.max, IntKind.signed, IntKind.bits] using wf1
  obtain ⟨n1, rfl⟩ : ∃ n : Nat, z1 = (n : Int) := ⟨z1.toNat, by omega⟩
  clear hA0 hval0 hval
  simp only [List.append_nil] at hW'
  have fin : ∀ e W', (e = .returned (.bool true) ∧ Below W.heap.size W W') → ∃ v, e = Ending.returned v ∧ Rows.shelfPowerSpec.post enc Tryz.prog Tryz.f5 false true false false W #[.int .u64 (n0 : Int), .int .u64 (n1 : Int)] v W' := by
    rintro e W' ⟨rfl, hg⟩
    exact ⟨_, rfl, _, _, _, [], [], [], hW', trodAll_mk1 (shut_bool Tryz.underlying4 true), ⟨[], [], shut_int Tryz.underlying26 wf0, ⟨[], [], shut_int Tryz.underlying26 wf1, trodAll_mk0, rfl⟩, rfl⟩, rfl, hg.frame _, fun h => by cases h⟩
  exact (pow_law W n0 n1 (by omega) (by omega)).mono fin

theorem pow_holds : Rows.ShelfPowerSaid :=
  OpenClaim.holds_of_wide 5 Tryz.f5 rfl rfl rfl rfl rfl rfl rfl ⟨rfl, rfl, rfl, rfl, rfl⟩ rfl rfl rfl rfl rfl (by kernel_rfl) Tryz.func5 pow_closed
    (of_decide_eq_true (by kernel_rfl)) (by unfold Func.isWrapper; first | (rw [if_pos (by decide +kernel)]; kernel_rfl) | (rw [if_neg (by decide +kernel)]; exact ⟨rfl, rfl⟩))
    (fun os started H enc _ => pow_lifted os started H enc)

#print axioms pow_holds
end Go.Proofs.YtgmmfjmdpbhjnaaGreat
