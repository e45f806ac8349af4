/-
  'ShelfHanoi': for every input the law returns true, and the input reads as it did.
  Conditions: none beside the form's own.
-/
import Derived.Test.YtgmmfjmdpbhjnaaGreatLHanG
import Derived.Test.YtgmmfjmdpbhjnaaGreatJRf
import Derived.SizedLaws
namespace Go.Proofs.YtgmmfjmdpbhjnaaGreat
open Go.ChangeShapes Go.WideShapes Go.ChangeAt Go.RowKit

/-! what the row says of the program that it reaches -/
theorem han_k1 : (Rows.shelfHanoiRow.inPlace == Tryz.prog.inPlace 18) = true := by kernel_rfl
theorem han_k2 : (Rows.shelfHanoiRow.unfollowed == Tryz.prog.unfollowed 18) = true := by kernel_rfl
theorem han_k3 : (Rows.shelfHanoiRow.recurses == Tryz.prog.recurses 18) = true := by kernel_rfl
theorem han_k4 : (Rows.shelfHanoiRow.named == Tryz.prog.varsNamed 18) = true := by kernel_rfl
theorem han_k5 : (Rows.shelfHanoiRow.plainKeys == Tryz.prog.plainKeys) = true := Tryz.k_keys
theorem han_k6 : (Rows.shelfHanoiRow.lifted == Tryz.prog.liftsFinal) = true := Tryz.k_lifts
theorem han_k7 : (Tryz.prog.make == some Rows.shelfHanoiRow.make) = true := Tryz.k_make
theorem han_closed : joinedFacts Tryz.prog 18 Tryz.f18 Rows.shelfHanoiSpec Rows.shelfHanoiRow = true := by
  unfold joinedFacts
  rw [han_k1, han_k2, han_k3, han_k4, han_k5, han_k6, han_k7, Tryz.laidOut, Tryz.k_maps, Tryz.k_stops, Tryz.k_knobs, Tryz.k_heard, Tryz.k_enter]
  kernel_rfl

set_option maxRecDepth 100000 in
theorem han_lifted (os : Os) (started : os.Started) (H : Type) (enc : TypeId × Value → H) :
    ReturnsInHanded {} Tryz.checked os 18 .any (Rows.shelfHanoiSpec.pre6 enc Tryz.prog Tryz.f18 Rows.shelfHanoiRow.domain false) (Rows.shelfHanoiSpec.post enc Tryz.prog Tryz.f18 false true false false) := by
  refine returnsInHanded_of_change_sized (C := Tryz.checked) Tryz.own started (by kernel_rfl) Tryz.func18
    (ChangeSpec.witness6 (enc := enc) (C := Tryz.checked) false ⟨#[], #[.int .u64 0], []⟩ 8 (by kernel_rfl) (by kernel_rfl) (by kernel_rfl) (by kernel_rfl)) ?_
  intro W base args ds gs before hval0 hW _ hsz0 _
  clear hsz0
  have hval : ∀ (j : Nat) t v, Tryz.f18.params[j]? = some t → args[j]? = some v → Value.okWide Tryz.prog W .any base t v := hval0
  have hW' := hW
  obtain ⟨p, q, hA0, hV, rfl, _, _⟩ := hW
  have hA : DataW.TrodAll enc Tryz.prog W 0 (fun _ => true) true Tryz.f18.params.toList args.toList ds p := hA0
  rw [Tryz.params18] at hA hval
  obtain ⟨v0, vs0, d0, ds0, p0, q0, hargs0, rfl, rfl, h0, r0⟩ := trodAll_cons hA
  obtain ⟨rfl, rfl, rfl⟩ := trodAll_nil r0
  obtain rfl : args = #[v0] := by cases args; simp_all
  obtain ⟨rfl, rfl⟩ := trodVars_none hV
  obtain ⟨z0, rfl, rfl, rfl, wf0⟩ := open_int Tryz.underlying26 (hval 0 26 v0 rfl rfl) h0
  have b0 : 0 ≤ z0 ∧ z0 ≤ 18446744073709551615 := by simpa [Lit.wf, IntKind.min, IntKind.max, IntKind.signed, IntKind.bits] using wf0
  obtain ⟨n0, rfl⟩ : ∃ n : Nat, z0 = (n : Int) := ⟨z0.toNat, by omega⟩
  clear hA0 hval0 hval
  simp only [List.append_nil] at hW'
  have fin : ∀ e W', (e = .returned (.bool true) ∧ Below W.heap.size W W') → ∃ v, e = Ending.returned v ∧ Rows.shelfHanoiSpec.post enc Tryz.prog Tryz.f18 false true false false W #[.int .u64 (n0 : Int)] v W' := by
    rintro e W' ⟨rfl, hg⟩
    exact ⟨_, rfl, _, _, _, [], [], [], hW', trodAll_mk1 (shut_bool Tryz.underlying4 true), ⟨[], [], shut_int Tryz.underlying26 wf0, trodAll_mk0, rfl⟩, rfl, hg.frame _, fun h => by cases h⟩
  exact (han_law W n0 (by omega)).mono fin

theorem han_holds : Rows.ShelfHanoiSaid :=
  OpenClaim.holds_of_wide 18 Tryz.f18 rfl rfl rfl rfl rfl rfl rfl ⟨rfl, rfl, rfl, rfl, rfl⟩ rfl rfl rfl rfl rfl (by kernel_rfl) Tryz.func18 han_closed
    (of_decide_eq_true (by kernel_rfl)) (by unfold Func.isWrapper; first | (rw [if_pos (by decide +kernel)]; kernel_rfl) | (rw [if_neg (by decide +kernel)]; exact ⟨rfl, rfl⟩))
    (fun os started H enc _ => han_lifted os started H enc)

#print axioms han_holds
end Go.Proofs.YtgmmfjmdpbhjnaaGreat
