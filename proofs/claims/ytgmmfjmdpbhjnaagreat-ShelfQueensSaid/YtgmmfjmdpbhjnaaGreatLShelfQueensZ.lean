/-
  'ShelfQueens': for every input the law returns true, and the input reads as it did.
  Conditions: none beside the form's own.
-/
import Derived.Test.YtgmmfjmdpbhjnaaGreatLQueG
import Derived.Test.YtgmmfjmdpbhjnaaGreatJRf
import Derived.SizedLaws
namespace Go.Proofs.YtgmmfjmdpbhjnaaGreat
open Go.ChangeShapes Go.WideShapes Go.ChangeAt Go.RowKit

/-! what the row says of the program that it reaches -/
theorem que_k1 : (Rows.shelfQueensRow.inPlace == Tryz.prog.inPlace 19) = true := by kernel_rfl
theorem que_k2 : (Rows.shelfQueensRow.unfollowed == Tryz.prog.unfollowed 19) = true := by kernel_rfl
theorem que_k3 : (Rows.shelfQueensRow.recurses == Tryz.prog.recurses 19) = true := by kernel_rfl
theorem que_k4 : (Rows.shelfQueensRow.named == Tryz.prog.varsNamed 19) = true := by kernel_rfl
theorem que_k5 : (Rows.shelfQueensRow.plainKeys == Tryz.prog.plainKeys) = true := Tryz.k_keys
theorem que_k6 : (Rows.shelfQueensRow.lifted == Tryz.prog.liftsFinal) = true := Tryz.k_lifts
theorem que_k7 : (Tryz.prog.make == some Rows.shelfQueensRow.make) = true := Tryz.k_make
theorem que_closed : joinedFacts Tryz.prog 19 Tryz.f19 Rows.shelfQueensSpec Rows.shelfQueensRow = true := by
  unfold joinedFacts
  rw [que_k1, que_k2, que_k3, que_k4, que_k5, que_k6, que_k7, Tryz.laidOut, Tryz.k_maps, Tryz.k_stops, Tryz.k_knobs, Tryz.k_heard, Tryz.k_enter]
  kernel_rfl

set_option maxRecDepth 100000 in
theorem que_lifted (os : Os) (started : os.Started) (H : Type) (enc : TypeId × Value → H) :
    ReturnsInHanded {} Tryz.checked os 19 .any (Rows.shelfQueensSpec.pre6 enc Tryz.prog Tryz.f19 Rows.shelfQueensRow.domain false) (Rows.shelfQueensSpec.post enc Tryz.prog Tryz.f19 false true false false) := by
  refine returnsInHanded_of_change_sized (C := Tryz.checked) Tryz.own started (by kernel_rfl) Tryz.func19
    (ChangeSpec.witness6 (enc := enc) (C := Tryz.checked) false ⟨#[], #[.int .u64 0], []⟩ 8 (by kernel_rfl) (by kernel_rfl) (by kernel_rfl) (by kernel_rfl)) ?_
  intro W base args ds gs before hval0 hW _ hsz0 _
  clear hsz0
  have hval : ∀ (j : Nat) t v, Tryz.f19.params[j]? = some t → args[j]? = some v → Value.okWide Tryz.prog W .any base t v := hval0
  have hW' := hW
  obtain ⟨p, q, hA0, hV, rfl, _, _⟩ := hW
  have hA : DataW.TrodAll enc Tryz.prog W 0 (fun _ => true) true Tryz.f19.params.toList args.toList ds p := hA0
  rw [Tryz.params19] at hA hval
  obtain ⟨v0, vs0, d0, ds0, p0, q0, hargs0, rfl, rfl, h0, r0⟩ := trodAll_cons hA
  obtain ⟨rfl, rfl, rfl⟩ := trodAll_nil r0
  obtain rfl : args = #[v0] := by cases args; simp_all
  obtain ⟨rfl, rfl⟩ := trodVars_none hV
  obtain ⟨z0, rfl, rfl, rfl, wf0⟩ := open_int Tryz.underlying26 (hval 0 26 v0 rfl rfl) h0
  have b0 : 0 ≤ z0 ∧ z0 ≤ 18446744073709551615 := by simpa [Lit.wf, IntKind.min, IntKind.max, IntKind.signed, IntKind.bits] using wf0
  obtain ⟨n0, rfl⟩ : ∃ n : Nat, z0 = (n : Int) := ⟨z0.toNat, by omega⟩
  clear hA0 hval0 hval
  simp only [List.append_nil] at hW'
  have fin : ∀ e W', (e = .returned (.bool true) ∧ Below W.heap.size W W') → ∃ v, e = Ending.returned v ∧ Rows.shelfQueensSpec.post enc Tryz.prog Tryz.f19 false true false false W #[.int .u64 (n0 : Int)] v W' := by
    rintro e W' ⟨rfl, hg⟩
    exact ⟨_, rfl, _, _, _, [], [], [], hW', trodAll_mk1 (shut_bool Tryz.underlying4 true), ⟨[], [], shut_int Tryz.underlying26 wf0, trodAll_mk0, rfl⟩, rfl, hg.frame _, fun h => by cases h⟩
  exact (que_law W n0 (by omega)).mono fin

theorem que_holds : Rows.ShelfQueensSaid :=
  OpenClaim.holds_of_wide 19 Tryz.f19 rfl rfl rfl rfl rfl rfl rfl ⟨rfl, rfl, rfl, rfl, rfl⟩ rfl rfl rfl rfl rfl (by kernel_rfl) Tryz.func19 que_closed
    (of_decide_eq_true (by kernel_rfl)) (by unfold Func.isWrapper; first | (rw [if_pos (by decide +kernel)]; kernel_rfl) | (rw [if_neg (by decide +kernel)]; exact ⟨rfl, rfl⟩))
    (fun os started H enc _ => que_lifted os started H enc)

#print axioms que_holds
end Go.Proofs.YtgmmfjmdpbhjnaaGreat
