/-
  'ShelfModpow': for every input the law returns true, and the input reads as it did.
  Conditions: none beside the form's own.
-/
import Derived.Test.YtgmmfjmdpbhjnaaGreatLModG
import Derived.Test.YtgmmfjmdpbhjnaaGreatJRf
import Derived.SizedLaws
namespace Go.Proofs.YtgmmfjmdpbhjnaaGreat
open Go.ChangeShapes Go.WideShapes Go.ChangeAt Go.RowKit

/-! what the row says of the program that it reaches -/
theorem mod_k1 : (Rows.shelfModpowRow.inPlace == Tryz.prog.inPlace 15) = true := by kernel_rfl
theorem mod_k2 : (Rows.shelfModpowRow.unfollowed == Tryz.prog.unfollowed 15) = true := by kernel_rfl
theorem mod_k3 : (Rows.shelfModpowRow.recurses == Tryz.prog.recurses 15) = true := by kernel_rfl
theorem mod_k4 : (Rows.shelfModpowRow.named == Tryz.prog.varsNamed 15) = true := by kernel_rfl
theorem mod_k5 : (Rows.shelfModpowRow.plainKeys == Tryz.prog.plainKeys) = true := Tryz.k_keys
theorem mod_k6 : (Rows.shelfModpowRow.lifted == Tryz.prog.liftsFinal) = true := Tryz.k_lifts
theorem mod_k7 : (Tryz.prog.make == some Rows.shelfModpowRow.make) = true := Tryz.k_make
theorem mod_closed : joinedFacts Tryz.prog 15 Tryz.f15 Rows.shelfModpowSpec Rows.shelfModpowRow = true := by
  unfold joinedFacts
  rw [mod_k1, mod_k2, mod_k3, mod_k4, mod_k5, mod_k6, mod_k7, Tryz.laidOut, Tryz.k_maps, Tryz.k_stops, Tryz.k_knobs, Tryz.k_heard, Tryz.k_enter]
  kernel_rfl

set_option maxRecDepth 100000 in
theorem mod_lifted (os : Os) (started : os.Started) (H : Type) (enc : TypeId × Value → H) :
    ReturnsInHanded {} Tryz.checked os 15 .any (Rows.shelfModpowSpec.pre6 enc Tryz.prog Tryz.f15 Rows.shelfModpowRow.domain false) (Rows.shelfModpowSpec.post enc Tryz.prog Tryz.f15 false true false false) := by
  refine returnsInHanded_of_change_sized (C := Tryz.checked) Tryz.own started (by kernel_rfl) Tryz.func15
    (ChangeSpec.witness6 (enc := enc) (C := Tryz.checked) false ⟨#[], #[.int .u64 0, .int .u64 0, .int .u64 0], []⟩ 8 (by kernel_rfl) (by kernel_rfl) (by kernel_rfl) (by kernel_rfl)) ?_
  intro W base args ds gs before hval0 hW _ hsz0 _
  clear hsz0
  have hval : ∀ (j : Nat) t v, Tryz.f15.params[j]? = some t → args[j]? = some v → Value.okWide Tryz.prog W .any base t v := hval0
  have hW' := hW
  obtain ⟨p, q, hA0, hV, rfl, _, _⟩ := hW
  have hA : DataW.TrodAll enc Tryz.prog W 0 (fun _ => true) true Tryz.f15.params.toList args.toList ds p := hA0
  rw [Tryz.params15] at hA hval
  obtain ⟨v0, vs0, d0, ds0, p0, q0, hargs0, rfl, rfl, h0, r0⟩ := trodAll_cons hA
  obtain ⟨v1, vs1, d1, ds1, p1, q1, rfl, rfl, rfl, h1, r1⟩ := trodAll_cons r0
  obtain ⟨v2, vs2, d2, ds2, p2, q2, rfl, rfl, rfl, h2, r2⟩ := trodAll_cons r1
  obtain ⟨rfl, rfl, rfl⟩ := trodAll_nil r2
  obtain rfl : args = #[v0, v1, v2] := by cases args; simp_all
  obtain ⟨rfl, rfl⟩ := trodVars_none hV
  obtain ⟨z0, rfl, rfl, rfl, wf0⟩ := open_int Tryz.underlying26 (hval 0 26 v0 rfl rfl) h0
  obtain ⟨z1, rfl, rfl, rfl, wf1⟩ := open_int Tryz.underlying26 (hval 1 26 v1 rfl rfl) h1
  obtain ⟨z2, rfl, rfl, rfl, wf2⟩ := open_int Tryz.underlying26 (hval 2 26 v2 rfl rfl) h2
  have b0 : 0 ≤ z0 ∧ z0 ≤ 18446744073709551615 := by simpa [Lit.wf, IntKind.min, IntKind.max, IntKind.signed, IntKind.bits] using wf0
  obtain ⟨n0, rfl⟩ : ∃ n : Nat, z0 = (n : Int) := ⟨z0.toNat, by omega⟩
  have b1 : 0 ≤ z1 ∧ z1 ≤ 18446744073709551615 := by simpa [Lit.wf, IntKind.min, IntKind.max, IntKind.signed, IntKind.bits] using wf1
  obtain ⟨n1, rfl⟩ : ∃ n : Nat, z1 = (n : Int) := ⟨z1.toNat, by omega⟩
  have b2 : 0 ≤ z2 ∧ z2 ≤ 18446744073709551615 := by simpa [Lit.wf, IntKind.min, IntKind.max, IntKind.signed, IntKind.bits] using wf2
  obtain ⟨n2, rfl⟩ : ∃ n : Nat, z2 = (n : Int) := ⟨z2.toNat, by omega⟩
  clear hA0 hval0 hval
  simp only [List.append_nil] at hW'
  have fin : ∀ e W', (e = .returned (.bool true) ∧ Below W.heap.size W W') → ∃ v, e = Ending.returned v ∧ Rows.shelfModpowSpec.post enc Tryz.prog Tryz.f15 false true false false W #[.int .u64 (n0 : Int), .int .u64 (n1 : Int), .int .u64 (n2 : Int)] v W' := by
    rintro e W' ⟨rfl, hg⟩
    exact ⟨_, rfl, _, _, _, [], [], [], hW', trodAll_mk1 (shut_bool Tryz.underlying4 true), ⟨[], [], shut_int Tryz.underlying26 wf0, ⟨[], [], shut_int Tryz.underlying26 wf1, ⟨[], [], shut_int Tryz.underlying26 wf2, trodAll_mk0, rfl⟩, rfl⟩, rfl⟩, rfl, hg.frame _, fun h => by cases h⟩
  exact (mod_law W n0 n1 n2 (by omega) (by omega) (by omega)).mono fin

theorem mod_holds : Rows.ShelfModpowSaid :=
  OpenClaim.holds_of_wide 15 Tryz.f15 rfl rfl rfl rfl rfl rfl rfl ⟨rfl, rfl, rfl, rfl, rfl⟩ rfl rfl rfl rfl rfl (by kernel_rfl) Tryz.func15 mod_closed
    (of_decide_eq_true (by kernel_rfl)) (by unfold Func.isWrapper; first | (rw [if_pos (by decide +kernel)]; kernel_rfl) | (rw [if_neg (by decide +kernel)]; exact ⟨rfl, rfl⟩))
    (fun os started H enc _ => mod_lifted os started H enc)

#print axioms mod_holds
end Go.Proofs.YtgmmfjmdpbhjnaaGreat
