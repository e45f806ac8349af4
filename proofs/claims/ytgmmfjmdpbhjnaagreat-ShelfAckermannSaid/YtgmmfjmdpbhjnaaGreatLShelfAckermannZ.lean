/-
  'ShelfAckermann': for every input the law returns true, and the input reads as it did.
  Conditions: none beside the form's own.
-/
import Derived.Test.YtgmmfjmdpbhjnaaGreatLAckG
import Derived.Test.YtgmmfjmdpbhjnaaGreatJRf
import Derived.SizedLaws
namespace Go.Proofs.YtgmmfjmdpbhjnaaGreat
open Go.ChangeShapes Go.WideShapes Go.ChangeAt Go.RowKit

/-! what the row says of the program that it reaches -/
theorem ack_k1 : (Rows.shelfAckermannRow.inPlace == Tryz.prog.inPlace 16) = true := by kernel_rfl
theorem ack_k2 : (Rows.shelfAckermannRow.unfollowed == Tryz.prog.unfollowed 16) = true := by kernel_rfl
theorem ack_k3 : (Rows.shelfAckermannRow.recurses == Tryz.prog.recurses 16) = true := by kernel_rfl
theorem ack_k4 : (Rows.shelfAckermannRow.named == Tryz.prog.varsNamed 16) = true := by kernel_rfl
theorem ack_k5 : (Rows.shelfAckermannRow.plainKeys == Tryz.prog.plainKeys) = true := Tryz.k_keys
theorem ack_k6 : (Rows.shelfAckermannRow.lifted == Tryz.prog.liftsFinal) = true := Tryz.k_lifts
theorem ack_k7 : (Tryz.prog.make == some Rows.shelfAckermannRow.make) = true := Tryz.k_make
theorem ack_closed : joinedFacts Tryz.prog 16 Tryz.f16 Rows.shelfAckermannSpec Rows.shelfAckermannRow = true := by
  unfold joinedFacts
  rw [ack_k1, ack_k2, ack_k3, ack_k4, ack_k5, ack_k6, ack_k7, Tryz.laidOut, Tryz.k_maps, Tryz.k_stops, Tryz.k_knobs, Tryz.k_heard, Tryz.k_enter]
  kernel_rfl

set_option maxRecDepth 100000 in
theorem ack_lifted (os : Os) (started : os.Started) (H : Type) (enc : TypeId × Value → H) :
    ReturnsInHanded {} Tryz.checked os 16 .any (Rows.shelfAckermannSpec.pre6 enc Tryz.prog Tryz.f16 Rows.shelfAckermannRow.domain false) (Rows.shelfAckermannSpec.post enc Tryz.prog Tryz.f16 false true false false) := by
  refine returnsInHanded_of_change_sized (C := Tryz.checked) Tryz.own started (by kernel_rfl) Tryz.func16
    (ChangeSpec.witness6 (enc := enc) (C := Tryz.checked) false ⟨#[], #[.int .u64 0, .int .u64 0], []⟩ 8 (by kernel_rfl) (by kernel_rfl) (by kernel_rfl) (by kernel_rfl)) ?_
  intro W base args ds gs before hval0 hW _ hsz0 _
  clear hsz0
  have hval : ∀ (j : Nat) t v, Tryz.f16.params[j]? = some t → args[j]? = some v → Value.okWide Tryz.prog W .any base t v := hval0
  have hW' := hW
  obtain ⟨p, q, hA0, hV, rfl, _, _⟩ := hW
  have hA : DataW.TrodAll enc Tryz.prog W 0 (fun _ => true) true Tryz.f16.params.toList args.toList ds p := hA0
  rw [Tryz.params16] at hA hval
  obtain ⟨v0, vs0, d0, ds0, p0, q0, hargs0, rfl, rfl, h0, r0⟩ := trodAll_cons hA
  obtain ⟨v1, vs1, d1, ds1, p1, q1, rfl, rfl, rfl, h1, r1⟩ := trodAll_cons r0
  obtain ⟨rfl, rfl, rfl⟩ := trodAll_nil r1
  obtain rfl : args = #[v0, v1] := by cases args; simp_all
  obtain ⟨rfl, rfl⟩ := trodVars_none hV
  obtain ⟨z0, rfl, rfl, rfl, wf0⟩ := open_int Tryz.underlying26 (hval 0 26 v0 rfl rfl) h0
  obtain ⟨z1, rfl, rfl, rfl, wf1⟩ := open_int Tryz.underlying26 (hval 1 26 v1 rfl rfl) h1
  have b0 : 0 ≤ z0 ∧ z0 ≤ 18446744073709551615 := by simpa [Lit.wf, IntKind.min, IntKind.max, IntKind.signed, IntKind.bits] using wf0
  obtain ⟨n0, rfl⟩ : ∃ n : Nat, z0 = (n : Int) := ⟨z0.toNat, by omega⟩
  have b1 : 0 ≤ z1 ∧ z1 ≤ 18446744073709551615 := by simpa [Lit.wf, IntKind.min, IntKind.max, IntKind.signed, IntKind.bits] using wf1
  obtain ⟨n1, rfl⟩ : ∃ n : Nat, z1 = (n : Int) := ⟨z1.toNat, by omega⟩
  clear hA0 hval0 hval
  simp only [List.append_nil] at hW'
  have fin : ∀ e W', (e = .returned (.bool true) ∧ Below W.heap.size W W') → ∃ v, e = Ending.returned v ∧ Rows.shelfAckermannSpec.post enc Tryz.prog Tryz.f16 false true false false W #[.int .u64 (n0 : Int), .int .u64 (n1 : Int)] v W' := by
    rintro e W' ⟨rfl, hg⟩
    exact ⟨_, rfl, _, _, _, [], [], [], hW', trodAll_mk1 (shut_bool Tryz.underlying4 true), ⟨[], [], shut_int Tryz.underlying26 wf0, ⟨[], [], shut_int Tryz.underlying26 wf1, trodAll_mk0, rfl⟩, rfl⟩, rfl, hg.frame _, fun h => by cases h⟩
  exact (ack_law W n0 n1 (by omega) (by omega)).mono fin

theorem ack_holds : Rows.ShelfAckermannSaid :=
  OpenClaim.holds_of_wide 16 Tryz.f16 rfl rfl rfl rfl rfl rfl rfl ⟨rfl, rfl, rfl, rfl, rfl⟩ rfl rfl rfl rfl rfl (by kernel_rfl) Tryz.func16 ack_closed
    (of_decide_eq_true (by kernel_rfl)) (by unfold Func.isWrapper; first | (rw [if_pos (by decide +kernel)]; kernel_rfl) | (rw [if_neg (by decide +kernel)]; exact ⟨rfl, rfl⟩))
    (fun os started H enc _ => ack_lifted os started H enc)

#print axioms ack_holds
end Go.Proofs.YtgmmfjmdpbhjnaaGreat
