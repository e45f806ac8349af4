/-
  'ShelfBase64': for every input of bulk at most 1048576 the law returns true, and the input reads as it did.
  Conditions: none beside the form's own.
-/
import Derived.Test.YtgmmfjmdpbhjnaaGreatLB64G
import Derived.Test.YtgmmfjmdpbhjnaaGreatJRf
import Derived.ProofKit
import Derived.JoinedCond
namespace Go.Proofs.YtgmmfjmdpbhjnaaGreat
open Go.ChangeShapes Go.WideShapes Go.ChangeAt Go.RowKit

theorem Tryz.cellsU8 : Tryz.prog.cellsOf 5 = 1 := by kernel_rfl
/-- bytes, out of the numbers that a reading gives -/
def toNats (zs : List Int) : List Nat := zs.map Int.toNat

theorem one_le {H : Type} (d : DataW H) : 1 ≤ Rows.uptoBulk d := by
  cases d with
  | lit l => cases l <;> simp [Rows.uptoBulk]
  | nil => simp [Rows.uptoBulk]
  | ptr d => simp [Rows.uptoBulk]
  | slice elems spare => simp [Rows.uptoBulk]
  | agg parts => simp [Rows.uptoBulk]
  | iface t d => simp [Rows.uptoBulk]
  | map entries => simp [Rows.uptoBulk]
  | held h => simp [Rows.uptoBulk]
theorem bulk_length {H : Type} (l : List (DataW H)) : l.length ≤ Rows.uptoBulkAll l := by
  induction l with
  | nil => simp [Rows.uptoBulkAll]
  | cons x r ih => have := one_le x; simp only [Rows.uptoBulkAll, List.length_cons]; omega
theorem bulk_slice {H : Type} {elems spare : List (DataW H)} (hk : Rows.uptoSmall H ([.slice elems spare] ++ []) = true) : elems.length + spare.length ≤ 1048576 := by
  have h : Rows.uptoBulkAll ([DataW.slice elems spare] ++ []) ≤ 1048576 := of_decide_eq_true hk
  simp only [List.append_nil, Rows.uptoBulkAll, Rows.uptoBulk] at h
  have h1 := bulk_length elems
  have h2 := bulk_length spare
  omega

set_option maxRecDepth 100000 in
theorem b64_lifted (os : Os) (started : os.Started) (H : Type) (enc : TypeId × Value → H) (F : Stop.Interp) :
    ReturnsInHanded {} Tryz.checked os 12 .any ((Rows.OpenSpec.upto Rows.shelfBase64Spec).pre6 enc Tryz.prog Tryz.f12 Rows.shelfBase64UptoRow.domain false) (((Rows.OpenSpec.upto Rows.shelfBase64Spec).at F).post enc Tryz.prog Tryz.f12 false true false false) := by
  refine returnsInHanded_of_cond (C := Tryz.checked) (s := Rows.OpenSpec.upto Rows.shelfBase64Spec) (k := Rows.uptoSmall) rfl Tryz.own started (by kernel_rfl) Tryz.func12
    (OpenSpec.witness (enc := enc) (C := Tryz.checked) (s := Rows.OpenSpec.upto Rows.shelfBase64Spec) (k := Rows.uptoSmall) rfl false ⟨#[], #[.slice none 0 0], []⟩ 8 (by kernel_rfl) (by kernel_rfl) (by kernel_rfl)
      (x := ([.nil], [], [])) (by kernel_rfl) rfl (by kernel_rfl)) ?_
  intro W base args ds gs before hval0 hW _ hk _
  have hval : ∀ (j : Nat) t v, Tryz.f12.params[j]? = some t → args[j]? = some v → Value.okWide Tryz.prog W .any base t v := hval0
  have hW' := hW
  obtain ⟨p, q, hA0, hV, rfl, _, _⟩ := hW
  have hA : DataW.TrodAll enc Tryz.prog W 0 (fun _ => true) true Tryz.f12.params.toList args.toList ds p := hA0
  rw [Tryz.params12] at hA hval
  obtain ⟨v0, vs0, d0, ds0, p0, q0, hargs0, rfl, rfl, h0, r0⟩ := trodAll_cons hA
  obtain ⟨rfl, rfl, rfl⟩ := trodAll_nil r0
  obtain rfl : args = #[v0] := by cases args; simp_all
  obtain ⟨rfl, rfl⟩ := trodVars_none hV
  obtain ⟨a0, len, cap, rfl⟩ := okWide_slice Tryz.underlying22 (hval 0 22 v0 rfl rfl)
  have h0k := h0
  obtain ⟨fuel, hf⟩ := h0
  clear hA0 hval0
  simp only [List.append_nil] at hW'
  have hlt : ∀ x ∈ p0, x.block < W.heap.size := fun x hx => by simpa using hW'.lt x hx
  have hargs : ∀ (W' : World), Below W.heap.size W W' → DataW.Trod enc Tryz.prog W' 0 (fun b => decide (b < W.heap.size)) true 22 (.slice a0 len cap) d0 p0 :=
    fun W' hn => Below.trod Tryz.laidOut (by kernel_rfl) (of_decide_eq_true (by kernel_rfl)) h0k hn hlt
  have fin : ∀ e W', (e = .returned (.bool true) ∧ Below W.heap.size W W') → ∃ v, e = Ending.returned v ∧ Rows.shelfBase64Spec.post enc Tryz.prog Tryz.f12 false true false false W #[.slice a0 len cap] v W' := by
    rintro e W' ⟨rfl, hg⟩
    exact ⟨_, rfl, _, _, _, [], p0, [], hW', trodAll_mk1 (shut_bool Tryz.underlying4 true), trodAll_mk1 (hargs W' hg), rfl, hg.frame _, fun h => by cases h⟩
  rcases open_ints Tryz.underlying22 Tryz.underlying5 Tryz.cellsU8 hf with ⟨hcs, hx⟩ | ⟨a, len', cap', zs, hcs, _, hl, hm, hz, hx, hcell, hwz⟩
  · simp [Value.cells] at hcs
    obtain ⟨rfl, rfl, rfl⟩ := hcs
    exact (b64_law W none 0 [] (fun k v hk => by simp at hk) (fun _ => rfl) (by simp)).mono fin
  · simp [Value.cells] at hcs
    obtain ⟨rfl, rfl, rfl⟩ := hcs
    simp only [Prod.mk.injEq] at hx
    obtain ⟨rfl, rfl⟩ := hx
    simp only [if_true] at hz
    have hlz : len ≤ zs.length := by omega
    have hll : (toNats (zs.take len)).length = len := by simp [toNats]; omega
    have hreach : len ≤ 1048576 := by
      have := bulk_slice hk
      simp only [lits, List.length_map, List.length_take, List.length_drop] at this
      omega
    have key := b64_law W (some a) cap (toNats (zs.take len)) (fun k v hk => ?_) (fun e => by cases e) (by rw [hll]; exact hreach)
    · rw [hll] at key; exact key.mono fin
    · have hkl : k < len := by have := (List.getElem?_eq_some_iff.1 hk).1; omega
      obtain ⟨b, off, spot⟩ := a
      have hspot : spot = none := by simpa [Addr.add] using World.cell?_spot (hcell 0 (by omega))
      subst hspot
      have hc := hcell k (by omega)
      have hkz : k < zs.length := by omega
      have hv : v = (zs.getD k 0).toNat := by
        unfold toNats at hk
        rw [List.getElem?_map, List.getElem?_take, if_pos hkl, List.getElem?_eq_getElem hkz] at hk
        simp only [Option.map_some, Option.some.injEq] at hk
        simp [List.getD, hkz, ← hk]
      have hwf := hwz zs[k] (List.getElem_mem hkz)
      have hbz : 0 ≤ zs[k] ∧ zs[k] ≤ 255 := by simpa [Lit.wf, IntKind.min, IntKind.max, IntKind.signed, IntKind.bits] using hwf
      have hgd : zs.getD k 0 = zs[k] := by simp [List.getD, hkz]
      rw [hgd] at hv
      refine ⟨by omega, b, off, rfl, ?_, ?_⟩
      · have ea : (⟨b, off, none⟩ : Addr).add k = ⟨b, off + k, none⟩ := by simp [Addr.add]
        rw [ea] at hc
        exact World.block_lt_of_cell? W ⟨b, off + k, none⟩ hc
      · have ea : (⟨b, off, none⟩ : Addr).add k = ⟨b, off + k, none⟩ := by simp [Addr.add]
        rw [ea] at hc
        rw [hc, hv]
        simp [List.getD, hkz]
        omega

theorem b64_k1 : (Rows.shelfBase64UptoRow.inPlace == Tryz.prog.inPlace 12) = true := by kernel_rfl
theorem b64_k2 : (Rows.shelfBase64UptoRow.unfollowed == Tryz.prog.unfollowed 12) = true := by kernel_rfl
theorem b64_k3 : (Rows.shelfBase64UptoRow.recurses == Tryz.prog.recurses 12) = true := by kernel_rfl
theorem b64_k4 : (Rows.shelfBase64UptoRow.named == Tryz.prog.varsNamed 12) = true := by kernel_rfl
theorem b64_k5 : (Rows.shelfBase64UptoRow.plainKeys == Tryz.prog.plainKeys) = true := Tryz.k_keys
theorem b64_k6 : (Rows.shelfBase64UptoRow.lifted == Tryz.prog.liftsFinal) = true := Tryz.k_lifts
theorem b64_k7 : (Tryz.prog.make == some Rows.shelfBase64UptoRow.make) = true := Tryz.k_make
theorem b64_holds : Rows.ShelfBase64UptoSaid :=
  OpenClaim.holds_of_cond 12 Tryz.f12 rfl rfl rfl rfl rfl rfl rfl ⟨rfl, rfl, rfl, rfl, rfl⟩ rfl rfl rfl rfl rfl (by kernel_rfl) Tryz.func12 (by
      unfold joinedFacts
      rw [show Tryz.pinned.checked.prog = Tryz.prog from rfl, b64_k1, b64_k2, b64_k3, b64_k4, b64_k5, b64_k6, b64_k7, Tryz.laidOut, Tryz.k_maps, Tryz.k_stops, Tryz.k_knobs, Tryz.k_heard, Tryz.k_enter]
      kernel_rfl)
    (of_decide_eq_true (by kernel_rfl)) (by unfold Func.isWrapper; first | (rw [if_pos (by decide +kernel)]; kernel_rfl) | (rw [if_neg (by decide +kernel)]; exact ⟨rfl, rfl⟩))
    (fun os started H enc _ F => b64_lifted os started H enc F)

#print axioms b64_holds
end Go.Proofs.YtgmmfjmdpbhjnaaGreat
