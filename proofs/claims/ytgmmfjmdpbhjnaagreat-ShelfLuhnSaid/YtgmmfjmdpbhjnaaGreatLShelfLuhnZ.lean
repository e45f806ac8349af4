/-
  'ShelfLuhn': for every input the law returns true, and the input reads as it did.
  Conditions: none beside the form's own.
-/
import Derived.Test.YtgmmfjmdpbhjnaaGreatLLuhG
import Derived.Test.YtgmmfjmdpbhjnaaGreatJRf
import Derived.ProofKit
import Derived.SizedLaws
namespace Go.Proofs.YtgmmfjmdpbhjnaaGreat
open Go.ChangeShapes Go.WideShapes Go.ChangeAt Go.RowKit

theorem Tryz.bytesU8 : Tryz.prog.bytesOf 5 = 1 := by kernel_rfl
theorem Tryz.cellsU8 : Tryz.prog.cellsOf 5 = 1 := by kernel_rfl
/-- bytes, out of the numbers that a reading gives -/
def toNats (zs : List Int) : List Nat := zs.map Int.toNat

set_option maxRecDepth 100000 in
theorem luh_lifted (os : Os) (started : os.Started) (H : Type) (enc : TypeId × Value → H) :
    ReturnsInHanded {} Tryz.checked os 11 .any (Rows.shelfLuhnSpec.pre6 enc Tryz.prog Tryz.f11 Rows.shelfLuhnRow.domain false) (Rows.shelfLuhnSpec.post enc Tryz.prog Tryz.f11 false true false false) := by
  refine returnsInHanded_of_change_sized (C := Tryz.checked) Tryz.own started (by kernel_rfl) Tryz.func11
    (ChangeSpec.witness6 (enc := enc) (C := Tryz.checked) false ⟨#[], #[.slice none 0 0], []⟩ 8 (by kernel_rfl) (by kernel_rfl) (by kernel_rfl) (by kernel_rfl)) ?_
  intro W base args ds gs before hval0 hW _ hsz0 _
  have hsz : (DataW.weightsEach Tryz.prog (Tryz.f11.params.toList ++ Rows.shelfLuhnSpec.plain.varTypes Tryz.prog) (ds ++ gs)).all (· ≤ reachBytes) = true := hsz0
  clear hsz0
  have hval : ∀ (j : Nat) t v, Tryz.f11.params[j]? = some t → args[j]? = some v → Value.okWide Tryz.prog W .any base t v := hval0
  have hW' := hW
  obtain ⟨p, q, hA0, hV, rfl, _, _⟩ := hW
  have hA : DataW.TrodAll enc Tryz.prog W 0 (fun _ => true) true Tryz.f11.params.toList args.toList ds p := hA0
  rw [Tryz.params11] at hA hval hsz
  obtain ⟨v0, vs0, d0, ds0, p0, q0, hargs0, rfl, rfl, h0, r0⟩ := trodAll_cons hA
  obtain ⟨rfl, rfl, rfl⟩ := trodAll_nil r0
  obtain rfl : args = #[v0] := by cases args; simp_all
  obtain ⟨rfl, rfl⟩ := trodVars_none hV
  obtain ⟨a0, len, cap, rfl⟩ := okWide_slice Tryz.underlying22 (hval 0 22 v0 rfl rfl)
  have h0k := h0
  obtain ⟨fuel, hf⟩ := h0
  clear hA0 hval0
  simp only [List.append_nil] at hW'
  have hlt : ∀ x ∈ p0, x.block < W.heap.size := fun x hx => by simpa using hW'.lt x hx
  have hargs : ∀ (W' : World), Below W.heap.size W W' → DataW.Trod enc Tryz.prog W' 0 (fun b => decide (b < W.heap.size)) true 22 (.slice a0 len cap) d0 p0 :=
    fun W' hn => Below.trod Tryz.laidOut (by kernel_rfl) (of_decide_eq_true (by kernel_rfl)) h0k hn hlt
  have fin : ∀ e W', (e = .returned (.bool true) ∧ Below W.heap.size W W') → ∃ v, e = Ending.returned v ∧ Rows.shelfLuhnSpec.post enc Tryz.prog Tryz.f11 false true false false W #[.slice a0 len cap] v W' := by
    rintro e W' ⟨rfl, hg⟩
    exact ⟨_, rfl, _, _, _, [], p0, [], hW', trodAll_mk1 (shut_bool Tryz.underlying4 true), trodAll_mk1 (hargs W' hg), rfl, hg.frame _, fun h => by cases h⟩
  rcases open_ints Tryz.underlying22 Tryz.underlying5 Tryz.cellsU8 hf with ⟨hcs, hx⟩ | ⟨a, len', cap', zs, hcs, _, hl, hm, hz, hx, hcell, hwz⟩
  · simp [Value.cells] at hcs
    obtain ⟨rfl, rfl, rfl⟩ := hcs
    exact (luh_law W none 0 [] (fun k v hk => by simp at hk) (fun _ => rfl) (by simp)).mono fin
  · simp [Value.cells] at hcs
    obtain ⟨rfl, rfl, rfl⟩ := hcs
    simp only [Prod.mk.injEq] at hx
    obtain ⟨rfl, rfl⟩ := hx
    simp only [if_true] at hz
    have hlz : len ≤ zs.length := by omega
    have hll : (toNats (zs.take len)).length = len := by simp [toNats]; omega
    have hreach : len ≤ 140737488351232 := by
      have := sized_slice hsz (j := 0) (t := 22) (e := 5) rfl rfl Tryz.underlying22
      rw [Tryz.bytesU8] at this
      simp only [lits, List.length_map, List.length_take, List.length_drop, reachBytes] at this
      omega
    have key := luh_law W (some a) cap (toNats (zs.take len)) (fun k v hk => ?_) (fun e => by cases e) (by rw [hll]; exact hreach)
    · rw [hll] at key; exact key.mono fin
    · have hkl : k < len := by have := (List.getElem?_eq_some_iff.1 hk).1; omega
      obtain ⟨b, off, spot⟩ := a
      have hspot : spot = none := by simpa [Addr.add] using World.cell?_spot (hcell 0 (by omega))
      subst hspot
      have hc := hcell k (by omega)
      have hkz : k < zs.length := by omega
      have hv : v = (zs.getD k 0).toNat := by
        unfold toNats at hk
        rw [List.getElem?_map, List.getElem?_take, if_pos hkl, List.getElem?_eq_getElem hkz] at hk
        simp only [Option.map_some, Option.some.injEq] at hk
        simp [List.getD, hkz, ← hk]
      have hwf := hwz zs[k] (List.getElem_mem hkz)
      have hbz : 0 ≤ zs[k] ∧ zs[k] ≤ 255 := by simpa [Lit.wf, IntKind.min, IntKind.max, IntKind.signed, IntKind.bits] using hwf
      have hgd : zs.getD k 0 = zs[k] := by simp [List.getD, hkz]
      rw [hgd] at hv
      refine ⟨by omega, b, off, rfl, ?_, ?_⟩
      · have ea : (⟨b, off, none⟩ : Addr).add k = ⟨b, off + k, none⟩ := by simp [Addr.add]
        rw [ea] at hc
        exact World.block_lt_of_cell? W ⟨b, off + k, none⟩ hc
      · have ea : (⟨b, off, none⟩ : Addr).add k = ⟨b, off + k, none⟩ := by simp [Addr.add]
        rw [ea] at hc
        rw [hc, hv]
        simp [List.getD, hkz]
        omega

theorem luh_k1 : (Rows.shelfLuhnRow.inPlace == Tryz.prog.inPlace 11) = true := by kernel_rfl
theorem luh_k2 : (Rows.shelfLuhnRow.unfollowed == Tryz.prog.unfollowed 11) = true := by kernel_rfl
theorem luh_k3 : (Rows.shelfLuhnRow.recurses == Tryz.prog.recurses 11) = true := by kernel_rfl
theorem luh_k4 : (Rows.shelfLuhnRow.named == Tryz.prog.varsNamed 11) = true := by kernel_rfl
theorem luh_k5 : (Rows.shelfLuhnRow.plainKeys == Tryz.prog.plainKeys) = true := Tryz.k_keys
theorem luh_k6 : (Rows.shelfLuhnRow.lifted == Tryz.prog.liftsFinal) = true := Tryz.k_lifts
theorem luh_k7 : (Tryz.prog.make == some Rows.shelfLuhnRow.make) = true := Tryz.k_make
theorem luh_holds : Rows.ShelfLuhnSaid :=
  OpenClaim.holds_of_wide 11 Tryz.f11 rfl rfl rfl rfl rfl rfl rfl ⟨rfl, rfl, rfl, rfl, rfl⟩ rfl rfl rfl rfl rfl (by kernel_rfl) Tryz.func11 (by
      unfold joinedFacts
      rw [show Tryz.pinned.checked.prog = Tryz.prog from rfl, luh_k1, luh_k2, luh_k3, luh_k4, luh_k5, luh_k6, luh_k7, Tryz.laidOut, Tryz.k_maps, Tryz.k_stops, Tryz.k_knobs, Tryz.k_heard, Tryz.k_enter]
      kernel_rfl)
    (of_decide_eq_true (by kernel_rfl)) (by unfold Func.isWrapper; first | (rw [if_pos (by decide +kernel)]; kernel_rfl) | (rw [if_neg (by decide +kernel)]; exact ⟨rfl, rfl⟩))
    (fun os started H enc _ => luh_lifted os started H enc)

#print axioms luh_holds
end Go.Proofs.YtgmmfjmdpbhjnaaGreat
