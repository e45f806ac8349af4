/-
  'ObjectTells': for every image and all bytes the law returns true, and the arguments read as they did.
  Conditions: none beside the form's own.
-/
import Derived.Test.YtoifodabfpbjlaaImg
import Derived.Test.YtoifodabfpbjlaaTellW
import Derived.Carry
namespace Go.Proofs.Ytoifodabfpbjlaa
open Go.ChangeShapes Go.WideShapes Go.ChangeAt Go.RowKit

/-- an image that is an argument, and what of it is nil -/
theorem open_image2 {H : Type} {enc : TypeId × Value → H} {W : World} {r : Reach} {b0 base : Nat} {spare : Nat → Bool} {held : Bool} {v : Value} {d : DataW H} {p : List MemPlace}
    (hv : Value.okWide Try.prog W r b0 29 v) (h : DataW.Trod enc Try.prog W base spare held 29 v d p) :
    ∃ aw lw cw au lu cu as' ls cs ws us sp, v = .agg #[.slice aw lw cw, .slice au lu cu, .slice as' ls cs] ∧ ws.length = lw ∧ us.length = lu ∧ sp.length = ls ∧
      Cells W aw lw (zints ws) ∧ Cells W au lu (zints us) ∧ Cells W as' (2 * ls) (spotsV sp) ∧ (aw = none → lw = 0 ∧ cw = 0) ∧ (au = none → lu = 0 ∧ cu = 0) := by
  obtain ⟨v0, v1, v2, y0, y1, y2, n, rfl, -, -, h0, h1, h2⟩ := Go.Joins.open_agg3 Try.underlying29 (by kernel_rfl) Try.cells29 hv h
  have nil : ∀ {fuel : Nat} {v : Value} {x : DataW H × List MemPlace}, DataW.trod enc Try.prog W base spare held fuel 26 [v] = some x → ∀ a l c, v = .slice a l c → a = none → l = 0 ∧ c = 0 := by
    intro fuel v x h a l c hv ha
    rcases open_ints Try.underlying26 Try.underlying3 Try.cells3 h with ⟨hcs, hx⟩ | ⟨a', l', c', zs, hcs, _⟩
    · cases hcs; cases hv; exact ⟨rfl, rfl⟩
    · cases hcs; cases hv; cases ha
  obtain ⟨aw, lw, cw, ws, rfl, e1, -, -, c1⟩ := ints_cells h0
  obtain ⟨au, lu, cu, us, rfl, e2, -, -, c2⟩ := ints_cells h1
  obtain ⟨as', ls, cs, sp, rfl, e3, -, -, c3⟩ := spots_cells h2
  exact ⟨aw, lw, cw, au, lu, cu, as', ls, cs, ws, us, sp, rfl, e1, e2, e3, c1, c2, c3, nil h0 _ _ _ rfl, nil h1 _ _ _ rfl⟩

set_option maxRecDepth 100000 in
theorem tells_lifted (os : Os) (started : os.Started) (H : Type) (enc : TypeId × Value → H) :
    ReturnsInHanded {} Try.checked os 4 .any (Rows.objectTellsSpec.pre6 enc Try.prog Try.f4 Rows.objectTellsRow.domain false) (Rows.objectTellsSpec.post enc Try.prog Try.f4 false true false false) := by
  refine returnsInHanded_of_change_sized (C := Try.checked) Try.own started (by kernel_rfl) Try.func4
    (ChangeSpec.witness6 (enc := enc) (C := Try.checked) false ⟨#[], #[.agg #[.slice none 0 0, .slice none 0 0, .slice none 0 0], .slice none 0 0], []⟩ 8 (by kernel_rfl) (by kernel_rfl) (by kernel_rfl) (by kernel_rfl)) ?_
  intro W base args ds gs before hval0 hW _ hsz0 _
  have hsz : (DataW.weightsEach Try.prog (Try.f4.params.toList ++ Rows.objectTellsSpec.plain.varTypes Try.prog) (ds ++ gs)).all (· ≤ reachBytes) = true := hsz0
  clear hsz0
  have hval : ∀ (j : Nat) t v, Try.f4.params[j]? = some t → args[j]? = some v → Value.okWide Try.prog W .any base t v := hval0
  have hW' := hW
  obtain ⟨p, q, hA0, hV, rfl, _, _⟩ := hW
  have hA : DataW.TrodAll enc Try.prog W 0 (fun _ => true) true Try.f4.params.toList args.toList ds p := hA0
  rw [Try.params4] at hA hval hsz
  obtain ⟨v0, vs0, d0, ds0, p0, q0, hargs0, rfl, rfl, h0, r0⟩ := trodAll_cons hA
  obtain ⟨v1, vs1, d1, ds1, p1, q1, rfl, rfl, rfl, h1, r1⟩ := trodAll_cons r0
  obtain ⟨rfl, rfl, rfl⟩ := trodAll_nil r1
  obtain rfl : args = #[v0, v1] := by cases args; simp_all
  obtain ⟨rfl, rfl⟩ := trodVars_none hV
  simp only [List.append_nil] at hW'
  have hlt0 : ∀ x ∈ p0, x.block < W.heap.size := fun x hx => by simpa using hW'.lt x (List.mem_append_left _ hx)
  have hlt1 : ∀ x ∈ p1, x.block < W.heap.size := fun x hx => by simpa using hW'.lt x (List.mem_append_right _ hx)
  obtain ⟨aw, lw, cw, au, lu, cu, as', ls, cs, ws, us, sp, rfl, hlw, hlu, hls, hcw, hcu, hcs, nw, nu⟩ := open_image2 (hval 0 29 v0 rfl rfl) h0
  obtain ⟨a0, len0, cap0, rfl⟩ := okWide_slice Try.underlying22 (hval 1 22 v1 rfl rfl)
  have h1k := h1
  obtain ⟨fuel, hf⟩ := h1
  have hbytes : ∃ bs : List UInt8, bs.length = len0 ∧ len0 ≤ cap0 ∧ cap0 ≤ maxLen ∧ len0 ≤ 140737488351232 ∧ Cells W a0 len0 (u8s bs) := by
    rcases open_ints Try.underlying22 Try.underlying5 Try.cells5 hf with ⟨hcs, hx⟩ | ⟨a, len', cap', zs, hcs, _, hl, hm, hz, hx, hcell, hwz⟩
    · simp [Value.cells] at hcs
      obtain ⟨rfl, rfl, rfl⟩ := hcs
      exact ⟨[], rfl, Nat.le_refl _, by decide, by omega, .inl rfl⟩
    · simp [Value.cells] at hcs
      obtain ⟨rfl, rfl, rfl⟩ := hcs
      simp only [Prod.mk.injEq] at hx
      obtain ⟨rfl, rfl⟩ := hx
      simp only [if_true] at hz
      have hreach : len0 ≤ 140737488351232 := by
        have := sized_slice hsz (j := 1) (t := 22) (e := 5) rfl rfl Try.underlying22
        rw [Try.bytes5] at this
        simp only [lits, List.length_map, List.length_take, List.length_drop, reachBytes] at this
        omega
      have hlz : len0 ≤ zs.length := by omega
      refine ⟨toBytes (zs.take len0), by simp [toBytes]; omega, hl, hm, hreach, ?_⟩
      by_cases hl0 : len0 = 0
      · exact .inl hl0
      · obtain ⟨b, off, spot⟩ := a
        have hspot : spot = none := by simpa [Addr.add] using World.cell?_spot (hcell 0 (by omega))
        subst hspot
        refine .inr ⟨b, off, rfl, fun k hk => ?_⟩
        rw [toBytes_at (fun z hz => hwz z (List.mem_of_mem_take hz)) k (by simp; omega), ← add_plain]
        rw [hcell k (by omega)]
        simp [List.getD, hk]
  obtain ⟨bs, hlb, hcap, hcap2, hlb2, hcb⟩ := hbytes
  refine (tells_any aw au as' a0 lw cw lu cu ls cs len0 cap0 ws us sp bs W hlw hlu hls hcw hcu hcs nw nu hlb hcap hcap2 hlb2 hcb).mono ?_
  rintro e W' ⟨rfl, hg⟩
  have hargs0 : DataW.Trod enc Try.prog W' 0 (fun b => decide (b < W.heap.size)) true 29 _ d0 p0 :=
    Below.trod Try.laidOut (by kernel_rfl) (of_decide_eq_true (by kernel_rfl)) h0 hg hlt0
  have hargs1 : DataW.Trod enc Try.prog W' 0 (fun b => decide (b < W.heap.size)) true 22 _ d1 p1 :=
    Below.trod Try.laidOut (by kernel_rfl) (of_decide_eq_true (by kernel_rfl)) h1k hg hlt1
  exact ⟨_, rfl, _, _, _, [], p0 ++ p1, [], hW', trodAll_mk1 (shut_bool Try.underlying4 true), trodAll_mk2 hargs0 hargs1, rfl, hg.frame _, fun h => by cases h⟩

theorem tells_holds : Rows.ObjectTellsSaid :=
  OpenClaim.holds_of_wide 4 Try.f4 rfl rfl rfl rfl rfl rfl rfl ⟨rfl, rfl, rfl, rfl, rfl⟩ rfl rfl rfl rfl rfl (by kernel_rfl) Try.func4 (by kernel_rfl)
    (of_decide_eq_true (by kernel_rfl)) (by unfold Func.isWrapper; first | (rw [if_pos (by decide +kernel)]; kernel_rfl) | (rw [if_neg (by decide +kernel)]; exact ⟨rfl, rfl⟩))
    (fun os started H enc _ => tells_lifted os started H enc)

#print axioms tells_holds
end Go.Proofs.Ytoifodabfpbjlaa
