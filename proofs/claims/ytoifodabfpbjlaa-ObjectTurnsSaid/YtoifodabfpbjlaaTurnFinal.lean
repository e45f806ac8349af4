/-
  'ObjectTurns': for every image and all bytes the law returns true, and the arguments read as they did.
  Conditions: none beside the form's own.
-/
import Derived.Test.YtoifodabfpbjlaaImg
import Derived.Test.YtoifodabfpbjlaaTurnW
import Derived.Carry
namespace Go.Proofs.Ytoifodabfpbjlaa
open Go.ChangeShapes Go.WideShapes Go.ChangeAt Go.RowKit

/-- bytes in memory, out of a slice that is read -/
theorem bytes_cells {H : Type} {enc : TypeId × Value → H} {W : World} {base : Nat} {spare : Nat → Bool} {held : Bool} {fuel : Nat} {v : Value} {x : DataW H × List MemPlace}
    (h : DataW.trod enc Try.prog W base spare held fuel 22 [v] = some x) :
    ∃ a l c bs, v = .slice a l c ∧ bs.length = l ∧ l ≤ c ∧ c ≤ maxLen ∧ Cells W a l (u8s bs) := by
  rcases open_ints Try.underlying22 Try.underlying5 Try.cells5 h with ⟨hcs, hx⟩ | ⟨a, l, c, zs, hcs, _, hl, hm, hz, hx, hcell, hwz⟩
  · cases hcs
    exact ⟨none, 0, 0, [], rfl, rfl, Nat.le_refl _, by decide, .inl rfl⟩
  · cases hcs
    have hlz : l ≤ zs.length := by rw [hz]; split <;> omega
    refine ⟨some a, l, c, toBytes (zs.take l), rfl, by simp [toBytes]; omega, hl, hm, ?_⟩
    by_cases hl0 : l = 0
    · exact .inl hl0
    · obtain ⟨b, off, spot⟩ := a
      have hspot : spot = none := by simpa [Addr.add] using World.cell?_spot (hcell 0 (by omega))
      subst hspot
      refine .inr ⟨b, off, rfl, fun k hk => ?_⟩
      rw [toBytes_at (fun z hz => hwz z (List.mem_of_mem_take hz)) k (by simp; omega), ← add_plain]
      rw [hcell k (by omega)]
      simp [List.getD, hk]

theorem turns_any (aw au as' ab : Option Addr) (lw cw lu cu ls cs lb cb : Nat) (ws us : List Int) (sp : List (ByteArray × Int)) (bs : List UInt8) (w : World)
    (hlw : ws.length = lw) (hlu : us.length = lu) (hls : sp.length = ls) (hcw : Cells w aw lw (zints ws)) (hcu : Cells w au lu (zints us)) (hcs : Cells w as' (2 * ls) (spotsV sp))
    (hlb : bs.length = lb) (hcap : lb ≤ cb) (hcap2 : cb ≤ maxLen) (hcb : Cells w ab lb (u8s bs)) :
    Calls Try.prog 5 #[.agg #[.slice aw lw cw, .slice au lu cu, .slice as' ls cs], .slice ab lb cb] w (Grows w true) := by
  obtain ⟨nl, im, hld⟩ : ∃ nl im, loadM bs = (nl, im) := ⟨_, _, rfl⟩
  by_cases hok : wrongM ws us sp = 0
  · by_cases hn : nl = 0
    · subst hn
      exact turns_B2 aw au as' ab lw cw lu cu ls cs lb cb ws us sp bs w hlw hlu hls hcw hcu hcs hlb hcap hcap2 hcb hok im hld
    · exact turns_B1 aw au as' ab lw cw lu cu ls cs lb cb ws us sp bs w hlw hlu hls hcw hcu hcs hlb hcap hcap2 hcb hok nl im hld hn
  · by_cases hn : nl = 0
    · subst hn
      exact turns_A2 aw au as' ab lw cw lu cu ls cs lb cb ws us sp bs w hlw hlu hls hcw hcu hcs hlb hcap hcap2 hcb hok im hld
    · exact turns_A1 aw au as' ab lw cw lu cu ls cs lb cb ws us sp bs w hlw hlu hls hcw hcu hcs hlb hcap hcap2 hcb hok nl im hld hn

set_option maxRecDepth 100000 in
theorem turns_lifted (os : Os) (started : os.Started) (H : Type) (enc : TypeId × Value → H) :
    ReturnsInHanded {} Try.checked os 5 .any (Rows.objectTurnsSpec.pre6 enc Try.prog Try.f5 Rows.objectTurnsRow.domain false) (Rows.objectTurnsSpec.post enc Try.prog Try.f5 false true false false) := by
  refine returnsInHanded_of_change_sized (C := Try.checked) Try.own started (by kernel_rfl) Try.func5
    (ChangeSpec.witness6 (enc := enc) (C := Try.checked) false ⟨#[], #[.agg #[.slice none 0 0, .slice none 0 0, .slice none 0 0], .slice none 0 0], []⟩ 8 (by kernel_rfl) (by kernel_rfl) (by kernel_rfl) (by kernel_rfl)) ?_
  intro W base args ds gs before hval0 hW _ _ _
  have hval : ∀ (j : Nat) t v, Try.f5.params[j]? = some t → args[j]? = some v → Value.okWide Try.prog W .any base t v := hval0
  have hW' := hW
  obtain ⟨p, q, hA0, hV, rfl, _, _⟩ := hW
  have hA : DataW.TrodAll enc Try.prog W 0 (fun _ => true) true Try.f5.params.toList args.toList ds p := hA0
  rw [Try.params5] at hA hval
  obtain ⟨v0, vs0, d0, ds0, p0, q0, hargs0, rfl, rfl, h0, r0⟩ := trodAll_cons hA
  obtain ⟨v1, vs1, d1, ds1, p1, q1, rfl, rfl, rfl, h1, r1⟩ := trodAll_cons r0
  obtain ⟨rfl, rfl, rfl⟩ := trodAll_nil r1
  obtain rfl : args = #[v0, v1] := by cases args; simp_all
  obtain ⟨rfl, rfl⟩ := trodVars_none hV
  simp only [List.append_nil] at hW'
  have hlt0 : ∀ x ∈ p0, x.block < W.heap.size := fun x hx => by simpa using hW'.lt x (List.mem_append_left _ hx)
  have hlt1 : ∀ x ∈ p1, x.block < W.heap.size := fun x hx => by simpa using hW'.lt x (List.mem_append_right _ hx)
  obtain ⟨aw, lw, cw, au, lu, cu, as', ls, cs, ws, us, sp, rfl, hlw, hlu, hls, hcw, hcu, hcs⟩ := open_image (hval 0 29 v0 rfl rfl) h0
  obtain ⟨a0, len0, cap0, rfl⟩ := okWide_slice Try.underlying22 (hval 1 22 v1 rfl rfl)
  have h1k := h1
  obtain ⟨fuel, hf⟩ := h1
  obtain ⟨ab, lb, cb, bs, hv, hlb, hcap, hcap2, hcb⟩ := bytes_cells (v := .slice a0 len0 cap0) (by simpa [Value.cells] using hf)
  cases hv
  refine (turns_any aw au as' a0 lw cw lu cu ls cs len0 cap0 ws us sp bs W hlw hlu hls hcw hcu hcs hlb hcap hcap2 hcb).mono ?_
  rintro e W' ⟨rfl, hg⟩
  have hargs0 : DataW.Trod enc Try.prog W' 0 (fun b => decide (b < W.heap.size)) true 29 _ d0 p0 :=
    Below.trod Try.laidOut (by kernel_rfl) (of_decide_eq_true (by kernel_rfl)) h0 hg hlt0
  have hargs1 : DataW.Trod enc Try.prog W' 0 (fun b => decide (b < W.heap.size)) true 22 _ d1 p1 :=
    Below.trod Try.laidOut (by kernel_rfl) (of_decide_eq_true (by kernel_rfl)) h1k hg hlt1
  exact ⟨_, rfl, _, _, _, [], p0 ++ p1, [], hW', trodAll_mk1 (shut_bool Try.underlying4 true), trodAll_mk2 hargs0 hargs1, rfl, hg.frame _, fun h => by cases h⟩

theorem turns_holds : Rows.ObjectTurnsSaid :=
  OpenClaim.holds_of_wide 5 Try.f5 rfl rfl rfl rfl rfl rfl rfl ⟨rfl, rfl, rfl, rfl, rfl⟩ rfl rfl rfl rfl rfl (by kernel_rfl) Try.func5 (by kernel_rfl)
    (of_decide_eq_true (by kernel_rfl)) (by unfold Func.isWrapper; first | (rw [if_pos (by decide +kernel)]; kernel_rfl) | (rw [if_neg (by decide +kernel)]; exact ⟨rfl, rfl⟩))
    (fun os started H enc _ => turns_lifted os started H enc)

#print axioms turns_holds
end Go.Proofs.Ytoifodabfpbjlaa
