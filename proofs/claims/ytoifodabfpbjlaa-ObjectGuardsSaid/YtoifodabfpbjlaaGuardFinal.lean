/-
  'ObjectGuards': for every image and every change of two bytes that stand together the law returns true, and the image reads as it did.
  Conditions: none beside the form's own.
-/
import Derived.Test.YtoifodabfpbjlaaImg
import Derived.Test.YtoifodabfpbjlaaGuardX
import Derived.Carry
namespace Go.Proofs.Ytoifodabfpbjlaa
open Go.ChangeShapes Go.WideShapes Go.ChangeAt Go.RowKit

theorem guards_any (aw au as' : Option Addr) (lw cw lu cu ls cs : Nat) (ws us : List Int) (sp : List (ByteArray × Int)) (w : World)
    (hlw : ws.length = lw) (hlu : us.length = lu) (hls : sp.length = ls) (hcw : Cells w aw lw (zints ws)) (hcu : Cells w au lu (zints us)) (hcs : Cells w as' (2 * ls) (spotsV sp)) (x p q : Int) :
    Calls Try.prog 6 #[.agg #[.slice aw lw cw, .slice au lu cu, .slice as' ls cs], .int .i64 x, .int .i64 p, .int .i64 q] w (Grows w true) := by
  by_cases hok : wrongM ws us sp = 0
  · by_cases h1 : x < 0
    · exact guards_bad1 aw au as' lw cw lu cu ls cs ws us sp w hlw hlu hls hcw hcu hcs x p q hok h1
    by_cases h2 : ((saveM ws us sp).length : Int) - 2 < x
    · exact guards_bad2 aw au as' lw cw lu cu ls cs ws us sp w hlw hlu hls hcw hcu hcs x p q hok (by omega) h2
    by_cases h3 : p < 0
    · exact guards_bad3 aw au as' lw cw lu cu ls cs ws us sp w hlw hlu hls hcw hcu hcs x p q hok (by omega) (by omega) h3
    by_cases h4 : q < 0
    · exact guards_bad4 aw au as' lw cw lu cu ls cs ws us sp w hlw hlu hls hcw hcu hcs x p q hok (by omega) (by omega) (by omega) h4
    by_cases h5 : 255 < p
    · exact guards_bad5 aw au as' lw cw lu cu ls cs ws us sp w hlw hlu hls hcw hcu hcs x p q hok (by omega) (by omega) (by omega) h5
    by_cases h6 : 255 < q
    · exact guards_bad6 aw au as' lw cw lu cu ls cs ws us sp w hlw hlu hls hcw hcu hcs x p q hok (by omega) (by omega) (by omega) (by omega) h6
    obtain ⟨k, rfl⟩ := Int.eq_ofNat_of_zero_le (show 0 ≤ x by omega)
    obtain ⟨p, rfl⟩ := Int.eq_ofNat_of_zero_le (show 0 ≤ p by omega)
    obtain ⟨q, rfl⟩ := Int.eq_ofNat_of_zero_le (show 0 ≤ q by omega)
    by_cases h7 : p = 0
    · by_cases h8 : q = 0
      · exact guards_bad7 aw au as' lw cw lu cu ls cs ws us sp w hlw hlu hls hcw hcu hcs _ _ _ hok (by omega) (by omega) (by omega) (by omega)
      · exact guards_good2 aw au as' lw cw lu cu ls cs ws us sp w hlw hlu hls hcw hcu hcs k p q hok (by omega) (by omega) (by omega) h7 h8
    · exact guards_good1 aw au as' lw cw lu cu ls cs ws us sp w hlw hlu hls hcw hcu hcs k p q hok (by omega) (by omega) (by omega) h7
  · exact guards_err aw au as' lw cw lu cu ls cs ws us sp w hlw hlu hls hcw hcu hcs x p q hok

set_option maxRecDepth 100000 in
theorem guards_lifted (os : Os) (started : os.Started) (H : Type) (enc : TypeId × Value → H) :
    ReturnsInHanded {} Try.checked os 6 .any (Rows.objectGuardsSpec.pre6 enc Try.prog Try.f6 Rows.objectGuardsRow.domain false) (Rows.objectGuardsSpec.post enc Try.prog Try.f6 false true false false) := by
  refine returnsInHanded_of_change_sized (C := Try.checked) Try.own started (by kernel_rfl) Try.func6
    (ChangeSpec.witness6 (enc := enc) (C := Try.checked) false ⟨#[], #[.agg #[.slice none 0 0, .slice none 0 0, .slice none 0 0], .int .i64 0, .int .i64 0, .int .i64 0], []⟩ 8 (by kernel_rfl) (by kernel_rfl) (by kernel_rfl) (by kernel_rfl)) ?_
  intro W base args ds gs before hval0 hW _ _ _
  have hval : ∀ (j : Nat) t v, Try.f6.params[j]? = some t → args[j]? = some v → Value.okWide Try.prog W .any base t v := hval0
  have hW' := hW
  obtain ⟨p, q, hA0, hV, rfl, _, _⟩ := hW
  have hA : DataW.TrodAll enc Try.prog W 0 (fun _ => true) true Try.f6.params.toList args.toList ds p := hA0
  rw [Try.params6] at hA hval
  obtain ⟨v0, vs0, d0, ds0, p0, q0, hargs0, rfl, rfl, h0, r0⟩ := trodAll_cons hA
  obtain ⟨v1, vs1, d1, ds1, p1, q1, rfl, rfl, rfl, h1, r1⟩ := trodAll_cons r0
  obtain ⟨v2, vs2, d2, ds2, p2, q2, rfl, rfl, rfl, h2, r2⟩ := trodAll_cons r1
  obtain ⟨v3, vs3, d3, ds3, p3, q3, rfl, rfl, rfl, h3, r3⟩ := trodAll_cons r2
  obtain ⟨rfl, rfl, rfl⟩ := trodAll_nil r3
  obtain rfl : args = #[v0, v1, v2, v3] := by cases args; simp_all
  obtain ⟨rfl, rfl⟩ := trodVars_none hV
  obtain ⟨x1, rfl, rfl, rfl, w1⟩ := open_int Try.underlying3 (hval 1 3 v1 rfl rfl) h1
  obtain ⟨x2, rfl, rfl, rfl, w2⟩ := open_int Try.underlying3 (hval 2 3 v2 rfl rfl) h2
  obtain ⟨x3, rfl, rfl, rfl, w3⟩ := open_int Try.underlying3 (hval 3 3 v3 rfl rfl) h3
  simp only [List.append_nil] at hW'
  have hlt : ∀ x ∈ p0, x.block < W.heap.size := fun x hx => by simpa using hW'.lt x hx
  obtain ⟨aw, lw, cw, au, lu, cu, as', ls, cs, ws, us, sp, rfl, hlw, hlu, hls, hcw, hcu, hcs⟩ := open_image (hval 0 29 v0 rfl rfl) h0
  refine (guards_any aw au as' lw cw lu cu ls cs ws us sp W hlw hlu hls hcw hcu hcs x1 x2 x3).mono ?_
  rintro e W' ⟨rfl, hg⟩
  have hargs : DataW.Trod enc Try.prog W' 0 (fun b => decide (b < W.heap.size)) true 29 _ d0 p0 :=
    Below.trod Try.laidOut (by kernel_rfl) (of_decide_eq_true (by kernel_rfl)) h0 hg hlt
  exact ⟨_, rfl, _, _, _, [], p0 ++ ([] ++ ([] ++ [])), [], hW', trodAll_mk1 (shut_bool Try.underlying4 true), trodAll_mk4 hargs (shut_int Try.underlying3 w1) (shut_int Try.underlying3 w2) (shut_int Try.underlying3 w3), rfl, hg.frame _, fun h => by cases h⟩

theorem guards_holds : Rows.ObjectGuardsSaid :=
  OpenClaim.holds_of_wide 6 Try.f6 rfl rfl rfl rfl rfl rfl rfl ⟨rfl, rfl, rfl, rfl, rfl⟩ rfl rfl rfl rfl rfl (by kernel_rfl) Try.func6 (by kernel_rfl)
    (of_decide_eq_true (by kernel_rfl)) (by unfold Func.isWrapper; first | (rw [if_pos (by decide +kernel)]; kernel_rfl) | (rw [if_neg (by decide +kernel)]; exact ⟨rfl, rfl⟩))
    (fun os started H enc _ => guards_lifted os started H enc)

#print axioms guards_holds
end Go.Proofs.Ytoifodabfpbjlaa
