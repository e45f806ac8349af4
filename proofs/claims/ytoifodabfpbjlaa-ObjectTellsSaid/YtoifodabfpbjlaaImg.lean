/- an image that is an argument, opened to its cells -/
import Derived.Test.YtoifodabfpbjlaaSumsFinal
import Derived.Lib.SmallJoins
import Derived.Deep.SlicePairs
namespace Go.Proofs.Ytoifodabfpbjlaa
open Go.ChangeShapes Go.WideShapes Go.ChangeAt Go.RowKit Go.Joins

theorem Try.cells3 : Try.prog.cellsOf 3 = 1 := by kernel_rfl
theorem Try.cells45 : Try.prog.cellsOf 45 = 2 := by kernel_rfl
theorem Try.cells29 : Try.prog.cellsOf 29 = 3 := by kernel_rfl

/-- numbers in memory, out of a slice that is read -/
theorem ints_cells {H : Type} {enc : TypeId × Value → H} {W : World} {base : Nat} {spare : Nat → Bool} {held : Bool} {fuel : Nat} {v : Value} {x : DataW H × List MemPlace}
    (h : DataW.trod enc Try.prog W base spare held fuel 26 [v] = some x) :
    ∃ a l c zs, v = .slice a l c ∧ zs.length = l ∧ l ≤ c ∧ c ≤ maxLen ∧ Cells W a l (zints zs) := by
  rcases open_ints Try.underlying26 Try.underlying3 Try.cells3 h with ⟨hcs, hx⟩ | ⟨a, l, c, zs, hcs, _, hl, hm, hz, hx, hcell, hwz⟩
  · cases hcs
    exact ⟨none, 0, 0, [], rfl, rfl, Nat.le_refl _, by decide, .inl rfl⟩
  · cases hcs
    have hlz : l ≤ zs.length := by rw [hz]; split <;> omega
    refine ⟨some a, l, c, zs.take l, rfl, by simp; omega, hl, hm, ?_⟩
    by_cases hl0 : l = 0
    · exact .inl hl0
    · obtain ⟨b, off, spot⟩ := a
      have hspot : spot = none := by simpa [Addr.add] using World.cell?_spot (hcell 0 (by omega))
      subst hspot
      refine .inr ⟨b, off, rfl, fun k hk => ?_⟩
      rw [← add_plain, hcell k (by omega)]
      simp [zints, List.getD, hk]

/-- spots in memory -/
theorem spots_cells {H : Type} {enc : TypeId × Value → H} {W : World} {base : Nat} {spare : Nat → Bool} {held : Bool} {fuel : Nat} {v : Value} {x : DataW H × List MemPlace}
    (h : DataW.trod enc Try.prog W base spare held fuel 27 [v] = some x) :
    ∃ a l c sp, v = .slice a l c ∧ sp.length = l ∧ l ≤ c ∧ c ≤ maxLen ∧ Cells W a (2 * l) (spotsV sp) := by
  rcases Go.Deep.open_slice_pairs Try.underlying27 Try.underlying45 Try.cells45 rfl rfl (by kernel_rfl) (by kernel_rfl) h with ⟨hcs, hx⟩ | ⟨a, l, c, m, n, V0, V1, D0, D1, P0, P1, hcs, _, hl, hm, hmm, hx, hcell⟩
  · cases hcs
    exact ⟨none, 0, 0, [], rfl, rfl, Nat.le_refl _, by decide, .inl rfl⟩
  · cases hcs
    have hlm : l ≤ m := by rw [hmm]; split <;> omega
    have each : ∀ i, i < l → ∃ s : ByteArray × Int, V0 i = .string s.1 ∧ V1 i = .int .i64 s.2 := by
      intro i hi
      obtain ⟨-, -, h0, h1⟩ := hcell i (by omega)
      obtain ⟨s, e0, -, -⟩ := DataW.trod_string Try.underlying9 h0
      obtain ⟨z, e1, -, -⟩ := DataW.trod_int Try.underlying3 h1
      simp only [List.cons.injEq, and_true] at e0 e1
      exact ⟨(s, z), e0, e1⟩
    obtain ⟨q, hq⟩ := Go.Deep.choose_lt each
    refine ⟨some a, l, c, (List.range l).map q, rfl, by simp, hl, hm, ?_⟩
    by_cases hl0 : l = 0
    · exact .inl (by omega)
    · obtain ⟨b, off, spot⟩ := a
      have hspot : spot = none := by
        have h0 := (hcell 0 (by omega)).1
        rw [Nat.zero_mul] at h0
        simpa [Addr.add] using World.cell?_spot h0
      subst hspot
      refine .inr ⟨b, off, rfl, fun k hk => ?_⟩
      obtain ⟨h0, h1, -, -⟩ := hcell (k / 2) (by omega)
      obtain ⟨e0, e1⟩ := hq (k / 2) (by omega)
      unfold spotsV
      have hg : ((List.range l).map q).getD (k / 2) (ByteArray.empty, 0) = q (k / 2) := by
        simp [List.getD, show k / 2 < l by omega]
      rw [hg]
      split
      · rename_i hp
        rw [add_plain, e0] at h0
        rw [← h0]
        congr 2
        omega
      · rename_i hp
        rw [add_plain, e1] at h1
        rw [← h1]
        congr 2
        omega

/-- an image that is an argument -/
theorem open_image {H : Type} {enc : TypeId × Value → H} {W : World} {r : Reach} {b0 base : Nat} {spare : Nat → Bool} {held : Bool} {v : Value} {d : DataW H} {p : List MemPlace}
    (hv : Value.okWide Try.prog W r b0 29 v) (h : DataW.Trod enc Try.prog W base spare held 29 v d p) :
    ∃ aw lw cw au lu cu as' ls cs ws us sp, v = .agg #[.slice aw lw cw, .slice au lu cu, .slice as' ls cs] ∧ ws.length = lw ∧ us.length = lu ∧ sp.length = ls ∧
      Cells W aw lw (zints ws) ∧ Cells W au lu (zints us) ∧ Cells W as' (2 * ls) (spotsV sp) := by
  obtain ⟨v0, v1, v2, y0, y1, y2, n, rfl, -, -, h0, h1, h2⟩ := open_agg3 Try.underlying29 (by kernel_rfl) Try.cells29 hv h
  obtain ⟨aw, lw, cw, ws, rfl, e1, -, -, c1⟩ := ints_cells h0
  obtain ⟨au, lu, cu, us, rfl, e2, -, -, c2⟩ := ints_cells h1
  obtain ⟨as', ls, cs, sp, rfl, e3, -, -, c3⟩ := spots_cells h2
  exact ⟨aw, lw, cw, au, lu, cu, as', ls, cs, ws, us, sp, rfl, e1, e2, e3, c1, c2, c3⟩
end Go.Proofs.Ytoifodabfpbjlaa
