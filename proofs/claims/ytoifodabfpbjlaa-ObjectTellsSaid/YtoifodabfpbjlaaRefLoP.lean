/- plain laws: the document's Load goes by places, the program's by what is left -/
import Derived.Test.YtoifodabfpbjlaaTurnP
namespace Go.Proofs.Ytoifodabfpbjlaa
open Go.RowKit

theorem takeM_true (n : Nat) (r : List UInt8) : (takeM n r true).2.2 = true := by unfold takeM; split <;> rfl
theorem longM_true (r : List UInt8) : (longM r true).2.2 = true := takeM_true 4 r
theorem manyM_true (least : Nat) (r : List UInt8) : (manyM least r true).2.2 = true := by
  unfold manyM; split
  · rfl
  · exact longM_true r
theorem itemsTo_true (st : St) (k : Nat) (h : st.2 = true) : (itemsTo st k).2.2 = true := by
  induction k with
  | zero => exact h
  | succ k ih =>
    show (takeM 2 (itemsTo st k).2.1 (itemsTo st k).2.2).2.2 = true
    rw [ih]; exact takeM_true _ _
theorem listM_true (r : List UInt8) : (listM r true).2.2 = true := itemsTo_true _ _ (manyM_true 2 r)
theorem spotAt_true (st : St) (h : st.2 = true) : (spotAt st).2.2 = true := by
  unfold spotAt
  simp only [h]
  have h1 := takeM_true 1 st.1
  generalize takeM 1 st.1 true = t1 at *
  obtain ⟨b, r1, s1⟩ := t1
  simp only at h1
  subst h1
  have h2 := takeM_true (b.getD 0 0).toNat r1
  generalize takeM (b.getD 0 0).toNat r1 true = t2 at *
  obtain ⟨b2, r2, s2⟩ := t2
  simp only at h2
  subst h2
  exact longM_true r2
theorem spotsTo_mono (st : St) (j k : Nat) (h : (spotsTo st j).2.2 = true) (hk : j ≤ k) : (spotsTo st k).2.2 = true := by
  induction k with
  | zero => have : j = 0 := by omega
            subst this; exact h
  | succ k ih =>
    by_cases e : j = k + 1
    · rw [← e]; exact h
    · exact spotAt_true _ (ih (by omega))

theorem longM_short (r : List UInt8) (s : Bool) (h : r.length < 4) : (longM r s).2.2 = true := by
  unfold longM takeM; rw [if_pos h]
theorem manyM_short (least : Nat) (r : List UInt8) (s : Bool) (h : r.length < 4) : (manyM least r s).2.2 = true := by
  unfold manyM; split
  · rfl
  · exact longM_short r s h
theorem listM_short (r : List UInt8) (s : Bool) (h : r.length < 4) : (listM r s).2.2 = true := itemsTo_true _ _ (manyM_short 2 r s h)

theorem longM_good4 (r : List UInt8) (s : Bool) (h : 4 ≤ r.length) : longM r s = (readM (r.take 4), r.drop 4, s) := by
  unfold longM takeM; rw [if_neg (by omega)]
theorem manyM_much (least : Nat) (r : List UInt8) (s : Bool) (h : 4 ≤ r.length) (hm : (r.length - 4) / least < readM (r.take 4)) : (manyM least r s).2.2 = true := by
  unfold manyM
  rw [longM_good4 r s h, if_pos (by simpa using hm)]
theorem manyM_fits (least : Nat) (r : List UInt8) (s : Bool) (h : 4 ≤ r.length) (hm : readM (r.take 4) ≤ (r.length - 4) / least) : manyM least r s = (readM (r.take 4), r.drop 4, s) := by
  unfold manyM
  rw [longM_good4 r s h, if_neg (by simp; omega)]

theorem itemsTo_fits (r : List UInt8) (k : Nat) (h : 2 * k ≤ r.length) : (itemsTo (r, false) k).2 = (r.drop (2 * k), false) ∧
    (∀ j, j < k → (itemsTo (r, false) k).1.getD j 0 = readM ((r.drop (2 * j)).take 2)) := by
  induction k with
  | zero => exact ⟨by simp [itemsTo], fun j hj => by omega⟩
  | succ k ih =>
    obtain ⟨h1, h2⟩ := ih (by omega)
    have e : itemsTo (r, false) (k + 1) = ((itemsTo (r, false) k).1 ++ [readM (takeM 2 (itemsTo (r, false) k).2.1 (itemsTo (r, false) k).2.2).1], (takeM 2 (itemsTo (r, false) k).2.1 (itemsTo (r, false) k).2.2).2) := rfl
    rw [e, h1]
    have ht : takeM 2 (r.drop (2 * k)) false = ((r.drop (2 * k)).take 2, (r.drop (2 * k)).drop 2, false) := by
      unfold takeM; rw [if_neg (by simp; omega)]
    simp only [ht]
    have hl := itemsTo_len (r, false) k
    refine ⟨by simp; omega, fun j hj => ?_⟩
    by_cases e : j = k
    · subst e
      simp [List.getD_eq_getElem?_getD, hl]
    · rw [List.getD_eq_getElem?_getD, List.getElem?_append_left (by omega), ← List.getD_eq_getElem?_getD]
      exact h2 j (by omega)

theorem itemsTo_next (r : List UInt8) (k : Nat) (h : 2 * (k + 1) ≤ r.length) : (itemsTo (r, false) (k + 1)).1 = (itemsTo (r, false) k).1 ++ [readM ((r.drop (2 * k)).take 2)] := by
  obtain ⟨h1, -⟩ := itemsTo_fits r k (by omega)
  have e : itemsTo (r, false) (k + 1) = ((itemsTo (r, false) k).1 ++ [readM (takeM 2 (itemsTo (r, false) k).2.1 (itemsTo (r, false) k).2.2).1], (takeM 2 (itemsTo (r, false) k).2.1 (itemsTo (r, false) k).2.2).2) := rfl
  rw [e, h1]
  have ht : takeM 2 (r.drop (2 * k)) false = ((r.drop (2 * k)).take 2, (r.drop (2 * k)).drop 2, false) := by
    unfold takeM; rw [if_neg (by simp; omega)]
  simp only [ht]

theorem listM_fits (r : List UInt8) (h : 4 ≤ r.length) (hm : readM (r.take 4) ≤ (r.length - 4) / 2) :
    listM r false = ((itemsTo (r.drop 4, false) (readM (r.take 4))).1, r.drop (4 + 2 * readM (r.take 4)), false) := by
  unfold listM
  rw [manyM_fits 2 r false h hm]
  obtain ⟨h1, -⟩ := itemsTo_fits (r.drop 4) (readM (r.take 4)) (by simp; omega)
  refine Prod.ext rfl ?_
  rw [h1, List.drop_drop]

/-- what has been read when j lists are through -/
def Heads (C : List UInt8) (j : Nat) (ws us : List Nat) (p : Nat) : Prop :=
  4 ≤ p ∧ p ≤ C.length ∧ ((j = 0 ∧ ws = [] ∧ us = [] ∧ p = 4) ∨ (j = 1 ∧ us = [] ∧ listM (C.drop 4) false = (ws, C.drop p, false)) ∨
    (j = 2 ∧ ∃ q, listM (C.drop 4) false = (ws, C.drop q, false) ∧ listM (C.drop q) false = (us, C.drop p, false)))

theorem body_short1 (b : List UInt8) (h : (listM b false).2.2 = true) : (bodyLoad b).2.2 = true := by
  unfold bodyLoad
  generalize listM b false = r1 at *
  obtain ⟨x, r, s⟩ := r1
  simp only at h
  subst h
  have h2 := listM_true r
  simp only
  generalize listM r true = r2 at *
  obtain ⟨x2, q, s2⟩ := r2
  simp only at h2
  subst h2
  exact spotsTo_mono _ 0 _ (manyM_true 5 q) (Nat.zero_le _)

theorem body_short2 (b : List UInt8) (ws : List Nat) (r : List UInt8) (h1 : listM b false = (ws, r, false)) (h : (listM r false).2.2 = true) : (bodyLoad b).2.2 = true := by
  unfold bodyLoad
  rw [h1]
  simp only
  generalize listM r false = r2 at *
  obtain ⟨x2, q, s2⟩ := r2
  simp only at h
  subst h
  exact spotsTo_mono _ 0 _ (manyM_true 5 q) (Nat.zero_le _)

theorem Heads.fail {C : List UInt8} {j : Nat} {ws us : List Nat} {p : Nat} (h : Heads C j ws us p) (hj : j < 2) (hs : (listM (C.drop p) false).2.2 = true) : (bodyLoad (C.drop 4)).2.2 = true := by
  obtain ⟨_, _, ⟨rfl, rfl, rfl, rfl⟩ | ⟨rfl, rfl, h1⟩ | ⟨rfl, _⟩⟩ := h
  · exact body_short1 _ hs
  · exact body_short2 _ _ _ h1 hs
  · omega

theorem Heads.next0 {C : List UInt8} {ws us : List Nat} {p q : Nat} {l : List Nat} (h : Heads C 0 ws us p) (hl : listM (C.drop p) false = (l, C.drop q, false)) (h4 : 4 ≤ q) (hq : q ≤ C.length) : Heads C 1 l us q := by
  obtain ⟨_, _, ⟨_, rfl, rfl, rfl⟩ | ⟨h, _⟩ | ⟨h, _⟩⟩ := h
  · exact ⟨h4, hq, .inr (.inl ⟨rfl, rfl, hl⟩)⟩
  · omega
  · omega
theorem Heads.next1 {C : List UInt8} {ws us : List Nat} {p q : Nat} {l : List Nat} (h : Heads C 1 ws us p) (hl : listM (C.drop p) false = (l, C.drop q, false)) (h4 : 4 ≤ q) (hq : q ≤ C.length) : Heads C 2 ws l q := by
  obtain ⟨_, _, ⟨h, _⟩ | ⟨_, rfl, h1⟩ | ⟨h, _⟩⟩ := h
  · omega
  · exact ⟨h4, hq, .inr (.inr ⟨rfl, p, h1, hl⟩)⟩
  · omega
theorem Heads.body {C : List UInt8} {ws us : List Nat} {p : Nat} (h : Heads C 2 ws us p) :
    bodyLoad (C.drop 4) = (⟨toInts ws, toInts us, (spotsTo (manyM 5 (C.drop p) false).2 (manyM 5 (C.drop p) false).1).1⟩, (spotsTo (manyM 5 (C.drop p) false).2 (manyM 5 (C.drop p) false).1).2) := by
  obtain ⟨_, _, ⟨h, _⟩ | ⟨h, _⟩ | ⟨_, q, h1, h2⟩⟩ := h
  · omega
  · omega
  · unfold bodyLoad
    rw [h1]
    simp only
    rw [h2]

/-- what has been read when j spots are through, of a count of which it is not known yet whether it fits -/
def Spots (C : List UInt8) (p0 j p : Nat) (sp : List (ByteArray × Int)) : Prop :=
  p0 + 5 * j ≤ p ∧ p ≤ C.length ∧ spotsTo (C.drop p0, false) j = (sp, (C.drop p, false))

theorem Spots.start {C : List UInt8} {p0 : Nat} (h : p0 ≤ C.length) : Spots C p0 0 p0 [] := ⟨by omega, h, rfl⟩

theorem spotAt_fits (r : List UInt8) (k : Nat) (hk : 0 < r.length) (hb : (r.getD 0 0).toNat = k) (hf : 1 + k + 4 ≤ r.length) :
    spotAt (r, false) = ((⟨((r.drop 1).take k).toArray⟩, (readM ((r.drop (1 + k)).take 4) : Int)), (r.drop (k + 5), false)) := by
  have h1 : takeM 1 r false = (r.take 1, r.drop 1, false) := by unfold takeM; rw [if_neg (by omega)]
  have h0 : (r.take 1).getD 0 0 = r.getD 0 0 := by
    cases r with
    | nil => simp at hk
    | cons a b => rfl
  have h2 : takeM k (r.drop 1) false = ((r.drop 1).take k, (r.drop 1).drop k, false) := by unfold takeM; rw [if_neg (by simp; omega)]
  have h3 : longM ((r.drop 1).drop k) false = (readM (((r.drop 1).drop k).take 4), ((r.drop 1).drop k).drop 4, false) := longM_good4 _ _ (by simp; omega)
  unfold spotAt
  simp only [h1, h0, hb, h2, h3]
  simp only [List.drop_drop]
  rw [show 1 + k + 4 = k + 5 by omega]

theorem spotAt_fails (r : List UInt8) (h : r.length = 0 ∨ r.length < 1 + (r.getD 0 0).toNat + 4) : (spotAt (r, false)).2.2 = true := by
  unfold spotAt
  by_cases h0 : r.length = 0
  · have h1 : (takeM 1 r false).2.2 = true := by unfold takeM; rw [if_pos (by omega)]
    simp only
    generalize takeM 1 r false = t1 at *
    obtain ⟨b, r1, s1⟩ := t1
    simp only at h1
    subst h1
    have h2 := takeM_true (b.getD 0 0).toNat r1
    simp only
    generalize takeM (b.getD 0 0).toNat r1 true = t2 at *
    obtain ⟨b2, r2, s2⟩ := t2
    simp only at h2
    subst h2
    exact longM_true r2
  · have h1 : takeM 1 r false = (r.take 1, r.drop 1, false) := by unfold takeM; rw [if_neg (by omega)]
    have hb : (r.take 1).getD 0 0 = r.getD 0 0 := by
      cases r with
      | nil => simp at h0
      | cons a b => rfl
    simp only [h1, hb]
    generalize (r.getD 0 0).toNat = k at *
    by_cases h3 : r.length - 1 < k
    · have h2 : (takeM k (r.drop 1) false).2.2 = true := by unfold takeM; rw [if_pos (by simp; omega)]
      generalize takeM k (r.drop 1) false = t2 at *
      obtain ⟨b2, r2, s2⟩ := t2
      simp only at h2
      subst h2
      exact longM_true r2
    · have h2 : takeM k (r.drop 1) false = ((r.drop 1).take k, (r.drop 1).drop k, false) := by unfold takeM; rw [if_neg (by simp; omega)]
      rw [h2]
      exact longM_short _ _ (by simp; omega)

theorem Spots.next {C : List UInt8} {p0 j p k : Nat} {sp : List (ByteArray × Int)} (h : Spots C p0 j p sp) (hp : p < C.length) (hb : (C.getD p 0).toNat = k) (hf : p + 1 + k + 4 ≤ C.length) :
    Spots C p0 (j + 1) (p + k + 5) (sp ++ [(⟨((C.drop (p + 1)).take k).toArray⟩, (readM ((C.drop (p + 1 + k)).take 4) : Int))]) := by
  obtain ⟨h1, h2, h3⟩ := h
  refine ⟨by omega, by omega, ?_⟩
  have e : spotsTo (C.drop p0, false) (j + 1) = ((spotsTo (C.drop p0, false) j).1 ++ [(spotAt (spotsTo (C.drop p0, false) j).2).1], (spotAt (spotsTo (C.drop p0, false) j).2).2) := rfl
  rw [e, h3]
  have hs := spotAt_fits (C.drop p) k (by simp; omega) (by simpa using hb) (by simp; omega)
  simp only [hs, List.drop_drop]
  rw [show p + (k + 5) = p + k + 5 by omega, show p + (1 + k) = p + 1 + k by omega]

theorem Spots.fail {C : List UInt8} {p0 j p n : Nat} {sp : List (ByteArray × Int)} {ws us : List Nat} {q : Nat} (h : Spots C p0 j p sp) (hj : j < n) (hh : Heads C 2 ws us q) (hq : q + 4 ≤ C.length) (hp0 : p0 = q + 4) (hn : n = readM ((C.drop q).take 4))
    (hbad : p = C.length ∨ C.length < p + 1 + (C.getD p 0).toNat + 4) : (bodyLoad (C.drop 4)).2.2 = true := by
  obtain ⟨h1, h2, h3⟩ := h
  rw [hh.body]
  simp only
  by_cases hm : ((C.drop q).length - 4) / 5 < readM ((C.drop q).take 4)
  · have := manyM_much 5 (C.drop q) false (by simp; omega) hm
    exact spotsTo_mono _ 0 _ this (Nat.zero_le _)
  · rw [manyM_fits 5 (C.drop q) false (by simp; omega) (by omega)]
    simp only [List.drop_drop, ← hp0, ← hn]
    refine spotsTo_mono _ (j + 1) _ ?_ (by omega)
    show (spotAt (spotsTo (C.drop p0, false) j).2).2.2 = true
    rw [h3]
    refine spotAt_fails _ ?_
    rcases hbad with hb | hb
    · left; simp; omega
    · right; simp; simp at hb; omega

theorem Spots.done {C : List UInt8} {p0 p n : Nat} {sp : List (ByteArray × Int)} {ws us : List Nat} {q : Nat} (h : Spots C p0 n p sp) (hh : Heads C 2 ws us q) (hq : q + 4 ≤ C.length) (hp0 : p0 = q + 4) (hn : n = readM ((C.drop q).take 4)) :
    bodyLoad (C.drop 4) = (⟨toInts ws, toInts us, sp⟩, (C.drop p, false)) := by
  obtain ⟨h1, h2, h3⟩ := h
  rw [hh.body, manyM_fits 5 (C.drop q) false (by simp; omega) (by rw [← hn]; simp; omega)]
  simp only [List.drop_drop, ← hp0, ← hn]
  rw [h3]

theorem Heads.fail2 {C : List UInt8} {ws us : List Nat} {p : Nat} (h : Heads C 2 ws us p) (hp : C.length < p + 4) : (bodyLoad (C.drop 4)).2.2 = true := by
  rw [h.body]
  exact spotsTo_mono _ 0 _ (manyM_short 5 _ _ (by simp; omega)) (Nat.zero_le _)
end Go.Proofs.Ytoifodabfpbjlaa
