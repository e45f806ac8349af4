/-
  What luhn means, plainly.
-/
import Derived.Test.YtgmmfjmdpbhjnaaGreatJPb
import Derived.Test.YtgmmfjmdpbhjnaaGreatJPc
namespace Go.Proofs.YtgmmfjmdpbhjnaaGreat

/-- the digits of what came in, forty at most -/
def dgL (inp : List Nat) : Nat → List Nat
  | 0 => []
  | i + 1 => if 48 ≤ curC inp i ∧ curC inp i ≤ 57 ∧ (dgL inp i).length < 40 then dgL inp i ++ [curC inp i - 48] else dgL inp i
theorem dgL_len (inp : List Nat) : ∀ i, (dgL inp i).length ≤ 40
  | 0 => by show 0 ≤ 40; omega
  | i + 1 => by
    have := dgL_len inp i
    unfold dgL
    split
    · rw [List.length_append]; simp; omega
    · exact this
theorem dgL_lt (inp : List Nat) : ∀ i, ∀ x ∈ dgL inp i, x < 10
  | 0, x, h => by cases h
  | i + 1, x, h => by
    unfold dgL at h
    split at h
    · rcases List.mem_append.1 h with h | h
      · exact dgL_lt inp i x h
      · have : x = curC inp i - 48 := by simpa using h
        omega
    · exact dgL_lt inp i x h
/-- a digit, doubled or not -/
def fLu (t d : Nat) : Nat := if t % 2 = 1 then (if 9 < d * 2 then d * 2 - 9 else d * 2) else d
def gLu (L : List Nat) : Nat → Nat
  | 0 => 0
  | k + 1 => gLu L k + fLu (L.length - 1 - k) (L.getD k 0)
theorem fLu_le {t d : Nat} (h : d < 10) : fLu t d ≤ 9 := by
  unfold fLu
  split
  · split <;> omega
  · omega
theorem gLu_le {L : List Nat} (hL : ∀ x ∈ L, x < 10) : ∀ k, gLu L k ≤ 9 * k
  | 0 => Nat.le_refl _
  | k + 1 => by
    have h := gLu_le hL k
    have hd : L.getD k 0 < 10 := by
      rw [List.getD_eq_getElem?_getD]
      cases hk : L[k]? with
      | none => decide
      | some x => exact hL x (List.mem_of_getElem? hk)
    have := fLu_le (t := L.length - 1 - k) hd
    show gLu L k + _ ≤ _
    omega
theorem gLu_mono (L : List Nat) : ∀ (m k : Nat), gLu L k ≤ gLu L (k + m)
  | 0, _ => Nat.le_refl _
  | m + 1, k => Nat.le_trans (gLu_mono L m k) (Nat.le_add_right _ _)
section
variable {inp : List Nat}
def luhI : List Sm := [.setl 0 (.num 0) intT intT, .setl 1 .get intT intT, .setl 2 (.num 0) uintT uintT, .setl 3 (.num 0) intT intT]
def luhC : Ex := .bin 19 (.loc 1) (.num 0) intT intT
def luhW : List Sm := [.ite (.either false (.either false (.bin 19 (.loc 1) (.num 48) intT intT) (.bin 17 (.loc 1) (.num 57) intT intT)) (.bin 16 (.loc 0) (.num 40) intT intT)) [.seta 0 40 (.loc 0) intT (.bin 13 (.loc 1) (.num 48) intT intT) intT u8T, .setl 0 (.bin 12 (.loc 0) (.num 1) intT intT) intT intT] [], .setl 1 .get intT intT]
def luhD : Ex := .bin 18 (.loc 0) (.num 0) intT intT
def luhV : List Sm := [.setl 0 (.bin 13 (.loc 0) (.num 1) intT intT) intT intT, .setl 1 (.elt 0 40 (.loc 0) intT) u8T intT, .ite (.loc 3) [.setl 1 (.bin 9 (.loc 1) (.num 2) intT intT) intT intT, .ite (.bin 18 (.loc 1) (.num 9) intT intT) [.setl 1 (.bin 13 (.loc 1) (.num 9) intT intT) intT intT] []] [], .setl 3 (.un 8 (.loc 3) intT) intT intT, .setl 2 (.bin 12 (.loc 2) (.cast (.loc 1) intT uintT) uintT uintT) uintT uintT]
def luhT : List Sm := [.ex (.put (.bin 12 (.num 48) (.bin 20 (.bin 11 (.loc 2) (.num 10) uintT uintT) (.num 0) uintT uintT) intT intT) intT), .ex (.put (.num 10) intT), .ret (.num 0) intT intT]
def luhM : List Sm := luhI ++ (.whl luhC luhW :: .whl luhD luhV :: luhT)
def luhBd : List (List Sm × Nat) := [(luhM, 4)]
theorem luh_read (hb : ∀ v ∈ inp, v < 256) (r tk : Nat) : ∃ tk', XW inp luhBd luhC luhW ⟨tk, [], min 1 inp.length, 1, [List.replicate 40 0]⟩ ⟨[0, curC inp 0, 0, 0], r⟩
    (.go 0 ⟨tk', [], min (inp.length + 1) inp.length, 1, [dgL inp inp.length ++ List.replicate (40 - (dgL inp inp.length).length) 0]⟩ ⟨[(dgL inp inp.length).length, curC inp inp.length, 0, 0], r⟩) ∧ tk' ≤ tk + 40 * inp.length + 8 :=
  XW.count (inp := inp) (bd := luhBd) (C := luhC) (B := luhW) (N := inp.length) (K := 32) (c := 8) (r := r) (cl := 1) (O := fun _ => []) (R := fun i => min (i + 1) inp.length) (Q := fun i => min (i + 1) inp.length) (G := fun i => [dgL inp i ++ List.replicate (40 - (dgL inp i).length) 0]) (Fs := fun i => [(dgL inp i).length, curC inp i, 0, 0])
    (fun i hi tk => by
      obtain ⟨v, h1, h2⟩ := ge0_val (cur_ch hb i)
      refine ⟨v, tk + 1 + 3, X.bin (X.loc rfl) (X.num _) h1, by omega, ?_⟩
      rw [h2, cur_ne hb])
    (fun i hi tk => by
      obtain ⟨h1, h2⟩ := cur_lt hb hi
      have hc1 : curC inp (i + 1) < 65536 := by rcases cur_ch hb (i + 1) with h | h <;> omega
      have hl := dgL_len inp i
      show ∃ tk', XQ inp luhBd luhW ⟨tk, [], min (i + 1) inp.length, 1, [dgL inp i ++ List.replicate (40 - (dgL inp i).length) 0]⟩ ⟨[(dgL inp i).length, curC inp i, 0, 0], r⟩ (.go 0 ⟨tk', [], min (i + 1 + 1) inp.length, 1, [dgL inp (i + 1) ++ List.replicate (40 - (dgL inp (i + 1)).length) 0]⟩ ⟨[(dgL inp (i + 1)).length, curC inp (i + 1), 0, 0], r⟩) ∧ _
      have e : dgL inp (i + 1) = if 48 ≤ curC inp i ∧ curC inp i ≤ 57 ∧ (dgL inp i).length < 40 then dgL inp i ++ [curC inp i - 48] else dgL inp i := rfl
      by_cases hA : 48 ≤ curC inp i
      · by_cases hB : curC inp i ≤ 57
        · by_cases hC : (dgL inp i).length < 40
          · rw [if_pos ⟨hA, hB, hC⟩] at e
            have e2 : (dgL inp (i + 1)).length = (dgL inp i).length + 1 := by rw [e, List.length_append]; rfl
            have e3 : dgL inp (i + 1) ++ List.replicate (40 - (dgL inp (i + 1)).length) 0 = (dgL inp i ++ List.replicate (40 - (dgL inp i).length) 0).set (dgL inp i).length (curC inp i - 48) := by
              rw [e2, e, show 40 - (dgL inp i).length = 40 - ((dgL inp i).length + 1) + 1 by omega, List.replicate_succ, List.set_append_right _ _ (Nat.le_refl _), Nat.sub_self, List.set_cons_zero, List.append_assoc]
              rfl
            rw [e3, e2]
            generalize dgL inp i ++ List.replicate (40 - (dgL inp i).length) 0 = row at *
            generalize (dgL inp i).length = z at *
            generalize curC inp i = ch at *
            exact ⟨tk + 23, (XQ.cons (XS.yes (X.both (X.both (X.bin (X.loc rfl) (X.num _) (b19_i_i_t (by omega) (by omega) (by omega))) (by decide) (X.bin (X.loc rfl) (X.num _) (b17_i_i_t (by omega) (by omega) (by omega)))) (by decide) (X.bin (X.loc rfl) (X.num _) (b16_i_i_t (by omega) (by omega) (by omega)))) (by decide) (XQ.cons (XS.setas (X.loc rfl) (c_i_h (by omega)) (by omega) (X.bin (X.loc rfl) (X.num _) (b13_i_i_n (by omega) (by omega) (by omega))) (c_i_b (by omega))) (XQ.cons (XS.setls (X.bin (X.loc rfl) (X.num _) (b12_i_i_n (by omega) (by omega) (by omega))) (c_i_i (by omega)) (of_decide_eq_true rfl)) XQ.nil))) (XQ.cons (XS.setls (X.gets rfl) (c_i_i hc1) (of_decide_eq_true rfl)) XQ.nil)), by omega⟩
          · rw [if_neg (fun q => hC q.2.2)] at e
            rw [e]
            have hC : 40 ≤ (dgL inp i).length := by omega
            generalize dgL inp i ++ List.replicate (40 - (dgL inp i).length) 0 = row at *
            generalize (dgL inp i).length = z at *
            generalize curC inp i = ch at *
            exact ⟨tk + 14, (XQ.cons (XS.no (X.both (X.both (X.bin (X.loc rfl) (X.num _) (b19_i_i_t (by omega) (by omega) (by omega))) (by decide) (X.bin (X.loc rfl) (X.num _) (b17_i_i_t (by omega) (by omega) (by omega)))) (by decide) (X.bin (X.loc rfl) (X.num _) (b16_i_i_f (by omega) (by omega) (by omega)))) XQ.nil) (XQ.cons (XS.setls (X.gets rfl) (c_i_i hc1) (of_decide_eq_true rfl)) XQ.nil)), by omega⟩
        · rw [if_neg (fun q => hB q.2.1)] at e
          rw [e]
          have hB : 57 < curC inp i := by omega
          generalize dgL inp i ++ List.replicate (40 - (dgL inp i).length) 0 = row at *
          generalize (dgL inp i).length = z at *
          generalize curC inp i = ch at *
          exact ⟨tk + 11, (XQ.cons (XS.no (X.stop (X.both (X.bin (X.loc rfl) (X.num _) (b19_i_i_t (by omega) (by omega) (by omega))) (by decide) (X.bin (X.loc rfl) (X.num _) (b17_i_i_f (by omega) (by omega) (by omega)))) (by decide)) XQ.nil) (XQ.cons (XS.setls (X.gets rfl) (c_i_i hc1) (of_decide_eq_true rfl)) XQ.nil)), by omega⟩
      · rw [if_neg (fun q => hA q.1)] at e
        rw [e]
        have hA : curC inp i < 48 := by omega
        generalize dgL inp i ++ List.replicate (40 - (dgL inp i).length) 0 = row at *
        generalize (dgL inp i).length = z at *
        generalize curC inp i = ch at *
        exact ⟨tk + 8, (XQ.cons (XS.no (X.stop (X.stop (X.bin (X.loc rfl) (X.num _) (b19_i_i_f (by omega) (by omega) (by omega))) (by decide)) (by decide)) XQ.nil) (XQ.cons (XS.setls (X.gets rfl) (c_i_i hc1) (of_decide_eq_true rfl)) XQ.nil)), by omega⟩) tk
/-- the last of the digits' values -/
def cLu (L : List Nat) (e t : Nat) : Nat := if t = 0 then e else fLu (t - 1) (L.getD (L.length - t) 0)
theorem luh_sum {L : List Nat} (hl : L.length ≤ 40) (hL : ∀ x ∈ L, x < 10) (rd r e tk : Nat) : ∃ tk', XW inp luhBd luhD luhV ⟨tk, [], rd, 1, [L ++ List.replicate (40 - L.length) 0]⟩ ⟨[L.length - 0, cLu L e 0, gLu L L.length - gLu L (L.length - 0), 0 % 2], r⟩
    (.go 0 ⟨tk', [], rd, 1, [L ++ List.replicate (40 - L.length) 0]⟩ ⟨[L.length - L.length, cLu L e L.length, gLu L L.length - gLu L (L.length - L.length), L.length % 2], r⟩) ∧ tk' ≤ tk + 48 * L.length + 4 :=
  XW.count (inp := inp) (bd := luhBd) (C := luhD) (B := luhV) (N := L.length) (K := 44) (c := 4) (r := r) (cl := 1) (O := fun _ => []) (R := fun _ => rd) (Q := fun _ => rd) (G := fun _ => [L ++ List.replicate (40 - L.length) 0]) (Fs := fun t => [L.length - t, cLu L e t, gLu L L.length - gLu L (L.length - t), t % 2])
    (fun t ht tk => by
      by_cases hlt : t < L.length
      · have h0 : 0 < L.length - t := by omega
        exact ⟨1, tk + 1 + 3, (X.bin (X.loc rfl) (X.num _) (b18_i_i_t (by omega) (by omega) (by omega))), by omega, by simp; omega⟩
      · have h0 : L.length - t ≤ 0 := by omega
        exact ⟨0, tk + 1 + 3, (X.bin (X.loc rfl) (X.num _) (b18_i_i_f (by omega) (by omega) (by omega))), by omega, by simp; omega⟩)
    (fun t ht tk => by
      obtain ⟨k, hk⟩ : ∃ k, L.length - t = k + 1 := ⟨L.length - t - 1, by omega⟩
      have hk2 : L.length - (t + 1) = k := by omega
      have hkl : k < L.length := by omega
      obtain ⟨d, hd⟩ : ∃ d, L[k]? = some d := ⟨_, List.getElem?_eq_getElem hkl⟩
      have hd10 := hL d (List.mem_of_getElem? hd)
      have hgd : L.getD k 0 = d := by rw [List.getD_eq_getElem?_getD, hd]; rfl
      have hload : (L ++ List.replicate (40 - L.length) 0)[k]? = some d := by rw [List.getElem?_append_left hkl]; exact hd
      have ec : cLu L e (t + 1) = fLu t d := by
        unfold cLu
        rw [if_neg (by omega), hk2, hgd, show t + 1 - 1 = t by omega]
      have eg : gLu L (k + 1) = gLu L k + fLu t d := by
        show gLu L k + fLu (L.length - 1 - k) (L.getD k 0) = _
        rw [hgd, show L.length - 1 - k = t by omega]
      have m1 := gLu_mono L (L.length - (k + 1)) (k + 1)
      rw [show k + 1 + (L.length - (k + 1)) = L.length by omega] at m1
      have m2 := gLu_le hL L.length
      have es : gLu L L.length - gLu L k = gLu L L.length - gLu L (k + 1) + fLu t d := by omega
      have hs : gLu L L.length - gLu L (k + 1) ≤ 360 := by omega
      show ∃ tk', XQ inp luhBd luhV ⟨tk, [], rd, 1, [L ++ List.replicate (40 - L.length) 0]⟩ ⟨[L.length - t, cLu L e t, gLu L L.length - gLu L (L.length - t), t % 2], r⟩ (.go 0 ⟨tk', [], rd, 1, [L ++ List.replicate (40 - L.length) 0]⟩ ⟨[L.length - (t + 1), cLu L e (t + 1), gLu L L.length - gLu L (L.length - (t + 1)), (t + 1) % 2], r⟩) ∧ _
      rw [hk2, hk, ec, es]
      have hk1 : k + 1 - 1 = k := by omega
      have hk40 : k < 40 := by omega
      generalize L ++ List.replicate (40 - L.length) 0 = row at *
      generalize gLu L L.length - gLu L (k + 1) = s at *
      generalize cLu L e t = cc at *
      clear es eg ec m1 m2
      by_cases hp : t % 2 = 1
      · have e0 : (t + 1) % 2 = 0 := by omega
        rw [hp, e0]
        unfold fLu
        rw [if_pos hp]
        by_cases h9 : 9 < d * 2
        · rw [if_pos h9]
          exact ⟨tk + 29, (XQ.cons (XS.setls (X.bin (X.loc rfl) (X.num _) (b13_i_i_n (by omega) (by omega) (by omega))) (c_i_i (by omega)) (of_decide_eq_true rfl)) (XQ.cons (XS.setls (X.elt (X.loc rfl) (c_i_h (by omega)) (by omega) hload) (c_b_i (by omega)) (of_decide_eq_true rfl)) (XQ.cons (XS.yes (X.loc rfl) (by decide) (XQ.cons (XS.setls (X.bin (X.loc rfl) (X.num _) (b9_i_i_n (by omega) (by omega) (by omega))) (c_i_i (by omega)) (of_decide_eq_true rfl)) (XQ.cons (XS.yes (X.bin (X.loc rfl) (X.num _) (b18_i_i_t (by omega) (by omega) (by omega))) (by decide) (XQ.cons (XS.setls (X.bin (X.loc rfl) (X.num _) (b13_i_i_n (by omega) (by omega) (by omega))) (c_i_i (by omega)) (of_decide_eq_true rfl)) XQ.nil)) XQ.nil))) (XQ.cons (XS.setls (X.uns (X.loc rfl) (show (unN 8 1 intT).1 = 0 from rfl)) (c_i_i (by omega)) (of_decide_eq_true rfl)) (XQ.cons (XS.setls (X.bin (X.loc rfl) (X.casts (X.loc rfl) (c_i_h (by omega))) (b12_h_h_n (by omega) (by omega) (by omega))) (c_h_h (by omega)) (of_decide_eq_true rfl)) XQ.nil))))), by omega⟩
        · rw [if_neg h9]
          have h9 : d * 2 ≤ 9 := by omega
          exact ⟨tk + 25, (XQ.cons (XS.setls (X.bin (X.loc rfl) (X.num _) (b13_i_i_n (by omega) (by omega) (by omega))) (c_i_i (by omega)) (of_decide_eq_true rfl)) (XQ.cons (XS.setls (X.elt (X.loc rfl) (c_i_h (by omega)) (by omega) hload) (c_b_i (by omega)) (of_decide_eq_true rfl)) (XQ.cons (XS.yes (X.loc rfl) (by decide) (XQ.cons (XS.setls (X.bin (X.loc rfl) (X.num _) (b9_i_i_n (by omega) (by omega) (by omega))) (c_i_i (by omega)) (of_decide_eq_true rfl)) (XQ.cons (XS.no (X.bin (X.loc rfl) (X.num _) (b18_i_i_f (by omega) (by omega) (by omega))) XQ.nil) XQ.nil))) (XQ.cons (XS.setls (X.uns (X.loc rfl) (show (unN 8 1 intT).1 = 0 from rfl)) (c_i_i (by omega)) (of_decide_eq_true rfl)) (XQ.cons (XS.setls (X.bin (X.loc rfl) (X.casts (X.loc rfl) (c_i_h (by omega))) (b12_h_h_n (by omega) (by omega) (by omega))) (c_h_h (by omega)) (of_decide_eq_true rfl)) XQ.nil))))), by omega⟩
      · have hp0 : t % 2 = 0 := by omega
        have e0 : (t + 1) % 2 = 1 := by omega
        rw [e0]
        unfold fLu
        rw [if_neg hp, hp0]
        exact ⟨tk + 17, (XQ.cons (XS.setls (X.bin (X.loc rfl) (X.num _) (b13_i_i_n (by omega) (by omega) (by omega))) (c_i_i (by omega)) (of_decide_eq_true rfl)) (XQ.cons (XS.setls (X.elt (X.loc rfl) (c_i_h (by omega)) (by omega) hload) (c_b_i (by omega)) (of_decide_eq_true rfl)) (XQ.cons (XS.no (X.loc rfl) XQ.nil) (XQ.cons (XS.setls (X.uns (X.loc rfl) (show (unN 8 0 intT).1 = 1 from rfl)) (c_i_i (by omega)) (of_decide_eq_true rfl)) (XQ.cons (XS.setls (X.bin (X.loc rfl) (X.casts (X.loc rfl) (c_i_h (by omega))) (b12_h_h_n (by omega) (by omega) (by omega))) (c_h_h (by omega)) (of_decide_eq_true rfl)) XQ.nil))))), by omega⟩) tk
/-- the digits that came in are right -/
def luhN (inp : List Nat) : Nat := gLu (dgL inp inp.length) (dgL inp inp.length).length
theorem luh_means (hb : ∀ v ∈ inp, v < 256) : ∃ (d n v : Nat) (s : Ms), ((luhN inp % 10 = 0 ∧ d = 49) ∨ (luhN inp % 10 ≠ 0 ∧ d = 48)) ∧ evF inp luhBd n 0 [] ⟨0, [], 0, 0, [List.replicate 40 0]⟩ = some (.val v s) ∧ s.out = [d, 10] ∧ ((200000 < s.tk ∨ 65536 < s.out.length) → 60 < inp.length) := by
  have hc0 : curC inp 0 < 65536 := by rcases cur_ch hb 0 with h | h <;> omega
  obtain ⟨t1, h1, k1⟩ := luh_read hb 0 (8 + 1)
  have hl := dgL_len inp inp.length
  have hL := dgL_lt inp inp.length
  have eN : luhN inp = gLu (dgL inp inp.length) (dgL inp inp.length).length := rfl
  have hG := gLu_le hL (dgL inp inp.length).length
  obtain ⟨t2, h2, k2⟩ := luh_sum (inp := inp) hl hL (min (inp.length + 1) inp.length) 0 (curC inp inp.length) (t1 + 1)
  rw [← eN] at h2 hG
  generalize dgL inp inp.length = L at *
  have e1 : [L.length - 0, cLu L (curC inp inp.length) 0, luhN inp - gLu L (L.length - 0), 0 % 2] = [L.length, curC inp inp.length, 0, 0] := by
    rw [Nat.sub_zero, ← eN, Nat.sub_self]; rfl
  have e2 : luhN inp - gLu L (L.length - L.length) = luhN inp := by rw [Nat.sub_self]; exact Nat.sub_zero _
  rw [e1, e2] at h2
  generalize cLu L (curC inp inp.length) L.length = cc at *
  generalize L.length - L.length = nn at *
  generalize L.length % 2 = pp at *
  have hI : XQ inp luhBd luhI ⟨0, [], 0, 1, [List.replicate 40 0]⟩ ⟨[0, 0, 0, 0], 0⟩ (.go 0 ⟨8, [], min 1 inp.length, 1, [List.replicate 40 0]⟩ ⟨[0, curC inp 0, 0, 0], 0⟩) := (XQ.cons (XS.setls (X.num _) (c_i_i (by omega)) (of_decide_eq_true rfl)) (XQ.cons (XS.setls (X.gets rfl) (c_i_i hc0) (of_decide_eq_true rfl)) (XQ.cons (XS.setls (X.num _) (c_h_h (by omega)) (of_decide_eq_true rfl)) (XQ.cons (XS.setls (X.num _) (c_i_i (by omega)) (of_decide_eq_true rfl)) XQ.nil))))
  have hm : luhN inp % 10 < 10 := Nat.mod_lt _ (by decide)
  have hT : ∃ d t3, ((luhN inp % 10 = 0 ∧ d = 49) ∨ (luhN inp % 10 ≠ 0 ∧ d = 48)) ∧ XQ inp luhBd luhT ⟨t2, [], min (inp.length + 1) inp.length, 1, [L ++ List.replicate (40 - L.length) 0]⟩ ⟨[nn, cc, luhN inp, pp], 0⟩ (.go 1 ⟨t3, [] ++ [d] ++ [10], min (inp.length + 1) inp.length, 1, [L ++ List.replicate (40 - L.length) 0]⟩ ⟨[nn, cc, luhN inp, pp], 0⟩) ∧ t3 ≤ t2 + 40 := by
    generalize luhN inp = g at *
    by_cases h : g % 10 = 0
    · exact ⟨49, t2 + 14, .inl ⟨h, rfl⟩, (XQ.cons (XS.ex (X.puts (X.bin (X.num _) (X.bin (X.bin (X.loc rfl) (X.num _) (b11_h_h (by omega) (by omega) (by omega))) (X.num _) (b20_h_h_t (by omega) (by omega) (by omega))) (b12_i_i_n (by omega) (by omega) (by omega))) (p_i (by omega)))) (XQ.cons (XS.ex (X.puts (X.num _) (p_i (by omega)))) (XQ.stop (XS.rets (X.num _) (c_i_i (by omega))) (by decide)))), by omega⟩
    · exact ⟨48, t2 + 14, .inr ⟨h, rfl⟩, (XQ.cons (XS.ex (X.puts (X.bin (X.num _) (X.bin (X.bin (X.loc rfl) (X.num _) (b11_h_h (by omega) (by omega) (by omega))) (X.num _) (b20_h_h_f (by omega) (by omega) (by omega))) (b12_i_i_n (by omega) (by omega) (by omega))) (p_i (by omega)))) (XQ.cons (XS.ex (X.puts (X.num _) (p_i (by omega)))) (XQ.stop (XS.rets (X.num _) (c_i_i (by omega))) (by decide)))), by omega⟩
  obtain ⟨d, t3, hd, hT, k3⟩ := hT
  have q : XQ inp luhBd luhM ⟨0, [], 0, 1, [List.replicate 40 0]⟩ ⟨[0, 0, 0, 0], 0⟩ (.go 1 ⟨t3, [] ++ [d] ++ [10], min (inp.length + 1) inp.length, 1, [L ++ List.replicate (40 - L.length) 0]⟩ ⟨[nn, cc, luhN inp, pp], 0⟩) :=
    XQ.app hI (XQ.cons (XS.whl h1) (XQ.cons (XS.whl h2) hT))
  have QQ : ∃ n v s, evF inp luhBd n 0 [] ⟨0, [], 0, 0, [List.replicate 40 0]⟩ = some (.val v s) ∧ s.out = [] ++ [d] ++ [10] ∧ ((200000 < s.tk ∨ 65536 < s.out.length) → 60 < inp.length) :=
    means_of (XF.runs (k := 0) rfl (by omega) q) (fun h => by
      rcases h with h | h
      · omega
      · exact absurd h (by simp))
  obtain ⟨n, v, s, q1, q2, q3⟩ := QQ
  exact ⟨d, n, v, s, hd, q1, q2, q3⟩
end
end Go.Proofs.YtgmmfjmdpbhjnaaGreat
