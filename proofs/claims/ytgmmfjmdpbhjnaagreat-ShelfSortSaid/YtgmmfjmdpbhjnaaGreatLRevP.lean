/-
  What reverse and mirror mean, plainly.
-/
import Derived.Test.YtgmmfjmdpbhjnaaGreatJPb
import Derived.Test.YtgmmfjmdpbhjnaaGreatJPc
namespace Go.Proofs.YtgmmfjmdpbhjnaaGreat

/-- a row into which bytes are laid, one behind the other -/
def rowA (inp : List Nat) (z i : Nat) : List Nat := inp.take i ++ List.replicate (z - i) 0
theorem rowA_zero (inp : List Nat) (z : Nat) : rowA inp z 0 = List.replicate z 0 := by unfold rowA; simp
theorem rowA_set {inp : List Nat} {z i : Nat} (hi : i < inp.length) (hz : i < z) : (rowA inp z i).set i (curC inp i) = rowA inp z (i + 1) := by
  have h : inp[i]? = some (curC inp i) := by
    unfold curC
    rw [List.getElem?_eq_getElem hi]; rfl
  unfold rowA
  have hl : (inp.take i).length = i := by rw [List.length_take]; omega
  rw [List.set_append_right _ _ (by omega), hl, Nat.sub_self, show z - i = (z - (i + 1)) + 1 by omega, List.replicate_succ, List.set_cons_zero, List.take_add_one, h]
  simp
theorem rowA_get {inp : List Nat} {z i k : Nat} (hk : k < i) (hi : i ≤ inp.length) : (rowA inp z i)[k]? = some (curC inp k) := by
  have h : inp[k]? = some (curC inp k) := by
    unfold curC
    rw [List.getElem?_eq_getElem (by omega)]; rfl
  unfold rowA
  rw [List.getElem?_append_left (by rw [List.length_take]; omega), List.getElem?_take, if_pos hk, h]
section
variable {inp : List Nat} {bd : List (List Sm × Nat)}

/-! ### reverse -/
def revC : Ex := .either false (.bin 19 (.loc 1) (.num 0) intT intT) (.bin 16 (.loc 0) (.num 200) intT intT)
def revW : List Sm := [.seta 0 200 (.loc 0) intT (.loc 1) intT u8T, .setl 0 (.bin 12 (.loc 0) (.num 1) intT intT) intT intT, .setl 1 .get intT intT]
def revD : Ex := .bin 18 (.loc 0) (.num 0) intT intT
def revV : List Sm := [.setl 0 (.bin 13 (.loc 0) (.num 1) intT intT) intT intT, .ex (.put (.elt 0 200 (.loc 0) intT) u8T)]
def revI : List Sm := [.setl 0 (.num 0) intT intT, .setl 1 .get intT intT]
def revR : Sm := .ret (.num 0) intT intT
def revM : List Sm := revI ++ [.whl revC revW, .whl revD revV, revR]
def revBd : List (List Sm × Nat) := [(revM, 2)]
theorem rev_read (hb : ∀ v ∈ inp, v < 256) (r cl tk : Nat) : ∃ tk', XW inp bd revC revW ⟨tk, [], min 1 inp.length, cl, [List.replicate 200 0]⟩ ⟨[0, curC inp 0], r⟩
    (.go 0 ⟨tk', [], min (min inp.length 200 + 1) inp.length, cl, [rowA inp 200 (min inp.length 200)]⟩ ⟨[min inp.length 200, curC inp (min inp.length 200)], r⟩) ∧ tk' ≤ tk + 30 * 200 + 10 := by
  have key := XW.count (inp := inp) (bd := bd) (C := revC) (B := revW) (N := min inp.length 200) (K := 18) (c := 8) (r := r) (cl := cl) (O := fun _ => []) (R := fun i => min (i + 1) inp.length) (Q := fun i => min (i + 1) inp.length) (G := fun i => [rowA inp 200 i]) (Fs := fun i => [i, curC inp i])
    (fun i hi tk => by
      by_cases hl : i < inp.length
      · obtain ⟨h1, h2⟩ := cur_lt hb hl
        by_cases h200 : i < 200
        · exact ⟨1, tk + 1 + 7, (X.both (X.bin (X.loc rfl) (X.num _) (b19_i_i_t (by omega) (by omega) (by omega))) (by decide) (X.bin (X.loc rfl) (X.num _) (b16_i_i_t (by omega) (by omega) (by omega)))), by omega, by simp; omega⟩
        · have h200 : 200 ≤ i := by omega
          exact ⟨0, tk + 1 + 7, (X.both (X.bin (X.loc rfl) (X.num _) (b19_i_i_t (by omega) (by omega) (by omega))) (by decide) (X.bin (X.loc rfl) (X.num _) (b16_i_i_f (by omega) (by omega) (by omega)))), by omega, by simp; omega⟩
      · have hc := cur_end (inp := inp) (i := i) (by omega)
        refine ⟨0, tk + 1 + 4, ?_, by omega, by simp; omega⟩
        rw [hc]
        exact (X.stop (X.bin (X.loc rfl) (X.num _) (ge0_ch (.inr rfl))) (by decide)))
    (fun i hi tk => by
      have hl : i < inp.length := by omega
      obtain ⟨h1, h2⟩ := cur_lt hb hl
      have hc1 : curC inp (i + 1) < 65536 := by rcases cur_ch hb (i + 1) with h | h <;> omega
      refine ⟨tk + 9, ?_, by omega⟩
      rw [← rowA_set hl (show i < 200 by omega)]
      exact (XQ.cons (XS.setas (X.loc rfl) (c_i_h (by omega)) (by omega) (X.loc rfl) (c_i_b (by omega))) (XQ.cons (XS.setls (X.bin (X.loc rfl) (X.num _) (b12_i_i_n (by omega) (by omega) (by omega))) (c_i_i (by omega)) (of_decide_eq_true rfl)) (XQ.cons (XS.setls (X.gets rfl) (c_i_i hc1) (of_decide_eq_true rfl)) XQ.nil)))) tk
  obtain ⟨tk', h1, h2⟩ := key
  rw [rowA_zero] at h1
  exact ⟨tk', h1, by have := Nat.min_le_right inp.length 200; have : (18 + 8) * min inp.length 200 ≤ 26 * 200 := Nat.mul_le_mul_left _ this; omega⟩
theorem rev_means (hb : ∀ v ∈ inp, v < 256) : ∃ n v s, evF inp revBd n 0 [] ⟨0, [], 0, 0, [List.replicate 200 0]⟩ = some (.val v s) ∧ s.out = (inp.take 200).reverse ∧ ((200000 < s.tk ∨ 65536 < s.out.length) → 60 < inp.length) := by
  have hc0 : curC inp 0 < 65536 := by rcases cur_ch hb 0 with h | h <;> omega
  obtain ⟨tk1, h1, h2⟩ := rev_read (bd := revBd) hb 0 1 (4 + 1)
  obtain ⟨N, hN⟩ : ∃ N, N = min inp.length 200 := ⟨_, rfl⟩
  rw [← hN] at h1
  have htl : (inp.take 200).length = N := by rw [List.length_take, hN, Nat.min_comm]
  obtain ⟨tk2, h3, h4⟩ := XW.count (inp := inp) (bd := revBd) (C := revD) (B := revV) (N := N) (K := 10) (c := 4) (r := 0) (cl := 1) (O := fun i => (inp.take 200).reverse.take i) (R := fun _ => min (N + 1) inp.length) (Q := fun _ => min (N + 1) inp.length) (G := fun _ => [rowA inp 200 N]) (Fs := fun i => [N - i, curC inp N])
    (fun i hi tk => by
      by_cases hlt : i < N
      · have h0 : 0 < N - i := by omega
        exact ⟨1, tk + 1 + 3, (X.bin (X.loc rfl) (X.num _) (b18_i_i_t (by omega) (by omega) (by omega))), by omega, by simp; omega⟩
      · have h0 : N - i ≤ 0 := by omega
        exact ⟨0, tk + 1 + 3, (X.bin (X.loc rfl) (X.num _) (b18_i_i_f (by omega) (by omega) (by omega))), by omega, by simp; omega⟩)
    (fun i hi tk => by
      have hk : N - i - 1 < N := by omega
      have hg := rowA_get (z := 200) (i := N) hk (show N ≤ inp.length by omega)
      obtain ⟨q1, q2⟩ := cur_lt hb (i := N - i - 1) (by omega)
      have ht : (inp.take 200).reverse.take (i + 1) = (inp.take 200).reverse.take i ++ [curC inp (N - i - 1)] := by
        rw [List.take_add_one]
        congr 1
        rw [List.getElem?_reverse (by rw [htl]; exact hi), htl, List.getElem?_take, if_pos (by omega), show N - 1 - i = N - i - 1 by omega, q1]
        rfl
      have hs : N - (i + 1) = N - i - 1 := by omega
      refine ⟨tk + 8, ?_, by omega⟩
      rw [ht, hs]
      exact (XQ.cons (XS.setls (X.bin (X.loc rfl) (X.num _) (b13_i_i_n (by omega) (by omega) (by omega))) (c_i_i (by omega)) (of_decide_eq_true rfl)) (XQ.cons (XS.ex (X.puts (X.elt (X.loc rfl) (c_i_h (by omega)) (by omega) hg) (p_b (by omega)))) XQ.nil))) (tk1 + 1)
  have e : (inp.take 200).reverse.take N = (inp.take 200).reverse := List.take_of_length_le (by rw [List.length_reverse, htl]; exact Nat.le_refl _)
  rw [e, Nat.sub_self] at h3
  have q : XQ inp revBd revM ⟨0, [], 0, 1, [List.replicate 200 0]⟩ ⟨[0, 0], 0⟩ (.go 1 ⟨tk2 + 2, (inp.take 200).reverse, min (N + 1) inp.length, 1, [rowA inp 200 N]⟩ ⟨[0, curC inp N], 0⟩) :=
    XQ.app (F1 := ⟨[0, curC inp 0], 0⟩) (s1 := ⟨4, [], min 1 inp.length, 1, [List.replicate 200 0]⟩) (XQ.cons (XS.setls (X.num _) (c_i_i (by omega)) (of_decide_eq_true rfl)) (XQ.cons (XS.setls (X.gets rfl) (c_i_i hc0) (of_decide_eq_true rfl)) XQ.nil)) (XQ.cons (XS.whl h1) (XQ.cons (XS.whl h3) (XQ.stop (XS.rets (X.num _) (c_i_i (by omega))) (by decide))))
  have hlen : (inp.take 200).reverse.length ≤ 200 := by rw [List.length_reverse, htl]; omega
  exact means_of (XF.runs (k := 0) rfl (by omega) q) (fun h => by
    have : (10 + 4) * N ≤ 14 * 200 := Nat.mul_le_mul_left _ (by omega)
    omega)
end
end Go.Proofs.YtgmmfjmdpbhjnaaGreat
