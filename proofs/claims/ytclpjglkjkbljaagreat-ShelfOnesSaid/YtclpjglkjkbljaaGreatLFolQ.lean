/-
  What words and ones mean, plainly.
-/
import Derived.Test.YtclpjglkjkbljaaGreatLFolP
import Derived.Test.YtclpjglkjkbljaaGreatLHoC
namespace Go.Proofs.YtclpjglkjkbljaaGreat

section
variable {inp : List Nat} {bd : List (List Sm × Nat)}

/-! ### words -/
def woF (p : Nat × Nat) (c : Nat) : Nat × Nat := if c ≤ 32 then (p.1, 0) else (if p.2 = 0 then p.1 + 1 else p.1, 1)
theorem woF_lo {p : Nat × Nat} {c : Nat} (h : c ≤ 32) : woF p c = (p.1, 0) := if_pos h
theorem woF_hi {p : Nat × Nat} {c : Nat} (h : ¬ c ≤ 32) : woF p c = (if p.2 = 0 then p.1 + 1 else p.1, 1) := if_neg h
def worI : List Sm := [.setl 0 (.num 0) uintT u32T, .setl 1 (.num 0) intT intT, .setl 2 .get intT intT]
def worB : List Sm := [.ite (.bin 17 (.loc 2) (.num 32) intT intT) [.setl 1 (.num 0) intT intT] [.ite (.bin 20 (.loc 1) (.num 0) intT intT) [.setl 0 (.bin 12 (.loc 0) (.num 1) u32T uintT) u32T u32T] [], .setl 1 (.num 1) intT intT]]
def worE : Ex := .loc 0
def worM : List Sm := worI ++ [.whl (.bin 19 (.loc 2) (.num 0) intT intT) (worB ++ [.setl 2 .get intT intT]), .ex (.call 0 [(worE, u32T, u64T)]), .ret (.num 0) intT intT]
def worBd : List (List Sm × Nat) := [(decB, 2), (worM, 3)]
theorem wo_le : ∀ i, i ≤ inp.length → (foldC woF (0, 0) inp i).1 ≤ i ∧ (foldC woF (0, 0) inp i).2 ≤ 1
  | 0, _ => by rw [foldC_zero]; exact ⟨Nat.le_refl _, Nat.zero_le _⟩
  | i + 1, hi => by
    have ih := wo_le i (by omega)
    rw [foldC_succ woF (0, 0) (by omega)]
    generalize foldC woF (0, 0) inp i = p at *
    unfold woF
    split
    · exact ⟨by show _ ≤ i + 1; omega, Nat.zero_le _⟩
    · refine ⟨?_, Nat.le_refl _⟩
      show (if p.2 = 0 then p.1 + 1 else p.1) ≤ i + 1
      by_cases h2 : p.2 = 0
      · rw [if_pos h2]; exact Nat.succ_le_succ ih.1
      · rw [if_neg h2]; exact Nat.le_succ_of_le ih.1
theorem wor_body {A B c : Nat} (hA : A ≤ 65536) (hB : B ≤ 1) (hc : c < 256) (tk : Nat) (out : List Nat) (rd cl : Nat) (gl : List (List Nat)) (r : Nat) :
    ∃ tk', XQ inp bd worB ⟨tk, out, rd, cl, gl⟩ ⟨[A, B, c], r⟩ (.go 0 ⟨tk', out, rd, cl, gl⟩ ⟨[(woF (A, B) c).1, (woF (A, B) c).2, c], r⟩) ∧ tk' ≤ tk + 20 := by
  unfold woF
  by_cases h1 : c ≤ 32
  · rw [if_pos h1]
    exact ⟨tk + 6, (XQ.cons (XS.yes (X.bin (X.loc rfl) (X.num _) (b17_i_i_t (by omega) (by omega) (by omega))) (by decide) (XQ.cons (XS.setls (X.num _) (c_i_i (by omega)) (of_decide_eq_true rfl)) XQ.nil)) XQ.nil), by omega⟩
  · rw [if_neg h1]
    have h1 : 32 < c := by omega
    by_cases h2 : B = 0
    · rw [if_pos h2]
      exact ⟨tk + 14, (XQ.cons (XS.no (X.bin (X.loc rfl) (X.num _) (b17_i_i_f (by omega) (by omega) (by omega))) (XQ.cons (XS.yes (X.bin (X.loc rfl) (X.num _) (b20_i_i_t (by omega) (by omega) (by omega))) (by decide) (XQ.cons (XS.setls (X.bin (X.loc rfl) (X.num _) (b12_w_h_n (by omega) (by omega) (by omega))) (c_w_w (by omega)) (of_decide_eq_true rfl)) XQ.nil)) (XQ.cons (XS.setls (X.num _) (c_i_i (by omega)) (of_decide_eq_true rfl)) XQ.nil))) XQ.nil), by omega⟩
    · rw [if_neg h2]
      exact ⟨tk + 10, (XQ.cons (XS.no (X.bin (X.loc rfl) (X.num _) (b17_i_i_f (by omega) (by omega) (by omega))) (XQ.cons (XS.no (X.bin (X.loc rfl) (X.num _) (b20_i_i_f (by omega) (by omega) (by omega))) XQ.nil) (XQ.cons (XS.setls (X.num _) (c_i_i (by omega)) (of_decide_eq_true rfl)) XQ.nil))) XQ.nil), by omega⟩
def woN (inp : List Nat) : Nat := (inp.foldl woF (0, 0)).1
theorem words_means (hb : ∀ v ∈ inp, v < 256) (hl : inp.length ≤ 65536) : ∃ n v s, evF inp worBd n 1 [] ⟨0, [], 0, 0, [List.replicate 20 0]⟩ = some (.val v s) ∧ s.out = digs (woN inp) ++ [10] ∧ ((200000 < s.tk ∨ 65536 < s.out.length) → 60 < inp.length) := by
  have hc0 : curC inp 0 < 65536 := by rcases cur_ch hb 0 with h | h <;> omega
  have hn : woN inp ≤ 65536 := by
    have := (wo_le (inp := inp) inp.length (Nat.le_refl _)).1
    rw [foldC_all] at this
    exact Nat.le_trans this hl
  refine fold_means (M := worM) hb (n := woN inp) (n0 := woN inp) (Fs := fun i => [(foldC woF (0, 0) inp i).1, (foldC woF (0, 0) inp i).2, curC inp i]) (Fb := fun i => [(foldC woF (0, 0) inp (i + 1)).1, (foldC woF (0, 0) inp (i + 1)).2, curC inp i])
    (t0 := 6) (K := 20) (e := 1) rfl ?_ (fun _ _ => rfl) (fun i hi tk => ?_) (fun _ _ => ⟨of_decide_eq_true rfl, rfl⟩) (fun s => ?_) (c_w_q (by omega)) (by omega) (fun h => by omega)
  · rw [foldC_zero]
    exact (XQ.cons (XS.setls (X.num _) (c_h_w (by omega)) (of_decide_eq_true rfl)) (XQ.cons (XS.setls (X.num _) (c_i_i (by omega)) (of_decide_eq_true rfl)) (XQ.cons (XS.setls (X.gets rfl) (c_i_i hc0) (of_decide_eq_true rfl)) XQ.nil)))
  · obtain ⟨h1, h2⟩ := wo_le (inp := inp) i (by omega)
    show ∃ tk', XQ inp _ worB _ ⟨[_, _, curC inp i], 0⟩ (.go 0 _ ⟨[(foldC woF (0, 0) inp (i + 1)).1, (foldC woF (0, 0) inp (i + 1)).2, curC inp i], 0⟩) ∧ _
    rw [foldC_succ woF (0, 0) hi]
    exact wor_body (by omega) h2 (cur_lt hb hi).2 tk [] _ 1 _ 0
  · unfold woN
    rw [← foldC_all]
    generalize foldC woF (0, 0) inp inp.length = p at *
    exact (X.loc rfl)

/-! ### ones -/
/-- how many bits are 1 -/
def pc (c : Nat) : Nat := if h : c = 0 then 0 else c % 2 + pc (c / 2)
termination_by c
decreasing_by omega
theorem pc_zero : pc 0 = 0 := by rw [pc]; rfl
theorem pc_pos {c : Nat} (h : c ≠ 0) : pc c = c % 2 + pc (c / 2) := by rw [pc, dif_neg h]
theorem pc_le : ∀ (m c : Nat), c < 2 ^ m → pc c ≤ m
  | 0, c, h => by rw [show c = 0 by simpa using h, pc_zero]; exact Nat.le_refl _
  | m + 1, c, h => by
    by_cases hc : c = 0
    · rw [hc, pc_zero]; omega
    · rw [pc_pos hc]
      have := pc_le m (c / 2) (by rw [Nat.pow_succ] at h; omega)
      omega
def onF (n c : Nat) : Nat := n + pc c
def oneI : List Sm := [.setl 0 (.num 0) uintT u32T, .setl 1 .get intT intT]
def oneC : Ex := .bin 21 (.loc 1) (.num 0) intT intT
def oneW : List Sm := [.setl 0 (.bin 12 (.loc 0) (.cast (.bin 22 (.loc 1) (.num 1) intT intT) intT u32T) u32T u32T) u32T u32T, .setl 1 (.bin 15 (.loc 1) (.num 1) intT intT) intT intT]
def oneB : List Sm := [.whl oneC oneW]
def oneE : Ex := .loc 0
def oneM : List Sm := oneI ++ [.whl (.bin 19 (.loc 1) (.num 0) intT intT) (oneB ++ [.setl 1 .get intT intT]), .ex (.call 0 [(oneE, u32T, u64T)]), .ret (.num 0) intT intT]
def oneBd : List (List Sm × Nat) := [(decB, 2), (oneM, 2)]
theorem one_loop (out : List Nat) (rd cl : Nat) (gl : List (List Nat)) (r : Nat) : ∀ (m n c tk : Nat), c < 2 ^ m → m ≤ 8 → n + m ≤ 1000000 → ∃ tk', XW inp bd oneC oneW ⟨tk, out, rd, cl, gl⟩ ⟨[n, c], r⟩ (.go 0 ⟨tk', out, rd, cl, gl⟩ ⟨[n + pc c, 0], r⟩) ∧ tk' ≤ tk + 16 * m + 4
  | m, n, c, tk, hc, hm, hn => by
    by_cases h0 : c = 0
    · subst h0
      rw [pc_zero]
      have h : X inp bd oneC (Ms.tick ⟨tk, out, rd, cl, gl⟩) [n, 0] (.val 0 ⟨tk + 1 + 3, out, rd, cl, gl⟩) := (X.bin (X.loc rfl) (X.num _) (b21_i_i_f (by omega) (by omega) (by omega)))
      exact ⟨_, XW.done h, by omega⟩
    · cases m with
      | zero => exact absurd (by simpa using hc) h0
      | succ m =>
        have hc256 : c < 256 := Nat.lt_of_lt_of_le hc (Nat.le_trans (Nat.pow_le_pow_right (by omega) hm) (by decide))
        have hand : c &&& 1 = c % 2 := Nat.and_one_is_mod c
        have h1 : X inp bd oneC (Ms.tick ⟨tk, out, rd, cl, gl⟩) [n, c] (.val 1 ⟨tk + 1 + 3, out, rd, cl, gl⟩) := (X.bin (X.loc rfl) (X.num _) (b21_i_i_t (by omega) (by omega) (by omega)))
        have h2 : XQ inp bd oneW ⟨tk + 1 + 3, out, rd, cl, gl⟩ ⟨[n, c], r⟩ (.go 0 ⟨tk + 1 + 3 + 11, out, rd, cl, gl⟩ ⟨[n + (c &&& 1), c / 2 ^ 1], r⟩) := (XQ.cons (XS.setls (X.bin (X.loc rfl) (X.casts (X.bin (X.loc rfl) (X.num _) (b22_i_i (by omega) (by omega))) (c_i_w (by omega))) (b12_w_w_n (by omega) (by omega) (by omega))) (c_w_w (by omega)) (of_decide_eq_true rfl)) (XQ.cons (XS.setls (X.bin (X.loc rfl) (X.num _) (b15_i_i (by omega) (by omega) (by omega))) (c_i_i (by omega)) (of_decide_eq_true rfl)) XQ.nil))
        obtain ⟨tk', h3, h4⟩ := one_loop out rd cl gl r m (n + (c &&& 1)) (c / 2 ^ 1) (tk + 1 + 3 + 11) (by rw [Nat.pow_succ] at hc; omega) (by omega) (by omega)
        refine ⟨tk', ?_, by omega⟩
        rw [pc_pos h0, ← hand, ← Nat.add_assoc]
        exact XW.step h1 (by decide) h2 (.inl rfl) h3
theorem on_le (hb : ∀ v ∈ inp, v < 256) : ∀ i, i ≤ inp.length → foldC onF 0 inp i ≤ 8 * i
  | 0, _ => by rw [foldC_zero]; exact Nat.le_refl _
  | i + 1, hi => by
    have ih := on_le hb i (by omega)
    rw [foldC_succ onF 0 (by omega)]
    have := pc_le 8 (curC inp i) (cur_lt hb (by omega)).2
    show foldC onF 0 inp i + pc (curC inp i) ≤ _
    omega
def onN (inp : List Nat) : Nat := inp.foldl onF 0
theorem ones_means (hb : ∀ v ∈ inp, v < 256) (hl : inp.length ≤ 65536) : ∃ n v s, evF inp oneBd n 1 [] ⟨0, [], 0, 0, [List.replicate 20 0]⟩ = some (.val v s) ∧ s.out = digs (onN inp) ++ [10] ∧ ((200000 < s.tk ∨ 65536 < s.out.length) → 60 < inp.length) := by
  have hc0 : curC inp 0 < 65536 := by rcases cur_ch hb 0 with h | h <;> omega
  have hn : onN inp ≤ 524288 := by
    have := on_le hb inp.length (Nat.le_refl _)
    rw [foldC_all] at this
    unfold onN
    omega
  refine fold_means (M := oneM) hb (n := onN inp) (n0 := onN inp) (Fs := fun i => [foldC onF 0 inp i, curC inp i]) (Fb := fun i => [foldC onF 0 inp (i + 1), 0])
    (t0 := 4) (K := 140) (e := 1) rfl ?_ (fun _ _ => rfl) (fun i hi tk => ?_) (fun _ _ => ⟨of_decide_eq_true rfl, rfl⟩) (fun s => ?_) (c_w_q (by omega)) (by omega) (fun h => by omega)
  · rw [foldC_zero]
    exact (XQ.cons (XS.setls (X.num _) (c_h_w (by omega)) (of_decide_eq_true rfl)) (XQ.cons (XS.setls (X.gets rfl) (c_i_i hc0) (of_decide_eq_true rfl)) XQ.nil))
  · have h1 := on_le hb i (by omega)
    obtain ⟨tk', h2, h3⟩ := one_loop (inp := inp) (bd := [(decB, 2), (oneM, 2)]) [] (min (i + 1) inp.length) 1 [List.replicate 20 0] 0 8 (foldC onF 0 inp i) (curC inp i) (tk + 1) (cur_lt hb hi).2 (by omega) (by omega)
    refine ⟨tk', ?_, by omega⟩
    rw [foldC_succ onF 0 hi]
    exact XQ.cons (XS.whl h2) XQ.nil
  · unfold onN
    rw [← foldC_all]
    generalize foldC onF 0 inp inp.length = p at *
    exact (X.loc rfl)
end
end Go.Proofs.YtclpjglkjkbljaaGreat
