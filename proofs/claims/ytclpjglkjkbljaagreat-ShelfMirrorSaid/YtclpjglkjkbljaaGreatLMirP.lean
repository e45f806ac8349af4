/-
  What mirror means, plainly.
-/
import Derived.Test.YtclpjglkjkbljaaGreatLRevP
namespace Go.Proofs.YtclpjglkjkbljaaGreat

/-- up to the first that is not so -/
theorem first_not (m : Nat → Prop) [DecidablePred m] (N : Nat) : ∃ K, K ≤ N ∧ (∀ k, k < K → m k) ∧ (K = N ∨ ¬ m K) := by
  induction N with
  | zero => exact ⟨0, Nat.le_refl _, fun k h => absurd h (Nat.not_lt_zero k), .inl rfl⟩
  | succ N ih =>
    obtain ⟨K, h1, h2, h3⟩ := ih
    rcases h3 with h3 | h3
    · by_cases hm : m K
      · subst h3
        refine ⟨K + 1, Nat.le_refl _, fun k hk => ?_, .inl rfl⟩
        by_cases hkK : k = K
        · subst hkK; exact hm
        · exact h2 k (by omega)
      · exact ⟨K, by omega, h2, .inr hm⟩
    · exact ⟨K, by omega, h2, .inr h3⟩
section
variable {inp : List Nat} {bd : List (List Sm × Nat)}
def mirC : Ex := .either false (.bin 19 (.loc 2) (.num 0) intT intT) (.bin 16 (.loc 0) (.num 200) intT intT)
def mirW : List Sm := [.seta 0 200 (.loc 0) intT (.loc 2) intT u8T, .setl 0 (.bin 12 (.loc 0) (.num 1) intT intT) intT intT, .setl 2 .get intT intT]
def mirD : Ex := .either false (.bin 16 (.loc 1) (.loc 0) intT intT) (.bin 20 (.elt 0 200 (.loc 1) intT) (.elt 0 200 (.bin 13 (.bin 13 (.loc 0) (.num 1) intT intT) (.loc 1) intT intT) intT) u8T u8T)
def mirV : List Sm := [.setl 1 (.bin 12 (.loc 1) (.num 1) intT intT) intT intT]
def mirI : List Sm := [.setl 0 (.num 0) intT intT, .setl 1 (.num 0) intT intT, .setl 2 .get intT intT]
def mirT : List Sm := [.ex (.put (.bin 12 (.num 48) (.bin 20 (.loc 1) (.loc 0) intT intT) intT intT) intT), .ex (.put (.num 10) intT), .ret (.num 0) intT intT]
def mirM : List Sm := mirI ++ (.whl mirC mirW :: .whl mirD mirV :: mirT)
def mirBd : List (List Sm × Nat) := [(mirM, 3)]
theorem mir_read (hb : ∀ v ∈ inp, v < 256) (r cl tk : Nat) : ∃ tk', XW inp bd mirC mirW ⟨tk, [], min 1 inp.length, cl, [List.replicate 200 0]⟩ ⟨[0, 0, curC inp 0], r⟩
    (.go 0 ⟨tk', [], min (min inp.length 200 + 1) inp.length, cl, [rowA inp 200 (min inp.length 200)]⟩ ⟨[min inp.length 200, 0, curC inp (min inp.length 200)], r⟩) ∧ tk' ≤ tk + 30 * 200 + 10 := by
  have key := XW.count (inp := inp) (bd := bd) (C := mirC) (B := mirW) (N := min inp.length 200) (K := 18) (c := 8) (r := r) (cl := cl) (O := fun _ => []) (R := fun i => min (i + 1) inp.length) (Q := fun i => min (i + 1) inp.length) (G := fun i => [rowA inp 200 i]) (Fs := fun i => [i, 0, curC inp i])
    (fun i hi tk => by
      by_cases hl : i < inp.length
      · obtain ⟨h1, h2⟩ := cur_lt hb hl
        by_cases h200 : i < 200
        · exact ⟨1, tk + 1 + 7, (X.both (X.bin (X.loc rfl) (X.num _) (b19_i_i_t (by omega) (by omega) (by omega))) (by decide) (X.bin (X.loc rfl) (X.num _) (b16_i_i_t (by omega) (by omega) (by omega)))), by omega, by simp; omega⟩
        · have h200 : 200 ≤ i := by omega
          exact ⟨0, tk + 1 + 7, (X.both (X.bin (X.loc rfl) (X.num _) (b19_i_i_t (by omega) (by omega) (by omega))) (by decide) (X.bin (X.loc rfl) (X.num _) (b16_i_i_f (by omega) (by omega) (by omega)))), by omega, by simp; omega⟩
      · have hc := cur_end (inp := inp) (i := i) (by omega)
        refine ⟨0, tk + 1 + 4, ?_, by omega, by simp; omega⟩
        rw [hc]
        exact (X.stop (X.bin (X.loc rfl) (X.num _) (ge0_ch (.inr rfl))) (by decide)))
    (fun i hi tk => by
      have hl : i < inp.length := by omega
      obtain ⟨h1, h2⟩ := cur_lt hb hl
      have hc1 : curC inp (i + 1) < 65536 := by rcases cur_ch hb (i + 1) with h | h <;> omega
      refine ⟨tk + 9, ?_, by omega⟩
      rw [← rowA_set hl (show i < 200 by omega)]
      exact (XQ.cons (XS.setas (X.loc rfl) (c_i_h (by omega)) (by omega) (X.loc rfl) (c_i_b (by omega))) (XQ.cons (XS.setls (X.bin (X.loc rfl) (X.num _) (b12_i_i_n (by omega) (by omega) (by omega))) (c_i_i (by omega)) (of_decide_eq_true rfl)) (XQ.cons (XS.setls (X.gets rfl) (c_i_i hc1) (of_decide_eq_true rfl)) XQ.nil)))) tk
  obtain ⟨tk', h1, h2⟩ := key
  rw [rowA_zero] at h1
  exact ⟨tk', h1, by have := Nat.min_le_right inp.length 200; have : (18 + 8) * min inp.length 200 ≤ 26 * 200 := Nat.mul_le_mul_left _ this; omega⟩
/-- the first two hundred are the same turned round -/
def mirP (inp : List Nat) : Prop := ∀ k, k < min inp.length 200 → curC inp k = curC inp (min inp.length 200 - 1 - k)
theorem mir_means (hb : ∀ v ∈ inp, v < 256) : ∃ (d : Nat) (n v : Nat) (s : Ms), ((mirP inp ∧ d = 49) ∨ (¬ mirP inp ∧ d = 48)) ∧ evF inp mirBd n 0 [] ⟨0, [], 0, 0, [List.replicate 200 0]⟩ = some (.val v s) ∧ s.out = [d, 10] ∧ ((200000 < s.tk ∨ 65536 < s.out.length) → 60 < inp.length) := by
  have hc0 : curC inp 0 < 65536 := by rcases cur_ch hb 0 with h | h <;> omega
  obtain ⟨tk1, h1, h2⟩ := mir_read (bd := mirBd) hb 0 1 (6 + 1)
  obtain ⟨K, k1, k2, k3⟩ := first_not (fun k => curC inp k = curC inp (min inp.length 200 - 1 - k)) (min inp.length 200)
  have hmir : mirP inp ↔ K = min inp.length 200 := ⟨fun h => by
      rcases k3 with k3 | k3
      · exact k3
      · by_cases hK : K < min inp.length 200
        · exact absurd (h K hK) k3
        · omega, fun h => by subst h; exact k2⟩
  obtain ⟨N, hN⟩ : ∃ N, N = min inp.length 200 := ⟨_, rfl⟩
  rw [← hN] at h1 k1 k2 k3 hmir
  have hget : ∀ k, k < N → (rowA inp 200 N)[k]? = some (curC inp k) ∧ curC inp k < 256 := fun k hk => ⟨rowA_get hk (by omega), (cur_lt hb (by omega)).2⟩
  obtain ⟨tk2, h3, h4⟩ := XW.count (inp := inp) (bd := mirBd) (C := mirD) (B := mirV) (N := K) (K := 6) (c := 16) (r := 0) (cl := 1) (O := fun _ => []) (R := fun _ => min (N + 1) inp.length) (Q := fun _ => min (N + 1) inp.length) (G := fun _ => [rowA inp 200 N]) (Fs := fun i => [N, i, curC inp N])
    (fun i hi tk => by
      by_cases hiN : i < N
      · obtain ⟨g1, g2⟩ := hget i hiN
        obtain ⟨g3, g4⟩ := hget (N - 1 - i) (by omega)
        by_cases hm : curC inp i = curC inp (N - 1 - i)
        · have hiK : i < K := by
            rcases k3 with k3 | k3
            · omega
            · by_cases e : i = K
              · subst e; exact absurd hm k3
              · omega
          have h : X inp mirBd mirD (Ms.tick ⟨tk, [], min (N + 1) inp.length, 1, [rowA inp 200 N]⟩) [N, i, curC inp N] (.val (truthN (decide ((1 : Nat) ≠ 0))) ⟨tk + 1 + 13, [], min (N + 1) inp.length, 1, [rowA inp 200 N]⟩) := (X.both (X.bin (X.loc rfl) (X.loc rfl) (b16_i_i_t (by omega) (by omega) (by omega))) (by decide) (X.bin (X.elt (X.loc rfl) (c_i_h (by omega)) (by omega) g1) (X.elt (X.bin (X.bin (X.loc rfl) (X.num _) (b13_i_i_n (by omega) (by omega) (by omega))) (X.loc rfl) (b13_i_i_n (by omega) (by omega) (by omega))) (c_i_h (by omega)) (by omega) g3) (b20_b_b_t (by omega) (by omega) (by omega))))
          exact ⟨_, _, h, by omega, by simp [truthN]; exact hiK⟩
        · have hiK : ¬ i < K := fun h => hm (k2 i h)
          have h : X inp mirBd mirD (Ms.tick ⟨tk, [], min (N + 1) inp.length, 1, [rowA inp 200 N]⟩) [N, i, curC inp N] (.val (truthN (decide ((0 : Nat) ≠ 0))) ⟨tk + 1 + 13, [], min (N + 1) inp.length, 1, [rowA inp 200 N]⟩) := (X.both (X.bin (X.loc rfl) (X.loc rfl) (b16_i_i_t (by omega) (by omega) (by omega))) (by decide) (X.bin (X.elt (X.loc rfl) (c_i_h (by omega)) (by omega) g1) (X.elt (X.bin (X.bin (X.loc rfl) (X.num _) (b13_i_i_n (by omega) (by omega) (by omega))) (X.loc rfl) (b13_i_i_n (by omega) (by omega) (by omega))) (c_i_h (by omega)) (by omega) g3) (b20_b_b_f (by omega) (by omega) (by omega))))
          exact ⟨_, _, h, by omega, by simp [truthN]; omega⟩
      · have hiN : N ≤ i := by omega
        exact ⟨0, tk + 1 + 4, (X.stop (X.bin (X.loc rfl) (X.loc rfl) (b16_i_i_f (by omega) (by omega) (by omega))) (by decide)), by omega, by simp; omega⟩)
    (fun i hi tk => ⟨tk + 4, (XQ.cons (XS.setls (X.bin (X.loc rfl) (X.num _) (b12_i_i_n (by omega) (by omega) (by omega))) (c_i_i (by omega)) (of_decide_eq_true rfl)) XQ.nil), by omega⟩) (tk1 + 1)
  have fin : ∀ d, XQ inp mirBd mirT ⟨tk2, [], min (N + 1) inp.length, 1, [rowA inp 200 N]⟩ ⟨[N, K, curC inp N], 0⟩ (.go 1 ⟨tk2 + 12, [d, 10], min (N + 1) inp.length, 1, [rowA inp 200 N]⟩ ⟨[N, K, curC inp N], 0⟩) →
      XQ inp mirBd mirM ⟨0, [], 0, 1, [List.replicate 200 0]⟩ ⟨[0, 0, 0], 0⟩ (.go 1 ⟨tk2 + 12, [d, 10], min (N + 1) inp.length, 1, [rowA inp 200 N]⟩ ⟨[N, K, curC inp N], 0⟩) := fun d h =>
    XQ.app (F1 := ⟨[0, 0, curC inp 0], 0⟩) (s1 := ⟨6, [], min 1 inp.length, 1, [List.replicate 200 0]⟩) (XQ.cons (XS.setls (X.num _) (c_i_i (by omega)) (of_decide_eq_true rfl)) (XQ.cons (XS.setls (X.num _) (c_i_i (by omega)) (of_decide_eq_true rfl)) (XQ.cons (XS.setls (X.gets rfl) (c_i_i hc0) (of_decide_eq_true rfl)) XQ.nil))) (XQ.cons (XS.whl h1) (XQ.cons (XS.whl h3) h))
  have hbound : tk2 + 12 ≤ 200000 := by
    have : (6 + 16) * K ≤ 22 * 200 := Nat.mul_le_mul_left _ (by omega)
    omega
  by_cases hK : K = N
  · have t : XQ inp mirBd mirT ⟨tk2, [], min (N + 1) inp.length, 1, [rowA inp 200 N]⟩ ⟨[N, K, curC inp N], 0⟩ (.go 1 ⟨tk2 + 12, [49, 10], min (N + 1) inp.length, 1, [rowA inp 200 N]⟩ ⟨[N, K, curC inp N], 0⟩) := (XQ.cons (XS.ex (X.puts (X.bin (X.num _) (X.bin (X.loc rfl) (X.loc rfl) (b20_i_i_t (by omega) (by omega) (by omega))) (b12_i_i_n (by omega) (by omega) (by omega))) (p_i (by omega)))) (XQ.cons (XS.ex (X.puts (X.num _) (p_i (by omega)))) (XQ.stop (XS.rets (X.num _) (c_i_i (by omega))) (by decide))))
    obtain ⟨n, v, s, q1, q2, q3⟩ := means_of (XF.runs (l := []) (k := 0) (bd := mirBd) (b := mirM) (z := 3) rfl (by omega) (fin 49 t)) (large := 60 < inp.length) (fun h => by rw [show ([49, 10] : List Nat).length = 2 from rfl] at h; omega)
    exact ⟨49, n, v, s, .inl ⟨hmir.2 hK, rfl⟩, q1, q2, q3⟩
  · have t : XQ inp mirBd mirT ⟨tk2, [], min (N + 1) inp.length, 1, [rowA inp 200 N]⟩ ⟨[N, K, curC inp N], 0⟩ (.go 1 ⟨tk2 + 12, [48, 10], min (N + 1) inp.length, 1, [rowA inp 200 N]⟩ ⟨[N, K, curC inp N], 0⟩) := (XQ.cons (XS.ex (X.puts (X.bin (X.num _) (X.bin (X.loc rfl) (X.loc rfl) (b20_i_i_f (by omega) (by omega) (by omega))) (b12_i_i_n (by omega) (by omega) (by omega))) (p_i (by omega)))) (XQ.cons (XS.ex (X.puts (X.num _) (p_i (by omega)))) (XQ.stop (XS.rets (X.num _) (c_i_i (by omega))) (by decide))))
    obtain ⟨n, v, s, q1, q2, q3⟩ := means_of (XF.runs (l := []) (k := 0) (bd := mirBd) (b := mirM) (z := 3) rfl (by omega) (fin 48 t)) (large := 60 < inp.length) (fun h => by rw [show ([48, 10] : List Nat).length = 2 from rfl] at h; omega)
    exact ⟨48, n, v, s, .inr ⟨fun h => hK (hmir.1 h), rfl⟩, q1, q2, q3⟩
end
end Go.Proofs.YtclpjglkjkbljaaGreat
