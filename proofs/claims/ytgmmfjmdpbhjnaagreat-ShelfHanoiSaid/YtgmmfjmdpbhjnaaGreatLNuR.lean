/-
  What root and aliquot mean, plainly.
-/
import Derived.Test.YtgmmfjmdpbhjnaaGreatLNuQ
import Derived.Test.YtgmmfjmdpbhjnaaGreatJPc
namespace Go.Proofs.YtgmmfjmdpbhjnaaGreat

section
variable {inp : List Nat} {bd : List (List Sm × Nat)}

/-! ### root -/
def rtS (n b r : Nat) : Nat := if (r + b) * (r + b) ≤ n then r + b else r
def rt (n : Nat) : Nat → Nat → Nat
  | 0, r => rtS n 1 r
  | m + 1, r => rt n m (rtS n (2 ^ (m + 1)) r)
theorem rtS_le (n b r : Nat) : r ≤ rtS n b r ∧ rtS n b r ≤ r + b := by
  unfold rtS
  split <;> omega
theorem rtS_sq {n b r : Nat} (h1 : r * r ≤ n) (h2 : n < (r + 2 * b) * (r + 2 * b)) : rtS n b r * rtS n b r ≤ n ∧ n < (rtS n b r + b) * (rtS n b r + b) := by
  unfold rtS
  split
  · rename_i h
    refine ⟨h, ?_⟩
    rw [show r + b + b = r + 2 * b by omega]; exact h2
  · rename_i h
    exact ⟨h1, by omega⟩
theorem rt_sq (n : Nat) : ∀ (m r : Nat), r * r ≤ n → n < (r + 2 * 2 ^ m) * (r + 2 * 2 ^ m) → rt n m r * rt n m r ≤ n ∧ n < (rt n m r + 1) * (rt n m r + 1)
  | 0, r, h1, h2 => rtS_sq h1 h2
  | m + 1, r, h1, h2 => by
    obtain ⟨k1, k2⟩ := rtS_sq (b := 2 ^ (m + 1)) h1 h2
    refine rt_sq n m _ k1 ?_
    rw [show 2 * 2 ^ m = 2 ^ (m + 1) by rw [Nat.pow_succ]; omega]
    exact k2
theorem rt_le (n : Nat) : ∀ (m r : Nat), rt n m r < r + 2 * 2 ^ m
  | 0, r => by have := (rtS_le n 1 r).2; show rtS n 1 r < _; omega
  | m + 1, r => by
    have h1 := rt_le n m (rtS n (2 ^ (m + 1)) r)
    have h2 := (rtS_le n (2 ^ (m + 1)) r).2
    show rt n m _ < _
    have e : 2 ^ (m + 1) = 2 * 2 ^ m := by rw [Nat.pow_succ]; omega
    omega
def rooI : List Sm := [.setl 0 (.call 1 []) u64T u64T, .setl 1 (.num 0) uintT u64T, .setl 2 (.num 2147483648) u32T u64T]
def rooC : Ex := .bin 21 (.loc 2) (.num 0) u64T uintT
def rooW : List Sm := [.ite (.bin 17 (.bin 9 (.bin 12 (.loc 1) (.loc 2) u64T u64T) (.bin 12 (.loc 1) (.loc 2) u64T u64T) u64T u64T) (.loc 0) u64T u64T) [.setl 1 (.bin 12 (.loc 1) (.loc 2) u64T u64T) u64T u64T] [], .setl 2 (.bin 15 (.loc 2) (.num 1) u64T intT) u64T u64T]
def rooD : List Sm := [.ex (.call 0 [(.loc 1, u64T, u64T)]), .ret (.num 0) intT intT]
def rooM : List Sm := rooI ++ (.whl rooC rooW :: rooD)
def rooBd : List (List Sm × Nat) := [(decB, 2), (numB, 2), (rooM, 3)]
theorem roo_loop {n : Nat} (hn : n < 18446744073709551616) (out : List Nat) (rd cl : Nat) (gl : List (List Nat)) (f : Nat) : ∀ (m r tk : Nat), r + 2 * 2 ^ m ≤ 4294967296 →
    ∃ tk', XW inp bd rooC rooW ⟨tk, out, rd, cl, gl⟩ ⟨[n, r, 2 ^ m], f⟩ (.go 0 ⟨tk', out, rd, cl, gl⟩ ⟨[n, rt n m r, 0], f⟩) ∧ tk' ≤ tk + 30 * (m + 1) + 4 := by
  have done : ∀ (r tk : Nat), X inp bd rooC (Ms.tick ⟨tk, out, rd, cl, gl⟩) [n, r, 0] (.val 0 ⟨tk + 1 + 3, out, rd, cl, gl⟩) := fun r tk => (X.bin (X.loc rfl) (X.num _) (b21_q_h_f (by omega) (by omega) (by omega)))
  have step : ∀ (b r tk : Nat), 0 < b → r + b < 4294967296 → ∃ t1 t2, X inp bd rooC (Ms.tick ⟨tk, out, rd, cl, gl⟩) [n, r, b] (.val 1 ⟨t1, out, rd, cl, gl⟩) ∧ XQ inp bd rooW ⟨t1, out, rd, cl, gl⟩ ⟨[n, r, b], f⟩ (.go 0 ⟨t2, out, rd, cl, gl⟩ ⟨[n, rtS n b r, b / 2 ^ 1], f⟩) ∧ t2 ≤ tk + 30 := fun b r tk h0 hb => by
    have hc : X inp bd rooC (Ms.tick ⟨tk, out, rd, cl, gl⟩) [n, r, b] (.val 1 ⟨tk + 1 + 3, out, rd, cl, gl⟩) := (X.bin (X.loc rfl) (X.num _) (b21_q_h_t (by omega) (by omega) (by omega)))
    have hsq : (r + b) * (r + b) < 18446744073709551616 := Nat.lt_of_lt_of_le (Nat.mul_lt_mul'' hb hb) (by decide)
    unfold rtS
    by_cases h : (r + b) * (r + b) ≤ n
    · rw [if_pos h]
      have hw : XQ inp bd rooW ⟨tk + 1 + 3, out, rd, cl, gl⟩ ⟨[n, r, b], f⟩ (.go 0 ⟨tk + 1 + 3 + 18, out, rd, cl, gl⟩ ⟨[n, r + b, b / 2 ^ 1], f⟩) := (XQ.cons (XS.yes (X.bin (X.bin (X.bin (X.loc rfl) (X.loc rfl) (b12_q_q_n (by omega) (by omega) (by omega))) (X.bin (X.loc rfl) (X.loc rfl) (b12_q_q_n (by omega) (by omega) (by omega))) (b9_q_q_n (by omega) (by omega) (by omega))) (X.loc rfl) (b17_q_q_t (by omega) (by omega) (by omega))) (by decide) (XQ.cons (XS.setls (X.bin (X.loc rfl) (X.loc rfl) (b12_q_q_n (by omega) (by omega) (by omega))) (c_q_q (by omega)) (of_decide_eq_true rfl)) XQ.nil)) (XQ.cons (XS.setls (X.bin (X.loc rfl) (X.num _) (b15_q_i (by omega) (by omega) (by omega))) (c_q_q (by omega)) (of_decide_eq_true rfl)) XQ.nil))
      exact ⟨_, _, hc, hw, by omega⟩
    · rw [if_neg h]
      have h : n < (r + b) * (r + b) := by omega
      have hw : XQ inp bd rooW ⟨tk + 1 + 3, out, rd, cl, gl⟩ ⟨[n, r, b], f⟩ (.go 0 ⟨tk + 1 + 3 + 14, out, rd, cl, gl⟩ ⟨[n, r, b / 2 ^ 1], f⟩) := (XQ.cons (XS.no (X.bin (X.bin (X.bin (X.loc rfl) (X.loc rfl) (b12_q_q_n (by omega) (by omega) (by omega))) (X.bin (X.loc rfl) (X.loc rfl) (b12_q_q_n (by omega) (by omega) (by omega))) (b9_q_q_n (by omega) (by omega) (by omega))) (X.loc rfl) (b17_q_q_f (by omega) (by omega) (by omega))) XQ.nil) (XQ.cons (XS.setls (X.bin (X.loc rfl) (X.num _) (b15_q_i (by omega) (by omega) (by omega))) (c_q_q (by omega)) (of_decide_eq_true rfl)) XQ.nil))
      exact ⟨_, _, hc, hw, by omega⟩
  intro m
  induction m with
  | zero =>
    intro r tk h
    obtain ⟨t1, t2, h1, h2, h3⟩ := step 1 r tk (by omega) (by omega)
    have h4 := done (rtS n 1 r) t2
    exact ⟨_, XW.step h1 (by decide) h2 (.inl rfl) (XW.done h4), by omega⟩
  | succ m ih =>
    intro r tk h
    have e : 2 ^ (m + 1) = 2 * 2 ^ m := by rw [Nat.pow_succ]; omega
    have hp : 0 < 2 ^ m := Nat.pow_pos (by decide)
    obtain ⟨t1, t2, h1, h2, h3⟩ := step (2 ^ (m + 1)) r tk (by omega) (by omega)
    have hd : 2 ^ (m + 1) / 2 ^ 1 = 2 ^ m := by omega
    rw [hd] at h2
    have hr := (rtS_le n (2 ^ (m + 1)) r).2
    obtain ⟨tk', h4, h5⟩ := ih (rtS n (2 ^ (m + 1)) r) t2 (by omega)
    exact ⟨tk', XW.step h1 (by decide) h2 (.inl rfl) h4, by omega⟩
theorem root_means {n : Nat} (hn : n < 18446744073709551616) : ∃ m v s, evF (askL [n]) rooBd m 2 [] ⟨0, [], 0, 0, [List.replicate 20 0]⟩ = some (.val v s) ∧ s.out = digs (rt n 31 0) ++ [10] ∧ s.tk ≤ 200000 ∧ s.out.length ≤ 65536 := by
  obtain ⟨inp, hinp⟩ : ∃ inp, inp = askL [n] := ⟨_, rfl⟩
  have d0 := drop_ask n []
  rw [← hinp] at d0 ⊢
  obtain ⟨t1, h1, k1⟩ := num_read (inp := inp) (bd := rooBd) (k := 1) rfl hn d0 2 [] (cl := 1) (by omega) [List.replicate 20 0]
  generalize min (0 + ((digs n).length + 1)) inp.length = rd1 at *
  rw [Nat.zero_min] at h1
  obtain ⟨mm, hmm⟩ : ∃ mm : Nat, mm = 31 := ⟨_, rfl⟩
  have e31 : (2 : Nat) ^ mm = 2147483648 := by rw [hmm]
  rw [← hmm]
  obtain ⟨t2, h2, k2⟩ := roo_loop (inp := inp) (bd := rooBd) hn [] rd1 1 [List.replicate 20 0] 0 mm 0 (t1 + 4 + 1) (by omega)
  have hg := rt_le n mm 0
  rw [e31] at h2 hg
  clear e31
  have hg : rt n mm 0 < 18446744073709551616 := Nat.lt_trans hg (by decide)
  generalize rt n mm 0 = g at *
  obtain ⟨t4, b', h4, k4, k5⟩ := dec_means (inp := inp) (bd := rooBd) (k := 0) rfl hg (t2 + 3) [] rd1 (cl := 1) (by omega) (b := List.replicate 20 0) (by simp) []
  have hI : XQ inp rooBd rooI ⟨0, [], 0, 1, [List.replicate 20 0]⟩ ⟨[0, 0, 0], 0⟩ (.go 0 ⟨t1 + 4, [], rd1, 1, [List.replicate 20 0]⟩ ⟨[n, 0, 2147483648], 0⟩) := (XQ.cons (XS.setls (X.call (XA.nil _) h1) (c_q_q (by omega)) (of_decide_eq_true rfl)) (XQ.cons (XS.setls (X.num _) (c_h_q (by omega)) (of_decide_eq_true rfl)) (XQ.cons (XS.setls (X.num _) (c_w_q (by omega)) (of_decide_eq_true rfl)) XQ.nil)))
  have hD : XQ inp rooBd rooD ⟨t2, [], rd1, 1, [List.replicate 20 0]⟩ ⟨[n, g, 0], 0⟩ (.go 1 ⟨t4 + 2, [] ++ (digs g ++ [10]), rd1, 1, [b']⟩ ⟨[n, g, 0], 0⟩) := (XQ.cons (XS.ex (X.call (XA.conss (X.loc rfl) (c_q_q (by omega)) (XA.nil _)) h4)) (XQ.stop (XS.rets (X.num _) (c_i_i (by omega))) (by decide)))
  have q : XQ inp rooBd rooM ⟨0, [], 0, 1, [List.replicate 20 0]⟩ ⟨[0, 0, 0], 0⟩ (.go 1 ⟨t4 + 2, [] ++ (digs g ++ [10]), rd1, 1, [b']⟩ ⟨[n, g, 0], 0⟩) := XQ.app hI (XQ.cons (XS.whl h2) hD)
  have hl := line_short hg
  exact means_le (XF.runs (k := 2) rfl (by omega) q) (by omega) (by omega)

/-! ### aliquot -/
/-- the sum of what divides, up to i -/
def alS (n : Nat) : Nat → Nat
  | 0 => 0
  | i + 1 => if n % (i + 1) = 0 then alS n i + (i + 1) else alS n i
theorem alS_le (n : Nat) : ∀ i, i ≤ 5000 → alS n i ≤ 5000 * i
  | 0, _ => Nat.le_refl _
  | i + 1, h => by
    have ih := alS_le n i (by omega)
    show (if n % (i + 1) = 0 then alS n i + (i + 1) else alS n i) ≤ _
    by_cases hd : n % (i + 1) = 0
    · rw [if_pos hd]
      have : alS n i + (i + 1) ≤ 5000 * i + 5000 := Nat.add_le_add ih (by omega)
      omega
    · rw [if_neg hd]; omega
def aliI : List Sm := [.setl 0 (.call 1 []) u64T u32T, .setl 1 (.num 0) uintT u32T, .setz 2]
def aliJ : List Sm := [.setl 2 (.num 1) uintT u32T]
def aliC : Ex := .bin 16 (.loc 2) (.loc 0) u32T u32T
def aliW : List Sm := [.ite (.bin 20 (.bin 11 (.loc 0) (.loc 2) u32T u32T) (.num 0) u32T uintT) [.setl 1 (.bin 12 (.loc 1) (.loc 2) u32T u32T) u32T u32T] []]
def aliS : List Sm := [.setl 2 (.bin 12 (.loc 2) (.num 1) u32T uintT) u32T u32T]
def aliD : List Sm := [.ex (.call 0 [(.loc 1, u32T, u64T)]), .ret (.num 0) intT intT]
def aliM : List Sm := aliI ++ (.for aliJ (some aliC) aliW aliS :: aliD)
def aliBd : List (List Sm × Nat) := [(decB, 2), (numB, 2), (aliM, 3)]
theorem ali_means {n : Nat} (hn : n ≤ 5000) : ∃ m v s, evF (askL [n]) aliBd m 2 [] ⟨0, [], 0, 0, [List.replicate 20 0]⟩ = some (.val v s) ∧ s.out = digs (alS n (n - 1)) ++ [10] ∧ s.tk ≤ 200000 ∧ s.out.length ≤ 65536 := by
  obtain ⟨inp, hinp⟩ : ∃ inp, inp = askL [n] := ⟨_, rfl⟩
  have d0 := drop_ask n []
  rw [← hinp] at d0 ⊢
  obtain ⟨t1, h1, k1⟩ := num_read (inp := inp) (bd := aliBd) (k := 1) rfl (show n < 18446744073709551616 by omega) d0 2 [] (cl := 1) (by omega) [List.replicate 20 0]
  generalize min (0 + ((digs n).length + 1)) inp.length = rd1 at *
  rw [Nat.zero_min] at h1
  obtain ⟨t2, h2, k2⟩ := XL.count (inp := inp) (bd := aliBd) (C := aliC) (B := aliW) (S := aliS) (N := n - 1) (K := 15) (c := 4) (r := 0) (cl := 1) (O := fun _ => []) (R := fun _ => rd1) (Q := fun _ => rd1) (G := fun _ => [List.replicate 20 0]) (Fs := fun i => [n, alS n i, i + 1])
    (fun i hi tk => by
      by_cases hlt : i + 1 < n
      · exact ⟨1, tk + 1 + 3, (X.bin (X.loc rfl) (X.loc rfl) (b16_w_w_t (by omega) (by omega) (by omega))), by omega, by simp; omega⟩
      · have hlt : n ≤ i + 1 := by omega
        exact ⟨0, tk + 1 + 3, (X.bin (X.loc rfl) (X.loc rfl) (b16_w_w_f (by omega) (by omega) (by omega))), by omega, by simp; omega⟩)
    (fun i hi tk => by
      have hal := alS_le n i (by omega)
      have hmod : n % (i + 1) ≤ n := Nat.mod_le _ _
      by_cases h : n % (i + 1) = 0
      · have e : alS n (i + 1) = alS n i + (i + 1) := if_pos h
        have hw : XQ inp aliBd aliW ⟨tk, [], rd1, 1, [List.replicate 20 0]⟩ ⟨[n, alS n i, i + 1], 0⟩ (.go 0 ⟨tk + 10, [], rd1, 1, [List.replicate 20 0]⟩ ⟨[n, alS n i + (i + 1), i + 1], 0⟩) := (XQ.cons (XS.yes (X.bin (X.bin (X.loc rfl) (X.loc rfl) (b11_w_w (by omega) (by omega) (by omega))) (X.num _) (b20_w_h_t (by omega) (by omega) (by omega))) (by decide) (XQ.cons (XS.setls (X.bin (X.loc rfl) (X.loc rfl) (b12_w_w_n (by omega) (by omega) (by omega))) (c_w_w (by omega)) (of_decide_eq_true rfl)) XQ.nil)) XQ.nil)
        refine ⟨0, _, _, tk + 10 + 4, hw, .inl rfl, ?_, by omega⟩
        rw [e]
        exact (XQ.cons (XS.setls (X.bin (X.loc rfl) (X.num _) (b12_w_h_n (by omega) (by omega) (by omega))) (c_w_w (by omega)) (of_decide_eq_true rfl)) XQ.nil)
      · have e : alS n (i + 1) = alS n i := if_neg h
        have hw : XQ inp aliBd aliW ⟨tk, [], rd1, 1, [List.replicate 20 0]⟩ ⟨[n, alS n i, i + 1], 0⟩ (.go 0 ⟨tk + 6, [], rd1, 1, [List.replicate 20 0]⟩ ⟨[n, alS n i, i + 1], 0⟩) := (XQ.cons (XS.no (X.bin (X.bin (X.loc rfl) (X.loc rfl) (b11_w_w (by omega) (by omega) (by omega))) (X.num _) (b20_w_h_f (by omega) (by omega) (by omega))) XQ.nil) XQ.nil)
        refine ⟨0, _, _, tk + 6 + 4, hw, .inl rfl, ?_, by omega⟩
        rw [e]
        exact (XQ.cons (XS.setls (X.bin (X.loc rfl) (X.num _) (b12_w_h_n (by omega) (by omega) (by omega))) (c_w_w (by omega)) (of_decide_eq_true rfl)) XQ.nil)) (t1 + 3 + 1 + 2)
  have hg : alS n (n - 1) < 4294967296 := by have := alS_le n (n - 1) (by omega); omega
  have hf : XS inp aliBd (.for aliJ (some aliC) aliW aliS) ⟨t1 + 3, [], rd1, 1, [List.replicate 20 0]⟩ ⟨[n, 0, 0], 0⟩ (.go 0 ⟨t2, [], rd1, 1, [List.replicate 20 0]⟩ ⟨[n, alS n (n - 1), n - 1 + 1], 0⟩) := XS.for (XQ.cons (XS.setls (X.num _) (c_h_w (by omega)) (of_decide_eq_true rfl)) XQ.nil) h2
  generalize alS n (n - 1) = g at *
  obtain ⟨t4, b', h4, k4, k5⟩ := dec_means (inp := inp) (bd := aliBd) (k := 0) rfl (show g < 18446744073709551616 by omega) (t2 + 3) [] rd1 (cl := 1) (by omega) (b := List.replicate 20 0) (by simp) []
  have q : XQ inp aliBd aliM ⟨0, [], 0, 1, [List.replicate 20 0]⟩ ⟨[0, 0, 0], 0⟩ (.go 1 ⟨t4 + 2, [] ++ (digs g ++ [10]), rd1, 1, [b']⟩ ⟨[n, g, n - 1 + 1], 0⟩) :=
    XQ.app (s1 := ⟨t1 + 3, [], rd1, 1, [List.replicate 20 0]⟩) (F1 := ⟨[n, 0, 0], 0⟩) (XQ.cons (XS.setls (X.call (XA.nil _) h1) (c_q_w (by omega)) (of_decide_eq_true rfl)) (XQ.cons (XS.setls (X.num _) (c_h_w (by omega)) (of_decide_eq_true rfl)) (XQ.cons (XS.setz (of_decide_eq_true rfl)) XQ.nil))) (XQ.cons hf (XQ.cons (XS.ex (X.call (XA.conss (X.loc rfl) (c_w_q (by omega)) (XA.nil _)) h4)) (XQ.stop (XS.rets (X.num _) (c_i_i (by omega))) (by decide))))
  have hl := line_short (show g < 18446744073709551616 by omega)
  exact means_le (XF.runs (k := 2) rfl (by omega) q) (by omega) (by omega)
end
end Go.Proofs.YtgmmfjmdpbhjnaaGreat
