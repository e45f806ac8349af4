/-
  What fibonacci, power and root mean, plainly.
-/
import Derived.Test.YtgmmfjmdpbhjnaaGreatJPc
namespace Go.Proofs.YtgmmfjmdpbhjnaaGreat

section
variable {inp : List Nat} {bd : List (List Sm × Nat)}

/-! ### fibonacci -/
def fiP : Nat → Nat × Nat
  | 0 => (0, 1)
  | k + 1 => ((fiP k).2, ((fiP k).1 + (fiP k).2) % 18446744073709551616)
theorem fiP_lt : ∀ k, (fiP k).1 < 18446744073709551616 ∧ (fiP k).2 < 18446744073709551616
  | 0 => by decide
  | k + 1 => ⟨(fiP_lt k).2, Nat.mod_lt _ (by decide)⟩
def fibI : List Sm := [.setl 0 (.call 1 []) u64T u64T, .setl 1 (.num 0) uintT u64T, .setl 2 (.num 1) uintT u64T]
def fibC : Ex := .bin 18 (.loc 0) (.num 0) u64T uintT
def fibW : List Sm := [.setl 3 (.bin 12 (.loc 1) (.loc 2) u64T u64T) u64T u64T, .setl 1 (.loc 2) u64T u64T, .setl 2 (.loc 3) u64T u64T, .setl 0 (.bin 13 (.loc 0) (.num 1) u64T uintT) u64T u64T]
def fibD : List Sm := [.ex (.call 0 [(.loc 1, u64T, u64T)]), .ret (.num 0) intT intT]
def fibM : List Sm := fibI ++ (.whl fibC fibW :: fibD)
def fibBd : List (List Sm × Nat) := [(decB, 2), (numB, 2), (fibM, 4)]
theorem fib_means {n : Nat} (hn : n ≤ 5000) : ∃ m v s, evF (askL [n]) fibBd m 2 [] ⟨0, [], 0, 0, [List.replicate 20 0]⟩ = some (.val v s) ∧ s.out = digs (fiP n).1 ++ [10] ∧ s.tk ≤ 200000 ∧ s.out.length ≤ 65536 := by
  obtain ⟨inp, hinp⟩ : ∃ inp, inp = askL [n] := ⟨_, rfl⟩
  have d0 := drop_ask n []
  rw [← hinp] at d0 ⊢
  obtain ⟨t1, h1, k1⟩ := num_read (inp := inp) (bd := fibBd) (k := 1) rfl (show n < 18446744073709551616 by omega) d0 2 [] (cl := 1) (by omega) [List.replicate 20 0]
  generalize min (0 + ((digs n).length + 1)) inp.length = rd1 at *
  rw [Nat.zero_min] at h1
  obtain ⟨t2, h2, k2⟩ := XW.count (inp := inp) (bd := fibBd) (C := fibC) (B := fibW) (N := n) (K := 14) (c := 4) (r := 0) (cl := 1) (O := fun _ => []) (R := fun _ => rd1) (Q := fun _ => rd1) (G := fun _ => [List.replicate 20 0]) (Fs := fun i => [n - i, (fiP i).1, (fiP i).2, if i = 0 then 0 else (fiP i).2])
    (fun i hi tk => by
      by_cases hlt : i < n
      · have h0 : 0 < n - i := by omega
        exact ⟨1, tk + 1 + 3, (X.bin (X.loc rfl) (X.num _) (b18_q_h_t (by omega) (by omega) (by omega))), by omega, by simp; omega⟩
      · have h0 : n - i ≤ 0 := by omega
        exact ⟨0, tk + 1 + 3, (X.bin (X.loc rfl) (X.num _) (b18_q_h_f (by omega) (by omega) (by omega))), by omega, by simp; omega⟩)
    (fun i hi tk => by
      obtain ⟨q1, q2⟩ := fiP_lt i
      have hs : n - (i + 1) = n - i - 1 := by omega
      refine ⟨tk + 12, ?_, by omega⟩
      show XQ inp fibBd fibW ⟨tk, [], rd1, 1, [List.replicate 20 0]⟩ ⟨[n - i, (fiP i).1, (fiP i).2, if i = 0 then 0 else (fiP i).2], 0⟩ (.go 0 ⟨tk + 12, [], rd1, 1, [List.replicate 20 0]⟩ ⟨[n - (i + 1), (fiP i).2, ((fiP i).1 + (fiP i).2) % 18446744073709551616, if i + 1 = 0 then 0 else ((fiP i).1 + (fiP i).2) % 18446744073709551616], 0⟩)
      rw [hs, if_neg (show ¬ i + 1 = 0 by omega)]
      exact (XQ.cons (XS.setls (X.bin (X.loc rfl) (X.loc rfl) (b12_q_q_w (by omega) (by omega))) (c_q_q (by omega)) (of_decide_eq_true rfl)) (XQ.cons (XS.setls (X.loc rfl) (c_q_q (by omega)) (of_decide_eq_true rfl)) (XQ.cons (XS.setls (X.loc rfl) (c_q_q (by omega)) (of_decide_eq_true rfl)) (XQ.cons (XS.setls (X.bin (X.loc rfl) (X.num _) (b13_q_h_n (by omega) (by omega) (by omega))) (c_q_q (by omega)) (of_decide_eq_true rfl)) XQ.nil))))) (t1 + 4 + 1)
  obtain ⟨q1, q2⟩ := fiP_lt n
  obtain ⟨t4, b', h4, k4, k5⟩ := dec_means (inp := inp) (bd := fibBd) (k := 0) rfl q1 (t2 + 3) [] rd1 (cl := 1) (by omega) (b := List.replicate 20 0) (by simp) []
  rw [Nat.sub_self] at h2
  have q : XQ inp fibBd fibM ⟨0, [], 0, 1, [List.replicate 20 0]⟩ ⟨[0, 0, 0, 0], 0⟩ (.go 1 ⟨t4 + 2, [] ++ (digs (fiP n).1 ++ [10]), rd1, 1, [b']⟩ ⟨[0, (fiP n).1, (fiP n).2, if n = 0 then 0 else (fiP n).2], 0⟩) :=
    XQ.app (s1 := ⟨t1 + 4, [], rd1, 1, [List.replicate 20 0]⟩) (F1 := ⟨[n, 0, 1, 0], 0⟩) (XQ.cons (XS.setls (X.call (XA.nil _) h1) (c_q_q (by omega)) (of_decide_eq_true rfl)) (XQ.cons (XS.setls (X.num _) (c_h_q (by omega)) (of_decide_eq_true rfl)) (XQ.cons (XS.setls (X.num _) (c_h_q (by omega)) (of_decide_eq_true rfl)) XQ.nil))) (XQ.cons (XS.whl h2) (XQ.cons (XS.ex (X.call (XA.conss (X.loc rfl) (c_q_q (by omega)) (XA.nil _)) h4)) (XQ.stop (XS.rets (X.num _) (c_i_i (by omega))) (by decide))))
  have hl := line_short q1
  exact means_le (XF.runs (k := 2) rfl (by omega) q) (by omega) (by omega)

/-! ### power -/
theorem pow_mm (x y q M : Nat) : ((x % M) * ((y % M) ^ q)) % M = (x * y ^ q) % M := by
  rw [Nat.mul_mod, Nat.mod_mod, ← Nat.pow_mod, ← Nat.mul_mod]
def powI : List Sm := [.setl 0 (.call 1 []) u64T u64T, .setl 1 (.call 1 []) u64T u64T, .setl 2 (.num 1) uintT u64T]
def powC : Ex := .bin 21 (.loc 1) (.num 0) u64T uintT
def powW : List Sm := [.ite (.bin 22 (.loc 1) (.num 1) u64T uintT) [.setl 2 (.bin 9 (.loc 2) (.loc 0) u64T u64T) u64T u64T] [], .setl 0 (.bin 9 (.loc 0) (.loc 0) u64T u64T) u64T u64T, .setl 1 (.bin 15 (.loc 1) (.num 1) u64T intT) u64T u64T]
def powD : List Sm := [.ex (.call 0 [(.loc 2, u64T, u64T)]), .ret (.num 0) intT intT]
def powM : List Sm := powI ++ (.whl powC powW :: powD)
def powBd : List (List Sm × Nat) := [(decB, 2), (numB, 2), (powM, 3)]
theorem pow_loop (out : List Nat) (rd cl : Nat) (gl : List (List Nat)) (f : Nat) : ∀ (m a b r tk : Nat), a < 18446744073709551616 → b < 18446744073709551616 → r < 18446744073709551616 → b < 2 ^ m →
    ∃ a' tk', XW inp bd powC powW ⟨tk, out, rd, cl, gl⟩ ⟨[a, b, r], f⟩ (.go 0 ⟨tk', out, rd, cl, gl⟩ ⟨[a', 0, (r * a ^ b) % 18446744073709551616], f⟩) ∧ tk' ≤ tk + 30 * m + 4 := by
  intro m
  induction m with
  | zero =>
    intro a b r tk ha hb hr h
    obtain rfl : b = 0 := by simpa using h
    have hx : X inp bd powC (Ms.tick ⟨tk, out, rd, cl, gl⟩) [a, 0, r] (.val 0 ⟨tk + 1 + 3, out, rd, cl, gl⟩) := (X.bin (X.loc rfl) (X.num _) (b21_q_h_f (by omega) (by omega) (by omega)))
    rw [Nat.pow_zero, Nat.mul_one, Nat.mod_eq_of_lt hr]
    exact ⟨a, _, XW.done hx, by omega⟩
  | succ m ih =>
    intro a b r tk ha hb hr h
    by_cases h0 : b = 0
    · subst h0
      have hx : X inp bd powC (Ms.tick ⟨tk, out, rd, cl, gl⟩) [a, 0, r] (.val 0 ⟨tk + 1 + 3, out, rd, cl, gl⟩) := (X.bin (X.loc rfl) (X.num _) (b21_q_h_f (by omega) (by omega) (by omega)))
      rw [Nat.pow_zero, Nat.mul_one, Nat.mod_eq_of_lt hr]
      exact ⟨a, _, XW.done hx, by omega⟩
    · have hc : X inp bd powC (Ms.tick ⟨tk, out, rd, cl, gl⟩) [a, b, r] (.val 1 ⟨tk + 1 + 3, out, rd, cl, gl⟩) := (X.bin (X.loc rfl) (X.num _) (b21_q_h_t (by omega) (by omega) (by omega)))
      have hand : b &&& 1 = b % 2 := Nat.and_one_is_mod b
      have hdm := Nat.mod_add_div b 2
      have hm := Nat.mod_lt (a * a) (show 18446744073709551616 > 0 by decide)
      have hm2 := Nat.mod_lt (r * a) (show 18446744073709551616 > 0 by decide)
      have hb2 : b / 2 < 2 ^ m := by rw [Nat.pow_succ] at h; omega
      have hb3 : b / 2 ^ 1 = b / 2 := by omega
      by_cases ho : b % 2 = 0
      · have hz : binN 22 b 1 u64T uintT = some 0 := by rw [b22_q_h (by omega) (by omega), hand, ho]
        have hw : XQ inp bd powW ⟨tk + 1 + 3, out, rd, cl, gl⟩ ⟨[a, b, r], f⟩ (.go 0 ⟨tk + 1 + 3 + 12, out, rd, cl, gl⟩ ⟨[a * a % 18446744073709551616, b / 2 ^ 1, r], f⟩) := (XQ.cons (XS.no (X.bin (X.loc rfl) (X.num _) hz) XQ.nil) (XQ.cons (XS.setls (X.bin (X.loc rfl) (X.loc rfl) (b9_q_q_w (by omega) (by omega))) (c_q_q (by omega)) (of_decide_eq_true rfl)) (XQ.cons (XS.setls (X.bin (X.loc rfl) (X.num _) (b15_q_i (by omega) (by omega) (by omega))) (c_q_q (by omega)) (of_decide_eq_true rfl)) XQ.nil)))
        obtain ⟨a', tk', h6, h7⟩ := ih (a * a % 18446744073709551616) (b / 2) r (tk + 1 + 3 + 12) hm (by omega) hr hb2
        rw [hb3] at hw
        refine ⟨a', tk', ?_, by omega⟩
        have e : (r * a ^ b) % 18446744073709551616 = (r * (a * a % 18446744073709551616) ^ (b / 2)) % 18446744073709551616 := by
          have := pow_mm r (a * a) (b / 2) 18446744073709551616
          rw [Nat.mod_eq_of_lt hr] at this
          rw [this, ← Nat.pow_two, ← Nat.pow_mul, show 2 * (b / 2) = b by omega]
        rw [e]
        exact XW.step hc (by decide) hw (.inl rfl) h6
      · have ho : b % 2 = 1 := by omega
        have hnz : b &&& 1 ≠ 0 := by omega
        have hw : XQ inp bd powW ⟨tk + 1 + 3, out, rd, cl, gl⟩ ⟨[a, b, r], f⟩ (.go 0 ⟨tk + 1 + 3 + 16, out, rd, cl, gl⟩ ⟨[a * a % 18446744073709551616, b / 2 ^ 1, r * a % 18446744073709551616], f⟩) := (XQ.cons (XS.yes (X.bin (X.loc rfl) (X.num _) (b22_q_h (by omega) (by omega))) hnz (XQ.cons (XS.setls (X.bin (X.loc rfl) (X.loc rfl) (b9_q_q_w (by omega) (by omega))) (c_q_q (by omega)) (of_decide_eq_true rfl)) XQ.nil)) (XQ.cons (XS.setls (X.bin (X.loc rfl) (X.loc rfl) (b9_q_q_w (by omega) (by omega))) (c_q_q (by omega)) (of_decide_eq_true rfl)) (XQ.cons (XS.setls (X.bin (X.loc rfl) (X.num _) (b15_q_i (by omega) (by omega) (by omega))) (c_q_q (by omega)) (of_decide_eq_true rfl)) XQ.nil)))
        obtain ⟨a', tk', h6, h7⟩ := ih (a * a % 18446744073709551616) (b / 2) (r * a % 18446744073709551616) (tk + 1 + 3 + 16) hm (by omega) hm2 hb2
        rw [hb3] at hw
        refine ⟨a', tk', ?_, by omega⟩
        have e : (r * a ^ b) % 18446744073709551616 = (r * a % 18446744073709551616 * (a * a % 18446744073709551616) ^ (b / 2)) % 18446744073709551616 := by
          rw [pow_mm (r * a) (a * a) (b / 2) 18446744073709551616, ← Nat.pow_two, ← Nat.pow_mul, Nat.mul_assoc, Nat.mul_comm a, ← Nat.pow_succ, show (2 * (b / 2)).succ = b by omega]
        rw [e]
        exact XW.step hc (by decide) hw (.inl rfl) h6
theorem pow_means {a b : Nat} (ha : a < 18446744073709551616) (hb : b < 18446744073709551616) : ∃ n v s, evF (askL [a, b]) powBd n 2 [] ⟨0, [], 0, 0, [List.replicate 20 0]⟩ = some (.val v s) ∧ s.out = digs (a ^ b % 18446744073709551616) ++ [10] ∧ s.tk ≤ 200000 ∧ s.out.length ≤ 65536 := by
  obtain ⟨inp, hinp⟩ : ∃ inp, inp = askL [a, b] := ⟨_, rfl⟩
  have d0 := drop_ask a [b]
  rw [← hinp] at d0 ⊢
  obtain ⟨t1, h1, k1⟩ := num_read (inp := inp) (bd := powBd) (k := 1) rfl ha d0 2 [] (cl := 1) (by omega) [List.replicate 20 0]
  have d1 := drop_next a d0
  rw [show askL [b] = digs b ++ 32 :: [] by unfold askL; simp] at d1
  obtain ⟨t2, h2, k2⟩ := num_read (inp := inp) (bd := powBd) (k := 1) rfl hb d1 (t1 + 2) [] (cl := 1) (by omega) [List.replicate 20 0]
  generalize min (0 + ((digs a).length + 1) + ((digs b).length + 1)) inp.length = rd2 at *
  generalize min (0 + ((digs a).length + 1)) inp.length = rd1 at *
  rw [Nat.zero_min] at h1
  obtain ⟨a', t3, h3, k3⟩ := pow_loop (inp := inp) (bd := powBd) [] rd2 1 [List.replicate 20 0] 0 64 a b 1 (t2 + 2 + 1) ha hb (by decide) hb
  rw [Nat.one_mul] at h3
  have hg : a ^ b % 18446744073709551616 < 18446744073709551616 := Nat.mod_lt _ (by decide)
  generalize a ^ b % 18446744073709551616 = g at *
  obtain ⟨t4, b', h4, k4, k5⟩ := dec_means (inp := inp) (bd := powBd) (k := 0) rfl hg (t3 + 3) [] rd2 (cl := 1) (by omega) (b := List.replicate 20 0) (by simp) []
  have q : XQ inp powBd powM ⟨0, [], 0, 1, [List.replicate 20 0]⟩ ⟨[0, 0, 0], 0⟩ (.go 1 ⟨t4 + 2, [] ++ (digs g ++ [10]), rd2, 1, [b']⟩ ⟨[a', 0, g], 0⟩) :=
    XQ.app (s1 := ⟨t2 + 2, [], rd2, 1, [List.replicate 20 0]⟩) (F1 := ⟨[a, b, 1], 0⟩) (XQ.cons (XS.setls (X.call (XA.nil _) h1) (c_q_q (by omega)) (of_decide_eq_true rfl)) (XQ.cons (XS.setls (X.call (XA.nil _) h2) (c_q_q (by omega)) (of_decide_eq_true rfl)) (XQ.cons (XS.setls (X.num _) (c_h_q (by omega)) (of_decide_eq_true rfl)) XQ.nil))) (XQ.cons (XS.whl h3) (XQ.cons (XS.ex (X.call (XA.conss (X.loc rfl) (c_q_q (by omega)) (XA.nil _)) h4)) (XQ.stop (XS.rets (X.num _) (c_i_i (by omega))) (by decide))))
  have hl := line_short hg
  exact means_le (XF.runs (k := 2) rfl (by omega) q) (by omega) (by omega)
end
end Go.Proofs.YtgmmfjmdpbhjnaaGreat
