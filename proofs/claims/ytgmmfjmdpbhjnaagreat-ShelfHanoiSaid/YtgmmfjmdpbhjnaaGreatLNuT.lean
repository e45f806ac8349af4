/-
  What modpow and factorial mean, plainly.
-/
import Derived.Test.YtgmmfjmdpbhjnaaGreatLNuS
import Derived.Test.YtgmmfjmdpbhjnaaGreatJPc
namespace Go.Proofs.YtgmmfjmdpbhjnaaGreat

section
variable {inp : List Nat} {bd : List (List Sm × Nat)}

/-! ### modpow -/
def mpI : List Sm := [.setl 0 (.call 1 []) u64T u64T, .setl 1 (.call 1 []) u64T u64T, .setl 2 (.bin 22 (.call 1 []) (.num 4294967295) u64T u32T) u64T u64T, .setl 3 (.num 1) uintT u64T]
def mpA : Sm := .setl 0 (.bin 11 (.loc 0) (.loc 2) u64T u64T) u64T u64T
def mpR : Sm := .setl 3 (.bin 11 (.loc 3) (.loc 2) u64T u64T) u64T u64T
def mpC : Ex := .bin 21 (.loc 1) (.num 0) u64T uintT
def mpW : List Sm := [.ite (.bin 22 (.loc 1) (.num 1) u64T uintT) [.setl 3 (.bin 11 (.bin 9 (.loc 3) (.loc 0) u64T u64T) (.loc 2) u64T u64T) u64T u64T] [], .setl 0 (.bin 11 (.bin 9 (.loc 0) (.loc 0) u64T u64T) (.loc 2) u64T u64T) u64T u64T, .setl 1 (.bin 15 (.loc 1) (.num 1) u64T intT) u64T u64T]
def mpD : List Sm := [.ex (.call 0 [(.loc 3, u64T, u64T)]), .ret (.num 0) intT intT]
def mpM : List Sm := mpI ++ (mpA :: mpR :: .whl mpC mpW :: mpD)
def mpBd : List (List Sm × Nat) := [(decB, 2), (numB, 2), (mpM, 4)]
theorem mp_mul {x y M : Nat} (hx : x < M) (hy : y < M) (hM : M < 4294967296) : x * y < 18446744073709551616 := by
  have : x * y ≤ 4294967295 * 4294967295 := Nat.mul_le_mul (by omega) (by omega)
  omega
theorem mp_loop {M : Nat} (h0M : 0 < M) (hM : M < 4294967296) (out : List Nat) (rd cl : Nat) (gl : List (List Nat)) (f : Nat) : ∀ (m a b r tk : Nat), a < M → b < 18446744073709551616 → r < M → b < 2 ^ m →
    ∃ a' tk', XW inp bd mpC mpW ⟨tk, out, rd, cl, gl⟩ ⟨[a, b, M, r], f⟩ (.go 0 ⟨tk', out, rd, cl, gl⟩ ⟨[a', 0, M, (r * a ^ b) % M], f⟩) ∧ tk' ≤ tk + 40 * m + 4 := by
  intro m
  induction m with
  | zero =>
    intro a b r tk ha hb hr h
    obtain rfl : b = 0 := by simpa using h
    have hx : X inp bd mpC (Ms.tick ⟨tk, out, rd, cl, gl⟩) [a, 0, M, r] (.val 0 ⟨tk + 1 + 3, out, rd, cl, gl⟩) := (X.bin (X.loc rfl) (X.num _) (b21_q_h_f (by omega) (by omega) (by omega)))
    rw [Nat.pow_zero, Nat.mul_one, Nat.mod_eq_of_lt hr]
    exact ⟨a, _, XW.done hx, by omega⟩
  | succ m ih =>
    intro a b r tk ha hb hr h
    by_cases h0 : b = 0
    · subst h0
      have hx : X inp bd mpC (Ms.tick ⟨tk, out, rd, cl, gl⟩) [a, 0, M, r] (.val 0 ⟨tk + 1 + 3, out, rd, cl, gl⟩) := (X.bin (X.loc rfl) (X.num _) (b21_q_h_f (by omega) (by omega) (by omega)))
      rw [Nat.pow_zero, Nat.mul_one, Nat.mod_eq_of_lt hr]
      exact ⟨a, _, XW.done hx, by omega⟩
    · have hc : X inp bd mpC (Ms.tick ⟨tk, out, rd, cl, gl⟩) [a, b, M, r] (.val 1 ⟨tk + 1 + 3, out, rd, cl, gl⟩) := (X.bin (X.loc rfl) (X.num _) (b21_q_h_t (by omega) (by omega) (by omega)))
      have hand : b &&& 1 = b % 2 := Nat.and_one_is_mod b
      have haa := mp_mul ha ha hM
      have hra := mp_mul hr ha hM
      have hm := Nat.mod_lt (a * a) h0M
      have hm2 := Nat.mod_lt (r * a) h0M
      have hb2 : b / 2 < 2 ^ m := by rw [Nat.pow_succ] at h; omega
      have hb3 : b / 2 ^ 1 = b / 2 := by omega
      by_cases ho : b % 2 = 0
      · have hz : binN 22 b 1 u64T uintT = some 0 := by rw [b22_q_h (by omega) (by omega), hand, ho]
        have hw : XQ inp bd mpW ⟨tk + 1 + 3, out, rd, cl, gl⟩ ⟨[a, b, M, r], f⟩ (.go 0 ⟨tk + 1 + 3 + 14, out, rd, cl, gl⟩ ⟨[a * a % M, b / 2 ^ 1, M, r], f⟩) := (XQ.cons (XS.no (X.bin (X.loc rfl) (X.num _) hz) XQ.nil) (XQ.cons (XS.setls (X.bin (X.bin (X.loc rfl) (X.loc rfl) (b9_q_q_n (by omega) (by omega) (by omega))) (X.loc rfl) (b11_q_q (by omega) (by omega) (by omega))) (c_q_q (by omega)) (of_decide_eq_true rfl)) (XQ.cons (XS.setls (X.bin (X.loc rfl) (X.num _) (b15_q_i (by omega) (by omega) (by omega))) (c_q_q (by omega)) (of_decide_eq_true rfl)) XQ.nil)))
        obtain ⟨a', tk', h6, h7⟩ := ih (a * a % M) (b / 2) r (tk + 1 + 3 + 14) hm (by omega) hr hb2
        rw [hb3] at hw
        refine ⟨a', tk', ?_, by omega⟩
        have e : (r * a ^ b) % M = (r * (a * a % M) ^ (b / 2)) % M := by
          have := pow_mm r (a * a) (b / 2) M
          rw [Nat.mod_eq_of_lt hr] at this
          rw [this, ← Nat.pow_two, ← Nat.pow_mul, show 2 * (b / 2) = b by omega]
        rw [e]
        exact XW.step hc (by decide) hw (.inl rfl) h6
      · have ho : b % 2 = 1 := by omega
        have hnz : b &&& 1 ≠ 0 := by omega
        have hw : XQ inp bd mpW ⟨tk + 1 + 3, out, rd, cl, gl⟩ ⟨[a, b, M, r], f⟩ (.go 0 ⟨tk + 1 + 3 + 20, out, rd, cl, gl⟩ ⟨[a * a % M, b / 2 ^ 1, M, r * a % M], f⟩) := (XQ.cons (XS.yes (X.bin (X.loc rfl) (X.num _) (b22_q_h (by omega) (by omega))) hnz (XQ.cons (XS.setls (X.bin (X.bin (X.loc rfl) (X.loc rfl) (b9_q_q_n (by omega) (by omega) (by omega))) (X.loc rfl) (b11_q_q (by omega) (by omega) (by omega))) (c_q_q (by omega)) (of_decide_eq_true rfl)) XQ.nil)) (XQ.cons (XS.setls (X.bin (X.bin (X.loc rfl) (X.loc rfl) (b9_q_q_n (by omega) (by omega) (by omega))) (X.loc rfl) (b11_q_q (by omega) (by omega) (by omega))) (c_q_q (by omega)) (of_decide_eq_true rfl)) (XQ.cons (XS.setls (X.bin (X.loc rfl) (X.num _) (b15_q_i (by omega) (by omega) (by omega))) (c_q_q (by omega)) (of_decide_eq_true rfl)) XQ.nil)))
        obtain ⟨a', tk', h6, h7⟩ := ih (a * a % M) (b / 2) (r * a % M) (tk + 1 + 3 + 20) hm (by omega) hm2 hb2
        rw [hb3] at hw
        refine ⟨a', tk', ?_, by omega⟩
        have e : (r * a ^ b) % M = (r * a % M * (a * a % M) ^ (b / 2)) % M := by
          rw [pow_mm (r * a) (a * a) (b / 2) M, ← Nat.pow_two, ← Nat.pow_mul, Nat.mul_assoc, Nat.mul_comm a, ← Nat.pow_succ, show (2 * (b / 2)).succ = b by omega]
        rw [e]
        exact XW.step hc (by decide) hw (.inl rfl) h6
theorem and32 {m : Nat} (h : m < 4294967296) : m &&& 4294967295 = m := by
  have := Nat.and_two_pow_sub_one_eq_mod m 32
  rw [show (2 : Nat) ^ 32 - 1 = 4294967295 from rfl, show (2 : Nat) ^ 32 = 4294967296 from rfl] at this
  rw [this, Nat.mod_eq_of_lt h]
/-- what is read ahead -/
theorem mp_ahead {a b m : Nat} (ha : a < 18446744073709551616) (hb : b < 18446744073709551616) (hm : m < 4294967296) : ∃ t rd, t ≤ 2000 ∧ XQ (askL [a, b, m]) mpBd mpI ⟨0, [], 0, 1, [List.replicate 20 0]⟩ ⟨[0, 0, 0, 0], 0⟩ (.go 0 ⟨t, [], rd, 1, [List.replicate 20 0]⟩ ⟨[a, b, m, 1], 0⟩) := by
  obtain ⟨inp, hinp⟩ : ∃ inp, inp = askL [a, b, m] := ⟨_, rfl⟩
  have d0 := drop_ask a [b, m]
  rw [← hinp] at d0 ⊢
  obtain ⟨t1, h1, k1⟩ := num_read (inp := inp) (bd := mpBd) (k := 1) rfl ha d0 2 [] (cl := 1) (by omega) [List.replicate 20 0]
  have d1 := drop_next a d0
  rw [show askL [b, m] = digs b ++ 32 :: askL [m] by unfold askL; simp] at d1
  obtain ⟨t2, h2, k2⟩ := num_read (inp := inp) (bd := mpBd) (k := 1) rfl hb d1 (t1 + 2) [] (cl := 1) (by omega) [List.replicate 20 0]
  have d2 := drop_next b d1
  rw [show askL [m] = digs m ++ 32 :: [] by unfold askL; simp] at d2
  obtain ⟨t3, h3, k3⟩ := num_read (inp := inp) (bd := mpBd) (k := 1) rfl (show m < 18446744073709551616 by omega) d2 (t2 + 3) [] (cl := 1) (by omega) [List.replicate 20 0]
  generalize min (0 + ((digs a).length + 1) + ((digs b).length + 1) + ((digs m).length + 1)) inp.length = rd3 at *
  generalize min (0 + ((digs a).length + 1) + ((digs b).length + 1)) inp.length = rd2 at *
  generalize min (0 + ((digs a).length + 1)) inp.length = rd1 at *
  rw [Nat.zero_min] at h1
  have hz : binN 22 m 4294967295 u64T u32T = some m := by rw [b22_q_w (by omega) (by omega), and32 hm]
  exact ⟨t3 + 3, rd3, by omega, (XQ.cons (XS.setls (X.call (XA.nil _) h1) (c_q_q (by omega)) (of_decide_eq_true rfl)) (XQ.cons (XS.setls (X.call (XA.nil _) h2) (c_q_q (by omega)) (of_decide_eq_true rfl)) (XQ.cons (XS.setls (X.bin (X.call (XA.nil _) h3) (X.num _) hz) (c_q_q (by omega)) (of_decide_eq_true rfl)) (XQ.cons (XS.setls (X.num _) (c_h_q (by omega)) (of_decide_eq_true rfl)) XQ.nil))))⟩
theorem modpow_means {a b m : Nat} (ha : a < 18446744073709551616) (hb : b < 18446744073709551616) (hm : m < 4294967296) (h0 : 0 < m) : ∃ n v s, evF (askL [a, b, m]) mpBd n 2 [] ⟨0, [], 0, 0, [List.replicate 20 0]⟩ = some (.val v s) ∧ s.out = digs (a ^ b % m) ++ [10] ∧ s.tk ≤ 200000 ∧ s.out.length ≤ 65536 := by
  obtain ⟨t, rd, kt, hI⟩ := mp_ahead ha hb hm
  have ham : a % m < m := Nat.mod_lt _ h0
  have h1m : 1 % m < m := Nat.mod_lt _ h0
  have hA : XS (askL [a, b, m]) mpBd mpA ⟨t, [], rd, 1, [List.replicate 20 0]⟩ ⟨[a, b, m, 1], 0⟩ (.go 0 ⟨t + 4, [], rd, 1, [List.replicate 20 0]⟩ ⟨[a % m, b, m, 1], 0⟩) := (XS.setls (X.bin (X.loc rfl) (X.loc rfl) (b11_q_q (by omega) (by omega) (by omega))) (c_q_q (by omega)) (of_decide_eq_true rfl))
  have hR : XS (askL [a, b, m]) mpBd mpR ⟨t + 4, [], rd, 1, [List.replicate 20 0]⟩ ⟨[a % m, b, m, 1], 0⟩ (.go 0 ⟨t + 4 + 4, [], rd, 1, [List.replicate 20 0]⟩ ⟨[a % m, b, m, 1 % m], 0⟩) := (XS.setls (X.bin (X.loc rfl) (X.loc rfl) (b11_q_q (by omega) (by omega) (by omega))) (c_q_q (by omega)) (of_decide_eq_true rfl))
  obtain ⟨mm, hmm⟩ : ∃ mm : Nat, mm = 64 := ⟨_, rfl⟩
  have hb64 : b < 2 ^ mm := by rw [hmm]; exact hb
  obtain ⟨a', t3, h3, k3⟩ := mp_loop (inp := askL [a, b, m]) (bd := mpBd) h0 hm [] rd 1 [List.replicate 20 0] 0 mm (a % m) b (1 % m) (t + 4 + 4 + 1) ham hb h1m hb64
  clear hb64
  have e : 1 % m * (a % m) ^ b % m = a ^ b % m := by rw [pow_mm 1 a b m, Nat.one_mul]
  rw [e] at h3
  have hg : a ^ b % m < 18446744073709551616 := Nat.lt_trans (Nat.mod_lt _ h0) (by omega)
  generalize a ^ b % m = g at *
  obtain ⟨t4, b', h4, k4, k5⟩ := dec_means (inp := askL [a, b, m]) (bd := mpBd) (k := 0) rfl hg (t3 + 3) [] rd (cl := 1) (by omega) (b := List.replicate 20 0) (by simp) []
  have hD : XQ (askL [a, b, m]) mpBd mpD ⟨t3, [], rd, 1, [List.replicate 20 0]⟩ ⟨[a', 0, m, g], 0⟩ (.go 1 ⟨t4 + 2, [] ++ (digs g ++ [10]), rd, 1, [b']⟩ ⟨[a', 0, m, g], 0⟩) := (XQ.cons (XS.ex (X.call (XA.conss (X.loc rfl) (c_q_q (by omega)) (XA.nil _)) h4)) (XQ.stop (XS.rets (X.num _) (c_i_i (by omega))) (by decide)))
  have q : XQ (askL [a, b, m]) mpBd mpM ⟨0, [], 0, 1, [List.replicate 20 0]⟩ ⟨[0, 0, 0, 0], 0⟩ (.go 1 ⟨t4 + 2, [] ++ (digs g ++ [10]), rd, 1, [b']⟩ ⟨[a', 0, m, g], 0⟩) :=
    XQ.app hI (XQ.cons hA (XQ.cons hR (XQ.cons (XS.whl h3) hD)))
  have hl := line_short hg
  exact means_le (XF.runs (k := 2) rfl (by omega) q) (by omega) (by omega)
/-- divided by nought -/
theorem modpow_traps {a b : Nat} (ha : a < 18446744073709551616) (hb : b < 18446744073709551616) : ∃ n s, evF (askL [a, b, 0]) mpBd n 2 [] ⟨0, [], 0, 0, [List.replicate 20 0]⟩ = some (.trap 1 s) ∧ s.out = [] ∧ s.tk ≤ 200000 := by
  obtain ⟨t, rd, kt, hI⟩ := mp_ahead ha hb (show 0 < 4294967296 by decide)
  have hz : binN 11 a 0 u64T u64T = none := bn_div0 (.inr rfl) (c := u64T) rfl (cv_uu (by simp only [Nat.reducePow]; omega) (by simp only [Nat.reducePow]; omega)) (cv_uu (by decide) (by decide))
  have hA : XS (askL [a, b, 0]) mpBd mpA ⟨t, [], rd, 1, [List.replicate 20 0]⟩ ⟨[a, b, 0, 1], 0⟩ (.trap 1 ⟨t + 4, [], rd, 1, [List.replicate 20 0]⟩) := XS.setlT (X.binT (X.loc rfl) (X.loc rfl) hz)
  have q : XQ (askL [a, b, 0]) mpBd mpM ⟨0, [], 0, 1, [List.replicate 20 0]⟩ ⟨[0, 0, 0, 0], 0⟩ (.trap 1 ⟨t + 4, [], rd, 1, [List.replicate 20 0]⟩) := XQ.app hI (XQ.trap hA)
  obtain ⟨n, h⟩ := XF.trap (s := ⟨0, [], 0, 0, [List.replicate 20 0]⟩) (bd := mpBd) (k := 2) (z := 4) (b := mpM) (l := []) rfl (by decide) q
  exact ⟨n, _, h, rfl, by show t + 4 ≤ _; omega⟩

/-! ### factorial -/
def facS : Sm := .ite (.bin 16 (.loc 0) (.num 2) u64T uintT) [.ret (.num 1) uintT u64T] []
def facT : List Sm := [.ret (.bin 9 (.loc 0) (.call 2 [(.bin 13 (.loc 0) (.num 1) u64T uintT, u64T, u64T)]) u64T u64T) u64T u64T]
def facB : List Sm := facS :: facT
def facM : List Sm := [.ex (.call 0 [(.call 2 [(.call 1 [], u64T, u64T)], u64T, u64T)]), .ret (.num 0) intT intT]
def facBd : List (List Sm × Nat) := [(decB, 2), (numB, 2), (facB, 1), (facM, 0)]
/-- the product of all numbers up to one, cut -/
def facN : Nat → Nat
  | 0 => 1
  | n + 1 => if n = 0 then 1 else (n + 1) * facN n % 18446744073709551616
theorem facN_lt : ∀ n, facN n < 18446744073709551616
  | 0 => by decide
  | n + 1 => by
    unfold facN
    split
    · decide
    · exact Nat.mod_lt _ (by decide)
theorem fac_run (out : List Nat) (rd : Nat) (gl : List (List Nat)) : ∀ (n cl tk : Nat), n + cl ≤ 60 → cl < 60 → ∃ tk', XF inp facBd 2 [n] ⟨tk, out, rd, cl, gl⟩ (.val (facN n) ⟨tk', out, rd, cl, gl⟩) ∧ tk' ≤ tk + 20 * (n + 1)
  | n, cl, tk, h, hc => by
    by_cases h2 : n < 2
    · have e : facN n = 1 := by
        have : n = 0 ∨ n = 1 := by omega
        rcases this with rfl | rfl <;> rfl
      rw [e]
      have q : XQ inp facBd facB ⟨tk, out, rd, cl + 1, gl⟩ ⟨[n], 0⟩ (.go 1 ⟨tk + 6, out, rd, cl + 1, gl⟩ ⟨[n], 1⟩) := (XQ.stop (XS.yes (X.bin (X.loc rfl) (X.num _) (b16_q_h_t (by omega) (by omega) (by omega))) (by decide) (XQ.stop (XS.rets (X.num _) (c_h_q (by omega))) (by decide))) (by decide))
      exact ⟨_, XF.runs (k := 2) rfl (by omega) q, by omega⟩
    · cases n with
      | zero => omega
      | succ n =>
        have h2 : 2 ≤ n + 1 := by omega
        obtain ⟨tk', h4, h5⟩ := fac_run out rd gl n (cl + 1) (tk + 4 + 7) (by omega) (by omega)
        have e : facN (n + 1) = (n + 1) * facN n % 18446744073709551616 := if_neg (by omega)
        have hf := facN_lt n
        have hm := Nat.mod_lt ((n + 1) * facN n) (show 18446744073709551616 > 0 by decide)
        have h4' : XF inp facBd 2 [n + 1 - 1] ⟨tk + 4 + 7, out, rd, cl + 1, gl⟩ (.val (facN n) ⟨tk', out, rd, cl + 1, gl⟩) := h4
        have hS : XS inp facBd facS ⟨tk, out, rd, cl + 1, gl⟩ ⟨[n + 1], 0⟩ (.go 0 ⟨tk + 4, out, rd, cl + 1, gl⟩ ⟨[n + 1], 0⟩) := (XS.no (X.bin (X.loc rfl) (X.num _) (b16_q_h_f (by omega) (by omega) (by omega))) XQ.nil)
        have hT : XQ inp facBd facT ⟨tk + 4, out, rd, cl + 1, gl⟩ ⟨[n + 1], 0⟩ (.go 1 ⟨tk', out, rd, cl + 1, gl⟩ ⟨[n + 1], (n + 1) * facN n % 18446744073709551616⟩) := (XQ.stop (XS.rets (X.bin (X.loc rfl) (X.call (XA.conss (X.bin (X.loc rfl) (X.num _) (b13_q_h_n (by omega) (by omega) (by omega))) (c_q_q (by omega)) (XA.nil _)) h4') (b9_q_q_w (by omega) (by omega))) (c_q_q (by omega))) (by decide))
        have q : XQ inp facBd facB ⟨tk, out, rd, cl + 1, gl⟩ ⟨[n + 1], 0⟩ (.go 1 ⟨tk', out, rd, cl + 1, gl⟩ ⟨[n + 1], (n + 1) * facN n % 18446744073709551616⟩) := XQ.cons hS hT
        rw [e]
        exact ⟨_, XF.runs (k := 2) rfl (by omega) q, by omega⟩
end
end Go.Proofs.YtgmmfjmdpbhjnaaGreat
