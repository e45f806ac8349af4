/-
  What lcm and binary mean, plainly.
-/
import Derived.Test.YtgmmfjmdpbhjnaaGreatLNuR
import Derived.Test.YtgmmfjmdpbhjnaaGreatJPc
namespace Go.Proofs.YtgmmfjmdpbhjnaaGreat

section
variable {inp : List Nat} {bd : List (List Sm × Nat)}

/-! ### lcm -/
def lcmI : List Sm := [.setl 0 (.call 1 []) u64T u64T, .setl 1 (.call 1 []) u64T u64T, .setl 2 (.loc 0) u64T u64T, .setl 3 (.loc 1) u64T u64T]
def lcmC : Ex := .bin 21 (.loc 3) (.num 0) u64T uintT
def lcmW : List Sm := [.setl 4 (.bin 11 (.loc 2) (.loc 3) u64T u64T) u64T u64T, .setl 2 (.loc 3) u64T u64T, .setl 3 (.loc 4) u64T u64T]
def lcmE : Sm := .ite (.bin 21 (.loc 2) (.num 0) u64T uintT) [.setl 2 (.bin 9 (.bin 10 (.loc 0) (.loc 2) u64T u64T) (.loc 1) u64T u64T) u64T u64T] []
def lcmD : List Sm := [.ex (.call 0 [(.loc 2, u64T, u64T)]), .ret (.num 0) intT intT]
def lcmM : List Sm := lcmI ++ (.whl lcmC lcmW :: lcmE :: lcmD)
def lcmBd : List (List Sm × Nat) := [(decB, 2), (numB, 2), (lcmM, 5)]
theorem lcm_loop (a b : Nat) (out : List Nat) (rd cl : Nat) (gl : List (List Nat)) (r : Nat) : ∀ (m x y z tk : Nat), x < 18446744073709551616 → y < 18446744073709551616 → y < 2 ^ m →
    ∃ z' tk', XW inp bd lcmC lcmW ⟨tk, out, rd, cl, gl⟩ ⟨[a, b, x, y, z], r⟩ (.go 0 ⟨tk', out, rd, cl, gl⟩ ⟨[a, b, Nat.gcd x y, 0, z'], r⟩) ∧ tk' ≤ tk + 40 * m + 4 := by
  have done : ∀ (x z tk : Nat), X inp bd lcmC (Ms.tick ⟨tk, out, rd, cl, gl⟩) [a, b, x, 0, z] (.val 0 ⟨tk + 1 + 3, out, rd, cl, gl⟩) := fun x z tk => (X.bin (X.loc rfl) (X.num _) (b21_q_h_f (by omega) (by omega) (by omega)))
  have step : ∀ (x y z tk : Nat), x < 18446744073709551616 → y < 18446744073709551616 → 0 < y → (X inp bd lcmC (Ms.tick ⟨tk, out, rd, cl, gl⟩) [a, b, x, y, z] (.val 1 ⟨tk + 1 + 3, out, rd, cl, gl⟩)) ∧ XQ inp bd lcmW ⟨tk + 1 + 3, out, rd, cl, gl⟩ ⟨[a, b, x, y, z], r⟩ (.go 0 ⟨tk + 1 + 3 + 8, out, rd, cl, gl⟩ ⟨[a, b, y, x % y, x % y], r⟩) := fun x y z tk hx hy h0 => by
    have hm : x % y < 18446744073709551616 := Nat.lt_of_le_of_lt (Nat.mod_le x y) hx
    exact ⟨(X.bin (X.loc rfl) (X.num _) (b21_q_h_t (by omega) (by omega) (by omega))), (XQ.cons (XS.setls (X.bin (X.loc rfl) (X.loc rfl) (b11_q_q (by omega) (by omega) (by omega))) (c_q_q (by omega)) (of_decide_eq_true rfl)) (XQ.cons (XS.setls (X.loc rfl) (c_q_q (by omega)) (of_decide_eq_true rfl)) (XQ.cons (XS.setls (X.loc rfl) (c_q_q (by omega)) (of_decide_eq_true rfl)) XQ.nil)))⟩
  intro m
  induction m with
  | zero =>
    intro x y z tk hx hy h
    obtain rfl : y = 0 := by simpa using h
    rw [Nat.gcd_zero_right]
    exact ⟨z, _, XW.done (done x z tk), by omega⟩
  | succ m ih =>
    intro x y z tk hx hy h
    by_cases h0 : y = 0
    · subst h0
      rw [Nat.gcd_zero_right]
      exact ⟨z, _, XW.done (done x z tk), by omega⟩
    · obtain ⟨c1, b1⟩ := step x y z tk hx hy (by omega)
      have hlt : x % y < y := Nat.mod_lt _ (by omega)
      have e1 : Nat.gcd x y = Nat.gcd y (x % y) := by rw [Nat.gcd_comm x y, Nat.gcd_rec y x, Nat.gcd_comm]
      by_cases h1 : x % y = 0
      · rw [h1] at b1
        rw [e1, h1, Nat.gcd_zero_right]
        exact ⟨0, _, XW.step c1 (by decide) b1 (.inl rfl) (XW.done (done _ _ _)), by omega⟩
      · obtain ⟨c2, b2⟩ := step y (x % y) (x % y) (tk + 1 + 3 + 8) hy (by omega) (by omega)
        have e2 : Nat.gcd y (x % y) = Nat.gcd (x % y) (y % (x % y)) := by rw [Nat.gcd_comm y (x % y), Nat.gcd_rec (x % y) y, Nat.gcd_comm]
        have hh : y % (x % y) < 2 ^ m := by
          have h2 : y % (x % y) < x % y := Nat.mod_lt _ (by omega)
          have h3 : y % (x % y) ≤ y - x % y := by
            have := Nat.mod_add_div y (x % y)
            have h4 : 1 ≤ y / (x % y) := Nat.div_pos (by omega) (by omega)
            have h5 : x % y * 1 ≤ x % y * (y / (x % y)) := Nat.mul_le_mul_left _ h4
            omega
          rw [Nat.pow_succ] at h
          omega
        obtain ⟨z', tk', h6, h7⟩ := ih (x % y) (y % (x % y)) (y % (x % y)) (tk + 1 + 3 + 8 + 1 + 3 + 8) (by omega) (Nat.lt_of_le_of_lt (Nat.mod_le _ _) hy) hh
        rw [e1, e2]
        exact ⟨z', tk', XW.step c1 (by decide) b1 (.inl rfl) (XW.step c2 (by decide) b2 (.inl rfl) h6), by omega⟩
/-- what lcm tells -/
def lcN (a b : Nat) : Nat := if Nat.gcd a b = 0 then 0 else a / Nat.gcd a b * b
theorem lcN_lt {a b : Nat} (ha : a < 4294967296) (hb : b < 4294967296) : a / Nat.gcd a b * b < 18446744073709551616 := by
  have h1 : a / Nat.gcd a b * b ≤ a * b := Nat.mul_le_mul_right _ (Nat.div_le_self _ _)
  have h2 : a * b ≤ 4294967295 * 4294967295 := Nat.mul_le_mul (by omega) (by omega)
  omega
theorem lcm_means {a b : Nat} (ha : a < 4294967296) (hb : b < 4294967296) : ∃ n v s, evF (askL [a, b]) lcmBd n 2 [] ⟨0, [], 0, 0, [List.replicate 20 0]⟩ = some (.val v s) ∧ s.out = digs (lcN a b) ++ [10] ∧ s.tk ≤ 200000 ∧ s.out.length ≤ 65536 := by
  obtain ⟨inp, hinp⟩ : ∃ inp, inp = askL [a, b] := ⟨_, rfl⟩
  have d0 := drop_ask a [b]
  rw [← hinp] at d0 ⊢
  obtain ⟨t1, h1, k1⟩ := num_read (inp := inp) (bd := lcmBd) (k := 1) rfl (show a < 18446744073709551616 by omega) d0 2 [] (cl := 1) (by omega) [List.replicate 20 0]
  have d1 := drop_next a d0
  rw [show askL [b] = digs b ++ 32 :: [] by unfold askL; simp] at d1
  obtain ⟨t2, h2, k2⟩ := num_read (inp := inp) (bd := lcmBd) (k := 1) rfl (show b < 18446744073709551616 by omega) d1 (t1 + 2) [] (cl := 1) (by omega) [List.replicate 20 0]
  generalize min (0 + ((digs a).length + 1) + ((digs b).length + 1)) inp.length = rd2 at *
  generalize min (0 + ((digs a).length + 1)) inp.length = rd1 at *
  rw [Nat.zero_min] at h1
  obtain ⟨mm, hmm⟩ : ∃ mm : Nat, mm = 64 := ⟨_, rfl⟩
  have hb64 : b < 2 ^ mm := by rw [hmm]; exact Nat.lt_trans hb (by decide)
  obtain ⟨z', t3, h3, k3⟩ := lcm_loop (inp := inp) (bd := lcmBd) a b [] rd2 1 [List.replicate 20 0] 0 mm a b 0 (t2 + 4 + 1) (by omega) (by omega) hb64
  clear hb64
  have hl := lcN_lt ha hb
  have hg : Nat.gcd a b < 18446744073709551616 := by
    by_cases h : a = 0
    · subst h; rw [Nat.gcd_zero_left]; omega
    · exact Nat.lt_of_le_of_lt (Nat.gcd_le_left b (by omega)) (show a < 18446744073709551616 by omega)
  have hdl : a / Nat.gcd a b ≤ a := Nat.div_le_self _ _
  have hN : lcN a b < 18446744073709551616 := by
    unfold lcN
    split
    · decide
    · exact hl
  have hE : ∃ t5, XS inp lcmBd lcmE ⟨t3, [], rd2, 1, [List.replicate 20 0]⟩ ⟨[a, b, Nat.gcd a b, 0, z'], 0⟩ (.go 0 ⟨t5, [], rd2, 1, [List.replicate 20 0]⟩ ⟨[a, b, lcN a b, 0, z'], 0⟩) ∧ t5 ≤ t3 + 12 := by
    unfold lcN
    generalize Nat.gcd a b = g at *
    by_cases h0 : g = 0
    · subst h0
      rw [if_pos rfl]
      have h : XS inp lcmBd lcmE ⟨t3, [], rd2, 1, [List.replicate 20 0]⟩ ⟨[a, b, 0, 0, z'], 0⟩ (.go 0 ⟨t3 + 4, [], rd2, 1, [List.replicate 20 0]⟩ ⟨[a, b, 0, 0, z'], 0⟩) := (XS.no (X.bin (X.loc rfl) (X.num _) (b21_q_h_f (by omega) (by omega) (by omega))) XQ.nil)
      exact ⟨_, h, by omega⟩
    · rw [if_neg h0]
      have h0 : 0 < g := by omega
      have h : XS inp lcmBd lcmE ⟨t3, [], rd2, 1, [List.replicate 20 0]⟩ ⟨[a, b, g, 0, z'], 0⟩ (.go 0 ⟨t3 + 10, [], rd2, 1, [List.replicate 20 0]⟩ ⟨[a, b, a / g * b, 0, z'], 0⟩) := (XS.yes (X.bin (X.loc rfl) (X.num _) (b21_q_h_t (by omega) (by omega) (by omega))) (by decide) (XQ.cons (XS.setls (X.bin (X.bin (X.loc rfl) (X.loc rfl) (b10_q_q (by omega) (by omega) (by omega))) (X.loc rfl) (b9_q_q_n (by omega) (by omega) (by omega))) (c_q_q (by omega)) (of_decide_eq_true rfl)) XQ.nil))
      exact ⟨_, h, by omega⟩
  obtain ⟨t5, h5, k5⟩ := hE
  generalize lcN a b = g at *
  obtain ⟨t4, b', h4, k4, k6⟩ := dec_means (inp := inp) (bd := lcmBd) (k := 0) rfl hN (t5 + 3) [] rd2 (cl := 1) (by omega) (b := List.replicate 20 0) (by simp) []
  have q : XQ inp lcmBd lcmM ⟨0, [], 0, 1, [List.replicate 20 0]⟩ ⟨[0, 0, 0, 0, 0], 0⟩ (.go 1 ⟨t4 + 2, [] ++ (digs g ++ [10]), rd2, 1, [b']⟩ ⟨[a, b, g, 0, z'], 0⟩) :=
    XQ.app (s1 := ⟨t2 + 4, [], rd2, 1, [List.replicate 20 0]⟩) (F1 := ⟨[a, b, a, b, 0], 0⟩) (XQ.cons (XS.setls (X.call (XA.nil _) h1) (c_q_q (by omega)) (of_decide_eq_true rfl)) (XQ.cons (XS.setls (X.call (XA.nil _) h2) (c_q_q (by omega)) (of_decide_eq_true rfl)) (XQ.cons (XS.setls (X.loc rfl) (c_q_q (by omega)) (of_decide_eq_true rfl)) (XQ.cons (XS.setls (X.loc rfl) (c_q_q (by omega)) (of_decide_eq_true rfl)) XQ.nil)))) (XQ.cons (XS.whl h3) (XQ.cons h5 (XQ.cons (XS.ex (X.call (XA.conss (X.loc rfl) (c_q_q (by omega)) (XA.nil _)) h4)) (XQ.stop (XS.rets (X.num _) (c_i_i (by omega))) (by decide)))))
  have hl2 := line_short hN
  exact means_le (XF.runs (k := 2) rfl (by omega) q) (by omega) (by omega)
end
end Go.Proofs.YtgmmfjmdpbhjnaaGreat
