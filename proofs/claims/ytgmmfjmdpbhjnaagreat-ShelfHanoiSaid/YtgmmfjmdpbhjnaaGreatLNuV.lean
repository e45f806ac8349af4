/-
  What factorial, ackermann and hanoi mean, plainly.
-/
import Derived.Test.YtgmmfjmdpbhjnaaGreatLNuT
import Derived.Test.YtgmmfjmdpbhjnaaGreatJPc
namespace Go.Proofs.YtgmmfjmdpbhjnaaGreat

section
variable {inp : List Nat} {bd : List (List Sm × Nat)} {s s1 s2 : Ms} {f : List Nat}
/-- the second part of an operation traps -/
theorem X.binR {k p v : Nat} {x y : Ex} {t u : GTy} (h1 : X inp bd x s.tick f (.val p s1)) (h2 : X inp bd y s1 f (.trap v s2)) : X inp bd (.bin k x y t u) s f (.trap v s2) := by
  obtain ⟨n, h1⟩ := h1
  obtain ⟨m, h2⟩ := h2
  refine ⟨max n m + 1, ?_⟩
  show Rx.on (ev inp bd (max n m) x s.tick f) (fun p s => Rx.on (ev inp bd (max n m) y s f) fun q s => match binN k p q t u with | some r => some (.val r s) | none => some (.trap 1 s)) = _
  rw [ev_le inp bd (Nat.le_max_left n m) _ _ _ _ h1]
  show Rx.on (ev inp bd (max n m) y s1 f) (fun q s => match binN k p q t u with | some r => some (.val r s) | none => some (.trap 1 s)) = _
  rw [ev_le inp bd (Nat.le_max_right n m) _ _ _ _ h2]
  rfl
end
section
variable {inp : List Nat} {bd : List (List Sm × Nat)}

/-! ### factorial -/
theorem fac_means {n : Nat} (hn : n < 60) : ∃ m v s, evF (askL [n]) facBd m 3 [] ⟨0, [], 0, 0, [List.replicate 20 0]⟩ = some (.val v s) ∧ s.out = digs (facN n) ++ [10] ∧ s.tk ≤ 200000 ∧ s.out.length ≤ 65536 := by
  obtain ⟨inp, hinp⟩ : ∃ inp, inp = askL [n] := ⟨_, rfl⟩
  have d0 := drop_ask n []
  rw [← hinp] at d0 ⊢
  obtain ⟨t1, h1, k1⟩ := num_read (inp := inp) (bd := facBd) (k := 1) rfl (show n < 18446744073709551616 by omega) d0 4 [] (cl := 1) (by omega) [List.replicate 20 0]
  generalize min (0 + ((digs n).length + 1)) inp.length = rd1 at *
  rw [Nat.zero_min] at h1
  obtain ⟨t2, h2, k2⟩ := fac_run (inp := inp) [] rd1 [List.replicate 20 0] n 1 t1 (by omega) (by omega)
  have hf := facN_lt n
  obtain ⟨t4, b', h4, k4, k5⟩ := dec_means (inp := inp) (bd := facBd) (k := 0) rfl hf t2 [] rd1 (cl := 1) (by omega) (b := List.replicate 20 0) (by simp) []
  have q : XQ inp facBd facM ⟨0, [], 0, 1, [List.replicate 20 0]⟩ ⟨[], 0⟩ (.go 1 ⟨t4 + 2, [] ++ (digs (facN n) ++ [10]), rd1, 1, [b']⟩ ⟨[], 0⟩) := (XQ.cons (XS.ex (X.call (XA.conss (X.call (XA.conss (X.call (XA.nil _) h1) (c_q_q (by omega)) (XA.nil _)) h2) (c_q_q (by omega)) (XA.nil _)) h4)) (XQ.stop (XS.rets (X.num _) (c_i_i (by omega))) (by decide)))
  have hl := line_short hf
  exact means_le (XF.runs (k := 3) rfl (by omega) q) (by omega) (by omega)
theorem fac_deep (out : List Nat) (rd : Nat) (gl : List (List Nat)) : ∀ (j n cl tk : Nat), cl + j = 60 → j + 1 ≤ n → n < 18446744073709551616 → ∃ tk', XF inp facBd 2 [n] ⟨tk, out, rd, cl, gl⟩ (.trap 3 ⟨tk', out, rd, 60, gl⟩) ∧ tk' ≤ tk + 20 * j
  | 0, n, cl, tk, h, _, _ => by
    obtain rfl : cl = 60 := by omega
    exact ⟨tk, XF.deep (z := 1) (b := facB) rfl rfl, by omega⟩
  | j + 1, n, cl, tk, h, hn, h64 => by
    have h2 : 2 ≤ n := by omega
    have hS : XS inp facBd facS ⟨tk, out, rd, cl + 1, gl⟩ ⟨[n], 0⟩ (.go 0 ⟨tk + 4, out, rd, cl + 1, gl⟩ ⟨[n], 0⟩) := (XS.no (X.bin (X.loc rfl) (X.num _) (b16_q_h_f (by omega) (by omega) (by omega))) XQ.nil)
    obtain ⟨tk', h4, h5⟩ := fac_deep out rd gl j (n - 1) (cl + 1) (tk + 4 + 7) (by omega) (by omega) (by omega)
    have hT : XQ inp facBd facT ⟨tk + 4, out, rd, cl + 1, gl⟩ ⟨[n], 0⟩ (.trap 3 ⟨tk', out, rd, 60, gl⟩) :=
      XQ.trap (XS.retT (X.binR (X.loc rfl) (X.call (XA.conss (X.bin (X.loc rfl) (X.num _) (b13_q_h_n (by omega) (by omega) (by omega))) (c_q_q (by omega)) (XA.nil _)) h4)))
    exact ⟨tk', XF.trap (s := ⟨tk, out, rd, cl, gl⟩) (z := 1) (b := facB) rfl (by show cl ≠ 60; omega) (XQ.cons hS hT), by omega⟩
/-- too many calls -/
theorem fac_traps {n : Nat} (h60 : 60 ≤ n) (hn : n < 18446744073709551616) : ∃ m s, evF (askL [n]) facBd m 3 [] ⟨0, [], 0, 0, [List.replicate 20 0]⟩ = some (.trap 3 s) ∧ s.out = [] ∧ s.tk ≤ 200000 := by
  obtain ⟨inp, hinp⟩ : ∃ inp, inp = askL [n] := ⟨_, rfl⟩
  have d0 := drop_ask n []
  rw [← hinp] at d0 ⊢
  obtain ⟨t1, h1, k1⟩ := num_read (inp := inp) (bd := facBd) (k := 1) rfl hn d0 4 [] (cl := 1) (by omega) [List.replicate 20 0]
  generalize min (0 + ((digs n).length + 1)) inp.length = rd1 at *
  rw [Nat.zero_min] at h1
  obtain ⟨t2, h2, k2⟩ := fac_deep (inp := inp) [] rd1 [List.replicate 20 0] 59 n 1 t1 (by omega) (by omega) hn
  have q : XQ inp facBd facM ⟨0, [], 0, 1, [List.replicate 20 0]⟩ ⟨[], 0⟩ (.trap 3 ⟨t2, [], rd1, 60, [List.replicate 20 0]⟩) :=
    XQ.trap (XS.exT (X.callT (XA.trap (X.call (XA.conss (X.call (XA.nil _) h1) (c_q_q (by omega)) (XA.nil _)) h2))))
  obtain ⟨m, h⟩ := XF.trap (s := ⟨0, [], 0, 0, [List.replicate 20 0]⟩) (bd := facBd) (k := 3) (z := 0) (b := facM) (l := []) rfl (by decide) q
  exact ⟨m, _, h, rfl, by show t2 ≤ _; omega⟩

/-! ### ackermann -/
def ackS0 : Sm := .ite (.bin 20 (.loc 0) (.num 0) u64T uintT) [.ret (.bin 12 (.loc 1) (.num 1) u64T uintT) u64T u64T] []
def ackS1 : Sm := .ite (.bin 20 (.loc 1) (.num 0) u64T uintT) [.ret (.call 2 [(.bin 13 (.loc 0) (.num 1) u64T uintT, u64T, u64T), (.num 1, uintT, u64T)]) u64T u64T] []
def ackS2 : List Sm := [.ret (.call 2 [(.bin 13 (.loc 0) (.num 1) u64T uintT, u64T, u64T), (.call 2 [(.loc 0, u64T, u64T), (.bin 13 (.loc 1) (.num 1) u64T uintT, u64T, u64T)], u64T, u64T)]) u64T u64T]
def ackB : List Sm := ackS0 :: ackS1 :: ackS2
def ackM : List Sm := [.setl 0 (.call 1 []) u64T u64T, .ex (.call 0 [(.call 2 [(.loc 0, u64T, u64T), (.call 1 [], u64T, u64T)], u64T, u64T)]), .ret (.num 0) intT intT]
def ackBd : List (List Sm × Nat) := [(decB, 2), (numB, 2), (ackB, 2), (ackM, 1)]
theorem ack_0 (out : List Nat) (rd : Nat) (gl : List (List Nat)) (n cl tk : Nat) (hn : n < 1000000) (hc : cl < 60) : ∃ tk', XF inp ackBd 2 [0, n] ⟨tk, out, rd, cl, gl⟩ (.val (n + 1) ⟨tk', out, rd, cl, gl⟩) ∧ tk' ≤ tk + 10 := by
  have q : XQ inp ackBd ackB ⟨tk, out, rd, cl + 1, gl⟩ ⟨[0, n], 0⟩ (.go 1 ⟨tk + 8, out, rd, cl + 1, gl⟩ ⟨[0, n], n + 1⟩) := XQ.stop (XS.yes (X.bin (X.loc rfl) (X.num _) (b20_q_h_t (by omega) (by omega) (by omega))) (by decide) (XQ.stop (XS.rets (X.bin (X.loc rfl) (X.num _) (b12_q_h_n (by omega) (by omega) (by omega))) (c_q_q (by omega))) (by decide))) (by decide)
  exact ⟨_, XF.runs (k := 2) rfl (by omega) q, by omega⟩
theorem ack_s0 (out : List Nat) (rd : Nat) (gl : List (List Nat)) (m n cl tk : Nat) (hm : m + 1 < 1000000) : XS inp ackBd ackS0 ⟨tk, out, rd, cl, gl⟩ ⟨[m + 1, n], 0⟩ (.go 0 ⟨tk + 4, out, rd, cl, gl⟩ ⟨[m + 1, n], 0⟩) := (XS.no (X.bin (X.loc rfl) (X.num _) (b20_q_h_f (by omega) (by omega) (by omega))) XQ.nil)
theorem ack_s1 (out : List Nat) (rd : Nat) (gl : List (List Nat)) (m n cl tk : Nat) (hm : n + 1 < 1000000) : XS inp ackBd ackS1 ⟨tk, out, rd, cl, gl⟩ ⟨[m, n + 1], 0⟩ (.go 0 ⟨tk + 4, out, rd, cl, gl⟩ ⟨[m, n + 1], 0⟩) := (XS.no (X.bin (X.loc rfl) (X.num _) (b20_q_h_f (by omega) (by omega) (by omega))) XQ.nil)
/-- ahead of nought: the next lower at 1 -/
theorem ack_z (out : List Nat) (rd : Nat) (gl : List (List Nat)) {m cl tk t1 v : Nat} (hm : m < 1000) (hv : v < 1000000) (hc : cl < 60) (h : XF inp ackBd 2 [m, 1] ⟨tk + 4 + 10, out, rd, cl + 1, gl⟩ (.val v ⟨t1, out, rd, cl + 1, gl⟩)) : XF inp ackBd 2 [m + 1, 0] ⟨tk, out, rd, cl, gl⟩ (.val v ⟨t1, out, rd, cl, gl⟩) := by
  have q : XQ inp ackBd ackB ⟨tk, out, rd, cl + 1, gl⟩ ⟨[m + 1, 0], 0⟩ (.go 1 ⟨t1, out, rd, cl + 1, gl⟩ ⟨[m + 1, 0], v⟩) := XQ.cons (ack_s0 out rd gl m 0 (cl + 1) tk (by omega)) (XQ.stop (XS.yes (X.bin (X.loc rfl) (X.num _) (b20_q_h_t (by omega) (by omega) (by omega))) (by decide) (XQ.stop (XS.rets (X.call (XA.conss (X.bin (X.loc rfl) (X.num _) (b13_q_h_n (by omega) (by omega) (by omega))) (c_q_q (by omega)) (XA.conss (X.num _) (c_h_q (by omega)) (XA.nil _))) h) (c_q_q (by omega))) (by decide))) (by decide))
  exact XF.runs (k := 2) rfl (by omega) q
theorem ack_p (out : List Nat) (rd : Nat) (gl : List (List Nat)) {m n cl tk t1 t2 v u : Nat} (hm : m < 1000) (hn : n < 1000) (hv : v < 1000000) (hu : u < 1000000) (hc : cl < 60) (h1 : XF inp ackBd 2 [m + 1, n] ⟨tk + 4 + 4 + 10, out, rd, cl + 1, gl⟩ (.val u ⟨t1, out, rd, cl + 1, gl⟩)) (h2 : XF inp ackBd 2 [m, u] ⟨t1, out, rd, cl + 1, gl⟩ (.val v ⟨t2, out, rd, cl + 1, gl⟩)) :
    XF inp ackBd 2 [m + 1, n + 1] ⟨tk, out, rd, cl, gl⟩ (.val v ⟨t2, out, rd, cl, gl⟩) := by
  have q : XQ inp ackBd ackB ⟨tk, out, rd, cl + 1, gl⟩ ⟨[m + 1, n + 1], 0⟩ (.go 1 ⟨t2, out, rd, cl + 1, gl⟩ ⟨[m + 1, n + 1], v⟩) := XQ.cons (ack_s0 out rd gl m (n + 1) (cl + 1) tk (by omega)) (XQ.cons (ack_s1 out rd gl (m + 1) n (cl + 1) _ (by omega)) (XQ.stop (XS.rets (X.call (XA.conss (X.bin (X.loc rfl) (X.num _) (b13_q_h_n (by omega) (by omega) (by omega))) (c_q_q (by omega)) (XA.conss (X.call (XA.conss (X.loc rfl) (c_q_q (by omega)) (XA.conss (X.bin (X.loc rfl) (X.num _) (b13_q_h_n (by omega) (by omega) (by omega))) (c_q_q (by omega)) (XA.nil _))) h1) (c_q_q (by omega)) (XA.nil _))) h2) (c_q_q (by omega))) (by decide)))
  exact XF.runs (k := 2) rfl (by omega) q
theorem ack_1 (out : List Nat) (rd : Nat) (gl : List (List Nat)) : ∀ (n cl tk : Nat), n < 100 → n + cl < 58 → ∃ tk', XF inp ackBd 2 [1, n] ⟨tk, out, rd, cl, gl⟩ (.val (n + 2) ⟨tk', out, rd, cl, gl⟩) ∧ tk' ≤ tk + 40 * (n + 1)
  | 0, cl, tk, _, hc => by
    obtain ⟨t1, h1, k1⟩ := ack_0 (inp := inp) out rd gl 1 (cl + 1) (tk + 4 + 10) (by omega) (by omega)
    exact ⟨t1, ack_z out rd gl (m := 0) (by omega) (by omega) (by omega) h1, by omega⟩
  | n + 1, cl, tk, hn, hc => by
    obtain ⟨t1, h1, k1⟩ := ack_1 out rd gl n (cl + 1) (tk + 4 + 4 + 10) (by omega) (by omega)
    obtain ⟨t2, h2, k2⟩ := ack_0 (inp := inp) out rd gl (n + 2) (cl + 1) t1 (by omega) (by omega)
    exact ⟨t2, ack_p out rd gl (m := 0) (by omega) (by omega) (by omega) (by omega) (by omega) h1 h2, by omega⟩
theorem ack_2 (out : List Nat) (rd : Nat) (gl : List (List Nat)) : ∀ (n cl tk : Nat), n ≤ 10 → n + cl < 20 → ∃ tk', XF inp ackBd 2 [2, n] ⟨tk, out, rd, cl, gl⟩ (.val (2 * n + 3) ⟨tk', out, rd, cl, gl⟩) ∧ tk' ≤ tk + 1200 * (n + 1)
  | 0, cl, tk, _, hc => by
    obtain ⟨t1, h1, k1⟩ := ack_1 (inp := inp) out rd gl 1 (cl + 1) (tk + 4 + 10) (by omega) (by omega)
    exact ⟨t1, ack_z out rd gl (m := 1) (by omega) (by omega) (by omega) h1, by omega⟩
  | n + 1, cl, tk, hn, hc => by
    obtain ⟨t1, h1, k1⟩ := ack_2 out rd gl n (cl + 1) (tk + 4 + 4 + 10) (by omega) (by omega)
    obtain ⟨t2, h2, k2⟩ := ack_1 (inp := inp) out rd gl (2 * n + 3) (cl + 1) t1 (by omega) (by omega)
    exact ⟨t2, ack_p out rd gl (m := 1) (by omega) (by omega) (by omega) (by omega) (by omega) h1 h2, by omega⟩
/-- a number of Ackermann -/
def ackV (m n : Nat) : Nat := if m = 0 then n + 1 else if m = 1 then n + 2 else 2 * n + 3
set_option maxRecDepth 100000 in
theorem ack_run (out : List Nat) (rd : Nat) (gl : List (List Nat)) {m n : Nat} (hm : m ≤ 2) (hn : n ≤ 10) (tk : Nat) : ∃ tk', XF inp ackBd 2 [m, n] ⟨tk, out, rd, 1, gl⟩ (.val (ackV m n) ⟨tk', out, rd, 1, gl⟩) ∧ tk' ≤ tk + 20000 := by
  have : m = 0 ∨ m = 1 ∨ m = 2 := by omega
  rcases this with rfl | rfl | rfl
  · obtain ⟨t, h, k⟩ := ack_0 (inp := inp) out rd gl n 1 tk (by omega) (by omega)
    exact ⟨t, h, by omega⟩
  · obtain ⟨t, h, k⟩ := ack_1 (inp := inp) out rd gl n 1 tk (by omega) (by omega)
    exact ⟨t, h, by omega⟩
  · obtain ⟨t, h, k⟩ := ack_2 (inp := inp) out rd gl n 1 tk (by omega) (by omega)
    exact ⟨t, h, by omega⟩
theorem ackV_le {m n : Nat} (hn : n ≤ 10) : ackV m n < 100 := by
  unfold ackV
  split
  · omega
  · split <;> omega
theorem ack_means {m n : Nat} (hm : m ≤ 2) (hn : n ≤ 10) : ∃ k v s, evF (askL [m, n]) ackBd k 3 [] ⟨0, [], 0, 0, [List.replicate 20 0]⟩ = some (.val v s) ∧ s.out = digs (ackV m n) ++ [10] ∧ s.tk ≤ 200000 ∧ s.out.length ≤ 65536 := by
  obtain ⟨inp, hinp⟩ : ∃ inp, inp = askL [m, n] := ⟨_, rfl⟩
  have d0 := drop_ask m [n]
  rw [← hinp] at d0 ⊢
  obtain ⟨t1, h1, k1⟩ := num_read (inp := inp) (bd := ackBd) (k := 1) rfl (show m < 18446744073709551616 by omega) d0 2 [] (cl := 1) (by omega) [List.replicate 20 0]
  have d1 := drop_next m d0
  rw [show askL [n] = digs n ++ 32 :: [] by unfold askL; simp] at d1
  obtain ⟨t2, h2, k2⟩ := num_read (inp := inp) (bd := ackBd) (k := 1) rfl (show n < 18446744073709551616 by omega) d1 (t1 + 5) [] (cl := 1) (by omega) [List.replicate 20 0]
  generalize min (0 + ((digs m).length + 1) + ((digs n).length + 1)) inp.length = rd2 at *
  generalize min (0 + ((digs m).length + 1)) inp.length = rd1 at *
  rw [Nat.zero_min] at h1
  obtain ⟨t3, h3, k3⟩ := ack_run (inp := inp) [] rd2 [List.replicate 20 0] hm hn t2
  have hg := ackV_le (m := m) hn
  generalize ackV m n = g at *
  obtain ⟨t4, b', h4, k4, k5⟩ := dec_means (inp := inp) (bd := ackBd) (k := 0) rfl (show g < 18446744073709551616 by omega) t3 [] rd2 (cl := 1) (by omega) (b := List.replicate 20 0) (by simp) []
  have q : XQ inp ackBd ackM ⟨0, [], 0, 1, [List.replicate 20 0]⟩ ⟨[0], 0⟩ (.go 1 ⟨t4 + 2, [] ++ (digs g ++ [10]), rd2, 1, [b']⟩ ⟨[m], 0⟩) := (XQ.cons (XS.setls (X.call (XA.nil _) h1) (c_q_q (by omega)) (of_decide_eq_true rfl)) (XQ.cons (XS.ex (X.call (XA.conss (X.call (XA.conss (X.loc rfl) (c_q_q (by omega)) (XA.conss (X.call (XA.nil _) h2) (c_q_q (by omega)) (XA.nil _))) h3) (c_q_q (by omega)) (XA.nil _)) h4)) (XQ.stop (XS.rets (X.num _) (c_i_i (by omega))) (by decide))))
  have hl := line_short (show g < 18446744073709551616 by omega)
  exact means_le (XF.runs (k := 3) rfl (by omega) q) (by omega) (by omega)

/-! ### hanoi -/
def hanS : Sm := .ite (.bin 20 (.loc 0) (.num 0) intT intT) [.ret0] []
def hanT : List Sm := [.ex (.call 1 [(.bin 13 (.loc 0) (.num 1) intT intT, intT, intT), (.loc 1, intT, intT), (.loc 3, intT, intT), (.loc 2, intT, intT)]), .ex (.put (.loc 1) intT), .ex (.put (.loc 2) intT), .ex (.put (.num 10) intT), .ex (.call 1 [(.bin 13 (.loc 0) (.num 1) intT intT, intT, intT), (.loc 3, intT, intT), (.loc 2, intT, intT), (.loc 1, intT, intT)])]
def hanB : List Sm := hanS :: hanT
def hanM : List Sm := [.ex (.call 1 [(.call 0 [], u64T, intT), (.num 65, intT, intT), (.num 67, intT, intT), (.num 66, intT, intT)]), .ret (.num 0) intT intT]
def hanBd : List (List Sm × Nat) := [(numB, 2), (hanB, 4), (hanM, 0)]
/-- moves of discs -/
def movL : Nat → Nat → Nat → Nat → List Nat
  | 0, _, _, _ => []
  | n + 1, a, b, c => movL n a c b ++ [a] ++ [b] ++ [10] ++ movL n c b a
theorem movL_len : ∀ n a b c, (movL n a b c).length + 3 = 3 * 2 ^ n
  | 0, _, _, _ => rfl
  | n + 1, a, b, c => by
    have h1 := movL_len n a c b
    have h2 := movL_len n c b a
    show (movL n a c b ++ [a] ++ [b] ++ [10] ++ movL n c b a).length + 3 = _
    simp only [List.length_append, List.length_cons, List.length_nil, Nat.pow_succ']
    omega
theorem han_run (rd : Nat) (gl : List (List Nat)) : ∀ (n a b c cl tk : Nat) (out : List Nat), n < 30 → n + cl < 58 → a < 256 → b < 256 → c < 256 → ∃ tk', XF inp hanBd 1 [n, a, b, c] ⟨tk, out, rd, cl, gl⟩ (.val 0 ⟨tk', out ++ movL n a b c, rd, cl, gl⟩) ∧ tk' + 60 ≤ tk + 70 * 2 ^ n
  | 0, a, b, c, cl, tk, out, _, hc, _, _, _ => by
    have q : XQ inp hanBd hanB ⟨tk, out, rd, cl + 1, gl⟩ ⟨[0, a, b, c], 0⟩ (.go 1 ⟨tk + 5, out, rd, cl + 1, gl⟩ ⟨[0, a, b, c], 0⟩) := XQ.stop (XS.yes (X.bin (X.loc rfl) (X.num _) (b20_i_i_t (by omega) (by omega) (by omega))) (by decide) (XQ.stop XS.ret0 (by decide))) (by decide)
    rw [show out ++ movL 0 a b c = out from List.append_nil out]
    exact ⟨_, XF.runs (k := 1) rfl (by omega) q, by omega⟩
  | n + 1, a, b, c, cl, tk, out, hn, hc, ha, hb, hc' => by
    obtain ⟨t1, h1, k1⟩ := han_run rd gl n a c b (cl + 1) (tk + 4 + 8) out (by omega) (by omega) ha hc' hb
    obtain ⟨t2, h2, k2⟩ := han_run rd gl n c b a (cl + 1) (t1 + 9 + 8) (out ++ movL n a c b ++ [a] ++ [b] ++ [10]) (by omega) (by omega) hc' hb ha
    have g1 : XF inp hanBd 1 [n + 1 - 1, a, c, b] ⟨tk + 4 + 8, out, rd, cl + 1, gl⟩ (.val 0 ⟨t1, out ++ movL n a c b, rd, cl + 1, gl⟩) := h1
    have g2 : XF inp hanBd 1 [n + 1 - 1, c, b, a] ⟨t1 + 9 + 8, out ++ movL n a c b ++ [a] ++ [b] ++ [10], rd, cl + 1, gl⟩ (.val 0 ⟨t2, out ++ movL n a c b ++ [a] ++ [b] ++ [10] ++ movL n c b a, rd, cl + 1, gl⟩) := h2
    have hS : XS inp hanBd hanS ⟨tk, out, rd, cl + 1, gl⟩ ⟨[n + 1, a, b, c], 0⟩ (.go 0 ⟨tk + 4, out, rd, cl + 1, gl⟩ ⟨[n + 1, a, b, c], 0⟩) := (XS.no (X.bin (X.loc rfl) (X.num _) (b20_i_i_f (by omega) (by omega) (by omega))) XQ.nil)
    have hT : XQ inp hanBd hanT ⟨tk + 4, out, rd, cl + 1, gl⟩ ⟨[n + 1, a, b, c], 0⟩ (.go 0 ⟨t2, out ++ movL n a c b ++ [a] ++ [b] ++ [10] ++ movL n c b a, rd, cl + 1, gl⟩ ⟨[n + 1, a, b, c], 0⟩) := (XQ.cons (XS.ex (X.call (XA.conss (X.bin (X.loc rfl) (X.num _) (b13_i_i_n (by omega) (by omega) (by omega))) (c_i_i (by omega)) (XA.conss (X.loc rfl) (c_i_i (by omega)) (XA.conss (X.loc rfl) (c_i_i (by omega)) (XA.conss (X.loc rfl) (c_i_i (by omega)) (XA.nil _))))) g1)) (XQ.cons (XS.ex (X.puts (X.loc rfl) (p_i (by omega)))) (XQ.cons (XS.ex (X.puts (X.loc rfl) (p_i (by omega)))) (XQ.cons (XS.ex (X.puts (X.num _) (p_i (by omega)))) (XQ.cons (XS.ex (X.call (XA.conss (X.bin (X.loc rfl) (X.num _) (b13_i_i_n (by omega) (by omega) (by omega))) (c_i_i (by omega)) (XA.conss (X.loc rfl) (c_i_i (by omega)) (XA.conss (X.loc rfl) (c_i_i (by omega)) (XA.conss (X.loc rfl) (c_i_i (by omega)) (XA.nil _))))) g2)) XQ.nil)))))
    have e : out ++ movL (n + 1) a b c = out ++ movL n a c b ++ [a] ++ [b] ++ [10] ++ movL n c b a := by
      show out ++ (movL n a c b ++ [a] ++ [b] ++ [10] ++ movL n c b a) = _
      simp only [List.append_assoc]
    rw [e]
    exact ⟨t2, XF.runs (k := 1) rfl (by omega) (XQ.cons hS hT), by rw [Nat.pow_succ]; omega⟩
theorem han_means {n : Nat} (hn : n ≤ 9) : ∃ m v s, evF (askL [n]) hanBd m 2 [] ⟨0, [], 0, 0, []⟩ = some (.val v s) ∧ s.out = movL n 65 67 66 ∧ s.tk ≤ 200000 ∧ s.out.length ≤ 65536 := by
  obtain ⟨inp, hinp⟩ : ∃ inp, inp = askL [n] := ⟨_, rfl⟩
  have d0 := drop_ask n []
  rw [← hinp] at d0 ⊢
  obtain ⟨t1, h1, k1⟩ := num_read (inp := inp) (bd := hanBd) (k := 0) rfl (show n < 18446744073709551616 by omega) d0 3 [] (cl := 1) (by omega) []
  generalize min (0 + ((digs n).length + 1)) inp.length = rd1 at *
  rw [Nat.zero_min] at h1
  obtain ⟨t2, h2, k2⟩ := han_run (inp := inp) rd1 [] n 65 67 66 1 (t1 + 3) [] (by omega) (by omega) (by omega) (by omega) (by omega)
  have q : XQ inp hanBd hanM ⟨0, [], 0, 1, []⟩ ⟨[], 0⟩ (.go 1 ⟨t2 + 2, [] ++ movL n 65 67 66, rd1, 1, []⟩ ⟨[], 0⟩) := (XQ.cons (XS.ex (X.call (XA.conss (X.call (XA.nil _) h1) (c_q_i (by omega)) (XA.conss (X.num _) (c_i_i (by omega)) (XA.conss (X.num _) (c_i_i (by omega)) (XA.conss (X.num _) (c_i_i (by omega)) (XA.nil _))))) h2)) (XQ.stop (XS.rets (X.num _) (c_i_i (by omega))) (by decide)))
  have hl := movL_len n 65 67 66
  have hp : 2 ^ n ≤ 2 ^ 9 := Nat.pow_le_pow_right (by decide) hn
  exact means_le (XF.runs (k := 2) rfl (by omega) q) (by omega) (by omega)
end
end Go.Proofs.YtgmmfjmdpbhjnaaGreat
