/-
  Texts joined: CntP DecP ByP.
-/
import Derived.Test.YtgmmfjmdpbhjnaaGreatJPa
/-
  Loops whose rounds are counted.
-/
namespace Go.Proofs.YtgmmfjmdpbhjnaaGreat

section
variable {inp : List Nat} {bd : List (List Sm × Nat)}
/-- round and round N times: what is told, read and kept is known ahead of each round (R), and behind the question (Q) -/
theorem XW.count {C : Ex} {B : List Sm} {N K c r cl : Nat} {O : Nat → List Nat} {R Q : Nat → Nat} {G : Nat → List (List Nat)} {Fs : Nat → List Nat}
    (hc : ∀ i, i ≤ N → ∀ tk, ∃ v tk', X inp bd C (Ms.tick ⟨tk, O i, R i, cl, G i⟩) (Fs i) (.val v ⟨tk', O i, Q i, cl, G i⟩) ∧ tk' ≤ tk + c ∧ (v ≠ 0 ↔ i < N))
    (hb : ∀ i, i < N → ∀ tk, ∃ tk', XQ inp bd B ⟨tk, O i, Q i, cl, G i⟩ ⟨Fs i, r⟩ (.go 0 ⟨tk', O (i + 1), R (i + 1), cl, G (i + 1)⟩ ⟨Fs (i + 1), r⟩) ∧ tk' ≤ tk + K) (tk : Nat) :
    ∃ tk', XW inp bd C B ⟨tk, O 0, R 0, cl, G 0⟩ ⟨Fs 0, r⟩ (.go 0 ⟨tk', O N, Q N, cl, G N⟩ ⟨Fs N, r⟩) ∧ tk' ≤ tk + (K + c) * N + c := by
  have go : ∀ (j i tk : Nat), i + j = N → ∃ tk', XW inp bd C B ⟨tk, O i, R i, cl, G i⟩ ⟨Fs i, r⟩ (.go 0 ⟨tk', O N, Q N, cl, G N⟩ ⟨Fs N, r⟩) ∧ tk' ≤ tk + (K + c) * j + c := by
    intro j
    induction j with
    | zero =>
      intro i tk hi
      obtain rfl : i = N := by omega
      obtain ⟨v, tk', h1, h2, h3⟩ := hc i (Nat.le_refl i) tk
      have hv : v = 0 := by
        by_cases h : v = 0
        · exact h
        · exact absurd (h3.1 h) (by omega)
      subst hv
      exact ⟨tk', XW.done h1, by omega⟩
    | succ j ih =>
      intro i tk hi
      obtain ⟨v, t1, h1, h2, h3⟩ := hc i (by omega) tk
      obtain ⟨t2, h4, h5⟩ := hb i (by omega) t1
      obtain ⟨t3, h6, h7⟩ := ih (i + 1) t2 (by omega)
      exact ⟨t3, XW.step h1 (h3.2 (by omega)) h4 (.inl rfl) h6, by rw [Nat.mul_succ]; omega⟩
  obtain ⟨t, h1, h2⟩ := go N 0 tk (by omega)
  exact ⟨t, h1, h2⟩
/-- the same with a step behind each round -/
theorem XL.count {C : Ex} {B S : List Sm} {N K c r cl : Nat} {O : Nat → List Nat} {R Q : Nat → Nat} {G : Nat → List (List Nat)} {Fs : Nat → List Nat}
    (hc : ∀ i, i ≤ N → ∀ tk, ∃ v tk', X inp bd C (Ms.tick ⟨tk, O i, R i, cl, G i⟩) (Fs i) (.val v ⟨tk', O i, Q i, cl, G i⟩) ∧ tk' ≤ tk + c ∧ (v ≠ 0 ↔ i < N))
    (hb : ∀ i, i < N → ∀ tk, ∃ h s2 F2 tk', XQ inp bd B ⟨tk, O i, Q i, cl, G i⟩ ⟨Fs i, r⟩ (.go h s2 F2) ∧ (h = 0 ∨ h = 3) ∧ XQ inp bd S s2 F2 (.go 0 ⟨tk', O (i + 1), R (i + 1), cl, G (i + 1)⟩ ⟨Fs (i + 1), r⟩) ∧ tk' ≤ tk + K) (tk : Nat) :
    ∃ tk', XL inp bd C B S ⟨tk, O 0, R 0, cl, G 0⟩ ⟨Fs 0, r⟩ (.go 0 ⟨tk', O N, Q N, cl, G N⟩ ⟨Fs N, r⟩) ∧ tk' ≤ tk + (K + c) * N + c := by
  have go : ∀ (j i tk : Nat), i + j = N → ∃ tk', XL inp bd C B S ⟨tk, O i, R i, cl, G i⟩ ⟨Fs i, r⟩ (.go 0 ⟨tk', O N, Q N, cl, G N⟩ ⟨Fs N, r⟩) ∧ tk' ≤ tk + (K + c) * j + c := by
    intro j
    induction j with
    | zero =>
      intro i tk hi
      obtain rfl : i = N := by omega
      obtain ⟨v, tk', h1, h2, h3⟩ := hc i (Nat.le_refl i) tk
      have hv : v = 0 := by
        by_cases h : v = 0
        · exact h
        · exact absurd (h3.1 h) (by omega)
      subst hv
      exact ⟨tk', XL.done h1, by omega⟩
    | succ j ih =>
      intro i tk hi
      obtain ⟨v, t1, h1, h2, h3⟩ := hc i (by omega) tk
      obtain ⟨h, s2, F2, t2, h4, h5, h6, h7⟩ := hb i (by omega) t1
      obtain ⟨t3, h8, h9⟩ := ih (i + 1) t2 (by omega)
      exact ⟨t3, XL.step h1 (h3.2 (by omega)) h4 h5 h6 h8, by rw [Nat.mul_succ]; omega⟩
  obtain ⟨t, h1, h2⟩ := go N 0 tk (by omega)
  exact ⟨t, h1, h2⟩
/-- is there a byte? the question of most loops -/
theorem ge0_val {x : Nat} (hx : isCh x) : ∃ v, binN 19 x 0 intT intT = some v ∧ (v ≠ 0 ↔ x ≠ 65535) := by
  refine ⟨_, ge0_ch hx, ?_⟩
  by_cases h : x = 65535
  · simp [h]
  · simp [h]
theorem cur_ne {inp : List Nat} (hb : ∀ v ∈ inp, v < 256) {i : Nat} : curC inp i ≠ 65535 ↔ i < inp.length := by
  constructor
  · intro h
    by_cases hi : i < inp.length
    · exact hi
    · exact absurd (cur_end (by omega)) h
  · intro hi h
    have := (cur_lt hb hi).2
    omega
/-- what a row of bytes comes to, byte by byte -/
def foldC {α : Type} (f : α → Nat → α) (a : α) (inp : List Nat) (i : Nat) : α := (inp.take i).foldl f a
theorem foldC_zero {α : Type} (f : α → Nat → α) (a : α) (inp : List Nat) : foldC f a inp 0 = a := by simp [foldC]
theorem foldC_succ {α : Type} (f : α → Nat → α) (a : α) {inp : List Nat} {i : Nat} (hi : i < inp.length) : foldC f a inp (i + 1) = f (foldC f a inp i) (curC inp i) := by
  have h : inp[i]? = some (curC inp i) := by
    unfold curC
    rw [List.getElem?_eq_getElem hi]; rfl
  unfold foldC
  rw [List.take_add_one, h, List.foldl_append]
  rfl
theorem foldC_all {α : Type} (f : α → Nat → α) (a : α) (inp : List Nat) : foldC f a inp inp.length = inp.foldl f a := by unfold foldC; rw [List.take_of_length_le (Nat.le_refl _)]
end
end Go.Proofs.YtgmmfjmdpbhjnaaGreat

/-
  What dec means, plainly: it tells a number's digits, and a line feed.
-/
namespace Go.Proofs.YtgmmfjmdpbhjnaaGreat

/-- a number's digits, as bytes -/
def digs (n : Nat) : List Nat := if h : n < 10 then [n + 48] else digs (n / 10) ++ [n % 10 + 48]
termination_by n
decreasing_by omega
theorem digs_lt {n : Nat} (h : n < 10) : digs n = [n + 48] := by rw [digs, dif_pos h]
theorem digs_ge {n : Nat} (h : 9 < n) : digs n = digs (n / 10) ++ [n % 10 + 48] := by rw [digs, dif_neg (by omega)]
theorem digs_dig : ∀ (m n : Nat), n ≤ m → ∀ x ∈ digs n, 48 ≤ x ∧ x ≤ 57
  | m, n, hm, x, hx => by
    by_cases h : n < 10
    · rw [digs_lt h] at hx
      have : x = n + 48 := by simpa using hx
      omega
    · rw [digs_ge (by omega)] at hx
      rcases List.mem_append.1 hx with hx | hx
      · cases m with
        | zero => omega
        | succ m => exact digs_dig m (n / 10) (by omega) x hx
      · have : x = n % 10 + 48 := by simpa using hx
        omega
theorem digs_len : ∀ (m n : Nat), n < 10 ^ (m + 1) → 1 ≤ (digs n).length ∧ (digs n).length ≤ m + 1
  | 0, n, h => by rw [digs_lt (by omega)]; simp
  | m + 1, n, h => by
    by_cases hn : n < 10
    · rw [digs_lt hn]; simp
    · have := digs_len m (n / 10) (by rw [Nat.pow_succ] at h; omega)
      rw [digs_ge (by omega), List.length_append]
      simp
      omega

def decC : Ex := .bin 18 (.loc 0) (.num 9) u64T uintT
def decW : List Sm := [.seta 0 20 (.loc 1) intT (.bin 12 (.bin 11 (.loc 0) (.num 10) u64T uintT) (.num 48) u64T uintT) u64T u8T, .setl 0 (.bin 10 (.loc 0) (.num 10) u64T uintT) u64T u64T, .setl 1 (.bin 12 (.loc 1) (.num 1) intT intT) intT intT]
def decD : Ex := .bin 19 (.loc 1) (.num 0) intT intT
def decV : List Sm := [.ex (.put (.elt 0 20 (.loc 1) intT) u8T), .setl 1 (.bin 13 (.loc 1) (.num 1) intT intT) intT intT]
def decI : Sm := .setl 1 (.num 0) intT intT
def decS : Sm := .seta 0 20 (.loc 1) intT (.bin 12 (.loc 0) (.num 48) u64T uintT) u64T u8T
def decN : Sm := .ex (.put (.num 10) intT)
def decB : List Sm := [decI, .whl decC decW, decS, .whl decD decV, decN]

section
variable {inp : List Nat} {bd : List (List Sm × Nat)}
theorem dec_step {n k : Nat} (hn : n < 18446744073709551616) (hk : k < 19) (tk : Nat) (out : List Nat) (rd cl : Nat) (b : List Nat) (gs : List (List Nat)) (r : Nat) :
    XQ inp bd decW ⟨tk, out, rd, cl, b :: gs⟩ ⟨[n, k], r⟩ (.go 0 ⟨tk + 15, out, rd, cl, b.set k (n % 10 + 48) :: gs⟩ ⟨[n / 10, k + 1], r⟩) := (XQ.cons (XS.setas (X.loc rfl) (c_i_h (by omega)) (by omega) (X.bin (X.bin (X.loc rfl) (X.num _) (b11_q_h (by omega) (by omega) (by omega))) (X.num _) (b12_q_h_n (by omega) (by omega) (by omega))) (c_q_b (by omega))) (XQ.cons (XS.setls (X.bin (X.loc rfl) (X.num _) (b10_q_h (by omega) (by omega) (by omega))) (c_q_q (by omega)) (of_decide_eq_true rfl)) (XQ.cons (XS.setls (X.bin (X.loc rfl) (X.num _) (b12_i_i_n (by omega) (by omega) (by omega))) (c_i_i (by omega)) (of_decide_eq_true rfl)) XQ.nil)))
theorem dec_go {n k : Nat} (hn : n < 18446744073709551616) (h : 9 < n) (tk : Nat) (out : List Nat) (rd cl : Nat) (gl : List (List Nat)) :
    X inp bd decC (Ms.tick ⟨tk, out, rd, cl, gl⟩) [n, k] (.val 1 ⟨tk + 1 + 3, out, rd, cl, gl⟩) := (X.bin (X.loc rfl) (X.num _) (b18_q_h_t (by omega) (by omega) (by omega)))
theorem dec_end {n k : Nat} (h : n ≤ 9) (tk : Nat) (out : List Nat) (rd cl : Nat) (gl : List (List Nat)) :
    X inp bd decC (Ms.tick ⟨tk, out, rd, cl, gl⟩) [n, k] (.val 0 ⟨tk + 1 + 3, out, rd, cl, gl⟩) := (X.bin (X.loc rfl) (X.num _) (b18_q_h_f (by omega) (by omega) (by omega)))
theorem take_set {b : List Nat} {k v : Nat} (hk : k < b.length) : (b.set k v).take (k + 1) = b.take k ++ [v] := by
  rw [List.take_add_one, List.take_set_of_le (Nat.le_refl k), List.getElem?_set_self hk]
  rfl
theorem dec_low : ∀ (m n k tk : Nat) (out : List Nat) (rd cl : Nat) (b : List Nat) (gs : List (List Nat)) (r : Nat), n < 10 ^ (m + 1) → n < 18446744073709551616 → k + m ≤ 19 → b.length = 20 → (∀ x ∈ b.take k, x < 256) →
    ∃ n' k' b' tk', XW inp bd decC decW ⟨tk, out, rd, cl, b :: gs⟩ ⟨[n, k], r⟩ (.go 0 ⟨tk', out, rd, cl, b' :: gs⟩ ⟨[n', k'], r⟩) ∧ n' < 10 ∧ k' ≤ 19 ∧ b'.length = 20 ∧ (∀ x ∈ b'.take k', x < 256) ∧
      (n' + 48) :: (b'.take k').reverse = digs n ++ (b.take k).reverse ∧ tk' ≤ tk + 30 * (m + 1)
  | m, n, k, tk, out, rd, cl, b, gs, r, h1, h2, h3, h4, h5 => by
    by_cases hn : n ≤ 9
    · refine ⟨n, k, b, _, XW.done (dec_end hn tk out rd cl (b :: gs)), by omega, by omega, h4, h5, by rw [digs_lt (by omega)]; rfl, by omega⟩
    · cases m with
      | zero => omega
      | succ m =>
        obtain ⟨n', k', b', tk', e1, e2, e3, e4, e5, e6, e7⟩ := dec_low m (n / 10) (k + 1) (tk + 1 + 3 + 15) out rd cl (b.set k (n % 10 + 48)) gs r (by rw [Nat.pow_succ] at h1; omega) (by omega) (by omega) (by rw [List.length_set]; exact h4) (by
          rw [take_set (by omega)]
          intro x hx
          rcases List.mem_append.1 hx with hx | hx
          · exact h5 x hx
          · have : x = n % 10 + 48 := by simpa using hx
            omega)
        refine ⟨n', k', b', tk', XW.step (dec_go h2 (by omega) tk out rd cl (b :: gs)) (by decide) (dec_step h2 (by omega) _ out rd cl b gs r) (.inl rfl) e1, e2, e3, e4, e5, ?_, by omega⟩
        rw [e6, take_set (by omega), digs_ge (n := n) (by omega)]
        simp
/-- a number's place, one more: nought stands for none -/
def code (j : Nat) : Nat := (j + 65535) % 65536
theorem dec_high {b : List Nat} (hb : b.length = 20) (gs : List (List Nat)) (rd cl n r : Nat) : ∀ (j tk : Nat) (out : List Nat), j ≤ 20 → (∀ x ∈ b.take j, x < 256) →
    XW inp bd decD decV ⟨tk, out, rd, cl, b :: gs⟩ ⟨[n, code j], r⟩ (.go 0 ⟨tk + 12 * j + 4, out ++ (b.take j).reverse, rd, cl, b :: gs⟩ ⟨[n, 65535], r⟩)
  | 0, tk, out, _, _ => by
    have h : X inp bd decD (Ms.tick ⟨tk, out, rd, cl, b :: gs⟩) [n, 65535] (.val 0 ⟨tk + 12 * 0 + 4, out, rd, cl, b :: gs⟩) := (X.bin (X.loc rfl) (X.num _) (ge0_ch (.inr rfl)))
    rw [List.take_zero, List.reverse_nil, List.append_nil]
    exact XW.done h
  | j + 1, tk, out, hj, hv => by
    have hc : code (j + 1) = j := by unfold code; omega
    obtain ⟨v, he⟩ : ∃ v, b[j]? = some v := ⟨_, List.getElem?_eq_getElem (by omega)⟩
    have ht : b.take (j + 1) = b.take j ++ [v] := by rw [List.take_add_one, he]; rfl
    have hv256 : v < 256 := hv v (by rw [ht]; simp)
    rw [hc]
    have h1 : X inp bd decD (Ms.tick ⟨tk, out, rd, cl, b :: gs⟩) [n, j] (.val 1 ⟨tk + 4, out, rd, cl, b :: gs⟩) := (X.bin (X.loc rfl) (X.num _) (b19_i_i_t (by omega) (by omega) (by omega)))
    have h2 : XQ inp bd decV ⟨tk + 4, out, rd, cl, b :: gs⟩ ⟨[n, j], r⟩ (.go 0 ⟨tk + 12, out ++ [v], rd, cl, b :: gs⟩ ⟨[n, code j], r⟩) := (XQ.cons (XS.ex (X.puts (X.elt (X.loc rfl) (c_i_h (by omega)) (by omega) he) (p_b (by omega)))) (XQ.cons (XS.setls (X.bin (X.loc rfl) (X.num _) (b13_i_i_w (by omega) (by omega))) (c_i_i (by omega)) (of_decide_eq_true rfl)) XQ.nil))
    have ih := dec_high hb gs rd cl n r j (tk + 12) (out ++ [v]) (by omega) (fun x hx => hv x (by rw [ht]; simp [hx]))
    refine XW.step h1 (by decide) h2 (.inl rfl) ?_
    rw [ht, List.reverse_append, show tk + 12 * (j + 1) + 4 = tk + 12 + 12 * j + 4 by omega]
    simpa using ih
/-- What dec does. -/
theorem dec_means {k : Nat} (hk : bd[k]? = some (decB, 2)) {n : Nat} (hn : n < 18446744073709551616) (tk : Nat) (out : List Nat) (rd : Nat) {cl : Nat} (hcl : cl ≠ 60) {b : List Nat} (hb : b.length = 20) (gs : List (List Nat)) :
    ∃ tk' b', XF inp bd k [n] ⟨tk, out, rd, cl, b :: gs⟩ (.val 0 ⟨tk', out ++ (digs n ++ [10]), rd, cl, b' :: gs⟩) ∧ b'.length = 20 ∧ tk' ≤ tk + 1000 := by
  obtain ⟨n', k', b', tk', e1, e2, e3, e4, e5, e6, e7⟩ := dec_low (inp := inp) (bd := bd) 19 n 0 (tk + 3) out rd (cl + 1) b gs 0 (Nat.lt_of_lt_of_le hn (by decide)) hn (by omega) hb (by simp)
  have hl : (b'.set k' (n' + 48)).length = 20 := by rw [List.length_set]; exact e4
  have h3 := dec_high (inp := inp) (bd := bd) hl gs rd (cl + 1) n' 0 (k' + 1) (tk' + 5 + 1) out (by omega) (by
    rw [take_set (by omega)]
    intro x hx
    rcases List.mem_append.1 hx with hx | hx
    · exact e5 x hx
    · have : x = n' + 48 := by simpa using hx
      omega)
  have hc : code (k' + 1) = k' := by unfold code; omega
  rw [hc, take_set (by omega), List.reverse_append] at h3
  have e6' : [n' + 48].reverse ++ (b'.take k').reverse = digs n := by simpa using e6
  rw [e6'] at h3
  have h2 : XS inp bd decS ⟨tk', out, rd, cl + 1, b' :: gs⟩ ⟨[n', k'], 0⟩ (.go 0 ⟨tk' + 5, out, rd, cl + 1, b'.set k' (n' + 48) :: gs⟩ ⟨[n', k'], 0⟩) := (XS.setas (X.loc rfl) (c_i_h (by omega)) (by omega) (X.bin (X.loc rfl) (X.num _) (b12_q_h_n (by omega) (by omega) (by omega))) (c_q_b (by omega)))
  have q : XQ inp bd decB ⟨tk, out, rd, cl + 1, b :: gs⟩ ⟨[n, 0], 0⟩ (.go 0 ⟨tk' + 5 + 1 + 12 * (k' + 1) + 4 + 3, out ++ digs n ++ [10], rd, cl + 1, b'.set k' (n' + 48) :: gs⟩ ⟨[n', 65535], 0⟩) :=
    XQ.cons (XS.setls (X.num _) (c_i_i (by omega)) (of_decide_eq_true rfl)) (XQ.cons (XS.whl e1) (XQ.cons h2 (XQ.cons (XS.whl h3) (XQ.cons (XS.ex (X.puts (X.num _) (p_i (by omega)))) XQ.nil))))
  rw [List.append_assoc] at q
  exact ⟨_, _, XF.runs hk hcl q, hl, by omega⟩
end
end Go.Proofs.YtgmmfjmdpbhjnaaGreat

/-
  Programs that go through the bytes that come in; what they mean.
-/
namespace Go.Proofs.YtgmmfjmdpbhjnaaGreat

section
variable {inp : List Nat} {bd : List (List Sm × Nat)}
/-- while there is a byte: something is done, and the next one is got -/
theorem bytes_loop (hb : ∀ v ∈ inp, v < 256) {j K r cl : Nat} {B : List Sm} {O : Nat → List Nat} {G : Nat → List (List Nat)} {Fs Fb : Nat → List Nat} (hj : ∀ i, i ≤ inp.length → (Fs i)[j]? = some (curC inp i))
    (hB : ∀ i, i < inp.length → ∀ tk, ∃ tk', XQ inp bd B ⟨tk, O i, min (i + 1) inp.length, cl, G i⟩ ⟨Fs i, r⟩ (.go 0 ⟨tk', O (i + 1), min (i + 1) inp.length, cl, G (i + 1)⟩ ⟨Fb i, r⟩) ∧ tk' ≤ tk + K)
    (hF : ∀ i, i < inp.length → j < (Fb i).length ∧ (Fb i).set j (curC inp (i + 1)) = Fs (i + 1)) (tk : Nat) :
    ∃ tk', XW inp bd (.bin 19 (.loc j) (.num 0) intT intT) (B ++ [.setl j .get intT intT]) ⟨tk, O 0, min 1 inp.length, cl, G 0⟩ ⟨Fs 0, r⟩ (.go 0 ⟨tk', O inp.length, inp.length, cl, G inp.length⟩ ⟨Fs inp.length, r⟩) ∧ tk' ≤ tk + (K + 6) * inp.length + 4 := by
  have key := XW.count (inp := inp) (bd := bd) (C := .bin 19 (.loc j) (.num 0) intT intT) (B := B ++ [.setl j .get intT intT]) (N := inp.length) (K := K + 2) (c := 4) (r := r) (cl := cl) (O := O) (R := fun i => min (i + 1) inp.length) (Q := fun i => min (i + 1) inp.length) (G := G) (Fs := Fs)
    (fun i hi tk => by
      obtain ⟨v, h1, h2⟩ := ge0_val (cur_ch hb i)
      exact ⟨v, tk + 1 + 3, X.bin (X.loc (hj i hi)) (X.num _) h1, by omega, h2.trans (cur_ne hb)⟩)
    (fun i hi tk => by
      obtain ⟨tk', h1, h2⟩ := hB i hi tk
      obtain ⟨h3, h4⟩ := hF i hi
      have hc : curC inp (i + 1) < 65536 := by rcases cur_ch hb (i + 1) with h | h <;> omega
      have h5 := XS.setls (inp := inp) (bd := bd) (i := j) (s := ⟨tk', O (i + 1), min (i + 1) inp.length, cl, G (i + 1)⟩) (F := ⟨Fb i, r⟩) (X.gets (i := i + 1) rfl) (c_i_i hc) h3
      refine ⟨tk' + 2, XQ.app h1 ?_, by omega⟩
      have h6 := XQ.cons h5 XQ.nil
      rw [show (⟨Fb i, r⟩ : Fr).sl = Fb i from rfl, h4] at h6
      exact h6) tk
  obtain ⟨tk', h1, h2⟩ := key
  have e : min (inp.length + 1) inp.length = inp.length := Nat.min_eq_right (by omega)
  rw [e] at h1
  exact ⟨tk', h1, by rw [show K + 2 + 4 = K + 6 by omega] at h2; exact h2⟩
/-- what tells_ok wants -/
theorem means_of {k v : Nat} {tk : Nat} {out : List Nat} {rd cl : Nat} {gl0 gl : List (List Nat)} (h : XF inp bd k [] ⟨0, [], 0, 0, gl0⟩ (.val v ⟨tk, out, rd, cl, gl⟩)) {large : Prop} (hl : (200000 < tk ∨ 65536 < out.length) → large) :
    ∃ n v s, evF inp bd n k [] ⟨0, [], 0, 0, gl0⟩ = some (.val v s) ∧ s.out = out ∧ ((200000 < s.tk ∨ 65536 < s.out.length) → large) := by
  obtain ⟨n, h⟩ := h
  exact ⟨n, v, _, h, rfl, hl⟩

theorem line_len {n : Nat} (h : n < 18446744073709551616) : (digs n ++ [10]).length ≤ 21 := by
  have := (digs_len 19 n (Nat.lt_of_lt_of_le h (by decide))).2
  rw [List.length_append]
  simp
  omega
/-- a program that goes through the bytes, and tells a number -/
theorem fold_means (hb : ∀ v ∈ inp, v < 256) {I B M : List Sm} {E : Ex} {t : GTy} {j ns t0 K e n0 n : Nat} {Fs Fb : Nat → List Nat}
    (hM : M = I ++ [.whl (.bin 19 (.loc j) (.num 0) intT intT) (B ++ [.setl j .get intT intT]), .ex (.call 0 [(E, t, u64T)]), .ret (.num 0) intT intT])
    (hI : XQ inp [(decB, 2), (M, ns)] I ⟨0, [], 0, 1, [List.replicate 20 0]⟩ ⟨List.replicate ns 0, 0⟩ (.go 0 ⟨t0, [], min 1 inp.length, 1, [List.replicate 20 0]⟩ ⟨Fs 0, 0⟩))
    (hj : ∀ i, i ≤ inp.length → (Fs i)[j]? = some (curC inp i))
    (hB : ∀ i, i < inp.length → ∀ tk, ∃ tk', XQ inp [(decB, 2), (M, ns)] B ⟨tk, [], min (i + 1) inp.length, 1, [List.replicate 20 0]⟩ ⟨Fs i, 0⟩ (.go 0 ⟨tk', [], min (i + 1) inp.length, 1, [List.replicate 20 0]⟩ ⟨Fb i, 0⟩) ∧ tk' ≤ tk + K)
    (hF : ∀ i, i < inp.length → j < (Fb i).length ∧ (Fb i).set j (curC inp (i + 1)) = Fs (i + 1))
    (hE : ∀ s : Ms, X inp [(decB, 2), (M, ns)] E s (Fs inp.length) (.val n0 ⟨s.tk + e, s.out, s.rd, s.cl, s.gl⟩)) (hv : convN n0 t u64T = n) (hn : n < 18446744073709551616) (hK : inp.length ≤ 60 → t0 + 1 + (K + 6) * inp.length + 4 + 2 + e + 1000 + 2 ≤ 200000) :
    ∃ m v s, evF inp [(decB, 2), (M, ns)] m 1 [] ⟨0, [], 0, 0, [List.replicate 20 0]⟩ = some (.val v s) ∧ s.out = digs n ++ [10] ∧ ((200000 < s.tk ∨ 65536 < s.out.length) → 60 < inp.length) := by
  obtain ⟨tk1, h1, h2⟩ := bytes_loop (bd := [(decB, 2), (M, ns)]) hb (j := j) (K := K) (r := 0) (cl := 1) (B := B) (O := fun _ => []) (G := fun _ => [List.replicate 20 0]) (Fs := Fs) (Fb := Fb) hj hB hF (t0 + 1)
  obtain ⟨tk2, b', h3, h4, h5⟩ := dec_means (inp := inp) (bd := [(decB, 2), (M, ns)]) (k := 0) rfl hn (tk1 + 1 + 1 + e) [] inp.length (cl := 1) (by omega) (b := List.replicate 20 0) (by simp) []
  have hd : XS inp [(decB, 2), (M, ns)] (.ex (.call 0 [(E, t, u64T)])) ⟨tk1, [], inp.length, 1, [List.replicate 20 0]⟩ ⟨Fs inp.length, 0⟩ (.go 0 ⟨tk2, [] ++ (digs n ++ [10]), inp.length, 1, [b']⟩ ⟨Fs inp.length, 0⟩) := XS.ex (X.call (XA.conss (hE _) hv (XA.nil _)) h3)
  have q : XQ inp [(decB, 2), (M, ns)] M ⟨0, [], 0, 1, [List.replicate 20 0]⟩ ⟨List.replicate ns 0, 0⟩ (.go 1 ⟨tk2 + 2, [] ++ (digs n ++ [10]), inp.length, 1, [b']⟩ ⟨Fs inp.length, 0⟩) := by
    rw [hM] at hI h1 hd ⊢
    exact XQ.app hI (XQ.cons (XS.whl h1) (XQ.cons hd (XQ.stop (XS.rets (X.num _) (c_i_i (by omega))) (by decide))))
  have hlen := line_len hn
  have hz : (List.replicate ns 0 : List Nat) = ([] ++ List.replicate ns 0).take ns := by simp
  rw [hz] at q
  exact means_of (XF.runs (k := 1) rfl (by omega) q) (fun h => by
    by_cases hc : 60 < inp.length
    · exact hc
    · have := hK (by omega)
      rw [List.nil_append] at h
      rcases h with h | h <;> omega)

/-! ### count -/
def couC : Ex := .bin 19 .get (.num 0) intT intT
def couW : List Sm := [.setl 0 (.bin 12 (.loc 0) (.num 1) u32T uintT) u32T u32T]
def couI : Sm := .setl 0 (.num 0) uintT u32T
def couD : Sm := .ex (.call 0 [(.loc 0, u32T, u64T)])
def couM : List Sm := [couI, .whl couC couW, couD, .ret (.num 0) intT intT]
def couBd : List (List Sm × Nat) := [(decB, 2), (couM, 1)]
theorem count_means (hb : ∀ v ∈ inp, v < 256) (hl : inp.length ≤ 65536) : ∃ n v s, evF inp couBd n 1 [] ⟨0, [], 0, 0, [List.replicate 20 0]⟩ = some (.val v s) ∧ s.out = digs inp.length ++ [10] ∧ ((200000 < s.tk ∨ 65536 < s.out.length) → 60 < inp.length) := by
  obtain ⟨tk1, h1, h2⟩ := XW.count (inp := inp) (bd := couBd) (C := couC) (B := couW) (N := inp.length) (K := 5) (c := 4) (r := 0) (cl := 1) (O := fun _ => []) (R := fun i => min i inp.length) (Q := fun i => min (i + 1) inp.length) (G := fun _ => [List.replicate 20 0]) (Fs := fun i => [i])
    (fun i hi tk => by
      obtain ⟨v, h1, h2⟩ := ge0_val (cur_ch hb i)
      exact ⟨v, tk + 1 + 3, X.bin (X.gets rfl) (X.num _) h1, by omega, h2.trans (cur_ne hb)⟩)
    (fun i hi tk => ⟨tk + 4, (XQ.cons (XS.setls (X.bin (X.loc rfl) (X.num _) (b12_w_h_n (by omega) (by omega) (by omega))) (c_w_w (by omega)) (of_decide_eq_true rfl)) XQ.nil), by omega⟩) 3
  rw [show min (inp.length + 1) inp.length = inp.length from Nat.min_eq_right (by omega)] at h1
  obtain ⟨tk2, b', h3, h4, h5⟩ := dec_means (inp := inp) (bd := couBd) (k := 0) rfl (n := inp.length) (by omega) (tk1 + 3) [] inp.length (cl := 1) (by omega) (b := List.replicate 20 0) (by simp) []
  have hd : XS inp couBd couD ⟨tk1, [], inp.length, 1, [List.replicate 20 0]⟩ ⟨[inp.length], 0⟩ (.go 0 ⟨tk2, [] ++ (digs inp.length ++ [10]), inp.length, 1, [b']⟩ ⟨[inp.length], 0⟩) := (XS.ex (X.call (XA.conss (X.loc rfl) (c_w_q (by omega)) (XA.nil _)) h3))
  have hi : XS inp couBd couI ⟨0, [], 0, 1, [List.replicate 20 0]⟩ ⟨[0], 0⟩ (.go 0 ⟨2, [], 0, 1, [List.replicate 20 0]⟩ ⟨[0], 0⟩) := (XS.setls (X.num _) (c_h_w (by omega)) (of_decide_eq_true rfl))
  rw [show min 0 inp.length = 0 from Nat.zero_min _] at h1
  have q : XQ inp couBd couM ⟨0, [], 0, 1, [List.replicate 20 0]⟩ ⟨[0], 0⟩ (.go 1 ⟨tk2 + 2, [] ++ (digs inp.length ++ [10]), inp.length, 1, [b']⟩ ⟨[inp.length], 0⟩) :=
    XQ.cons hi (XQ.cons (XS.whl h1) (XQ.cons hd (XQ.stop (XS.rets (X.num _) (c_i_i (by omega))) (by decide))))
  have hlen := line_len (n := inp.length) (by omega)
  exact means_of (XF.runs (k := 1) rfl (by omega) q) (fun h => by omega)
end
end Go.Proofs.YtgmmfjmdpbhjnaaGreat
