/-
  What binary and collatz mean, plainly.
-/
import Derived.Test.YtgmmfjmdpbhjnaaGreatLNuS
import Derived.Test.YtgmmfjmdpbhjnaaGreatJPc
namespace Go.Proofs.YtgmmfjmdpbhjnaaGreat

section
variable {inp : List Nat} {bd : List (List Sm × Nat)}

/-! ### binary -/
theorem and_pow (n i : Nat) : n &&& 2 ^ i = if n / 2 ^ i % 2 = 1 then 2 ^ i else 0 := by
  apply Nat.eq_of_testBit_eq
  intro k
  rw [Nat.testBit_and, Nat.testBit_two_pow]
  by_cases h : i = k
  · subst h
    by_cases hb : n / 2 ^ i % 2 = 1
    · rw [if_pos hb, Nat.testBit_two_pow]
      simp [Nat.testBit_eq_decide_div_mod_eq, hb]
    · rw [if_neg hb]
      simp [Nat.testBit_eq_decide_div_mod_eq, hb]
  · split
    · rw [Nat.testBit_two_pow]; simp [h]
    · simp [h]
def by2I : List Sm := [.setl 0 (.call 0 []) u64T u64T, .setl 1 (.num 9223372036854775808) u64T u64T]
def by2C : Ex := .either false (.bin 18 (.loc 1) (.num 1) u64T uintT) (.bin 20 (.bin 22 (.loc 0) (.loc 1) u64T u64T) (.num 0) u64T uintT)
def by2W : List Sm := [.setl 1 (.bin 15 (.loc 1) (.num 1) u64T intT) u64T u64T]
def by2D : Ex := .bin 21 (.loc 1) (.num 0) u64T uintT
def by2V : List Sm := [.ex (.put (.bin 12 (.num 48) (.bin 21 (.bin 22 (.loc 0) (.loc 1) u64T u64T) (.num 0) u64T uintT) intT intT) intT), .setl 1 (.bin 15 (.loc 1) (.num 1) u64T intT) u64T u64T]
def by2E : List Sm := [.ex (.put (.num 10) intT), .ret (.num 0) intT intT]
def by2M : List Sm := by2I ++ (.whl by2C by2W :: .whl by2D by2V :: by2E)
def by2Bd : List (List Sm × Nat) := [(numB, 2), (by2M, 2)]
theorem by2_find {n : Nat} (hn : n < 18446744073709551616) (out : List Nat) (rd cl : Nat) (gl : List (List Nat)) (r : Nat) : ∀ (j tk b : Nat), b = 2 ^ j → b < 18446744073709551616 → n < 2 * b →
    ∃ i b' tk', b' = 2 ^ i ∧ XW inp bd by2C by2W ⟨tk, out, rd, cl, gl⟩ ⟨[n, b], r⟩ (.go 0 ⟨tk', out, rd, cl, gl⟩ ⟨[n, b'], r⟩) ∧ i ≤ j ∧ b' ≤ b ∧ n < 2 * b' ∧ (i = 0 ∨ b' ≤ n) ∧ tk' ≤ tk + 20 * j + 14
  | 0, tk, b, hb, hb64, h => by
    obtain rfl : b = 1 := hb
    have hx : X inp bd by2C (Ms.tick ⟨tk, out, rd, cl, gl⟩) [n, 1] (.val 0 ⟨tk + 1 + 4, out, rd, cl, gl⟩) := (X.stop (X.bin (X.loc rfl) (X.num _) (b18_q_h_f (by omega) (by omega) (by omega))) (by decide))
    exact ⟨0, 1, _, rfl, XW.done hx, Nat.le_refl _, Nat.le_refl _, h, .inl rfl, by omega⟩
  | j + 1, tk, b, hb, hb64, h => by
    have hj : 2 ^ (j + 1) = 2 * 2 ^ j := Nat.pow_succ'
    have hp : 0 < 2 ^ j := Nat.pow_pos (by decide)
    have hb1 : 1 < b := by omega
    by_cases hle : b ≤ n
    · have hd : n / b = 1 := by
        rw [Nat.div_eq_iff (by omega)]
        omega
      have hz : binN 22 n b u64T u64T = some b := by
        rw [b22_q_q hn hb64]
        congr 1
        rw [hb, and_pow, ← hb, hd, if_pos rfl]
      have hx : X inp bd by2C (Ms.tick ⟨tk, out, rd, cl, gl⟩) [n, b] (.val 0 ⟨tk + 1 + 9, out, rd, cl, gl⟩) := (X.both (X.bin (X.loc rfl) (X.num _) (b18_q_h_t (by omega) (by omega) (by omega))) (by decide) (X.bin (X.bin (X.loc rfl) (X.loc rfl) hz) (X.num _) (b20_q_h_f (by omega) (by omega) (by omega))))
      exact ⟨j + 1, b, _, hb, XW.done hx, Nat.le_refl _, Nat.le_refl _, h, .inr hle, by omega⟩
    · have hd : n / b = 0 := Nat.div_eq_of_lt (by omega)
      have hz : binN 22 n b u64T u64T = some 0 := by
        rw [b22_q_q hn hb64]
        congr 1
        rw [hb, and_pow, ← hb, hd, if_neg (by omega)]
      have hx : X inp bd by2C (Ms.tick ⟨tk, out, rd, cl, gl⟩) [n, b] (.val 1 ⟨tk + 1 + 9, out, rd, cl, gl⟩) := (X.both (X.bin (X.loc rfl) (X.num _) (b18_q_h_t (by omega) (by omega) (by omega))) (by decide) (X.bin (X.bin (X.loc rfl) (X.loc rfl) hz) (X.num _) (b20_q_h_t (by omega) (by omega) (by omega))))
      have hw : XQ inp bd by2W ⟨tk + 1 + 9, out, rd, cl, gl⟩ ⟨[n, b], r⟩ (.go 0 ⟨tk + 1 + 9 + 4, out, rd, cl, gl⟩ ⟨[n, b / 2 ^ 1], r⟩) := (XQ.cons (XS.setls (X.bin (X.loc rfl) (X.num _) (b15_q_i (by omega) (by omega) (by omega))) (c_q_q (by omega)) (of_decide_eq_true rfl)) XQ.nil)
      obtain ⟨i, b', tk', h1, h2, h3, h4, h5, h6, h7⟩ := by2_find hn out rd cl gl r j (tk + 1 + 9 + 4) (b / 2 ^ 1) (by omega) (by omega) (by omega)
      exact ⟨i, b', tk', h1, XW.step hx (by decide) hw (.inl rfl) h2, by omega, by omega, h5, h6, by omega⟩
/-- the lowest bits, the highest of them first -/
def bitsL (n : Nat) : Nat → List Nat
  | 0 => []
  | i + 1 => (n / 2 ^ i % 2 + 48) :: bitsL n i
theorem bitsL_len (n : Nat) : ∀ i, (bitsL n i).length = i
  | 0 => rfl
  | i + 1 => congrArg (· + 1) (bitsL_len n i)
theorem bitsL_lt (n : Nat) : ∀ i, ∀ x ∈ bitsL n i, x < 256
  | 0, x, h => by cases h
  | i + 1, x, h => by
    rcases List.mem_cons.1 h with h | h
    · subst h; omega
    · exact bitsL_lt n i x h
theorem by2_tell {n : Nat} (hn : n < 18446744073709551616) (rd cl : Nat) (gl : List (List Nat)) (r : Nat) : ∀ (i tk b : Nat) (out : List Nat), b = 2 ^ i → b < 18446744073709551616 →
    ∃ tk', XW inp bd by2D by2V ⟨tk, out, rd, cl, gl⟩ ⟨[n, b], r⟩ (.go 0 ⟨tk', out ++ bitsL n (i + 1), rd, cl, gl⟩ ⟨[n, 0], r⟩) ∧ tk' ≤ tk + 30 * (i + 1) + 6 := by
  have done : ∀ (tk : Nat) (out : List Nat), X inp bd by2D (Ms.tick ⟨tk, out, rd, cl, gl⟩) [n, 0] (.val 0 ⟨tk + 1 + 3, out, rd, cl, gl⟩) := fun tk out => (X.bin (X.loc rfl) (X.num _) (b21_q_h_f (by omega) (by omega) (by omega)))
  have step : ∀ (i tk b : Nat) (out : List Nat), b = 2 ^ i → b < 18446744073709551616 → X inp bd by2D (Ms.tick ⟨tk, out, rd, cl, gl⟩) [n, b] (.val 1 ⟨tk + 1 + 3, out, rd, cl, gl⟩) ∧
      XQ inp bd by2V ⟨tk + 1 + 3, out, rd, cl, gl⟩ ⟨[n, b], r⟩ (.go 0 ⟨tk + 1 + 3 + 13, out ++ [n / 2 ^ i % 2 + 48], rd, cl, gl⟩ ⟨[n, b / 2 ^ 1], r⟩) := fun i tk b out hb hb64 => by
    have h0 : 0 < b := by rw [hb]; exact Nat.pow_pos (by decide)
    refine ⟨(X.bin (X.loc rfl) (X.num _) (b21_q_h_t (by omega) (by omega) (by omega))), ?_⟩
    by_cases h1 : n / 2 ^ i % 2 = 1
    · have hz : binN 22 n b u64T u64T = some b := by
        rw [b22_q_q hn hb64]
        congr 1
        rw [hb, and_pow, if_pos h1]
      rw [h1]
      exact (XQ.cons (XS.ex (X.puts (X.bin (X.num _) (X.bin (X.bin (X.loc rfl) (X.loc rfl) hz) (X.num _) (b21_q_h_t (by omega) (by omega) (by omega))) (b12_i_i_n (by omega) (by omega) (by omega))) (p_i (by omega)))) (XQ.cons (XS.setls (X.bin (X.loc rfl) (X.num _) (b15_q_i (by omega) (by omega) (by omega))) (c_q_q (by omega)) (of_decide_eq_true rfl)) XQ.nil))
    · have hz : binN 22 n b u64T u64T = some 0 := by
        rw [b22_q_q hn hb64]
        congr 1
        rw [hb, and_pow, if_neg h1]
      have h1 : n / 2 ^ i % 2 = 0 := by omega
      rw [h1]
      exact (XQ.cons (XS.ex (X.puts (X.bin (X.num _) (X.bin (X.bin (X.loc rfl) (X.loc rfl) hz) (X.num _) (b21_q_h_f (by omega) (by omega) (by omega))) (b12_i_i_n (by omega) (by omega) (by omega))) (p_i (by omega)))) (XQ.cons (XS.setls (X.bin (X.loc rfl) (X.num _) (b15_q_i (by omega) (by omega) (by omega))) (c_q_q (by omega)) (of_decide_eq_true rfl)) XQ.nil))
  intro i
  induction i with
  | zero =>
    intro tk b out hb hb64
    obtain ⟨h1, h2⟩ := step 0 tk b out hb hb64
    obtain rfl : b = 1 := hb
    exact ⟨_, XW.step h1 (by decide) h2 (.inl rfl) (XW.done (done _ _)), by omega⟩
  | succ i ih =>
    intro tk b out hb hb64
    obtain ⟨h1, h2⟩ := step (i + 1) tk b out hb hb64
    have hj : 2 ^ (i + 1) = 2 * 2 ^ i := Nat.pow_succ'
    obtain ⟨tk', h3, h4⟩ := ih (tk + 1 + 3 + 13) (b / 2 ^ 1) (out ++ [n / 2 ^ (i + 1) % 2 + 48]) (by omega) (by omega)
    refine ⟨tk', ?_, by omega⟩
    have e : out ++ [n / 2 ^ (i + 1) % 2 + 48] ++ bitsL n (i + 1) = out ++ bitsL n (i + 1 + 1) := by rw [List.append_assoc]; rfl
    rw [e] at h3
    exact XW.step h1 (by decide) h2 (.inl rfl) h3
theorem by2_means {n : Nat} (hn : n < 18446744073709551616) : ∃ j, j ≤ 63 ∧ n < 2 * 2 ^ j ∧ (j = 0 ∨ 2 ^ j ≤ n) ∧ ∃ m v s, evF (askL [n]) by2Bd m 1 [] ⟨0, [], 0, 0, []⟩ = some (.val v s) ∧ s.out = bitsL n (j + 1) ++ [10] ∧ s.tk ≤ 200000 ∧ s.out.length ≤ 65536 := by
  obtain ⟨inp, hinp⟩ : ∃ inp, inp = askL [n] := ⟨_, rfl⟩
  have d0 := drop_ask n []
  rw [← hinp] at d0 ⊢
  obtain ⟨t1, h1, k1⟩ := num_read (inp := inp) (bd := by2Bd) (k := 0) rfl hn d0 2 [] (cl := 1) (by omega) []
  generalize min (0 + ((digs n).length + 1)) inp.length = rd1 at *
  rw [Nat.zero_min] at h1
  obtain ⟨w, hw⟩ : ∃ w : Nat, w = 63 := ⟨_, rfl⟩
  obtain ⟨top, htop⟩ : ∃ top : Nat, top = 9223372036854775808 := ⟨_, rfl⟩
  have hb : top = 2 ^ w := by rw [hw, htop]
  obtain ⟨j, b, t2, e1, h2, e2, e3, e4, e5, k2⟩ := by2_find (inp := inp) (bd := by2Bd) hn [] rd1 1 [] 0 w (t1 + 2 + 1) top hb (by omega) (by omega)
  obtain ⟨t3, h3, k3⟩ := by2_tell (inp := inp) (bd := by2Bd) hn rd1 1 [] 0 j (t2 + 1) b [] e1 (by omega)
  clear hb
  subst htop
  have q : XQ inp by2Bd by2M ⟨0, [], 0, 1, []⟩ ⟨[0, 0], 0⟩ (.go 1 ⟨t3 + 3 + 2, [] ++ bitsL n (j + 1) ++ [10], rd1, 1, []⟩ ⟨[n, 0], 0⟩) :=
    XQ.app (s1 := ⟨t1 + 2, [], rd1, 1, []⟩) (F1 := ⟨[n, 9223372036854775808], 0⟩) (XQ.cons (XS.setls (X.call (XA.nil _) h1) (c_q_q (by omega)) (of_decide_eq_true rfl)) (XQ.cons (XS.setls (X.num _) (c_q_q (by omega)) (of_decide_eq_true rfl)) XQ.nil)) (XQ.cons (XS.whl h2) (XQ.cons (XS.whl h3) (XQ.cons (XS.ex (X.puts (X.num _) (p_i (by omega)))) (XQ.stop (XS.rets (X.num _) (c_i_i (by omega))) (by decide)))))
  have hl := bitsL_len n (j + 1)
  refine ⟨j, by omega, by rw [← e1]; exact e4, by rw [← e1]; exact e5, ?_⟩
  exact means_le (XF.runs (k := 1) rfl (by omega) q) (by omega) (by rw [List.length_append, hl]; simp; omega)

/-! ### collatz -/
def cz (m : Nat) : Nat := if m % 2 = 0 then m / 2 ^ 1 else m * 3 + 1
def czB (m : Nat) : Nat := cond (Nat.beq (Nat.mod m 2) 0) (Nat.div m 2) (Nat.add (Nat.mul m 3) 1)
theorem czB_eq (m : Nat) : czB m = cz m := by
  unfold cz
  by_cases h : m % 2 = 0
  · have e : Nat.beq (Nat.mod m 2) 0 = true := by show Nat.beq (m % 2) 0 = true; rw [h]; rfl
    rw [if_pos h]
    unfold czB
    rw [e]; rfl
  · have e : Nat.beq (Nat.mod m 2) 0 = false := by
      cases hb : Nat.beq (Nat.mod m 2) 0 with
      | false => rfl
      | true => exact absurd (Nat.eq_of_beq_eq_true hb) h
    rw [if_neg h]
    unfold czB
    rw [e]; rfl
def czI : Nat → Nat → Nat
  | 0, n => n
  | i + 1, n => cz (czI i n)
theorem czI_in : ∀ i n, czI (i + 1) n = czI i (cz n)
  | 0, _ => rfl
  | i + 1, n => congrArg cz (czI_in i n)
theorem czI_add : ∀ i k n, czI (i + k) n = czI i (czI k n)
  | 0, k, n => by rw [Nat.zero_add]; rfl
  | i + 1, k, n => by rw [show i + 1 + k = (i + k) + 1 by omega]; exact congrArg cz (czI_add i k n)
noncomputable def czFall (L : Nat) (f : Nat) : Nat → Bool :=
  Nat.rec (motive := fun _ => Nat → Bool) (fun m => cond (Nat.ble L m) false true) (fun _ ih m => cond (Nat.ble L m) (cond (Nat.ble m 1152921504606846976) (ih (czB m)) false) true) f
theorem fall_ok (L : Nat) : ∀ (f m : Nat), czFall L f m = true → ∃ k, k ≤ f ∧ czI k m < L ∧ ∀ i, i < k → L ≤ czI i m ∧ czI i m ≤ 1152921504606846976
  | 0, m, h => by
    replace h : cond (Nat.ble L m) false true = true := h
    cases hb : Nat.ble L m with
    | true => rw [hb] at h; cases h
    | false => exact ⟨0, Nat.le_refl _, Nat.lt_of_not_le (fun h => by rw [Nat.ble_eq_true_of_le (show L ≤ m from h)] at hb; cases hb), fun i hi => absurd hi (Nat.not_lt_zero i)⟩
  | f + 1, m, h => by
    replace h : cond (Nat.ble L m) (cond (Nat.ble m 1152921504606846976) (czFall L f (czB m)) false) true = true := h
    cases hb : Nat.ble L m with
    | false => exact ⟨0, Nat.zero_le _, Nat.lt_of_not_le (fun h => by rw [Nat.ble_eq_true_of_le (show L ≤ m from h)] at hb; cases hb), fun i hi => absurd hi (Nat.not_lt_zero i)⟩
    | true =>
      rw [hb] at h
      replace h : cond (Nat.ble m 1152921504606846976) (czFall L f (czB m)) false = true := h
      cases hc : Nat.ble m 1152921504606846976 with
      | false => rw [hc] at h; cases h
      | true =>
        rw [hc] at h
        replace h : czFall L f (czB m) = true := h
        rw [czB_eq] at h
        obtain ⟨k, k1, k2, k3⟩ := fall_ok L f (cz m) h
        refine ⟨k + 1, by omega, by rw [czI_in]; exact k2, fun i hi => ?_⟩
        cases i with
        | zero => exact ⟨Nat.le_of_ble_eq_true hb, Nat.le_of_ble_eq_true hc⟩
        | succ i => rw [czI_in]; exact k3 i (by omega)
noncomputable def czAll (L lo : Nat) (k : Nat) : Bool := Nat.rec (motive := fun _ => Bool) true (fun k ih => cond (czFall L 250 (Nat.add lo k)) ih false) k
theorem all_ok (L lo : Nat) : ∀ k, czAll L lo k = true → ∀ i, i < k → czFall L 250 (lo + i) = true
  | 0, _, i, hi => absurd hi (Nat.not_lt_zero i)
  | k + 1, h, i, hi => by
    replace h : cond (czFall L 250 (lo + k)) (czAll L lo k) false = true := h
    cases hb : czFall L 250 (lo + k) with
    | false => rw [hb] at h; cases h
    | true =>
      rw [hb] at h
      by_cases e : i = k
      · subst e; exact hb
      · exact all_ok L lo k h i (by omega)
theorem cz_1 : czAll 2 2 2 = true := by kernel_rfl
theorem cz_2 : czAll 4 4 4 = true := by kernel_rfl
theorem cz_3 : czAll 8 8 8 = true := by kernel_rfl
theorem cz_4 : czAll 16 16 16 = true := by kernel_rfl
theorem cz_5 : czAll 32 32 32 = true := by kernel_rfl
theorem cz_6 : czAll 64 64 64 = true := by kernel_rfl
theorem cz_7 : czAll 128 128 128 = true := by kernel_rfl
theorem cz_8 : czAll 256 256 256 = true := by kernel_rfl
theorem cz_9 : czAll 512 512 512 = true := by kernel_rfl
theorem cz_10 : czAll 1024 1024 1024 = true := by kernel_rfl
theorem cz_11 : czAll 2048 2048 2048 = true := by kernel_rfl
theorem cz_12 : czAll 4096 4096 4096 = true := by kernel_rfl
theorem cz_13 : czAll 8192 8192 8192 = true := by kernel_rfl
theorem cz_14 : czAll 16384 16384 16384 = true := by kernel_rfl
theorem cz_15 : czAll 32768 32768 32768 = true := by kernel_rfl
theorem cz_16 : czAll 65536 65536 34465 = true := by kernel_rfl
theorem cz_all {j n : Nat} (h1 : 1 ≤ j) (h2 : j ≤ 16) (hlo : 2 ^ j ≤ n) (hhi : n < 2 ^ (j + 1)) (hn : n ≤ 100000) : czFall (2 ^ j) 250 n = true := by
  have : j = 1 ∨ j = 2 ∨ j = 3 ∨ j = 4 ∨ j = 5 ∨ j = 6 ∨ j = 7 ∨ j = 8 ∨ j = 9 ∨ j = 10 ∨ j = 11 ∨ j = 12 ∨ j = 13 ∨ j = 14 ∨ j = 15 ∨ j = 16 := by omega
  rcases this with rfl | rfl | rfl | rfl | rfl | rfl | rfl | rfl | rfl | rfl | rfl | rfl | rfl | rfl | rfl | rfl
  · obtain ⟨i, rfl⟩ : ∃ i, n = 2 + i := ⟨n - 2, by simp only [Nat.reducePow] at hlo; omega⟩
    exact all_ok _ _ _ cz_1 i (by simp only [Nat.reducePow, Nat.reduceAdd] at hhi; omega)
  · obtain ⟨i, rfl⟩ : ∃ i, n = 4 + i := ⟨n - 4, by simp only [Nat.reducePow] at hlo; omega⟩
    exact all_ok _ _ _ cz_2 i (by simp only [Nat.reducePow, Nat.reduceAdd] at hhi; omega)
  · obtain ⟨i, rfl⟩ : ∃ i, n = 8 + i := ⟨n - 8, by simp only [Nat.reducePow] at hlo; omega⟩
    exact all_ok _ _ _ cz_3 i (by simp only [Nat.reducePow, Nat.reduceAdd] at hhi; omega)
  · obtain ⟨i, rfl⟩ : ∃ i, n = 16 + i := ⟨n - 16, by simp only [Nat.reducePow] at hlo; omega⟩
    exact all_ok _ _ _ cz_4 i (by simp only [Nat.reducePow, Nat.reduceAdd] at hhi; omega)
  · obtain ⟨i, rfl⟩ : ∃ i, n = 32 + i := ⟨n - 32, by simp only [Nat.reducePow] at hlo; omega⟩
    exact all_ok _ _ _ cz_5 i (by simp only [Nat.reducePow, Nat.reduceAdd] at hhi; omega)
  · obtain ⟨i, rfl⟩ : ∃ i, n = 64 + i := ⟨n - 64, by simp only [Nat.reducePow] at hlo; omega⟩
    exact all_ok _ _ _ cz_6 i (by simp only [Nat.reducePow, Nat.reduceAdd] at hhi; omega)
  · obtain ⟨i, rfl⟩ : ∃ i, n = 128 + i := ⟨n - 128, by simp only [Nat.reducePow] at hlo; omega⟩
    exact all_ok _ _ _ cz_7 i (by simp only [Nat.reducePow, Nat.reduceAdd] at hhi; omega)
  · obtain ⟨i, rfl⟩ : ∃ i, n = 256 + i := ⟨n - 256, by simp only [Nat.reducePow] at hlo; omega⟩
    exact all_ok _ _ _ cz_8 i (by simp only [Nat.reducePow, Nat.reduceAdd] at hhi; omega)
  · obtain ⟨i, rfl⟩ : ∃ i, n = 512 + i := ⟨n - 512, by simp only [Nat.reducePow] at hlo; omega⟩
    exact all_ok _ _ _ cz_9 i (by simp only [Nat.reducePow, Nat.reduceAdd] at hhi; omega)
  · obtain ⟨i, rfl⟩ : ∃ i, n = 1024 + i := ⟨n - 1024, by simp only [Nat.reducePow] at hlo; omega⟩
    exact all_ok _ _ _ cz_10 i (by simp only [Nat.reducePow, Nat.reduceAdd] at hhi; omega)
  · obtain ⟨i, rfl⟩ : ∃ i, n = 2048 + i := ⟨n - 2048, by simp only [Nat.reducePow] at hlo; omega⟩
    exact all_ok _ _ _ cz_11 i (by simp only [Nat.reducePow, Nat.reduceAdd] at hhi; omega)
  · obtain ⟨i, rfl⟩ : ∃ i, n = 4096 + i := ⟨n - 4096, by simp only [Nat.reducePow] at hlo; omega⟩
    exact all_ok _ _ _ cz_12 i (by simp only [Nat.reducePow, Nat.reduceAdd] at hhi; omega)
  · obtain ⟨i, rfl⟩ : ∃ i, n = 8192 + i := ⟨n - 8192, by simp only [Nat.reducePow] at hlo; omega⟩
    exact all_ok _ _ _ cz_13 i (by simp only [Nat.reducePow, Nat.reduceAdd] at hhi; omega)
  · obtain ⟨i, rfl⟩ : ∃ i, n = 16384 + i := ⟨n - 16384, by simp only [Nat.reducePow] at hlo; omega⟩
    exact all_ok _ _ _ cz_14 i (by simp only [Nat.reducePow, Nat.reduceAdd] at hhi; omega)
  · obtain ⟨i, rfl⟩ : ∃ i, n = 32768 + i := ⟨n - 32768, by simp only [Nat.reducePow] at hlo; omega⟩
    exact all_ok _ _ _ cz_15 i (by simp only [Nat.reducePow, Nat.reduceAdd] at hhi; omega)
  · obtain ⟨i, rfl⟩ : ∃ i, n = 65536 + i := ⟨n - 65536, by simp only [Nat.reducePow] at hlo; omega⟩
    exact all_ok _ _ _ cz_16 i (by simp only [Nat.reducePow, Nat.reduceAdd] at hhi; omega)
theorem cz_lvl : ∀ j n, n < 2 ^ (j + 1) → n ≤ 100000 → j ≤ 16 → ∃ K, K ≤ 250 * j ∧ czI K n ≤ 1 ∧ ∀ i, i < K → 1 < czI i n ∧ czI i n ≤ 1152921504606846976
  | 0, n, h, _, _ => ⟨0, Nat.le_refl _, by show n ≤ 1; omega, fun i hi => absurd hi (Nat.not_lt_zero i)⟩
  | j + 1, n, h, hn, hj => by
    by_cases hlt : n < 2 ^ (j + 1)
    · obtain ⟨K, k1, k2, k3⟩ := cz_lvl j n hlt hn (by omega)
      exact ⟨K, by omega, k2, k3⟩
    · obtain ⟨k, k1, k2, k3⟩ := fall_ok _ _ _ (cz_all (j := j + 1) (by omega) hj (Nat.le_of_not_lt hlt) h hn)
      have hp : 2 ^ (j + 1) ≤ 2 ^ 16 := Nat.pow_le_pow_right (by decide) hj
      rw [show (2 : Nat) ^ 16 = 65536 from rfl] at hp
      have h2 : 2 ^ 1 ≤ 2 ^ (j + 1) := Nat.pow_le_pow_right (by decide) (by omega)
      rw [show (2 : Nat) ^ 1 = 2 from rfl] at h2
      obtain ⟨K, q1, q2, q3⟩ := cz_lvl j (czI k n) k2 (by omega) (by omega)
      refine ⟨K + k, by omega, by rw [czI_add]; exact q2, fun i hi => ?_⟩
      by_cases hik : i < k
      · have := k3 i hik
        omega
      · obtain ⟨i', rfl⟩ : ∃ i', i = i' + k := ⟨i - k, by omega⟩
        rw [czI_add]
        exact q3 i' (by omega)
def colI : List Sm := [.setl 0 (.call 1 []) u64T u64T, .setl 1 (.num 0) uintT u32T]
def colC : Ex := .bin 18 (.loc 0) (.num 1) u64T uintT
def colW : List Sm := [.ite (.bin 22 (.loc 0) (.num 1) u64T uintT) [.setl 0 (.bin 12 (.bin 9 (.loc 0) (.num 3) u64T uintT) (.num 1) u64T uintT) u64T u64T] [.setl 0 (.bin 15 (.loc 0) (.num 1) u64T intT) u64T u64T], .setl 1 (.bin 12 (.loc 1) (.num 1) u32T uintT) u32T u32T]
def colD : List Sm := [.ex (.call 0 [(.loc 1, u32T, u64T)]), .ret (.num 0) intT intT]
def colM : List Sm := colI ++ (.whl colC colW :: colD)
def colBd : List (List Sm × Nat) := [(decB, 2), (numB, 2), (colM, 2)]
theorem col_means {n : Nat} (hn : n ≤ 100000) : ∃ K, czI K n ≤ 1 ∧ K ≤ 4000 ∧ (∀ i, i < K → 1 < czI i n ∧ czI i n ≤ 1152921504606846976) ∧ ∃ m v s, evF (askL [n]) colBd m 2 [] ⟨0, [], 0, 0, [List.replicate 20 0]⟩ = some (.val v s) ∧ s.out = digs K ++ [10] ∧ s.tk ≤ 200000 ∧ s.out.length ≤ 65536 := by
  obtain ⟨K, hK, hlo, hhi⟩ := cz_lvl 16 n (Nat.lt_of_le_of_lt hn (by decide)) hn (Nat.le_refl _)
  refine ⟨K, hlo, by omega, hhi, ?_⟩
  obtain ⟨inp, hinp⟩ : ∃ inp, inp = askL [n] := ⟨_, rfl⟩
  have d0 := drop_ask n []
  rw [← hinp] at d0 ⊢
  obtain ⟨t1, h1, k1⟩ := num_read (inp := inp) (bd := colBd) (k := 1) rfl (show n < 18446744073709551616 by omega) d0 2 [] (cl := 1) (by omega) [List.replicate 20 0]
  generalize min (0 + ((digs n).length + 1)) inp.length = rd1 at *
  rw [Nat.zero_min] at h1
  obtain ⟨t2, h2, k2⟩ := XW.count (inp := inp) (bd := colBd) (C := colC) (B := colW) (N := K) (K := 18) (c := 4) (r := 0) (cl := 1) (O := fun _ => []) (R := fun _ => rd1) (Q := fun _ => rd1) (G := fun _ => [List.replicate 20 0]) (Fs := fun i => [czI i n, i])
    (fun i hi tk => by
      by_cases hlt : i < K
      · obtain ⟨q1, q2⟩ := hhi i hlt
        exact ⟨1, tk + 1 + 3, (X.bin (X.loc rfl) (X.num _) (b18_q_h_t (by omega) (by omega) (by omega))), by omega, by simp; omega⟩
      · obtain rfl : i = K := by omega
        exact ⟨0, tk + 1 + 3, (X.bin (X.loc rfl) (X.num _) (b18_q_h_f (by omega) (by omega) (by omega))), by omega, by simp⟩)
    (fun i hi tk => by
      obtain ⟨q1, q2⟩ := hhi i hi
      show ∃ tk', XQ inp colBd colW ⟨tk, [], rd1, 1, [List.replicate 20 0]⟩ ⟨[czI i n, i], 0⟩ (.go 0 ⟨tk', [], rd1, 1, [List.replicate 20 0]⟩ ⟨[cz (czI i n), i + 1], 0⟩) ∧ _
      generalize czI i n = x at *
      have hand : x &&& 1 = x % 2 := Nat.and_one_is_mod x
      unfold cz
      by_cases ho : x % 2 = 0
      · have hz : binN 22 x 1 u64T uintT = some 0 := by rw [b22_q_h (by omega) (by omega), hand, ho]
        rw [if_pos ho]
        exact ⟨tk + 12, (XQ.cons (XS.no (X.bin (X.loc rfl) (X.num _) hz) (XQ.cons (XS.setls (X.bin (X.loc rfl) (X.num _) (b15_q_i (by omega) (by omega) (by omega))) (c_q_q (by omega)) (of_decide_eq_true rfl)) XQ.nil)) (XQ.cons (XS.setls (X.bin (X.loc rfl) (X.num _) (b12_w_h_n (by omega) (by omega) (by omega))) (c_w_w (by omega)) (of_decide_eq_true rfl)) XQ.nil)), by omega⟩
      · have hnz : x &&& 1 ≠ 0 := by omega
        rw [if_neg ho]
        exact ⟨tk + 14, (XQ.cons (XS.yes (X.bin (X.loc rfl) (X.num _) (b22_q_h (by omega) (by omega))) hnz (XQ.cons (XS.setls (X.bin (X.bin (X.loc rfl) (X.num _) (b9_q_h_n (by omega) (by omega) (by omega))) (X.num _) (b12_q_h_n (by omega) (by omega) (by omega))) (c_q_q (by omega)) (of_decide_eq_true rfl)) XQ.nil)) (XQ.cons (XS.setls (X.bin (X.loc rfl) (X.num _) (b12_w_h_n (by omega) (by omega) (by omega))) (c_w_w (by omega)) (of_decide_eq_true rfl)) XQ.nil)), by omega⟩) (t1 + 2 + 1)
  obtain ⟨t4, b', h4, k4, k5⟩ := dec_means (inp := inp) (bd := colBd) (k := 0) rfl (show K < 18446744073709551616 by omega) (t2 + 3) [] rd1 (cl := 1) (by omega) (b := List.replicate 20 0) (by simp) []
  have q : XQ inp colBd colM ⟨0, [], 0, 1, [List.replicate 20 0]⟩ ⟨[0, 0], 0⟩ (.go 1 ⟨t4 + 2, [] ++ (digs K ++ [10]), rd1, 1, [b']⟩ ⟨[czI K n, K], 0⟩) :=
    XQ.app (s1 := ⟨t1 + 2, [], rd1, 1, [List.replicate 20 0]⟩) (F1 := ⟨[n, 0], 0⟩) (XQ.cons (XS.setls (X.call (XA.nil _) h1) (c_q_q (by omega)) (of_decide_eq_true rfl)) (XQ.cons (XS.setls (X.num _) (c_h_w (by omega)) (of_decide_eq_true rfl)) XQ.nil)) (XQ.cons (XS.whl h2) (XQ.cons (XS.ex (X.call (XA.conss (X.loc rfl) (c_w_q (by omega)) (XA.nil _)) h4)) (XQ.stop (XS.rets (X.num _) (c_i_i (by omega))) (by decide))))
  have hl := line_short (show K < 18446744073709551616 by omega)
  exact means_le (XF.runs (k := 2) rfl (by omega) q) (by omega) (by omega)
end
end Go.Proofs.YtgmmfjmdpbhjnaaGreat
