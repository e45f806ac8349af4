/-
  What primes means, plainly.
-/
import Derived.Test.YtgmmfjmdpbhjnaaGreatLNuS
import Derived.Test.YtgmmfjmdpbhjnaaGreatJPc
namespace Go.Proofs.YtgmmfjmdpbhjnaaGreat

/-- nothing between divides -/
def prB (i : Nat) : Bool := (List.range i).all fun d => decide (d < 2) || decide (i % d ≠ 0)
theorem prB_iff (i : Nat) : prB i = true ↔ ∀ d, 2 ≤ d → d < i → i % d ≠ 0 := by
  unfold prB
  rw [List.all_eq_true]
  constructor
  · intro h d h1 h2
    have := h d (List.mem_range.2 h2)
    rw [Bool.or_eq_true, decide_eq_true_eq, decide_eq_true_eq] at this
    rcases this with h | h
    · omega
    · exact h
  · intro h d hd
    rw [Bool.or_eq_true, decide_eq_true_eq, decide_eq_true_eq]
    by_cases h2 : d < 2
    · exact .inl h2
    · exact .inr (h d (by omega) (List.mem_range.1 hd))
/-- each i-th from one on is crossed out -/
def mkS (i : Nat) : Nat → Nat → List Nat → List Nat
  | 0, _, S => S
  | m + 1, k, S => if k < 200 then mkS i m (k + i) (S.set k 1) else S
theorem mkS_len (i : Nat) : ∀ m k S, (mkS i m k S).length = S.length
  | 0, _, _ => rfl
  | m + 1, k, S => by
    unfold mkS
    split
    · rw [mkS_len i m, List.length_set]
    · rfl
theorem mkS_get {i : Nat} (hi : 0 < i) : ∀ (m k : Nat) (S : List Nat) (x : Nat), S.length = 200 → x < 200 → 200 ≤ k + m * i → (mkS i m k S)[x]? = if k ≤ x ∧ (x - k) % i = 0 then some 1 else S[x]?
  | 0, k, S, x, hS, hx, hk => by
    rw [if_neg (by omega)]; rfl
  | m + 1, k, S, x, hS, hx, hk => by
    unfold mkS
    by_cases h : k < 200
    · rw [if_pos h, mkS_get hi m (k + i) (S.set k 1) x (by rw [List.length_set]; exact hS) hx (by rw [Nat.succ_mul] at hk; omega)]
      by_cases hxk : x = k
      · subst hxk
        rw [if_neg (by omega), if_pos ⟨Nat.le_refl _, by rw [Nat.sub_self, Nat.zero_mod]⟩, List.getElem?_set_self (by omega)]
      · rw [List.getElem?_set_ne (by omega)]
        by_cases h2 : k + i ≤ x
        · have e : x - k = x - (k + i) + i := by omega
          rw [e, Nat.add_mod_right]
          by_cases h3 : (x - (k + i)) % i = 0
          · rw [if_pos ⟨h2, h3⟩, if_pos ⟨by omega, h3⟩]
          · rw [if_neg (fun q => h3 q.2), if_neg (fun q => h3 q.2)]
        · rw [if_neg (fun q => h2 q.1), if_neg (fun q => by
            have := Nat.mod_eq_of_lt (show x - k < i by omega)
            omega)]
    · rw [if_neg h, if_neg (by omega)]
/-- what is crossed out behind so many numbers -/
def sv : Nat → List Nat
  | 0 => List.replicate 200 0
  | j + 1 => if prB (j + 2) then mkS (j + 2) (200 / (j + 2)) (j + 2 + (j + 2)) (sv j) else sv j
theorem sv_len : ∀ j, (sv j).length = 200
  | 0 => List.length_replicate
  | j + 1 => by
    unfold sv
    split
    · rw [mkS_len, sv_len j]
    · exact sv_len j
theorem sv_spec : ∀ (j k : Nat), k < 200 → ∃ v, (sv j)[k]? = some v ∧ v ≤ 1 ∧ (v = 0 ↔ ∀ d, 2 ≤ d → d < j + 2 → k % d = 0 → k < 2 * d)
  | 0, k, hk => ⟨0, by unfold sv; rw [List.getElem?_replicate, if_pos hk], by omega, ⟨fun _ d h1 h2 => by omega, fun _ => rfl⟩⟩
  | j + 1, k, hk => by
    obtain ⟨v, h1, h2, h3⟩ := sv_spec j k hk
    unfold sv
    by_cases hp : prB (j + 2) = true
    · rw [if_pos hp, mkS_get (by omega) _ _ _ _ (sv_len j) hk (by
        have a1 := Nat.div_add_mod 200 (j + 2)
        have a2 := Nat.mod_lt 200 (show 0 < j + 2 by omega)
        rw [Nat.mul_comm] at a1
        omega), h1]
      by_cases hm : j + 2 + (j + 2) ≤ k ∧ (k - (j + 2 + (j + 2))) % (j + 2) = 0
      · rw [if_pos hm]
        refine ⟨1, rfl, by omega, fun h => by omega, fun h => ?_⟩
        have e : k % (j + 2) = 0 := by
          have : k = k - (j + 2 + (j + 2)) + (j + 2) + (j + 2) := by omega
          rw [this, Nat.add_mod_right, Nat.add_mod_right]
          exact hm.2
        have := h (j + 2) (by omega) (by omega) e
        omega
      · rw [if_neg hm]
        refine ⟨v, rfl, h2, fun h d d1 d2 d3 => ?_, fun h => h3.2 fun d d1 d2 d3 => h d d1 (by omega) d3⟩
        by_cases hd : d < j + 2
        · exact h3.1 h d d1 hd d3
        · obtain rfl : d = j + 2 := by omega
          refine Nat.lt_of_not_le fun hle => hm ⟨by omega, ?_⟩
          have : k = k - (j + 2 + (j + 2)) + (j + 2) + (j + 2) := by omega
          rw [this, Nat.add_mod_right, Nat.add_mod_right] at d3
          exact d3
    · rw [if_neg hp]
      refine ⟨v, h1, h2, fun h d d1 d2 d3 => ?_, fun h => h3.2 fun d d1 d2 d3 => h d d1 (by omega) d3⟩
      by_cases hd : d < j + 2
      · exact h3.1 h d d1 hd d3
      · obtain rfl : d = j + 2 := by omega
        refine Nat.lt_of_not_le fun hle => hp ((prB_iff _).2 fun e e1 e2 e3 => ?_)
        have hed : k % e = 0 := Nat.mod_eq_zero_of_dvd (Nat.dvd_trans (Nat.dvd_of_mod_eq_zero e3) (Nat.dvd_of_mod_eq_zero d3))
        have := h3.1 h e e1 e2 hed
        omega
/-- at its own place stands whether it is one -/
theorem sv_own {j : Nat} (hj : j < 198) : ∃ v, (sv j)[j + 2]? = some v ∧ v ≤ 1 ∧ (v = 0 ↔ prB (j + 2) = true) := by
  obtain ⟨v, h1, h2, h3⟩ := sv_spec j (j + 2) (by omega)
  refine ⟨v, h1, h2, h3.trans ?_⟩
  rw [prB_iff]
  refine ⟨fun h d d1 d2 d3 => ?_, fun h d d1 d2 d3 => absurd d3 (h d d1 d2)⟩
  have := h d d1 d2 d3
  have e : j + 2 = d * ((j + 2) / d) := by have := Nat.div_add_mod (j + 2) d; omega
  have q : 2 ≤ (j + 2) / d := by
    refine Nat.lt_of_not_le fun hle => ?_
    have : d * ((j + 2) / d) ≤ d * 1 := Nat.mul_le_mul_left _ hle
    omega
  have : d * 2 ≤ d * ((j + 2) / d) := Nat.mul_le_mul_left _ q
  omega
/-- what is told -/
def prO : Nat → List Nat
  | 0 => []
  | j + 1 => if prB (j + 2) then prO j ++ (digs (j + 2) ++ [10]) else prO j
def prK : Nat → Nat
  | 0 => 0
  | j + 1 => prK j + (if prB (j + 2) then 1100 + 30 * (200 / (j + 2)) else 60)
theorem prK_le : prK 198 ≤ 180000 := Nat.le_of_ble_eq_true (by kernel_rfl)
theorem prK_mono : ∀ (m j : Nat), prK j ≤ prK (j + m)
  | 0, _ => Nat.le_refl _
  | m + 1, j => Nat.le_trans (prK_mono m j) (Nat.le_add_right _ _)
theorem prO_len : ∀ j, j < 1000 → (prO j).length ≤ 21 * j
  | 0, _ => Nat.le_refl _
  | j + 1, hj => by
    have ih := prO_len j (by omega)
    unfold prO
    split
    · have := line_short (n := j + 2) (by omega)
      rw [List.length_append]
      omega
    · omega
theorem prO_lt : ∀ j, j < 1000 → ∀ x ∈ prO j, x < 256
  | 0, _, x, h => by cases h
  | j + 1, hj, x, h => by
    unfold prO at h
    split at h
    · rcases List.mem_append.1 h with h | h
      · exact prO_lt j (by omega) x h
      · rcases List.mem_append.1 h with h | h
        · have := digs_dig _ _ (Nat.le_refl _) x h; omega
        · have : x = 10 := by simpa using h
          omega
    · exact prO_lt j (by omega) x h
section
variable {inp : List Nat} {bd : List (List Sm × Nat)}
def priI : List Sm := [.setl 0 (.call 1 []) u64T u64T, .setz 1, .setz 2]
def priJ : List Sm := [.setl 1 (.num 2) intT intT]
def priC : Ex := .bin 16 (.loc 1) (.num 200) intT intT
def priD : Ex := .bin 16 (.loc 2) (.num 200) intT intT
def priV : List Sm := [.seta 1 200 (.loc 2) intT (.num 1) intT u8T]
def priT : List Sm := [.setl 2 (.bin 12 (.loc 2) (.loc 1) intT intT) intT intT]
def priA : Sm := .ite (.bin 18 (.loc 1) (.loc 0) intT u64T) [.brk] []
def priE : Sm := .ite (.elt 1 200 (.loc 1) intT) [.cont] []
def priU : Sm := .ex (.call 0 [(.loc 1, intT, u64T)])
def priY : List Sm := [.setl 2 (.bin 12 (.loc 1) (.loc 1) intT intT) intT intT]
def priF : Sm := .for priY (some priD) priV priT
def priB : List Sm := [priA, priE, priU, priF]
def priS : List Sm := [.setl 1 (.bin 12 (.loc 1) (.num 1) intT intT) intT intT]
def priR : List Sm := [.ret (.num 0) intT intT]
def priM : List Sm := priI ++ (.for priJ (some priC) priB priS :: priR)
def priBd : List (List Sm × Nat) := [(decB, 2), (numB, 2), (priM, 3)]
theorem pri_mark {i n : Nat} (hi : i < 200) (out : List Nat) (rd cl : Nat) (b : List Nat) (r : Nat) : ∀ (m k tk : Nat) (S : List Nat), k < 400 → 200 ≤ k + m * i → ∃ k' tk', k' < 400 ∧ XL inp bd priD priV priT ⟨tk, out, rd, cl, [b, S]⟩ ⟨[n, i, k], r⟩ (.go 0 ⟨tk', out, rd, cl, [b, mkS i m k S]⟩ ⟨[n, i, k'], r⟩) ∧ tk' ≤ tk + 30 * m + 6
  | 0, k, tk, S, h4, h => by
    have h : 200 ≤ k := by omega
    have hx : X inp bd priD (Ms.tick ⟨tk, out, rd, cl, [b, S]⟩) [n, i, k] (.val 0 ⟨tk + 1 + 3, out, rd, cl, [b, S]⟩) := (X.bin (X.loc rfl) (X.num _) (b16_i_i_f (by omega) (by omega) (by omega)))
    exact ⟨k, _, h4, XL.done hx, by omega⟩
  | m + 1, k, tk, S, h4, h => by
    by_cases hk : k < 200
    · have hx : X inp bd priD (Ms.tick ⟨tk, out, rd, cl, [b, S]⟩) [n, i, k] (.val 1 ⟨tk + 1 + 3, out, rd, cl, [b, S]⟩) := (X.bin (X.loc rfl) (X.num _) (b16_i_i_t (by omega) (by omega) (by omega)))
      have hv : XQ inp bd priV ⟨tk + 1 + 3, out, rd, cl, [b, S]⟩ ⟨[n, i, k], r⟩ (.go 0 ⟨tk + 1 + 3 + 3, out, rd, cl, [b, S.set k 1]⟩ ⟨[n, i, k], r⟩) := (XQ.cons (XS.setas (X.loc rfl) (c_i_h (by omega)) (by omega) (X.num _) (c_i_b (by omega))) XQ.nil)
      have ht : XQ inp bd priT ⟨tk + 1 + 3 + 3, out, rd, cl, [b, S.set k 1]⟩ ⟨[n, i, k], r⟩ (.go 0 ⟨tk + 1 + 3 + 3 + 4, out, rd, cl, [b, S.set k 1]⟩ ⟨[n, i, k + i], r⟩) := (XQ.cons (XS.setls (X.bin (X.loc rfl) (X.loc rfl) (b12_i_i_n (by omega) (by omega) (by omega))) (c_i_i (by omega)) (of_decide_eq_true rfl)) XQ.nil)
      obtain ⟨k', tk', h0, h1, h2⟩ := pri_mark hi out rd cl b r m (k + i) (tk + 1 + 3 + 3 + 4) (S.set k 1) (by omega) (by rw [Nat.succ_mul] at h; omega)
      refine ⟨k', tk', h0, ?_, by omega⟩
      unfold mkS
      rw [if_pos hk]
      exact XL.step hx (by decide) hv (.inl rfl) ht h1
    · have hk : 200 ≤ k := by omega
      have hx : X inp bd priD (Ms.tick ⟨tk, out, rd, cl, [b, S]⟩) [n, i, k] (.val 0 ⟨tk + 1 + 3, out, rd, cl, [b, S]⟩) := (X.bin (X.loc rfl) (X.num _) (b16_i_i_f (by omega) (by omega) (by omega)))
      refine ⟨k, _, h4, ?_, (by omega : tk + 1 + 3 ≤ _)⟩
      unfold mkS
      rw [if_neg (by omega)]
      exact XL.done hx
theorem pri_loop {n N : Nat} (hn : n < 18446744073709551616) (hN : N ≤ 198) (hNn : N + 1 ≤ n ∨ N = 0) (hE : N = 198 ∨ n < N + 2) (rd : Nat) : ∀ (m j k tk : Nat) (b : List Nat), j + m = N → k < 400 → b.length = 20 →
    ∃ k' tk' b', XL inp priBd priC priB priS ⟨tk, prO j, rd, 1, [b, sv j]⟩ ⟨[n, j + 2, k], 0⟩ (.go 0 ⟨tk', prO N, rd, 1, [b', sv N]⟩ ⟨[n, N + 2, k'], 0⟩) ∧ tk' + prK j ≤ tk + prK N + 20
  | 0, j, k, tk, b, hj, hk, hb => by
    obtain rfl : j = N := by omega
    by_cases h : j + 2 < 200
    · have hx : X inp priBd priC (Ms.tick ⟨tk, prO j, rd, 1, [b, sv j]⟩) [n, j + 2, k] (.val 1 ⟨tk + 1 + 3, prO j, rd, 1, [b, sv j]⟩) := (X.bin (X.loc rfl) (X.num _) (b16_i_i_t (by omega) (by omega) (by omega)))
      have hA : XQ inp priBd priB ⟨tk + 1 + 3, prO j, rd, 1, [b, sv j]⟩ ⟨[n, j + 2, k], 0⟩ (.go 2 ⟨tk + 1 + 3 + 5, prO j, rd, 1, [b, sv j]⟩ ⟨[n, j + 2, k], 0⟩) := XQ.stop (XS.yes (X.bin (X.loc rfl) (X.loc rfl) (b18_i_q_t (by omega) (by omega) (by omega))) (by decide) (XQ.stop XS.brk (by decide))) (by decide)
      exact ⟨k, _, b, XL.brk hx (by decide) hA, by omega⟩
    · have h : 200 ≤ j + 2 := by omega
      have hx : X inp priBd priC (Ms.tick ⟨tk, prO j, rd, 1, [b, sv j]⟩) [n, j + 2, k] (.val 0 ⟨tk + 1 + 3, prO j, rd, 1, [b, sv j]⟩) := (X.bin (X.loc rfl) (X.num _) (b16_i_i_f (by omega) (by omega) (by omega)))
      exact ⟨k, _, b, XL.done hx, by omega⟩
  | m + 1, j, k, tk, b, hj, hk, hb => by
    have hx : X inp priBd priC (Ms.tick ⟨tk, prO j, rd, 1, [b, sv j]⟩) [n, j + 2, k] (.val 1 ⟨tk + 1 + 3, prO j, rd, 1, [b, sv j]⟩) := (X.bin (X.loc rfl) (X.num _) (b16_i_i_t (by omega) (by omega) (by omega)))
    have hA : XS inp priBd priA ⟨tk + 1 + 3, prO j, rd, 1, [b, sv j]⟩ ⟨[n, j + 2, k], 0⟩ (.go 0 ⟨tk + 1 + 3 + 4, prO j, rd, 1, [b, sv j]⟩ ⟨[n, j + 2, k], 0⟩) := (XS.no (X.bin (X.loc rfl) (X.loc rfl) (b18_i_q_f (by omega) (by omega) (by omega))) XQ.nil)
    obtain ⟨v, v1, v2, v3⟩ := sv_own (j := j) (by omega)
    by_cases hp : prB (j + 2) = true
    · obtain rfl : v = 0 := v3.2 hp
      have hEl : XS inp priBd priE ⟨tk + 1 + 3 + 4, prO j, rd, 1, [b, sv j]⟩ ⟨[n, j + 2, k], 0⟩ (.go 0 ⟨tk + 1 + 3 + 4 + 3, prO j, rd, 1, [b, sv j]⟩ ⟨[n, j + 2, k], 0⟩) := (XS.no (X.elt (X.loc rfl) (c_i_h (by omega)) (by omega) v1) XQ.nil)
      obtain ⟨t4, b', h4, k4, k5⟩ := dec_means (inp := inp) (bd := priBd) (k := 0) rfl (show j + 2 < 18446744073709551616 by omega) (tk + 1 + 3 + 4 + 3 + 3) (prO j) rd (cl := 1) (by omega) hb [sv j]
      have hU : XS inp priBd priU ⟨tk + 1 + 3 + 4 + 3, prO j, rd, 1, [b, sv j]⟩ ⟨[n, j + 2, k], 0⟩ (.go 0 ⟨t4, prO j ++ (digs (j + 2) ++ [10]), rd, 1, [b', sv j]⟩ ⟨[n, j + 2, k], 0⟩) := (XS.ex (X.call (XA.conss (X.loc rfl) (c_i_q (by omega)) (XA.nil _)) h4))
      obtain ⟨k', t5, h50, h5, k6⟩ := pri_mark (inp := inp) (bd := priBd) (i := j + 2) (n := n) (by omega) (prO j ++ (digs (j + 2) ++ [10])) rd 1 b' 0 (200 / (j + 2)) (j + 2 + (j + 2)) (t4 + 1 + 4) (sv j) (by omega) (by
        have a1 := Nat.div_add_mod 200 (j + 2)
        have a2 := Nat.mod_lt 200 (show 0 < j + 2 by omega)
        rw [Nat.mul_comm] at a1
        omega)
      have hY : XQ inp priBd priY (Ms.tick ⟨t4, prO j ++ (digs (j + 2) ++ [10]), rd, 1, [b', sv j]⟩) ⟨[n, j + 2, k], 0⟩ (.go 0 ⟨t4 + 1 + 4, prO j ++ (digs (j + 2) ++ [10]), rd, 1, [b', sv j]⟩ ⟨[n, j + 2, j + 2 + (j + 2)], 0⟩) := (XQ.cons (XS.setls (X.bin (X.loc rfl) (X.loc rfl) (b12_i_i_n (by omega) (by omega) (by omega))) (c_i_i (by omega)) (of_decide_eq_true rfl)) XQ.nil)
      have hB : XQ inp priBd priB ⟨tk + 1 + 3, prO j, rd, 1, [b, sv j]⟩ ⟨[n, j + 2, k], 0⟩ (.go 0 ⟨t5, prO j ++ (digs (j + 2) ++ [10]), rd, 1, [b', mkS (j + 2) (200 / (j + 2)) (j + 2 + (j + 2)) (sv j)]⟩ ⟨[n, j + 2, k'], 0⟩) :=
        XQ.cons hA (XQ.cons hEl (XQ.cons hU (XQ.cons (XS.for hY h5) XQ.nil)))
      have e1 : prO (j + 1) = prO j ++ (digs (j + 2) ++ [10]) := if_pos hp
      have e2 : sv (j + 1) = mkS (j + 2) (200 / (j + 2)) (j + 2 + (j + 2)) (sv j) := if_pos hp
      have e3 : prK (j + 1) = prK j + (1100 + 30 * (200 / (j + 2))) := by show prK j + (if _ then _ else _) = _; rw [if_pos hp]
      rw [← e1, ← e2] at hB
      have hS : XQ inp priBd priS ⟨t5, prO (j + 1), rd, 1, [b', sv (j + 1)]⟩ ⟨[n, j + 2, k'], 0⟩ (.go 0 ⟨t5 + 4, prO (j + 1), rd, 1, [b', sv (j + 1)]⟩ ⟨[n, j + 2 + 1, k'], 0⟩) := (XQ.cons (XS.setls (X.bin (X.loc rfl) (X.num _) (b12_i_i_n (by omega) (by omega) (by omega))) (c_i_i (by omega)) (of_decide_eq_true rfl)) XQ.nil)
      obtain ⟨k2, t6, b2, h6, h7⟩ := pri_loop hn hN hNn hE rd m (j + 1) k' (t5 + 4) b' (by omega) h50 k4
      exact ⟨k2, t6, b2, XL.step hx (by decide) hB (.inl rfl) hS h6, by omega⟩
    · have hv : v ≠ 0 := fun h => hp (v3.1 h)
      have hEl : XS inp priBd priE ⟨tk + 1 + 3 + 4, prO j, rd, 1, [b, sv j]⟩ ⟨[n, j + 2, k], 0⟩ (.go 3 ⟨tk + 1 + 3 + 4 + 4, prO j, rd, 1, [b, sv j]⟩ ⟨[n, j + 2, k], 0⟩) := (XS.yes (X.elt (X.loc rfl) (c_i_h (by omega)) (by omega) v1) hv (XQ.stop XS.cont (by decide)))
      have e1 : prO (j + 1) = prO j := if_neg hp
      have e2 : sv (j + 1) = sv j := if_neg hp
      have e3 : prK (j + 1) = prK j + 60 := by show prK j + (if _ then _ else _) = _; rw [if_neg hp]
      have hB : XQ inp priBd priB ⟨tk + 1 + 3, prO j, rd, 1, [b, sv j]⟩ ⟨[n, j + 2, k], 0⟩ (.go 3 ⟨tk + 1 + 3 + 4 + 4, prO j, rd, 1, [b, sv j]⟩ ⟨[n, j + 2, k], 0⟩) := XQ.cons hA (XQ.stop hEl (by decide))
      obtain ⟨k2, t6, b2, h6, h7⟩ := pri_loop hn hN hNn hE rd m (j + 1) k (tk + 1 + 3 + 4 + 4 + 4) b (by omega) hk hb
      rw [e1, e2] at h6
      have hS : XQ inp priBd priS ⟨tk + 1 + 3 + 4 + 4, prO j, rd, 1, [b, sv j]⟩ ⟨[n, j + 2, k], 0⟩ (.go 0 ⟨tk + 1 + 3 + 4 + 4 + 4, prO j, rd, 1, [b, sv j]⟩ ⟨[n, j + 2 + 1, k], 0⟩) := (XQ.cons (XS.setls (X.bin (X.loc rfl) (X.num _) (b12_i_i_n (by omega) (by omega) (by omega))) (c_i_i (by omega)) (of_decide_eq_true rfl)) XQ.nil)
      exact ⟨k2, t6, b2, XL.step hx (by decide) hB (.inr rfl) hS h6, by omega⟩
theorem pri_means {n : Nat} (hn : n < 18446744073709551616) : ∃ m v s, evF (askL [n]) priBd m 2 [] ⟨0, [], 0, 0, [List.replicate 20 0, List.replicate 200 0]⟩ = some (.val v s) ∧ s.out = prO (min (n - 1) 198) ∧ s.tk ≤ 200000 ∧ s.out.length ≤ 65536 := by
  obtain ⟨inp, hinp⟩ : ∃ inp, inp = askL [n] := ⟨_, rfl⟩
  have d0 := drop_ask n []
  rw [← hinp] at d0 ⊢
  obtain ⟨t1, h1, k1⟩ := num_read (inp := inp) (bd := priBd) (k := 1) rfl hn d0 2 [] (cl := 1) (by omega) [List.replicate 20 0, List.replicate 200 0]
  generalize min (0 + ((digs n).length + 1)) inp.length = rd1 at *
  rw [Nat.zero_min] at h1
  obtain ⟨N, hN⟩ : ∃ N, N = min (n - 1) 198 := ⟨_, rfl⟩
  rw [← hN]
  obtain ⟨k', t2, b', h2, k2⟩ := pri_loop (inp := inp) (n := n) (N := N) hn (by omega) (by omega) (by omega) rd1 N 0 0 (t1 + 2 + 1 + 2) (List.replicate 20 0) (by omega) (by omega) (by simp)
  have q : XQ inp priBd priM ⟨0, [], 0, 1, [List.replicate 20 0, List.replicate 200 0]⟩ ⟨[0, 0, 0], 0⟩ (.go 1 ⟨t2 + 2, prO N, rd1, 1, [b', sv N]⟩ ⟨[n, N + 2, k'], 0⟩) :=
    XQ.app (s1 := ⟨t1 + 2, [], rd1, 1, [List.replicate 20 0, List.replicate 200 0]⟩) (F1 := ⟨[n, 0, 0], 0⟩) (XQ.cons (XS.setls (X.call (XA.nil _) h1) (c_q_q (by omega)) (of_decide_eq_true rfl)) (XQ.cons (XS.setz (of_decide_eq_true rfl)) (XQ.cons (XS.setz (of_decide_eq_true rfl)) XQ.nil))) (XQ.cons (XS.for (XQ.cons (XS.setls (X.num _) (c_i_i (by omega)) (of_decide_eq_true rfl)) XQ.nil) h2) (XQ.stop (XS.rets (X.num _) (c_i_i (by omega))) (by decide)))
  have hl := prO_len N (by omega)
  have hk := prK_le
  have hm := prK_mono (198 - N) N
  rw [show N + (198 - N) = 198 by omega] at hm
  have h0 : prK 0 = 0 := rfl
  exact means_le (XF.runs (k := 2) rfl (by omega) q) (by omega) (by omega)
end
end Go.Proofs.YtgmmfjmdpbhjnaaGreat
