/-
  What adler, sum, digits, words mean, plainly.
-/
import Derived.Test.YtclpjglkjkbljaaGreatJPb
namespace Go.Proofs.YtclpjglkjkbljaaGreat

theorem foldC_inv {α : Type} {f : α → Nat → α} {a : α} {P : α → Prop} {inp : List Nat} (hb : ∀ v ∈ inp, v < 256) (h0 : P a) (hs : ∀ a c, P a → c < 256 → P (f a c)) : ∀ i, i ≤ inp.length → P (foldC f a inp i)
  | 0, _ => by rw [foldC_zero]; exact h0
  | i + 1, hi => by
    rw [foldC_succ f a (by omega)]
    exact hs _ _ (foldC_inv hb h0 hs i (by omega)) (cur_lt hb (by omega)).2
section
variable {inp : List Nat} {bd : List (List Sm × Nat)}

/-! ### adler -/
def adF (p : Nat × Nat) (c : Nat) : Nat × Nat := ((p.1 + c) % 65521, (p.2 + (p.1 + c) % 65521) % 65521)
def adlI : List Sm := [.setl 0 (.num 1) uintT u32T, .setl 1 (.num 0) uintT u32T, .setl 2 .get intT intT]
def adlB : List Sm := [.setl 0 (.bin 11 (.bin 12 (.loc 0) (.cast (.loc 2) intT u32T) u32T u32T) (.num 65521) u32T uintT) u32T u32T, .setl 1 (.bin 11 (.bin 12 (.loc 1) (.loc 0) u32T u32T) (.num 65521) u32T uintT) u32T u32T]
def adlE : Ex := .bin 24 (.bin 14 (.loc 1) (.num 16) u32T intT) (.loc 0) u32T u32T
def adlM : List Sm := adlI ++ [.whl (.bin 19 (.loc 2) (.num 0) intT intT) (adlB ++ [.setl 2 .get intT intT]), .ex (.call 0 [(adlE, u32T, u64T)]), .ret (.num 0) intT intT]
def adlBd : List (List Sm × Nat) := [(decB, 2), (adlM, 3)]
theorem ad_lt (hb : ∀ v ∈ inp, v < 256) (i : Nat) (hi : i ≤ inp.length) : (foldC adF (1, 0) inp i).1 < 65521 ∧ (foldC adF (1, 0) inp i).2 < 65521 :=
  foldC_inv (P := fun p : Nat × Nat => p.1 < 65521 ∧ p.2 < 65521) hb (by decide) (fun _ _ _ _ => ⟨Nat.mod_lt _ (by decide), Nat.mod_lt _ (by decide)⟩) i hi
theorem adl_body {A B c : Nat} (hA : A < 65521) (hB : B < 65521) (hc : c < 256) (tk : Nat) (out : List Nat) (rd cl : Nat) (gl : List (List Nat)) (r : Nat) :
    XQ inp bd adlB ⟨tk, out, rd, cl, gl⟩ ⟨[A, B, c], r⟩ (.go 0 ⟨tk + 13, out, rd, cl, gl⟩ ⟨[(A + c) % 65521, (B + (A + c) % 65521) % 65521, c], r⟩) := (XQ.cons (XS.setls (X.bin (X.bin (X.loc rfl) (X.casts (X.loc rfl) (c_i_w (by omega))) (b12_w_w_n (by omega) (by omega) (by omega))) (X.num _) (b11_w_h (by omega) (by omega) (by omega))) (c_w_w (by omega)) (of_decide_eq_true rfl)) (XQ.cons (XS.setls (X.bin (X.bin (X.loc rfl) (X.loc rfl) (b12_w_w_n (by omega) (by omega) (by omega))) (X.num _) (b11_w_h (by omega) (by omega) (by omega))) (c_w_w (by omega)) (of_decide_eq_true rfl)) XQ.nil))
def adN (inp : List Nat) : Nat := (inp.foldl adF (1, 0)).2 * 65536 + (inp.foldl adF (1, 0)).1
theorem adler_means (hb : ∀ v ∈ inp, v < 256) : ∃ n v s, evF inp adlBd n 1 [] ⟨0, [], 0, 0, [List.replicate 20 0]⟩ = some (.val v s) ∧ s.out = digs (adN inp) ++ [10] ∧ ((200000 < s.tk ∨ 65536 < s.out.length) → 60 < inp.length) := by
  have hc0 : curC inp 0 < 65536 := by rcases cur_ch hb 0 with h | h <;> omega
  have hl := ad_lt hb inp.length (Nat.le_refl _)
  refine fold_means (M := adlM) hb (n := adN inp) (n0 := adN inp) (Fs := fun i => [(foldC adF (1, 0) inp i).1, (foldC adF (1, 0) inp i).2, curC inp i]) (Fb := fun i => [(foldC adF (1, 0) inp (i + 1)).1, (foldC adF (1, 0) inp (i + 1)).2, curC inp i])
    (t0 := 6) (K := 20) (e := 5) rfl ?_ (fun _ _ => rfl) (fun i hi tk => ?_) (fun _ _ => ⟨of_decide_eq_true rfl, rfl⟩) (fun s => ?_) ?_ ?_ (fun h => by omega)
  · rw [foldC_zero]
    exact (XQ.cons (XS.setls (X.num _) (c_h_w (by omega)) (of_decide_eq_true rfl)) (XQ.cons (XS.setls (X.num _) (c_h_w (by omega)) (of_decide_eq_true rfl)) (XQ.cons (XS.setls (X.gets rfl) (c_i_i hc0) (of_decide_eq_true rfl)) XQ.nil)))
  · obtain ⟨h1, h2⟩ := ad_lt hb i (by omega)
    refine ⟨tk + 13, ?_, by omega⟩
    show XQ inp _ adlB _ ⟨[_, _, curC inp i], 0⟩ (.go 0 _ ⟨[(foldC adF (1, 0) inp (i + 1)).1, (foldC adF (1, 0) inp (i + 1)).2, curC inp i], 0⟩)
    rw [foldC_succ adF (1, 0) hi]
    exact adl_body h1 h2 (cur_lt hb hi).2 tk [] _ 1 _ 0
  · have e : (foldC adF (1, 0) inp inp.length).2 * 2 ^ 16 ||| (foldC adF (1, 0) inp inp.length).1 = adN inp := by
      unfold adN
      rw [← foldC_all, Nat.mul_comm _ (2 ^ 16)]
      exact (Nat.two_pow_add_eq_or_of_lt (i := 16) (by omega) _).symm
    rw [← e]
    generalize foldC adF (1, 0) inp inp.length = p at *
    exact (X.bin (X.bin (X.loc rfl) (X.num _) (b14_w_i_n (by omega) (by omega) (by omega) (by omega))) (X.loc rfl) (b24_w_w (by omega) (by omega)))
  · refine c_w_q ?_
    unfold adN
    rw [← foldC_all]
    omega
  · unfold adN
    rw [← foldC_all]
    omega

/-! ### sum -/
def isD (c : Nat) : Bool := decide (48 ≤ c ∧ c ≤ 57)
def suF (p : Nat × Nat) (c : Nat) : Nat × Nat := if isD c then (p.1, (p.2 * 10 % 18446744073709551616 + (c - 48)) % 18446744073709551616) else ((p.1 + p.2) % 18446744073709551616, 0)
def digC (j : Nat) : Ex := .either false (.bin 19 (.loc j) (.num 48) intT intT) (.bin 17 (.loc j) (.num 57) intT intT)
def sumI : List Sm := [.setl 0 (.num 0) uintT u64T, .setl 1 (.num 0) uintT u64T, .setl 2 .get intT intT]
def sumC : Ex := .either false (.bin 19 (.loc 2) (.num 48) intT intT) (.bin 17 (.loc 2) (.num 57) intT intT)
def sumY : List Sm := [.setl 1 (.bin 12 (.bin 9 (.loc 1) (.num 10) u64T uintT) (.cast (.bin 13 (.loc 2) (.num 48) intT intT) intT u64T) u64T u64T) u64T u64T]
def sumZ : List Sm := [.setl 0 (.bin 12 (.loc 0) (.loc 1) u64T u64T) u64T u64T, .setl 1 (.num 0) uintT u64T]
def sumB : List Sm := [.ite sumC sumY sumZ]
def sumE : Ex := .bin 12 (.loc 0) (.loc 1) u64T u64T
def sumM : List Sm := sumI ++ [.whl (.bin 19 (.loc 2) (.num 0) intT intT) (sumB ++ [.setl 2 .get intT intT]), .ex (.call 0 [(sumE, u64T, u64T)]), .ret (.num 0) intT intT]
def sumBd : List (List Sm × Nat) := [(decB, 2), (sumM, 3)]
theorem sum_body {A B c : Nat} (hA : A < 18446744073709551616) (hB : B < 18446744073709551616) (hc : c < 256) (tk : Nat) (out : List Nat) (rd cl : Nat) (gl : List (List Nat)) (r : Nat) :
    ∃ tk', XQ inp bd sumB ⟨tk, out, rd, cl, gl⟩ ⟨[A, B, c], r⟩ (.go 0 ⟨tk', out, rd, cl, gl⟩ ⟨[(suF (A, B) c).1, (suF (A, B) c).2, c], r⟩) ∧ tk' ≤ tk + 20 := by
  unfold suF isD
  by_cases h1 : 48 ≤ c
  · by_cases h2 : c ≤ 57
    · rw [if_pos (decide_eq_true ⟨h1, h2⟩)]
      exact ⟨tk + 17, (XQ.cons (XS.yes (X.both (X.bin (X.loc rfl) (X.num _) (b19_i_i_t (by omega) (by omega) (by omega))) (by decide) (X.bin (X.loc rfl) (X.num _) (b17_i_i_t (by omega) (by omega) (by omega)))) (by decide) (XQ.cons (XS.setls (X.bin (X.bin (X.loc rfl) (X.num _) (b9_q_h_w (by omega) (by omega))) (X.casts (X.bin (X.loc rfl) (X.num _) (b13_i_i_n (by omega) (by omega) (by omega))) (c_i_q (by omega))) (b12_q_q_w (by omega) (by omega))) (c_q_q (by omega)) (of_decide_eq_true rfl)) XQ.nil)) XQ.nil), by omega⟩
    · rw [if_neg (by simp [h2])]
      exact ⟨tk + 14, (XQ.cons (XS.no (X.both (X.bin (X.loc rfl) (X.num _) (b19_i_i_t (by omega) (by omega) (by omega))) (by decide) (X.bin (X.loc rfl) (X.num _) (b17_i_i_f (by omega) (by omega) (by omega)))) (XQ.cons (XS.setls (X.bin (X.loc rfl) (X.loc rfl) (b12_q_q_w (by omega) (by omega))) (c_q_q (by omega)) (of_decide_eq_true rfl)) (XQ.cons (XS.setls (X.num _) (c_h_q (by omega)) (of_decide_eq_true rfl)) XQ.nil))) XQ.nil), by omega⟩
  · rw [if_neg (by simp [h1])]
    exact ⟨tk + 11, (XQ.cons (XS.no (X.stop (X.bin (X.loc rfl) (X.num _) (b19_i_i_f (by omega) (by omega) (by omega))) (by decide)) (XQ.cons (XS.setls (X.bin (X.loc rfl) (X.loc rfl) (b12_q_q_w (by omega) (by omega))) (c_q_q (by omega)) (of_decide_eq_true rfl)) (XQ.cons (XS.setls (X.num _) (c_h_q (by omega)) (of_decide_eq_true rfl)) XQ.nil))) XQ.nil), by omega⟩
theorem su_lt (hb : ∀ v ∈ inp, v < 256) (i : Nat) (hi : i ≤ inp.length) : (foldC suF (0, 0) inp i).1 < 18446744073709551616 ∧ (foldC suF (0, 0) inp i).2 < 18446744073709551616 :=
  foldC_inv (P := fun p : Nat × Nat => p.1 < 18446744073709551616 ∧ p.2 < 18446744073709551616) hb (by decide) (fun p c hp _ => by
    unfold suF
    split
    · exact ⟨hp.1, Nat.mod_lt _ (by decide)⟩
    · exact ⟨Nat.mod_lt _ (by decide), (show (0 : Nat) < 18446744073709551616 by decide)⟩) i hi
def suN (inp : List Nat) : Nat := ((inp.foldl suF (0, 0)).1 + (inp.foldl suF (0, 0)).2) % 18446744073709551616
theorem sum_means (hb : ∀ v ∈ inp, v < 256) : ∃ n v s, evF inp sumBd n 1 [] ⟨0, [], 0, 0, [List.replicate 20 0]⟩ = some (.val v s) ∧ s.out = digs (suN inp) ++ [10] ∧ ((200000 < s.tk ∨ 65536 < s.out.length) → 60 < inp.length) := by
  have hc0 : curC inp 0 < 65536 := by rcases cur_ch hb 0 with h | h <;> omega
  have hl := su_lt hb inp.length (Nat.le_refl _)
  have hn : suN inp < 18446744073709551616 := Nat.mod_lt _ (by decide)
  refine fold_means (M := sumM) hb (n := suN inp) (n0 := suN inp) (Fs := fun i => [(foldC suF (0, 0) inp i).1, (foldC suF (0, 0) inp i).2, curC inp i]) (Fb := fun i => [(foldC suF (0, 0) inp (i + 1)).1, (foldC suF (0, 0) inp (i + 1)).2, curC inp i])
    (t0 := 6) (K := 20) (e := 3) rfl ?_ (fun _ _ => rfl) (fun i hi tk => ?_) (fun _ _ => ⟨of_decide_eq_true rfl, rfl⟩) (fun s => ?_) (c_q_q hn) hn (fun h => by omega)
  · rw [foldC_zero]
    exact (XQ.cons (XS.setls (X.num _) (c_h_q (by omega)) (of_decide_eq_true rfl)) (XQ.cons (XS.setls (X.num _) (c_h_q (by omega)) (of_decide_eq_true rfl)) (XQ.cons (XS.setls (X.gets rfl) (c_i_i hc0) (of_decide_eq_true rfl)) XQ.nil)))
  · obtain ⟨h1, h2⟩ := su_lt hb i (by omega)
    show ∃ tk', XQ inp _ sumB _ ⟨[_, _, curC inp i], 0⟩ (.go 0 _ ⟨[(foldC suF (0, 0) inp (i + 1)).1, (foldC suF (0, 0) inp (i + 1)).2, curC inp i], 0⟩) ∧ _
    rw [foldC_succ suF (0, 0) hi]
    exact sum_body h1 h2 (cur_lt hb hi).2 tk [] _ 1 _ 0
  · unfold suN
    rw [← foldC_all]
    generalize foldC suF (0, 0) inp inp.length = p at *
    exact (X.bin (X.loc rfl) (X.loc rfl) (b12_q_q_w (by omega) (by omega)))

/-! ### digits -/
def diF (n c : Nat) : Nat := if isD c then (n + (c - 48)) % 18446744073709551616 else n
def digI : List Sm := [.setl 0 (.num 0) uintT u64T, .setl 1 .get intT intT]
def digB : List Sm := [.ite (.either false (.bin 19 (.loc 1) (.num 48) intT intT) (.bin 17 (.loc 1) (.num 57) intT intT)) [.setl 0 (.bin 12 (.loc 0) (.cast (.bin 13 (.loc 1) (.num 48) intT intT) intT u64T) u64T u64T) u64T u64T] []]
def digE : Ex := .loc 0
def digM : List Sm := digI ++ [.whl (.bin 19 (.loc 1) (.num 0) intT intT) (digB ++ [.setl 1 .get intT intT]), .ex (.call 0 [(digE, u64T, u64T)]), .ret (.num 0) intT intT]
def digBd : List (List Sm × Nat) := [(decB, 2), (digM, 2)]
theorem dig_body {A c : Nat} (hA : A < 18446744073709551616) (hc : c < 256) (tk : Nat) (out : List Nat) (rd cl : Nat) (gl : List (List Nat)) (r : Nat) :
    ∃ tk', XQ inp bd digB ⟨tk, out, rd, cl, gl⟩ ⟨[A, c], r⟩ (.go 0 ⟨tk', out, rd, cl, gl⟩ ⟨[diF A c, c], r⟩) ∧ tk' ≤ tk + 20 := by
  unfold diF isD
  by_cases h1 : 48 ≤ c
  · by_cases h2 : c ≤ 57
    · rw [if_pos (decide_eq_true ⟨h1, h2⟩)]
      exact ⟨tk + 15, (XQ.cons (XS.yes (X.both (X.bin (X.loc rfl) (X.num _) (b19_i_i_t (by omega) (by omega) (by omega))) (by decide) (X.bin (X.loc rfl) (X.num _) (b17_i_i_t (by omega) (by omega) (by omega)))) (by decide) (XQ.cons (XS.setls (X.bin (X.loc rfl) (X.casts (X.bin (X.loc rfl) (X.num _) (b13_i_i_n (by omega) (by omega) (by omega))) (c_i_q (by omega))) (b12_q_q_w (by omega) (by omega))) (c_q_q (by omega)) (of_decide_eq_true rfl)) XQ.nil)) XQ.nil), by omega⟩
    · rw [if_neg (by simp [h2])]
      exact ⟨tk + 8, (XQ.cons (XS.no (X.both (X.bin (X.loc rfl) (X.num _) (b19_i_i_t (by omega) (by omega) (by omega))) (by decide) (X.bin (X.loc rfl) (X.num _) (b17_i_i_f (by omega) (by omega) (by omega)))) XQ.nil) XQ.nil), by omega⟩
  · rw [if_neg (by simp [h1])]
    exact ⟨tk + 5, (XQ.cons (XS.no (X.stop (X.bin (X.loc rfl) (X.num _) (b19_i_i_f (by omega) (by omega) (by omega))) (by decide)) XQ.nil) XQ.nil), by omega⟩
theorem di_lt (hb : ∀ v ∈ inp, v < 256) (i : Nat) (hi : i ≤ inp.length) : foldC diF 0 inp i < 18446744073709551616 :=
  foldC_inv (P := fun p : Nat => p < 18446744073709551616) hb (by decide) (fun p c hp _ => by
    unfold diF
    split
    · exact Nat.mod_lt _ (by decide)
    · exact hp) i hi
def diN (inp : List Nat) : Nat := inp.foldl diF 0
theorem digits_means (hb : ∀ v ∈ inp, v < 256) : ∃ n v s, evF inp digBd n 1 [] ⟨0, [], 0, 0, [List.replicate 20 0]⟩ = some (.val v s) ∧ s.out = digs (diN inp) ++ [10] ∧ ((200000 < s.tk ∨ 65536 < s.out.length) → 60 < inp.length) := by
  have hc0 : curC inp 0 < 65536 := by rcases cur_ch hb 0 with h | h <;> omega
  have hn : diN inp < 18446744073709551616 := by
    have := di_lt hb inp.length (Nat.le_refl _)
    rw [foldC_all] at this
    exact this
  refine fold_means (M := digM) hb (n := diN inp) (n0 := diN inp) (Fs := fun i => [foldC diF 0 inp i, curC inp i]) (Fb := fun i => [foldC diF 0 inp (i + 1), curC inp i])
    (t0 := 4) (K := 20) (e := 1) rfl ?_ (fun _ _ => rfl) (fun i hi tk => ?_) (fun _ _ => ⟨of_decide_eq_true rfl, rfl⟩) (fun s => ?_) (c_q_q hn) hn (fun h => by omega)
  · rw [foldC_zero]
    exact (XQ.cons (XS.setls (X.num _) (c_h_q (by omega)) (of_decide_eq_true rfl)) (XQ.cons (XS.setls (X.gets rfl) (c_i_i hc0) (of_decide_eq_true rfl)) XQ.nil))
  · have h1 := di_lt hb i (by omega)
    show ∃ tk', XQ inp _ digB _ ⟨[_, curC inp i], 0⟩ (.go 0 _ ⟨[foldC diF 0 inp (i + 1), curC inp i], 0⟩) ∧ _
    rw [foldC_succ diF 0 hi]
    exact dig_body h1 (cur_lt hb hi).2 tk [] _ 1 _ 0
  · rw [foldC_all]
    exact (X.loc rfl)
end
end Go.Proofs.YtclpjglkjkbljaaGreat
