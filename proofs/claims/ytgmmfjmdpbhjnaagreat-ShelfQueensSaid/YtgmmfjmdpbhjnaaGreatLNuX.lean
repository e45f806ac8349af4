/-
  What queens means, plainly.
-/
import Derived.Test.YtgmmfjmdpbhjnaaGreatLNuS
import Derived.Test.YtgmmfjmdpbhjnaaGreatJPc
namespace Go.Proofs.YtgmmfjmdpbhjnaaGreat

/-- two codes of sixteen bits are the same number if they are the same -/
theorem eq_ii {p q : Nat} (h1 : p < 65536) (h2 : q < 65536) : binN 20 p q intT intT = some (if p = q then 1 else 0) := by
  rw [bn_com (c := intT) (by omega) rfl (cv_ii h1) (cv_ii h2)]
  show some (truthN (!lessN p q 16 true && !lessN q p 16 true)) = _
  have L : ∀ a b, lessN a b 16 true = decide (sgnN a 16 < sgnN b 16) := fun a b => rfl
  have S : ∀ x, x < 65536 → sgnN x 16 = if x < 32768 then (x : Int) else (x : Int) - 65536 := fun x h => by
    unfold sgnN
    simp only [Nat.reducePow]
    rw [Nat.mod_eq_of_lt h]
    split <;> split <;> omega
  rw [L, L, S p h1, S q h2]
  by_cases e : p = q
  · subst e
    rw [if_pos rfl]
    simp [truthN]
  · rw [if_neg e]
    by_cases hl : (if p < 32768 then (p : Int) else (p : Int) - 65536) < (if q < 32768 then (q : Int) else (q : Int) - 65536)
    · rw [decide_eq_true hl]; rfl
    · rw [decide_eq_false hl, decide_eq_true (show (if q < 32768 then (q : Int) else (q : Int) - 65536) < (if p < 32768 then (p : Int) else (p : Int) - 65536) by revert hl; split <;> split <;> omega)]; rfl
theorem eq_ii0 {p q : Nat} (h1 : p < 65536) (h2 : q < 65536) (h : p ≠ q) : binN 20 p q intT intT = some 0 := by rw [eq_ii h1 h2, if_neg h]
theorem eq_ii1 {p q : Nat} (h1 : p < 65536) (h2 : q < 65536) (h : p = q) : binN 20 p q intT intT = some 1 := by rw [eq_ii h1 h2, if_pos h]
/-- a queen in row k, column x, and one in a row below, column c -/
def cfB (row c k x : Nat) : Bool := c == x || c + k == x + row || c + row == x + k
def okB (T : List Nat) (c : Nat) : Bool := (List.range T.length).all fun k => !cfB T.length c k (T.getD k 0)
def sumF (f : Nat → Nat) : Nat → Nat
  | 0 => 0
  | c + 1 => sumF f c + f c
/-- in how many ways so many more queens stand -/
def wayN : Nat → List Nat → Nat → Nat
  | 0, _, _ => 1
  | m + 1, T, n => sumF (fun c => if okB T c then wayN m (T ++ [c]) n else 0) n
def cstQ : Nat → List Nat → Nat → Nat
  | 0, _, _ => 40
  | m + 1, T, n => 60 + sumF (fun c => 60 + 45 * T.length + (if okB T c then cstQ m (T ++ [c]) n else 0)) n
theorem sumF_le {f : Nat → Nat} {B : Nat} (h : ∀ c, f c ≤ B) : ∀ n, sumF f n ≤ n * B
  | 0 => Nat.zero_le _
  | n + 1 => by
    have := sumF_le h n
    have := h n
    show sumF f n + f n ≤ _
    rw [Nat.succ_mul]
    omega
theorem wayN_le {n : Nat} (hn : n ≤ 5) : ∀ m T, wayN m T n ≤ 5 ^ m
  | 0, _ => Nat.le_refl _
  | m + 1, T => by
    have h : ∀ c, (if okB T c then wayN m (T ++ [c]) n else 0) ≤ 5 ^ m := fun c => by
      split
      · exact wayN_le hn m _
      · exact Nat.zero_le _
    have h1 := sumF_le h n
    have h2 : n * 5 ^ m ≤ 5 * 5 ^ m := Nat.mul_le_mul_right _ hn
    rw [Nat.pow_succ']
    exact Nat.le_trans h1 h2
section
variable {inp : List Nat}
def queJ : List Sm := [.setl 4 (.num 0) intT intT]
def queK : Ex := .bin 16 (.loc 4) (.loc 0) intT intT
def queL0 : Sm := .setl 5 (.bin 13 (.loc 3) (.elt 1 8 (.loc 4) intT) intT u8T) intT intT
def queL1 : Sm := .ite (.either true (.either true (.bin 20 (.loc 5) (.num 0) intT intT) (.bin 20 (.loc 5) (.bin 13 (.loc 0) (.loc 4) intT intT) intT intT)) (.bin 20 (.loc 5) (.bin 13 (.loc 4) (.loc 0) intT intT) intT intT)) [.brk] []
def queL : List Sm := [queL0, queL1]
def queN : List Sm := [.setl 4 (.bin 12 (.loc 4) (.num 1) intT intT) intT intT]
def queF : Sm := .for queJ (some queK) queL queN
def queI : Sm := .ite (.bin 20 (.loc 4) (.loc 0) intT intT) [.seta 1 8 (.loc 0) intT (.loc 3) intT u8T, .setl 2 (.bin 12 (.loc 2) (.call 2 [(.bin 12 (.loc 0) (.num 1) intT intT, intT, intT), (.loc 1, intT, intT)]) u32T u32T) u32T u32T] []
def queW : List Sm := [queF, queI]
def queC : Ex := .bin 16 (.loc 3) (.loc 1) intT intT
def queZ : List Sm := [.setl 3 (.bin 12 (.loc 3) (.num 1) intT intT) intT intT]
def queY : List Sm := [.setl 3 (.num 0) intT intT]
def queH : List Sm := [.setl 2 (.num 0) uintT u32T, .setz 3, .setz 4]
def queE : Sm := .ite (.bin 20 (.loc 0) (.loc 1) intT intT) [.ret (.num 1) uintT u32T] []
def queR : List Sm := [.ret (.loc 2) u32T u32T]
def queB : List Sm := queH ++ (queE :: .for queY (some queC) queW queZ :: queR)
def queM : List Sm := [.ex (.call 0 [(.call 2 [(.num 0, intT, intT), (.call 1 [], u64T, intT)], u32T, u64T)]), .ret (.num 0) intT intT]
def queBd : List (List Sm × Nat) := [(decB, 2), (numB, 2), (queB, 6), (queM, 0)]
/-- is a place free? from one row on -/
theorem que_in {row n all c : Nat} {T : List Nat} (hrow : T.length = row) (h5 : row < 8) (hc : c < 8) (hT : ∀ x ∈ T, x < 8) (rd cl : Nat) (buf col : List Nat) (hcol : col.take row = T) (r : Nat) : ∀ (m k d tk : Nat), k + m = row →
    ∃ k' d' tk', XL inp queBd queK queL queN ⟨tk, [], rd, cl, [buf, col]⟩ ⟨[row, n, all, c, k, d], r⟩ (.go 0 ⟨tk', [], rd, cl, [buf, col]⟩ ⟨[row, n, all, c, k', d'], r⟩) ∧ k' ≤ row ∧ (k' = row ↔ ∀ i, k ≤ i → i < row → cfB row c i (T.getD i 0) = false) ∧ tk' ≤ tk + 42 * m + 5
  | 0, k, d, tk, hk => by
    have hk : row ≤ k := by omega
    have hx : X inp queBd queK (Ms.tick ⟨tk, [], rd, cl, [buf, col]⟩) [row, n, all, c, k, d] (.val 0 ⟨tk + 1 + 3, [], rd, cl, [buf, col]⟩) := (X.bin (X.loc rfl) (X.loc rfl) (b16_i_i_f (by omega) (by omega) (by omega)))
    exact ⟨k, d, _, XL.done hx, by omega, ⟨fun _ i h1 h2 => by omega, fun _ => by omega⟩, by omega⟩
  | m + 1, k, d, tk, hk => by
    have hlt : k < row := by omega
    have hx : X inp queBd queK (Ms.tick ⟨tk, [], rd, cl, [buf, col]⟩) [row, n, all, c, k, d] (.val 1 ⟨tk + 1 + 3, [], rd, cl, [buf, col]⟩) := (X.bin (X.loc rfl) (X.loc rfl) (b16_i_i_t (by omega) (by omega) (by omega)))
    obtain ⟨x, hTx⟩ : ∃ x, T[k]? = some x := ⟨_, List.getElem?_eq_getElem (by omega)⟩
    have hload : col[k]? = some x := by
      rw [← hcol, List.getElem?_take, if_pos hlt] at hTx
      exact hTx
    have hx8 := hT x (List.mem_of_getElem? hTx)
    have hgd : T.getD k 0 = x := by rw [List.getD_eq_getElem?_getD, hTx]; rfl
    obtain ⟨e, he⟩ : ∃ e, e = (c + (65536 - x)) % 65536 := ⟨_, rfl⟩
    have hL0 : XS inp queBd queL0 ⟨tk + 1 + 3, [], rd, cl, [buf, col]⟩ ⟨[row, n, all, c, k, d], r⟩ (.go 0 ⟨tk + 1 + 3 + 5, [], rd, cl, [buf, col]⟩ ⟨[row, n, all, c, k, e], r⟩) := by
      rw [he]
      exact (XS.setls (X.bin (X.loc rfl) (X.elt (X.loc rfl) (c_i_h (by omega)) (by omega) hload) (b13_i_b_w (by omega) (by omega))) (c_i_i (by omega)) (of_decide_eq_true rfl))
    have he2 : e < 65536 := by omega
    by_cases hA : c = x
    · have qA : binN 20 e 0 intT intT = some 1 := eq_ii1 he2 (by omega) (by omega)
      have hL1 : XS inp queBd queL1 ⟨tk + 1 + 3 + 5, [], rd, cl, [buf, col]⟩ ⟨[row, n, all, c, k, e], r⟩ (.go 2 ⟨tk + 1 + 3 + 5 + 7, [], rd, cl, [buf, col]⟩ ⟨[row, n, all, c, k, e], r⟩) := (XS.yes (X.stop (X.stop (X.bin (X.loc rfl) (X.num _) qA) (by decide)) (by decide)) (by decide) (XQ.stop XS.brk (by decide)))
      refine ⟨k, e, _, XL.brk hx (by decide) (XQ.cons hL0 (XQ.stop hL1 (by decide))), by omega, ⟨fun h => by omega, fun h => ?_⟩, by omega⟩
      have := h k (Nat.le_refl _) hlt
      rw [hgd] at this
      unfold cfB at this
      simp [hA] at this
    · have qA : binN 20 e 0 intT intT = some 0 := eq_ii0 he2 (by omega) (by omega)
      by_cases hB : c + k = x + row
      · have qB : binN 20 e (row - k) intT intT = some 1 := eq_ii1 he2 (by omega) (by omega)
        have hL1 : XS inp queBd queL1 ⟨tk + 1 + 3 + 5, [], rd, cl, [buf, col]⟩ ⟨[row, n, all, c, k, e], r⟩ (.go 2 ⟨tk + 1 + 3 + 5 + 12, [], rd, cl, [buf, col]⟩ ⟨[row, n, all, c, k, e], r⟩) := (XS.yes (X.stop (X.both (X.bin (X.loc rfl) (X.num _) qA) (by decide) (X.bin (X.loc rfl) (X.bin (X.loc rfl) (X.loc rfl) (b13_i_i_n (by omega) (by omega) (by omega))) qB)) (by decide)) (by decide) (XQ.stop XS.brk (by decide)))
        refine ⟨k, e, _, XL.brk hx (by decide) (XQ.cons hL0 (XQ.stop hL1 (by decide))), by omega, ⟨fun h => by omega, fun h => ?_⟩, by omega⟩
        have := h k (Nat.le_refl _) hlt
        rw [hgd] at this
        unfold cfB at this
        simp [hB] at this
      · have qB : binN 20 e (row - k) intT intT = some 0 := eq_ii0 he2 (by omega) (by omega)
        by_cases hC : c + row = x + k
        · have qC : binN 20 e ((k + (65536 - row)) % 65536) intT intT = some 1 := eq_ii1 he2 (by omega) (by omega)
          have hL1 : XS inp queBd queL1 ⟨tk + 1 + 3 + 5, [], rd, cl, [buf, col]⟩ ⟨[row, n, all, c, k, e], r⟩ (.go 2 ⟨tk + 1 + 3 + 5 + 17, [], rd, cl, [buf, col]⟩ ⟨[row, n, all, c, k, e], r⟩) := (XS.yes (X.both (X.both (X.bin (X.loc rfl) (X.num _) qA) (by decide) (X.bin (X.loc rfl) (X.bin (X.loc rfl) (X.loc rfl) (b13_i_i_n (by omega) (by omega) (by omega))) qB)) (by decide) (X.bin (X.loc rfl) (X.bin (X.loc rfl) (X.loc rfl) (b13_i_i_w (by omega) (by omega))) qC)) (by decide) (XQ.stop XS.brk (by decide)))
          refine ⟨k, e, _, XL.brk hx (by decide) (XQ.cons hL0 (XQ.stop hL1 (by decide))), by omega, ⟨fun h => by omega, fun h => ?_⟩, by omega⟩
          have := h k (Nat.le_refl _) hlt
          rw [hgd] at this
          unfold cfB at this
          simp [hC] at this
        · have qC : binN 20 e ((k + (65536 - row)) % 65536) intT intT = some 0 := eq_ii0 he2 (by omega) (by omega)
          have hL1 : XS inp queBd queL1 ⟨tk + 1 + 3 + 5, [], rd, cl, [buf, col]⟩ ⟨[row, n, all, c, k, e], r⟩ (.go 0 ⟨tk + 1 + 3 + 5 + 16, [], rd, cl, [buf, col]⟩ ⟨[row, n, all, c, k, e], r⟩) := (XS.no (X.both (X.both (X.bin (X.loc rfl) (X.num _) qA) (by decide) (X.bin (X.loc rfl) (X.bin (X.loc rfl) (X.loc rfl) (b13_i_i_n (by omega) (by omega) (by omega))) qB)) (by decide) (X.bin (X.loc rfl) (X.bin (X.loc rfl) (X.loc rfl) (b13_i_i_w (by omega) (by omega))) qC)) XQ.nil)
          have hN : XQ inp queBd queN ⟨tk + 1 + 3 + 5 + 16, [], rd, cl, [buf, col]⟩ ⟨[row, n, all, c, k, e], r⟩ (.go 0 ⟨tk + 1 + 3 + 5 + 16 + 4, [], rd, cl, [buf, col]⟩ ⟨[row, n, all, c, k + 1, e], r⟩) := (XQ.cons (XS.setls (X.bin (X.loc rfl) (X.num _) (b12_i_i_n (by omega) (by omega) (by omega))) (c_i_i (by omega)) (of_decide_eq_true rfl)) XQ.nil)
          obtain ⟨k', d', tk', h1, h2, h3, h4⟩ := que_in (n := n) (all := all) hrow h5 hc hT rd cl buf col hcol r m (k + 1) e (tk + 1 + 3 + 5 + 16 + 4) (by omega)
          refine ⟨k', d', tk', XL.step hx (by decide) (XQ.cons hL0 (XQ.cons hL1 XQ.nil)) (.inl rfl) hN h1, h2, h3.trans ⟨fun h i i1 i2 => ?_, fun h i i1 i2 => h i (by omega) i2⟩, by omega⟩
          by_cases hi : i = k
          · subst hi
            rw [hgd]
            unfold cfB
            simp [hA, hB, hC]
          · exact h i (by omega) i2
def wfQ (m : Nat) (T : List Nat) (n c : Nat) : Nat := if okB T c then wayN m (T ++ [c]) n else 0
def kfQ (m : Nat) (T : List Nat) (n c : Nat) : Nat := 60 + 45 * T.length + (if okB T c then cstQ m (T ++ [c]) n else 0)
theorem que_loop {m n row : Nat} {T : List Nat} (hrow : T.length = row) (hn : n ≤ 5) (hm : m ≤ 5) (hlt : row < n) (hT : ∀ x ∈ T, x < 8) (rd cl : Nat) (hcl : cl < 50) (buf : List Nat)
    (H : ∀ c, c < n → ∀ (tk : Nat) (col : List Nat), col.length = 8 → col.take (row + 1) = T ++ [c] → ∃ tk' col', XF inp queBd 2 [row + 1, n] ⟨tk, [], rd, cl, [buf, col]⟩ (.val (wayN m (T ++ [c]) n) ⟨tk', [], rd, cl, [buf, col']⟩) ∧ col'.length = 8 ∧ col'.take (row + 1) = T ++ [c] ∧ tk' ≤ tk + cstQ m (T ++ [c]) n) :
    ∀ (j c k d tk : Nat) (col : List Nat), c + j = n → col.length = 8 → col.take row = T →
      ∃ k' d' tk' col', XL inp queBd queC queW queZ ⟨tk, [], rd, cl, [buf, col]⟩ ⟨[row, n, sumF (wfQ m T n) c, c, k, d], 0⟩ (.go 0 ⟨tk', [], rd, cl, [buf, col']⟩ ⟨[row, n, sumF (wfQ m T n) n, n, k', d'], 0⟩) ∧ col'.length = 8 ∧ col'.take row = T ∧ tk' + sumF (kfQ m T n) c ≤ tk + sumF (kfQ m T n) n + 6
  | 0, c, k, d, tk, col, hj, h8, hcol => by
    obtain rfl : c = n := by omega
    have hx : X inp queBd queC (Ms.tick ⟨tk, [], rd, cl, [buf, col]⟩) [row, c, sumF (wfQ m T c) c, c, k, d] (.val 0 ⟨tk + 1 + 3, [], rd, cl, [buf, col]⟩) := (X.bin (X.loc rfl) (X.loc rfl) (b16_i_i_f (by omega) (by omega) (by omega)))
    exact ⟨k, d, _, col, XL.done hx, h8, hcol, by omega⟩
  | j + 1, c, k, d, tk, col, hj, h8, hcol => by
    have hc : c < n := by omega
    have hW : ∀ c, wfQ m T n c ≤ 3125 := fun c => by
      unfold wfQ
      split
      · exact Nat.le_trans (wayN_le hn m _) (show 5 ^ m ≤ 5 ^ 5 from Nat.pow_le_pow_right (by decide) hm)
      · exact Nat.zero_le _
    have hsum := sumF_le hW c
    have hc3 : c * 3125 ≤ 5 * 3125 := Nat.mul_le_mul_right _ (by omega)
    have hWc := hW c
    have e1 : sumF (wfQ m T n) (c + 1) = sumF (wfQ m T n) c + wfQ m T n c := rfl
    have e2 : sumF (kfQ m T n) (c + 1) = sumF (kfQ m T n) c + kfQ m T n c := rfl
    generalize hall : sumF (wfQ m T n) c = all at *
    have hx : X inp queBd queC (Ms.tick ⟨tk, [], rd, cl, [buf, col]⟩) [row, n, all, c, k, d] (.val 1 ⟨tk + 1 + 3, [], rd, cl, [buf, col]⟩) := (X.bin (X.loc rfl) (X.loc rfl) (b16_i_i_t (by omega) (by omega) (by omega)))
    have hJ : ∀ (t : Nat), XQ inp queBd queJ ⟨t, [], rd, cl, [buf, col]⟩ ⟨[row, n, all, c, k, d], 0⟩ (.go 0 ⟨t + 2, [], rd, cl, [buf, col]⟩ ⟨[row, n, all, c, 0, d], 0⟩) := fun t => (XQ.cons (XS.setls (X.num _) (c_i_i (by omega)) (of_decide_eq_true rfl)) XQ.nil)
    obtain ⟨k', d', t1, h1, h2, h3, h4⟩ := que_in (inp := inp) (n := n) (all := all) hrow (by omega) (show c < 8 by omega) hT rd cl buf col hcol 0 row 0 d (tk + 1 + 3 + 1 + 2) (by omega)
    have hF : XS inp queBd queF ⟨tk + 1 + 3, [], rd, cl, [buf, col]⟩ ⟨[row, n, all, c, k, d], 0⟩ (.go 0 ⟨t1, [], rd, cl, [buf, col]⟩ ⟨[row, n, all, c, k', d'], 0⟩) := XS.for (hJ _) h1
    have hok : okB T c = true ↔ k' = row := by
      rw [h3]
      unfold okB
      rw [List.all_eq_true, hrow]
      refine ⟨fun h i _ i2 => ?_, fun h i i2 => ?_⟩
      · have := h i (List.mem_range.2 i2)
        simpa using this
      · have := h i (Nat.zero_le _) (List.mem_range.1 i2)
        rw [this]; rfl
    by_cases hk : k' = row
    · have ho := hok.2 hk
      subst hk
      have htk : (col.set k' c).take (k' + 1) = T ++ [c] := by rw [take_set (by omega), hcol]
      obtain ⟨t2, col', q1, q2, q3, q4⟩ := H c hc (t1 + 15) (col.set k' c) (by rw [List.length_set]; exact h8) htk
      have ew : wfQ m T n c = wayN m (T ++ [c]) n := if_pos ho
      have ek : kfQ m T n c = 60 + 45 * T.length + cstQ m (T ++ [c]) n := by unfold kfQ; rw [if_pos ho]
      rw [← ew] at q1
      have hI : XS inp queBd queI ⟨t1, [], rd, cl, [buf, col]⟩ ⟨[k', n, all, c, k', d'], 0⟩ (.go 0 ⟨t2, [], rd, cl, [buf, col']⟩ ⟨[k', n, all + wfQ m T n c, c, k', d'], 0⟩) := (XS.yes (X.bin (X.loc rfl) (X.loc rfl) (b20_i_i_t (by omega) (by omega) (by omega))) (by decide) (XQ.cons (XS.setas (X.loc rfl) (c_i_h (by omega)) (by omega) (X.loc rfl) (c_i_b (by omega))) (XQ.cons (XS.setls (X.bin (X.loc rfl) (X.call (XA.conss (X.bin (X.loc rfl) (X.num _) (b12_i_i_n (by omega) (by omega) (by omega))) (c_i_i (by omega)) (XA.conss (X.loc rfl) (c_i_i (by omega)) (XA.nil _))) q1) (b12_w_w_n (by omega) (by omega) (by omega))) (c_w_w (by omega)) (of_decide_eq_true rfl)) XQ.nil)))
      have hZ : XQ inp queBd queZ ⟨t2, [], rd, cl, [buf, col']⟩ ⟨[k', n, all + wfQ m T n c, c, k', d'], 0⟩ (.go 0 ⟨t2 + 4, [], rd, cl, [buf, col']⟩ ⟨[k', n, all + wfQ m T n c, c + 1, k', d'], 0⟩) := (XQ.cons (XS.setls (X.bin (X.loc rfl) (X.num _) (b12_i_i_n (by omega) (by omega) (by omega))) (c_i_i (by omega)) (of_decide_eq_true rfl)) XQ.nil)
      have hcol' : col'.take k' = T := by
        have := congrArg (List.take k') q3
        rw [List.take_take, Nat.min_eq_left (Nat.le_succ _), List.take_left' hrow] at this
        exact this
      obtain ⟨k2, d2, t3, c3, r1, r2, r3, r4⟩ := que_loop hrow hn hm hlt hT rd cl hcl buf H j (c + 1) k' d' (t2 + 4) col' (by omega) q2 hcol'
      rw [e1] at r1
      exact ⟨k2, d2, t3, c3, XL.step hx (by decide) (XQ.cons hF (XQ.cons hI XQ.nil)) (.inl rfl) hZ r1, r2, r3, by omega⟩
    · have ho : okB T c = false := by
        cases h : okB T c with
        | false => rfl
        | true => exact absurd (hok.1 h) hk
      have ew : wfQ m T n c = 0 := by unfold wfQ; rw [ho]; rfl
      have ek : kfQ m T n c = 60 + 45 * T.length := by unfold kfQ; rw [ho]; rfl
      rw [ew, Nat.add_zero] at e1
      have hI : XS inp queBd queI ⟨t1, [], rd, cl, [buf, col]⟩ ⟨[row, n, all, c, k', d'], 0⟩ (.go 0 ⟨t1 + 4, [], rd, cl, [buf, col]⟩ ⟨[row, n, all, c, k', d'], 0⟩) := (XS.no (X.bin (X.loc rfl) (X.loc rfl) (b20_i_i_f (by omega) (by omega) (by omega))) XQ.nil)
      have hZ : XQ inp queBd queZ ⟨t1 + 4, [], rd, cl, [buf, col]⟩ ⟨[row, n, all, c, k', d'], 0⟩ (.go 0 ⟨t1 + 4 + 4, [], rd, cl, [buf, col]⟩ ⟨[row, n, all, c + 1, k', d'], 0⟩) := (XQ.cons (XS.setls (X.bin (X.loc rfl) (X.num _) (b12_i_i_n (by omega) (by omega) (by omega))) (c_i_i (by omega)) (of_decide_eq_true rfl)) XQ.nil)
      obtain ⟨k2, d2, t3, c3, r1, r2, r3, r4⟩ := que_loop hrow hn hm hlt hT rd cl hcl buf H j (c + 1) k' d' (t1 + 4 + 4) col (by omega) h8 hcol
      rw [e1] at r1
      exact ⟨k2, d2, t3, c3, XL.step hx (by decide) (XQ.cons hF (XQ.cons hI XQ.nil)) (.inl rfl) hZ r1, r2, r3, by omega⟩
theorem que_run {n : Nat} (hn : n ≤ 5) (rd : Nat) (buf : List Nat) : ∀ (m : Nat) (T : List Nat) (cl tk : Nat) (col : List Nat), T.length + m = n → (∀ x ∈ T, x < 8) → cl + m < 50 → col.length = 8 → col.take T.length = T →
    ∃ tk' col', XF inp queBd 2 [T.length, n] ⟨tk, [], rd, cl, [buf, col]⟩ (.val (wayN m T n) ⟨tk', [], rd, cl, [buf, col']⟩) ∧ col'.length = 8 ∧ col'.take T.length = T ∧ tk' ≤ tk + cstQ m T n
  | 0, T, cl, tk, col, hl, hT, hc, h8, hcol => by
    have hl : T.length = n := by omega
    rw [hl]
    have hH : XQ inp queBd queH ⟨tk, [], rd, cl + 1, [buf, col]⟩ ⟨[n, n, 0, 0, 0, 0], 0⟩ (.go 0 ⟨tk + 4, [], rd, cl + 1, [buf, col]⟩ ⟨[n, n, 0, 0, 0, 0], 0⟩) := (XQ.cons (XS.setls (X.num _) (c_h_w (by omega)) (of_decide_eq_true rfl)) (XQ.cons (XS.setz (of_decide_eq_true rfl)) (XQ.cons (XS.setz (of_decide_eq_true rfl)) XQ.nil)))
    have hE : XS inp queBd queE ⟨tk + 4, [], rd, cl + 1, [buf, col]⟩ ⟨[n, n, 0, 0, 0, 0], 0⟩ (.go 1 ⟨tk + 4 + 6, [], rd, cl + 1, [buf, col]⟩ ⟨[n, n, 0, 0, 0, 0], 1⟩) := (XS.yes (X.bin (X.loc rfl) (X.loc rfl) (b20_i_i_t (by omega) (by omega) (by omega))) (by decide) (XQ.stop (XS.rets (X.num _) (c_h_w (by omega))) (by decide)))
    have q : XQ inp queBd queB ⟨tk, [], rd, cl + 1, [buf, col]⟩ ⟨[n, n, 0, 0, 0, 0], 0⟩ (.go 1 ⟨tk + 4 + 6, [], rd, cl + 1, [buf, col]⟩ ⟨[n, n, 0, 0, 0, 0], 1⟩) := XQ.app hH (XQ.stop (XS.yes (X.bin (X.loc rfl) (X.loc rfl) (b20_i_i_t (by omega) (by omega) (by omega))) (by decide) (XQ.stop (XS.rets (X.num _) (c_h_w (by omega))) (by decide))) (by decide))
    refine ⟨_, col, XF.runs (k := 2) rfl (by omega) q, h8, by rw [← hl]; exact hcol, ?_⟩
    show _ ≤ tk + 40
    omega
  | m + 1, T, cl, tk, col, hl, hT, hc, h8, hcol => by
    obtain ⟨row, hrow⟩ : ∃ row, T.length = row := ⟨_, rfl⟩
    rw [hrow] at hl hcol ⊢
    have hlt : row < n := by omega
    have H : ∀ c, c < n → ∀ (tk : Nat) (col : List Nat), col.length = 8 → col.take (row + 1) = T ++ [c] → ∃ tk' col', XF inp queBd 2 [row + 1, n] ⟨tk, [], rd, cl + 1, [buf, col]⟩ (.val (wayN m (T ++ [c]) n) ⟨tk', [], rd, cl + 1, [buf, col']⟩) ∧ col'.length = 8 ∧ col'.take (row + 1) = T ++ [c] ∧ tk' ≤ tk + cstQ m (T ++ [c]) n := fun c hcn tk col h8 hcol => by
      have hl2 : (T ++ [c]).length = row + 1 := by rw [List.length_append, hrow]; rfl
      have := que_run hn rd buf m (T ++ [c]) (cl + 1) tk col (by rw [hl2]; omega) (fun x hx => by
        rcases List.mem_append.1 hx with hx | hx
        · exact hT x hx
        · have : x = c := by simpa using hx
          omega) (by omega) h8 (by rw [hl2]; exact hcol)
      rw [hl2] at this
      exact this
    obtain ⟨k', d', t1, col', h1, h2, h3, h4⟩ := que_loop (inp := inp) hrow hn (by omega) hlt hT rd (cl + 1) (by omega) buf H n 0 0 0 (tk + 4 + 4 + 1 + 2) col (by omega) h8 hcol
    have hH : XQ inp queBd queH ⟨tk, [], rd, cl + 1, [buf, col]⟩ ⟨[row, n, 0, 0, 0, 0], 0⟩ (.go 0 ⟨tk + 4, [], rd, cl + 1, [buf, col]⟩ ⟨[row, n, 0, 0, 0, 0], 0⟩) := (XQ.cons (XS.setls (X.num _) (c_h_w (by omega)) (of_decide_eq_true rfl)) (XQ.cons (XS.setz (of_decide_eq_true rfl)) (XQ.cons (XS.setz (of_decide_eq_true rfl)) XQ.nil)))
    have hE : XS inp queBd queE ⟨tk + 4, [], rd, cl + 1, [buf, col]⟩ ⟨[row, n, 0, 0, 0, 0], 0⟩ (.go 0 ⟨tk + 4 + 4, [], rd, cl + 1, [buf, col]⟩ ⟨[row, n, 0, 0, 0, 0], 0⟩) := (XS.no (X.bin (X.loc rfl) (X.loc rfl) (b20_i_i_f (by omega) (by omega) (by omega))) XQ.nil)
    have hY : XQ inp queBd queY (Ms.tick ⟨tk + 4 + 4, [], rd, cl + 1, [buf, col]⟩) ⟨[row, n, 0, 0, 0, 0], 0⟩ (.go 0 ⟨tk + 4 + 4 + 1 + 2, [], rd, cl + 1, [buf, col]⟩ ⟨[row, n, 0, 0, 0, 0], 0⟩) := (XQ.cons (XS.setls (X.num _) (c_i_i (by omega)) (of_decide_eq_true rfl)) XQ.nil)
    have ew : wayN (m + 1) T n = sumF (wfQ m T n) n := rfl
    have ek : cstQ (m + 1) T n = 60 + sumF (kfQ m T n) n := rfl
    have e0 : sumF (kfQ m T n) 0 = 0 := rfl
    have hwl := wayN_le hn (m + 1) T
    have hp : 5 ^ (m + 1) ≤ 5 ^ 5 := Nat.pow_le_pow_right (by decide) (by omega)
    rw [ew] at hwl
    generalize hg : sumF (wfQ m T n) n = g at *
    have hR : XQ inp queBd queR ⟨t1, [], rd, cl + 1, [buf, col']⟩ ⟨[row, n, g, n, k', d'], 0⟩ (.go 1 ⟨t1 + 2, [], rd, cl + 1, [buf, col']⟩ ⟨[row, n, g, n, k', d'], g⟩) := (XQ.stop (XS.rets (X.loc rfl) (c_w_w (by omega))) (by decide))
    have q : XQ inp queBd queB ⟨tk, [], rd, cl + 1, [buf, col]⟩ ⟨[row, n, 0, 0, 0, 0], 0⟩ (.go 1 ⟨t1 + 2, [], rd, cl + 1, [buf, col']⟩ ⟨[row, n, g, n, k', d'], g⟩) := XQ.app hH (XQ.cons hE (XQ.cons (XS.for hY h1) hR))
    rw [ew]
    exact ⟨_, col', XF.runs (k := 2) rfl (by omega) q, h2, h3, by omega⟩
theorem cst_le {n : Nat} (hn : n ≤ 5) : cstQ n [] n ≤ 150000 := by
  have : n = 0 ∨ n = 1 ∨ n = 2 ∨ n = 3 ∨ n = 4 ∨ n = 5 := by omega
  rcases this with rfl | rfl | rfl | rfl | rfl | rfl <;> exact Nat.le_of_ble_eq_true (by kernel_rfl)
theorem que_means {n : Nat} (hn : n ≤ 5) : ∃ m v s, evF (askL [n]) queBd m 3 [] ⟨0, [], 0, 0, [List.replicate 20 0, List.replicate 8 0]⟩ = some (.val v s) ∧ s.out = digs (wayN n [] n) ++ [10] ∧ s.tk ≤ 200000 ∧ s.out.length ≤ 65536 := by
  obtain ⟨inp, hinp⟩ : ∃ inp, inp = askL [n] := ⟨_, rfl⟩
  have d0 := drop_ask n []
  rw [← hinp] at d0 ⊢
  obtain ⟨t1, h1, k1⟩ := num_read (inp := inp) (bd := queBd) (k := 1) rfl (show n < 18446744073709551616 by omega) d0 5 [] (cl := 1) (by omega) [List.replicate 20 0, List.replicate 8 0]
  generalize min (0 + ((digs n).length + 1)) inp.length = rd1 at *
  rw [Nat.zero_min] at h1
  obtain ⟨t2, col', h2, e8, _, k2⟩ := que_run (inp := inp) hn rd1 (List.replicate 20 0) n [] 1 t1 (List.replicate 8 0) (by simp) (by simp) (by omega) (by simp) (by simp)
  have hc := cst_le hn
  have hw := wayN_le hn n []
  have hp : 5 ^ n ≤ 5 ^ 5 := Nat.pow_le_pow_right (by decide) hn
  generalize wayN n [] n = g at *
  have h2' : XF inp queBd 2 [0, n] ⟨t1, [], rd1, 1, [List.replicate 20 0, List.replicate 8 0]⟩ (.val g ⟨t2, [], rd1, 1, [List.replicate 20 0, col']⟩) := h2
  obtain ⟨t4, b', h4, k4, k5⟩ := dec_means (inp := inp) (bd := queBd) (k := 0) rfl (show g < 18446744073709551616 by omega) t2 [] rd1 (cl := 1) (by omega) (b := List.replicate 20 0) (by simp) [col']
  have q : XQ inp queBd queM ⟨0, [], 0, 1, [List.replicate 20 0, List.replicate 8 0]⟩ ⟨[], 0⟩ (.go 1 ⟨t4 + 2, [] ++ (digs g ++ [10]), rd1, 1, [b', col']⟩ ⟨[], 0⟩) := (XQ.cons (XS.ex (X.call (XA.conss (X.call (XA.conss (X.num _) (c_i_i (by omega)) (XA.conss (X.call (XA.nil _) h1) (c_q_i (by omega)) (XA.nil _))) h2') (c_w_q (by omega)) (XA.nil _)) h4)) (XQ.stop (XS.rets (X.num _) (c_i_i (by omega))) (by decide)))
  have hl := line_short (show g < 18446744073709551616 by omega)
  exact means_le (XF.runs (k := 3) rfl (by omega) q) (by omega) (by omega)
end
end Go.Proofs.YtgmmfjmdpbhjnaaGreat
