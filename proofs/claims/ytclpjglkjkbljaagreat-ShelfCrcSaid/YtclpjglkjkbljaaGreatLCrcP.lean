/-
  What crc means, plainly.
-/
import Derived.Test.YtclpjglkjkbljaaGreatLFolP
import Derived.Test.YtclpjglkjkbljaaGreatLHoD
namespace Go.Proofs.YtclpjglkjkbljaaGreat

/-- one bit's step; so many -/
def crS (x : Nat) : Nat := if x &&& 32768 = 0 then x * 2 % 65536 else (x * 2 % 65536) ^^^ 4129
def itr (x : Nat) : Nat → Nat
  | 0 => x
  | k + 1 => crS (itr x k)
def crF (r c : Nat) : Nat := itr (r ^^^ c * 256) 8
theorem crS_lt (x : Nat) : crS x < 65536 := by
  unfold crS
  split
  · exact Nat.mod_lt _ (by decide)
  · exact Nat.xor_lt_two_pow (n := 16) (Nat.mod_lt _ (by decide)) (by decide)
theorem itr_lt {x : Nat} (h : x < 65536) : ∀ k, itr x k < 65536
  | 0 => h
  | _ + 1 => crS_lt _
theorem and_hi (x : Nat) (h : x < 65536) : (x &&& 32768 = 0) ↔ x < 32768 := by
  have hb : ∀ i, (32768 : Nat).testBit i = decide (15 = i) := fun i => Nat.testBit_two_pow (n := 15) (m := i)
  constructor
  · intro e
    by_cases hx : x < 32768
    · exact hx
    · exfalso
      have h1 : (x &&& 32768).testBit 15 = false := by rw [e]; exact Nat.zero_testBit 15
      rw [Nat.testBit_and, hb, Nat.testBit_eq_decide_div_mod_eq, show x / 2 ^ 15 = 1 by omega] at h1
      simp at h1
  · intro hx
    apply Nat.eq_of_testBit_eq
    intro i
    rw [Nat.testBit_and, hb, Nat.zero_testBit]
    by_cases hi : 15 = i
    · subst hi
      rw [Nat.testBit_lt_two_pow (show x < 2 ^ 15 from hx)]; rfl
    · rw [decide_eq_false hi]; simp
theorem xor_hi (y : Nat) (h : y < 65536) : (65536 + y) ^^^ 65536 = y := by
  have e : 65536 + y = 65536 ||| y := Nat.two_pow_add_eq_or_of_lt (i := 16) h 1
  rw [e]
  apply Nat.eq_of_testBit_eq
  intro i
  have hb : (65536 : Nat).testBit i = decide (16 = i) := Nat.testBit_two_pow (n := 16) (m := i)
  rw [Nat.testBit_xor, Nat.testBit_or, hb]
  by_cases hi : 16 = i
  · subst hi
    rw [Nat.testBit_lt_two_pow (show y < 2 ^ 16 from h)]; rfl
  · rw [decide_eq_false hi]; simp
theorem crS_eq {x : Nat} (h : x < 65536) : crS x = if 65536 ≤ 2 * x then ((2 * x) ^^^ 65536) ^^^ 4129 else 2 * x := by
  unfold crS
  by_cases hx : x < 32768
  · rw [if_pos ((and_hi x h).2 hx), if_neg (by omega)]; omega
  · rw [if_neg (fun e => hx ((and_hi x h).1 e)), if_pos (by omega), show 2 * x = 65536 + x * 2 % 65536 by omega, xor_hi _ (Nat.mod_lt _ (by decide))]
section
variable {inp : List Nat} {bd : List (List Sm × Nat)}
def crcI : List Sm := [.setl 0 (.num 65535) uintT uintT, .setl 1 .get intT intT]
def crcX : Sm := .setl 0 (.bin 23 (.loc 0) (.bin 14 (.cast (.loc 1) intT uintT) (.num 8) uintT intT) uintT uintT) uintT uintT
def crcJ : List Sm := [.setl 2 (.num 0) intT intT]
def crcC : Ex := .bin 16 (.loc 2) (.num 8) intT intT
def crcQ : Ex := .bin 22 (.loc 0) (.num 32768) uintT uintT
def crcY : List Sm := [.setl 0 (.bin 23 (.bin 14 (.loc 0) (.num 1) uintT intT) (.num 4129) uintT uintT) uintT uintT]
def crcN : List Sm := [.setl 0 (.bin 14 (.loc 0) (.num 1) uintT intT) uintT uintT]
def crcW : List Sm := [.ite crcQ crcY crcN]
def crcS : List Sm := [.setl 2 (.bin 12 (.loc 2) (.num 1) intT intT) intT intT]
def crcZ : Sm := .setz 2
def crcB : List Sm := [crcZ, crcX, .for crcJ (some crcC) crcW crcS]
def crcE : Ex := .loc 0
def crcM : List Sm := crcI ++ [.whl (.bin 19 (.loc 1) (.num 0) intT intT) (crcB ++ [.setl 1 .get intT intT]), .ex (.call 0 [(crcE, uintT, u64T)]), .ret (.num 0) intT intT]
def crcBd : List (List Sm × Nat) := [(decB, 2), (crcM, 3)]
theorem crc_step {x c k : Nat} (hx : x < 65536) (tk : Nat) (out : List Nat) (rd cl : Nat) (gl : List (List Nat)) (r : Nat) :
    ∃ tk', XQ inp bd crcW ⟨tk, out, rd, cl, gl⟩ ⟨[x, c, k], r⟩ (.go 0 ⟨tk', out, rd, cl, gl⟩ ⟨[crS x, c, k], r⟩) ∧ tk' ≤ tk + 12 := by
  have hm := Nat.mod_lt (x * 2 ^ 1) (show 65536 > 0 by decide)
  have hxl : (x * 2 ^ 1 % 65536) ^^^ 4129 < 65536 := Nat.xor_lt_two_pow (n := 16) hm (by decide)
  unfold crS
  by_cases h : x &&& 32768 = 0
  · rw [if_pos h]
    have hz : binN 22 x 32768 uintT uintT = some 0 := by rw [b22_h_h (by omega) (by omega), h]
    exact ⟨tk + 8, (XQ.cons (XS.no (X.bin (X.loc rfl) (X.num _) hz) (XQ.cons (XS.setls (X.bin (X.loc rfl) (X.num _) (b14_h_i_w (by omega) (by omega) (by omega))) (c_h_h (by omega)) (of_decide_eq_true rfl)) XQ.nil)) XQ.nil), by omega⟩
  · rw [if_neg h]
    exact ⟨tk + 10, (XQ.cons (XS.yes (X.bin (X.loc rfl) (X.num _) (b22_h_h (by omega) (by omega))) h (XQ.cons (XS.setls (X.bin (X.bin (X.loc rfl) (X.num _) (b14_h_i_w (by omega) (by omega) (by omega))) (X.num _) (b23_h_h (by omega) (by omega))) (c_h_h (by omega)) (of_decide_eq_true rfl)) XQ.nil)) XQ.nil), by omega⟩
theorem crc_loop {x c : Nat} (hx : x < 65536) (k0 tk : Nat) (out : List Nat) (rd cl : Nat) (gl : List (List Nat)) (r : Nat) :
    ∃ tk', XS inp bd (.for crcJ (some crcC) crcW crcS) ⟨tk, out, rd, cl, gl⟩ ⟨[x, c, k0], r⟩ (.go 0 ⟨tk', out, rd, cl, gl⟩ ⟨[itr x 8, c, 8], r⟩) ∧ tk' ≤ tk + 180 := by
  obtain ⟨tk', h1, h2⟩ := XL.count (inp := inp) (bd := bd) (C := crcC) (B := crcW) (S := crcS) (N := 8) (K := 16) (c := 4) (r := r) (cl := cl) (O := fun _ => out) (R := fun _ => rd) (Q := fun _ => rd) (G := fun _ => gl) (Fs := fun k => [itr x k, c, k])
    (fun i hi tk => by
      by_cases hlt : i < 8
      · exact ⟨1, tk + 1 + 3, (X.bin (X.loc rfl) (X.num _) (b16_i_i_t (by omega) (by omega) (by omega))), by omega, by simp; omega⟩
      · have hlt : 8 ≤ i := by omega
        exact ⟨0, tk + 1 + 3, (X.bin (X.loc rfl) (X.num _) (b16_i_i_f (by omega) (by omega) (by omega))), by omega, by simp; omega⟩)
    (fun i hi tk => by
      obtain ⟨tk1, q1, q2⟩ := crc_step (inp := inp) (bd := bd) (c := c) (k := i) (itr_lt hx i) tk out rd cl gl r
      exact ⟨0, _, _, tk1 + 4, q1, .inl rfl, (XQ.cons (XS.setls (X.bin (X.loc rfl) (X.num _) (b12_i_i_n (by omega) (by omega) (by omega))) (c_i_i (by omega)) (of_decide_eq_true rfl)) XQ.nil), by omega⟩) (tk + 1 + 2)
  exact ⟨tk', XS.for (XQ.cons (XS.setls (X.num _) (c_i_i (by omega)) (of_decide_eq_true rfl)) XQ.nil) h1, by omega⟩
theorem cr_lt (hb : ∀ v ∈ inp, v < 256) (i : Nat) (hi : i ≤ inp.length) : foldC crF 65535 inp i < 65536 :=
  foldC_inv (P := fun p : Nat => p < 65536) hb (by decide) (fun _ _ hp hc => itr_lt (Nat.xor_lt_two_pow (n := 16) hp (by omega)) 8) i hi
def crN (inp : List Nat) : Nat := inp.foldl crF 65535
theorem crc_means (hb : ∀ v ∈ inp, v < 256) : ∃ n v s, evF inp crcBd n 1 [] ⟨0, [], 0, 0, [List.replicate 20 0]⟩ = some (.val v s) ∧ s.out = digs (crN inp) ++ [10] ∧ ((200000 < s.tk ∨ 65536 < s.out.length) → 60 < inp.length) := by
  have hc0 : curC inp 0 < 65536 := by rcases cur_ch hb 0 with h | h <;> omega
  have hn : crN inp < 65536 := by
    have := cr_lt hb inp.length (Nat.le_refl _)
    rw [foldC_all] at this
    exact this
  refine fold_means (M := crcM) hb (n := crN inp) (n0 := crN inp) (Fs := fun i => [foldC crF 65535 inp i, curC inp i, if i = 0 then 0 else 8]) (Fb := fun i => [foldC crF 65535 inp (i + 1), curC inp i, 8])
    (t0 := 4) (K := 220) (e := 1) rfl ?_ (fun _ _ => rfl) (fun i hi tk => ?_) (fun i _ => ⟨of_decide_eq_true rfl, by show [_, _, 8] = [_, _, if i + 1 = 0 then 0 else 8]; rw [if_neg (by omega)]⟩) (fun s => ?_) (c_h_q (by omega)) (by omega) (fun h => by omega)
  · rw [foldC_zero]
    exact (XQ.cons (XS.setls (X.num _) (c_h_h (by omega)) (of_decide_eq_true rfl)) (XQ.cons (XS.setls (X.gets rfl) (c_i_i hc0) (of_decide_eq_true rfl)) XQ.nil))
  · have h1 := cr_lt hb i (by omega)
    have h2 := (cur_lt hb hi).2
    have hx : foldC crF 65535 inp i ^^^ curC inp i * 256 < 65536 := Nat.xor_lt_two_pow (n := 16) h1 (by omega)
    obtain ⟨tk', q1, q2⟩ := crc_loop (inp := inp) (bd := [(decB, 2), (crcM, 3)]) (c := curC inp i) hx 0 (tk + 1 + 7) [] (min (i + 1) inp.length) 1 [List.replicate 20 0] 0
    refine ⟨tk', ?_, by omega⟩
    rw [foldC_succ crF 65535 hi]
    refine XQ.cons (s1 := ⟨tk + 1, [], min (i + 1) inp.length, 1, [List.replicate 20 0]⟩) (F1 := ⟨[foldC crF 65535 inp i, curC inp i, 0], 0⟩) (XS.setz (of_decide_eq_true rfl)) (XQ.cons (s1 := ⟨tk + 1 + 7, [], min (i + 1) inp.length, 1, [List.replicate 20 0]⟩) (F1 := ⟨[foldC crF 65535 inp i ^^^ curC inp i * 2 ^ 8, curC inp i, 0], 0⟩) (XS.setls (X.bin (X.loc rfl) (X.bin (X.casts (X.loc rfl) (c_i_h (by omega))) (X.num _) (b14_h_i_n (by omega) (by omega) (by omega) (by omega))) (b23_h_h (by omega) (by omega))) (c_h_h hx) (of_decide_eq_true rfl)) (XQ.cons q1 XQ.nil))
  · unfold crN
    rw [← foldC_all]
    generalize foldC crF 65535 inp inp.length = p at *
    exact (X.loc rfl)
end
end Go.Proofs.YtclpjglkjkbljaaGreat
