/-
  What sort means, plainly.
-/
import Derived.Test.YtgmmfjmdpbhjnaaGreatLRevP
import Derived.Test.YtgmmfjmdpbhjnaaGreatJPc
namespace Go.Proofs.YtgmmfjmdpbhjnaaGreat

/-- numbers from s on, each as often as f tells -/
def cT (f : Nat → Nat) (s : Nat) : Nat → List Nat
  | 0 => []
  | m + 1 => cT f s m ++ List.replicate (f (s + m)) (s + m)
theorem cT_add (f : Nat → Nat) (s a : Nat) : ∀ b, cT f s (a + b) = cT f s a ++ cT f (s + a) b
  | 0 => by simp [cT]
  | b + 1 => by
    show cT f s (a + b) ++ List.replicate (f (s + (a + b))) (s + (a + b)) = cT f s a ++ (cT f (s + a) b ++ List.replicate (f (s + a + b)) (s + a + b))
    rw [cT_add f s a b, List.append_assoc, Nat.add_assoc]
theorem cT_ext {f g : Nat → Nat} {s : Nat} : ∀ m, (∀ v, s ≤ v → v < s + m → f v = g v) → cT f s m = cT g s m
  | 0, _ => rfl
  | m + 1, h => by
    show cT f s m ++ _ = cT g s m ++ _
    rw [cT_ext m (fun v h1 h2 => h v h1 (by omega)), h (s + m) (by omega) (by omega)]
theorem cT_mem {f : Nat → Nat} {s : Nat} : ∀ m x, x ∈ cT f s m → s ≤ x ∧ x < s + m
  | 0, x, h => by simp [cT] at h
  | m + 1, x, h => by
    rcases List.mem_append.1 (show x ∈ cT f s m ++ List.replicate (f (s + m)) (s + m) from h) with h | h
    · have := cT_mem m x h; omega
    · have := (List.mem_replicate.1 h).2; omega
theorem cT_split (f g : Nat → Nat) {c : Nat} (hc : c < 256) (h1 : g c = f c + 1) (h2 : ∀ v, v ≠ c → g v = f v) : cT f 0 256 = cT f 0 (c + 1) ++ cT f (c + 1) (255 - c) ∧ cT g 0 256 = cT f 0 (c + 1) ++ c :: cT f (c + 1) (255 - c) := by
  have e : 256 = c + 1 + (255 - c) := by omega
  refine ⟨?_, ?_⟩
  · rw [e, cT_add, Nat.zero_add]
  · have a1 : cT g 0 c = cT f 0 c := cT_ext c (fun v _ hv => h2 v (by omega))
    have a2 : cT g (c + 1) (255 - c) = cT f (c + 1) (255 - c) := cT_ext _ (fun v hv _ => h2 v (by omega))
    rw [e, cT_add, Nat.zero_add, a2]
    show cT g 0 c ++ List.replicate (g (0 + c)) (0 + c) ++ _ = cT f 0 c ++ List.replicate (f (0 + c)) (0 + c) ++ _
    rw [a1, Nat.zero_add, h1, List.replicate_succ']
    simp
theorem cT_zero (s : Nat) : ∀ m, cT (fun _ => 0) s m = []
  | 0 => rfl
  | m + 1 => by show cT _ s m ++ _ = _; rw [cT_zero s m]; rfl
/-- how often among the first i -/
def cnt (inp : List Nat) (i v : Nat) : Nat := (inp.take i).count v
theorem cnt_zero (inp : List Nat) : cnt inp 0 = fun _ => 0 := by funext v; simp [cnt]
theorem cnt_succ {inp : List Nat} {i : Nat} (hi : i < inp.length) : cnt inp (i + 1) (curC inp i) = cnt inp i (curC inp i) + 1 ∧ ∀ v, v ≠ curC inp i → cnt inp (i + 1) v = cnt inp i v := by
  have h : inp[i]? = some (curC inp i) := by
    unfold curC
    rw [List.getElem?_eq_getElem hi]; rfl
  unfold cnt
  rw [List.take_add_one, h]
  refine ⟨?_, fun v hv => ?_⟩
  · show List.count _ (inp.take i ++ [curC inp i]) = _
    rw [List.count_append, List.count_singleton_self]
  · show List.count _ (inp.take i ++ [curC inp i]) = _
    rw [List.count_append, List.count_cons_of_ne (fun e => hv e.symm)]
    rfl
/-- the first i, in order -/
def srt (inp : List Nat) (i : Nat) : List Nat := cT (cnt inp i) 0 256
theorem srt_len {inp : List Nat} (hb : ∀ v ∈ inp, v < 256) : ∀ i, i ≤ inp.length → (srt inp i).length = i
  | 0, _ => by unfold srt; rw [cnt_zero, cT_zero]; rfl
  | i + 1, hi => by
    have ih := srt_len hb i (by omega)
    obtain ⟨c1, c2⟩ := cnt_succ (inp := inp) (i := i) (by omega)
    obtain ⟨e1, e2⟩ := cT_split (cnt inp i) (cnt inp (i + 1)) (cur_lt hb (by omega)).2 c1 c2
    unfold srt at ih ⊢
    rw [e1] at ih
    rw [e2]
    simp only [List.length_append, List.length_cons] at ih ⊢
    omega
section
variable {inp : List Nat} {bd : List (List Sm × Nat)}
def sorI : List Sm := [.setl 0 (.num 0) intT intT, .setl 1 .get intT intT, .setz 2]
def sorC : Ex := .either false (.bin 19 (.loc 1) (.num 0) intT intT) (.bin 16 (.loc 0) (.num 64) intT intT)
def sorD : Ex := .either false (.bin 18 (.loc 2) (.num 0) intT intT) (.bin 18 (.elt 0 64 (.bin 13 (.loc 2) (.num 1) intT intT) intT) (.loc 1) u8T intT)
def sorV : List Sm := [.seta 0 64 (.loc 2) intT (.elt 0 64 (.bin 13 (.loc 2) (.num 1) intT intT) intT) u8T u8T, .setl 2 (.bin 13 (.loc 2) (.num 1) intT intT) intT intT]
def sorK : Sm := .setl 2 (.loc 0) intT intT
def sorE : List Sm := [.seta 0 64 (.loc 2) intT (.loc 1) intT u8T, .setl 0 (.bin 12 (.loc 0) (.num 1) intT intT) intT intT, .setl 1 .get intT intT]
def sorW : List Sm := sorK :: .whl sorD sorV :: sorE
def sorJ : List Sm := [.setl 2 (.num 0) intT intT]
def sorF : Ex := .bin 16 (.loc 2) (.loc 0) intT intT
def sorP : List Sm := [.ex (.put (.elt 0 64 (.loc 2) intT) u8T)]
def sorS : List Sm := [.setl 2 (.bin 12 (.loc 2) (.num 1) intT intT) intT intT]
def sorR : Sm := .ret (.num 0) intT intT
def sorM : List Sm := sorI ++ [.whl sorC sorW, .for sorJ (some sorF) sorP sorS, sorR]
def sorBd : List (List Sm × Nat) := [(sorM, 3)]
/-- a row that is being shifted: a hole at k -/
def hole (L : List Nat) (k y z : Nat) : List Nat := L.take k ++ y :: (L.drop k ++ List.replicate z 0)
theorem hole_set {L : List Nat} {k y x z : Nat} (hk : k ≤ L.length) : (hole L k y z).set k x = hole L k x z := by
  unfold hole
  have hl : (L.take k).length = k := by rw [List.length_take]; omega
  rw [List.set_append_right _ _ (by omega), hl, Nat.sub_self, List.set_cons_zero]
theorem hole_down {L : List Nat} {k x z : Nat} (hk : k + 1 ≤ L.length) (hx : L[k]? = some x) : hole L (k + 1) x z = hole L k x z := by
  unfold hole
  have hd : L.drop k = x :: L.drop (k + 1) := by
    rw [List.drop_eq_getElem_cons (by omega)]
    congr 1
    exact (List.getElem?_eq_some_iff.1 hx).2
  rw [List.take_add_one, hx, hd]
  simp
theorem hole_get {L : List Nat} {k j y z : Nat} (hj : j < k) (hk : k ≤ L.length) : (hole L k y z)[j]? = L[j]? := by
  unfold hole
  rw [List.getElem?_append_left (by rw [List.length_take]; omega), List.getElem?_take, if_pos hj]
/-- the shifting -/
theorem sor_shift {A B : List Nat} {c z : Nat} (hA : ∀ x ∈ A, x ≤ c) (hB : ∀ x ∈ B, c < x ∧ x < 256) (hc : c < 256) (hAB : A.length + B.length < 64) (rd cl r tk : Nat) :
    ∃ y tk', XW inp bd sorD sorV ⟨tk, [], rd, cl, [hole (A ++ B) (A.length + B.length) 0 z]⟩ ⟨[A.length + B.length, c, A.length + B.length], r⟩ (.go 0 ⟨tk', [], rd, cl, [hole (A ++ B) A.length y z]⟩ ⟨[A.length + B.length, c, A.length], r⟩) ∧ tk' ≤ tk + 40 * B.length + 20 := by
  obtain ⟨n, hn⟩ : ∃ n, n = A.length + B.length := ⟨_, rfl⟩
  have hL : (A ++ B).length = n := by rw [List.length_append, hn]
  have key := XW.count (inp := inp) (bd := bd) (C := sorD) (B := sorV) (N := B.length) (K := 18) (c := 16) (r := r) (cl := cl) (O := fun _ => []) (R := fun _ => rd) (Q := fun _ => rd)
    (G := fun j => [hole (A ++ B) (n - j) (if j = 0 then 0 else (A ++ B).getD (n - j) 0) z]) (Fs := fun j => [n, c, n - j])
    (fun j hj tk => by
      show ∃ v tk', X inp bd sorD (Ms.tick ⟨tk, [], rd, cl, [hole (A ++ B) (n - j) (if j = 0 then 0 else (A ++ B).getD (n - j) 0) z]⟩) [n, c, n - j] _ ∧ _
      generalize (if j = 0 then 0 else (A ++ B).getD (n - j) 0) = y
      by_cases hk : n - j = 0
      · have h : X inp bd sorD (Ms.tick ⟨tk, [], rd, cl, [hole (A ++ B) (n - j) y z]⟩) [n, c, n - j] (.val (truthN (decide ((0 : Nat) ≠ 0))) ⟨tk + 1 + 4, [], rd, cl, [hole (A ++ B) (n - j) y z]⟩) := (X.stop (X.bin (X.loc rfl) (X.num _) (b18_i_i_f (by omega) (by omega) (by omega))) (by decide))
        exact ⟨_, _, h, by omega, by simp [truthN]; omega⟩
      · have hk : 0 < n - j := by omega
        obtain ⟨x, hx⟩ : ∃ x, (A ++ B)[n - j - 1]? = some x := ⟨_, List.getElem?_eq_getElem (by omega)⟩
        have hg : (hole (A ++ B) (n - j) y z)[n - j - 1]? = some x := by rw [hole_get (by omega) (by omega)]; exact hx
        by_cases hjB : j < B.length
        · have hxB : x ∈ B := by
            rw [List.getElem?_append_right (by omega)] at hx
            exact List.mem_of_getElem? hx
          obtain ⟨x1, x2⟩ := hB x hxB
          have h : X inp bd sorD (Ms.tick ⟨tk, [], rd, cl, [hole (A ++ B) (n - j) y z]⟩) [n, c, n - j] (.val (truthN (decide ((1 : Nat) ≠ 0))) ⟨tk + 1 + 10, [], rd, cl, [hole (A ++ B) (n - j) y z]⟩) := (X.both (X.bin (X.loc rfl) (X.num _) (b18_i_i_t (by omega) (by omega) (by omega))) (by decide) (X.bin (X.elt (X.bin (X.loc rfl) (X.num _) (b13_i_i_n (by omega) (by omega) (by omega))) (c_i_h (by omega)) (by omega) hg) (X.loc rfl) (b18_b_i_t (by omega) (by omega) (by omega))))
          exact ⟨_, _, h, by omega, by simp [truthN]; exact hjB⟩
        · have hxA : x ∈ A := by
            rw [List.getElem?_append_left (by omega)] at hx
            exact List.mem_of_getElem? hx
          have x1 := hA x hxA
          have h : X inp bd sorD (Ms.tick ⟨tk, [], rd, cl, [hole (A ++ B) (n - j) y z]⟩) [n, c, n - j] (.val (truthN (decide ((0 : Nat) ≠ 0))) ⟨tk + 1 + 10, [], rd, cl, [hole (A ++ B) (n - j) y z]⟩) := (X.both (X.bin (X.loc rfl) (X.num _) (b18_i_i_t (by omega) (by omega) (by omega))) (by decide) (X.bin (X.elt (X.bin (X.loc rfl) (X.num _) (b13_i_i_n (by omega) (by omega) (by omega))) (c_i_h (by omega)) (by omega) hg) (X.loc rfl) (b18_b_i_f (by omega) (by omega) (by omega))))
          exact ⟨_, _, h, by omega, by simp [truthN]; omega⟩)
    (fun j hj tk => by
      show ∃ tk', XQ inp bd sorV ⟨tk, [], rd, cl, [hole (A ++ B) (n - j) (if j = 0 then 0 else (A ++ B).getD (n - j) 0) z]⟩ ⟨[n, c, n - j], r⟩ _ ∧ _
      generalize (if j = 0 then 0 else (A ++ B).getD (n - j) 0) = y
      obtain ⟨k, hk⟩ : ∃ k, n - j = k + 1 := ⟨n - j - 1, by omega⟩
      obtain ⟨x, hx⟩ : ∃ x, (A ++ B)[k]? = some x := ⟨_, List.getElem?_eq_getElem (by omega)⟩
      have hg : (hole (A ++ B) (k + 1) y z)[k + 1 - 1]? = some x := by rw [hole_get (by omega) (by omega)]; exact hx
      have hxB : x ∈ B := by
        rw [List.getElem?_append_right (by omega)] at hx
        exact List.mem_of_getElem? hx
      obtain ⟨x1, x2⟩ := hB x hxB
      have e1 : n - (j + 1) = k := by omega
      have hs : (hole (A ++ B) (k + 1) y z).set (k + 1) x = hole (A ++ B) k x z := by rw [hole_set (by omega), hole_down (by omega) hx]
      have hgd : (A ++ B).getD k 0 = x := by simp [List.getD, hx]
      refine ⟨tk + 10, ?_, by omega⟩
      rw [hk, e1, if_neg (show ¬ j + 1 = 0 by omega), hgd, ← hs]
      exact (XQ.cons (XS.setas (X.loc rfl) (c_i_h (by omega)) (by omega) (X.elt (X.bin (X.loc rfl) (X.num _) (b13_i_i_n (by omega) (by omega) (by omega))) (c_i_h (by omega)) (by omega) hg) (c_b_b (by omega))) (XQ.cons (XS.setls (X.bin (X.loc rfl) (X.num _) (b13_i_i_n (by omega) (by omega) (by omega))) (c_i_i (by omega)) (of_decide_eq_true rfl)) XQ.nil))) tk
  obtain ⟨tk', h1, h2⟩ := key
  have e : n - B.length = A.length := by omega
  rw [e, Nat.sub_zero, if_pos rfl] at h1
  rw [← hn]
  exact ⟨_, tk', h1, by omega⟩
/-- where the last byte came to lie -/
def kSor (inp : List Nat) : Nat → Nat
  | 0 => 0
  | i + 1 => (cT (cnt inp i) 0 (curC inp i + 1)).length
theorem sor_round (hb : ∀ v ∈ inp, v < 256) {i : Nat} (hi : i < inp.length) (h64 : i < 64) (k0 r tk : Nat) :
    ∃ tk', XQ inp sorBd sorW ⟨tk, [], min (i + 1) inp.length, 1, [srt inp i ++ List.replicate (64 - i) 0]⟩ ⟨[i, curC inp i, k0], r⟩ (.go 0 ⟨tk', [], min (i + 1 + 1) inp.length, 1, [srt inp (i + 1) ++ List.replicate (64 - (i + 1)) 0]⟩ ⟨[i + 1, curC inp (i + 1), kSor inp (i + 1)], r⟩) ∧ tk' ≤ tk + 40 * 64 + 60 := by
  obtain ⟨q1, hc⟩ := cur_lt hb hi
  have hlen := srt_len hb i (by omega)
  obtain ⟨c1, c2⟩ := cnt_succ (inp := inp) (i := i) hi
  obtain ⟨e1, e2⟩ := cT_split (cnt inp i) (cnt inp (i + 1)) hc c1 c2
  have hA : ∀ x ∈ cT (cnt inp i) 0 (curC inp i + 1), x ≤ curC inp i := fun x hx => by have := cT_mem _ x hx; omega
  have hB : ∀ x ∈ cT (cnt inp i) (curC inp i + 1) (255 - curC inp i), curC inp i < x ∧ x < 256 := fun x hx => by have := cT_mem _ x hx; omega
  have hk : kSor inp (i + 1) = (cT (cnt inp i) 0 (curC inp i + 1)).length := rfl
  unfold srt at hlen ⊢
  rw [e1] at hlen ⊢
  rw [e2, hk]
  generalize cT (cnt inp i) 0 (curC inp i + 1) = A at *
  generalize cT (cnt inp i) (curC inp i + 1) (255 - curC inp i) = B at *
  rw [List.length_append] at hlen
  have hc1 : curC inp (i + 1) < 65536 := by rcases cur_ch hb (i + 1) with h | h <;> omega
  obtain ⟨y, tk1, h1, h2⟩ := sor_shift (inp := inp) (bd := sorBd) (z := 63 - i) hA hB hc (by omega) (min (i + 1) inp.length) 1 r (tk + 2 + 1)
  rw [hlen] at h1
  have ho : A ++ B ++ List.replicate (64 - i) 0 = hole (A ++ B) i 0 (63 - i) := by
    unfold hole
    rw [List.take_of_length_le (by rw [List.length_append]; omega), List.drop_of_length_le (by rw [List.length_append]; omega), show 64 - i = (63 - i) + 1 by omega, List.replicate_succ]
    rfl
  have he : (hole (A ++ B) A.length y (63 - i)).set A.length (curC inp i) = A ++ curC inp i :: B ++ List.replicate (64 - (i + 1)) 0 := by
    rw [hole_set (by rw [List.length_append]; omega)]
    unfold hole
    rw [List.take_left, List.drop_left, show 63 - i = 64 - (i + 1) by omega]
    simp
  have sK : XS inp sorBd sorK ⟨tk, [], min (i + 1) inp.length, 1, [A ++ B ++ List.replicate (64 - i) 0]⟩ ⟨[i, curC inp i, k0], r⟩ (.go 0 ⟨tk + 2, [], min (i + 1) inp.length, 1, [A ++ B ++ List.replicate (64 - i) 0]⟩ ⟨[i, curC inp i, i], r⟩) := (XS.setls (X.loc rfl) (c_i_i (by omega)) (of_decide_eq_true rfl))
  rw [← ho] at h1
  have sE : XQ inp sorBd sorE ⟨tk1, [], min (i + 1) inp.length, 1, [hole (A ++ B) A.length y (63 - i)]⟩ ⟨[i, curC inp i, A.length], r⟩ (.go 0 ⟨tk1 + 9, [], min (i + 1 + 1) inp.length, 1, [A ++ curC inp i :: B ++ List.replicate (64 - (i + 1)) 0]⟩ ⟨[i + 1, curC inp (i + 1), A.length], r⟩) := by
    rw [← he]
    exact (XQ.cons (XS.setas (X.loc rfl) (c_i_h (by omega)) (by omega) (X.loc rfl) (c_i_b (by omega))) (XQ.cons (XS.setls (X.bin (X.loc rfl) (X.num _) (b12_i_i_n (by omega) (by omega) (by omega))) (c_i_i (by omega)) (of_decide_eq_true rfl)) (XQ.cons (XS.setls (X.gets rfl) (c_i_i hc1) (of_decide_eq_true rfl)) XQ.nil)))
  refine ⟨_, XQ.cons sK (XQ.cons (XS.whl h1) sE), ?_⟩
  have : 40 * B.length ≤ 40 * 64 := Nat.mul_le_mul_left _ (by omega)
  omega
theorem sor_step {N z k tk rd : Nat} {out row : List Nat} (hk : k < 64) : XQ inp sorBd sorS ⟨tk, out, rd, 1, [row]⟩ ⟨[N, z, k], 0⟩ (.go 0 ⟨tk + 4, out, rd, 1, [row]⟩ ⟨[N, z, k + 1], 0⟩) := (XQ.cons (XS.setls (X.bin (X.loc rfl) (X.num _) (b12_i_i_n (by omega) (by omega) (by omega))) (c_i_i (by omega)) (of_decide_eq_true rfl)) XQ.nil)
set_option maxRecDepth 100000 in
set_option maxHeartbeats 1000000 in
theorem sort_means (hb : ∀ v ∈ inp, v < 256) : ∃ n v s, evF inp sorBd n 0 [] ⟨0, [], 0, 0, [List.replicate 64 0]⟩ = some (.val v s) ∧ s.out = srt inp (min inp.length 64) ∧ ((200000 < s.tk ∨ 65536 < s.out.length) → 60 < inp.length) := by
  have hc0 : curC inp 0 < 65536 := by rcases cur_ch hb 0 with h | h <;> omega
  obtain ⟨N, hN⟩ : ∃ N, N = min inp.length 64 := ⟨_, rfl⟩
  obtain ⟨t1, h1, k1⟩ := XW.count (inp := inp) (bd := sorBd) (C := sorC) (B := sorW) (N := N) (K := 40 * 64 + 60) (c := 8) (r := 0) (cl := 1) (O := fun _ => []) (R := fun i => min (i + 1) inp.length) (Q := fun i => min (i + 1) inp.length)
    (G := fun i => [srt inp i ++ List.replicate (64 - i) 0]) (Fs := fun i => [i, curC inp i, kSor inp i])
    (fun i hi tk => by
      by_cases hl : i < inp.length
      · obtain ⟨h1, h2⟩ := cur_lt hb hl
        by_cases h64 : i < 64
        · have h : X inp sorBd sorC (Ms.tick ⟨tk, [], min (i + 1) inp.length, 1, [srt inp i ++ List.replicate (64 - i) 0]⟩) [i, curC inp i, kSor inp i] (.val 1 ⟨tk + 1 + 7, [], min (i + 1) inp.length, 1, [srt inp i ++ List.replicate (64 - i) 0]⟩) := (X.both (X.bin (X.loc rfl) (X.num _) (b19_i_i_t (by omega) (by omega) (by omega))) (by decide) (X.bin (X.loc rfl) (X.num _) (b16_i_i_t (by omega) (by omega) (by omega))))
          exact ⟨1, _, h, by omega, by simp; omega⟩
        · have h64 : 64 ≤ i := by omega
          have h : X inp sorBd sorC (Ms.tick ⟨tk, [], min (i + 1) inp.length, 1, [srt inp i ++ List.replicate (64 - i) 0]⟩) [i, curC inp i, kSor inp i] (.val 0 ⟨tk + 1 + 7, [], min (i + 1) inp.length, 1, [srt inp i ++ List.replicate (64 - i) 0]⟩) := (X.both (X.bin (X.loc rfl) (X.num _) (b19_i_i_t (by omega) (by omega) (by omega))) (by decide) (X.bin (X.loc rfl) (X.num _) (b16_i_i_f (by omega) (by omega) (by omega))))
          exact ⟨0, _, h, by omega, by simp; omega⟩
      · have hc := cur_end (inp := inp) (i := i) (by omega)
        have h : X inp sorBd sorC (Ms.tick ⟨tk, [], min (i + 1) inp.length, 1, [srt inp i ++ List.replicate (64 - i) 0]⟩) [i, 65535, kSor inp i] (.val 0 ⟨tk + 1 + 4, [], min (i + 1) inp.length, 1, [srt inp i ++ List.replicate (64 - i) 0]⟩) := (X.stop (X.bin (X.loc rfl) (X.num _) (ge0_ch (.inr rfl))) (by decide))
        rw [← hc] at h
        exact ⟨0, _, h, by omega, by simp; omega⟩)
    (fun i hi tk => sor_round hb (by omega) (by omega) (kSor inp i) 0 tk) (5 + 1)
  have hlen := srt_len hb N (by omega)
  have hmem : ∀ x ∈ srt inp N, x < 256 := fun x hx => by have := cT_mem _ x hx; omega
  obtain ⟨t2, h2, k2⟩ := XL.count (inp := inp) (bd := sorBd) (C := sorF) (B := sorP) (S := sorS) (N := N) (K := 10) (c := 4) (r := 0) (cl := 1) (O := fun k => (srt inp N).take k) (R := fun _ => min (N + 1) inp.length) (Q := fun _ => min (N + 1) inp.length)
    (G := fun _ => [srt inp N ++ List.replicate (64 - N) 0]) (Fs := fun k => [N, curC inp N, k])
    (fun k hk tk => by
      by_cases hlt : k < N
      · exact ⟨1, tk + 1 + 3, (X.bin (X.loc rfl) (X.loc rfl) (b16_i_i_t (by omega) (by omega) (by omega))), by omega, by simp; omega⟩
      · have hlt : N ≤ k := by omega
        exact ⟨0, tk + 1 + 3, (X.bin (X.loc rfl) (X.loc rfl) (b16_i_i_f (by omega) (by omega) (by omega))), by omega, by simp; omega⟩)
    (fun k hk tk => by
      obtain ⟨x, hx⟩ : ∃ x, (srt inp N)[k]? = some x := ⟨_, List.getElem?_eq_getElem (by omega)⟩
      have hg : (srt inp N ++ List.replicate (64 - N) 0)[k]? = some x := by rw [List.getElem?_append_left (by omega)]; exact hx
      have hx2 := hmem x (List.mem_of_getElem? hx)
      have ht : (srt inp N).take (k + 1) = (srt inp N).take k ++ [x] := by rw [List.take_add_one, hx]; rfl
      have hp : XQ inp sorBd sorP ⟨tk, (srt inp N).take k, min (N + 1) inp.length, 1, [srt inp N ++ List.replicate (64 - N) 0]⟩ ⟨[N, curC inp N, k], 0⟩ (.go 0 ⟨tk + 4, (srt inp N).take (k + 1), min (N + 1) inp.length, 1, [srt inp N ++ List.replicate (64 - N) 0]⟩ ⟨[N, curC inp N, k], 0⟩) := by
        rw [ht]
        exact (XQ.cons (XS.ex (X.puts (X.elt (X.loc rfl) (c_i_h (by omega)) (by omega) hg) (p_b (by omega)))) XQ.nil)
      have hs : XQ inp sorBd sorS ⟨tk + 4, (srt inp N).take (k + 1), min (N + 1) inp.length, 1, [srt inp N ++ List.replicate (64 - N) 0]⟩ ⟨[N, curC inp N, k], 0⟩ (.go 0 ⟨tk + 4 + 4, (srt inp N).take (k + 1), min (N + 1) inp.length, 1, [srt inp N ++ List.replicate (64 - N) 0]⟩ ⟨[N, curC inp N, k + 1], 0⟩) := sor_step (by omega)
      have hT : tk + 4 + 4 ≤ tk + 10 := by omega
      exact ⟨0, _, _, _, hp, .inl rfl, hs, hT⟩) (t1 + 1 + 2)
  have et : (srt inp N).take N = srt inp N := List.take_of_length_le (by omega)
  rw [et] at h2
  have hI : XQ inp sorBd sorI ⟨0, [], 0, 1, [List.replicate 64 0]⟩ ⟨[0, 0, 0], 0⟩ (.go 0 ⟨5, [], min 1 inp.length, 1, [List.replicate 64 0]⟩ ⟨[0, curC inp 0, 0], 0⟩) := (XQ.cons (XS.setls (X.num _) (c_i_i (by omega)) (of_decide_eq_true rfl)) (XQ.cons (XS.setls (X.gets rfl) (c_i_i hc0) (of_decide_eq_true rfl)) (XQ.cons (XS.setz (of_decide_eq_true rfl)) XQ.nil)))
  have e0 : srt inp 0 ++ List.replicate (64 - 0) 0 = List.replicate 64 0 := by unfold srt; rw [cnt_zero, cT_zero]; rfl
  rw [e0] at h1
  have hF : XS inp sorBd (.for sorJ (some sorF) sorP sorS) ⟨t1, [], min (N + 1) inp.length, 1, [srt inp N ++ List.replicate (64 - N) 0]⟩ ⟨[N, curC inp N, kSor inp N], 0⟩ (.go 0 ⟨t2, srt inp N, min (N + 1) inp.length, 1, [srt inp N ++ List.replicate (64 - N) 0]⟩ ⟨[N, curC inp N, N], 0⟩) := XS.for (XQ.cons (XS.setls (X.num _) (c_i_i (by omega)) (of_decide_eq_true rfl)) XQ.nil) h2
  have q : XQ inp sorBd sorM ⟨0, [], 0, 1, [List.replicate 64 0]⟩ ⟨[0, 0, 0], 0⟩ (.go 1 ⟨t2 + 2, srt inp N, min (N + 1) inp.length, 1, [srt inp N ++ List.replicate (64 - N) 0]⟩ ⟨[N, curC inp N, N], 0⟩) :=
    XQ.app hI (XQ.cons (XS.whl h1) (XQ.cons hF (XQ.stop (XS.rets (X.num _) (c_i_i (by omega))) (by decide))))
  rw [← hN]
  exact means_of (XF.runs (k := 0) rfl (by omega) q) (fun h => by
    have a1 : (40 * 64 + 60 + 8) * N ≤ 2628 * 64 := Nat.mul_le_mul_left _ (by omega)
    omega)
end
end Go.Proofs.YtgmmfjmdpbhjnaaGreat
