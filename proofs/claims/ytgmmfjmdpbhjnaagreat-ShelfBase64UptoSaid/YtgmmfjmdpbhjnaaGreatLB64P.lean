/-
  What base64 means, plainly.
-/
import Derived.Test.YtgmmfjmdpbhjnaaGreatJPb
import Derived.Test.YtgmmfjmdpbhjnaaGreatJPc
namespace Go.Proofs.YtgmmfjmdpbhjnaaGreat

/-- a sign of sixty-four -/
def sg64 (v : Nat) : Nat := if v < 26 then v + 65 else if v < 52 then v + 71 else if v < 62 then v - 4 else if v = 62 then 43 else 47
/-- four signs of three bytes; 65535: there is none -/
def grp (a b c : Nat) : List Nat :=
  sg64 (a / 4) :: (if b = 65535 then [sg64 (a % 4 * 16), 61, 61] else sg64 (a % 4 * 16 + b / 16) :: (if c = 65535 then [sg64 (b % 16 * 4), 61] else [sg64 (b % 16 * 4 + c / 64), sg64 (c % 64)]))
section
variable {inp : List Nat}
def b64C : List Sm := [.ite (.bin 16 (.loc 0) (.num 26) intT intT) [.ex (.put (.bin 12 (.loc 0) (.num 65) intT intT) intT)] [.ite (.bin 16 (.loc 0) (.num 52) intT intT) [.ex (.put (.bin 12 (.loc 0) (.num 71) intT intT) intT)] [.ite (.bin 16 (.loc 0) (.num 62) intT intT) [.ex (.put (.bin 13 (.loc 0) (.num 4) intT intT) intT)] [.ite (.bin 20 (.loc 0) (.num 62) intT intT) [.ex (.put (.num 43) intT)] [.ex (.put (.num 47) intT)]]]]]
def b64I : List Sm := [.setl 0 .get intT intT, .setz 1, .setz 2]
def b64Q : Ex := .bin 19 (.loc 0) (.num 0) intT intT
def b64J : Sm := .setl 1 .get intT intT
def b64L : Sm := .setl 2 .get intT intT
def b64K : Sm := .ex (.call 0 [(.bin 15 (.loc 0) (.num 2) intT intT, intT, intT)])
def b64X : List Sm := [.ex (.call 0 [(.bin 14 (.bin 22 (.loc 0) (.num 3) intT intT) (.num 4) intT intT, intT, intT)]), .ex (.put (.num 61) intT), .ex (.put (.num 61) intT)]
def b64Y : Sm := .ex (.call 0 [(.bin 24 (.bin 14 (.bin 22 (.loc 0) (.num 3) intT intT) (.num 4) intT intT) (.bin 15 (.loc 1) (.num 4) intT intT) intT intT, intT, intT)])
def b64U : List Sm := [.ex (.call 0 [(.bin 14 (.bin 22 (.loc 1) (.num 15) intT intT) (.num 2) intT intT, intT, intT)]), .ex (.put (.num 61) intT)]
def b64V : List Sm := [.ex (.call 0 [(.bin 24 (.bin 14 (.bin 22 (.loc 1) (.num 15) intT intT) (.num 2) intT intT) (.bin 15 (.loc 2) (.num 6) intT intT) intT intT, intT, intT)]), .ex (.call 0 [(.bin 22 (.loc 2) (.num 63) intT intT, intT, intT)])]
def b64Z : Sm := .ite (.bin 16 (.loc 2) (.num 0) intT intT) b64U b64V
def b64T : Sm := .ite (.bin 16 (.loc 1) (.num 0) intT intT) b64X [b64Y, b64Z]
def b64G : Sm := .setl 0 .get intT intT
def b64W : List Sm := b64J :: b64L :: ([b64K, b64T] ++ [b64G])
def b64R : Sm := .ret (.num 0) intT intT
def b64M : List Sm := b64I ++ [.whl b64Q b64W, b64R]
def b64Bd : List (List Sm × Nat) := [(b64C, 1), (b64M, 3)]
theorem lt0_end : binN 16 65535 0 intT intT = some 1 := by kernel_rfl
theorem b64_code {v : Nat} (hv : v < 64) (tk : Nat) (out : List Nat) (rd cl : Nat) (gl : List (List Nat)) (hcl : cl ≠ 60) : ∃ tk', XF inp b64Bd 0 [v] ⟨tk, out, rd, cl, gl⟩ (.val 0 ⟨tk', out ++ [sg64 v], rd, cl, gl⟩) ∧ tk' ≤ tk + 24 := by
  unfold sg64
  by_cases h1 : v < 26
  · rw [if_pos h1]
    have q : XQ inp b64Bd b64C ⟨tk, out, rd, cl + 1, gl⟩ ⟨[v], 0⟩ (.go 0 ⟨tk + 9, out ++ [v + 65], rd, cl + 1, gl⟩ ⟨[v], 0⟩) := (XQ.cons (XS.yes (X.bin (X.loc rfl) (X.num _) (b16_i_i_t (by omega) (by omega) (by omega))) (by decide) (XQ.cons (XS.ex (X.puts (X.bin (X.loc rfl) (X.num _) (b12_i_i_n (by omega) (by omega) (by omega))) (p_i (by omega)))) XQ.nil)) XQ.nil)
    exact ⟨_, XF.runs (k := 0) rfl hcl q, by omega⟩
  · rw [if_neg h1]
    have h1 : 26 ≤ v := by omega
    by_cases h2 : v < 52
    · rw [if_pos h2]
      have q : XQ inp b64Bd b64C ⟨tk, out, rd, cl + 1, gl⟩ ⟨[v], 0⟩ (.go 0 ⟨tk + 13, out ++ [v + 71], rd, cl + 1, gl⟩ ⟨[v], 0⟩) := (XQ.cons (XS.no (X.bin (X.loc rfl) (X.num _) (b16_i_i_f (by omega) (by omega) (by omega))) (XQ.cons (XS.yes (X.bin (X.loc rfl) (X.num _) (b16_i_i_t (by omega) (by omega) (by omega))) (by decide) (XQ.cons (XS.ex (X.puts (X.bin (X.loc rfl) (X.num _) (b12_i_i_n (by omega) (by omega) (by omega))) (p_i (by omega)))) XQ.nil)) XQ.nil)) XQ.nil)
      exact ⟨_, XF.runs (k := 0) rfl hcl q, by omega⟩
    · rw [if_neg h2]
      have h2 : 52 ≤ v := by omega
      by_cases h3 : v < 62
      · rw [if_pos h3]
        have q : XQ inp b64Bd b64C ⟨tk, out, rd, cl + 1, gl⟩ ⟨[v], 0⟩ (.go 0 ⟨tk + 17, out ++ [v - 4], rd, cl + 1, gl⟩ ⟨[v], 0⟩) := (XQ.cons (XS.no (X.bin (X.loc rfl) (X.num _) (b16_i_i_f (by omega) (by omega) (by omega))) (XQ.cons (XS.no (X.bin (X.loc rfl) (X.num _) (b16_i_i_f (by omega) (by omega) (by omega))) (XQ.cons (XS.yes (X.bin (X.loc rfl) (X.num _) (b16_i_i_t (by omega) (by omega) (by omega))) (by decide) (XQ.cons (XS.ex (X.puts (X.bin (X.loc rfl) (X.num _) (b13_i_i_n (by omega) (by omega) (by omega))) (p_i (by omega)))) XQ.nil)) XQ.nil)) XQ.nil)) XQ.nil)
        exact ⟨_, XF.runs (k := 0) rfl hcl q, by omega⟩
      · rw [if_neg h3]
        have h3 : 62 ≤ v := by omega
        by_cases h4 : v = 62
        · rw [if_pos h4]
          have q : XQ inp b64Bd b64C ⟨tk, out, rd, cl + 1, gl⟩ ⟨[v], 0⟩ (.go 0 ⟨tk + 19, out ++ [43], rd, cl + 1, gl⟩ ⟨[v], 0⟩) := (XQ.cons (XS.no (X.bin (X.loc rfl) (X.num _) (b16_i_i_f (by omega) (by omega) (by omega))) (XQ.cons (XS.no (X.bin (X.loc rfl) (X.num _) (b16_i_i_f (by omega) (by omega) (by omega))) (XQ.cons (XS.no (X.bin (X.loc rfl) (X.num _) (b16_i_i_f (by omega) (by omega) (by omega))) (XQ.cons (XS.yes (X.bin (X.loc rfl) (X.num _) (b20_i_i_t (by omega) (by omega) (by omega))) (by decide) (XQ.cons (XS.ex (X.puts (X.num _) (p_i (by omega)))) XQ.nil)) XQ.nil)) XQ.nil)) XQ.nil)) XQ.nil)
          exact ⟨_, XF.runs (k := 0) rfl hcl q, by omega⟩
        · rw [if_neg h4]
          have q : XQ inp b64Bd b64C ⟨tk, out, rd, cl + 1, gl⟩ ⟨[v], 0⟩ (.go 0 ⟨tk + 19, out ++ [47], rd, cl + 1, gl⟩ ⟨[v], 0⟩) := (XQ.cons (XS.no (X.bin (X.loc rfl) (X.num _) (b16_i_i_f (by omega) (by omega) (by omega))) (XQ.cons (XS.no (X.bin (X.loc rfl) (X.num _) (b16_i_i_f (by omega) (by omega) (by omega))) (XQ.cons (XS.no (X.bin (X.loc rfl) (X.num _) (b16_i_i_f (by omega) (by omega) (by omega))) (XQ.cons (XS.no (X.bin (X.loc rfl) (X.num _) (b20_i_i_f (by omega) (by omega) (by omega))) (XQ.cons (XS.ex (X.puts (X.num _) (p_i (by omega)))) XQ.nil)) XQ.nil)) XQ.nil)) XQ.nil)) XQ.nil)
          exact ⟨_, XF.runs (k := 0) rfl hcl q, by omega⟩
/-- bits put together -/
theorem or16 {x y : Nat} (hy : y < 16) : x * 2 ^ 4 ||| y = x * 16 + y := by
  rw [Nat.mul_comm, ← Nat.two_pow_add_eq_or_of_lt (i := 4) hy x]
theorem or4 {x y : Nat} (hy : y < 4) : x * 2 ^ 2 ||| y = x * 4 + y := by
  rw [Nat.mul_comm, ← Nat.two_pow_add_eq_or_of_lt (i := 2) hy x]
/-- one round's end: four signs -/
theorem b64_tell {a b c : Nat} (ha : a < 256) (hb : b < 256 ∨ b = 65535) (hc : c < 256 ∨ c = 65535) (tk : Nat) (out : List Nat) (rd : Nat) (gl : List (List Nat)) (r : Nat) :
    ∃ tk', XQ inp b64Bd [b64K, b64T] ⟨tk, out, rd, 1, gl⟩ ⟨[a, b, c], r⟩ (.go 0 ⟨tk', out ++ grp a b c, rd, 1, gl⟩ ⟨[a, b, c], r⟩) ∧ tk' ≤ tk + 250 := by
  have a3 : a &&& 3 = a % 4 := Nat.and_two_pow_sub_one_eq_mod a 2
  obtain ⟨t1, h1, k1⟩ := b64_code (inp := inp) (v := a / 2 ^ 2) (by omega) (tk + 5) out rd 1 gl (by decide)
  rw [show a / 2 ^ 2 = a / 4 from rfl] at h1
  have s1 : XS inp b64Bd b64K ⟨tk, out, rd, 1, gl⟩ ⟨[a, b, c], r⟩ (.go 0 ⟨t1, out ++ [sg64 (a / 4)], rd, 1, gl⟩ ⟨[a, b, c], r⟩) := XS.ex (X.call (XA.conss (X.bin (X.loc rfl) (X.num _) (b15_i_i (by omega) (by omega) (by omega))) (c_i_i (by omega)) (XA.nil _)) h1)
  unfold grp
  rcases hb with hb | rfl
  · have b15 : b &&& 15 = b % 16 := Nat.and_two_pow_sub_one_eq_mod b 4
    rw [if_neg (by omega)]
    obtain ⟨t2, h2, k2⟩ := b64_code (inp := inp) (v := a % 4 * 16 + b / 16) (by omega) (t1 + 4 + 11) (out ++ [sg64 (a / 4)]) rd 1 gl (by decide)
    have e2 : (a &&& 3) * 2 ^ 4 ||| b / 2 ^ 4 = a % 4 * 16 + b / 16 := by rw [a3, or16 (by omega)]
    have s2 : XS inp b64Bd b64Y ⟨t1 + 4, out ++ [sg64 (a / 4)], rd, 1, gl⟩ ⟨[a, b, c], r⟩ (.go 0 ⟨t2, out ++ [sg64 (a / 4)] ++ [sg64 (a % 4 * 16 + b / 16)], rd, 1, gl⟩ ⟨[a, b, c], r⟩) := by
      rw [← e2] at h2
      have hx : (a &&& 3) * 2 ^ 4 ||| b / 2 ^ 4 < 64 := by rw [e2]; omega
      rw [← e2]
      exact (XS.ex (X.call (XA.conss (X.bin (X.bin (X.bin (X.loc rfl) (X.num _) (b22_i_i (by omega) (by omega))) (X.num _) (b14_i_i_n (by omega) (by omega) (by omega) (by omega))) (X.bin (X.loc rfl) (X.num _) (b15_i_i (by omega) (by omega) (by omega))) (b24_i_i (by omega) (by omega))) (c_i_i (by omega)) (XA.nil _)) h2))
    rcases hc with hc | rfl
    · rw [if_neg (by omega)]
      have c63 : c &&& 63 = c % 64 := Nat.and_two_pow_sub_one_eq_mod c 6
      obtain ⟨t3, h3, k3⟩ := b64_code (inp := inp) (v := b % 16 * 4 + c / 64) (by omega) (t2 + 4 + 11) (out ++ [sg64 (a / 4)] ++ [sg64 (a % 4 * 16 + b / 16)]) rd 1 gl (by decide)
      obtain ⟨t4, h4, k4⟩ := b64_code (inp := inp) (v := c % 64) (by omega) (t3 + 5) (out ++ [sg64 (a / 4)] ++ [sg64 (a % 4 * 16 + b / 16)] ++ [sg64 (b % 16 * 4 + c / 64)]) rd 1 gl (by decide)
      have e3 : (b &&& 15) * 2 ^ 2 ||| c / 2 ^ 6 = b % 16 * 4 + c / 64 := by rw [b15, or4 (by omega)]
      have s3 : XQ inp b64Bd b64V ⟨t2 + 4, out ++ [sg64 (a / 4)] ++ [sg64 (a % 4 * 16 + b / 16)], rd, 1, gl⟩ ⟨[a, b, c], r⟩ (.go 0 ⟨t4, out ++ [sg64 (a / 4)] ++ [sg64 (a % 4 * 16 + b / 16)] ++ [sg64 (b % 16 * 4 + c / 64)] ++ [sg64 (c % 64)], rd, 1, gl⟩ ⟨[a, b, c], r⟩) := by
        have hx : (b &&& 15) * 2 ^ 2 ||| c / 2 ^ 6 < 64 := by rw [e3]; omega
        rw [← e3] at h3 h4 ⊢
        rw [← c63] at h4 ⊢
        have hy : c &&& 63 < 64 := by omega
        exact (XQ.cons (XS.ex (X.call (XA.conss (X.bin (X.bin (X.bin (X.loc rfl) (X.num _) (b22_i_i (by omega) (by omega))) (X.num _) (b14_i_i_n (by omega) (by omega) (by omega) (by omega))) (X.bin (X.loc rfl) (X.num _) (b15_i_i (by omega) (by omega) (by omega))) (b24_i_i (by omega) (by omega))) (c_i_i (by omega)) (XA.nil _)) h3)) (XQ.cons (XS.ex (X.call (XA.conss (X.bin (X.loc rfl) (X.num _) (b22_i_i (by omega) (by omega))) (c_i_i (by omega)) (XA.nil _)) h4)) XQ.nil))
      refine ⟨t4, ?_, by omega⟩
      rw [show out ++ (sg64 (a / 4) :: (sg64 (a % 4 * 16 + b / 16) :: [sg64 (b % 16 * 4 + c / 64), sg64 (c % 64)])) = out ++ [sg64 (a / 4)] ++ [sg64 (a % 4 * 16 + b / 16)] ++ [sg64 (b % 16 * 4 + c / 64)] ++ [sg64 (c % 64)] by simp]
      exact XQ.cons s1 (XQ.cons (XS.no (X.bin (X.loc rfl) (X.num _) (b16_i_i_f (by omega) (by omega) (by omega))) (XQ.cons s2 (XQ.cons (XS.no (X.bin (X.loc rfl) (X.num _) (b16_i_i_f (by omega) (by omega) (by omega))) s3) XQ.nil))) XQ.nil)
    · rw [if_pos rfl]
      obtain ⟨t3, h3, k3⟩ := b64_code (inp := inp) (v := b % 16 * 4) (by omega) (t2 + 4 + 7) (out ++ [sg64 (a / 4)] ++ [sg64 (a % 4 * 16 + b / 16)]) rd 1 gl (by decide)
      have e3 : (b &&& 15) * 2 ^ 2 = b % 16 * 4 := by rw [b15]
      have s3 : XQ inp b64Bd b64U ⟨t2 + 4, out ++ [sg64 (a / 4)] ++ [sg64 (a % 4 * 16 + b / 16)], rd, 1, gl⟩ ⟨[a, b, 65535], r⟩ (.go 0 ⟨t3 + 3, out ++ [sg64 (a / 4)] ++ [sg64 (a % 4 * 16 + b / 16)] ++ [sg64 (b % 16 * 4)] ++ [61], rd, 1, gl⟩ ⟨[a, b, 65535], r⟩) := by
        rw [← e3] at h3 ⊢
        exact (XQ.cons (XS.ex (X.call (XA.conss (X.bin (X.bin (X.loc rfl) (X.num _) (b22_i_i (by omega) (by omega))) (X.num _) (b14_i_i_n (by omega) (by omega) (by omega) (by omega))) (c_i_i (by omega)) (XA.nil _)) h3)) (XQ.cons (XS.ex (X.puts (X.num _) (p_i (by omega)))) XQ.nil))
      refine ⟨t3 + 3, ?_, by omega⟩
      rw [show out ++ (sg64 (a / 4) :: (sg64 (a % 4 * 16 + b / 16) :: [sg64 (b % 16 * 4), 61])) = out ++ [sg64 (a / 4)] ++ [sg64 (a % 4 * 16 + b / 16)] ++ [sg64 (b % 16 * 4)] ++ [61] by simp]
      exact XQ.cons s1 (XQ.cons (XS.no (X.bin (X.loc rfl) (X.num _) (b16_i_i_f (by omega) (by omega) (by omega))) (XQ.cons s2 (XQ.cons (XS.yes (X.bin (X.loc rfl) (X.num _) lt0_end) (by decide) s3) XQ.nil))) XQ.nil)
  · rw [if_pos rfl]
    obtain ⟨t2, h2, k2⟩ := b64_code (inp := inp) (v := a % 4 * 16) (by omega) (t1 + 4 + 7) (out ++ [sg64 (a / 4)]) rd 1 gl (by decide)
    have e2 : (a &&& 3) * 2 ^ 4 = a % 4 * 16 := by rw [a3]
    have s2 : XQ inp b64Bd b64X ⟨t1 + 4, out ++ [sg64 (a / 4)], rd, 1, gl⟩ ⟨[a, 65535, c], r⟩ (.go 0 ⟨t2 + 3 + 3, out ++ [sg64 (a / 4)] ++ [sg64 (a % 4 * 16)] ++ [61] ++ [61], rd, 1, gl⟩ ⟨[a, 65535, c], r⟩) := by
      rw [← e2] at h2 ⊢
      exact (XQ.cons (XS.ex (X.call (XA.conss (X.bin (X.bin (X.loc rfl) (X.num _) (b22_i_i (by omega) (by omega))) (X.num _) (b14_i_i_n (by omega) (by omega) (by omega) (by omega))) (c_i_i (by omega)) (XA.nil _)) h2)) (XQ.cons (XS.ex (X.puts (X.num _) (p_i (by omega)))) (XQ.cons (XS.ex (X.puts (X.num _) (p_i (by omega)))) XQ.nil)))
    refine ⟨t2 + 3 + 3, ?_, by omega⟩
    rw [show out ++ (sg64 (a / 4) :: [sg64 (a % 4 * 16), 61, 61]) = out ++ [sg64 (a / 4)] ++ [sg64 (a % 4 * 16)] ++ [61] ++ [61] by simp]
    exact XQ.cons s1 (XQ.cons (XS.yes (X.bin (X.loc rfl) (X.num _) lt0_end) (by decide) s2) XQ.nil)
/-- what base64 tells, round by round -/
def b64O (inp : List Nat) : Nat → List Nat
  | 0 => []
  | i + 1 => b64O inp i ++ grp (curC inp (3 * i)) (curC inp (3 * i + 1)) (curC inp (3 * i + 2))
theorem grp_len (a b c : Nat) : (grp a b c).length = 4 := by
  unfold grp
  split
  · rfl
  · split <;> rfl
theorem b64O_len (inp : List Nat) : ∀ i, (b64O inp i).length = 4 * i
  | 0 => rfl
  | i + 1 => by
    show (b64O inp i ++ grp _ _ _).length = _
    rw [List.length_append, b64O_len inp i, grp_len]; omega
theorem b64_means (hb : ∀ v ∈ inp, v < 256) : ∃ n v s, evF inp b64Bd n 1 [] ⟨0, [], 0, 0, []⟩ = some (.val v s) ∧ s.out = b64O inp ((inp.length + 2) / 3) ∧ ((200000 < s.tk ∨ 65536 < s.out.length) → 60 < inp.length) := by
  have hc : ∀ i, curC inp i < 65536 := fun i => by rcases cur_ch hb i with h | h <;> omega
  obtain ⟨N, hN⟩ : ∃ N, N = (inp.length + 2) / 3 := ⟨_, rfl⟩
  have key := XW.count (inp := inp) (bd := b64Bd) (C := b64Q) (B := b64W) (N := N) (K := 260) (c := 4) (r := 0) (cl := 1) (O := b64O inp) (R := fun i => min (3 * i + 1) inp.length) (Q := fun i => min (3 * i + 1) inp.length) (G := fun _ => []) (Fs := fun i => [curC inp (3 * i), if i = 0 then 0 else curC inp (3 * i - 2), if i = 0 then 0 else curC inp (3 * i - 1)])
    (fun i hi tk => by
      obtain ⟨v, h1, h2⟩ := ge0_val (cur_ch hb (3 * i))
      refine ⟨v, tk + 1 + 3, X.bin (X.loc rfl) (X.num _) h1, by omega, ?_⟩
      rw [h2, cur_ne hb]
      omega)
    (fun i hi tk => by
      have hlt := (cur_lt hb (i := 3 * i) (by omega)).2
      have hc1 := hc (3 * i + 1)
      have hc2 := hc (3 * i + 1 + 1)
      have hc3 := hc (3 * i + 1 + 1 + 1)
      obtain ⟨t1, h1, k1⟩ := b64_tell (inp := inp) hlt (cur_ch hb (3 * i + 1)) (cur_ch hb (3 * i + 1 + 1)) (tk + 4) (b64O inp i) (min (3 * i + 1 + 1 + 1) inp.length) [] 0
      have sA : XS inp b64Bd b64J ⟨tk, b64O inp i, min (3 * i + 1) inp.length, 1, []⟩ ⟨[curC inp (3 * i), if i = 0 then 0 else curC inp (3 * i - 2), if i = 0 then 0 else curC inp (3 * i - 1)], 0⟩ (.go 0 ⟨tk + 2, b64O inp i, min (3 * i + 1 + 1) inp.length, 1, []⟩ ⟨[curC inp (3 * i), curC inp (3 * i + 1), if i = 0 then 0 else curC inp (3 * i - 1)], 0⟩) := (XS.setls (X.gets rfl) (c_i_i hc1) (of_decide_eq_true rfl))
      have sB : XS inp b64Bd b64L ⟨tk + 2, b64O inp i, min (3 * i + 1 + 1) inp.length, 1, []⟩ ⟨[curC inp (3 * i), curC inp (3 * i + 1), if i = 0 then 0 else curC inp (3 * i - 1)], 0⟩ (.go 0 ⟨tk + 4, b64O inp i, min (3 * i + 1 + 1 + 1) inp.length, 1, []⟩ ⟨[curC inp (3 * i), curC inp (3 * i + 1), curC inp (3 * i + 1 + 1)], 0⟩) := (XS.setls (X.gets rfl) (c_i_i hc2) (of_decide_eq_true rfl))
      have sC : XS inp b64Bd b64G ⟨t1, b64O inp i ++ grp (curC inp (3 * i)) (curC inp (3 * i + 1)) (curC inp (3 * i + 1 + 1)), min (3 * i + 1 + 1 + 1) inp.length, 1, []⟩ ⟨[curC inp (3 * i), curC inp (3 * i + 1), curC inp (3 * i + 1 + 1)], 0⟩ (.go 0 ⟨t1 + 2, b64O inp i ++ grp (curC inp (3 * i)) (curC inp (3 * i + 1)) (curC inp (3 * i + 1 + 1)), min (3 * i + 1 + 1 + 1 + 1) inp.length, 1, []⟩ ⟨[curC inp (3 * i + 1 + 1 + 1), curC inp (3 * i + 1), curC inp (3 * i + 1 + 1)], 0⟩) := (XS.setls (X.gets rfl) (c_i_i hc3) (of_decide_eq_true rfl))
      refine ⟨t1 + 2, ?_, by omega⟩
      have e1 : 3 * (i + 1) = 3 * i + 1 + 1 + 1 := by omega
      rw [if_neg (show ¬ i + 1 = 0 by omega), if_neg (show ¬ i + 1 = 0 by omega), e1]
      exact XQ.cons sA (XQ.cons sB (XQ.app h1 (XQ.cons sC XQ.nil)))) (2 + 1 + 1 + 1)
  obtain ⟨t2, h2, k2⟩ := key
  have hI : XQ inp b64Bd b64I ⟨0, [], 0, 1, []⟩ ⟨[0, 0, 0], 0⟩ (.go 0 ⟨4, [], min 1 inp.length, 1, []⟩ ⟨[curC inp 0, 0, 0], 0⟩) := by
    have hc0 := hc 0
    have := X.gets (inp := inp) (bd := b64Bd) (i := 0) (s := ⟨1, [], 0, 1, []⟩) (f := [0, 0, 0]) (Nat.zero_min _).symm
    exact XQ.cons (XS.setls this (c_i_i hc0) (of_decide_eq_true rfl)) (XQ.cons (XS.setz (of_decide_eq_true rfl)) (XQ.cons (XS.setz (of_decide_eq_true rfl)) XQ.nil))
  have q : XQ inp b64Bd b64M ⟨0, [], 0, 1, []⟩ ⟨[0, 0, 0], 0⟩ (.go 1 ⟨t2 + 2, b64O inp N, min (3 * N + 1) inp.length, 1, []⟩ ⟨[curC inp (3 * N), if N = 0 then 0 else curC inp (3 * N - 2), if N = 0 then 0 else curC inp (3 * N - 1)], 0⟩) :=
    XQ.app hI (XQ.cons (XS.whl h2) (XQ.stop (XS.rets (X.num _) (c_i_i (by omega))) (by decide)))
  have hlen := b64O_len inp N
  rw [← hN]
  exact means_of (XF.runs (k := 1) rfl (by omega) q) (fun h => by
    by_cases hc : 60 < inp.length
    · exact hc
    · have : (260 + 4) * N ≤ 264 * 20 := Nat.mul_le_mul_left _ (by omega)
      omega)
end
end Go.Proofs.YtgmmfjmdpbhjnaaGreat
