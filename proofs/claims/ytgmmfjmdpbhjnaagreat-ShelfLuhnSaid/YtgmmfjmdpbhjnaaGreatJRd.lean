/-
  Texts joined: LineF AskF HlpF.
-/
import Derived.Test.YtgmmfjmdpbhjnaaGreatJRc
import Derived.Test.YtgmmfjmdpbhjnaaGreatJPb
import Derived.Lib.ConvBytes
import Derived.Test.YtgmmfjmdpbhjnaaGreatJPc
/-
  line: a number's digits and a line feed, as bytes.
-/
namespace Go.Proofs.YtgmmfjmdpbhjnaaGreat
open Go Go.RowKit

theorem strN_app (a b : List Nat) : strN (a ++ b) = strN a ++ strN b := by
  unfold strN
  apply ByteArray.ext
  simp
theorem strN_size (l : List Nat) : (strN l).size = l.length := by unfold strN; simp [ByteArray.size]

set_option maxRecDepth 100000 in
theorem big_one (d : Nat) (hd : d < 10) (w : World) : Calls Tryz.prog 27 #[.int .u64 (d : Nat)] w fun e w' => e = .returned (.string (strN [d + 48])) ∧ w = w' := by
  have : d = 0 ∨ d = 1 ∨ d = 2 ∨ d = 3 ∨ d = 4 ∨ d = 5 ∨ d = 6 ∨ d = 7 ∨ d = 8 ∨ d = 9 := by omega
  rcases this with rfl | rfl | rfl | rfl | rfl | rfl | rfl | rfl | rfl | rfl
  all_goals
    go_enter Tryz.func27, Tryz.ntmps27
    go_wp2_with fail
    go_ret
    exact ⟨rfl, rfl⟩
theorem big_ok : ∀ (m n : Nat), n ≤ m → n < 18446744073709551616 → ∀ w : World, Calls Tryz.prog 27 #[.int .u64 (n : Nat)] w fun e w' => e = .returned (.string (strN (digs n))) ∧ w = w' := by
  intro m
  induction m with
  | zero =>
    intro n hn h64 w
    rw [digs_lt (by omega)]
    exact big_one n (by omega) w
  | succ m ih =>
    intro n hn h64 w
    by_cases h : n < 10
    · rw [digs_lt h]; exact big_one n h w
    · have H := ih (n / 10) (by omega) (by omega) w
      have g1 : decide ((n : Int) < 10) = false := decide_eq_false (by omega)
      obtain ⟨q, hq⟩ : ∃ q, q = n / 10 := ⟨_, rfl⟩
      obtain ⟨d, hd⟩ : ∃ d, d = n % 10 := ⟨_, rfl⟩
      have HS := Lib.hid (show strN (digs q) ++ strN [d + 48] = strN (digs n) by rw [digs_ge (n := n) (by omega), ← hq, ← hd, strN_app])
      have w1 : IntKind.u64.wrap ((n : Int) / 10) = (q : Int) := by rw [IntKind.wrap]; simp [IntKind.bits, IntKind.signed]; omega
      have w2 : (n : Int).tmod 10 = (d : Int) := by rw [Int.tmod_eq_emod_of_nonneg (by omega)]; omega
      have hpz : (strN (digs q)).size ≤ 20 := by rw [strN_size]; exact (digs_len 19 q (Nat.lt_of_lt_of_le (show q < 18446744073709551616 by omega) (by decide))).2
      rw [← hq] at H
      have hd10 : d < 10 := by omega
      clear hq hd ih hn h
      generalize strN (digs n) = out at *
      generalize strN (digs q) = pre at *
      have : d = 0 ∨ d = 1 ∨ d = 2 ∨ d = 3 ∨ d = 4 ∨ d = 5 ∨ d = 6 ∨ d = 7 ∨ d = 8 ∨ d = 9 := by omega
      rcases this with rfl | rfl | rfl | rfl | rfl | rfl | rfl | rfl | rfl | rfl
      all_goals
        go_enter Tryz.func27, Tryz.ntmps27
        go_wp2_with fail
        refine H.mono ?_
        rintro e w' ⟨rfl, rfl⟩
        go_wp2_with fail
        · rename_i hbig
          exfalso
          have hb : pre.size + 1 ≤ 9223372036854775807 := by omega
          exact absurd hbig (Nat.not_lt.2 hb)
        · go_ret
          exact ⟨by rw [← HS.out]; rfl, rfl⟩
/-- a row of bytes that []byte(s) makes -/
theorem bytesWorld_in (w : World) (l : List Nat) (hl : ∀ v ∈ l, v < 256) : BytesIn (Lib.bytesWorld w 5 (strN l)) (some ⟨w.heap.size, 0, none⟩) l := fun k v hk => by
  have hlt := (List.getElem?_eq_some_iff.1 hk).1
  have hv := hl v (List.mem_of_getElem? hk)
  refine ⟨hv, w.heap.size, 0, rfl, by rw [Lib.bytesWorld_size]; omega, ?_⟩
  rw [Nat.zero_add, Lib.bytesWorld_cell w 5 (strN l) k (by rw [strN_size]; exact hlt)]
  congr 2
  unfold strN
  simp only [List.getD]
  rw [List.getElem?_map, hk]
  simp
  omega
theorem bytesWorld_below (w : World) (s : ByteArray) : Below w.heap.size w (Lib.bytesWorld w 5 s) :=
  ⟨rfl, rfl, rfl, by rw [Lib.bytesWorld_size]; omega, fun b hb => Lib.bytesWorld_at_old w _ s b hb⟩
theorem line_lt (n : Nat) : ∀ v ∈ digs n ++ [10], v < 256 := fun v hv => by
  rcases List.mem_append.1 hv with h | h
  · have := digs_dig n n (Nat.le_refl n) v h; omega
  · have : v = 10 := by simpa using h
    omega
set_option maxRecDepth 100000 in
/-- What line does. -/
theorem line_ok (n : Nat) (hn : n < 18446744073709551616) (w : World) : Calls Tryz.prog 22 #[.int .u64 (n : Nat)] w fun e w' => ∃ a c, e = .returned (.slice (some a) (digs n ++ [10]).length c) ∧ BytesIn w' (some a) (digs n ++ [10]) ∧ Below w.heap.size w w' := by
  have H := big_ok n n (Nat.le_refl n) hn w
  have hs : strN (digs n) ++ ⟨#[10]⟩ = strN (digs n ++ [10]) := (strN_app (digs n) [10]).symm
  have HB := Lib.hid (And.intro (bytesWorld_in w (digs n ++ [10]) (line_lt n)) (And.intro (bytesWorld_below w (strN (digs n ++ [10]))) (strN_size (digs n ++ [10]))))
  have cv := Lib.run_convert_string_bytes w 9 22 5 (strN (digs n ++ [10])) Tryz.underlying9 Tryz.underlying22 Tryz.underlying5
  have hpz : (strN (digs n)).size ≤ 20 := by rw [strN_size]; exact (digs_len 19 n (Nat.lt_of_lt_of_le hn (by decide))).2
  clear hn
  generalize strN (digs n) = pre at *
  generalize strN (digs n ++ [10]) = out at *
  go_enter Tryz.func22, Tryz.ntmps22
  go_wp2_with fail
  refine H.mono ?_
  rintro e w' ⟨rfl, rfl⟩
  go_wp2_with fail
  refine bodyPost_ret (v := .slice (some ⟨w.heap.size, 0, none⟩) out.size (grownCap w out.size 0 5)) (by simp [results, Tryz.results22, go_sem]) rfl ⟨_, _, by rw [HB.out.2.2], HB.out.1, HB.out.2.1⟩
end Go.Proofs.YtgmmfjmdpbhjnaaGreat

/-
  asked: numbers, each with a blank behind, as bytes; a program that is asked numbers is held against what it should tell.
-/
namespace Go.Proofs.YtgmmfjmdpbhjnaaGreat
open Go Go.RowKit

/-- numbers in memory -/
def NumsIn (w : World) (a : Option Addr) (l : List Nat) : Prop := ∀ (k v : Nat), l[k]? = some v → v < 18446744073709551616 ∧ ∃ b off, a = some ⟨b, off, none⟩ ∧ b < w.heap.size ∧ w.cell? ⟨b, off + k, none⟩ = some (.int .u64 v)
theorem nums_one (w : World) (a : Nat) (ha : a < 18446744073709551616) (t : TypeId) (f : Nat × Nat) : NumsIn (w.alloc (.cells #[.int .u64 (a : Nat)] t f)) (some ⟨w.heap.size, 0, none⟩) [a] := fun k v hk => by
  have hn := heap_alloc_new w (.cells #[.int .u64 (a : Nat)] t f)
  have hs : w.heap.size < (w.alloc (.cells #[.int .u64 (a : Nat)] t f)).heap.size := by rw [alloc_sz]; omega
  match k, hk with
  | 0, hk => cases hk; exact ⟨ha, _, 0, rfl, hs, by unfold World.cell?; rw [hn]; rfl⟩
  | k + 1, hk => simp at hk
theorem nums_two (w : World) (a b : Nat) (ha : a < 18446744073709551616) (hb : b < 18446744073709551616) (t : TypeId) (f : Nat × Nat) : NumsIn (w.alloc (.cells #[.int .u64 (a : Nat), .int .u64 (b : Nat)] t f)) (some ⟨w.heap.size, 0, none⟩) [a, b] := fun k v hk => by
  have hn := heap_alloc_new w (.cells #[.int .u64 (a : Nat), .int .u64 (b : Nat)] t f)
  have hs : w.heap.size < (w.alloc (.cells #[.int .u64 (a : Nat), .int .u64 (b : Nat)] t f)).heap.size := by rw [alloc_sz]; omega
  match k, hk with
  | 0, hk => cases hk; exact ⟨ha, _, 0, rfl, hs, by unfold World.cell?; rw [hn]; rfl⟩
  | 1, hk => cases hk; exact ⟨hb, _, 0, rfl, hs, by unfold World.cell?; rw [hn]; rfl⟩
  | k + 2, hk => simp at hk
theorem nums_three (w : World) (a b c : Nat) (ha : a < 18446744073709551616) (hb : b < 18446744073709551616) (hc : c < 18446744073709551616) (t : TypeId) (f : Nat × Nat) : NumsIn (w.alloc (.cells #[.int .u64 (a : Nat), .int .u64 (b : Nat), .int .u64 (c : Nat)] t f)) (some ⟨w.heap.size, 0, none⟩) [a, b, c] := fun k v hk => by
  have hn := heap_alloc_new w (.cells #[.int .u64 (a : Nat), .int .u64 (b : Nat), .int .u64 (c : Nat)] t f)
  have hs : w.heap.size < (w.alloc (.cells #[.int .u64 (a : Nat), .int .u64 (b : Nat), .int .u64 (c : Nat)] t f)).heap.size := by rw [alloc_sz]; omega
  match k, hk with
  | 0, hk => cases hk; exact ⟨ha, _, 0, rfl, hs, by unfold World.cell?; rw [hn]; rfl⟩
  | 1, hk => cases hk; exact ⟨hb, _, 0, rfl, hs, by unfold World.cell?; rw [hn]; rfl⟩
  | 2, hk => cases hk; exact ⟨hc, _, 0, rfl, hs, by unfold World.cell?; rw [hn]; rfl⟩
  | k + 3, hk => simp at hk
theorem askL_len (l : List Nat) (h : ∀ v ∈ l, v < 18446744073709551616) : (askL l).length ≤ 21 * l.length := by
  induction l with
  | nil => exact Nat.le_refl _
  | cons a l ih =>
    have h1 := ih fun v hv => h v (by simp [hv])
    have h2 := (digs_len 19 a (Nat.lt_of_lt_of_le (h a (by simp)) (by decide))).2
    unfold askL at h1 ⊢
    rw [List.flatMap_cons, List.length_append, List.length_append]
    simp only [List.length_cons, List.length_nil]
    omega
theorem askL_app (a b : List Nat) : askL (a ++ b) = askL a ++ askL b := List.flatMap_append

set_option maxHeartbeats 1000000 in
set_option maxRecDepth 100000 in
theorem asked_ok (l : List Nat) (hl : l.length ≤ 1000) (w : World) (a : Option Addr) (c : Nat) (h : NumsIn w a l) : Calls Tryz.prog 21 #[.slice a l.length c] w fun e w' => ∃ a' c', e = .returned (.slice (some a') (askL l).length c') ∧ BytesIn w' (some a') (askL l) ∧ Below w.heap.size w w' := by
  have h64 : ∀ v ∈ l, v < 18446744073709551616 := fun v hv => by
    obtain ⟨k, hk⟩ := List.getElem?_of_mem hv
    exact (h k v hk).1
  have HB := Lib.hid (And.intro (bytesWorld_in w (askL l) (askL_lt l)) (And.intro (bytesWorld_below w (strN (askL l))) (strN_size (askL l))))
  have cv := Lib.run_convert_string_bytes w 9 22 5 (strN (askL l)) Tryz.underlying9 Tryz.underlying22 Tryz.underlying5
  obtain ⟨V, hV⟩ : ∃ V : Nat → ByteArray, V = fun k => strN (askL (l.take k)) := ⟨_, rfl⟩
  have hV0 : V 0 = ⟨#[]⟩ := by rw [hV]; rfl
  have hVN : V l.length = strN (askL l) := by rw [hV]; simp only; rw [List.take_length]
  have hV1 : ∀ k v, l[k]? = some v → V k ++ strN (digs v) ++ ⟨#[32]⟩ = V (k + 1) := fun k v hv => by
    rw [hV]
    simp only
    rw [List.take_add_one, hv, askL_app, strN_app, ByteArray.append_assoc]
    congr 1
    show strN (digs v) ++ strN [32] = strN (askL [v])
    rw [← strN_app]
    unfold askL
    simp
  have hVs : ∀ k, (V k).size ≤ 21000 := fun k => by
    rw [hV]
    simp only
    rw [strN_size]
    have := askL_len (l.take k) fun v hv => h64 v (List.mem_of_mem_take hv)
    rw [List.length_take] at this
    omega
  rw [← hVN] at cv HB
  have HV := Lib.hid (And.intro hV1 hVs)
  have HN := Lib.hid h
  clear hV hVN hV1 hVs h h64
  obtain ⟨N, hN⟩ : ∃ N, N = l.length := ⟨_, rfl⟩
  have HL := Lib.hid hN
  rw [← hN] at hl cv HB ⊢
  clear hN
  go_enter Tryz.func21, Tryz.ntmps21
  go_wp2_with fail
  go_loopw [3, 8] (fun sv iv wr => ∃ k : Nat, k ≤ N ∧ iv = .int .i64 k ∧ sv = .string (V k) ∧ wr = w) (fun _ i _ => N - (intOf i).toNat)
  case atStart =>
    exact ⟨0, Nat.zero_le _, rfl, by rw [hV0], rfl⟩
  case round =>
    obtain ⟨k, hk, rfl, rfl, rfl⟩ := hrel
    by_cases hlt : k < N
    · have hls : decide ((k : Int) < N) = true := decide_eq_true (by omega)
      have hkl : k < l.length := by have := HL.out; omega
      obtain ⟨v, hv⟩ : ∃ v, l[k]? = some v := ⟨_, List.getElem?_eq_getElem hkl⟩
      obtain ⟨hv64, b, off, ha, hbl, hcell⟩ := HN.out k v hv
      have H := big_ok v v (Nat.le_refl v) hv64 wr
      have HS := Lib.hid (HV.out.1 k v hv)
      have hp := HV.out.2 k
      have hd : (strN (digs v)).size ≤ 20 := by rw [strN_size]; exact (digs_len 19 v (Nat.lt_of_lt_of_le hv64 (by decide))).2
      subst ha
      clear hv hkl
      generalize V k = pre at *
      generalize strN (digs v) = dg at *
      go_wp2_with fail
      refine H.mono ?_
      rintro e w' ⟨rfl, rfl⟩
      go_wp2_with fail
      go_round
      case rel => exact ⟨k + 1, by omega, by go_num, by rw [HS.out], trivial⟩
      case measure => simp [intOf]; omega
    · obtain rfl : k = N := by omega
      have hls : decide (((k : Nat) : Int) < k) = false := decide_eq_false (by omega)
      go_wp2_with fail
      exact bodyPost_ret (v := .slice (some ⟨wr.heap.size, 0, none⟩) (V k).size (grownCap wr (V k).size 0 5)) (by simp [results, Tryz.results21, go_sem]) rfl ⟨_, _, by rw [HB.out.2.2], HB.out.1, HB.out.2.1⟩

/-- a program that is asked numbers tells what it should -/
def TellsAsk (nm : ByteArray) (l want : List Nat) : Prop := ∀ (w : World) (a wa : Option Addr) (c wc : Nat), BytesIn w a (askL l) → BytesIn w wa want → (wa = none → want.length = 0) →
  Calls Tryz.prog 20 #[.string nm, .slice a (askL l).length c, .slice wa want.length wc, .bool false] w fun e w' => e = .returned (.bool true) ∧ Below w.heap.size w w'
theorem tellsAsk_of {nn nl : Nat} {rdy : Rdy} {l want : List Nat} {nm : ByteArray} (hP : Played nn nl rdy) (hs : XM.unB nn nl = nm) (he : ∃ n v s, evF (askL l) rdy.bd n rdy.k [] ⟨0, [], 0, 0, rdy.gl⟩ = some (.val v s) ∧ s.out = want ∧ s.tk ≤ 200000 ∧ s.out.length ≤ 65536) : TellsAsk nm l want := fun w a wa c wc h1 h2 h3 => by
  subst hs
  exact tells_ok hP (fun hl => h1.inp (Below.refl _ _) hl) h2 h3 (fun _ => by
    obtain ⟨n, v, s, q1, q2, q3, q4⟩ := he
    exact ⟨n, v, s, q1, q2, fun ho => by omega⟩)
end Go.Proofs.YtgmmfjmdpbhjnaaGreat

/-
  Small things for laws over numbers.
-/
namespace Go.Proofs.YtgmmfjmdpbhjnaaGreat
open Go Go.RowKit

theorem gcd_64 {a b : Nat} (ha : a < 18446744073709551616) (hb : b < 18446744073709551616) : Nat.gcd a b < 18446744073709551616 := by
  by_cases h : a = 0
  · subst h; rw [Nat.gcd_zero_left]; exact hb
  · exact Nat.lt_of_le_of_lt (Nat.gcd_le_left b (by omega)) ha
theorem gcd_step (x y : Nat) : Nat.gcd y (x % y) = Nat.gcd x y := by rw [Nat.gcd_comm x y, Nat.gcd_rec y x, Nat.gcd_comm]
theorem tm_nat (x y : Nat) : (x : Int).tmod y = ((x % y : Nat) : Int) := by
  rw [Int.tmod_eq_emod_of_nonneg (by omega)]; rfl
theorem wr_mul (x y : Nat) : IntKind.u64.wrap ((x : Int) * y) = ((x * y % 18446744073709551616 : Nat) : Int) := by rw [IntKind.wrap]; simp [IntKind.bits, IntKind.signed]
theorem wr_fit (z : Nat) (h : z < 18446744073709551616) : IntKind.u64.wrap (z : Int) = (z : Int) := by rw [IntKind.wrap]; simp [IntKind.bits, IntKind.signed]; omega
theorem wr_mfit (x y z : Nat) (hz : x * y = z) (h : z < 18446744073709551616) : IntKind.u64.wrap ((x : Int) * y) = (z : Int) := by
  rw [wr_mul, hz, Nat.mod_eq_of_lt h]
theorem sq_fit {r : Nat} (h : r ≤ 4294967295) : r * r < 18446744073709551616 := by
  have := Nat.mul_le_mul h h
  omega
end Go.Proofs.YtgmmfjmdpbhjnaaGreat
