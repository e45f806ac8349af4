/-
  line: a number's digits and a line feed, as bytes.
-/
import Derived.Test.YtclpjglkjkbljaaGreatJRc
import Derived.Test.YtclpjglkjkbljaaGreatJPb
import Derived.Lib.ConvBytes
namespace Go.Proofs.YtclpjglkjkbljaaGreat
open Go Go.RowKit

theorem strN_app (a b : List Nat) : strN (a ++ b) = strN a ++ strN b := by
  unfold strN
  apply ByteArray.ext
  simp
theorem strN_size (l : List Nat) : (strN l).size = l.length := by unfold strN; simp [ByteArray.size]

set_option maxRecDepth 100000 in
theorem big_one (d : Nat) (hd : d < 10) (w : World) : Calls Tryz.prog 18 #[.int .u64 (d : Nat)] w fun e w' => e = .returned (.string (strN [d + 48])) ∧ w = w' := by
  have : d = 0 ∨ d = 1 ∨ d = 2 ∨ d = 3 ∨ d = 4 ∨ d = 5 ∨ d = 6 ∨ d = 7 ∨ d = 8 ∨ d = 9 := by omega
  rcases this with rfl | rfl | rfl | rfl | rfl | rfl | rfl | rfl | rfl | rfl
  all_goals
    go_enter Tryz.func18, Tryz.ntmps18
    go_wp2_with fail
    go_ret
    exact ⟨rfl, rfl⟩
theorem big_ok : ∀ (m n : Nat), n ≤ m → n < 18446744073709551616 → ∀ w : World, Calls Tryz.prog 18 #[.int .u64 (n : Nat)] w fun e w' => e = .returned (.string (strN (digs n))) ∧ w = w' := by
  intro m
  induction m with
  | zero =>
    intro n hn h64 w
    rw [digs_lt (by omega)]
    exact big_one n (by omega) w
  | succ m ih =>
    intro n hn h64 w
    by_cases h : n < 10
    · rw [digs_lt h]; exact big_one n h w
    · have H := ih (n / 10) (by omega) (by omega) w
      have g1 : decide ((n : Int) < 10) = false := decide_eq_false (by omega)
      obtain ⟨q, hq⟩ : ∃ q, q = n / 10 := ⟨_, rfl⟩
      obtain ⟨d, hd⟩ : ∃ d, d = n % 10 := ⟨_, rfl⟩
      have HS := Lib.hid (show strN (digs q) ++ strN [d + 48] = strN (digs n) by rw [digs_ge (n := n) (by omega), ← hq, ← hd, strN_app])
      have w1 : IntKind.u64.wrap ((n : Int) / 10) = (q : Int) := by rw [IntKind.wrap]; simp [IntKind.bits, IntKind.signed]; omega
      have w2 : (n : Int).tmod 10 = (d : Int) := by rw [Int.tmod_eq_emod_of_nonneg (by omega)]; omega
      have hpz : (strN (digs q)).size ≤ 20 := by rw [strN_size]; exact (digs_len 19 q (Nat.lt_of_lt_of_le (show q < 18446744073709551616 by omega) (by decide))).2
      rw [← hq] at H
      have hd10 : d < 10 := by omega
      clear hq hd ih hn h
      generalize strN (digs n) = out at *
      generalize strN (digs q) = pre at *
      have : d = 0 ∨ d = 1 ∨ d = 2 ∨ d = 3 ∨ d = 4 ∨ d = 5 ∨ d = 6 ∨ d = 7 ∨ d = 8 ∨ d = 9 := by omega
      rcases this with rfl | rfl | rfl | rfl | rfl | rfl | rfl | rfl | rfl | rfl
      all_goals
        go_enter Tryz.func18, Tryz.ntmps18
        go_wp2_with fail
        refine H.mono ?_
        rintro e w' ⟨rfl, rfl⟩
        go_wp2_with fail
        · rename_i hbig
          exfalso
          have hb : pre.size + 1 ≤ 9223372036854775807 := by omega
          exact absurd hbig (Nat.not_lt.2 hb)
        · go_ret
          exact ⟨by rw [← HS.out]; rfl, rfl⟩
/-- a row of bytes that []byte(s) makes -/
theorem bytesWorld_in (w : World) (l : List Nat) (hl : ∀ v ∈ l, v < 256) : BytesIn (Lib.bytesWorld w 5 (strN l)) (some ⟨w.heap.size, 0, none⟩) l := fun k v hk => by
  have hlt := (List.getElem?_eq_some_iff.1 hk).1
  have hv := hl v (List.mem_of_getElem? hk)
  refine ⟨hv, w.heap.size, 0, rfl, by rw [Lib.bytesWorld_size]; omega, ?_⟩
  rw [Nat.zero_add, Lib.bytesWorld_cell w 5 (strN l) k (by rw [strN_size]; exact hlt)]
  congr 2
  unfold strN
  simp only [List.getD]
  rw [List.getElem?_map, hk]
  simp
  omega
theorem bytesWorld_below (w : World) (s : ByteArray) : Below w.heap.size w (Lib.bytesWorld w 5 s) :=
  ⟨rfl, rfl, rfl, by rw [Lib.bytesWorld_size]; omega, fun b hb => Lib.bytesWorld_at_old w _ s b hb⟩
theorem line_lt (n : Nat) : ∀ v ∈ digs n ++ [10], v < 256 := fun v hv => by
  rcases List.mem_append.1 hv with h | h
  · have := digs_dig n n (Nat.le_refl n) v h; omega
  · have : v = 10 := by simpa using h
    omega
set_option maxRecDepth 100000 in
/-- What line does. -/
theorem line_ok (n : Nat) (hn : n < 18446744073709551616) (w : World) : Calls Tryz.prog 16 #[.int .u64 (n : Nat)] w fun e w' => ∃ a c, e = .returned (.slice (some a) (digs n ++ [10]).length c) ∧ BytesIn w' (some a) (digs n ++ [10]) ∧ Below w.heap.size w w' := by
  have H := big_ok n n (Nat.le_refl n) hn w
  have hs : strN (digs n) ++ ⟨#[10]⟩ = strN (digs n ++ [10]) := (strN_app (digs n) [10]).symm
  have HB := Lib.hid (And.intro (bytesWorld_in w (digs n ++ [10]) (line_lt n)) (And.intro (bytesWorld_below w (strN (digs n ++ [10]))) (strN_size (digs n ++ [10]))))
  have cv := Lib.run_convert_string_bytes w 9 22 5 (strN (digs n ++ [10])) Tryz.underlying9 Tryz.underlying22 Tryz.underlying5
  have hpz : (strN (digs n)).size ≤ 20 := by rw [strN_size]; exact (digs_len 19 n (Nat.lt_of_lt_of_le hn (by decide))).2
  clear hn
  generalize strN (digs n) = pre at *
  generalize strN (digs n ++ [10]) = out at *
  go_enter Tryz.func16, Tryz.ntmps16
  go_wp2_with fail
  refine H.mono ?_
  rintro e w' ⟨rfl, rfl⟩
  go_wp2_with fail
  refine bodyPost_ret (v := .slice (some ⟨w.heap.size, 0, none⟩) out.size (grownCap w out.size 0 5)) (by simp [results, Tryz.results16, go_sem]) rfl ⟨_, _, by rw [HB.out.2.2], HB.out.1, HB.out.2.1⟩
end Go.Proofs.YtclpjglkjkbljaaGreat
