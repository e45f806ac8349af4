/- contract of the document's Bytes -/
import Derived.Test.YtoifodabfpbjlaaRefNum
namespace Go.Proofs.Ytoifodabfpbjlaa
open Go.RowKit

/-- the row that 'Bytes' makes -/
def BytesPost (x n : Nat) (w : World) (e : Ending) (w' : World) : Prop :=
  e = .returned (.slice (some ⟨w.heap.size, 0, none⟩) n n) ∧ Cells w' (some ⟨w.heap.size, 0, none⟩) n (u8s (bytesOf x n)) ∧ Below w.heap.size w w'

theorem refbytes_any (x n : Nat) (w : World) (hn : n ≤ 4) (hx : x < 4294967296) :
    Calls Try.prog 20 #[.int .i64 x, .int .i64 n] w (BytesPost x n w) := by
  have hmk := run_make_row' (P := Try.prog) 22 5 (.int .u8 0) 1 Try.underlying22 Try.info5 rfl .i64 .i64 n (by omega) (by omega)
  go_enter Try.func20, Try.ntmps20
  go_wp2_with fail
  have hb0 : Below w.heap.size w (w.alloc (.cells (madeCells #[.int .u8 0] n) 5)) := (Below.refl _ _).alloc (Nat.le_refl _) _
  have hr0 := blk_new w (.cells (madeCells #[.int .u8 0] n) 5)
  have hs0 : (madeCells #[Value.int .u8 0] n).size = n := by simp [madeCells]
  generalize w.alloc (.cells (madeCells #[.int .u8 0] n) 5) = w0 at *
  generalize madeCells #[Value.int .u8 0] n = arr0 at *
  clear hmk
  go_loopw [0, 6] (fun y i wr => ∃ (j : Nat) (arr : Array Value), j ≤ n ∧ i = .int .i64 ((n : Int) - 1 - j) ∧ y = .int .i64 (x / 256 ^ j : Nat) ∧ wr.heap[w.heap.size]? = some (.cells arr 5) ∧ arr.size = n ∧
    (∀ k, n - j ≤ k → k < n → arr[k]? = some (.int .u8 ((x / 256 ^ (n - 1 - k) % 256 : Nat) : Int))) ∧ Below w.heap.size w wr) (fun _ i _ => (intOf i + 1).toNat)
  case atStart => exact ⟨0, arr0, by omega, val_int (by omega), val_int (by simp), hr0, hs0, fun k h1 h2 => by omega, hb0⟩
  case round =>
    obtain ⟨j, arr, hj, hi, rfl, hrow, hsz, hdone, hbw⟩ := hrel
    have Hdone := Lib.hid hdone
    have Hsz := Lib.hid hsz
    clear hdone
    by_cases hlt : j < n
    · obtain ⟨k0, hk0⟩ : ∃ k0 : Nat, (n : Int) - 1 - j = (k0 : Int) := ⟨n - 1 - j, by omega⟩
      rw [hk0] at hi
      subst hi
      have hk0n : k0 < n := by omega
      have hk1 : k0 + j + 1 = n := by omega
      have hyl : x / 256 ^ j ≤ x := Nat.div_le_self _ _
      have hy2 : Hid (x / 256 ^ (j + 1) = x / 256 ^ j / 256) := Lib.hid (by rw [Nat.pow_succ, Nat.div_div_eq_div_mul])
      obtain ⟨y, hy⟩ : ∃ y, y = x / 256 ^ j := ⟨_, rfl⟩
      rw [← hy] at hyl hy2 ⊢
      have Hy := Lib.hid hy
      obtain ⟨old, t1⟩ : ∃ old, wr.cell? ⟨w.heap.size, k0, none⟩ = some old := ⟨arr[k0]'(by omega), by rw [blk_cell hrow]; exact Array.getElem?_eq_getElem (by omega)⟩
      have t2 : wr.frozen? ⟨w.heap.size, k0, none⟩ = false := blk_frozen hrow k0
      have hw8 : IntKind.u8.wrap ((y : Int) % 256) = (y : Int) % 256 := IntWalk.u8_in _ (by omega)
      have hset := blk_set hrow k0 (.int .u8 ((y : Int) % 256))
      have Hset := Lib.hid hset
      clear hy hset hsz hrow hk0
      go_wp2_with fail
      go_roundw
      case rel =>
        refine ⟨j + 1, arr.setIfInBounds k0 (.int .u8 ((y : Int) % 256)), by omega, val_int (by omega), by rw [hy2.out]; exact val_int (by omega), Hset.out, by simp [Hsz.out], fun k h1 h2 => ?_, hbw.setCell (Nat.le_refl _) _⟩
        by_cases hk : k = k0
        · subst hk
          rw [Array.getElem?_setIfInBounds_self, if_pos (by rw [Hsz.out]; omega)]
          have : n - 1 - k = j := by omega
          rw [this, ← Hy.out]
          simp
        · rw [Array.getElem?_setIfInBounds_ne (by omega)]
          exact Hdone.out k (by omega) h2
      case measure => simp [intOf]
    · obtain rfl : j = n := by omega
      subst hi
      have g1 : decide ((0 : Int) ≤ (j : Int) - 1 - j) = false := decide_eq_false (by omega)
      go_wp2_with fail
      go_ret
      refine ⟨rfl, .inr ⟨w.heap.size, 0, rfl, fun k hk => ?_⟩, hbw⟩
      rw [Nat.zero_add, blk_cell hrow k, Hdone.out k (by omega) hk]
      unfold u8s bytesOf
      have e : ((List.range j).map (byteOf x j)).getD k 0 = byteOf x j k := by simp [List.getD, hk]
      rw [e]
      unfold byteOf
      congr 2
      rw [Nat.pow_mul]
      simp [UInt8.toNat_ofNat']
end Go.Proofs.Ytoifodabfpbjlaa
