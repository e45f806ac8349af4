/- contract of pairlegallaw17.alive -/
import Derived.Test.YtoifodabfpbjlaaSaveA
namespace Go.Proofs.Ytoifodabfpbjlaa
open Go.RowKit

theorem crc_123 : Crc.crc [49, 50, 51, 52, 53, 54, 55, 56, 57] = 10673 := by decide +kernel
theorem wrong_alive : wrongM [5] [] [] = 0 := by decide +kernel
theorem save_alive : (saveM [5] [] []).length = 20 := by decide +kernel

def Grows (w : World) (b : Bool) (e : Ending) (w' : World) : Prop := e = .returned (.bool b) ∧ Below w.heap.size w w'

set_option maxHeartbeats 1000000 in
theorem alive_any (w : World) : Calls Try.prog 7 #[] w (Grows w true) := by
  have kc := fun (w : World) (C : Array Value) (n c : Nat) => Lib.run_convert_bytes_const (P := Try.prog) w 22 5 C n c Try.underlying22 Try.underlying5
  go_enter Try.func7, Try.ntmps7
  go_wp2_with fail
  have hc : Cells (w.alloc (.cells #[.int .i64 5] 3)) (some ⟨w.heap.size, 0, none⟩) 1 (zints [5]) := by
    refine .inr ⟨w.heap.size, 0, rfl, fun k hk => ?_⟩
    obtain rfl : k = 0 := by omega
    rw [World.cell?_alloc_at _ _ _ _ rfl]; rfl
  have hb0 : Below w.heap.size w (w.alloc (.cells #[.int .i64 5] 3)) := (Below.refl _ _).alloc (Nat.le_refl _) _
  refine (save_ok _ none none 1 1 0 0 0 0 [5] [] [] _ rfl rfl rfl hc (.inl rfl) (.inl rfl) wrong_alive).mono ?_
  rintro e w1 ⟨v, rfl, hown, hb⟩
  have hb1 := hb0.trans (hb.mono (by simp))
  obtain ⟨a, cap, rfl, -, -⟩ := hown.read
  rw [save_alive]
  clear hown hb hb0 hc
  go_wp2_with fail
  have hc2 : Cells (w1.alloc (.cells #[.int .u8 49, .int .u8 50, .int .u8 51, .int .u8 52, .int .u8 53, .int .u8 54, .int .u8 55, .int .u8 56, .int .u8 57] 5 (9, 10))) (some ⟨w1.heap.size, 0, none⟩) 9 (u8s [49, 50, 51, 52, 53, 54, 55, 56, 57]) := by
    refine .inr ⟨w1.heap.size, 0, rfl, fun k hk => ?_⟩
    rw [World.cell?_alloc_mark]
    match k, hk with
    | 0, _ => rfl
    | 1, _ => rfl
    | 2, _ => rfl
    | 3, _ => rfl
    | 4, _ => rfl
    | 5, _ => rfl
    | 6, _ => rfl
    | 7, _ => rfl
    | 8, _ => rfl
  have hcrc := crc_any (some ⟨w1.heap.size, 0, none⟩) 9 9 [49, 50, 51, 52, 53, 54, 55, 56, 57] _ rfl (by decide) hc2
  rw [crc_123] at hcrc
  refine hcrc.mono ?_
  rintro e w2 ⟨rfl, rfl⟩
  go_wp2_with fail
  go_ret
  exact ⟨rfl, hb1.alloc (by have := hb1.size; omega) _⟩
end Go.Proofs.Ytoifodabfpbjlaa
