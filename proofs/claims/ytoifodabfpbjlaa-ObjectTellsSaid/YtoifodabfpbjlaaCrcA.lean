/- contract of object.Crc -/
import Derived.Test.YtoifodabfpbjlaaRows
import Derived.Test.YtoifodabfpbjlaaPlain
import Derived.Test.YtoifodabfpbjlaaBase
namespace Go.Proofs.Ytoifodabfpbjlaa
open Go.RowKit

def u8s (bs : List UInt8) (k : Nat) : Value := .int .u8 ((bs.getD k 0).toNat : Int)

set_option maxHeartbeats 400000 in
theorem crc_any (a : Option Addr) (len cap : Nat) (bs : List UInt8) (w : World) (hlen : bs.length = len) (hm : len ≤ 1000000000000000)
   (hc : Cells w a len (u8s bs)) :
    Calls Try.prog 8 #[.slice a len cap] w fun e w' => e = .returned (.int .i64 (Crc.crc bs)) ∧ w = w' := by
  have Hlen := Lib.hid hlen
  clear hlen
  go_enter Try.func8, Try.ntmps8
  go_wp2
  go_loop [3, 9] (fun r i => ∃ k : Nat, k ≤ len ∧ i = .int .i64 k ∧ r = .int .u16 (Crc.crcFrom 65535 (bs.take k) : Nat)) (fun _ i => len - (intOf i).toNat)
  case atStart => exact ⟨0, by omega, rfl, rfl⟩
  case round =>
    obtain ⟨k, hk, rfl, rfl⟩ := hrel
    have hn := Crc.crcFrom_lt 65535 (bs.take k) (by omega)
    by_cases hlt : k < len
    · obtain ⟨b, off, rfl, hck⟩ := hc.at hlt
      have hs : Hid (Crc.crcFrom 65535 (bs.take (k + 1)) = Crc.byte (Crc.crcFrom 65535 (bs.take k)) (bs.getD k 0).toNat) := by
        show _ = _
        rw [Crc.crcFrom_take_succ _ _ _ (by rw [Hlen.out]; exact hlt)]
        simp [List.getD, Hlen.out, hlt]
      have hb := (bs.getD k 0).toNat_lt
      unfold u8s at hck
      generalize (bs.getD k 0).toNat = c at hck hs hb
      generalize Crc.crcFrom 65535 (bs.take k) = n at hn hs
      have hx := Crc.xor_lt n c hn hb
      have hx1 : bits .xor .u16 (n : Int) ((c : Int) * 256) = ((n ^^^ (c * 256) : Nat) : Int) := by
        have := u16_xor_nat n (c * 256) hn (by omega)
        simpa using this
      go_wp2
      clear hx1
      go_loop [3, 6, 18] (fun r _ i => ∃ j : Nat, j ≤ 8 ∧ i = .int .i64 j ∧ r = .int .u16 (Crc.steps j (n ^^^ (c * 256)) : Nat)) (fun _ _ i => 8 - (intOf i).toNat)
      case atStart => exact ⟨0, by omega, rfl, rfl⟩
      case round =>
        obtain ⟨j, hj, rfl, rfl⟩ := hrel
        by_cases hlt2 : j < 8
        · have hs2 := Lib.hid (Crc.steps_succ j (n ^^^ (c * 256)))
          have hq := Crc.steps_lt j _ hx
          generalize Crc.steps j (n ^^^ (c * 256)) = q at hs2 hq
          have hand : bits .and .u16 (q : Int) 32768 = if q < 32768 then 0 else 32768 := by
            have h1 := u16_and_nat q 32768 hq (by omega)
            have h2 : q &&& 32768 = q / 32768 % 2 * 32768 := nat_bit 15 q
            rw [h2] at h1
            rw [show ((32768 : Nat) : Int) = 32768 from rfl] at h1
            rw [h1]
            split <;> omega
          by_cases hq2 : q < 32768
          · rw [if_pos hq2] at hand
            go_wp2
            go_round
            case rel => exact ⟨j + 1, by omega, by go_num, by rw [hs2.out]; unfold Crc.step; rw [if_pos hq2]; exact val_u16 (by omega)⟩
            case measure => simp [intOf]; omega
          · rw [if_neg hq2] at hand
            have hx3 : bits .xor .u16 ((q : Int) * 2 % 65536) 4129 = (((2 * q - 65536) ^^^ 4129 : Nat) : Int) := by
              have h1 := u16_xor_nat (2 * q - 65536) 4129 (by omega) (by omega)
              rw [show ((2 * q - 65536 : Nat) : Int) = (q : Int) * 2 % 65536 by omega, show ((4129 : Nat) : Int) = 4129 from rfl] at h1
              exact h1
            have hx2 : IntKind.u16.wrap ((q : Int) * 2) = (q : Int) * 2 % 65536 := IntKind.wrap_u16 _
            go_wp2
            go_round
            case rel => exact ⟨j + 1, by omega, by go_num, by rw [hs2.out]; unfold Crc.step; rw [if_neg hq2]⟩
            case measure => simp [intOf]; omega
        · have hj8 : j = 8 := by omega
          subst hj8
          go_wp2
          go_round
          case rel => exact ⟨k + 1, by omega, by go_num, by rw [hs.out]; rfl⟩
          case measure => simp [intOf]; omega
    · go_wp2
      go_ret
      exact ⟨ret_int (by unfold Crc.crc; rw [List.take_of_length_le (by rw [Hlen.out]; omega)]), rfl⟩
end Go.Proofs.Ytoifodabfpbjlaa
