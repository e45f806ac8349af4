/- contract of the document's Crc -/
import Derived.Test.YtoifodabfpbjlaaSumsA
import Derived.Test.YtoifodabfpbjlaaRefP
import Derived.Test.YtoifodabfpbjlaaLoadA
namespace Go.Proofs.Ytoifodabfpbjlaa
open Go.RowKit

def RefCrc (r : Nat) (w : World) (e : Ending) (w' : World) : Prop := e = .returned (.int .i64 r) ∧ Below w.heap.size w w'

theorem i64_and1 (n : Int) : bits .and .i64 n 1 = n % 2 := by
  have h1 : (BitVec.ofInt 64 1).toNat = 2 ^ 1 - 1 := by decide
  have key : (BitVec.ofInt 64 n &&& BitVec.ofInt 64 1).toNat = (n % ((2 ^ 64 : Nat) : Int)).toNat % 2 ^ 1 := by
    rw [BitVec.toNat_and, BitVec.toNat_ofInt, h1, Nat.and_two_pow_sub_one_eq_mod]
  show IntKind.i64.wrap ((BitVec.ofInt 64 n &&& BitVec.ofInt 64 1).toNat : Nat) = n % 2
  rw [key, IntKind.wrap_i64]
  omega

theorem and_one (c k : Nat) : bits .and .i64 ((c : Int) / 2 ^ k) 1 = ((c / 2 ^ k % 2 : Nat) : Int) := by
  have e : ((c : Int) / 2 ^ k) = ((c / 2 ^ k : Nat) : Int) := by simp
  rw [e, i64_and1]
  omega

set_option maxHeartbeats 1000000 in
theorem refcrc_any (a : Option Addr) (len cap : Nat) (bs : List UInt8) (w : World) (hlen : bs.length = len) (hm : len ≤ 1000000000000000)
   (hc : Cells w a len (u8s bs)) :
    Calls Try.prog 9 #[.slice a len cap] w (RefCrc (Crc.crc bs) w) := by
  have Hlen := Lib.hid hlen
  clear hlen
  go_enter Try.func9, Try.ntmps9
  go_wp2_with fail
  go_loopw [3, 13] (fun r i wr => ∃ k : Nat, k ≤ len ∧ i = .int .i64 k ∧ r = .int .i64 (Crc.crcFrom 65535 (bs.take k) : Nat) ∧ Below w.heap.size w wr) (fun _ i _ => len - (intOf i).toNat)
  case atStart => exact ⟨0, by omega, rfl, rfl, Below.refl _ _⟩
  case round =>
    obtain ⟨k, hk, rfl, rfl, hbw⟩ := hrel
    by_cases hlt : k < len
    · obtain ⟨b, off, rfl, hck⟩ := (Cells.grow hc hbw).at hlt
      have hn := Crc.crcFrom_lt 65535 (bs.take k) (by omega)
      have hs : Hid (Crc.crcFrom 65535 (bs.take (k + 1)) = Crc.byte (Crc.crcFrom 65535 (bs.take k)) (bs.getD k 0).toNat) := by
        show _ = _
        rw [Crc.crcFrom_take_succ _ _ _ (by rw [Hlen.out]; exact hlt)]
        simp [List.getD, Hlen.out, hlt]
      have hb := (bs.getD k 0).toNat_lt
      unfold u8s at hck
      generalize (bs.getD k 0).toNat = c at hck hs hb
      generalize Crc.crcFrom 65535 (bs.take k) = n at hn hs
      go_wp2_with fail
      go_loopw [3, 6] (fun r i w1 => ∃ j : Nat, j ≤ 8 ∧ i = .int .i64 (7 - (j : Int)) ∧ r = .int .i64 (Crc.refBits j n c : Nat) ∧ Below w.heap.size w w1) (fun _ i _ => (intOf i + 1).toNat)
      case atStart => exact ⟨0, by omega, rfl, rfl, hbw⟩
      case round =>
        obtain ⟨j, hj, rfl, rfl, hbw1⟩ := hrel
        have hq := Crc.refBits_lt j n c hn
        by_cases hlt2 : j < 8
        · have hsj := Lib.hid (show Crc.refBits (j + 1) n c = Crc.refBit (Crc.refBits j n c) c (7 - j) from rfl)
          generalize Crc.refBits j n c = q at hq hsj
          have g1 : decide ((0 : Int) ≤ 7 - (j : Int)) = true := decide_eq_true (by omega)
          have fb : bits .and .i64 ((c : Int) / 2 ^ (7 - j)) 1 = ((c / 2 ^ (7 - j) % 2 : Nat) : Int) := and_one c (7 - j)
          unfold Crc.refBit at hsj
          generalize c / 2 ^ (7 - j) % 2 = bit at *
          by_cases hbit : q / 32768 = bit
          · have fbit : ((q : Int) / 32768 != (bit : Int)) = false := by
              rw [show (q : Int) / 32768 = (bit : Int) by omega]; simp
            rw [if_pos hbit] at hsj
            clear hbit
            go_wp2_with fail
            go_round
            case rel => exact ⟨j + 1, by omega, val_int (by omega), by rw [hsj.out]; exact val_int (by omega), hbw1⟩
            case measure => simp [intOf]; omega
          · have fbit : ((q : Int) / 32768 != (bit : Int)) = true := by
              simp only [bne_iff_ne]; omega
            rw [if_neg hbit] at hsj
            clear hbit
            go_wp2_with fail
            have hbw2 := hbw1.alloc (by have := hbw1.size; omega) (.cells #[.int .i64 4096, .int .i64 32, .int .i64 1] 3)
            have hrow := blk_new wr (.cells #[.int .i64 4096, .int .i64 32, .int .i64 1] 3)
            have r0 := blk_cell hrow 0
            have r1 := blk_cell hrow 1
            have r2 := blk_cell hrow 2
            have hz : q * 2 % 65536 < 65536 := by omega
            rw [show (q : Int) * 2 % 65536 = ((q * 2 % 65536 : Nat) : Int) by omega]
            generalize q * 2 % 65536 = z at *
            generalize wr.alloc (.cells #[.int .i64 4096, .int .i64 32, .int .i64 1] 3) = wz at *
            go_loop [3, 36] (fun r i => ∃ t : Nat, t ≤ 3 ∧ i = .int .i64 t ∧ r = .int .i64 (Crc.flips z t : Nat)) (fun _ i => 3 - (intOf i).toNat)
            case atStart => exact ⟨0, by omega, rfl, rfl⟩
            case round =>
              obtain ⟨t, ht, rfl, rfl⟩ := hrel
              have hfl := Crc.flips_lt z t hz
              match t, ht with
              | 0, _ =>
                have hst : Hid (Crc.flips z 1 = Crc.flips z 0 ^^^ 4096) := Lib.hid rfl
                rw [Crc.flip_4096] at hst
                generalize Crc.flips z 0 = x at *
                by_cases hp : x / 4096 % 2 = 1
                · rw [if_pos hp] at hst
                  have fp : ((x : Int) / 4096 % 2 == 1) = true := t_eq (by omega)
                  have hge : 4096 ≤ x := by omega
                  clear hp
                  go_wp2_with fail
                  go_round
                  case rel => exact ⟨1, by omega, by go_num, by rw [hst.out]; exact val_int (by omega)⟩
                  case measure => simp [intOf]
                · rw [if_neg hp] at hst
                  have fp : ((x : Int) / 4096 % 2 == 1) = false := t_ne (by omega)
                  clear hp
                  go_wp2_with fail
                  go_round
                  case rel => exact ⟨1, by omega, by go_num, by rw [hst.out]; exact val_int (by omega)⟩
                  case measure => simp [intOf]
              | 1, _ =>
                have hst : Hid (Crc.flips z 2 = Crc.flips z 1 ^^^ 32) := Lib.hid rfl
                rw [Crc.flip_32] at hst
                generalize Crc.flips z 1 = x at *
                by_cases hp : x / 32 % 2 = 1
                · rw [if_pos hp] at hst
                  have fp : ((x : Int) / 32 % 2 == 1) = true := t_eq (by omega)
                  have hge : 32 ≤ x := by omega
                  clear hp
                  go_wp2_with fail
                  go_round
                  case rel => exact ⟨2, by omega, by go_num, by rw [hst.out]; exact val_int (by omega)⟩
                  case measure => simp [intOf]
                · rw [if_neg hp] at hst
                  have fp : ((x : Int) / 32 % 2 == 1) = false := t_ne (by omega)
                  clear hp
                  go_wp2_with fail
                  go_round
                  case rel => exact ⟨2, by omega, by go_num, by rw [hst.out]; exact val_int (by omega)⟩
                  case measure => simp [intOf]
              | 2, _ =>
                have hst : Hid (Crc.flips z 3 = Crc.flips z 2 ^^^ 1) := Lib.hid (Crc.flips_three z).symm
                rw [Crc.flip_1] at hst
                generalize Crc.flips z 2 = x at *
                by_cases hp : x / 1 % 2 = 1
                · rw [if_pos hp] at hst
                  have fp : ((x : Int) / 1 % 2 == 1) = true := t_eq (by omega)
                  have hge : 1 ≤ x := by omega
                  have fp1 : ((x : Int) % 2 == 1) = true := t_eq (by omega)
                  clear hp
                  go_wp2_with fail
                  go_round
                  case rel => exact ⟨3, by omega, by go_num, by rw [hst.out]; exact val_int (by omega)⟩
                  case measure => simp [intOf]
                · rw [if_neg hp] at hst
                  have fp : ((x : Int) / 1 % 2 == 1) = false := t_ne (by omega)
                  have fp1 : ((x : Int) % 2 == 1) = false := t_ne (by omega)
                  clear hp
                  go_wp2_with fail
                  go_round
                  case rel => exact ⟨3, by omega, by go_num, by rw [hst.out]; exact val_int (by omega)⟩
                  case measure => simp [intOf]
              | 3, _ =>
                have h3 : Hid (Crc.refBits (j + 1) n c = Crc.flips z 3) := Lib.hid hsj.out
                generalize Crc.flips z 3 = x at *
                go_wp2_with fail
                go_round
                case rel => exact ⟨j + 1, by omega, val_int (by omega), by rw [h3.out], hbw2⟩
                case measure => simp [intOf]; omega
              | n + 4, h => omega
        · obtain rfl : j = 8 := by omega
          go_wp2_with fail
          go_round
          case rel => exact ⟨k + 1, by omega, by go_num, by rw [hs.out, ← Crc.refBits_byte n c hn hb], hbw1⟩
          case measure => simp [intOf]; omega
    · go_wp2_with fail
      go_ret
      exact ⟨ret_int (by unfold Crc.crc; rw [List.take_of_length_le (by rw [Hlen.out]; omega)]), hbw⟩
end Go.Proofs.Ytoifodabfpbjlaa
