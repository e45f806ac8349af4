/- contracts of object.read and of the reader's methods -/
import Derived.Test.YtoifodabfpbjlaaAliveA
namespace Go.Proofs.Ytoifodabfpbjlaa
open Go.RowKit

/-- the number that bytes are, the highest first -/
def readFrom (x : Nat) (bs : List UInt8) : Nat := bs.foldl (fun x c => x * 256 + c.toNat) x
def readM (bs : List UInt8) : Nat := readFrom 0 bs

theorem readFrom_append (x : Nat) (a b : List UInt8) : readFrom x (a ++ b) = readFrom (readFrom x a) b := by
  unfold readFrom; rw [List.foldl_append]
theorem readFrom_one (x : Nat) (c : UInt8) : readFrom x [c] = x * 256 + c.toNat := by simp only [readFrom, List.foldl_cons, List.foldl_nil]
theorem readM_take_succ (bs : List UInt8) (k : Nat) (h : k < bs.length) : readM (bs.take (k + 1)) = readM (bs.take k) * 256 + (bs.getD k 0).toNat := by
  unfold readM
  rw [List.take_succ_eq_append_getElem h, readFrom_append, readFrom_one, List.getD_eq_getElem?_getD, List.getElem?_eq_getElem h]
  rfl
theorem readM_lt (bs : List UInt8) (k : Nat) (hk : k ≤ bs.length) : readM (bs.take k) < 256 ^ k := by
  induction k with
  | zero => simp [readM, readFrom]
  | succ k ih =>
    rw [readM_take_succ bs k hk, Nat.pow_succ]
    have h1 := ih (by omega)
    have h2 := (bs.getD k 0).toNat_lt
    omega

theorem or_low (x c : Nat) (hc : c < 256) : x * 256 ||| c = x * 256 + c := Go.nat_join 8 _ _ (by omega) (by omega)

theorem ofInt_i64 (a : Nat) (ha : a < 4294967296000) : (BitVec.ofInt 64 (a : Int)).toNat = a := by
  rw [BitVec.toNat_ofInt]; omega
theorem i64_or_nat (a b : Nat) (ha : a < 4294967296) (hb : b < 4294967296) : bits .or .i64 (a : Int) (b : Int) = ((a ||| b : Nat) : Int) := by
  have h3 : a ||| b < 2 ^ 32 := Nat.or_lt_two_pow (by omega) (by omega)
  show IntKind.i64.wrap ((BitVec.ofInt 64 (a : Int) ||| BitVec.ofInt 64 (b : Int)).toNat : Int) = _
  rw [BitVec.toNat_or, ofInt_i64 a (by omega), ofInt_i64 b (by omega)]
  exact IntWalk.i64_in _ (by omega)

set_option maxHeartbeats 400000 in
theorem read_any (a : Option Addr) (len cap : Nat) (bs : List UInt8) (w : World) (hlen : bs.length = len) (hm : len ≤ 4) (hc : Cells w a len (u8s bs)) :
    Calls Try.prog 21 #[.slice a len cap] w fun e w' => e = .returned (.int .i64 (readM bs)) ∧ w = w' := by
  have Hlen := Lib.hid hlen
  clear hlen
  go_enter Try.func21, Try.ntmps21
  go_wp2_with fail
  go_loop [3, 5, 8] (fun x _ i => ∃ k : Nat, k ≤ len ∧ i = .int .i64 k ∧ x = .int .i64 (readM (bs.take k) : Nat)) (fun _ _ i => len - (intOf i).toNat)
  case atStart => exact ⟨0, by omega, rfl, rfl⟩
  case round =>
    obtain ⟨k, hk, rfl, rfl⟩ := hrel
    by_cases hlt : k < len
    · obtain ⟨b, off, rfl, hck⟩ := hc.at hlt
      have hs := Lib.hid (readM_take_succ bs k (by rw [Hlen.out]; exact hlt))
      have hb := (bs.getD k 0).toNat_lt
      have hx := readM_lt bs k (by rw [Hlen.out]; omega)
      have hx2 : readM (bs.take k) < 16777216 := by
        have : 256 ^ k ≤ 256 ^ 3 := Nat.pow_le_pow_right (by omega) (by omega)
        omega
      clear hx
      unfold u8s at hck
      generalize (bs.getD k 0).toNat = c at hck hs hb
      generalize readM (bs.take k) = x at hs hx2
      have hor : bits .or .i64 ((x : Int) * 256) (c : Int) = ((x * 256 + c : Nat) : Int) := by
        have := i64_or_nat (x * 256) c (by omega) (by omega)
        rw [or_low x c hb] at this
        simpa using this
      go_wp2_with fail
      go_round
      case rel => exact ⟨k + 1, by omega, by go_num, by rw [hs.out]; rfl⟩
      case measure => simp [intOf]; omega
    · obtain rfl : k = len := by omega
      go_wp2_with fail
      go_ret
      exact ⟨ret_int (by rw [List.take_of_length_le (by rw [Hlen.out]; omega)]), rfl⟩
end Go.Proofs.Ytoifodabfpbjlaa
