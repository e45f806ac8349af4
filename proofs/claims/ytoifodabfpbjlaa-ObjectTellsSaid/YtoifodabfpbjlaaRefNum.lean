/- contracts of the document's number and Bytes -/
import Derived.Test.YtoifodabfpbjlaaRefCrc
import Derived.Test.YtoifodabfpbjlaaTurnP
namespace Go.Proofs.Ytoifodabfpbjlaa
open Go.RowKit

/-- 'number' where the bytes are there -/
theorem refnumber_in (a : Option Addr) (len cap p n : Nat) (bs : List UInt8) (w : World) (hlen : bs.length = len) (hl : len ≤ 1000000) (hcap : len ≤ cap) (hn : n ≤ 4) (hn0 : 0 < n) (hp : p + n ≤ len) (hc : Cells w a len (u8s bs)) :
    Calls Try.prog 26 #[.slice a len cap, .int .i64 p, .int .i64 n] w fun e w' => e = .returned (.int .i64 (readM ((bs.drop p).take n))) ∧ w = w' := by
  obtain ⟨b, off, rfl, -⟩ := hc.at (k := 0) (by omega)
  have hcd : Cells w (some ⟨b, off + p, none⟩) n (u8s ((bs.drop p).take n)) := by
    refine .inr ⟨b, off + p, rfl, fun k hk => ?_⟩
    obtain ⟨b', off', he, h⟩ := hc.at (k := p + k) (by omega)
    cases he
    rw [Nat.add_assoc, h]
    unfold u8s
    congr 3
    simp [List.getD, hk]
  have Hlen := Lib.hid (show ((bs.drop p).take n).length = n by simp; omega)
  clear hc hlen
  generalize (bs.drop p).take n = l at *
  have f1 : decide ((len : Int) < (p : Int) + n) = false := decide_eq_false (by omega)
  go_enter Try.func26, Try.ntmps26
  go_wp2_with fail
  go_loop [7, 9, 23] (fun x _ i => ∃ k : Nat, k ≤ n ∧ i = .int .i64 k ∧ x = .int .i64 (readM (l.take k) : Nat)) (fun _ _ i => n - (intOf i).toNat)
  case atStart => exact ⟨0, by omega, rfl, rfl⟩
  case round =>
    obtain ⟨k, hk, rfl, rfl⟩ := hrel
    by_cases hlt : k < n
    · obtain ⟨b', off', he, hck⟩ := hcd.at hlt
      cases he
      have hs := Lib.hid (readM_take_succ l k (by rw [Hlen.out]; exact hlt))
      have hb := (l.getD k 0).toNat_lt
      have hx := readM_lt l k (by rw [Hlen.out]; omega)
      have hx2 : readM (l.take k) < 16777216 := by
        have : 256 ^ k ≤ 256 ^ 3 := Nat.pow_le_pow_right (by omega) (by omega)
        omega
      clear hx
      unfold u8s at hck
      generalize (l.getD k 0).toNat = c at hck hs hb
      generalize readM (l.take k) = x at hs hx2
      go_wp2_with fail
      go_round
      case rel => exact ⟨k + 1, by omega, by go_num, by rw [hs.out]; exact val_int (by omega)⟩
      case measure => simp [intOf]; omega
    · obtain rfl : k = n := by omega
      go_wp2_with fail
      go_ret
      exact ⟨ret_int (by rw [List.take_of_length_le (by rw [Hlen.out]; omega)]), rfl⟩

/-- 'number' where they are not -/
theorem refnumber_out (a : Option Addr) (len cap p n : Nat) (w : World) (hl : len ≤ 1000000) (hp1 : p ≤ 10000000) (hn : n ≤ 4) (hp : len < p + n) :
    Calls Try.prog 26 #[.slice a len cap, .int .i64 p, .int .i64 n] w fun e w' => e = .returned (.int .i64 (-1)) ∧ w = w' := by
  have f1 : decide ((len : Int) < (p : Int) + n) = true := decide_eq_true (by omega)
  go_enter Try.func26, Try.ntmps26
  go_wp2_with fail
  go_ret
  exact ⟨rfl, rfl⟩
end Go.Proofs.Ytoifodabfpbjlaa
