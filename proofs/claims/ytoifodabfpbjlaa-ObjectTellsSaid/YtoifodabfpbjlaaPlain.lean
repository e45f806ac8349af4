/-
  Plain functions and laws of the check sum: no program is in sight here.
-/
import Derived.Laws.BitsAllLaws
import Derived.RowKit
namespace Go.Proofs.Ytoifodabfpbjlaa
open Go.RowKit
namespace Crc

/-- one bit goes out of the register -/
def step (r : Nat) : Nat := if r < 32768 then 2 * r else (2 * r - 65536) ^^^ 4129

def steps : Nat → Nat → Nat
  | 0, r => r
  | k + 1, r => steps k (step r)

theorem steps_succ (k r : Nat) : steps (k + 1) r = step (steps k r) := by
  induction k generalizing r with
  | zero => rfl
  | succ k ih => rw [steps, ih, steps]

def byte (r c : Nat) : Nat := steps 8 (r ^^^ (c * 256))

def crcFrom (r : Nat) (bs : List UInt8) : Nat := bs.foldl (fun r c => byte r c.toNat) r
def crc (bs : List UInt8) : Nat := crcFrom 65535 bs

theorem xor16 (a b : Nat) (ha : a < 65536) (hb : b < 65536) : a ^^^ b < 65536 := by
  have e : (2 : Nat) ^ 16 = 65536 := by decide
  rw [← e] at ha hb ⊢
  exact Nat.xor_lt_two_pow ha hb

theorem step_lt (r : Nat) (h : r < 65536) : step r < 65536 := by
  unfold step
  split
  · omega
  · exact xor16 _ _ (by omega) (by omega)

theorem steps_lt (k r : Nat) (h : r < 65536) : steps k r < 65536 := by
  induction k generalizing r with
  | zero => exact h
  | succ k ih => exact ih _ (step_lt r h)

theorem xor_lt (r c : Nat) (h : r < 65536) (hc : c < 256) : r ^^^ (c * 256) < 65536 :=
  xor16 _ _ h (by omega)

theorem byte_lt (r c : Nat) (h : r < 65536) (hc : c < 256) : byte r c < 65536 := steps_lt _ _ (xor_lt r c h hc)

theorem crcFrom_cons (r : Nat) (b : UInt8) (bs : List UInt8) : crcFrom r (b :: bs) = crcFrom (byte r b.toNat) bs := by
  simp only [crcFrom, List.foldl_cons]

theorem crcFrom_nil (r : Nat) : crcFrom r [] = r := by simp only [crcFrom, List.foldl_nil]

theorem crcFrom_lt (r : Nat) (bs : List UInt8) (h : r < 65536) : crcFrom r bs < 65536 := by
  induction bs generalizing r with
  | nil => rw [crcFrom_nil]; exact h
  | cons b bs ih => rw [crcFrom_cons]; exact ih _ (byte_lt r _ h b.toNat_lt)

theorem crc_lt (bs : List UInt8) : crc bs < 65536 := crcFrom_lt _ _ (by omega)

theorem crcFrom_append (r : Nat) (a b : List UInt8) : crcFrom r (a ++ b) = crcFrom (crcFrom r a) b := by
  unfold crcFrom; rw [List.foldl_append]

theorem crcFrom_take_succ (r : Nat) (bs : List UInt8) (k : Nat) (h : k < bs.length) :
    crcFrom r (bs.take (k + 1)) = byte (crcFrom r (bs.take k)) bs[k].toNat := by
  rw [List.take_succ_eq_append_getElem h, crcFrom_append, crcFrom_cons, crcFrom_nil]

/- a byte that stands on top of nothing: what is below goes up -/
theorem byte_high (r : Nat) (_h : r < 65536) : byte r (r / 256) = r % 256 * 256 := by
  have e : r ^^^ (r / 256 * 256) = r % 256 := by
    have h1 : r = (r / 256) * 256 + r % 256 := by omega
    have h2 : (r / 256 * 256) ||| (r % 256) = r / 256 * 256 + r % 256 := Go.nat_join 8 _ _ (by omega) (by omega)
    have h3 : r / 256 * 256 &&& r % 256 = 0 := by
      apply Nat.eq_of_testBit_eq
      intro i
      rw [Nat.testBit_and, Nat.zero_testBit]
      have e256 : r / 256 * 256 = (r / 256) <<< 8 := by rw [Nat.shiftLeft_eq]
      by_cases hi : i < 8
      · rw [e256, Nat.testBit_shiftLeft]; simp [show ¬ 8 ≤ i by omega]
      · have : (r % 256).testBit i = false := Nat.testBit_lt_two_pow (Nat.lt_of_lt_of_le (Nat.mod_lt _ (by omega)) (by
          have := Nat.pow_le_pow_right (n := 2) (by omega) (show 8 ≤ i by omega); simpa using this))
        rw [this, Bool.and_false]
    apply Nat.eq_of_testBit_eq
    intro i
    have h4 : r = (r / 256 * 256) ||| (r % 256) := by rw [h2]; omega
    have h5 : (r / 256 * 256).testBit i = true → (r % 256).testBit i = false := by
      intro ha
      have := congrArg (fun n => Nat.testBit n i) h3
      simp only [Nat.testBit_and, Nat.zero_testBit, ha, Bool.true_and] at this
      exact this
    rw [Nat.testBit_xor]
    have h6 : r.testBit i = ((r / 256 * 256).testBit i || (r % 256).testBit i) := by
      have := congrArg (fun n => Nat.testBit n i) h4
      simpa [Nat.testBit_or] using this
    rw [h6]
    cases ha : (r / 256 * 256).testBit i
    · simp
    · rw [h5 ha]; simp
  unfold byte
  rw [e]
  have : ∀ k, k ≤ 8 → ∀ x, x < 256 → steps k x = x * 2 ^ k := by
    intro k
    induction k with
    | zero => intro _ x _; simp [steps]
    | succ k ih =>
      intro hk x hx
      rw [steps_succ, ih (by omega) x hx]
      unfold step
      have : x * 2 ^ k < 32768 := by
        have h1 : 2 ^ k ≤ 2 ^ 7 := Nat.pow_le_pow_right (by omega) (by omega)
        calc x * 2 ^ k ≤ 255 * 2 ^ 7 := Nat.mul_le_mul (by omega) h1
          _ < 32768 := by omega
      rw [if_pos this, Nat.pow_succ]
      rw [Nat.mul_comm 2, Nat.mul_assoc]
  exact this 8 (by omega) _ (Nat.mod_lt _ (by omega))

theorem byte_self (c : Nat) (_h : c < 256) : byte (c * 256) c = 0 := by
  unfold byte
  rw [Nat.xor_self]
  rfl

/-- A CHECK SUM HAS ITS OWN REST. -/
theorem crc_own (bs : List UInt8) : crc (bs ++ [UInt8.ofNat (crc bs / 256), UInt8.ofNat (crc bs % 256)]) = 0 := by
  have hl := crc_lt bs
  unfold crc at hl ⊢
  rw [crcFrom_append]
  generalize crcFrom 65535 bs = r at hl ⊢
  rw [crcFrom_cons, crcFrom_cons, crcFrom_nil]
  have e1 : (UInt8.ofNat (r / 256)).toNat = r / 256 := by simp [UInt8.toNat_ofNat']; omega
  have e2 : (UInt8.ofNat (r % 256)).toNat = r % 256 := by simp [UInt8.toNat_ofNat']
  rw [e1, e2, byte_high r hl, byte_self _ (Nat.mod_lt _ (by omega))]

end Crc
end Go.Proofs.Ytoifodabfpbjlaa
