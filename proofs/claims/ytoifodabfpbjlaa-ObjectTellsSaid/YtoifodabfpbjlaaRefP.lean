/-
  Plain laws: the document's check sum, bit by bit, is the program's. No program is in sight here.
-/
import Derived.Test.YtoifodabfpbjlaaGuardP
namespace Go.Proofs.Ytoifodabfpbjlaa
namespace Crc

/-- one bit of a byte, by the long division -/
def refBit (r c k : Nat) : Nat := if r / 32768 = c / 2 ^ k % 2 then r * 2 % 65536 else r * 2 % 65536 ^^^ 4129
/-- so many bits of a byte -/
def refBits : Nat → Nat → Nat → Nat
  | 0, r, _ => r
  | j + 1, r, c => refBit (refBits j r c) c (7 - j)

theorem refBit_lt (r c k : Nat) : refBit r c k < 65536 := by
  unfold refBit
  split
  · omega
  · exact xor16 _ _ (by omega) (by omega)

theorem refBits_lt (j r c : Nat) (h : r < 65536) : refBits j r c < 65536 := by
  cases j with
  | zero => exact h
  | succ j => exact refBit_lt _ _ _

theorem shift_bits (c j : Nat) (hc : c < 256) (hj : j < 8) :
    (c * 256 * 2 ^ j % 65536) / 32768 = c / 2 ^ (7 - j) % 2 ∧ 2 * (c * 256 * 2 ^ j % 65536) % 65536 = c * 256 * 2 ^ (j + 1) % 65536 := by
  match j, hj with
  | 0, _ => simp; omega
  | 1, _ => simp; omega
  | 2, _ => simp; omega
  | 3, _ => simp; omega
  | 4, _ => simp; omega
  | 5, _ => simp; omega
  | 6, _ => simp; omega
  | 7, _ => simp; omega

theorem refBits_inv (r c j : Nat) (hr : r < 65536) (hc : c < 256) (hj : j ≤ 8) : steps j (r ^^^ (c * 256)) = refBits j r c ^^^ (c * 256 * 2 ^ j % 65536) := by
  induction j with
  | zero =>
    rw [steps, refBits, Nat.pow_zero, Nat.mul_one, Nat.mod_eq_of_lt (by omega)]
  | succ j ih =>
    rw [steps_succ, ih (by omega)]
    have hq := refBits_lt j r c hr
    obtain ⟨e1, e2⟩ := shift_bits c j hc (by omega)
    have hy : c * 256 * 2 ^ j % 65536 < 65536 := Nat.mod_lt _ (by omega)
    rw [step_eq _ (xor16 _ _ hq hy), xor_double, xor_top, e1, e2, refBits, refBit]
    generalize refBits j r c = q at *
    generalize c * 256 * 2 ^ (j + 1) % 65536 = y2
    rw [show 2 * q = q * 2 by omega]
    have b1 : q / 32768 = 0 ∨ q / 32768 = 1 := by omega
    have b2 : c / 2 ^ (7 - j) % 2 = 0 ∨ c / 2 ^ (7 - j) % 2 = 1 := by omega
    generalize q * 2 % 65536 = z
    rcases b1 with h1 | h1 <;> rcases b2 with h2 | h2 <;> rw [h1, h2]
    · simp
    · rw [if_neg (by decide), show (0 ^^^ 1) * 4129 = 4129 by decide, Nat.xor_assoc, Nat.xor_comm y2, ← Nat.xor_assoc]
    · rw [if_neg (by decide), show (1 ^^^ 0) * 4129 = 4129 by decide, Nat.xor_assoc, Nat.xor_comm y2, ← Nat.xor_assoc]
    · simp

theorem refBits_byte (r c : Nat) (hr : r < 65536) (hc : c < 256) : refBits 8 r c = byte r c := by
  unfold byte
  rw [refBits_inv r c 8 hr hc (Nat.le_refl _), show c * 256 * 2 ^ 8 % 65536 = 0 by omega, Nat.xor_zero]

theorem xor_one (n : Nat) : n ^^^ 1 = if n % 2 = 1 then n - 1 else n + 1 := by
  have h1 : (n ^^^ 1) / 2 = n / 2 := by
    have := @Nat.shiftRight_xor_distrib 1 n 1
    simpa [Nat.shiftRight_eq_div_pow] using this
  have h2 : (n ^^^ 1) % 2 = (n % 2) ^^^ 1 := by
    have := @Nat.xor_mod_two_pow n 1 1
    simpa using this
  have h3 : n % 2 = 0 ∨ n % 2 = 1 := by omega
  rcases h3 with h | h
  · rw [h] at h2
    rw [if_neg (by omega)]
    have : (n ^^^ 1) % 2 = 1 := h2
    omega
  · rw [h] at h2
    rw [if_pos h]
    have : (n ^^^ 1) % 2 = 0 := h2
    omega

theorem xor_pow (n k : Nat) : n ^^^ 2 ^ k = if n / 2 ^ k % 2 = 1 then n - 2 ^ k else n + 2 ^ k := by
  have hp : 0 < 2 ^ k := Nat.pow_pos (by omega)
  have h1 : (n ^^^ 2 ^ k) / 2 ^ k = n / 2 ^ k ^^^ 1 := by
    have := @Nat.shiftRight_xor_distrib k n (2 ^ k)
    simpa [Nat.shiftRight_eq_div_pow, Nat.div_self hp] using this
  have h2 : (n ^^^ 2 ^ k) % 2 ^ k = n % 2 ^ k := by
    have := @Nat.xor_mod_two_pow n (2 ^ k) k
    simpa using this
  have e1 := Nat.div_add_mod (n ^^^ 2 ^ k) (2 ^ k)
  have e2 := Nat.div_add_mod n (2 ^ k)
  rw [h1, h2, xor_one] at e1
  split at e1
  · rename_i h
    rw [if_pos h, ← e1, Nat.mul_sub, Nat.mul_one]
    have : 2 ^ k ≤ 2 ^ k * (n / 2 ^ k) := Nat.le_mul_of_pos_right _ (by generalize n / 2 ^ k = y at h; omega)
    omega
  · rename_i h
    rw [if_neg h, ← e1, Nat.mul_add, Nat.mul_one]
    omega

/-- after so many of the three places -/
def flips (z : Nat) : Nat → Nat
  | 0 => z
  | 1 => z ^^^ 4096
  | 2 => z ^^^ 4096 ^^^ 32
  | _ => z ^^^ 4129

theorem flips_lt (z t : Nat) (h : z < 65536) : flips z t < 65536 := by
  match t with
  | 0 => exact h
  | 1 => exact xor16 _ _ h (by omega)
  | 2 => exact xor16 _ _ (xor16 _ _ h (by omega)) (by omega)
  | n + 3 => exact xor16 _ _ h (by omega)

theorem flips_three (z : Nat) : flips z 2 ^^^ 1 = flips z 3 := by
  show z ^^^ 4096 ^^^ 32 ^^^ 1 = z ^^^ 4129
  rw [Nat.xor_assoc, Nat.xor_assoc]
  rfl

theorem flip_4096 (n : Nat) : n ^^^ 4096 = if n / 4096 % 2 = 1 then n - 4096 else n + 4096 := xor_pow n 12
theorem flip_32 (n : Nat) : n ^^^ 32 = if n / 32 % 2 = 1 then n - 32 else n + 32 := xor_pow n 5
theorem flip_1 (n : Nat) : n ^^^ 1 = if n / 1 % 2 = 1 then n - 1 else n + 1 := xor_pow n 0
end Crc
end Go.Proofs.Ytoifodabfpbjlaa
