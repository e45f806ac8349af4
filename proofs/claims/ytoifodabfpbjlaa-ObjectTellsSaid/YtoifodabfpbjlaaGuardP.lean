/-
  Plain laws: what becomes of a check sum when two bytes that stand together are changed. No program is in sight here.
-/
import Derived.Test.YtoifodabfpbjlaaPlain
namespace Go.Proofs.Ytoifodabfpbjlaa
namespace Crc

theorem xor_eq_zero {a b : Nat} (h : a ^^^ b = 0) : a = b := by
  have : a ^^^ b ^^^ b = a := by rw [Nat.xor_assoc, Nat.xor_self, Nat.xor_zero]
  rw [h, Nat.zero_xor] at this
  exact this.symm

theorem step_eq (r : Nat) (h : r < 65536) : step r = (2 * r % 65536) ^^^ (r / 32768 * 4129) := by
  unfold step
  split
  · rename_i h1
    have e1 : r / 32768 = 0 := by omega
    rw [e1, Nat.zero_mul, Nat.xor_zero]
    omega
  · rename_i h1
    have e1 : r / 32768 = 1 := by omega
    rw [e1, Nat.one_mul, show 2 * r - 65536 = 2 * r % 65536 by omega]

theorem xor_double (a b : Nat) : 2 * (a ^^^ b) % 65536 = (2 * a % 65536) ^^^ (2 * b % 65536) := by
  have e : (65536 : Nat) = 2 ^ 16 := by decide
  rw [e]
  have h1 : 2 * (a ^^^ b) = (2 * a) ^^^ (2 * b) := by
    have := @Nat.shiftLeft_xor_distrib 1 a b
    simpa [Nat.shiftLeft_eq, Nat.mul_comm] using this
  rw [h1, Nat.xor_mod_two_pow]

theorem xor_top (a b : Nat) : (a ^^^ b) / 32768 = (a / 32768) ^^^ (b / 32768) := by
  have := @Nat.shiftRight_xor_distrib 15 a b
  simpa [Nat.shiftRight_eq_div_pow] using this

theorem step_xor (a b : Nat) (ha : a < 65536) (hb : b < 65536) : step (a ^^^ b) = step a ^^^ step b := by
  rw [step_eq _ (xor16 a b ha hb), step_eq a ha, step_eq b hb, xor_double, xor_top]
  have h1 : a / 32768 = 0 ∨ a / 32768 = 1 := by omega
  have h2 : b / 32768 = 0 ∨ b / 32768 = 1 := by omega
  generalize 2 * a % 65536 = x
  generalize 2 * b % 65536 = y
  rcases h1 with e1 | e1 <;> rcases h2 with e2 | e2 <;> rw [e1, e2]
  · simp
  · simp [Nat.xor_assoc]
  · simp only [Nat.xor_zero, Nat.one_mul, Nat.zero_mul]
    rw [Nat.xor_assoc, Nat.xor_assoc, Nat.xor_comm y]
  · simp only [Nat.xor_self, Nat.one_mul, Nat.zero_mul, Nat.xor_zero]
    rw [Nat.xor_assoc x 4129, ← Nat.xor_assoc 4129 y, Nat.xor_comm 4129 y, Nat.xor_assoc y, Nat.xor_self, Nat.xor_zero]

theorem step_zero (a : Nat) (ha : a < 65536) (h : step a = 0) : a = 0 := by
  unfold step at h
  split at h
  · omega
  · have := xor_eq_zero h
    omega

theorem steps_xor (k a b : Nat) (ha : a < 65536) (hb : b < 65536) : steps k (a ^^^ b) = steps k a ^^^ steps k b := by
  induction k generalizing a b with
  | zero => rfl
  | succ k ih => rw [steps, steps, steps, step_xor a b ha hb, ih _ _ (step_lt a ha) (step_lt b hb)]

theorem steps_zero (k a : Nat) (ha : a < 65536) (h : steps k a = 0) : a = 0 := by
  induction k generalizing a with
  | zero => exact h
  | succ k ih => exact step_zero a ha (ih _ (step_lt a ha) h)

theorem byte_diff (r s c d : Nat) (hr : r < 65536) (hs : s < 65536) (hc : c < 256) (hd : d < 256) :
    byte r c ^^^ byte s d = steps 8 ((r ^^^ s) ^^^ ((c ^^^ d) * 256)) := by
  unfold byte
  rw [← steps_xor 8 _ _ (xor_lt r c hr hc) (xor_lt s d hs hd)]
  congr 1
  have h1 : (c ^^^ d) * 256 = (c * 256) ^^^ (d * 256) := by
    have := @Nat.shiftLeft_xor_distrib 8 c d
    simpa [Nat.shiftLeft_eq] using this
  rw [h1]
  rw [Nat.xor_assoc, Nat.xor_assoc]
  congr 1
  rw [← Nat.xor_assoc, ← Nat.xor_assoc, Nat.xor_comm (c * 256) s]

/-- the same bytes behind: what differed differs -/
theorem crcFrom_ne (r s : Nat) (bs : List UInt8) (hr : r < 65536) (hs : s < 65536) (h : r ≠ s) : crcFrom r bs ≠ crcFrom s bs := by
  induction bs generalizing r s with
  | nil => rw [crcFrom_nil, crcFrom_nil]; exact h
  | cons b bs ih =>
    rw [crcFrom_cons, crcFrom_cons]
    refine ih _ _ (byte_lt r _ hr b.toNat_lt) (byte_lt s _ hs b.toNat_lt) (fun e => h ?_)
    have hd := byte_diff r s b.toNat b.toNat hr hs b.toNat_lt b.toNat_lt
    rw [e, Nat.xor_self, Nat.xor_self, Nat.zero_mul, Nat.xor_zero] at hd
    exact xor_eq_zero (steps_zero 8 _ (xor16 r s hr hs) hd.symm)

def lowOk (n : Nat) : Bool := (List.range n).all fun x => x == 0 || steps 8 (x * 256) % 256 != 0
theorem lowOk_all : lowOk 256 = true := by decide +kernel
/-- a byte that is changed shows below -/
theorem burst (x y : Nat) (hx : x < 256) (h : steps 8 (x * 256) = y * 256) : x = 0 ∧ y = 0 := by
  have h1 := List.all_eq_true.1 lowOk_all x (List.mem_range.2 hx)
  rw [h] at h1
  have h2 : y * 256 % 256 = 0 := Nat.mul_mod_left _ _
  rw [h2] at h1
  have hx0 : x = 0 := by simpa using h1
  subst hx0
  have h0 : steps 8 (0 * 256) = 0 := by decide
  rw [h0] at h
  exact ⟨rfl, by omega⟩

theorem xor_shift (a b : Nat) : (a ^^^ b) * 256 = (a * 256) ^^^ (b * 256) := by
  have := @Nat.shiftLeft_xor_distrib 8 a b
  simpa [Nat.shiftLeft_eq] using this

/-- two bytes that stand together, changed: the sum differs -/
theorem crc_two (pre post : List UInt8) (x y p q : UInt8) (h : ¬ (p = 0 ∧ q = 0)) :
    crc (pre ++ [x ^^^ p, y ^^^ q] ++ post) ≠ crc (pre ++ [x, y] ++ post) := by
  unfold crc
  rw [List.append_assoc, List.append_assoc, crcFrom_append, crcFrom_append _ pre, crcFrom_append, crcFrom_append _ [x, y]]
  have hr := crcFrom_lt 65535 pre (by omega)
  generalize crcFrom 65535 pre = r at hr
  rw [crcFrom_cons, crcFrom_cons, crcFrom_nil, crcFrom_cons, crcFrom_cons, crcFrom_nil]
  have b1 := byte_lt r _ hr (x ^^^ p).toNat_lt
  have b2 := byte_lt r _ hr x.toNat_lt
  refine crcFrom_ne _ _ post (byte_lt _ _ b1 (y ^^^ q).toNat_lt) (byte_lt _ _ b2 y.toNat_lt) (fun e => h ?_)
  have d1 := byte_diff r r (x ^^^ p).toNat x.toNat hr hr (x ^^^ p).toNat_lt x.toNat_lt
  have d2 := byte_diff (byte r (x ^^^ p).toNat) (byte r x.toNat) (y ^^^ q).toNat y.toNat b1 b2 (y ^^^ q).toNat_lt y.toNat_lt
  rw [e, Nat.xor_self, d1, Nat.xor_self, Nat.zero_xor] at d2
  have ex : (x ^^^ p).toNat ^^^ x.toNat = p.toNat := by rw [UInt8.toNat_xor, Nat.xor_comm x.toNat, Nat.xor_assoc, Nat.xor_self, Nat.xor_zero]
  have ey : (y ^^^ q).toNat ^^^ y.toNat = q.toNat := by rw [UInt8.toNat_xor, Nat.xor_comm y.toNat, Nat.xor_assoc, Nat.xor_self, Nat.xor_zero]
  rw [ex, ey] at d2
  have hp := p.toNat_lt
  have hq := q.toNat_lt
  have l1 := steps_lt 8 (p.toNat * 256) (by omega)
  have l2 : q.toNat * 256 < 65536 := by omega
  have z := steps_zero 8 _ (xor16 _ _ l1 l2) d2.symm
  have := burst p.toNat q.toNat hp (xor_eq_zero z)
  exact ⟨UInt8.toNat_inj.1 this.1, UInt8.toNat_inj.1 this.2⟩

/-- the last byte changed: by how much the sum differs -/
theorem crc_last (pre : List UInt8) (x p : UInt8) : crc (pre ++ [x ^^^ p]) = crc (pre ++ [x]) ^^^ steps 8 (p.toNat * 256) := by
  unfold crc
  rw [crcFrom_append, crcFrom_append]
  have hr := crcFrom_lt 65535 pre (by omega)
  generalize crcFrom 65535 pre = r at hr
  rw [crcFrom_cons, crcFrom_nil, crcFrom_cons, crcFrom_nil]
  have d1 := byte_diff r r (x ^^^ p).toNat x.toNat hr hr (x ^^^ p).toNat_lt x.toNat_lt
  have ex : (x ^^^ p).toNat ^^^ x.toNat = p.toNat := by rw [UInt8.toNat_xor, Nat.xor_comm x.toNat, Nat.xor_assoc, Nat.xor_self, Nat.xor_zero]
  rw [Nat.xor_self, Nat.zero_xor, ex] at d1
  rw [← d1, Nat.xor_comm, Nat.xor_assoc, Nat.xor_self, Nat.xor_zero]

end Crc
end Go.Proofs.Ytoifodabfpbjlaa
