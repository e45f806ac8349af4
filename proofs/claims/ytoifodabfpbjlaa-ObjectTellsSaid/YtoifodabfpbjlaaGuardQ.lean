/-
  Plain law: a saved file of which two bytes that stand together are changed is refused. No walk is in sight here.
-/
import Derived.Test.YtoifodabfpbjlaaLoadB
import Derived.Test.YtoifodabfpbjlaaGuardP
namespace Go.Proofs.Ytoifodabfpbjlaa
open Go.RowKit

theorem readM_two (x y : UInt8) : readM [x, y] = x.toNat * 256 + y.toNat := by
  simp [readM, readFrom]

theorem bytes_two (x : Nat) : bytesOf x 2 = [UInt8.ofNat (x / 256 % 256), UInt8.ofNat (x % 256)] := by
  simp [bytesOf, List.range_succ, byteOf]

theorem readM_bytes_two (x : Nat) (h : x < 65536) : readM (bytesOf x 2) = x := by
  rw [bytes_two, readM_two]
  have e1 : (UInt8.ofNat (x / 256 % 256)).toNat = x / 256 % 256 := by simp [UInt8.toNat_ofNat']
  have e2 : (UInt8.ofNat (x % 256)).toNat = x % 256 := by simp [UInt8.toNat_ofNat']
  rw [e1, e2]
  omega

/-- two bytes that stand together, changed -/
def changed (b : List UInt8) (at_ : Nat) (p q : UInt8) : List UInt8 := (b.set at_ (b.getD at_ 0 ^^^ p)).set (at_ + 1) (b.getD (at_ + 1) 0 ^^^ q)

theorem changed_eq (pre post : List UInt8) (x y p q : UInt8) : changed (pre ++ [x, y] ++ post) pre.length p q = pre ++ [x ^^^ p, y ^^^ q] ++ post := by
  unfold changed
  simp [List.getD, List.set_append_right]

theorem split_two (b : List UInt8) (at_ : Nat) (h : at_ + 1 < b.length) : b = b.take at_ ++ [b.getD at_ 0, b.getD (at_ + 1) 0] ++ b.drop (at_ + 2) := by
  have h1 : b.drop at_ = b.getD at_ 0 :: b.drop (at_ + 1) := by
    rw [List.drop_eq_getElem_cons (by omega)]
    simp [List.getD, show at_ < b.length by omega]
  have h2 : b.drop (at_ + 1) = b.getD (at_ + 1) 0 :: b.drop (at_ + 2) := by
    rw [List.drop_eq_getElem_cons h]
    simp [List.getD, h]
  conv => lhs; rw [← List.take_append_drop at_ b, h1, h2]
  simp

theorem guard_sum (body : List UInt8) (at_ : Nat) (p q : UInt8) (h : at_ ≤ body.length) (hpq : ¬ (p = 0 ∧ q = 0)) :
    Crc.crc ((changed (body ++ bytesOf (Crc.crc body) 2) at_ p q).take body.length) ≠ readM ((changed (body ++ bytesOf (Crc.crc body) 2) at_ p q).drop body.length) := by
  have hs := Crc.crc_lt body
  have hr := readM_bytes_two (Crc.crc body) hs
  rcases Nat.lt_trichotomy (at_ + 1) body.length with h1 | h1 | h1
  · have e := split_two body at_ h1
    have hl : (body.take at_).length = at_ := by simp; omega
    have hc : changed (body ++ bytesOf (Crc.crc body) 2) at_ p q = (body.take at_ ++ [body.getD at_ 0 ^^^ p, body.getD (at_ + 1) 0 ^^^ q] ++ body.drop (at_ + 2)) ++ bytesOf (Crc.crc body) 2 := by
      have := changed_eq (body.take at_) (body.drop (at_ + 2) ++ bytesOf (Crc.crc body) 2) (body.getD at_ 0) (body.getD (at_ + 1) 0) p q
      rw [hl, ← List.append_assoc, ← e] at this
      rw [this, List.append_assoc, List.append_assoc, List.append_assoc]
    have hl2 : (body.take at_ ++ [body.getD at_ 0 ^^^ p, body.getD (at_ + 1) 0 ^^^ q] ++ body.drop (at_ + 2)).length = body.length := by simp; omega
    rw [hc, List.take_left' hl2, List.drop_left' hl2, hr]
    have := Crc.crc_two (body.take at_) (body.drop (at_ + 2)) (body.getD at_ 0) (body.getD (at_ + 1) 0) p q hpq
    rw [← e] at this
    exact this
  · obtain ⟨pre, x, rfl⟩ : ∃ pre x, body = pre ++ [x] := by
      rcases List.eq_nil_or_concat body with h0 | ⟨pre, x, h0⟩
      · subst h0; simp at h1
      · exact ⟨pre, x, by simpa using h0⟩
    have hl : at_ = pre.length := by simp at h1; omega
    subst hl
    generalize hsum : Crc.crc (pre ++ [x]) = s at *
    rw [bytes_two] at *
    have hc : changed (pre ++ [x] ++ [UInt8.ofNat (s / 256 % 256), UInt8.ofNat (s % 256)]) pre.length p q = (pre ++ [x ^^^ p]) ++ [UInt8.ofNat (s / 256 % 256) ^^^ q, UInt8.ofNat (s % 256)] := by
      have := changed_eq pre [UInt8.ofNat (s % 256)] x (UInt8.ofNat (s / 256 % 256)) p q
      simpa using this
    have hl2 : (pre ++ [x ^^^ p]).length = (pre ++ [x]).length := by simp
    rw [hc, List.take_left' hl2, List.drop_left' hl2, readM_two, Crc.crc_last, hsum, UInt8.toNat_xor]
    intro e
    have e1 : (UInt8.ofNat (s / 256 % 256)).toNat = s / 256 % 256 := by simp [UInt8.toNat_ofNat']
    have e2 : (UInt8.ofNat (s % 256)).toNat = s % 256 := by simp [UInt8.toNat_ofNat']
    rw [e1, e2] at e
    have hq := q.toNat_lt
    have e3 : (s / 256 % 256 ^^^ q.toNat) * 256 + s % 256 = s ^^^ (q.toNat * 256) := by
      rw [Crc.xor_shift]
      have h5 : s = (s / 256 % 256) * 256 ||| s % 256 := by rw [Go.nat_join 8 _ _ (by omega) (by omega)]; omega
      have h6 : ((s / 256 % 256) * 256 ^^^ q.toNat * 256) ||| s % 256 = ((s / 256 % 256) * 256 ^^^ q.toNat * 256) + s % 256 :=
        Go.nat_join 8 _ _ (by rw [← Crc.xor_shift]; omega) (by omega)
      rw [← h6]
      conv => rhs; rw [h5]
      apply Nat.eq_of_testBit_eq
      intro i
      simp only [Nat.testBit_or, Nat.testBit_xor]
      by_cases hi : i < 8
      · have z1 : (s / 256 % 256 * 256).testBit i = false := by
          rw [show s / 256 % 256 * 256 = (s / 256 % 256) <<< 8 by rw [Nat.shiftLeft_eq], Nat.testBit_shiftLeft]; simp [show ¬ 8 ≤ i by omega]
        have z2 : (q.toNat * 256).testBit i = false := by
          rw [show q.toNat * 256 = q.toNat <<< 8 by rw [Nat.shiftLeft_eq], Nat.testBit_shiftLeft]; simp [show ¬ 8 ≤ i by omega]
        rw [z1, z2]; simp
      · have z3 : (s % 256).testBit i = false := Nat.testBit_lt_two_pow (Nat.lt_of_lt_of_le (Nat.mod_lt _ (by omega)) (by
          have := Nat.pow_le_pow_right (n := 2) (by omega) (show 8 ≤ i by omega); simpa using this))
        rw [z3]; simp
    rw [e3] at e
    have e4 : Crc.steps 8 (p.toNat * 256) = q.toNat * 256 := by
      have := congrArg (fun n => s ^^^ n) e
      simpa [← Nat.xor_assoc] using this
    have := Crc.burst p.toNat q.toNat p.toNat_lt e4
    exact hpq ⟨UInt8.toNat_inj.1 this.1, UInt8.toNat_inj.1 this.2⟩
  · have hl : at_ = body.length := by omega
    subst hl
    generalize hsum : Crc.crc body = s at *
    rw [bytes_two] at *
    have hc : changed (body ++ [UInt8.ofNat (s / 256 % 256), UInt8.ofNat (s % 256)]) body.length p q = body ++ [UInt8.ofNat (s / 256 % 256) ^^^ p, UInt8.ofNat (s % 256) ^^^ q] := by
      have := changed_eq body [] (UInt8.ofNat (s / 256 % 256)) (UInt8.ofNat (s % 256)) p q
      simpa using this
    have hl2 : body.length = body.length := rfl
    rw [hc, List.take_left' hl2, List.drop_left' hl2, readM_two, hsum]
    have e1 : (UInt8.ofNat (s / 256 % 256) ^^^ p).toNat = s / 256 % 256 ^^^ p.toNat := by
      rw [UInt8.toNat_xor]; congr 1; simp [UInt8.toNat_ofNat']
    have e2 : (UInt8.ofNat (s % 256) ^^^ q).toNat = s % 256 ^^^ q.toNat := by
      rw [UInt8.toNat_xor]; congr 1; simp [UInt8.toNat_ofNat']
    intro e
    have b1 := (UInt8.ofNat (s / 256 % 256) ^^^ p).toNat_lt
    have b2 := (UInt8.ofNat (s % 256) ^^^ q).toNat_lt
    rw [e1, e2] at e
    rw [e1] at b1
    rw [e2] at b2
    have ⟨f1, f2⟩ : (s / 256 % 256 ^^^ p.toNat) = s / 256 % 256 ∧ (s % 256 ^^^ q.toNat) = s % 256 := by
      clear e1 e2 hc hr hl2
      generalize (s / 256 % 256 ^^^ p.toNat) = x at *
      generalize (s % 256 ^^^ q.toNat) = y at *
      omega
    have z1 : p.toNat = 0 := by
      have := congrArg (fun n => s / 256 % 256 ^^^ n) f1
      simpa [← Nat.xor_assoc] using this
    have z2 : q.toNat = 0 := by
      have := congrArg (fun n => s % 256 ^^^ n) f2
      simpa [← Nat.xor_assoc] using this
    exact hpq ⟨UInt8.toNat_inj.1 z1, UInt8.toNat_inj.1 z2⟩
theorem changed_length (b : List UInt8) (at_ : Nat) (p q : UInt8) : (changed b at_ p q).length = b.length := by simp [changed]

theorem bodyM_six (ws us : List Int) (sp : List (ByteArray × Int)) : 6 ≤ (bodyM ws us sp).length := by
  unfold bodyM bodyTo listBytes
  simp only [List.length_append, bytesOf_length]
  simp [magic]
  omega

/-- a saved file of which two bytes that stand together are changed is refused, with the empty image -/
theorem load_changed (ws us : List Int) (sp : List (ByteArray × Int)) (at_ : Nat) (p q : UInt8) (h : at_ + 2 ≤ (saveM ws us sp).length) (hpq : ¬ (p = 0 ∧ q = 0)) :
    ∃ n, n ≠ 0 ∧ n < 1000 ∧ loadM (changed (saveM ws us sp) at_ p q) = (n, emptyImg) := by
  have hl : (saveM ws us sp).length = (bodyM ws us sp).length + 2 := by unfold saveM; simp [bytesOf_length]
  have hg := guard_sum (bodyM ws us sp) at_ p q (by omega) hpq
  unfold loadM
  rw [changed_length, hl, Nat.add_sub_cancel]
  split
  · exact ⟨4, by omega, by omega, rfl⟩
  · split
    · exact ⟨2, by omega, by omega, rfl⟩
    · split
      · exact ⟨8, by omega, by omega, rfl⟩
      · rename_i hn
        unfold saveM at hn
        exact absurd (show Crc.crc _ = readM _ by simpa using hn) hg
end Go.Proofs.Ytoifodabfpbjlaa
