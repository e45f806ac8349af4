/- contract of object.list -/
import Derived.Test.YtoifodabfpbjlaaNumA
import Derived.Test.YtoifodabfpbjlaaCrcA
namespace Go.Proofs.Ytoifodabfpbjlaa
open Go.RowKit

def ints (zs : List Nat) (k : Nat) : Value := .int .i64 ((zs.getD k 0 : Nat) : Int)
def listTo (zs : List Nat) (k : Nat) : List UInt8 := bytesOf zs.length 4 ++ (zs.take k).flatMap (fun z => bytesOf z 2)
def listBytes (zs : List Nat) : List UInt8 := listTo zs zs.length

theorem bytesOf_length (x n : Nat) : (bytesOf x n).length = n := by simp [bytesOf]
theorem listTo_succ (zs : List Nat) (k : Nat) (h : k < zs.length) : listTo zs (k + 1) = listTo zs k ++ bytesOf (zs.getD k 0) 2 := by
  unfold listTo
  rw [List.take_succ_eq_append_getElem h, List.flatMap_append, List.append_assoc]
  simp [List.getD, h]

theorem listTo_length (zs : List Nat) (k : Nat) (h : k ≤ zs.length) : (listTo zs k).length = 4 + 2 * k := by
  induction k with
  | zero => simp [listTo, bytesOf_length]
  | succ k ih => rw [listTo_succ zs k h, List.length_append, ih (by omega), bytesOf_length]; omega

set_option maxHeartbeats 400000 in
theorem list_any (base : Nat) (v : Value) (bs : List UInt8) (a : Option Addr) (len cap : Nat) (zs : List Nat) (w : World) (hown : AppBytes base w v bs)
    (hlen : zs.length = len) (hl : len ≤ 65536) (hz : ∀ z ∈ zs, z < 65536) (hc : Cells w a len (ints zs)) (ha : 0 < len → ∀ b o s, a = some ⟨b, o, s⟩ → b < base)
    (hb : base ≤ w.heap.size) (hbl : bs.length ≤ 1000000) :
    Calls Try.prog 17 #[v, .slice a len cap] w (NumPost base (bs ++ listBytes zs) w) := by
  have Hlen := Lib.hid hlen
  clear hlen
  go_enter Try.func17, Try.ntmps17
  go_wp2_with fail
  refine (number_any base v bs len 4 w hown (by omega) (by omega) (by omega) hb (by omega)).mono ?_
  rintro e w1 ⟨v1, rfl, hown1, hb1⟩
  go_wp2_with fail
  go_loopw [0, 6, 13] (fun v _ i wr => ∃ k : Nat, k ≤ len ∧ i = .int .i64 k ∧ OwnsBytes base wr v (bs ++ listTo zs k) ∧ Below base w wr) (fun _ _ i _ => len - (intOf i).toNat)
  case atStart => exact ⟨0, by omega, rfl, by simpa [listTo, Hlen.out] using hown1, hb1⟩
  case round =>
    obtain ⟨k, hk, rfl, hr1, hr2⟩ := hrel
    have hsz := hr2.size
    by_cases hlt : k < len
    · obtain ⟨b, off, rfl, hck⟩ := (hc.below hr2 ha).at hlt
      have hzk : zs.getD k 0 < 65536 := by
        have : k < zs.length := by rw [Hlen.out]; exact hlt
        rw [List.getD_eq_getElem?_getD, List.getElem?_eq_getElem this]
        exact hz _ (List.getElem_mem _)
      have hll : (bs ++ listTo zs k).length ≤ 1131077 := by
        rw [List.length_append, listTo_length _ _ (by rw [Hlen.out]; omega)]; omega
      have hs := Lib.hid (listTo_succ zs k (by rw [Hlen.out]; exact hlt))
      unfold ints at hck
      generalize zs.getD k 0 = z at hck hzk hs
      go_wp2_with fail
      refine (number_any base _ _ z 2 _ hr1.app (by omega) (by omega) (by omega) (by omega) (by omega)).mono ?_
      rintro e w2 ⟨v2, rfl, hown2, hb2⟩
      have hown3 : OwnsBytes base w2 v2 (bs ++ listTo zs (k + 1)) := by rw [hs.out, ← List.append_assoc]; exact hown2
      have hb3 := hr2.trans hb2
      clear hown2 hb2 hr1 hr2 hck
      go_wp2_with fail
      go_roundw
      case rel => exact ⟨k + 1, by omega, by go_num, hown3, hb3⟩
      case measure => simp [intOf]; omega
    · obtain rfl : k = len := by omega
      go_wp2_with fail
      go_ret
      exact ⟨_, rfl, by unfold listBytes; rw [Hlen.out]; exact hr1, hr2⟩
end Go.Proofs.Ytoifodabfpbjlaa
