/- contract of object.number -/
import Derived.Test.YtoifodabfpbjlaaRows
import Derived.Test.YtoifodabfpbjlaaPlain
import Derived.Test.YtoifodabfpbjlaaBase
namespace Go.Proofs.Ytoifodabfpbjlaa
open Go.RowKit

theorem Try.info5 : (Try.prog.info? 5).map (fun i => (i.zero, i.size, i.bytes)) = some (some (.int .u8 0), 1, 1) := by kernel_rfl

def u8v (c : UInt8) : Value := .int .u8 (c.toNat : Int)

/-- byte number k of so many bytes of a number, the highest first -/
def byteOf (x n k : Nat) : UInt8 := UInt8.ofNat (x / 2 ^ (8 * (n - 1 - k)) % 256)
def bytesOf (x n : Nat) : List UInt8 := (List.range n).map (byteOf x n)
def bytesTo (x n k : Nat) : List UInt8 := (List.range k).map (byteOf x n)
theorem bytesTo_succ (x n k : Nat) : bytesTo x n (k + 1) = bytesTo x n k ++ [byteOf x n k] := by
  simp [bytesTo, List.range_succ]
theorem bytesTo_length (x n k : Nat) : (bytesTo x n k).length = k := by simp [bytesTo]
theorem u8v_byteOf (x n k : Nat) : u8v (byteOf x n k) = .int .u8 ((x : Int) / 2 ^ (8 * (n - 1 - k)) % 256) := by
  unfold u8v byteOf
  have : (UInt8.ofNat (x / 2 ^ (8 * (n - 1 - k)) % 256)).toNat = x / 2 ^ (8 * (n - 1 - k)) % 256 := by
    simp [UInt8.toNat_ofNat']
  rw [this]
  simp

def OwnsBytes (base : Nat) (w : World) (v : Value) (bs : List UInt8) : Prop := w.ownsRow base 5 1 v bs.length (bs.map u8v)
def AppBytes (base : Nat) (w : World) (v : Value) (bs : List UInt8) : Prop := App base 5 1 w v bs.length (bs.map u8v)
theorem OwnsBytes.app {base : Nat} {w : World} {v : Value} {bs : List UInt8} (h : OwnsBytes base w v bs) : AppBytes base w v bs := .inl h

def NumPost (base : Nat) (bs : List UInt8) (w : World) (e : Ending) (w' : World) : Prop :=
  ∃ v, e = .returned v ∧ OwnsBytes base w' v bs ∧ Below base w w'

def NumRel (base : Nat) (bs : List UInt8) (k : Nat) (w : World) (v : Value) (wr : World) : Prop := AppBytes base wr v bs ∧ Below base w wr ∧ (0 < k → OwnsBytes base wr v bs)

theorem AppBytes.lt {base : Nat} {w : World} {v : Value} {bs : List UInt8} (h : AppBytes base w v bs) : ∀ k, v.ownBlock = some k → base ≤ k ∧ k < w.heap.size :=
  App.lt h

set_option maxHeartbeats 400000 in
theorem number_any (base : Nat) (v : Value) (bs : List UInt8) (x n : Nat) (w : World) (hown : AppBytes base w v bs) (_hx : x < 4611686018427387904) (hn0 : 1 ≤ n) (hn : n ≤ 4)
    (hb : base ≤ w.heap.size) (hl : bs.length ≤ 100000000000) :
    Calls Try.prog 18 #[v, .int .i64 x, .int .i64 n] w (NumPost base (bs ++ bytesOf x n) w) := by
  obtain ⟨i0, hi, hz0, hz1, hz2⟩ := info_parts Try.info5
  go_enter Try.func18, Try.ntmps18
  go_wp2
  go_loopw [0, 2] (fun v i wr => ∃ k : Nat, k ≤ n ∧ i = .int .i64 ((n : Int) - 1 - (k : Int)) ∧ NumRel base (bs ++ bytesTo x n k) k w v wr) (fun _ i _ => (intOf i + 1).toNat)
  case atStart => exact ⟨0, by omega, by simp, by simpa [bytesTo] using hown, Below.refl _ _, fun h => absurd h (Nat.lt_irrefl 0)⟩
  case round =>
    obtain ⟨k, hk, rfl, hr1, hr2, hr4⟩ := hrel
    have hsz := hr2.size
    by_cases hlt : k < n
    · have hx2 : (0 : Int) ≤ (n : Int) - 1 - (k : Int) := by omega
      have hlen : (bs ++ bytesTo x n k).length ≤ bs.length + 4 := by rw [List.length_append, bytesTo_length]; omega
      go_wp2_with (at_builtin; refine wpList_append_app rfl _ _ 22 rfl base 5 i0 (.int .u8 0) 1 1 Try.underlying22 hi hz0 hz1 hz2 rfl (by decide) _ _ _ rfl (App.alloc hr1 _) ⟨wr.heap.size, 0, none⟩ 1 1 [.int .u8 ((x : Int) / 2 ^ (8 * (n - 1 - k)) % 256)] (by decide) rfl rfl ?c1 ?c2 ?c3 ?c4 ?c5 ?_)
      case c1 => exact cell_one_new _ _ _
      case c2 => intro u hu; simp at hu; subst hu; rfl
      case c3 => unfold maxLen; omega
      case c4 => omega
      case c5 => simp; omega
      intro v' w1 hown' hgrow
      have hown2 : OwnsBytes base w1 v' (bs ++ bytesTo x n (k + 1)) := by
        rw [bytesTo_succ]; unfold OwnsBytes; simpa [u8v_byteOf, Nat.add_assoc] using hown'
      have hr3 : Below base w w1 := (hr2.alloc (by omega) _).grown hgrow (by simp; omega) (fun k hk => (hr1.lt k hk).1)
      clear hr1 hr2 hr4 hown' hgrow
      go_wp2
      go_roundw
      case rel => exact ⟨k + 1, by omega, by go_num, hown2.app, hr3, fun _ => hown2⟩
      case measure => simp [intOf]; omega
    · obtain rfl : k = n := by omega
      go_wp2
      go_ret
      exact ⟨_, rfl, hr4 (by omega), hr2⟩
end Go.Proofs.Ytoifodabfpbjlaa
