/-
  ackermann, read and made ready on paper; the law's function over it.
-/
import Derived.Test.YtgmmfjmdpbhjnaaGreatLPaAckermann
import Derived.Test.YtgmmfjmdpbhjnaaGreatLAckF
namespace Go.Proofs.YtgmmfjmdpbhjnaaGreat
open Go Go.XM Go.RowKit
theorem ackermann_made : xB 30 ackermannP1 ackermannP2 ackermannL ackermannNx = some ⟨3, ackBd, [List.replicate 20 0]⟩ := by kernel_rfl
theorem ackermann_played : Played 1796498106324225191534 9 ⟨3, ackBd, [List.replicate 20 0]⟩ := by
  obtain ⟨t, h1, h2⟩ := ackermann_read
  exact ⟨_, _, _, _, _, _, t, 30, ackermann_text, h1, by kernel_rfl, h2, ackermann_made⟩
theorem ack_law (w : World) (n1 : Nat) (n2 : Nat) (h1 : n1 < 18446744073709551616) (h2 : n2 < 18446744073709551616) :
    Calls Tryz.prog 16 #[.int .u64 (n1 : Nat), .int .u64 (n2 : Nat)] w fun e w' => e = .returned (.bool true) ∧ Below w.heap.size w w' := shelfAckermann_ok w n1 n2 h1 h2 ackermann_played rfl
end Go.Proofs.YtgmmfjmdpbhjnaaGreat
