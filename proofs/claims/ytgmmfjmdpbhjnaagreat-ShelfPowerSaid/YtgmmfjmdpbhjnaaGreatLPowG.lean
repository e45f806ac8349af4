/-
  power, read and made ready on paper; the law's function over it.
-/
import Derived.Test.YtgmmfjmdpbhjnaaGreatLPaPower
import Derived.Test.YtgmmfjmdpbhjnaaGreatLPowF
namespace Go.Proofs.YtgmmfjmdpbhjnaaGreat
open Go Go.XM Go.RowKit
theorem power_made : xB 30 powerP1 powerP2 powerL powerNx = some ⟨2, powBd, [List.replicate 20 0]⟩ := by kernel_rfl
theorem power_played : Played 482906432882 5 ⟨2, powBd, [List.replicate 20 0]⟩ := by
  obtain ⟨t, h1, h2⟩ := power_read
  exact ⟨_, _, _, _, _, _, t, 30, power_text, h1, by kernel_rfl, h2, power_made⟩
theorem pow_law (w : World) (n1 : Nat) (n2 : Nat) (h1 : n1 < 18446744073709551616) (h2 : n2 < 18446744073709551616) :
    Calls Tryz.prog 5 #[.int .u64 (n1 : Nat), .int .u64 (n2 : Nat)] w fun e w' => e = .returned (.bool true) ∧ Below w.heap.size w w' := shelfPower_ok w n1 n2 h1 h2 power_played rfl
end Go.Proofs.YtgmmfjmdpbhjnaaGreat
