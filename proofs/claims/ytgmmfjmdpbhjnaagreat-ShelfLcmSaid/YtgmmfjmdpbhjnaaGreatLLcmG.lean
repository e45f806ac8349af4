/-
  lcm, read and made ready on paper; the law's function over it.
-/
import Derived.Test.YtgmmfjmdpbhjnaaGreatLPaLcm
import Derived.Test.YtgmmfjmdpbhjnaaGreatLLcmF
namespace Go.Proofs.YtgmmfjmdpbhjnaaGreat
open Go Go.XM Go.RowKit
theorem lcm_made : xB 30 lcmP1 lcmP2 lcmL lcmNx = some ⟨2, lcmBd, [List.replicate 20 0]⟩ := by kernel_rfl
theorem lcm_played : Played 7103341 3 ⟨2, lcmBd, [List.replicate 20 0]⟩ := by
  obtain ⟨t, h1, h2⟩ := lcm_read
  exact ⟨_, _, _, _, _, _, t, 30, lcm_text, h1, by kernel_rfl, h2, lcm_made⟩
theorem lcm_law (w : World) (n1 : Nat) (n2 : Nat) (n3 : Nat) (h1 : n1 < 18446744073709551616) (h2 : n2 < 18446744073709551616) (h3 : n3 < 18446744073709551616) :
    Calls Tryz.prog 14 #[.int .u64 (n1 : Nat), .int .u64 (n2 : Nat), .int .u64 (n3 : Nat)] w fun e w' => e = .returned (.bool true) ∧ Below w.heap.size w w' := shelfLcm_ok w n1 n2 n3 h1 h2 h3 lcm_played rfl
end Go.Proofs.YtgmmfjmdpbhjnaaGreat
