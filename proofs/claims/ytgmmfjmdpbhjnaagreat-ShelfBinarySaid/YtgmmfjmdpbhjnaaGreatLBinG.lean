/-
  binary, read and made ready on paper; the law's function over it.
-/
import Derived.Test.YtgmmfjmdpbhjnaaGreatLPaBinary
import Derived.Test.YtgmmfjmdpbhjnaaGreatLBinF
namespace Go.Proofs.YtgmmfjmdpbhjnaaGreat
open Go Go.XM Go.RowKit
theorem binary_made : xB 30 binaryP1 binaryP2 binaryL binaryNx = some ⟨1, by2Bd, []⟩ := by kernel_rfl
theorem binary_played : Played 108204962968185 6 ⟨1, by2Bd, []⟩ := by
  obtain ⟨t, h1, h2⟩ := binary_read
  exact ⟨_, _, _, _, _, _, t, 30, binary_text, h1, by kernel_rfl, h2, binary_made⟩
theorem bin_law (w : World) (n1 : Nat) (h1 : n1 < 18446744073709551616) :
    Calls Tryz.prog 13 #[.int .u64 (n1 : Nat)] w fun e w' => e = .returned (.bool true) ∧ Below w.heap.size w w' := shelfBinary_ok w n1 h1 binary_played rfl
end Go.Proofs.YtgmmfjmdpbhjnaaGreat
