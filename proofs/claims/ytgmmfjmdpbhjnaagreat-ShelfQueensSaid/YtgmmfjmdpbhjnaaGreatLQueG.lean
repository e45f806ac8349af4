/-
  queens, read and made ready on paper; the law's function over it.
-/
import Derived.Test.YtgmmfjmdpbhjnaaGreatLPaQueens
import Derived.Test.YtgmmfjmdpbhjnaaGreatLQueF
namespace Go.Proofs.YtgmmfjmdpbhjnaaGreat
open Go Go.XM Go.RowKit
theorem queens_made : xB 30 queensP1 queensP2 queensL queensNx = some ⟨3, queBd, [List.replicate 20 0, List.replicate 8 0]⟩ := by kernel_rfl
theorem queens_played : Played 124749026258547 6 ⟨3, queBd, [List.replicate 20 0, List.replicate 8 0]⟩ := by
  obtain ⟨t, h1, h2⟩ := queens_read
  exact ⟨_, _, _, _, _, _, t, 30, queens_text, h1, by kernel_rfl, h2, queens_made⟩
theorem que_law (w : World) (n1 : Nat) (h1 : n1 < 18446744073709551616) :
    Calls Tryz.prog 19 #[.int .u64 (n1 : Nat)] w fun e w' => e = .returned (.bool true) ∧ Below w.heap.size w w' := shelfQueens_ok w n1 h1 queens_played rfl
end Go.Proofs.YtgmmfjmdpbhjnaaGreat
