/-
  collatz, read and made ready on paper; the law's function over it.
-/
import Derived.Test.YtgmmfjmdpbhjnaaGreatLPaCollatz
import Derived.Test.YtgmmfjmdpbhjnaaGreatLColF
namespace Go.Proofs.YtgmmfjmdpbhjnaaGreat
open Go Go.XM Go.RowKit
theorem collatz_made : xB 30 collatzP1 collatzP2 collatzL collatzNx = some ⟨2, colBd, [List.replicate 20 0]⟩ := by kernel_rfl
theorem collatz_played : Played 27988534159832186 7 ⟨2, colBd, [List.replicate 20 0]⟩ := by
  obtain ⟨t, h1, h2⟩ := collatz_read
  exact ⟨_, _, _, _, _, _, t, 30, collatz_text, h1, by kernel_rfl, h2, collatz_made⟩
theorem col_law (w : World) (n1 : Nat) (h1 : n1 < 18446744073709551616) :
    Calls Tryz.prog 8 #[.int .u64 (n1 : Nat)] w fun e w' => e = .returned (.bool true) ∧ Below w.heap.size w w' := shelfCollatz_ok w n1 h1 collatz_played rfl
end Go.Proofs.YtgmmfjmdpbhjnaaGreat
