/-
  factorial, read and made ready on paper; the law's function over it.
-/
import Derived.Test.YtgmmfjmdpbhjnaaGreatLPaFactorial
import Derived.Test.YtgmmfjmdpbhjnaaGreatLFacF
namespace Go.Proofs.YtgmmfjmdpbhjnaaGreat
open Go Go.XM Go.RowKit
theorem factorial_made : xB 30 factorialP1 factorialP2 factorialL factorialNx = some ⟨3, facBd, [List.replicate 20 0]⟩ := by kernel_rfl
theorem factorial_played : Played 1888585476184757330284 9 ⟨3, facBd, [List.replicate 20 0]⟩ := by
  obtain ⟨t, h1, h2⟩ := factorial_read
  exact ⟨_, _, _, _, _, _, t, 30, factorial_text, h1, by kernel_rfl, h2, factorial_made⟩
theorem fac_law (w : World) (n1 : Nat) (h1 : n1 < 18446744073709551616) :
    Calls Tryz.prog 7 #[.int .u64 (n1 : Nat)] w fun e w' => e = .returned (.bool true) ∧ Below w.heap.size w w' := shelfFactorial_ok w n1 h1 factorial_played rfl
end Go.Proofs.YtgmmfjmdpbhjnaaGreat
