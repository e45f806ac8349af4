/-
  fibonacci, read and made ready on paper; the law's function over it.
-/
import Derived.Test.YtgmmfjmdpbhjnaaGreatLPaFibonacci
import Derived.Test.YtgmmfjmdpbhjnaaGreatLFibF
namespace Go.Proofs.YtgmmfjmdpbhjnaaGreat
open Go Go.XM Go.RowKit
theorem fibonacci_made : xB 30 fibonacciP1 fibonacciP2 fibonacciL fibonacciNx = some ⟨2, fibBd, [List.replicate 20 0]⟩ := by kernel_rfl
theorem fibonacci_played : Played 1889161649959945331561 9 ⟨2, fibBd, [List.replicate 20 0]⟩ := by
  obtain ⟨t, h1, h2⟩ := fibonacci_read
  exact ⟨_, _, _, _, _, _, t, 30, fibonacci_text, h1, by kernel_rfl, h2, fibonacci_made⟩
theorem fib_law (w : World) (n1 : Nat) (h1 : n1 < 18446744073709551616) :
    Calls Tryz.prog 6 #[.int .u64 (n1 : Nat)] w fun e w' => e = .returned (.bool true) ∧ Below w.heap.size w w' := shelfFibonacci_ok w n1 h1 fibonacci_played rfl
end Go.Proofs.YtgmmfjmdpbhjnaaGreat
