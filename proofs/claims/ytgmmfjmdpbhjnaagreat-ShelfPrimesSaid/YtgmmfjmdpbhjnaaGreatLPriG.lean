/-
  primes, read and made ready on paper; the law's function over it.
-/
import Derived.Test.YtgmmfjmdpbhjnaaGreatLPaPrimes
import Derived.Test.YtgmmfjmdpbhjnaaGreatLPriF
namespace Go.Proofs.YtgmmfjmdpbhjnaaGreat
open Go Go.XM Go.RowKit
theorem primes_made : xB 30 primesP1 primesP2 primesL primesNx = some ⟨2, priBd, [List.replicate 20 0, List.replicate 200 0]⟩ := by kernel_rfl
theorem primes_played : Played 123636697359731 6 ⟨2, priBd, [List.replicate 20 0, List.replicate 200 0]⟩ := by
  obtain ⟨t, h1, h2⟩ := primes_read
  exact ⟨_, _, _, _, _, _, t, 30, primes_text, h1, by kernel_rfl, h2, primes_made⟩
theorem pri_law (w : World) (n1 : Nat) (h1 : n1 < 18446744073709551616) :
    Calls Tryz.prog 10 #[.int .u64 (n1 : Nat)] w fun e w' => e = .returned (.bool true) ∧ Below w.heap.size w w' := shelfPrimes_ok w n1 h1 primes_played rfl
end Go.Proofs.YtgmmfjmdpbhjnaaGreat
