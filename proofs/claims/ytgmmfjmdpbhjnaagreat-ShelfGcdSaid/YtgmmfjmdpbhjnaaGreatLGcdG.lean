/-
  gcd, read and made ready on paper; the law's function over it.
-/
import Derived.Test.YtgmmfjmdpbhjnaaGreatLPaGcd
import Derived.Test.YtgmmfjmdpbhjnaaGreatLGcdF
namespace Go.Proofs.YtgmmfjmdpbhjnaaGreat
open Go Go.XM Go.RowKit
theorem gcd_made : xB 30 gcdP1 gcdP2 gcdL gcdNx = some ⟨2, gcdBd, [List.replicate 20 0]⟩ := by kernel_rfl
theorem gcd_played : Played 6775652 3 ⟨2, gcdBd, [List.replicate 20 0]⟩ := by
  obtain ⟨t, h1, h2⟩ := gcd_read
  exact ⟨_, _, _, _, _, _, t, 30, gcd_text, h1, by kernel_rfl, h2, gcd_made⟩
theorem gcd_law (w : World) (n1 : Nat) (n2 : Nat) (n3 : Nat) (h1 : n1 < 18446744073709551616) (h2 : n2 < 18446744073709551616) (h3 : n3 < 18446744073709551616) :
    Calls Tryz.prog 4 #[.int .u64 (n1 : Nat), .int .u64 (n2 : Nat), .int .u64 (n3 : Nat)] w fun e w' => e = .returned (.bool true) ∧ Below w.heap.size w w' := shelfGcd_ok w n1 n2 n3 h1 h2 h3 gcd_played rfl
end Go.Proofs.YtgmmfjmdpbhjnaaGreat
