/-
  modpow, read and made ready on paper; the law's function over it.
-/
import Derived.Test.YtgmmfjmdpbhjnaaGreatLPaModpow
import Derived.Test.YtgmmfjmdpbhjnaaGreatLModF
namespace Go.Proofs.YtgmmfjmdpbhjnaaGreat
open Go Go.XM Go.RowKit
theorem modpow_made : xB 30 modpowP1 modpowP2 modpowL modpowNx = some ⟨2, mpBd, [List.replicate 20 0]⟩ := by kernel_rfl
theorem modpow_played : Played 120325193887607 6 ⟨2, mpBd, [List.replicate 20 0]⟩ := by
  obtain ⟨t, h1, h2⟩ := modpow_read
  exact ⟨_, _, _, _, _, _, t, 30, modpow_text, h1, by kernel_rfl, h2, modpow_made⟩
theorem mod_law (w : World) (n1 : Nat) (n2 : Nat) (n3 : Nat) (h1 : n1 < 18446744073709551616) (h2 : n2 < 18446744073709551616) (h3 : n3 < 18446744073709551616) :
    Calls Tryz.prog 15 #[.int .u64 (n1 : Nat), .int .u64 (n2 : Nat), .int .u64 (n3 : Nat)] w fun e w' => e = .returned (.bool true) ∧ Below w.heap.size w w' := shelfModpow_ok w n1 n2 n3 h1 h2 h3 modpow_played rfl
end Go.Proofs.YtgmmfjmdpbhjnaaGreat
