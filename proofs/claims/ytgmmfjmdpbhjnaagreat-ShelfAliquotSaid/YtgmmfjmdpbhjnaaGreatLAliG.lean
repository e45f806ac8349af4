/-
  aliquot, read and made ready on paper; the law's function over it.
-/
import Derived.Test.YtgmmfjmdpbhjnaaGreatLPaAliquot
import Derived.Test.YtgmmfjmdpbhjnaaGreatLAliF
namespace Go.Proofs.YtgmmfjmdpbhjnaaGreat
open Go Go.XM Go.RowKit
theorem aliquot_made : xB 30 aliquotP1 aliquotP2 aliquotL aliquotNx = some ⟨2, aliBd, [List.replicate 20 0]⟩ := by kernel_rfl
theorem aliquot_played : Played 27422272871821172 7 ⟨2, aliBd, [List.replicate 20 0]⟩ := by
  obtain ⟨t, h1, h2⟩ := aliquot_read
  exact ⟨_, _, _, _, _, _, t, 30, aliquot_text, h1, by kernel_rfl, h2, aliquot_made⟩
theorem ali_law (w : World) (n1 : Nat) (h1 : n1 < 18446744073709551616) :
    Calls Tryz.prog 17 #[.int .u64 (n1 : Nat)] w fun e w' => e = .returned (.bool true) ∧ Below w.heap.size w w' := shelfAliquot_ok w n1 h1 aliquot_played rfl
end Go.Proofs.YtgmmfjmdpbhjnaaGreat
