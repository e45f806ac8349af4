/-
  root, read and made ready on paper; the law's function over it.
-/
import Derived.Test.YtgmmfjmdpbhjnaaGreatLPaRoot
import Derived.Test.YtgmmfjmdpbhjnaaGreatLRooF
namespace Go.Proofs.YtgmmfjmdpbhjnaaGreat
open Go Go.XM Go.RowKit
theorem root_made : xB 30 rootP1 rootP2 rootL rootNx = some ⟨2, rooBd, [List.replicate 20 0]⟩ := by kernel_rfl
theorem root_played : Played 1919905652 4 ⟨2, rooBd, [List.replicate 20 0]⟩ := by
  obtain ⟨t, h1, h2⟩ := root_read
  exact ⟨_, _, _, _, _, _, t, 30, root_text, h1, by kernel_rfl, h2, root_made⟩
theorem roo_law (w : World) (n1 : Nat) (h1 : n1 < 18446744073709551616) :
    Calls Tryz.prog 9 #[.int .u64 (n1 : Nat)] w fun e w' => e = .returned (.bool true) ∧ Below w.heap.size w w' := shelfRoot_ok w n1 h1 root_played rfl
end Go.Proofs.YtgmmfjmdpbhjnaaGreat
