/-
  hanoi, read and made ready on paper; the law's function over it.
-/
import Derived.Test.YtgmmfjmdpbhjnaaGreatLPaHanoi
import Derived.Test.YtgmmfjmdpbhjnaaGreatLHanF
namespace Go.Proofs.YtgmmfjmdpbhjnaaGreat
open Go Go.XM Go.RowKit
theorem hanoi_made : xB 30 hanoiP1 hanoiP2 hanoiL hanoiNx = some ⟨2, hanBd, []⟩ := by kernel_rfl
theorem hanoi_played : Played 448311226217 5 ⟨2, hanBd, []⟩ := by
  obtain ⟨t, h1, h2⟩ := hanoi_read
  exact ⟨_, _, _, _, _, _, t, 30, hanoi_text, h1, by kernel_rfl, h2, hanoi_made⟩
theorem han_law (w : World) (n1 : Nat) (h1 : n1 < 18446744073709551616) :
    Calls Tryz.prog 18 #[.int .u64 (n1 : Nat)] w fun e w' => e = .returned (.bool true) ∧ Below w.heap.size w w' := shelfHanoi_ok w n1 h1 hanoi_played rfl
end Go.Proofs.YtgmmfjmdpbhjnaaGreat
