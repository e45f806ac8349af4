/-
  count, read and made ready on paper; the law's function over it.
-/
import Derived.Test.YtclpjglkjkbljaaGreatLPaCount
import Derived.Test.YtclpjglkjkbljaaGreatLCouF
namespace Go.Proofs.YtclpjglkjkbljaaGreat
open Go Go.XM Go.RowKit
theorem count_made : xB 30 countP1 countP2 countL countNx = some ⟨1, couBd, [List.replicate 20 0]⟩ := by kernel_rfl
theorem count_played : Played 427071729268 5 ⟨1, couBd, [List.replicate 20 0]⟩ := by
  obtain ⟨t, h1, h2⟩ := count_read
  exact ⟨_, _, _, _, _, _, t, 30, count_text, h1, by kernel_rfl, h2, count_made⟩
theorem cou_law (w : World) (a : Option Addr) (c : Nat) (inp : List Nat) (hin : BytesIn w a inp) (hn : a = none → inp.length = 0) (hr : inp.length ≤ 140737488351232) :
    Calls Tryz.prog 5 #[.slice a inp.length c] w fun e w' => e = .returned (.bool true) ∧ Below w.heap.size w w' := shelfCount_ok w a c inp hin hn hr count_played rfl
end Go.Proofs.YtclpjglkjkbljaaGreat
