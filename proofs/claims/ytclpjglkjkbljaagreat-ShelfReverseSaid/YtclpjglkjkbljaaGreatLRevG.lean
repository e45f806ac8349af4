/-
  reverse, read and made ready on paper; the law's function over it.
-/
import Derived.Test.YtclpjglkjkbljaaGreatLPaReverse
import Derived.Test.YtclpjglkjkbljaaGreatLRevF
namespace Go.Proofs.YtclpjglkjkbljaaGreat
open Go Go.XM Go.RowKit
theorem reverse_made : xB 30 reverseP1 reverseP2 reverseL reverseNx = some ⟨0, revBd, [List.replicate 200 0]⟩ := by kernel_rfl
theorem reverse_played : Played 32199706527560549 7 ⟨0, revBd, [List.replicate 200 0]⟩ := by
  obtain ⟨t, h1, h2⟩ := reverse_read
  exact ⟨_, _, _, _, _, _, t, 30, reverse_text, h1, by kernel_rfl, h2, reverse_made⟩
theorem rev_law (w : World) (a : Option Addr) (c : Nat) (inp : List Nat) (hin : BytesIn w a inp) (hn : a = none → inp.length = 0) (hr : inp.length ≤ 140737488351232) :
    Calls Tryz.prog 3 #[.slice a inp.length c] w fun e w' => e = .returned (.bool true) ∧ Below w.heap.size w w' := shelfReverse_ok w a c inp hin hn hr reverse_played rfl
end Go.Proofs.YtclpjglkjkbljaaGreat
