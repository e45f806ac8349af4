/-
  ones, read and made ready on paper; the law's function over it.
-/
import Derived.Test.YtclpjglkjkbljaaGreatLPaOnes
import Derived.Test.YtclpjglkjkbljaaGreatLOneF
namespace Go.Proofs.YtclpjglkjkbljaaGreat
open Go Go.XM Go.RowKit
theorem ones_made : xB 30 onesP1 onesP2 onesL onesNx = some ⟨1, oneBd, [List.replicate 20 0]⟩ := by kernel_rfl
theorem ones_played : Played 1869505907 4 ⟨1, oneBd, [List.replicate 20 0]⟩ := by
  obtain ⟨t, h1, h2⟩ := ones_read
  exact ⟨_, _, _, _, _, _, t, 30, ones_text, h1, by kernel_rfl, h2, ones_made⟩
theorem one_law (w : World) (a : Option Addr) (c : Nat) (inp : List Nat) (hin : BytesIn w a inp) (hn : a = none → inp.length = 0) (hr : inp.length ≤ 140737488351232) :
    Calls Tryz.prog 6 #[.slice a inp.length c] w fun e w' => e = .returned (.bool true) ∧ Below w.heap.size w w' := shelfOnes_ok w a c inp hin hn hr ones_played rfl
end Go.Proofs.YtclpjglkjkbljaaGreat
