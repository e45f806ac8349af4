/-
  sum, read and made ready on paper; the law's function over it.
-/
import Derived.Test.YtclpjglkjkbljaaGreatLPaSum
import Derived.Test.YtclpjglkjkbljaaGreatLSumF
namespace Go.Proofs.YtclpjglkjkbljaaGreat
open Go Go.XM Go.RowKit
theorem sum_made : xB 30 sumP1 sumP2 sumL sumNx = some ⟨1, sumBd, [List.replicate 20 0]⟩ := by kernel_rfl
theorem sum_played : Played 7566701 3 ⟨1, sumBd, [List.replicate 20 0]⟩ := by
  obtain ⟨t, h1, h2⟩ := sum_read
  exact ⟨_, _, _, _, _, _, t, 30, sum_text, h1, by kernel_rfl, h2, sum_made⟩
theorem sum_law (w : World) (a : Option Addr) (c : Nat) (inp : List Nat) (hin : BytesIn w a inp) (hn : a = none → inp.length = 0) (hr : inp.length ≤ 140737488351232) :
    Calls Tryz.prog 9 #[.slice a inp.length c] w fun e w' => e = .returned (.bool true) ∧ Below w.heap.size w w' := shelfSum_ok w a c inp hin hn hr sum_played rfl
end Go.Proofs.YtclpjglkjkbljaaGreat
