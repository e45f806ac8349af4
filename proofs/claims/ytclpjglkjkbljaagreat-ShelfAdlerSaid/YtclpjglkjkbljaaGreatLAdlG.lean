/-
  adler, read and made ready on paper; the law's function over it.
-/
import Derived.Test.YtclpjglkjkbljaaGreatLPaAdler
import Derived.Test.YtclpjglkjkbljaaGreatLAdlF
namespace Go.Proofs.YtclpjglkjkbljaaGreat
open Go Go.XM Go.RowKit
theorem adler_made : xB 30 adlerP1 adlerP2 adlerL adlerNx = some ⟨1, adlBd, [List.replicate 20 0]⟩ := by kernel_rfl
theorem adler_played : Played 418296653170 5 ⟨1, adlBd, [List.replicate 20 0]⟩ := by
  obtain ⟨t, h1, h2⟩ := adler_read
  exact ⟨_, _, _, _, _, _, t, 30, adler_text, h1, by kernel_rfl, h2, adler_made⟩
theorem adl_law (w : World) (a : Option Addr) (c : Nat) (inp : List Nat) (hin : BytesIn w a inp) (hn : a = none → inp.length = 0) (hr : inp.length ≤ 140737488351232) :
    Calls Tryz.prog 8 #[.slice a inp.length c] w fun e w' => e = .returned (.bool true) ∧ Below w.heap.size w w' := shelfAdler_ok w a c inp hin hn hr adler_played rfl
end Go.Proofs.YtclpjglkjkbljaaGreat
