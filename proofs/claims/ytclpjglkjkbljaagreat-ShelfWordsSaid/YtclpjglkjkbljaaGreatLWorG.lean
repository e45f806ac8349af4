/-
  words, read and made ready on paper; the law's function over it.
-/
import Derived.Test.YtclpjglkjkbljaaGreatLPaWords
import Derived.Test.YtclpjglkjkbljaaGreatLWorF
namespace Go.Proofs.YtclpjglkjkbljaaGreat
open Go Go.XM Go.RowKit
theorem words_made : xB 30 wordsP1 wordsP2 wordsL wordsNx = some ⟨1, worBd, [List.replicate 20 0]⟩ := by kernel_rfl
theorem words_played : Played 512970876019 5 ⟨1, worBd, [List.replicate 20 0]⟩ := by
  obtain ⟨t, h1, h2⟩ := words_read
  exact ⟨_, _, _, _, _, _, t, 30, words_text, h1, by kernel_rfl, h2, words_made⟩
theorem wor_law (w : World) (a : Option Addr) (c : Nat) (inp : List Nat) (hin : BytesIn w a inp) (hn : a = none → inp.length = 0) (hr : inp.length ≤ 140737488351232) :
    Calls Tryz.prog 10 #[.slice a inp.length c] w fun e w' => e = .returned (.bool true) ∧ Below w.heap.size w w' := shelfWords_ok w a c inp hin hn hr words_played rfl
end Go.Proofs.YtclpjglkjkbljaaGreat
