/-
  digits, read and made ready on paper; the law's function over it.
-/
import Derived.Test.YtclpjglkjkbljaaGreatLPaDigits
import Derived.Test.YtclpjglkjkbljaaGreatLDigF
namespace Go.Proofs.YtclpjglkjkbljaaGreat
open Go Go.XM Go.RowKit
theorem digits_made : xB 30 digitsP1 digitsP2 digitsL digitsNx = some ⟨1, digBd, [List.replicate 20 0]⟩ := by kernel_rfl
theorem digits_played : Played 110403869308019 6 ⟨1, digBd, [List.replicate 20 0]⟩ := by
  obtain ⟨t, h1, h2⟩ := digits_read
  exact ⟨_, _, _, _, _, _, t, 30, digits_text, h1, by kernel_rfl, h2, digits_made⟩
theorem dig_law (w : World) (a : Option Addr) (c : Nat) (inp : List Nat) (hin : BytesIn w a inp) (hn : a = none → inp.length = 0) (hr : inp.length ≤ 140737488351232) :
    Calls Tryz.prog 11 #[.slice a inp.length c] w fun e w' => e = .returned (.bool true) ∧ Below w.heap.size w w' := shelfDigits_ok w a c inp hin hn hr digits_played rfl
end Go.Proofs.YtclpjglkjkbljaaGreat
