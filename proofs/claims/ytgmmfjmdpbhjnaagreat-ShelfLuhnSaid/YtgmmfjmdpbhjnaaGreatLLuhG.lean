/-
  luhn, read and made ready on paper; the law's function over it.
-/
import Derived.Test.YtgmmfjmdpbhjnaaGreatLPaLuhn
import Derived.Test.YtgmmfjmdpbhjnaaGreatLLuhF
namespace Go.Proofs.YtgmmfjmdpbhjnaaGreat
open Go Go.XM Go.RowKit
theorem luhn_made : xB 30 luhnP1 luhnP2 luhnL luhnNx = some ⟨0, luhBd, [List.replicate 40 0]⟩ := by kernel_rfl
theorem luhn_played : Played 1819633774 4 ⟨0, luhBd, [List.replicate 40 0]⟩ := by
  obtain ⟨t, h1, h2⟩ := luhn_read
  exact ⟨_, _, _, _, _, _, t, 30, luhn_text, h1, by kernel_rfl, h2, luhn_made⟩
theorem luh_law (w : World) (a : Option Addr) (c : Nat) (inp : List Nat) (hin : BytesIn w a inp) (hn : a = none → inp.length = 0) (hr : inp.length ≤ 140737488351232) :
    Calls Tryz.prog 11 #[.slice a inp.length c] w fun e w' => e = .returned (.bool true) ∧ Below w.heap.size w w' := shelfLuhn_ok w a c inp hin hn hr luhn_played rfl
end Go.Proofs.YtgmmfjmdpbhjnaaGreat
