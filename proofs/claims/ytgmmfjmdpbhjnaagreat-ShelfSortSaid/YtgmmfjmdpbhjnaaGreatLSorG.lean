/-
  sort, read and made ready on paper; the law's function over it.
-/
import Derived.Test.YtgmmfjmdpbhjnaaGreatLPaSort
import Derived.Test.YtgmmfjmdpbhjnaaGreatLSorF
namespace Go.Proofs.YtgmmfjmdpbhjnaaGreat
open Go Go.XM Go.RowKit
theorem sort_made : xB 30 sortP1 sortP2 sortL sortNx = some ⟨0, sorBd, [List.replicate 64 0]⟩ := by kernel_rfl
theorem sort_played : Played 1936683636 4 ⟨0, sorBd, [List.replicate 64 0]⟩ := by
  obtain ⟨t, h1, h2⟩ := sort_read
  exact ⟨_, _, _, _, _, _, t, 30, sort_text, h1, by kernel_rfl, h2, sort_made⟩
theorem sor_law (w : World) (a : Option Addr) (c : Nat) (inp : List Nat) (hin : BytesIn w a inp) (hn : a = none → inp.length = 0) (hr : inp.length ≤ 140737488351232) :
    Calls Tryz.prog 3 #[.slice a inp.length c] w fun e w' => e = .returned (.bool true) ∧ Below w.heap.size w w' := shelfSort_ok w a c inp hin hn hr sort_played rfl
end Go.Proofs.YtgmmfjmdpbhjnaaGreat
