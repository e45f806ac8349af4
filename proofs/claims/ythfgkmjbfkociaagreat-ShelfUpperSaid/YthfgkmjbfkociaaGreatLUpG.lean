/-
  upper, read and made ready on paper; the law's function over it.
-/
import Derived.Test.YthfgkmjbfkociaaGreatLUpF
namespace Go.Proofs.YthfgkmjbfkociaaGreat
open Go Go.XM Go.RowKit
theorem up_play : xPlay 30 504397587826 5 = some ⟨0, [(mapMain (caseB upE), 1)]⟩ := by kernel_rfl
theorem up_law (w : World) (a : Option Addr) (c : Nat) (inp : List Nat) (hin : BytesIn w a inp) (hn : a = none → inp.length = 0) (hr : inp.length ≤ 140737488351232) :
    Calls Tryz.prog 3 #[.slice a inp.length c] w fun e w' => e = .returned (.bool true) ∧ Below w.heap.size w w' := shelfUpper_ok w a c inp hin hn hr 30 up_play
end Go.Proofs.YthfgkmjbfkociaaGreat
