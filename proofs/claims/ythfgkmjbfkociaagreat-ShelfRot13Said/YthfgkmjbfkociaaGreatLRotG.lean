/-
  rot13, read and made ready on paper; the law's function over it.
-/
import Derived.Test.YthfgkmjbfkociaaGreatLRotF
namespace Go.Proofs.YthfgkmjbfkociaaGreat
open Go Go.XM Go.RowKit
theorem rot_play : xPlay 30 491496157491 5 = some ⟨0, [(mapMain (caseB rotE), 1)]⟩ := by kernel_rfl
theorem rot_law (w : World) (a : Option Addr) (c : Nat) (inp : List Nat) (hin : BytesIn w a inp) (hn : a = none → inp.length = 0) (hr : inp.length ≤ 140737488351232) :
    Calls Tryz.prog 4 #[.slice a inp.length c] w fun e w' => e = .returned (.bool true) ∧ Below w.heap.size w w' := shelfRot_ok w a c inp hin hn hr 30 rot_play
end Go.Proofs.YthfgkmjbfkociaaGreat
