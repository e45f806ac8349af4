/-
  hex, read and made ready on paper; the law's function over it.
-/
import Derived.Test.YthfgkmjbfkociaaGreatLHexF
namespace Go.Proofs.YthfgkmjbfkociaaGreat
open Go Go.XM Go.RowKit
theorem hex_play : xPlay 30 6841720 3 = some ⟨1, hexBd⟩ := by kernel_rfl
theorem hex_law (w : World) (a : Option Addr) (c : Nat) (inp : List Nat) (hin : BytesIn w a inp) (hn : a = none → inp.length = 0) (hr : inp.length ≤ 1048576) :
    Calls Tryz.prog 5 #[.slice a inp.length c] w fun e w' => e = .returned (.bool true) ∧ Below w.heap.size w w' := shelfHex_ok w a c inp hin hn hr 30 hex_play
end Go.Proofs.YthfgkmjbfkociaaGreat
