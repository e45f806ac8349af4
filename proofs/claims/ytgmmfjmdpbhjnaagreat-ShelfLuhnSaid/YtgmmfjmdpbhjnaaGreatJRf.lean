/-
  Closed facts of the pinned program, that all rows of the seat ask for.
-/
import Derived.Test.YtgmmfjmdpbhjnaaGreatRows
import Derived.ProofKit
namespace Go.Proofs.YtgmmfjmdpbhjnaaGreat
open Go.RowKit
theorem Tryz.own : ownKnob Tryz.prog.godebug = none := by kernel_rfl
theorem Tryz.laidOut : laidOutB Tryz.prog = true := by kernel_rfl
theorem Tryz.k_maps : mapsRowed Tryz.prog = true := by kernel_rfl
theorem Tryz.k_stops : (Tryz.prog.stops == []) = true := by kernel_rfl
theorem Tryz.k_knobs : (Tryz.prog.stopKnobs == []) = true := by kernel_rfl
theorem Tryz.k_heard : Tryz.prog.stopsHeard = true := by kernel_rfl
theorem Tryz.k_keys : (Rows.shelfSortRow.plainKeys == Tryz.prog.plainKeys) = true := by kernel_rfl
theorem Tryz.k_enter : Tryz.prog.mayEnter = true := by kernel_rfl
theorem Tryz.k_lifts : (Rows.shelfSortRow.lifted == Tryz.prog.liftsFinal) = true := by kernel_rfl
theorem Tryz.k_make : (Tryz.prog.make == some Rows.shelfSortRow.make) = true := by kernel_rfl
end Go.Proofs.YtgmmfjmdpbhjnaaGreat
