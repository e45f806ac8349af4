/-
  mirror, read and made ready on paper; the law's function over it.
-/
import Derived.Test.YtclpjglkjkbljaaGreatLPaMirror
import Derived.Test.YtclpjglkjkbljaaGreatLMirF
namespace Go.Proofs.YtclpjglkjkbljaaGreat
open Go Go.XM Go.RowKit
theorem mirror_made : xB 30 mirrorP1 mirrorP2 mirrorL mirrorNx = some ⟨0, mirBd, [List.replicate 200 0]⟩ := by kernel_rfl
theorem mirror_played : Played 120299659095922 6 ⟨0, mirBd, [List.replicate 200 0]⟩ := by
  obtain ⟨t, h1, h2⟩ := mirror_read
  exact ⟨_, _, _, _, _, _, t, 30, mirror_text, h1, by kernel_rfl, h2, mirror_made⟩
theorem mir_law (w : World) (a : Option Addr) (c : Nat) (inp : List Nat) (hin : BytesIn w a inp) (hn : a = none → inp.length = 0) (hr : inp.length ≤ 140737488351232) (hc : inp.length ≤ c) :
    Calls Tryz.prog 13 #[.slice a inp.length c] w fun e w' => e = .returned (.bool true) ∧ Below w.heap.size w w' := shelfMirror_ok w a c inp hin hn hr hc mirror_played rfl
end Go.Proofs.YtclpjglkjkbljaaGreat
