/-
  crc, read and made ready on paper; the law's function over it.
-/
import Derived.Test.YtclpjglkjkbljaaGreatLPaCrc
import Derived.Test.YtclpjglkjkbljaaGreatLCrcF
namespace Go.Proofs.YtclpjglkjkbljaaGreat
open Go Go.XM Go.RowKit
theorem crc_made : xB 30 crcP1 crcP2 crcL crcNx = some ⟨1, crcBd, [List.replicate 20 0]⟩ := by kernel_rfl
theorem crc_played : Played 6517347 3 ⟨1, crcBd, [List.replicate 20 0]⟩ := by
  obtain ⟨t, h1, h2⟩ := crc_read
  exact ⟨_, _, _, _, _, _, t, 30, crc_text, h1, by kernel_rfl, h2, crc_made⟩
theorem crc_law (w : World) (a : Option Addr) (c : Nat) (inp : List Nat) (hin : BytesIn w a inp) (hn : a = none → inp.length = 0) (hr : inp.length ≤ 140737488351232) :
    Calls Tryz.prog 7 #[.slice a inp.length c] w fun e w' => e = .returned (.bool true) ∧ Below w.heap.size w w' := shelfCrc_ok w a c inp hin hn hr crc_played rfl
end Go.Proofs.YtclpjglkjkbljaaGreat
