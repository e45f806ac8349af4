/-
  base64, read and made ready on paper; the law's function over it.
-/
import Derived.Test.YtgmmfjmdpbhjnaaGreatLPaBase64
import Derived.Test.YtgmmfjmdpbhjnaaGreatLB64F
namespace Go.Proofs.YtgmmfjmdpbhjnaaGreat
open Go Go.XM Go.RowKit
theorem base64_made : xB 30 base64P1 base64P2 base64L base64Nx = some ⟨1, b64Bd, []⟩ := by kernel_rfl
theorem base64_played : Played 108170687362612 6 ⟨1, b64Bd, []⟩ := by
  obtain ⟨t, h1, h2⟩ := base64_read
  exact ⟨_, _, _, _, _, _, t, 30, base64_text, h1, by kernel_rfl, h2, base64_made⟩
theorem b64_law (w : World) (a : Option Addr) (c : Nat) (inp : List Nat) (hin : BytesIn w a inp) (hn : a = none → inp.length = 0) (hr : inp.length ≤ 1048576) :
    Calls Tryz.prog 12 #[.slice a inp.length c] w fun e w' => e = .returned (.bool true) ∧ Below w.heap.size w w' := shelfBase64_ok w a c inp hin hn hr base64_played rfl
end Go.Proofs.YtgmmfjmdpbhjnaaGreat
