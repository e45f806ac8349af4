/-
  ShelfCount: the law's function.
-/
import Derived.Test.YtclpjglkjkbljaaGreatLLineF
import Derived.Test.YtclpjglkjkbljaaGreatJPb
namespace Go.Proofs.YtclpjglkjkbljaaGreat
open Go Go.RowKit

/-- below, twice -/
theorem below2 {w w1 w2 : World} (b1 : Below w.heap.size w w1) (b2 : Below w1.heap.size w1 w2) : Below w.heap.size w w2 :=
  ⟨b2.os.trans b1.os, b2.tape.trans b1.tape, b2.output.trans b1.output, Nat.le_trans b1.size b2.size, fun b hb => (b2.block b (Nat.lt_of_lt_of_le hb b1.size)).trans (b1.block b hb)⟩

set_option maxHeartbeats 1000000 in
set_option maxRecDepth 100000 in
theorem shelfCount_ok (w : World) (a : Option Addr) (c : Nat) (inp : List Nat) (hin : BytesIn w a inp) (_ : a = none → inp.length = 0) (hreach : inp.length ≤ 140737488351232) {rdy : Rdy} (hP : Played 427071729268 5 rdy) (hR : rdy = ⟨1, couBd, [List.replicate 20 0]⟩) :
    Calls Tryz.prog 5 #[.slice a inp.length c] w fun e w' => e = .returned (.bool true) ∧ Below w.heap.size w w' := by
  subst hR
  have hb : ∀ v ∈ inp, v < 256 := fun v hv => by
    obtain ⟨k, hk⟩ := List.getElem?_of_mem hv
    exact (hin k v hk).1
  have T := fun (w1 : World) (wa : Option Addr) (wc : Nat) (hw : Below w.heap.size w w1) (h1 : BytesIn w1 wa (digs inp.length ++ [10])) (h2 : wa = none → (digs inp.length ++ [10]).length = 0) =>
    tells_ok hP (inp := inp) (want := digs inp.length ++ [10]) (large := decide ((60 : Int) < inp.length)) (w := w1) (a := a) (wa := wa) (c := c) (wc := wc) (fun hl => hin.inp hw hl) h1 h2
    (fun hl => by
      obtain ⟨n, v, s, h1, h2, h3⟩ := count_means hb hl
      exact ⟨n, v, s, h1, h2, fun ho => decide_eq_true (by have := h3 ho; omega)⟩)
  have hs : XM.unB 427071729268 5 = ⟨#[99, 111, 117, 110, 116]⟩ := by kernel_rfl
  rw [hs] at T
  have HL := line_ok inp.length (by omega) w
  have HT := Lib.hid T
  clear hin hb hs T hP
  generalize digs inp.length ++ [10] = want at *
  obtain ⟨N, hN⟩ : ∃ N, N = inp.length := ⟨_, rfl⟩
  obtain ⟨L, hL⟩ : ∃ L, L = want.length := ⟨_, rfl⟩
  rw [← hN, ← hL] at HT
  rw [← hN, ← hL] at HL
  rw [← hN] at hreach ⊢
  clear hN hL
  have w1 : IntKind.u64.wrap (N : Int) = (N : Int) := by rw [IntKind.wrap]; simp [IntKind.bits, IntKind.signed]; omega
  go_enter Tryz.func5, Tryz.ntmps5
  go_wp2_with fail
  refine HL.mono ?_
  rintro e w1 ⟨wa, wc, rfl, hbytes, hbl⟩
  have TT := HT.out w1 (some wa) wc hbl hbytes (fun e => by cases e)
  have HB := Lib.hid hbl
  clear hbl hbytes HL
  go_wp2_with fail
  refine TT.mono ?_
  rintro e w2 ⟨rfl, hb2⟩
  have HB2 := Lib.hid hb2
  clear TT hb2
  go_wp2_with fail
  exact bodyPost_ret (v := .bool true) (by simp [results, Tryz.results5, go_sem]) rfl ⟨rfl, below2 HB.out HB2.out⟩
end Go.Proofs.YtclpjglkjkbljaaGreat
