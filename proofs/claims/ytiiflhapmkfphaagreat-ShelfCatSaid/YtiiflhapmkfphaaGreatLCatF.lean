/-
  'ShelfCat': for every input the law returns true, and the input reads as it did.
  Conditions: none beside the form's own.
-/
import Derived.Test.YtiiflhapmkfphaaGreatLCatK
import Derived.Test.YtiiflhapmkfphaaGreatJRc
import Derived.ProofKit
import Derived.SizedLaws
namespace Go.Proofs.YtiiflhapmkfphaaGreat
open Go Go.RowKit Go.XM

theorem cell_ex {w : World} {b o : Nat} {v : Value} (h : w.cell? ⟨b, o, none⟩ = some v) : ∃ cur t fz, w.heap[b]? = some (.cells cur t fz) ∧ cur[o]? = some v := by
  unfold World.cell? at h
  cases hq : w.heap[b]? with
  | none => simp [hq] at h
  | some x =>
    cases x <;> simp [hq] at h
    exact ⟨_, _, _, rfl, h⟩
theorem shelfCat_ok (w : World) (a : Option Addr) (c : Nat) (inp : List Nat) (hin : BytesIn w a inp) (hn : a = none → inp.length = 0) :
    Calls Tryz.prog 4 #[.slice a inp.length c] w fun e w' => e = .returned (.bool true) ∧ Below w.heap.size w w' := by
  have hb : ∀ v ∈ inp, v < 256 := fun v hv => by
    obtain ⟨k, hk⟩ := List.getElem?_of_mem hv
    exact (hin k v hk).1
  have T := tells_ok cat_play (inp := inp) (want := inp) (large := decide ((60 : Int) < inp.length)) (w := w) (a := a) (wa := a) (c := c) (wc := c)
    (fun hl => ⟨hl, fun k v hk => by
      obtain ⟨h1, b, off, h2, _, h3⟩ := hin k v hk
      obtain ⟨cur, t, fz, h4, h5⟩ := cell_ex h3
      exact ⟨h1, b, off, cur, t, fz, h2, h4, h5⟩⟩) hin hn
    (fun hl => ⟨_, _, _, cat_means hb inp.length (Nat.le_refl _), rfl, fun ho => by
      have ho : 200000 < 9 * inp.length + 9 ∨ 65536 < inp.length := ho
      exact decide_eq_true (by omega)⟩)
  have hs : unB 6513012 3 = ⟨#[99, 97, 116]⟩ := by kernel_rfl
  rw [hs] at T
  clear hin hn hb hs
  generalize inp.length = n at *
  go_enter Tryz.func4, Tryz.ntmps4
  go_wp2_with fail
  refine T.mono ?_
  rintro e w1 ⟨rfl, hb⟩
  go_wp2_with fail
  exact bodyPost_ret (v := .bool true) (by simp [results, Tryz.results4, go_sem]) rfl ⟨rfl, hb⟩
end Go.Proofs.YtiiflhapmkfphaaGreat
