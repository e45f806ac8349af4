/-
  What a law makes, byte by byte, to hold it against what a program tells.
-/
import Derived.Test.YthfgkmjbfkociaaGreatJRc
namespace Go.Proofs.YthfgkmjbfkociaaGreat
open Go Go.RowKit

/-- the row of bytes that a law makes -/
structure WantAt (w0 w : World) (v : Value) (l : List Nat) : Prop where
  own : w.ownsRow 0 5 1 v l.length (bytes l)
  ge : ∀ k, v.ownBlock = some k → w0.heap.size ≤ k
  below : Below w0.heap.size w0 w
  lt : ∀ x ∈ l, x < 256
theorem WantAt.nil (w : World) : WantAt w w (.slice none 0 0) [] := ⟨⟨rfl, .inl ⟨rfl, rfl⟩⟩, fun k h => (by cases h), Below.refl _ _, fun x h => (by simp at h)⟩
theorem WantAt.put {w0 w w' : World} {v v' : Value} {l : List Nat} {o : Obj} (h : WantAt w0 w v l) {x : Nat} (hx : x < 256) (hown : w'.ownsRow 0 5 1 v' (l.length + 1) (bytes l ++ [.int .u8 (x : Int)])) (hg : (w.alloc o).grownBy w' v.ownBlock)
    (hw : ∀ k, v'.ownBlock = some k → v.ownBlock = some k ∨ w.heap.size + 1 ≤ k) : WantAt w0 w' v' (l ++ [x]) := by
  have hs := h.below.size
  refine ⟨by rw [List.length_append, bytes_app]; exact hown, fun k hk => ?_, ⟨hg.os.trans h.below.os, hg.tape.trans h.below.tape, hg.output.trans h.below.output, ?_, fun b hb => ?_⟩, fun y hy => ?_⟩
  · rcases hw k hk with q | q
    · exact h.ge k q
    · omega
  · have := hg.size; rw [alloc_sz] at this; omega
  · rw [hg.block b (by rw [alloc_sz]; omega) (fun e => by have := h.ge b e.symm; omega), Below.heap_alloc _ _ _ (by omega)]
    exact h.below.block b hb
  · rcases List.mem_append.1 hy with hy | hy
    · exact h.lt y hy
    · rw [List.mem_singleton.1 hy]; exact hx
theorem WantAt.bytes {w0 w : World} {v : Value} {l : List Nat} (h : WantAt w0 w v l) : ∃ a c, v = .slice a l.length c ∧ (a = none → l.length = 0) ∧ BytesIn w a l := by
  obtain ⟨a, n, c, rfl⟩ := own_slice h.own
  obtain ⟨rfl, h2, h3⟩ := bytes_own h.own h.lt
  exact ⟨a, c, rfl, h2, h3⟩
theorem cell_ex {w : World} {b o : Nat} {v : Value} (h : w.cell? ⟨b, o, none⟩ = some v) : ∃ cur t fz, w.heap[b]? = some (.cells cur t fz) ∧ cur[o]? = some v := by
  unfold World.cell? at h
  cases hq : w.heap[b]? with
  | none => simp [hq] at h
  | some x =>
    cases x <;> simp [hq] at h
    exact ⟨_, _, _, rfl, h⟩
theorem BytesIn.inp {w w1 : World} {a : Option Addr} {inp : List Nat} (hin : BytesIn w a inp) (hb : Below w.heap.size w w1) (hl : inp.length ≤ 65536) : InpIn w1 a inp := InpIn.below ⟨hl, fun k v hk => by
  obtain ⟨h1, b, off, h2, _, h3⟩ := hin k v hk
  obtain ⟨cur, t, fz, h4, h5⟩ := cell_ex h3
  exact ⟨h1, b, off, cur, t, fz, h2, h4, h5⟩⟩ hb
theorem len_flat1 {F : Nat → Nat} (l : List Nat) : (l.flatMap fun x => [F x]).length = l.length := by
  induction l with
  | nil => rfl
  | cons x l ih => rw [List.flatMap_cons, List.length_append, ih]; simp; omega
end Go.Proofs.YthfgkmjbfkociaaGreat
