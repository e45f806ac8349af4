/-
  A law's row of bytes, behind what left it be; bytes put behind it at once.
-/
import Derived.Test.YtgmmfjmdpbhjnaaGreatJRc
namespace Go.Proofs.YtgmmfjmdpbhjnaaGreat
open Go Go.RowKit

theorem WantAt.later {w0 w w1 : World} {v : Value} {l : List Nat} (h : WantAt w0 w v l) (hb : Below w.heap.size w w1) : WantAt w0 w1 v l := by
  refine ⟨?_, h.ge, below2 h.below hb, h.lt⟩
  obtain ⟨h1, h2⟩ := h.own
  refine ⟨h1, ?_⟩
  rcases h2 with h2 | ⟨g, cap, cur, h2, h3, h4, h5⟩
  · exact .inl h2
  · exact .inr ⟨g, cap, cur, h2, h3, (hb.block g (blk_lt h4)).trans h4, h5⟩
theorem bytes_apps (l m : List Nat) : bytes (l ++ m) = bytes l ++ bytes m := by unfold bytes; rw [List.map_append]
theorem WantAt.puts {w0 w w' : World} {v v' : Value} {l m : List Nat} (h : WantAt w0 w v l) (hm : ∀ x ∈ m, x < 256) (hown : w'.ownsRow 0 5 1 v' (l.length + m.length) (Go.Proofs.YtgmmfjmdpbhjnaaGreat.bytes l ++ Go.Proofs.YtgmmfjmdpbhjnaaGreat.bytes m)) (hg : w.grownBy w' v.ownBlock)
    (hw : ∀ k, v'.ownBlock = some k → v.ownBlock = some k ∨ w.heap.size ≤ k) : WantAt w0 w' v' (l ++ m) := by
  have hs := h.below.size
  refine ⟨by rw [List.length_append, bytes_apps]; exact hown, fun k hk => ?_, ⟨hg.os.trans h.below.os, hg.tape.trans h.below.tape, hg.output.trans h.below.output, ?_, fun b hb => ?_⟩, fun y hy => ?_⟩
  · rcases hw k hk with q | q
    · exact h.ge k q
    · omega
  · have := hg.size; omega
  · rw [hg.block b (by omega) (fun e => by have := h.ge b e.symm; omega)]
    exact h.below.block b hb
  · rcases List.mem_append.1 hy with hy | hy
    · exact h.lt y hy
    · exact hm y hy
/-- bytes in memory, as cells -/
theorem bytes_cells {w : World} {b o : Nat} {m : List Nat} (h : BytesIn w (some ⟨b, o, none⟩) m) : ∀ (j : Nat) (u : Value), (bytes m)[j]? = some u → w.cell? ((⟨b, o, none⟩ : Addr).add j) = some u := fun j u hj => by
  unfold bytes at hj
  rw [List.getElem?_map] at hj
  cases hm : m[j]? with
  | none => rw [hm] at hj; cases hj
  | some v =>
    rw [hm] at hj
    cases hj
    obtain ⟨_, b', o', e, _, hc⟩ := h j v hm
    cases e
    have ea : (⟨b, o, none⟩ : Addr).add j = ⟨b, o + j, none⟩ := by simp [Addr.add]
    rw [ea]
    exact hc
theorem bytes_one (m : List Nat) : ∀ u ∈ bytes m, u.oneCell' = true := fun u hu => by
  unfold bytes at hu
  obtain ⟨v, _, rfl⟩ := List.mem_map.1 hu
  rfl
theorem bytes_len (m : List Nat) : (bytes m).length = m.length := by unfold bytes; simp
end Go.Proofs.YtgmmfjmdpbhjnaaGreat
