/-
  A program that is asked numbers, and traps.
-/
import Derived.Test.YtgmmfjmdpbhjnaaGreatJRd
namespace Go.Proofs.YtgmmfjmdpbhjnaaGreat
open Go Go.RowKit

/-- a program that is asked numbers traps, and has told nothing -/
def TrapsAsk (nm : ByteArray) (l : List Nat) (k : Nat) : Prop := ∀ (w : World) (a : Option Addr) (c : Nat), BytesIn w a (askL l) →
  Calls Tryz.prog 23 #[.string nm, .slice a (askL l).length c] w fun e w' => ∃ sa sc rd tk res, e = .returned (.tuple #[.agg #[.int .i64 2, .int .i64 (k : Nat), .slice sa 0 sc, .int .i64 rd, .int .i64 tk, .int .u64 ((res : Nat) : Int)], .bool true]) ∧ Below w.heap.size w w'
theorem trapsAsk_of {nn nl k : Nat} {rdy : Rdy} {l : List Nat} {nm : ByteArray} (hP : Played nn nl rdy) (hs : XM.unB nn nl = nm) (hlen : (askL l).length ≤ 65536) (he : ∃ n s, evF (askL l) rdy.bd n rdy.k [] ⟨0, [], 0, 0, rdy.gl⟩ = some (.trap k s) ∧ s.out = [] ∧ s.tk ≤ 200000) : TrapsAsk nm l k := fun w a c h1 => by
  subst hs
  obtain ⟨n, s, q1, q2, q3⟩ := he
  refine (play_ok hP q1 (h1.inp (Below.refl _ _) hlen) (c := c)).mono ?_
  rintro e w' ⟨u, rfl, hb, how, trap, rd, tk, res, sa, sn, sc, hu, ht⟩
  cases hu
  rcases ht with ⟨v', s', hq, _, _, _⟩ | ⟨ho, _⟩ | ⟨rfl, hh⟩
  · cases hq
  · exfalso
    have ho : 200000 < s.tk ∨ 65536 < s.out.length := ho
    rw [q2] at ho
    rcases ho with h | h
    · omega
    · exact absurd h (by decide)
  · obtain ⟨e1, e2⟩ : trap = (k : Int) ∧ sn = s.out.length := hh
    rw [q2] at e2
    subst e1
    obtain rfl : sn = 0 := e2
    exact ⟨sa, sc, rd, tk, res, rfl, hb⟩
end Go.Proofs.YtgmmfjmdpbhjnaaGreat
