/- contracts of the reader's methods: take, long, many -/
import Derived.Test.YtoifodabfpbjlaaReadA
import Derived.Deep.OwnRows
namespace Go.Proofs.Ytoifodabfpbjlaa
open Go.RowKit

/-- WHAT A READER HOLDS: the bytes that are left, and whether it was at its end. -/
structure Rd (w : World) (B : Nat) (rest : List UInt8) (short : Bool) (a : Option Addr) (cap : Nat) : Prop where
  slice : w.cell? ⟨B, 0, none⟩ = some (.slice a rest.length cap)
  flag : w.cell? ⟨B, 1, none⟩ = some (.bool short)
  fz0 : w.frozen? ⟨B, 0, none⟩ = false
  fz1 : w.frozen? ⟨B, 1, none⟩ = false
  cells : Cells w a rest.length (u8s rest)
  far : 0 < rest.length → ∀ b o s, a = some ⟨b, o, s⟩ → b < B
  le : rest.length ≤ cap
  nil : a = none → cap = 0
  plain : ∀ b o s, a = some ⟨b, o, s⟩ → s = none
  small : cap ≤ 9223372036854775807

theorem grownBy_refl (w : World) (row : Option Nat) : w.grownBy w row := ⟨rfl, rfl, rfl, Nat.le_refl _, fun _ _ _ => rfl⟩
theorem grownBy_trans {w w1 w2 : World} {row : Option Nat} (h : w.grownBy w1 row) (h' : w1.grownBy w2 row) : w.grownBy w2 row :=
  ⟨h'.os.trans h.os, h'.tape.trans h.tape, h'.output.trans h.output, Nat.le_trans h.size h'.size, fun k hk hn => (h'.block k (Nat.lt_of_lt_of_le hk h.size) hn).trans (h.block k hk hn)⟩
theorem grownBy_setCell {w w1 : World} {B o : Nat} (h : w.grownBy w1 (some B)) (v : Value) : w.grownBy (w1.setCell ⟨B, o, none⟩ v) (some B) :=
  grownBy_trans h ⟨rfl, rfl, rfl, by simp [World.setCell], fun k _ hn => Below.heap_setCell _ _ _ _ (fun e => hn (by rw [e]))⟩
theorem grownBy_alloc' {w w1 : World} {row : Option Nat} (h : w.grownBy w1 row) (o : Obj) : w.grownBy (w1.alloc o) row := grownBy_trans h (World.grownBy_alloc _ _ _)
theorem grownBy_drew {w w1 : World} {row : Option Nat} (h : w.grownBy w1 row) : w.grownBy w1.drew row := ⟨h.os, h.tape, h.output, h.size, h.block⟩

theorem Cells.kept {w w' : World} {row : Option Nat} {a : Option Addr} {n : Nat} {E : Nat → Value} (h : Cells w a n E) (hg : w.grownBy w' row)
    (ha : 0 < n → ∀ b o s, a = some ⟨b, o, s⟩ → some b ≠ row) : Cells w' a n E := by
  rcases h with h | ⟨b, off, rfl, h⟩
  · exact .inl h
  · exact .inr ⟨b, off, rfl, fun k hk => hg.cell (h k hk) (ha (by omega) b off none rfl)⟩

theorem Cells.take {w : World} {a : Option Addr} {bs : List UInt8} {n : Nat} (h : Cells w a bs.length (u8s bs)) (hn : n ≤ bs.length) : Cells w a n (u8s (bs.take n)) := by
  rcases h with h | ⟨b, off, rfl, h⟩
  · exact .inl (by omega)
  · refine .inr ⟨b, off, rfl, fun k hk => ?_⟩
    rw [h k (by omega)]
    unfold u8s
    simp [List.getD, hk]

theorem Cells.drop {w : World} {b off : Nat} {bs : List UInt8} {n : Nat} (h : Cells w (some ⟨b, off, none⟩) bs.length (u8s bs)) (hn : n ≤ bs.length) :
    Cells w (some ⟨b, off + n, none⟩) (bs.drop n).length (u8s (bs.drop n)) := by
  rcases h with h | ⟨b', off', he, h⟩
  · exact .inl (by simp; omega)
  · cases he
    refine .inr ⟨b, off + n, rfl, fun k hk => ?_⟩
    simp at hk
    rw [Nat.add_assoc, h (n + k) (by omega)]
    unfold u8s
    simp [List.getD]

def takeM (n : Nat) (rest : List UInt8) (short : Bool) : List UInt8 × List UInt8 × Bool :=
  if rest.length < n then (List.replicate n 0, [], true) else (rest.take n, rest.drop n, short)

def TakePost (B n : Nat) (rest : List UInt8) (short : Bool) (w : World) (e : Ending) (w' : World) : Prop :=
  ∃ a cap a' cap', e = .returned (.slice a n cap) ∧ Cells w' a n (u8s (takeM n rest short).1) ∧ Rd w' B (takeM n rest short).2.1 (takeM n rest short).2.2 a' cap' ∧ w.grownBy w' (some B)

theorem Try.info5' : (Try.prog.info? 5).map (fun i => (i.zero, i.size, i.bytes)) = some (some (.int .u8 0), 1, 1) := Try.info5

set_option maxHeartbeats 1000000 in
theorem take_short (B n : Nat) (rest : List UInt8) (short : Bool) (a : Option Addr) (cap : Nat) (w : World) (h : Rd w B rest short a cap) (hn : n ≤ 1000) (hlt : rest.length < n) :
    Calls Try.prog 24 #[.pointer (some ⟨B, 0, none⟩), .int .i64 n] w (TakePost B n rest short w) := by
  have hmk := run_make_row' (P := Try.prog) 22 5 (.int .u8 0) 1 Try.underlying22 Try.info5 rfl .i64 .i64 n (by omega) (by omega)
  obtain ⟨h1, h2, h3, h4, h5, h6, h7, h8, h9, h10⟩ := h
  have f1 : decide ((rest.length : Int) < n) = true := decide_eq_true (by omega)
  go_enter Try.func24, Try.ntmps24
  go_wp2_with fail
  go_ret
  have hB : B < w.heap.size := World.block_lt_of_cell? w ⟨B, 0, none⟩ h1
  have hg2 : w.grownBy ((w.setCell ⟨B, 1, none⟩ (.bool true)).setCell ⟨B, 0, none⟩ (.slice none 0 0)) (some B) := grownBy_setCell (grownBy_setCell (grownBy_refl _ _) _) _
  have hs2 : ((w.setCell ⟨B, 1, none⟩ (.bool true)).setCell ⟨B, 0, none⟩ (.slice none 0 0)).heap.size = w.heap.size := by simp [World.setCell]
  have ht : takeM n rest short = (List.replicate n 0, [], true) := by unfold takeM; rw [if_pos hlt]
  have hmade := World.rowIs_made ((w.setCell ⟨B, 1, none⟩ (.bool true)).setCell ⟨B, 0, none⟩ (.slice none 0 0)) (.int .u8 0) n 5
  rw [hs2] at hmade
  refine ⟨some ⟨w.heap.size, 0, none⟩, n, none, 0, rfl, ?_, ?_, grownBy_alloc' hg2 _⟩
  · rw [ht]
    refine .inr ⟨w.heap.size, 0, rfl, fun k hk => ?_⟩
    rw [Nat.zero_add, hmade.cell hk]
    simp [u8s, List.getD, hk]
  · rw [ht]
    refine ⟨?_, ?_, ?_, ?_, .inl rfl, fun h => absurd h (by simp), by simp, fun _ => rfl, fun _ _ _ h => (by cases h), by omega⟩
    · rw [World.cell?_alloc_past _ _ _ (by rw [hs2]; exact hB), World.cell?_setCell_same _ _ _ (show (w.setCell ⟨B, 1, none⟩ (.bool true)).cell? ⟨B, 0, none⟩ = some (.slice a rest.length cap) by rw [World.cell?_setCell_other _ _ _ _ (by simp)]; exact h1)]; rfl
    · rw [World.cell?_alloc_past _ _ _ (by rw [hs2]; exact hB), World.cell?_setCell_other _ _ _ _ (by simp), World.cell?_setCell_same _ _ _ h2]
    · rw [World.frozen?_alloc_past _ _ _ (by rw [hs2]; exact hB), World.frozen?_setCell, World.frozen?_setCell]; exact h3
    · rw [World.frozen?_alloc_past _ _ _ (by rw [hs2]; exact hB), World.frozen?_setCell, World.frozen?_setCell]; exact h4

theorem Rd.set {w : World} {B : Nat} {rest : List UInt8} {short : Bool} {a : Option Addr} {cap : Nat} (h : Rd w B rest short a cap) (rest' : List UInt8) (a' : Option Addr) (cap' : Nat)
    (hc : Cells w a' rest'.length (u8s rest')) (hf : 0 < rest'.length → ∀ b o s, a' = some ⟨b, o, s⟩ → b < B) (hl : rest'.length ≤ cap') (hn : a' = none → cap' = 0)
    (hp : ∀ b o s, a' = some ⟨b, o, s⟩ → s = none) (hs : cap' ≤ 9223372036854775807) :
    Rd (w.setCell ⟨B, 0, none⟩ (.slice a' rest'.length cap')) B rest' short a' cap' :=
  ⟨World.cell?_setCell_same _ _ _ h.slice, by rw [World.cell?_setCell_other _ _ _ _ (by simp)]; exact h.flag, by rw [World.frozen?_setCell]; exact h.fz0, by rw [World.frozen?_setCell]; exact h.fz1,
    hc.kept (row := some B) (grownBy_setCell (grownBy_refl _ _) _) (fun h0 b o s e => fun e2 => by have := hf h0 b o s e; cases e2; omega), hf, hl, hn, hp, hs⟩

set_option maxHeartbeats 1000000 in
theorem take_fits (B n : Nat) (rest : List UInt8) (short : Bool) (a : Option Addr) (cap : Nat) (w : World) (h : Rd w B rest short a cap) (hlt : n ≤ rest.length) :
    Calls Try.prog 24 #[.pointer (some ⟨B, 0, none⟩), .int .i64 n] w (TakePost B n rest short w) := by
  have ht : takeM n rest short = (rest.take n, rest.drop n, short) := by unfold takeM; rw [if_neg (by omega)]
  have Hfin : Hid (∀ (b off off' : Nat) (cap' cap2 : Nat), a = some ⟨b, off, none⟩ → (0 < rest.length - n → off' = off + n) → rest.length - n ≤ cap' → cap' ≤ cap → ∀ v1 v2, v1 = Value.slice a n cap2 → v2 = Value.slice (some ⟨b, off', none⟩) (rest.length - n) cap' → TakePost B n rest short w (.returned v1) (w.setCell ⟨B, 0, none⟩ v2)) := by
    intro b off off' cap' cap2 ha ho hc hc2 v1 v2 e1 e2
    subst ha e1 e2
    refine ⟨_, _, some ⟨b, off', none⟩, cap', rfl, ?_, ?_, grownBy_setCell (grownBy_refl _ _) _⟩
    · rw [ht]
      exact (h.cells.take hlt).kept (row := some B) (grownBy_setCell (grownBy_refl _ _) _) (fun h0 b o s e => fun e2 => by have := h.far (by omega) b o s e; cases e2; omega)
    · rw [ht]
      have hd : rest.length - n = (rest.drop n).length := by simp
      rw [hd]
      refine h.set (rest.drop n) _ _ ?_ (fun h0 b' o s e => ?_) (by rw [← hd]; exact hc) (fun e => by cases e) (fun b' o s e => (by cases e; rfl)) (Nat.le_trans hc2 h.small)
      · by_cases h0 : 0 < rest.length - n
        · rw [ho h0]
          exact h.cells.drop hlt
        · exact .inl (by rw [← hd]; omega)
      · cases e
        exact h.far (by rw [← hd] at h0; omega) b off none rfl
  have Hnil : Hid (rest = [] → n = 0 → a = none → TakePost B n rest short w (.returned (.slice none 0 0)) (w.setCell ⟨B, 0, none⟩ (.slice none 0 0))) := by
    intro e1 e2 e3
    subst e1 e2 e3
    exact ⟨none, 0, none, 0, rfl, .inl rfl, h.set [] none 0 (.inl rfl) (fun h0 => absurd h0 (by simp)) (by simp) (fun _ => rfl) (fun _ _ _ e => (by cases e)) (by omega), grownBy_setCell (grownBy_refl _ _) _⟩
  clear ht
  obtain ⟨h1, h2, h3, h4, h5, h6, h7, h8, h9, h10⟩ := h
  have f1 : decide ((rest.length : Int) < n) = false := decide_eq_false (by omega)
  cases a with
  | none =>
    have hc0 : cap = 0 := h8 rfl
    subst hc0
    have hr0 : rest = [] := List.eq_nil_of_length_eq_zero (by omega)
    subst hr0
    obtain rfl : n = 0 := by simpa using hlt
    go_enter Try.func24, Try.ntmps24
    go_wp2_with fail
    go_ret
    exact Hnil.out trivial trivial trivial
  | some ad =>
    obtain ⟨b, off, s⟩ := ad
    obtain rfl := h9 _ _ _ rfl
    by_cases hcn : n = cap
    · have Hcn := Lib.hid hcn
      have hle : cap ≤ rest.length := by omega
      subst hcn
      go_enter Try.func24, Try.ntmps24
      go_wp2_with fail
      go_ret
      exact Hfin.out b off off 0 n rfl (fun h => by omega) (by omega) (by omega) _ _ rfl (by rw [show rest.length - n = 0 by omega])
    · go_enter Try.func24, Try.ntmps24
      go_wp2_with fail
      go_ret
      exact Hfin.out b off (off + n) (cap - n) cap rfl (fun _ => rfl) (by omega) (by omega) _ _ rfl rfl

theorem take_any (B n : Nat) (rest : List UInt8) (short : Bool) (a : Option Addr) (cap : Nat) (w : World) (h : Rd w B rest short a cap) (hn : n ≤ 1000) :
    Calls Try.prog 24 #[.pointer (some ⟨B, 0, none⟩), .int .i64 n] w (TakePost B n rest short w) := by
  by_cases hlt : rest.length < n
  · exact take_short B n rest short a cap w h hn hlt
  · exact take_fits B n rest short a cap w h (by omega)

/-- a number of four bytes -/
def longM (rest : List UInt8) (short : Bool) : Nat × List UInt8 × Bool := (readM (takeM 4 rest short).1, (takeM 4 rest short).2)

def NumberPost (B : Nat) (x : Nat) (s : List UInt8 × Bool) (w : World) (e : Ending) (w' : World) : Prop :=
  e = .returned (.int .i64 x) ∧ (∃ a' cap', Rd w' B s.1 s.2 a' cap') ∧ w.grownBy w' (some B)

theorem takeM_length (n : Nat) (rest : List UInt8) (short : Bool) : (takeM n rest short).1.length = n := by
  unfold takeM
  split
  · simp
  · simp; omega

set_option maxHeartbeats 1000000 in
theorem long_any (B : Nat) (rest : List UInt8) (short : Bool) (a : Option Addr) (cap : Nat) (w : World) (h : Rd w B rest short a cap) :
    Calls Try.prog 25 #[.pointer (some ⟨B, 0, none⟩)] w (NumberPost B (longM rest short).1 (longM rest short).2 w) := by
  have Ht := Lib.hid (take_any B 4 rest short a cap w h (by omega))
  clear h
  unfold longM
  have hlen := Lib.hid (takeM_length 4 rest short)
  go_enter Try.func25, Try.ntmps25
  go_wp2_with fail
  refine Ht.out.mono ?_
  rintro e w1 ⟨a1, cap1, a2, cap2, rfl, hc, hr, hg⟩
  go_wp2_with fail
  refine (read_any a1 4 cap1 _ w1 hlen.out (by omega) hc).mono ?_
  rintro e w2 ⟨rfl, rfl⟩
  go_wp2_with fail
  go_ret
  exact ⟨rfl, ⟨_, _, hr⟩, hg⟩
end Go.Proofs.Ytoifodabfpbjlaa
