/- contracts of the reader's methods: many, list -/
import Derived.Test.YtoifodabfpbjlaaTakeA
namespace Go.Proofs.Ytoifodabfpbjlaa
open Go.RowKit

/-- what a reader holds: bytes, and whether it was at its end -/
abbrev St := List UInt8 × Bool

def manyM (least : Nat) (rest : List UInt8) (short : Bool) : Nat × St :=
  if (longM rest short).2.1.length / least < (longM rest short).1 then (0, (longM rest short).2.1, true) else longM rest short

theorem readM_takeM (n : Nat) (rest : List UInt8) (short : Bool) (hn : n ≤ 4) : readM (takeM n rest short).1 < 4294967296 := by
  have h := readM_lt (takeM n rest short).1 (takeM n rest short).1.length (Nat.le_refl _)
  rw [List.take_length, takeM_length] at h
  have : 256 ^ n ≤ 256 ^ 4 := Nat.pow_le_pow_right (by omega) hn
  omega

theorem rd_flag {w : World} {B : Nat} {rest : List UInt8} {short : Bool} {a : Option Addr} {cap : Nat} (h : Rd w B rest short a cap) (b : Bool) :
    Rd (w.setCell ⟨B, 1, none⟩ (.bool b)) B rest b a cap :=
  ⟨by rw [World.cell?_setCell_other _ _ _ _ (by simp)]; exact h.slice, World.cell?_setCell_same _ _ _ h.flag, by rw [World.frozen?_setCell]; exact h.fz0, by rw [World.frozen?_setCell]; exact h.fz1,
    h.cells.kept (row := some B) (grownBy_setCell (grownBy_refl _ _) _) (fun h0 b o s e => fun e2 => by have := h.far h0 b o s e; cases e2; omega), h.far, h.le, h.nil, h.plain, h.small⟩

set_option maxHeartbeats 1000000 in
theorem many_any (B least : Nat) (hl0 : 1 ≤ least) (hl1 : least ≤ 100) (rest : List UInt8) (short : Bool) (a : Option Addr) (cap : Nat) (w : World) (h : Rd w B rest short a cap) :
    Calls Try.prog 23 #[.pointer (some ⟨B, 0, none⟩), .int .i64 least] w (NumberPost B (manyM least rest short).1 (manyM least rest short).2 w) := by
  have Hl := Lib.hid (long_any B rest short a cap w h)
  clear h
  have hx := readM_takeM 4 rest short (by omega)
  have hx' : (longM rest short).1 < 4294967296 := hx
  unfold manyM
  generalize longM rest short = q at *
  obtain ⟨x, rest1, short1⟩ := q
  simp only at hx' ⊢
  clear hx
  have hq : rest1.length / least ≤ rest1.length := Nat.div_le_self _ _
  by_cases hc : rest1.length / least < x
  · rw [if_pos hc]
    have f1 : rest1.length ≤ 9223372036854775807 → decide (wrap64 ((rest1.length : Int) / (least : Int)) < (x : Int)) = true := fun hb => decide_eq_true (by
      rw [show (rest1.length : Int) / (least : Int) = ((rest1.length / least : Nat) : Int) from rfl]
      generalize rest1.length / least = q at *
      rw [IntWalk.wrap64_in _ (by omega)]
      omega)
    go_enter Try.func23, Try.ntmps23
    go_wp2_with fail
    refine Hl.out.mono ?_
    rintro e w1 ⟨rfl, ⟨a1, cap1, hr⟩, hg⟩
    have f2 := f1 (Nat.le_trans hr.le hr.small)
    have Hr := Lib.hid (rd_flag hr true)
    obtain ⟨h1, h2, h3, h4, h5, h6, h7, h8, h9, h10⟩ := hr
    clear f1 hq hc h5 h6 h8 h9
    go_wp2_with fail
    go_ret
    exact ⟨rfl, ⟨_, _, Hr.out⟩, grownBy_setCell hg _⟩
  · rw [if_neg hc]
    have f1 : rest1.length ≤ 9223372036854775807 → decide (wrap64 ((rest1.length : Int) / (least : Int)) < (x : Int)) = false := fun hb => decide_eq_false (by
      rw [show (rest1.length : Int) / (least : Int) = ((rest1.length / least : Nat) : Int) from rfl]
      generalize rest1.length / least = q at *
      rw [IntWalk.wrap64_in _ (by omega)]
      omega)
    go_enter Try.func23, Try.ntmps23
    go_wp2_with fail
    refine Hl.out.mono ?_
    rintro e w1 ⟨rfl, ⟨a1, cap1, hr⟩, hg⟩
    have f2 := f1 (Nat.le_trans hr.le hr.small)
    have Hr := Lib.hid hr
    obtain ⟨h1, h2, h3, h4, h5, h6, h7, h8, h9, h10⟩ := hr
    clear f1 hq hc h5 h6 h8 h9
    go_wp2_with fail
    go_ret
    exact ⟨rfl, ⟨_, _, Hr.out⟩, hg⟩

/-- numbers of two bytes -/
def itemsTo (st : St) : Nat → List Nat × St
  | 0 => ([], st)
  | k + 1 => ((itemsTo st k).1 ++ [readM (takeM 2 (itemsTo st k).2.1 (itemsTo st k).2.2).1], (takeM 2 (itemsTo st k).2.1 (itemsTo st k).2.2).2)

def listM (rest : List UInt8) (short : Bool) : List Nat × St := itemsTo (manyM 2 rest short).2 (manyM 2 rest short).1

theorem itemsTo_length (st : St) (k : Nat) : (itemsTo st k).1.length = k := by
  induction k with
  | zero => rfl
  | succ k ih => simp [itemsTo, ih]

theorem Try.info3 : (Try.prog.info? 3).map (fun i => (i.zero, i.size, i.bytes)) = some (some (.int .i64 0), 1, 8) := by kernel_rfl

def i64v (n : Nat) : Value := .int .i64 (n : Int)
def OwnsInts (base : Nat) (w : World) (v : Value) (l : List Nat) : Prop := w.ownsRow base 3 1 v l.length (l.map i64v)

theorem grownBy_own {w w1 w2 : World} {B : Nat} {row : Option Nat} (h : w.grownBy w1 (some B)) (h' : w1.grownBy w2 row) (hr : ∀ k, row = some k → w.heap.size ≤ k) : w.grownBy w2 (some B) :=
  ⟨h'.os.trans h.os, h'.tape.trans h.tape, h'.output.trans h.output, Nat.le_trans h.size h'.size, fun k hk hn => (h'.block k (Nat.lt_of_lt_of_le hk h.size) (fun e => by have := hr k e.symm; omega)).trans (h.block k hk hn)⟩

theorem Rd.kept {w w' : World} {B : Nat} {rest : List UInt8} {short : Bool} {a : Option Addr} {cap : Nat} {row : Option Nat} (h : Rd w B rest short a cap) (hg : w.grownBy w' row)
    (hr : ∀ k, row = some k → B < k) : Rd w' B rest short a cap := by
  have hlt : B < w.heap.size := World.block_lt_of_cell? w ⟨B, 0, none⟩ h.slice
  have hB : some B ≠ row := fun e => by have := hr B e.symm; omega
  have hfz : ∀ o, w'.frozen? ⟨B, o, none⟩ = w.frozen? ⟨B, o, none⟩ := fun o => World.frozen?_of_block (w := w) (hg.block B hlt hB)
  exact ⟨hg.cell h.slice hB, hg.cell h.flag hB, by rw [hfz]; exact h.fz0, by rw [hfz]; exact h.fz1, h.cells.kept hg (fun h0 b o s e e2 => by have h1 := h.far h0 b o s e; have h2 := hr b e2.symm; omega), h.far, h.le, h.nil, h.plain, h.small⟩

theorem Rd.lt {w : World} {B : Nat} {rest : List UInt8} {short : Bool} {a : Option Addr} {cap : Nat} (h : Rd w B rest short a cap) : B < w.heap.size :=
  World.block_lt_of_cell? w ⟨B, 0, none⟩ h.slice

def RdSt (w : World) (B : Nat) (st : St) : Prop := ∃ a cap, Rd w B st.1 st.2 a cap

def ListPost (base B : Nat) (l : List Nat) (st : St) (w : World) (e : Ending) (w' : World) : Prop :=
  ∃ v, e = .returned v ∧ OwnsInts base w' v l ∧ RdSt w' B st ∧ w.grownBy w' (some B)

theorem own_int_snoc {base : Nat} {w : World} {v : Value} {l : List Nat} {x : Nat} (h : w.ownsRow base 3 1 v (l.length + 1) (l.map i64v ++ [.int .i64 (x : Int)])) : OwnsInts base w v (l ++ [x]) := by
  unfold OwnsInts
  simpa [i64v] using h

set_option maxHeartbeats 1000000 in
theorem rlist_any (B : Nat) (rest : List UInt8) (short : Bool) (a : Option Addr) (cap : Nat) (w : World) (h : Rd w B rest short a cap) :
    Calls Try.prog 22 #[.pointer (some ⟨B, 0, none⟩)] w (ListPost w.heap.size B (listM rest short).1 (listM rest short).2 w) := by
  have Hm := Lib.hid (many_any B 2 (by omega) (by omega) rest short a cap w h)
  have hB := h.lt
  have hn : (manyM 2 rest short).1 < 4294967296 := by
    unfold manyM
    split
    · simp
    · exact readM_takeM 4 rest short (by omega)
  clear h
  unfold listM
  generalize manyM 2 rest short = q at *
  obtain ⟨n, st⟩ := q
  simp only at hn ⊢
  obtain ⟨i0, hi, hz0, hz1, hz2⟩ := info_parts Try.info3
  go_enter Try.func22, Try.ntmps22
  go_wp2_with fail
  refine Hm.out.mono ?_
  rintro e w1 ⟨rfl, hr1, hg1⟩
  go_wp2_with fail
  go_loopw [3, 6] (fun v i wr => ∃ k : Nat, k ≤ n ∧ i = .int .i64 k ∧ OwnsInts w.heap.size wr v (itemsTo st k).1 ∧ RdSt wr B (itemsTo st k).2 ∧ w.grownBy wr (some B)) (fun _ i _ => n - (intOf i).toNat)
  case atStart => exact ⟨0, by omega, rfl, World.ownsRow_nil _ _ _ _, hr1, hg1⟩
  case round =>
    obtain ⟨k, hk, rfl, hr2, ⟨a2, cap2, hr3⟩, hg2⟩ := hrel
    by_cases hlt : k < n
    · have Ht := Lib.hid (take_any B 2 _ _ a2 cap2 wr hr3 (by omega))
      have hs1 := Lib.hid (show (itemsTo st (k + 1)).1 = (itemsTo st k).1 ++ [readM (takeM 2 (itemsTo st k).2.1 (itemsTo st k).2.2).1] from rfl)
      have hs2 := Lib.hid (show (itemsTo st (k + 1)).2 = (takeM 2 (itemsTo st k).2.1 (itemsTo st k).2.2).2 from rfl)
      have hlen := itemsTo_length st k
      have htl := Lib.hid (takeM_length 2 (itemsTo st k).2.1 (itemsTo st k).2.2)
      clear hr3
      generalize (itemsTo st k).1 = l at *
      generalize (itemsTo st k).2 = s1 at *
      obtain ⟨rest1, short1⟩ := s1
      simp only at hs1 hs2 Ht htl
      have Hlen := Lib.hid hlen
      clear hlen
      have hsz2 := hg2.size
      go_wp2_with fail
      refine Ht.out.mono ?_
      rintro e w3 ⟨a3, cap3, a4, cap4, rfl, hc3, hr4, hg3⟩
      have hg4 := grownBy_trans hg2 hg3
      have hr5 : OwnsInts w.heap.size w3 _ l := World.ownsRow.kept hr2 hg3 (by
        cases hv : Value.ownBlock _ with
        | none => exact .inl rfl
        | some b => right; intro e; cases e; have := (World.ownsRow.lt hr2 _ hv).1; omega)
      clear hr2 hg3 hg2
      have hsz4 := hg4.size
      go_wp2_with fail
      refine (read_any a3 2 cap3 _ w3 htl.out (by omega) hc3).mono ?_
      rintro e w5 ⟨rfl, rfl⟩
      generalize readM (takeM 2 rest1 short1).1 = x at *
      go_wp2_with (at_builtin; refine wpList_append_own _ rfl (.tmp 8) (.tmp 12) 26 rfl w.heap.size 3 i0 (.int .i64 0) 1 8 Try.underlying26 hi hz0 hz1 hz2 rfl (by decide) _ _ _ rfl (World.ownsRow.alloc hr5 _) ⟨w3.heap.size, 0, none⟩ 1 1 [.int .i64 x] rfl rfl ?c1 ?c2 ?c3 ?c4 ?c5 ?_)
      case c1 => exact cell_one_new _ _ _
      case c2 => intro u hu; simp at hu; subst hu; rfl
      case c3 => unfold maxLen; rw [Hlen.out]; omega
      case c4 => rw [Hlen.out]; omega
      case c5 => simp; omega
      intro v6 w6 hown6 hgr6 _
      have hown7 := own_int_snoc hown6
      have hlo := fun k h => (World.ownsRow.lt hr5 k h).1
      have hr7 := (hr4.kept (World.grownBy_alloc w3 (.cells #[.int .i64 x] 3) none) (fun k h => by cases h)).kept hgr6 (fun k h => by have := hlo k h; omega)
      have hg7 := grownBy_own (grownBy_alloc' hg4 (.cells #[.int .i64 x] 3)) hgr6 hlo
      rw [← hs1.out] at hown7
      rw [← hs2.out] at hr7
      clear hown6 hgr6 hr5 hr4 hg4
      go_wp2_with fail
      go_roundw
      case rel => exact ⟨k + 1, by omega, by go_num, hown7, ⟨_, _, hr7⟩, hg7⟩
      case measure => simp [intOf]; omega
    · obtain rfl : k = n := by omega
      go_wp2_with fail
      go_ret
      exact ⟨_, rfl, hr2, ⟨_, _, hr3⟩, hg2⟩
end Go.Proofs.Ytoifodabfpbjlaa
