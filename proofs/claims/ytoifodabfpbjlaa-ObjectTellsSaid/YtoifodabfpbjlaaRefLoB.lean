/- contract of the document's Load, the file's sum being right -/
import Derived.Test.YtoifodabfpbjlaaRefLoA
namespace Go.Proofs.Ytoifodabfpbjlaa
open Go.RowKit

/-- WHAT HOLDS WHILE THE DOCUMENT'S LOAD READS. -/
structure HB (w wr : World) (N5 : Nat) (v1 v2 vs : Value) (ws us : List Nat) (sp : List (ByteArray × Int)) : Prop where
  below : Below w.heap.size w wr
  res : wr.heap[w.heap.size]? = some resBox
  own1 : OwnsInts (N5 + 1) wr v1 ws
  own2 : OwnsInts (N5 + 1) wr v2 us
  own3 : wr.ownsRow (N5 + 1) 45 2 vs sp.length (spCells sp)
  apart : ∀ k, v1.ownBlock = some k → v2.ownBlock ≠ some k
  img : wr.heap[N5]? = some (.cells #[v1, v2, vs] 29 (0, 0))
  hN : w.heap.size < N5

theorem own_kind {w : World} {base : Nat} {e : TypeId} {size : Nat} {v : Value} {n : Nat} {xs : List Value} (h : w.ownsRow base e size v n xs) {k : Nat} (hk : v.ownBlock = some k) : ∃ c, w.heap[k]? = some (.cells c e (0, 0)) := by
  rcases h.2 with ⟨rfl, _⟩ | ⟨g', cap, cur, rfl, _, hgg, _⟩
  · simp [Value.ownBlock] at hk
  · simp [Value.ownBlock] at hk
    subst hk
    exact ⟨cur, hgg⟩

theorem HB.grown {w wr w' : World} {N5 : Nat} {v1 v2 vs : Value} {ws us : List Nat} {sp : List (ByteArray × Int)} (h : HB w wr N5 v1 v2 vs ws us sp) {row : Option Nat} (hg : wr.grownBy w' row)
    (hr : ∀ k, row = some k → N5 < k ∧ v1.ownBlock ≠ some k ∧ v2.ownBlock ≠ some k ∧ vs.ownBlock ≠ some k) : HB w w' N5 v1 v2 vs ws us sp := by
  have hN := h.hN
  have hb := blk_lt h.img
  exact ⟨h.below.grown hg (by omega) (fun k e => by have := (hr k e).1; omega), blk_grown h.res hg (fun e => by have := (hr _ e.symm).1; omega), own_kept h.own1 hg (fun k hk e => (hr k e.symm).2.1 hk), own_kept h.own2 hg (fun k hk e => (hr k e.symm).2.2.1 hk),
    own_kept h.own3 hg (fun k hk e => (hr k e.symm).2.2.2 hk), h.apart, blk_grown h.img hg (fun e => by have := (hr _ e.symm).1; omega), hN⟩

theorem HB.none {w wr w' : World} {N5 : Nat} {v1 v2 vs : Value} {ws us : List Nat} {sp : List (ByteArray × Int)} (h : HB w wr N5 v1 v2 vs ws us sp) (hg : wr.grownBy w' none) : HB w w' N5 v1 v2 vs ws us sp :=
  h.grown hg (fun k e => by cases e)

/-- a list that was read is stored into a field -/
theorem HB.store {w wr : World} {N5 lo : Nat} {v1 v2 vs v : Value} {ws us l : List Nat} {sp : List (ByteArray × Int)} (h : HB w wr N5 v1 v2 vs ws us sp) (hv : OwnsInts lo wr v l) (hlo : N5 < lo)
    (h1 : ∀ k, v1.ownBlock = some k → k < lo) (h2 : ∀ k, v2.ownBlock = some k → k < lo) :
    HB w (wr.setCell ⟨N5, 0, Option.none⟩ v) N5 v v2 vs l us sp ∧ HB w (wr.setCell ⟨N5, 1, Option.none⟩ v) N5 v1 v vs ws l sp := by
  have hN := h.hN
  have hg : ∀ i, wr.grownBy (wr.setCell ⟨N5, i, Option.none⟩ v) (some N5) := fun i => grownBy_setCell (grownBy_refl _ _) _
  have lv := fun k hk => (World.ownsRow.lt hv k hk).1
  have o1 := fun k hk => (World.ownsRow.lt h.own1 k hk).1
  have o2 := fun k hk => (World.ownsRow.lt h.own2 k hk).1
  have o3 := fun k hk => (World.ownsRow.lt h.own3 k hk).1
  have hvN := ownsRow_base hv (show N5 + 1 ≤ lo by omega)
  refine ⟨⟨h.below.grown (hg 0) (by have := blk_lt h.img; omega) (fun k e => by cases e; omega), blk_grown h.res (hg 0) (fun e => by cases e; omega), own_kept hvN (hg 0) (fun k hk e => by cases e; have := lv _ hk; omega),
    own_kept h.own2 (hg 0) (fun k hk e => by cases e; have := o2 _ hk; omega), own_kept h.own3 (hg 0) (fun k hk e => by cases e; have := o3 _ hk; omega), fun k hk e => by have := lv k hk; have := h2 k e; omega, blk_set h.img 0 v, hN⟩,
    ⟨h.below.grown (hg 1) (by have := blk_lt h.img; omega) (fun k e => by cases e; omega), blk_grown h.res (hg 1) (fun e => by cases e; omega), own_kept h.own1 (hg 1) (fun k hk e => by cases e; have := o1 _ hk; omega), own_kept hvN (hg 1) (fun k hk e => by cases e; have := lv _ hk; omega),
    own_kept h.own3 (hg 1) (fun k hk e => by cases e; have := o3 _ hk; omega), fun k hk e => by have := lv k e; have := h1 k hk; omega, blk_set h.img 1 v, hN⟩⟩

section
variable {P : Program} {ops : Array Oper} {Q : Exit → Act → World → Prop} {md : Region.Mode} {S : World → Prop}
/-- Two operations may come up next. -/
theorem wpAnyH_two {i k : Nat} {o p : Oper} {fuel : Nat} {listed : Array Bool} {a : Act} {w : World} (hr : Region.ready md ops listed = [i, k]) (ho : ops[i]? = some o) (hp : ops[k]? = some p) (hg : o.guard = none) (hg2 : p.guard = none)
    (h1 : ∀ K : Act → World → Prop, (∀ a' w', S w' → (S w' → wpAnyH P md ops Q S fuel (listed.setIfInBounds i true) a' w') → K a' w') → o.wp P a w K Q)
    (h2 : ∀ K : Act → World → Prop, (∀ a' w', S w' → (S w' → wpAnyH P md ops Q S fuel (listed.setIfInBounds k true) a' w') → K a' w') → p.wp P a w K Q) :
    wpAnyH P md ops Q S (fuel + 1) listed a w := by
  refine wpAnyH_all hr (by simp) fun j hj => ?_
  unfold Go.wpOp
  rcases List.mem_cons.1 hj with rfl | hj
  · simp only [ho]
    rw [if_pos (by simp [Region.wanted, hg])]
    exact .inl (h1 _ fun a' w' hS hW => ⟨hS, hW hS⟩)
  · obtain rfl : j = k := by simpa using hj
    simp only [hp]
    rw [if_pos (by simp [Region.wanted, hg2])]
    exact .inl (h2 _ fun a' w' hS hW => ⟨hS, hW hS⟩)
end

theorem readM_one (C : List UInt8) (q : Nat) (h : q < C.length) : readM ((C.drop q).take 1) = (C.getD q 0).toNat := by
  have e : (C.drop q).take 1 = [C.getD q 0] := by
    rw [List.drop_eq_getElem_cons h, List.take_succ_cons, List.take_zero, List.getD_eq_getElem?_getD, List.getElem?_eq_getElem h]
    rfl
  rw [e]
  simp [readM, readFrom]

/-- a spot is appended -/
theorem HB.append {w wr w' : World} {N5 : Nat} {v1 v2 vs vs' : Value} {ws us : List Nat} {sp : List (ByteArray × Int)} {s : ByteArray × Int} (h : HB w wr N5 v1 v2 vs ws us sp)
    (hg : wr.grownBy w' vs.ownBlock) (ho : w'.ownsRow (N5 + 1) 45 2 vs' (sp.length + 1) (spCells sp ++ [.string s.1, .int .i64 s.2])) :
    HB w (w'.setCell ⟨N5, 2, Option.none⟩ vs') N5 v1 v2 vs' ws us (sp ++ [s]) := by
  have hN := h.hN
  have h3 := fun k hk => (World.ownsRow.lt h.own3 k hk).1
  have o1 := fun k hk => (World.ownsRow.lt h.own1 k hk).1
  have o2 := fun k hk => (World.ownsRow.lt h.own2 k hk).1
  have hs : w'.grownBy (w'.setCell ⟨N5, 2, Option.none⟩ vs') (some N5) := grownBy_setCell (grownBy_refl _ _) _
  have hb := blk_lt h.img
  have ne1 : ∀ k, v1.ownBlock = some k → some k ≠ vs.ownBlock := fun k hk e => by
    obtain ⟨c, hc⟩ := own_kind h.own1 hk
    obtain ⟨c', hc'⟩ := own_kind h.own3 e.symm
    rw [hc] at hc'; cases hc'
  have ne2 : ∀ k, v2.ownBlock = some k → some k ≠ vs.ownBlock := fun k hk e => by
    obtain ⟨c, hc⟩ := own_kind h.own2 hk
    obtain ⟨c', hc'⟩ := own_kind h.own3 e.symm
    rw [hc] at hc'; cases hc'
  have ho' := own_kept ho hs (fun k hk e => by cases e; have := (World.ownsRow.lt ho _ hk).1; omega)
  refine ⟨(h.below.grown hg (by omega) (fun k e => by have := h3 k e; omega)).grown hs (by have := hg.size; omega) (fun k e => by cases e; omega), blk_grown (blk_grown h.res hg (fun e => by have := h3 _ e.symm; omega)) hs (fun e => by cases e; omega),
    own_kept (own_kept h.own1 hg ne1) hs (fun k hk e => by cases e; have := o1 _ hk; omega), own_kept (own_kept h.own2 hg ne2) hs (fun k hk e => by cases e; have := o2 _ hk; omega), ?_, h.apart,
    blk_set (blk_grown h.img hg (fun e => by have := h3 _ e.symm; omega)) 2 vs', hN⟩
  unfold spCells at ho' ⊢
  rw [List.flatMap_append, List.length_append]
  exact ho'

theorem own_none {w : World} {base : Nat} {e : TypeId} {size : Nat} {a : Option Addr} {m c n : Nat} {xs : List Value} (h : w.ownsRow base e size (.slice a m c) n xs) : a = none → m = 0 ∧ c = 0 := by
  rintro rfl
  rcases h.2 with ⟨h1, _⟩ | ⟨g', cap, cur, h1, _⟩
  · cases h1; exact ⟨rfl, rfl⟩
  · cases h1

set_option maxHeartbeats 4000000 in
set_option maxRecDepth 100000 in
theorem refload_main (b off : Nat) (len cap : Nat) (bs : List UInt8) (w : World) (hlen : bs.length = len) (hl : len ≤ 400000) (hl6 : 6 ≤ len) (hcap : len ≤ cap) (hcap2 : cap ≤ 9223372036854775807) (hc : Cells w (some ⟨b, off, none⟩) len (u8s bs))
    (hmag : bs.take 4 = magic) (hsum : Crc.crc (bs.take (bs.length - 2)) = readM (bs.drop (bs.length - 2))) :
    Calls Try.prog 14 #[.slice (some ⟨b, off, none⟩) len cap] w (LoadPost (loadM bs) w) := by
  have hr := load_good (by omega) (by omega) hmag hsum
  rw [hlen] at hr hsum
  have Hr := Lib.hid hr
  clear hr
  have hc1 : Cells (w.alloc (.cells #[.slice none 0 0, .slice none 0 0, .slice none 0 0] 29)) (some ⟨b, off, none⟩) bs.length (u8s bs) :=
    (Cells.grow hc ((Below.refl _ _).alloc (Nat.le_refl _) _)) |> fun h => by rw [hlen]; exact h
  have hcv := conv_str (cap := cap) (hc1.take (n := 4) (by omega)) (by simp; omega)
  rw [hmag] at hcv
  have f1 : decide ((400000 : Int) < len) = false := decide_eq_false (by omega)
  have f2 : decide ((len : Int) < 6) = false := decide_eq_false (by omega)
  have f3 : (magic == [80, 76, 49, 54]) = true := rfl
  have Hlen := Lib.hid hlen
  clear hlen
  have Q1 := Lib.hid (fun (_ : Unit) => refcrc_any (some ⟨b, off, none⟩) (len - 2) cap (bs.take (len - 2)) (w.alloc (.cells #[.slice none 0 0, .slice none 0 0, .slice none 0 0] 29)).drew (by simp [Hlen.out]) (by omega) (hc1.take (n := len - 2) (by rw [Hlen.out]; omega)))
  have Q2 := Lib.hid (fun (_ : Unit) => refnumber_in (some ⟨b, off, none⟩) len cap (len - 2) 2 bs (w.alloc (.cells #[.slice none 0 0, .slice none 0 0, .slice none 0 0] 29)).drew Hlen.out (by omega) hcap (by omega) (by omega) (by omega) (by have h := hc1; rw [Hlen.out] at h; exact h))
  have ed : (bs.drop (len - 2)).take 2 = bs.drop (len - 2) := List.take_of_length_le (by simp [Hlen.out]; omega)
  rw [ed] at Q2
  rw [hsum] at Q1
  clear hsum ed hmag
  generalize readM (bs.drop (len - 2)) = y at *
  have ec : ((len - 2 : Nat) : Int) = (len : Int) - 2 := by omega
  rw [ec] at Q2
  have hw1 : IntKind.i64.wrap ((len : Int) - 2) = (len : Int) - 2 := IntWalk.i64_in _ (by omega)
  have hw2 : (2 : Int) ≤ (len : Int) := by omega
  have hw3 : (len : Int) - 2 ≤ (cap : Int) := by omega
  have hw4 : ((len : Int) - 2).toNat = len - 2 := by omega
  clear ec
  go_enter Try.func14, Try.ntmps14
  go_wp2_with fail
  have hs0 : (w.alloc (.cells #[.slice none 0 0, .slice none 0 0, .slice none 0 0] 29)).heap.size = w.heap.size + 1 := by simp
  have hbl0 : Below w.heap.size w (w.alloc (.cells #[.slice none 0 0, .slice none 0 0, .slice none 0 0] 29)) := (Below.refl _ _).alloc (Nat.le_refl _) _
  have hres0 := blk_new w (.cells #[.slice none 0 0, .slice none 0 0, .slice none 0 0] 29)
  generalize w.alloc (.cells #[.slice none 0 0, .slice none 0 0, .slice none 0 0] 29) = w0 at *
  refine wp_region_held_drew (S := fun _ => True) Try.checked.mixed trivial (fun hS => ?_)
  refine wpAnyH_read (i := 0) (v := ?v0) rfl (by kernel_rfl) (by kernel_rfl) (by kernel_rfl) ?q0 rfl ?y0 hS ?_
  case y0 => intro w' _; go_simp; exact rfl
  case q0 => exact fun _ _ _ h => h
  go_simp
  refine wpAnyH_read (i := 1) (v := ?v1) rfl (by kernel_rfl) (by kernel_rfl) (by kernel_rfl) ?q1 rfl ?y1 hS ?_
  case y1 => intro w' _; go_simp; exact rfl
  case q1 => exact fun _ _ _ h => h
  go_simp
  refine wpAnyH_read (i := 2) (v := ?v2) rfl (by kernel_rfl) (by kernel_rfl) (by kernel_rfl) ?q2 rfl ?y2 hS ?_
  case y2 => intro w' _; go_simp; exact rfl
  case q2 => exact fun _ _ _ h => h
  go_simp
  refine wpAnyH_read (i := 3) (v := ?v3) rfl (by kernel_rfl) (by kernel_rfl) (by kernel_rfl) ?q3 rfl ?y3 hS ?_
  case y3 => intro w' _; go_simp; exact rfl
  case q3 => exact fun _ _ _ h => h
  go_simp
  refine wpAnyH_read (i := 5) (v := ?v5) rfl (by kernel_rfl) (by kernel_rfl) (by kernel_rfl) ?q5 rfl ?y5 hS ?_
  case y5 => intro w' _; go_simp; exact rfl
  case q5 => exact fun _ _ _ h => h
  go_simp
  refine wpAnyH_read (i := 6) (v := ?v6) rfl (by kernel_rfl) (by kernel_rfl) (by kernel_rfl) ?q6 rfl ?y6 hS ?_
  case y6 => intro w' _; go_simp; exact rfl
  case q6 => exact fun _ _ _ h => h
  go_simp
  refine wpAnyH_read (i := 7) (v := ?v7) rfl (by kernel_rfl) (by kernel_rfl) (by kernel_rfl) ?q7 rfl ?y7 hS ?_
  case y7 => intro w' _; go_simp; exact rfl
  case q7 => exact fun _ _ _ h => h
  go_simp
  refine wpAnyH_read (i := 8) (v := ?v8) rfl (by kernel_rfl) (by kernel_rfl) (by kernel_rfl) ?q8 rfl ?y8 hS ?_
  case y8 => intro w' _; go_simp; exact rfl
  case q8 => exact fun _ _ _ h => h
  go_simp
  refine wpAnyH_read (i := 9) (v := ?v9) rfl (by kernel_rfl) (by kernel_rfl) (by kernel_rfl) ?q9 rfl ?y9 hS ?_
  case y9 => intro w' _; go_simp; exact rfl
  case q9 => exact fun _ _ _ h => h
  go_simp
  refine wpAnyH_one (i := 4) (by kernel_rfl) rfl rfl (fun K hK => ?_)
  go_wp2_with fail
  refine (Q2.out ()).mono ?_
  rintro e w1 ⟨rfl, rfl⟩
  refine hK _ _ trivial (fun _ => ?_)
  clear hK
  go_simp
  refine wpAnyH_one (i := 10) (by kernel_rfl) rfl rfl (fun K hK => ?_)
  go_wp2_with fail
  refine (Q1.out ()).mono ?_
  rintro e w1 ⟨rfl, hb1⟩
  refine hK _ _ trivial (fun _ => ?_)
  clear hK
  go_simp
  refine wpAnyH_read (i := 11) (v := ?v11) rfl (by kernel_rfl) (by kernel_rfl) (by kernel_rfl) ?q11 rfl ?y11 hS ?_
  case y11 => intro w' _; go_simp; exact rfl
  case q11 => exact fun _ _ _ h => h
  go_simp
  refine wpAnyH_done (by kernel_rfl) ?_ _
  have hres1 := blk_grown (w := w0.drew) hres0 (Below.grownNone hb1) (by simp)
  have hbl1 : Below w.heap.size w w1 := hbl0.drew.trans (hb1.mono (by show _ ≤ w0.heap.size; omega))
  clear hb1 hres0 hbl0
  have f7 : ((y : Int) != (y : Int)) = false := by simp
  have hcC : ∀ w', Below w.heap.size w w' → Cells w' (some ⟨b, off, none⟩) (len - 2) (u8s (bs.take (len - 2))) := fun w' h => by
    have h1 := Cells.grow hc h
    rw [← Hlen.out] at h1
    have h2 := h1.take (n := len - 2) (by rw [Hlen.out]; omega)
    exact h2
  have HcC := Lib.hid hcC
  have Hcl : Hid ((bs.take (len - 2)).length = len - 2) := by show _ = _; simp [Hlen.out]
  have hcap1 : len - 2 ≤ cap := by omega
  have hlen2 : (len - 2 : Nat) ≤ 399998 := by omega
  have hlen4 : 4 ≤ len - 2 := by omega
  clear hcC hc hc1 hcv Q1 Q2 Hlen f1 f2 f3
  generalize bs.take (len - 2) = C at *
  have hh0 : HB w (w1.alloc (.cells #[.slice none 0 0, .slice none 0 0, .slice none 0 0] 29)) w1.heap.size (.slice none 0 0) (.slice none 0 0) (.slice none 0 0) [] [] [] :=
    ⟨hbl1.alloc (by have := blk_lt hres1; omega) _, blk_alloc hres1 _, World.ownsRow_nil _ _ _ _, World.ownsRow_nil _ _ _ _, World.ownsRow_nil _ _ _ _, fun k e => by simp [Value.ownBlock] at e, blk_new _ _, blk_lt hres1⟩
  have hd0 : Heads C 0 [] [] 4 := ⟨Nat.le_refl _, by rw [Hcl.out]; omega, .inl ⟨rfl, rfl, rfl, rfl⟩⟩
  have hN5 : w1.heap.size < (w1.alloc (.cells #[.slice none 0 0, .slice none 0 0, .slice none 0 0] 29)).heap.size := by simp
  clear hres1 hbl1 hs0
  go_wp2_with fail
  generalize w1.alloc (.cells #[.slice none 0 0, .slice none 0 0, .slice none 0 0] 29) = w2 at *
  generalize w1.heap.size = N5 at *
  clear hw1 hw2 hw3 hw4 hl hl6 hcap
  generalize len - 2 = N at *
  have Hbad : Hid (∀ wx, Below w.heap.size w wx → (bodyLoad (C.drop 4)).2.2 = true → LoadPost (loadM bs) w (.returned (.tuple #[.agg #[.slice none 0 0, .slice none 0 0, .slice none 0 0], .int .i64 2])) wx) := by
    intro wx h e; rw [Hr.out, if_pos (.inl e)]; exact LoadPost.err h
  have Hb3 : Hid (∀ wx, Below w.heap.size w wx → ∀ x y z, Below w.heap.size w (((wx.setCell ⟨w.heap.size, 0, none⟩ x).setCell ⟨w.heap.size, 1, none⟩ y).setCell ⟨w.heap.size, 2, none⟩ z)) :=
    fun wx h x y z => ((h.setCell (Nat.le_refl _) _).setCell (Nat.le_refl _) _).setCell (Nat.le_refl _) _
  go_loopw [4, 6, 7, 8] (fun at' jv _ _ wr => ∃ (j p : Nat) (ws us : List Nat) (v1 v2 : Value), j ≤ 2 ∧ jv = .int .i64 j ∧ at' = .int .i64 p ∧ Heads C j ws us p ∧ HB w wr N5 v1 v2 (.slice none 0 0) ws us [] ∧ N5 < wr.heap.size) (fun _ jv _ _ _ => 2 - (intOf jv).toNat)
  case atStart => exact ⟨0, 4, [], [], _, _, by omega, rfl, rfl, hd0, hh0, hN5⟩
  case round =>
    obtain ⟨j, p, ws, us, v1, v2, hj, rfl, rfl, hhd, hhb, hN5'⟩ := hrel
    clear hh0 hd0 hN5
    have hpN : 4 ≤ p ∧ p ≤ N := by have h1 := hhd.1; have h2 := hhd.2.1; rw [Hcl.out] at h2; exact ⟨h1, h2⟩
    have Hhd := Lib.hid hhd
    clear hhd
    by_cases hlt : j < 2
    · have hres := hhb.res
      have r0 : wr.cell? ⟨w.heap.size, 0, none⟩ = some (.slice none 0 0) := blk_cell hres 0
      have r1 : wr.cell? ⟨w.heap.size, 1, none⟩ = some (.slice none 0 0) := blk_cell hres 1
      have r2 : wr.cell? ⟨w.heap.size, 2, none⟩ = some (.slice none 0 0) := blk_cell hres 2
      have z0 := blk_frozen hres 0
      have z1 := blk_frozen hres 1
      have z2 := blk_frozen hres 2
      have Hbw := Lib.hid (Hb3.out wr hhb.below)
      by_cases hin : N < p + 4
      · have Hn := Lib.hid (fun w' => refnumber_out (some ⟨b, off, none⟩) N cap p 4 w' (by omega) (by omega) (by omega) hin)
        have He := Lib.hid (fun (_ : Unit) => Hhd.out.fail hlt (listM_short _ _ (by simp [Hcl.out]; omega)))
        clear hres hhb
        go_wp2_with fail
        refine (Hn.out _).mono ?_
        rintro e w3 ⟨rfl, rfl⟩
        go_wp2_with fail
        exact bodyPost_ret (v := .tuple #[.agg #[.slice none 0 0, .slice none 0 0, .slice none 0 0], .int .i64 2]) (by simp [results, Try.results14, go_sem, *]) rfl (Hbad.out _ (Hbw.out _ _ _) (He.out ()))
      · have hpin : p + 4 ≤ N := by omega
        have Hn := Lib.hid (refnumber_in (some ⟨b, off, none⟩) N cap p 4 C wr Hcl.out (by omega) hcap1 (by omega) (by omega) hpin (HcC.out _ hhb.below))
        have hnb := readM_bound ((C.drop p).take 4)
        have hnl : ((C.drop p).take 4).length = 4 := by simp [Hcl.out]; omega
        rw [hnl] at hnb
        have Hne : Hid (readM ((C.drop p).take 4) = readM ((C.drop p).take 4)) := rfl
        obtain ⟨n, hn⟩ : ∃ n, n = readM ((C.drop p).take 4) := ⟨_, rfl⟩
        rw [← hn] at Hn hnb
        have HnE := Lib.hid hn
        clear hn hnl Hne
        have hdl : Hid ((C.drop p).length = N - p) := by show _ = _; simp [Hcl.out]
        by_cases hmuch : (N - p - 4) / 2 < n
        · have He := Lib.hid (fun (_ : Unit) => Hhd.out.fail hlt (itemsTo_true _ _ (manyM_much 2 (C.drop p) false (by rw [hdl.out]; omega) (by rw [hdl.out, ← HnE.out]; exact hmuch))))
          have g0 : decide ((n : Int) < 0) = false := decide_eq_false (by omega)
          have g1 : decide (((N : Int) - ((p : Int) + 4)) / 2 < (n : Int)) = true := decide_eq_true (by omega)
          have g2 : (0 : Int) ≤ (N : Int) - ((p : Int) + 4) := by omega
          clear hres hhb
          go_wp2_with fail
          refine (Hn.out).mono ?_
          rintro e w3 ⟨rfl, rfl⟩
          go_wp2_with fail
          exact bodyPost_ret (v := .tuple #[.agg #[.slice none 0 0, .slice none 0 0, .slice none 0 0], .int .i64 2]) (by simp [results, Try.results14, go_sem, *]) rfl (Hbad.out _ (Hbw.out _ _ _) (He.out ()))
        · have g0 : decide ((n : Int) < 0) = false := decide_eq_false (by omega)
          have g1 : decide (((N : Int) - ((p : Int) + 4)) / 2 < (n : Int)) = false := decide_eq_false (by omega)
          have g2 : (0 : Int) ≤ (N : Int) - ((p : Int) + 4) := by omega
          have Hfit := Lib.hid (listM_fits (C.drop p) (by rw [hdl.out]; omega) (by rw [hdl.out, ← HnE.out]; omega))
          rw [← HnE.out, List.drop_drop, List.drop_drop] at Hfit
          clear hres r0 r1 r2 z0 z1 z2 Hbw
          go_wp2_with fail
          refine (Hn.out).mono ?_
          rintro e w3 ⟨rfl, rfl⟩
          clear Hn
          go_wp2_with fail
          obtain ⟨we, rfl⟩ : ∃ we : World, we = wr := ⟨_, rfl⟩
          have hl1 := fun k hk => (World.ownsRow.lt hhb.own1 k hk).2
          have hl2 := fun k hk => (World.ownsRow.lt hhb.own2 k hk).2
          have Hl1 := Lib.hid hl1
          have Hl2 := Lib.hid hl2
          obtain ⟨i0, hi, hz0, hz1, hz2⟩ := info_parts Try.info3
          clear hl1 hl2
          go_loopw [4, 7, 8] (fun a c v wr => ∃ (i q m : Nat), i + m = n ∧ q = p + 4 + 2 * i ∧ a = .int .i64 q ∧ c = .int .i64 m ∧ OwnsInts we.heap.size wr v (itemsTo (C.drop (p + 4), false) i).1 ∧ HB w wr N5 v1 v2 (.slice none 0 0) ws us [] ∧ we.heap.size ≤ wr.heap.size) (fun _ c _ _ => (intOf c).toNat)
          case atStart => exact ⟨0, p + 4, n, by omega, by omega, val_int (by omega), rfl, World.ownsRow_nil _ _ _ _, hhb, Nat.le_refl _⟩
          case round =>
            obtain ⟨i, q, m, him, hq, rfl, rfl, hown, hhb', hsz⟩ := hrel
            clear hhb
            have Hq := Lib.hid hq
            have Him := Lib.hid him
            have Hlen := Lib.hid (itemsTo_len (C.drop (p + 4), false) i)
            have hq2 : q + 2 * m ≤ N := by omega
            by_cases hm0 : 0 < m
            · have Hn := Lib.hid (refnumber_in (some ⟨b, off, none⟩) N cap q 2 C wr Hcl.out (by omega) hcap1 (by omega) (by omega) (by omega) (HcC.out _ hhb'.below))
              have Hnx := Lib.hid (itemsTo_next (C.drop (p + 4)) i (by simp [Hcl.out]; omega))
              rw [List.drop_drop, ← Hq.out] at Hnx
              have hil : i ≤ 399998 := by omega
              clear hq him
              generalize readM ((C.drop q).take 2) = x at *
              generalize (itemsTo (C.drop (p + 4), false) i).1 = l at *
              go_wp2_with fail
              refine (Hn.out).mono ?_
              rintro e w3 ⟨rfl, rfl⟩
              clear Hn
              go_wp2_with (at_builtin; refine wpList_append_own _ rfl (.tmp 69) (.tmp 73) 26 rfl we.heap.size 3 i0 (.int .i64 0) 1 8 Try.underlying26 hi hz0 hz1 hz2 rfl (by decide) _ _ _ rfl (World.ownsRow.alloc hown _) ⟨wr.heap.size, 0, none⟩ 1 1 [.int .i64 (x : Int)] rfl rfl ?c1 ?c2 ?c3 ?c4 ?c5 ?_)
              case c1 => exact cell_one_new _ _ _
              case c2 => intro u hu; simp at hu; subst hu; rfl
              case c3 => unfold maxLen; rw [Hlen.out]; omega
              case c4 => rw [Hlen.out]; omega
              case c5 => simp; omega
              intro v' w4 hown4 hgr4 _
              have lo4 := fun k hk => (World.ownsRow.lt hown k hk).1
              have hhb4 := (hhb'.none (World.grownBy_alloc wr (.cells #[.int .i64 (x : Int)] 3) none)).grown hgr4 (fun k e => by
                have h1 := lo4 k e
                exact ⟨by omega, fun e2 => by have := Hl1.out k e2; omega, fun e2 => by have := Hl2.out k e2; omega, by simp [Value.ownBlock]⟩)
              have hown5 := own_int_snoc hown4
              rw [← Hnx.out] at hown5
              have hsz4 : we.heap.size ≤ w4.heap.size := by have := hgr4.size; simp at this; omega
              clear hown4 hgr4 hhb' hown lo4
              go_wp2_with fail
              go_roundw
              case rel => exact ⟨i + 1, q + 2, m - 1, by have := Him.out; omega, by have := Hq.out; omega, by go_num, val_int (by omega), hown5, hhb4, hsz4⟩
              case measure => simp [intOf]; omega
            · obtain rfl : m = 0 := by omega
              obtain rfl : i = n := by omega
              obtain ⟨av, cv, hv⟩ := owns_form hown
              subst hv
              have hst := hhb'.store hown (by omega) Hl1.out Hl2.out
              have himg := hhb'.img
              have i0' : wr.cell? ⟨N5, 0, none⟩ = some v1 := blk_cell himg 0
              have i1' : wr.cell? ⟨N5, 1, none⟩ = some v2 := blk_cell himg 1
              have z0 := blk_frozen himg 0
              have z1 := blk_frozen himg 1
              have hqe : p + (4 + 2 * i) = q := by omega
              rw [hqe] at Hfit
              have hbk := blk_lt himg
              have hq4 : 4 ≤ q := by omega
              have hqN' : q ≤ N := by omega
              obtain ⟨hst1, hst2⟩ := hst
              clear hq him hqe hhb' himg
              by_cases hj0 : j = 0
              · subst hj0
                have Hnext := Lib.hid (fun (_ : Unit) => Hhd.out.next0 Hfit.out hq4 (by rw [Hcl.out]; omega))
                clear i1' z1 hst2
                go_wp2_with fail
                go_roundw
                case rel => exact ⟨1, q, _, _, _, _, by omega, rfl, rfl, Hnext.out (), hst1, by simp [World.setCell]; omega⟩
                case measure => simp [intOf]
              · obtain rfl : j = 1 := by omega
                have Hnext := Lib.hid (fun (_ : Unit) => Hhd.out.next1 Hfit.out hq4 (by rw [Hcl.out]; omega))
                clear i0' z0 hst1
                go_wp2_with fail
                go_roundw
                case rel => exact ⟨2, q, _, _, _, _, by omega, rfl, rfl, Hnext.out (), hst2, by simp [World.setCell]; omega⟩
                case measure => simp [intOf]
    · obtain rfl : j = 2 := by omega
      have hres := hhb.res
      have r0 : wr.cell? ⟨w.heap.size, 0, none⟩ = some (.slice none 0 0) := blk_cell hres 0
      have r1 : wr.cell? ⟨w.heap.size, 1, none⟩ = some (.slice none 0 0) := blk_cell hres 1
      have r2 : wr.cell? ⟨w.heap.size, 2, none⟩ = some (.slice none 0 0) := blk_cell hres 2
      have z0 := blk_frozen hres 0
      have z1 := blk_frozen hres 1
      have z2 := blk_frozen hres 2
      have Hbw := Lib.hid (Hb3.out wr hhb.below)
      by_cases hin : N < p + 4
      · have Hn := Lib.hid (fun w' => refnumber_out (some ⟨b, off, none⟩) N cap p 4 w' (by omega) (by omega) (by omega) hin)
        have He := Lib.hid (fun (_ : Unit) => Hhd.out.fail2 (by rw [Hcl.out]; exact hin))
        clear hres hhb
        go_wp2_with fail
        refine (Hn.out _).mono ?_
        rintro e w3 ⟨rfl, rfl⟩
        go_wp2_with fail
        exact bodyPost_ret (v := .tuple #[.agg #[.slice none 0 0, .slice none 0 0, .slice none 0 0], .int .i64 2]) (by simp [results, Try.results14, go_sem, *]) rfl (Hbad.out _ (Hbw.out _ _ _) (He.out ()))
      · have hpin : p + 4 ≤ N := by omega
        have Hn := Lib.hid (refnumber_in (some ⟨b, off, none⟩) N cap p 4 C wr Hcl.out (by omega) hcap1 (by omega) (by omega) hpin (HcC.out _ hhb.below))
        have hnb := readM_bound ((C.drop p).take 4)
        have hnl : ((C.drop p).take 4).length = 4 := by simp [Hcl.out]; omega
        rw [hnl] at hnb
        obtain ⟨n, hn⟩ : ∃ n, n = readM ((C.drop p).take 4) := ⟨_, rfl⟩
        rw [← hn] at Hn hnb
        have HnE := Lib.hid hn
        have g0 : decide ((n : Int) < 0) = false := decide_eq_false (by omega)
        clear hn hnl hres r0 r1 r2 z0 z1 z2 Hbw
        go_wp2_with fail
        refine (Hn.out).mono ?_
        rintro e w3 ⟨rfl, rfl⟩
        clear Hn
        go_wp2_with fail
        obtain ⟨we, rfl⟩ : ∃ we : World, we = wr := ⟨_, rfl⟩
        obtain ⟨i0, hi, hz0, hz1, hz2⟩ := info_parts Try.info45
        go_loopw [4, 9, 10] (fun a c _ wr => ∃ (jj m q : Nat) (sp : List (ByteArray × Int)) (vs : Value), jj + m = n ∧ a = .int .i64 q ∧ c = .int .i64 m ∧ Spots C (p + 4) jj q sp ∧ HB w wr N5 v1 v2 vs ws us sp ∧ N5 < wr.heap.size ∧ sp.length = jj) (fun _ c _ _ => (intOf c).toNat)
        case atStart => exact ⟨0, n, p + 4, [], _, by omega, val_int (by omega), rfl, Spots.start (by rw [Hcl.out]; omega), hhb, hN5', rfl⟩
        case round =>
          obtain ⟨jj, m, q, sp, vs, hjm, rfl, rfl, hsp, hhb', hN5'', hspl⟩ := hrel
          clear hhb hN5'
          have Hspl := Lib.hid hspl
          have hjm1 : jj + m ≤ n := by omega
          have hjm2 : n ≤ jj + m := by omega
          clear hjm
          have hqN : q ≤ N ∧ 5 * jj ≤ q := by have h1 := hsp.2.1; have h2 := hsp.1; rw [Hcl.out] at h1; exact ⟨h1, by omega⟩
          have Hsp := Lib.hid hsp
          clear hsp hspl
          have hres := hhb'.res
          have r0 : wr.cell? ⟨w.heap.size, 0, none⟩ = some (.slice none 0 0) := blk_cell hres 0
          have r1 : wr.cell? ⟨w.heap.size, 1, none⟩ = some (.slice none 0 0) := blk_cell hres 1
          have r2 : wr.cell? ⟨w.heap.size, 2, none⟩ = some (.slice none 0 0) := blk_cell hres 2
          have z0 := blk_frozen hres 0
          have z1 := blk_frozen hres 1
          have z2 := blk_frozen hres 2
          have Hbw := Lib.hid (Hb3.out wr hhb'.below)
          by_cases hm0 : 0 < m
          · by_cases hin1 : N < q + 1
            · have Hn := Lib.hid (fun w' => refnumber_out (some ⟨b, off, none⟩) N cap q 1 w' (by omega) (by omega) (by omega) hin1)
              have He := Lib.hid (fun (_ : Unit) => Hsp.out.fail (n := n) (by omega) Hhd.out (by rw [Hcl.out]; exact hpin) rfl HnE.out (.inl (by rw [Hcl.out]; omega)))
              clear hres hhb'
              go_wp2_with fail
              refine (Hn.out _).mono ?_
              rintro e w3 ⟨rfl, rfl⟩
              go_wp2_with fail
              exact bodyPost_ret (v := .tuple #[.agg #[.slice none 0 0, .slice none 0 0, .slice none 0 0], .int .i64 2]) (by simp [results, Try.results14, go_sem, *]) rfl (Hbad.out _ (Hbw.out _ _ _) (He.out ()))
            · have Hn := Lib.hid (refnumber_in (some ⟨b, off, none⟩) N cap q 1 C wr Hcl.out (by omega) hcap1 (by omega) (by omega) (by omega) (HcC.out _ hhb'.below))
              have hone : readM ((C.drop q).take 1) = (C.getD q 0).toNat := readM_one C q (by rw [Hcl.out]; omega)
              rw [hone] at Hn
              obtain ⟨k, hk⟩ : ∃ k, k = (C.getD q 0).toNat := ⟨_, rfl⟩
              have hk256 := (C.getD q 0).toNat_lt
              rw [← hk] at Hn hk256
              have HkE := Lib.hid hk
              clear hone hk
              have g4 : decide ((k : Int) < 0) = false := decide_eq_false (by omega)
              by_cases hfar : N < q + 1 + k + 4
              · have He := Lib.hid (fun (_ : Unit) => Hsp.out.fail (n := n) (by omega) Hhd.out (by rw [Hcl.out]; exact hpin) rfl HnE.out (.inr (by rw [Hcl.out, ← HkE.out]; exact hfar)))
                have g5 : decide ((N : Int) < (q : Int) + 1 + k + 4) = true := decide_eq_true (by omega)
                clear hres hhb'
                go_wp2_with fail
                refine (Hn.out).mono ?_
                rintro e w3 ⟨rfl, rfl⟩
                go_wp2_with fail
                exact bodyPost_ret (v := .tuple #[.agg #[.slice none 0 0, .slice none 0 0, .slice none 0 0], .int .i64 2]) (by simp [results, Try.results14, go_sem, *]) rfl (Hbad.out _ (Hbw.out _ _ _) (He.out ()))
              · have g5 : decide ((N : Int) < (q : Int) + 1 + k + 4) = false := decide_eq_false (by omega)
                have hfit : q + 1 + k + 4 ≤ N := by omega
                have Hnext := Lib.hid (fun (_ : Unit) => Hsp.out.next (k := k) (by rw [Hcl.out]; omega) HkE.out.symm (by rw [Hcl.out]; exact hfit))
                have HcN : ∀ {w'}, Below w.heap.size w w' → Cells w' (some ⟨b, off + (q + 1), none⟩) k (u8s ((C.drop (q + 1)).take k)) := fun {w'} h => by
                  have h1 := HcC.out w' h
                  rw [← Hcl.out] at h1
                  have h2 := (h1.drop (n := q + 1) (by rw [Hcl.out]; omega)).take (n := k) (by simp [Hcl.out]; omega)
                  exact h2
                have HnmL : Hid (((C.drop (q + 1)).take k).length = k) := by show _ = _; simp [Hcl.out]; omega
                have Hn4 := Lib.hid (fun w' h => refnumber_in (some ⟨b, off, none⟩) N cap (q + 1 + k) 4 C w' Hcl.out (by omega) hcap1 (by omega) (by omega) hfit (HcC.out w' h))
                have ec : ((q + 1 + k : Nat) : Int) = (q : Int) + 1 + k := by omega
                rw [ec] at Hn4
                clear ec hres r0 r1 r2 z0 z1 z2 Hbw
                generalize (C.drop (q + 1)).take k = nm at *
                generalize readM ((C.drop (q + 1 + k)).take 4) = x at *
                go_wp2_with fail
                refine (Hn.out).mono ?_
                rintro e w3 ⟨rfl, rfl⟩
                clear Hn
                go_wp2_with fail
                have s1 : (0 : Int) ≤ (q : Int) + 1 := by omega
                have s2 : (q : Int) + 1 ≤ (q : Int) + 1 + k := by omega
                have s3 : (q : Int) + 1 + k ≤ (cap : Int) := by omega
                have s4 : IntKind.i64.wrap ((q : Int) + 1) = (q : Int) + 1 := IntWalk.i64_in _ (by omega)
                have s5 : IntKind.i64.wrap ((q : Int) + 1 + k) = (q : Int) + 1 + k := IntWalk.i64_in _ (by omega)
                have s6 : ((q : Int) + 1).toNat = q + 1 := by omega
                have s7 : ((q : Int) + 1 + k).toNat = q + 1 + k := by omega
                have s8 : ¬ cap = q + 1 := by omega
                have s9 : (0 : Int) ≤ (q : Int) + 1 + k := by omega
                have hD : Below w.heap.size w wr.drew := hhb'.below.drew
                have hI : wr.drew.heap[N5]? = some (.cells #[v1, v2, vs] 29 (0, 0)) := hhb'.img
                have hO : wr.drew.ownsRow (N5 + 1) 45 2 vs sp.length (spCells sp) := hhb'.own3
                have hbsz := blk_lt hhb'.res
                have hwN := hhb'.hN
                have hHB : HB w wr.drew N5 v1 v2 vs ws us sp := hhb'.none ⟨rfl, rfl, rfl, Nat.le_refl _, fun _ _ _ => rfl⟩
                refine wp_region_held_drew (S := Below w.heap.size w) Try.checked.mixed hhb'.below.drew (fun hS => ?_)
                have hwds : wr.heap.size = wr.drew.heap.size := rfl
                rw [hwds] at hN5'' hbsz
                clear hhb' hwds
                generalize wr.drew = wd at *
                refine wpAnyH_read (i := 0) (v := ?u0) rfl (by kernel_rfl) (by kernel_rfl) (by kernel_rfl) ?m0 rfl ?n0 hS ?_
                case n0 => intro w' h; go_simp; exact rfl
                case m0 => exact fun _ _ _ h => h
                go_simp
                refine wpAnyH_read (i := 2) (v := ?u2) rfl (by kernel_rfl) (by kernel_rfl) (by kernel_rfl) ?m2 rfl ?n2 hS ?_
                case n2 => intro w' h; go_simp; exact rfl
                case m2 => exact fun _ _ _ h => h
                go_simp
                refine wpAnyH_read (i := 3) (v := ?u3) rfl (by kernel_rfl) (by kernel_rfl) (by kernel_rfl) ?m3 rfl ?n3 hS ?_
                case n3 => intro w' h; go_simp; exact rfl
                case m3 => exact fun _ _ _ h => h
                go_simp
                refine wpAnyH_read (i := 4) (v := ?u4) rfl (by kernel_rfl) (by kernel_rfl) (by kernel_rfl) ?m4 rfl ?n4 hS ?_
                case n4 => intro w' h; go_simp; exact rfl
                case m4 => exact fun _ _ _ h => h
                go_simp
                refine wpAnyH_read (i := 5) (v := ?u5) rfl (by kernel_rfl) (by kernel_rfl) (by kernel_rfl) ?m5 rfl ?n5 hS ?_
                case n5 => intro w' h; go_simp; exact rfl
                case m5 => exact fun _ _ _ h => h
                go_simp
                refine wpAnyH_read (i := 6) (v := ?u6) rfl (by kernel_rfl) (by kernel_rfl) (by kernel_rfl) ?m6 rfl ?n6 hS ?_
                case n6 => intro w' h; go_simp; exact rfl
                case m6 => exact fun _ _ _ h => h
                go_simp
                refine wpAnyH_read (i := 7) (v := ?u7) rfl (by kernel_rfl) (by kernel_rfl) (by kernel_rfl) ?m7 rfl ?n7 hS ?_
                case n7 => intro w' h; go_simp; exact rfl
                case m7 => exact fun _ _ _ h => h
                go_simp
                refine wpAnyH_read (i := 8) (v := ?u8) rfl (by kernel_rfl) (by kernel_rfl) (by kernel_rfl) ?m8 rfl ?n8 hS ?_
                case n8 => intro w' h; go_simp; exact rfl
                case m8 => exact fun _ _ _ h => h
                go_simp
                refine wpAnyH_read (i := 9) (v := ?u9) rfl (by kernel_rfl) (by kernel_rfl) (by kernel_rfl) ?m9 rfl ?n9 hS ?_
                case n9 => intro w' h; go_simp; exact rfl
                case m9 => exact fun _ _ _ h => h
                go_simp
                refine wpAnyH_read (i := 10) (v := ?u10) rfl (by kernel_rfl) (by kernel_rfl) (by kernel_rfl) ?m10 rfl ?n10 hS ?_
                case n10 => intro w' h; have hcv := conv_str (cap := cap - (q + 1)) (HcN h) HnmL.out; go_simp; exact rfl
                case m10 => exact fun _ _ _ h => h
                go_simp
                refine wpAnyH_read (i := 11) (v := ?u11) rfl (by kernel_rfl) (by kernel_rfl) (by kernel_rfl) ?m11 rfl ?n11 hS ?_
                case n11 => intro w' h; go_simp; exact rfl
                case m11 => exact fun _ _ _ h => h
                go_simp
                refine wpAnyH_read (i := 12) (v := ?u12) rfl (by kernel_rfl) (by kernel_rfl) (by kernel_rfl) ?m12 rfl ?n12 hS ?_
                case n12 => intro w' h; go_simp; exact rfl
                case m12 => exact fun _ _ _ h => h
                go_simp
                refine wpAnyH_read (i := 13) (v := ?u13) rfl (by kernel_rfl) (by kernel_rfl) (by kernel_rfl) ?m13 rfl ?n13 hS ?_
                case n13 => intro w' h; go_simp; exact rfl
                case m13 => exact fun _ _ _ h => h
                go_simp
                refine wpAnyH_read (i := 14) (v := ?u14) rfl (by kernel_rfl) (by kernel_rfl) (by kernel_rfl) ?m14 rfl ?n14 hS ?_
                case n14 => intro w' h; go_simp; exact rfl
                case m14 => exact fun _ _ _ h => h
                go_simp
                refine wpAnyH_read (i := 15) (v := ?u15) rfl (by kernel_rfl) (by kernel_rfl) (by kernel_rfl) ?m15 rfl ?n15 hS ?_
                case n15 => intro w' h; go_simp; exact rfl
                case m15 => exact fun _ _ _ h => h
                go_simp
                clear s1 s2 s3 s4 s5 s6 s7 s8 s9
                refine wpAnyH_two (i := 1) (k := 16) (by kernel_rfl) rfl rfl rfl rfl (fun K hK => ?_) (fun K hK => ?_)
                · have i2c : World.cell? wd ⟨N5, 2, none⟩ = some vs := blk_cell hI 2
                  go_wp2_with fail
                  refine hK _ _ hS (fun _ => ?_)
                  clear hK i2c
                  go_simp
                  refine wpAnyH_one (i := 16) (by kernel_rfl) rfl rfl (fun K hK => ?_)
                  go_wp2_with fail
                  refine (Hn4.out wd hS).mono ?_
                  rintro e w5 ⟨rfl, rfl⟩
                  refine hK _ _ hS (fun _ => ?_)
                  clear hK
                  go_simp
                  refine wpAnyH_read (i := 17) (v := ?ua1) rfl (by kernel_rfl) (by kernel_rfl) (by kernel_rfl) ?ma1 rfl ?na1 hS ?_
                  case na1 => intro w' h; go_simp; exact rfl
                  case ma1 => exact fun _ _ _ h => h
                  go_simp
                  refine wpAnyH_one (i := 18) (by kernel_rfl) rfl rfl (fun K hK => ?_)
                  go_wp2_with fail
                  have hS2 : Below w.heap.size w (wd.alloc (.cells #[.string ⟨nm.toArray⟩, .int .i64 (x : Int)] 45)) := hS.alloc (by omega) _
                  refine hK _ _ hS2 (fun _ => ?_)
                  clear hK
                  go_simp
                  refine wpAnyH_one (i := 19) (by kernel_rfl) rfl rfl (fun K hK => ?_)
                  refine wp_append_own _ (.tmp 112) (.tmp 129) 27 rfl (N5 + 1) 45 i0 (.agg #[.string ByteArray.empty, .int .i64 0]) 2 24 Try.underlying27 hi hz0 hz1 hz2 rfl (by decide) vs _ _ rfl (World.ownsRow.alloc hO _) ⟨wd.heap.size, 0, none⟩ 1 1 [.string ⟨nm.toArray⟩, .int .i64 (x : Int)] rfl rfl ?z21 ?z22 ?z23 ?z24 ?z25 ?_
                  case z21 =>
                    intro j u hu
                    rw [addr_add, Nat.zero_add, World.cell?_alloc_at _ _ _ _ rfl]
                    match j, hu with
                    | 0, hu => exact hu
                    | 1, hu => exact hu
                  case z22 => intro u hu; simp at hu; rcases hu with rfl | rfl <;> rfl
                  case z23 => unfold maxLen; rw [Hspl.out]; omega
                  case z24 => rw [Hspl.out]; omega
                  case z25 => simp; omega
                  intro vs' w6 hown6 hgr6 _
                  obtain ⟨av', cv', hv'⟩ := owns_form hown6
                  subst hv'
                  have hHB2 := (hHB.none (World.grownBy_alloc _ (.cells #[.string ⟨nm.toArray⟩, .int .i64 (x : Int)] 45) none)).append (s := (⟨nm.toArray⟩, (x : Int))) hgr6 hown6
                  have hvl := fun k hk => (World.ownsRow.lt hO k hk).1
                  have hI6 := blk_grown (blk_alloc hI (.cells #[.string ⟨nm.toArray⟩, .int .i64 (x : Int)] 45)) hgr6 (fun e => by have := hvl _ e.symm; omega)
                  have hS6 : Below w.heap.size w w6 := hS2.grown hgr6 (by simp; omega) (fun k e => by have := hvl k e; omega)
                  have c62 : w6.cell? ⟨N5, 2, none⟩ = some vs := blk_cell hI6 2
                  have z62 := blk_frozen hI6 2
                  have hN6 := blk_lt hI6
                  refine hK _ _ hS6 (fun _ => ?_)
                  clear hK hown6 hgr6 hI6 hvl
                  go_simp
                  refine wpAnyH_read (i := 20) (v := ?ua3) rfl (by kernel_rfl) (by kernel_rfl) (by kernel_rfl) ?ma3 rfl ?na3 hS6 ?_
                  case na3 => intro w' h; go_simp; exact rfl
                  case ma3 => exact fun _ _ _ h => h
                  go_simp
                  refine wpAnyH_one (i := 21) (by kernel_rfl) rfl rfl (fun K hK => ?_)
                  go_wp2_with fail
                  refine hK _ _ (hS6.setCell (p := ⟨N5, 2, none⟩) (Nat.le_of_lt hwN) _) (fun _ => ?_)
                  clear hK
                  go_simp
                  refine wpAnyH_done (by kernel_rfl) ?_ _
                  clear c62 z62 hS6 hS2
                  go_wp2_with fail
                  go_roundw
                  case rel => exact ⟨jj + 1, m - 1, q + k + 5, _, _, by omega, val_int (by omega), val_int (by omega), Hnext.out (), hHB2, by simp [World.setCell]; omega, by simp [Hspl.out]⟩
                  case measure => simp [intOf]; omega
                · go_wp2_with fail
                  refine (Hn4.out wd hS).mono ?_
                  rintro e w5 ⟨rfl, rfl⟩
                  refine hK _ _ hS (fun _ => ?_)
                  clear hK
                  go_simp
                  refine wpAnyH_read (i := 17) (v := ?ua4) rfl (by kernel_rfl) (by kernel_rfl) (by kernel_rfl) ?ma4 rfl ?na4 hS ?_
                  case na4 => intro w' h; go_simp; exact rfl
                  case ma4 => exact fun _ _ _ h => h
                  go_simp
                  refine wpAnyH_two (i := 1) (k := 18) (by kernel_rfl) rfl rfl rfl rfl (fun K hK => ?_) (fun K hK => ?_)
                  · have i2c : World.cell? wd ⟨N5, 2, none⟩ = some vs := blk_cell hI 2
                    go_wp2_with fail
                    refine hK _ _ hS (fun _ => ?_)
                    clear hK i2c
                    go_simp
                    refine wpAnyH_one (i := 18) (by kernel_rfl) rfl rfl (fun K hK => ?_)
                    go_wp2_with fail
                    have hS2 : Below w.heap.size w (wd.alloc (.cells #[.string ⟨nm.toArray⟩, .int .i64 (x : Int)] 45)) := hS.alloc (by omega) _
                    refine hK _ _ hS2 (fun _ => ?_)
                    clear hK
                    go_simp
                    refine wpAnyH_one (i := 19) (by kernel_rfl) rfl rfl (fun K hK => ?_)
                    refine wp_append_own _ (.tmp 112) (.tmp 129) 27 rfl (N5 + 1) 45 i0 (.agg #[.string ByteArray.empty, .int .i64 0]) 2 24 Try.underlying27 hi hz0 hz1 hz2 rfl (by decide) vs _ _ rfl (World.ownsRow.alloc hO _) ⟨wd.heap.size, 0, none⟩ 1 1 [.string ⟨nm.toArray⟩, .int .i64 (x : Int)] rfl rfl ?z51 ?z52 ?z53 ?z54 ?z55 ?_
                    case z51 =>
                      intro j u hu
                      rw [addr_add, Nat.zero_add, World.cell?_alloc_at _ _ _ _ rfl]
                      match j, hu with
                      | 0, hu => exact hu
                      | 1, hu => exact hu
                    case z52 => intro u hu; simp at hu; rcases hu with rfl | rfl <;> rfl
                    case z53 => unfold maxLen; rw [Hspl.out]; omega
                    case z54 => rw [Hspl.out]; omega
                    case z55 => simp; omega
                    intro vs' w6 hown6 hgr6 _
                    obtain ⟨av', cv', hv'⟩ := owns_form hown6
                    subst hv'
                    have hHB2 := (hHB.none (World.grownBy_alloc _ (.cells #[.string ⟨nm.toArray⟩, .int .i64 (x : Int)] 45) none)).append (s := (⟨nm.toArray⟩, (x : Int))) hgr6 hown6
                    have hvl := fun k hk => (World.ownsRow.lt hO k hk).1
                    have hI6 := blk_grown (blk_alloc hI (.cells #[.string ⟨nm.toArray⟩, .int .i64 (x : Int)] 45)) hgr6 (fun e => by have := hvl _ e.symm; omega)
                    have hS6 : Below w.heap.size w w6 := hS2.grown hgr6 (by simp; omega) (fun k e => by have := hvl k e; omega)
                    have c62 : w6.cell? ⟨N5, 2, none⟩ = some vs := blk_cell hI6 2
                    have z62 := blk_frozen hI6 2
                    have hN6 := blk_lt hI6
                    refine hK _ _ hS6 (fun _ => ?_)
                    clear hK hown6 hgr6 hI6 hvl
                    go_simp
                    refine wpAnyH_read (i := 20) (v := ?ua6) rfl (by kernel_rfl) (by kernel_rfl) (by kernel_rfl) ?ma6 rfl ?na6 hS6 ?_
                    case na6 => intro w' h; go_simp; exact rfl
                    case ma6 => exact fun _ _ _ h => h
                    go_simp
                    refine wpAnyH_one (i := 21) (by kernel_rfl) rfl rfl (fun K hK => ?_)
                    go_wp2_with fail
                    refine hK _ _ (hS6.setCell (p := ⟨N5, 2, none⟩) (Nat.le_of_lt hwN) _) (fun _ => ?_)
                    clear hK
                    go_simp
                    refine wpAnyH_done (by kernel_rfl) ?_ _
                    clear c62 z62 hS6 hS2
                    go_wp2_with fail
                    go_roundw
                    case rel => exact ⟨jj + 1, m - 1, q + k + 5, _, _, by omega, val_int (by omega), val_int (by omega), Hnext.out (), hHB2, by simp [World.setCell]; omega, by simp [Hspl.out]⟩
                    case measure => simp [intOf]; omega
                  · go_wp2_with fail
                    have hS2 : Below w.heap.size w (wd.alloc (.cells #[.string ⟨nm.toArray⟩, .int .i64 (x : Int)] 45)) := hS.alloc (by omega) _
                    refine hK _ _ hS2 (fun _ => ?_)
                    clear hK
                    go_simp
                    refine wpAnyH_one (i := 1) (by kernel_rfl) rfl rfl (fun K hK => ?_)
                    have i2c : World.cell? (World.alloc wd (.cells #[.string ⟨nm.toArray⟩, .int .i64 (x : Int)] 45)) ⟨N5, 2, none⟩ = some vs := blk_cell (blk_alloc hI _) 2
                    go_wp2_with fail
                    refine hK _ _ hS2 (fun _ => ?_)
                    clear hK i2c
                    go_simp
                    refine wpAnyH_one (i := 19) (by kernel_rfl) rfl rfl (fun K hK => ?_)
                    refine wp_append_own _ (.tmp 112) (.tmp 129) 27 rfl (N5 + 1) 45 i0 (.agg #[.string ByteArray.empty, .int .i64 0]) 2 24 Try.underlying27 hi hz0 hz1 hz2 rfl (by decide) vs _ _ rfl (World.ownsRow.alloc hO _) ⟨wd.heap.size, 0, none⟩ 1 1 [.string ⟨nm.toArray⟩, .int .i64 (x : Int)] rfl rfl ?z71 ?z72 ?z73 ?z74 ?z75 ?_
                    case z71 =>
                      intro j u hu
                      rw [addr_add, Nat.zero_add, World.cell?_alloc_at _ _ _ _ rfl]
                      match j, hu with
                      | 0, hu => exact hu
                      | 1, hu => exact hu
                    case z72 => intro u hu; simp at hu; rcases hu with rfl | rfl <;> rfl
                    case z73 => unfold maxLen; rw [Hspl.out]; omega
                    case z74 => rw [Hspl.out]; omega
                    case z75 => simp; omega
                    intro vs' w6 hown6 hgr6 _
                    obtain ⟨av', cv', hv'⟩ := owns_form hown6
                    subst hv'
                    have hHB2 := (hHB.none (World.grownBy_alloc _ (.cells #[.string ⟨nm.toArray⟩, .int .i64 (x : Int)] 45) none)).append (s := (⟨nm.toArray⟩, (x : Int))) hgr6 hown6
                    have hvl := fun k hk => (World.ownsRow.lt hO k hk).1
                    have hI6 := blk_grown (blk_alloc hI (.cells #[.string ⟨nm.toArray⟩, .int .i64 (x : Int)] 45)) hgr6 (fun e => by have := hvl _ e.symm; omega)
                    have hS6 : Below w.heap.size w w6 := hS2.grown hgr6 (by simp; omega) (fun k e => by have := hvl k e; omega)
                    have c62 : w6.cell? ⟨N5, 2, none⟩ = some vs := blk_cell hI6 2
                    have z62 := blk_frozen hI6 2
                    have hN6 := blk_lt hI6
                    refine hK _ _ hS6 (fun _ => ?_)
                    clear hK hown6 hgr6 hI6 hvl
                    go_simp
                    refine wpAnyH_read (i := 20) (v := ?ua8) rfl (by kernel_rfl) (by kernel_rfl) (by kernel_rfl) ?ma8 rfl ?na8 hS6 ?_
                    case na8 => intro w' h; go_simp; exact rfl
                    case ma8 => exact fun _ _ _ h => h
                    go_simp
                    refine wpAnyH_one (i := 21) (by kernel_rfl) rfl rfl (fun K hK => ?_)
                    go_wp2_with fail
                    refine hK _ _ (hS6.setCell (p := ⟨N5, 2, none⟩) (Nat.le_of_lt hwN) _) (fun _ => ?_)
                    clear hK
                    go_simp
                    refine wpAnyH_done (by kernel_rfl) ?_ _
                    clear c62 z62 hS6 hS2
                    go_wp2_with fail
                    go_roundw
                    case rel => exact ⟨jj + 1, m - 1, q + k + 5, _, _, by omega, val_int (by omega), val_int (by omega), Hnext.out (), hHB2, by simp [World.setCell]; omega, by simp [Hspl.out]⟩
                    case measure => simp [intOf]; omega
          · obtain rfl : m = 0 := by omega
            obtain rfl : jj = n := by omega
            have HE := Lib.hid (fun (_ : Unit) => Hsp.out.done Hhd.out (by rw [Hcl.out]; exact hpin) rfl HnE.out)
            have Hq1 := Lib.hid hqN.1
            by_cases hqe : q = N
            · subst hqe
              have g6 : ((q : Int) != (q : Int)) = false := by simp
              have HR : Hid (Unit → loadM bs = if wrongM (toInts ws) (toInts us) sp ≠ 0 then (wrongM (toInts ws) (toInts us) sp, emptyImg) else (0, ⟨toInts ws, toInts us, sp⟩)) := fun _ => by
                rw [Hr.out, HE.out ()]
                have : (C.drop q).length = 0 := by simp [Hcl.out]
                rw [if_neg (by simp only [this]; simp)]
              have himg := hhb'.img
              have hbel := hhb'.below
              obtain ⟨aw, cw, e1, c1, b1⟩ := hhb'.own1.read
              obtain ⟨au, cu, e2, c2, b2⟩ := hhb'.own2.read
              obtain ⟨as', cs, e3, c3, b3⟩ := spots_read hhb'.own3
              have n1 := own_none (e1 ▸ hhb'.own1)
              have n2 := own_none (e2 ▸ hhb'.own2)
              have hl1 : (toInts ws).length = ws.length := by simp [toInts]
              have hl2 : (toInts us).length = us.length := by simp [toInts]
              have hwr := blk_lt hres
              have hN5w := hhb'.hN
              subst e1 e2 e3
              have Hw := Lib.hid (fun (_ : Unit) => refwrong_any aw au as' _ cw _ cu _ cs (toInts ws) (toInts us) sp wr rfl rfl rfl c1 c2 c3 n1 n2)
              have i0' : wr.cell? ⟨N5, 0, none⟩ = some (.slice aw (toInts ws).length cw) := blk_cell himg 0
              have i1' : wr.cell? ⟨N5, 1, none⟩ = some (.slice au (toInts us).length cu) := blk_cell himg 1
              have i2' : wr.cell? ⟨N5, 2, none⟩ = some (.slice as' sp.length cs) := blk_cell himg 2
              have Himg : Hid (∀ wx, wr.grownBy wx none → ImgAt (((wx.setCell ⟨w.heap.size, 0, none⟩ (.slice aw (toInts ws).length cw)).setCell ⟨w.heap.size, 1, none⟩ (.slice au (toInts us).length cu)).setCell ⟨w.heap.size, 2, none⟩ (.slice as' sp.length cs))
                  (.agg #[.slice aw (toInts ws).length cw, .slice au (toInts us).length cu, .slice as' sp.length cs]) ⟨toInts ws, toInts us, sp⟩) := by
                intro wx hg
                have hg2 : wx.grownBy (((wx.setCell ⟨w.heap.size, 0, none⟩ (.slice aw (toInts ws).length cw)).setCell ⟨w.heap.size, 1, none⟩ (.slice au (toInts us).length cu)).setCell ⟨w.heap.size, 2, none⟩ (.slice as' sp.length cs)) (some w.heap.size) :=
                  grownBy_setCell (grownBy_setCell (grownBy_setCell (grownBy_refl _ _) _) _) _
                exact ImgAt.kept (i := ⟨toInts ws, toInts us, sp⟩) hg2 (N5 + 1) (fun k e => by cases e; omega) (c1.kept hg (fun _ _ _ _ _ e => by cases e)) (c2.kept hg (fun _ _ _ _ _ e => by cases e)) (c3.kept hg (fun _ _ _ _ _ e => by cases e))
                  b1 b2 b3
              clear c1 c2 c3 hl1 hl2 hhb' b1 b2 b3 n1 n2 Hbw r0 r1 r2 z0 z1 z2
              generalize (toInts ws).length = lw at *
              generalize (toInts us).length = lu at *
              go_wp2_with fail
              refine (Hw.out ()).mono ?_
              unfold WrongPost
              generalize wrongM (toInts ws) (toInts us) sp = en at *
              rintro e w6 ⟨rfl, hb6⟩
              have hg6 := below_grown_none hb6
              have himg6 := blk_grown himg hg6 (by simp)
              have hres6 := blk_grown hres hg6 (by simp)
              have hbel6 : Below w.heap.size w w6 := hbel.trans (hb6.mono (by omega))
              have i60 : w6.cell? ⟨N5, 0, none⟩ = some (.slice aw lw cw) := blk_cell himg6 0
              have i61 : w6.cell? ⟨N5, 1, none⟩ = some (.slice au lu cu) := blk_cell himg6 1
              have i62 : w6.cell? ⟨N5, 2, none⟩ = some (.slice as' sp.length cs) := blk_cell himg6 2
              have r60 : w6.cell? ⟨w.heap.size, 0, none⟩ = some (.slice none 0 0) := blk_cell hres6 0
              have r61 : w6.cell? ⟨w.heap.size, 1, none⟩ = some (.slice none 0 0) := blk_cell hres6 1
              have r62 : w6.cell? ⟨w.heap.size, 2, none⟩ = some (.slice none 0 0) := blk_cell hres6 2
              have z60 := blk_frozen hres6 0
              have z61 := blk_frozen hres6 1
              have z62 := blk_frozen hres6 2
              have Hbel3 := Lib.hid (Hb3.out w6 hbel6)
              by_cases hen : en = 0
              · subst hen
                have He := Lib.hid (fun (_ : Unit) => (HR.out ()).trans (if_neg (by simp)))
                have Hi := Lib.hid (fun (_ : Unit) => Himg.out w6 hg6)
                clear himg hres hbel i0' i1' i2' Himg hb6 hg6 himg6 hres6 hbel6
                go_wp2_with fail
                exact bodyPost_ret (v := .tuple #[.agg #[.slice aw lw cw, .slice au lu cu, .slice as' sp.length cs], .int .i64 0]) (by simp [results, Try.results14, go_sem, *]) rfl (by rw [He.out ()]; exact ⟨_, rfl, Hi.out (), Hbel3.out _ _ _⟩)
              · have g7 : ((en : Int) == 0) = false := t_ne (by omega)
                have He := Lib.hid (fun (_ : Unit) => (HR.out ()).trans (if_pos hen))
                clear himg hres hbel i0' i1' i2' Himg hb6 hg6 himg6 hres6 hbel6 i60 i61 i62
                go_wp2_with fail
                exact bodyPost_ret (v := .tuple #[.agg #[.slice none 0 0, .slice none 0 0, .slice none 0 0], .int .i64 en]) (by simp [results, Try.results14, go_sem, *]) rfl (by rw [He.out ()]; exact LoadPost.err (Hbel3.out _ _ _))
            · have g6 : ((q : Int) != (N : Int)) = true := by simp; omega
              have He := Lib.hid (fun (_ : Unit) => show loadM bs = (2, emptyImg) by
                rw [Hr.out, HE.out ()]
                have : (C.drop q).length ≠ 0 := by simp [Hcl.out]; omega
                rw [if_pos (.inr (by simp only []; omega))])
              clear hres hhb'
              go_wp2_with fail
              exact bodyPost_ret (v := .tuple #[.agg #[.slice none 0 0, .slice none 0 0, .slice none 0 0], .int .i64 2]) (by simp [results, Try.results14, go_sem, *]) rfl (by rw [He.out ()]; exact LoadPost.err (Hbw.out _ _ _))

/-- THE DOCUMENT'S 'Load' OF ANY BYTES. -/
theorem refload_any (a : Option Addr) (len cap : Nat) (bs : List UInt8) (w : World) (hlen : bs.length = len) (hcap : len ≤ cap) (hcap2 : cap ≤ 9223372036854775807) (hc : Cells w a len (u8s bs)) :
    Calls Try.prog 14 #[.slice a len cap] w (LoadPost (loadM bs) w) := by
  by_cases hbad : 400000 < len ∨ len < 6
  · exact refload_early a len cap bs w hlen hbad
  · rcases hc with h0 | ⟨b, off, rfl, h⟩
    · omega
    · have hc : Cells w (some ⟨b, off, none⟩) len (u8s bs) := .inr ⟨b, off, rfl, h⟩
      by_cases hm : bs.take 4 = magic
      · by_cases hs : Crc.crc (bs.take (bs.length - 2)) = readM (bs.drop (bs.length - 2))
        · exact refload_main b off len cap bs w hlen (by omega) (by omega) hcap hcap2 hc hm hs
        · exact refload_sum b off len cap bs w hlen (by omega) (by omega) hcap hc hm hs
      · exact refload_magic b off len cap bs w hlen (by omega) (by omega) hcap hc hm
end Go.Proofs.Ytoifodabfpbjlaa
