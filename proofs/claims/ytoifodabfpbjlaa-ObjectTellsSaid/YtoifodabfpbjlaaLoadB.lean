/- contract of object.Load, the file's sum being right -/
import Derived.Test.YtoifodabfpbjlaaLoadA
namespace Go.Proofs.Ytoifodabfpbjlaa
open Go.RowKit

theorem manyM_lt (least : Nat) (rest : List UInt8) (short : Bool) : (manyM least rest short).1 < 4294967296 := by
  unfold manyM
  split
  · simp
  · exact readM_takeM 4 rest short (by omega)

theorem owns_form {w : World} {base : Nat} {e : TypeId} {size : Nat} {v : Value} {n : Nat} {xs : List Value} (h : w.ownsRow base e size v n xs) : ∃ a cap, v = .slice a n cap := by
  rcases h.2 with ⟨rfl, rfl⟩ | ⟨g, cap, _, rfl, _⟩
  · exact ⟨none, 0, rfl⟩
  · exact ⟨_, cap, rfl⟩

theorem toInts_length (l : List Nat) : (toInts l).length = l.length := by simp [toInts]

theorem OwnsInts.read {base : Nat} {w : World} {v : Value} {l : List Nat} (h : OwnsInts base w v l) :
    ∃ a cap, v = .slice a (toInts l).length cap ∧ Cells w a (toInts l).length (zints (toInts l)) ∧ ∀ b o s, a = some ⟨b, o, s⟩ → base ≤ b := by
  obtain ⟨a, cap, hv, hc, hb⟩ := App.read (App.ofOwns h)
  rw [toInts_length]
  refine ⟨a, cap, hv, ?_, hb⟩
  rw [Nat.mul_one] at hc
  refine hc.congr fun k hk => ?_
  unfold zints toInts i64v
  simp [List.getD, hk]

theorem spCells_at (sp : List (ByteArray × Int)) (k : Nat) (hk : k < 2 * sp.length) : (spCells sp).getD k undef = spotsV sp k := by
  induction sp generalizing k with
  | nil => simp at hk
  | cons s r ih =>
    have e : spCells (s :: r) = .string s.1 :: .int .i64 s.2 :: spCells r := rfl
    rw [e]
    match k with
    | 0 => rfl
    | 1 => rfl
    | k + 2 =>
      have := ih k (by simp at hk; omega)
      simp only [List.getD_cons_succ]
      rw [this]
      unfold spotsV
      rw [show (k + 2) % 2 = k % 2 by omega, show (k + 2) / 2 = k / 2 + 1 by omega, List.getD_cons_succ]

theorem spots_read {base : Nat} {w : World} {v : Value} {sp : List (ByteArray × Int)} (h : w.ownsRow base 45 2 v sp.length (spCells sp)) :
    ∃ a cap, v = .slice a sp.length cap ∧ Cells w a (2 * sp.length) (spotsV sp) ∧ ∀ b o s, a = some ⟨b, o, s⟩ → base ≤ b := by
  obtain ⟨a, cap, hv, hc, hb⟩ := App.read (App.ofOwns h)
  refine ⟨a, cap, hv, ?_, hb⟩
  rw [Nat.mul_comm] at hc
  exact hc.congr fun k hk => spCells_at sp k hk

theorem ImgAt.kept {w w' : World} {i : Img} {aw au as' : Option Addr} {cw cu cs : Nat} {row : Option Nat} (hg : w.grownBy w' row) (lo : Nat) (hr : ∀ k, row = some k → k < lo)
    (h1 : Cells w aw i.ws.length (zints i.ws)) (h2 : Cells w au i.us.length (zints i.us)) (h3 : Cells w as' (2 * i.sp.length) (spotsV i.sp))
    (b1 : ∀ b o s, aw = some ⟨b, o, s⟩ → lo ≤ b) (b2 : ∀ b o s, au = some ⟨b, o, s⟩ → lo ≤ b) (b3 : ∀ b o s, as' = some ⟨b, o, s⟩ → lo ≤ b) :
    ImgAt w' (.agg #[.slice aw i.ws.length cw, .slice au i.us.length cu, .slice as' i.sp.length cs]) i :=
  ⟨aw, cw, au, cu, as', cs, rfl, h1.kept hg (fun _ b o s e e2 => by have := b1 b o s e; have := hr b e2.symm; omega), h2.kept hg (fun _ b o s e e2 => by have := b2 b o s e; have := hr b e2.symm; omega),
    h3.kept hg (fun _ b o s e e2 => by have := b3 b o s e; have := hr b e2.symm; omega)⟩

theorem below_grown_none {w w' : World} (h : Below w.heap.size w w') : w.grownBy w' none := ⟨h.os, h.tape, h.output, h.size, fun k hk _ => h.block k hk⟩

theorem LI.other {w wr w' : World} {B N6 lo S : Nat} {v1 v2 vs : Value} {ws us : List Nat} {sp : List (ByteArray × Int)} {st : St} (h : LI w wr B N6 lo v1 v2 vs ws us sp st)
    (hg : wr.grownBy w' (some S)) (hS : N6 < S) (hv : ∀ k, vs.ownBlock = some k → k ≠ S) : LI w w' B N6 lo v1 v2 vs ws us sp st := by
  have hB := h.hB
  have hlo := h.hlo
  have hN := h.hN
  have hb : w.heap.size < wr.heap.size := blk_lt h.res
  obtain ⟨a, cap, hr⟩ := h.rd
  exact ⟨⟨a, cap, hr.kept hg (fun k e => by cases e; omega)⟩, h.below.grown hg (by omega) (fun k e => by cases e; omega), blk_grown h.res hg (fun e => by cases e; omega),
    own_kept h.own1 hg (fun k hk e => by cases e; have := h.lt1 _ hk; omega), own_kept h.own2 hg (fun k hk e => by cases e; have := h.lt2 _ hk; omega), h.lt1, h.lt2,
    blk_grown h.img hg (fun e => by cases e; omega), own_kept h.own3 hg (fun k hk e => hv k hk (by cases e; rfl)), h.hB, h.hlo, h.hN⟩

theorem spotsTo_length (st : St) (k : Nat) : (spotsTo st k).1.length = k := by
  induction k with
  | zero => rfl
  | succ k ih => simp [spotsTo, ih]

theorem Try.info45 : (Try.prog.info? 45).map (fun i => (i.zero, i.size, i.bytes)) = some (some (.agg #[.string ByteArray.empty, .int .i64 0]), 2, 24) := by kernel_rfl

theorem longM_lt (rest : List UInt8) (short : Bool) : (longM rest short).1 < 4294967296 := readM_takeM 4 rest short (by omega)

set_option maxHeartbeats 1000000 in
theorem load_main (b off : Nat) (len cap : Nat) (bs : List UInt8) (w : World) (hlen : bs.length = len) (hl : len ≤ 400000) (hl6 : 6 ≤ len) (hcap : len ≤ cap) (hcap2 : cap ≤ 9223372036854775807) (hc : Cells w (some ⟨b, off, none⟩) len (u8s bs))
    (hmag : bs.take 4 = magic) (hsum : Crc.crc (bs.take (bs.length - 2)) = readM (bs.drop (bs.length - 2))) :
    Calls Try.prog 13 #[.slice (some ⟨b, off, none⟩) len cap] w (LoadPost (loadM bs) w) := by
  have hr := load_good (by omega) (by omega) hmag hsum
  rw [hlen] at hr hsum
  have Hr := Lib.hid hr
  have hbw : b < w.heap.size := hc.lt (by omega) b off none rfl
  have hc1 : Cells (w.alloc (.cells #[.slice none 0 0, .slice none 0 0, .slice none 0 0] 29)) (some ⟨b, off, none⟩) bs.length (u8s bs) :=
    (Cells.grow hc ((Below.refl _ _).alloc (Nat.le_refl _) _)) |> fun h => by rw [hlen]; exact h
  have hcv := conv_str (cap := cap) (hc1.take (n := 4) (by omega)) (by simp; omega)
  rw [hmag] at hcv
  clear hr
  have f1 : decide ((400000 : Int) < len) = false := decide_eq_false (by omega)
  have f2 : decide ((len : Int) < 6) = false := decide_eq_false (by omega)
  have f3 : (magic == [80, 76, 49, 54]) = true := rfl
  have Hlen := Lib.hid hlen
  clear hlen
  have Q1 := Lib.hid (quiet_crc (cap := cap) (hc1.take (n := bs.length - 2) (by omega)) (by simp) (by rw [Hlen.out]; omega))
  have Q2 := Lib.hid (quiet_read (cap := cap - (len - 2)) (hc1.drop (n := bs.length - 2) (by omega)) rfl (by simp; omega))
  rw [Hlen.out] at Q1 Q2
  rw [hsum] at Q1
  have e2 : (bs.drop (len - 2)).length = len - (len - 2) := by simp [Hlen.out]
  rw [e2] at Q2
  have hrd : Cells (w.alloc (.cells #[.slice none 0 0, .slice none 0 0, .slice none 0 0] 29)) (some ⟨b, off + 4, none⟩) ((bs.take (len - 2)).drop 4).length (u8s ((bs.take (len - 2)).drop 4)) := by
    have h := hc1.take (n := len - 2) (by rw [Hlen.out]; omega)
    have e3 : (bs.take (len - 2)).length = len - 2 := by simp [Hlen.out]
    have h' : Cells (w.alloc (.cells #[.slice none 0 0, .slice none 0 0, .slice none 0 0] 29)) (some ⟨b, off, none⟩) (bs.take (len - 2)).length (u8s (bs.take (len - 2))) := by rw [e3]; exact h
    exact h'.drop (by rw [e3]; omega)
  have hrl : ((bs.take (len - 2)).drop 4).length = len - 2 - 4 := by simp [Hlen.out]
  have Hrl := Lib.hid hrl
  clear e2 hsum hmag hrl
  generalize readM (bs.drop (len - 2)) = y at *
  generalize (bs.take (len - 2)).drop 4 = body at *
  go_enter Try.func13, Try.ntmps13
  go_wp2_with fail
  go_quiet ((first | (go_at_call 8; exact Q1.out _) | (go_at_call 21; exact Q2.out _)))
  go_wp2_with fail
  have hcur : (((w.alloc (.cells #[.slice none 0 0, .slice none 0 0, .slice none 0 0] 29)).drewN nq).alloc (.cells #[.slice (some ⟨b, off + 4, none⟩) (len - 2 - 4) (cap - 4), .bool false] 50)).heap[w.heap.size + 1]? = some (.cells #[.slice (some ⟨b, off + 4, none⟩) (len - 2 - 4) (cap - 4), .bool false] 50 (0, 0)) := by
    have := blk_new ((w.alloc (.cells #[.slice none 0 0, .slice none 0 0, .slice none 0 0] 29)).drewN nq) (.cells #[.slice (some ⟨b, off + 4, none⟩) (len - 2 - 4) (cap - 4), .bool false] 50)
    have hs : ((w.alloc (.cells #[.slice none 0 0, .slice none 0 0, .slice none 0 0] 29)).drewN nq).heap.size = w.heap.size + 1 := by
      show (w.alloc _).heap.size = _
      simp
    rw [hs] at this
    exact this
  have hres : (((w.alloc (.cells #[.slice none 0 0, .slice none 0 0, .slice none 0 0] 29)).drewN nq).alloc (.cells #[.slice (some ⟨b, off + 4, none⟩) (len - 2 - 4) (cap - 4), .bool false] 50)).heap[w.heap.size]? = some resBox :=
    blk_alloc (w := (w.alloc (.cells #[.slice none 0 0, .slice none 0 0, .slice none 0 0] 29)).drewN nq) (blk_new w _) _
  have hbel : Below w.heap.size w (((w.alloc (.cells #[.slice none 0 0, .slice none 0 0, .slice none 0 0] 29)).drewN nq).alloc (.cells #[.slice (some ⟨b, off + 4, none⟩) (len - 2 - 4) (cap - 4), .bool false] 50)) :=
    (below_drewN ((Below.refl _ _).alloc (Nat.le_refl _) _) _).alloc (by show _ ≤ (w.alloc _).heap.size; simp) _
  have hrc : Cells (((w.alloc (.cells #[.slice none 0 0, .slice none 0 0, .slice none 0 0] 29)).drewN nq).alloc (.cells #[.slice (some ⟨b, off + 4, none⟩) (len - 2 - 4) (cap - 4), .bool false] 50)) (some ⟨b, off + 4, none⟩) body.length (u8s body) :=
    Cells.grow (w := (w.alloc (.cells #[.slice none 0 0, .slice none 0 0, .slice none 0 0] 29)).drewN nq) hrd ((Below.refl _ _).alloc (Nat.le_refl _) _)
  generalize ((w.alloc (.cells #[.slice none 0 0, .slice none 0 0, .slice none 0 0] 29)).drewN nq).alloc (.cells #[.slice (some ⟨b, off + 4, none⟩) (len - 2 - 4) (cap - 4), .bool false] 50) = w1 at *
  have hrd1 : Rd w1 (w.heap.size + 1) body false (some ⟨b, off + 4, none⟩) (cap - 4) :=
    ⟨by rw [blk_cell hcur, Hrl.out]; rfl, by rw [blk_cell hcur]; rfl, blk_frozen hcur _, blk_frozen hcur _, hrc, fun _ b' o s e => (by cases e; omega), by rw [Hrl.out]; omega, fun e => (by cases e), fun b' o s e => (by cases e; rfl), by omega⟩
  clear hrc hcur hrd hc1 hcv Q1 Q2 hc
  have hw1s := blk_lt hres
  refine (rlist_any (w.heap.size + 1) body false _ _ w1 hrd1).mono ?_
  rintro e w2 ⟨v1, rfl, hown1, ⟨a2, cap2, hrd2⟩, hg2⟩
  have hN1 := hrd1.lt
  clear hrd1
  obtain ⟨av1, cv1, hv1⟩ := owns_form hown1
  subst hv1
  go_wp2_with fail
  refine (rlist_any (w.heap.size + 1) _ _ _ _ w2 hrd2).mono ?_
  rintro e w3 ⟨v2, rfl, hown2, hrd3, hg3⟩
  clear hrd2
  obtain ⟨av2, cv2, hv2⟩ := owns_form hown2
  subst hv2
  have hsz2 := hg2.size
  have hsz3 := hg3.size
  have hres3 := blk_grown (blk_grown hres hg2 (fun e => by simp at e)) hg3 (fun e => by simp at e)
  have hbel3 := (hbel.grown hg2 (by omega) (fun k e => by simp at e; omega)).grown hg3 (by omega) (fun k e => by simp at e; omega)
  have hown1' := own_kept hown1 hg3 (fun k hk e => by have := (World.ownsRow.lt hown1 k hk).1; simp at e; omega)
  have hl1 := fun k hk => (World.ownsRow.lt hown1' k hk).2
  have hl2 := fun k hk => (World.ownsRow.lt hown2 k hk).2
  have hli : ∀ v1 v2 ws us st, OwnsInts w1.heap.size w3 v1 ws → OwnsInts w2.heap.size w3 v2 us → RdSt w3 (w.heap.size + 1) st →
      LI w (w3.alloc (.cells #[v1, v2, .slice none 0 0] 29)) (w.heap.size + 1) w3.heap.size w1.heap.size v1 v2 (.slice none 0 0) ws us [] st := by
    rintro v1 v2 ws us st h1 h2 ⟨a, c, h3⟩
    have hg := World.grownBy_alloc w3 (.cells #[v1, v2, .slice none 0 0] 29) none
    exact ⟨⟨a, c, h3.kept hg (fun k e => by cases e)⟩, hbel3.alloc (by omega) _, blk_alloc hres3 _, World.ownsRow.alloc h1 _, World.ownsRow.alloc (ownsRow_base h2 hsz2) _,
      fun k hk => (World.ownsRow.lt h1 k hk).2, fun k hk => (World.ownsRow.lt h2 k hk).2, blk_new _ _, World.ownsRow_nil _ _ _ _, rfl, hN1, by omega⟩
  have hli2 := hli _ _ _ _ _ hown1' hown2 hrd3
  clear hli hl1 hl2 hown1 hown1' hown2 hrd3 hg2 hg3 hres hbel hres3 hbel3
  have Hb : Hid (bodyLoad body = (⟨toInts (listM body false).1, toInts (listM (listM body false).2.1 (listM body false).2.2).1, (spotsTo (manyM 5 (listM (listM body false).2.1 (listM body false).2.2).2.1 (listM (listM body false).2.1 (listM body false).2.2).2.2).2 (manyM 5 (listM (listM body false).2.1 (listM body false).2.2).2.1 (listM (listM body false).2.1 (listM body false).2.2).2.2).1).1⟩, (spotsTo (manyM 5 (listM (listM body false).2.1 (listM body false).2.2).2.1 (listM (listM body false).2.1 (listM body false).2.2).2.2).2 (manyM 5 (listM (listM body false).2.1 (listM body false).2.2).2.1 (listM (listM body false).2.1 (listM body false).2.2).2.2).1).2)) := rfl
  have hn := manyM_lt 5 (listM (listM body false).2.1 (listM body false).2.2).2.1 (listM (listM body false).2.1 (listM body false).2.2).2.2
  obtain ⟨a3, cap3, hrd3⟩ := hli2.rd
  have Hm := Lib.hid (many_any (w.heap.size + 1) 5 (by omega) (by omega) _ _ _ _ _ hrd3)
  clear hrd3
  go_wp2_with fail
  generalize manyM 5 (listM (listM body false).2.1 (listM body false).2.2).2.1 (listM (listM body false).2.1 (listM body false).2.2).2.2 = q3 at *
  generalize (listM (listM body false).2.1 (listM body false).2.2).2 = st2 at *
  generalize (listM (listM body false).2.1 (listM body false).2.2).1 = us at *
  generalize (listM body false).1 = ws at *
  obtain ⟨n, st3⟩ := q3
  simp only at hn Hm Hb
  have hN6 : w3.heap.size < (w3.alloc (.cells #[.slice av1 ws.length cv1, .slice av2 us.length cv2, .slice none 0 0] 29)).heap.size := by simp
  generalize w3.alloc (.cells #[.slice av1 ws.length cv1, .slice av2 us.length cv2, .slice none 0 0] 29) = w4 at *
  generalize w3.heap.size = N6 at *
  generalize w1.heap.size = lo at *
  refine Hm.out.mono ?_
  rintro e w5 ⟨rfl, hrd5, hg5⟩
  have hli5 := hli2.reader hg5 hrd5
  clear hli2 hrd5 hg5 Hm
  go_wp2_with fail
  go_loopw [7, 8, 49] (fun _ _ i wr => ∃ k : Nat, k ≤ n ∧ i = .int .i64 k ∧ ∃ vs, LI w wr (w.heap.size + 1) N6 lo (.slice av1 ws.length cv1) (.slice av2 us.length cv2) vs ws us (spotsTo st3 k).1 (spotsTo st3 k).2) (fun _ _ i _ => n - (intOf i).toNat)
  case atStart => exact ⟨0, by omega, rfl, _, hli5⟩
  case round =>
    obtain ⟨k, hk, rfl, vs, hli⟩ := hrel
    clear hli5
    by_cases hlt : k < n
    · obtain ⟨i0, hi, hz0, hz1, hz2⟩ := info_parts Try.info45
      have hlen := Lib.hid (spotsTo_length st3 k)
      have hs1 := Lib.hid (show (spotsTo st3 (k + 1)).1 = (spotsTo st3 k).1 ++ [(spotAt (spotsTo st3 k).2).1] from rfl)
      have hs2 := Lib.hid (show (spotsTo st3 (k + 1)).2 = (spotAt (spotsTo st3 k).2).2 from rfl)
      generalize (spotsTo st3 k).1 = sp at *
      generalize (spotsTo st3 k).2 = st at *
      obtain ⟨rest, short⟩ := st
      have hN6' := hli.hN
      have hloB := hli.hlo
      obtain ⟨ar, capr, hrd⟩ := hli.rd
      have Ht := Lib.hid (take_any (w.heap.size + 1) 1 rest short ar capr wr hrd (by omega))
      have hsa := Lib.hid (show spotAt (rest, short) = ((⟨(takeM ((takeM 1 rest short).1.getD 0 0).toNat (takeM 1 rest short).2.1 (takeM 1 rest short).2.2).1.toArray⟩,
        ((longM (takeM ((takeM 1 rest short).1.getD 0 0).toNat (takeM 1 rest short).2.1 (takeM 1 rest short).2.2).2.1 (takeM ((takeM 1 rest short).1.getD 0 0).toNat (takeM 1 rest short).2.1 (takeM 1 rest short).2.2).2.2).1 : Int)),
        (longM (takeM ((takeM 1 rest short).1.getD 0 0).toNat (takeM 1 rest short).2.1 (takeM 1 rest short).2.2).2.1 (takeM ((takeM 1 rest short).1.getD 0 0).toNat (takeM 1 rest short).2.1 (takeM 1 rest short).2.2).2.2).2) from rfl)
      clear hrd
      go_wp2_with fail
      refine Ht.out.mono ?_
      rintro e w6 ⟨a6, cap6, a7, cap7, rfl, hc6, hr6, hg6⟩
      have hli6 := hli.reader hg6 ⟨_, _, hr6⟩
      obtain ⟨b6, o6, ha6, hcell6⟩ := hc6.at (k := 0) (by omega)
      subst ha6
      have hb256 := ((takeM 1 rest short).1.getD 0 0).toNat_lt
      unfold u8s at hcell6
      rw [Nat.add_zero] at hcell6
      generalize ((takeM 1 rest short).1.getD 0 0).toNat = c at *
      generalize (takeM 1 rest short).2 = q1 at *
      obtain ⟨rest1, short1⟩ := q1
      simp only at hr6 hsa
      have Ht2 := Lib.hid (take_any (w.heap.size + 1) c rest1 short1 a7 cap7 w6 hr6 (by omega))
      have htl := Lib.hid (takeM_length c rest1 short1)
      clear Ht hr6 hg6 hli hc6
      go_wp2_with fail
      refine Ht2.out.mono ?_
      rintro e w7 ⟨a8, cap8, a9, cap9, rfl, hc8, hr8, hg8⟩
      have hli7 := hli6.reader hg8 ⟨_, _, hr8⟩
      have hcv := conv_str (cap := cap8) hc8 htl.out
      generalize (takeM c rest1 short1).1 = nm at *
      generalize (takeM c rest1 short1).2 = q2 at *
      obtain ⟨rest2, short2⟩ := q2
      simp only at hr8 hsa
      have hli8 := hli7.grown (World.grownBy_alloc w7 (.cells #[.string ⟨nm.toArray⟩, .int .i64 0] 45) none)
      have hbox8 := blk_new w7 (.cells #[.string ⟨nm.toArray⟩, .int .i64 0] 45)
      have hN7 : N6 < w7.heap.size := blk_lt hli7.img
      have hvs7 := fun k hk => (World.ownsRow.lt hli7.own3 k hk).2
      obtain ⟨a10, cap10, hr10⟩ := hli8.rd
      have Hl := Lib.hid (long_any (w.heap.size + 1) rest2 short2 a10 cap10 _ hr10)
      have hlx := longM_lt rest2 short2
      clear hli6 hli7 hr8 hg8 hc8 Ht2 hr10
      go_wp2_with fail
      refine Hl.out.mono ?_
      rintro e w9 ⟨rfl, hr9, hg9⟩
      have hli9 := hli8.reader hg9 hr9
      have hbox9 := blk_grown hbox8 hg9 (fun e => by simp at e; omega)
      clear hli8 hbox8 hg9 hr9 Hl hcv
      generalize (longM rest2 short2).1 = x at *
      generalize (longM rest2 short2).2 = q3 at *
      have hsz9 := blk_lt hbox9
      have hli10 := hli9.other (grownBy_setCell (grownBy_refl w9 (some w7.heap.size)) (o := 1) (.int .i64 (x : Int))) hN7 (fun k hk => by have := hvs7 k hk; omega)
      have hbox10 := blk_set hbox9 1 (.int .i64 (x : Int))
      have s1 : w9.cell? ⟨w7.heap.size, 1, none⟩ = some (.int .i64 0) := blk_cell hbox9 1
      have z1 := blk_frozen hbox9 1
      have himg10 := hli10.img
      have i2 : (w9.setCell ⟨w7.heap.size, 1, none⟩ (.int .i64 (x : Int))).cell? ⟨N6, 2, none⟩ = some vs := blk_cell himg10 2
      have y2 := blk_frozen himg10 2
      have t0 : (w9.setCell ⟨w7.heap.size, 1, none⟩ (.int .i64 (x : Int))).cell? ⟨w7.heap.size, 0, none⟩ = some (.string ⟨nm.toArray⟩) := blk_cell hbox10 0
      have t1 : (w9.setCell ⟨w7.heap.size, 1, none⟩ (.int .i64 (x : Int))).cell? ⟨w7.heap.size, 1, none⟩ = some (.int .i64 (x : Int)) := blk_cell hbox10 1
      have hs10 : (w9.setCell ⟨w7.heap.size, 1, none⟩ (.int .i64 (x : Int))).heap.size = w9.heap.size := by simp [World.setCell]
      have hN9 := blk_lt himg10
      clear hli9 hbox9 hbox10
      go_wp2_with (at_builtin; refine wpList_append_own _ rfl (.tmp 65) (.tmp 67) 27 rfl (N6 + 1) 45 i0 (.agg #[.string ByteArray.empty, .int .i64 0]) 2 24 Try.underlying27 hi hz0 hz1 hz2 rfl (by decide) _ _ _ rfl (World.ownsRow.alloc hli10.own3 _) ⟨w9.heap.size, 0, none⟩ 1 1 [.string ⟨nm.toArray⟩, .int .i64 (x : Int)] rfl rfl ?c1 ?c2 ?c3 ?c4 ?c5 ?_)
      case c1 =>
        intro j u hu
        rw [addr_add, Nat.zero_add, World.cell?_alloc_at _ _ _ _ hs10.symm]
        match j, hu with
        | 0, hu => exact hu
        | 1, hu => exact hu
      case c2 => intro u hu; simp at hu; rcases hu with rfl | rfl <;> rfl
      case c3 => unfold maxLen; rw [hlen.out]; omega
      case c4 => rw [hlen.out]; omega
      case c5 => rw [World.size_alloc, hs10]; omega
      intro vs' w11 hown11 hgr11 _
      obtain ⟨av', cv', hv'⟩ := owns_form hown11
      subst hv'
      have hli11 := (hli10.grown (World.grownBy_alloc _ (.cells #[.string ⟨nm.toArray⟩, .int .i64 (x : Int)] 45) none)).append (s := (⟨nm.toArray⟩, (x : Int))) hgr11 hown11
      have hv := fun k hk => (World.ownsRow.lt hli10.own3 k hk).1
      have himg11 := blk_grown (blk_alloc himg10 (.cells #[.string ⟨nm.toArray⟩, .int .i64 (x : Int)] 45)) hgr11 (fun e => by have := hv _ e.symm; omega)
      have i112 : w11.cell? ⟨N6, 2, none⟩ = some vs := blk_cell himg11 2
      have y112 := blk_frozen himg11 2
      rw [hsa.out] at hs1 hs2
      simp only at hs1 hs2
      rw [← hs1.out, ← hs2.out] at hli11
      clear hown11 hgr11 himg10 i2 y2 t0 t1 hli10 himg11 hsa hs1 hs2
      go_wp2_with fail
      go_roundw
      case rel => exact ⟨k + 1, by omega, by go_num, _, hli11⟩
      case measure => simp [intOf]; omega
    · obtain rfl : k = n := by omega
      rw [Hb.out] at Hr
      have himg := hli.img
      have hres := hli.res
      have hbel := hli.below
      obtain ⟨aw, cw, e1, c1, b1⟩ := hli.own1.read
      obtain ⟨au, cu, e2, c2, b2⟩ := hli.own2.read
      simp only [Value.slice.injEq] at e1 e2
      obtain ⟨e11, hl1, e12⟩ := e1
      obtain ⟨e21, hl2, e22⟩ := e2
      subst e11 e12 e21 e22
      obtain ⟨as', cs, e3, c3, b3⟩ := spots_read hli.own3
      have hlo := hli.hlo
      have hN := hli.hN
      obtain ⟨a7, cap7, hrd7⟩ := hli.rd
      subst e3
      generalize spotsTo st3 k = q at *
      obtain ⟨sp, rest, short⟩ := q
      simp only at Hr himg c3 hrd7
      have i0 : wr.cell? ⟨N6, 0, none⟩ = some (.slice av1 ws.length cv1) := blk_cell himg 0
      have i1 : wr.cell? ⟨N6, 1, none⟩ = some (.slice av2 us.length cv2) := blk_cell himg 1
      have i2 : wr.cell? ⟨N6, 2, none⟩ = some (.slice as' sp.length cs) := blk_cell himg 2
      have r0 : wr.cell? ⟨w.heap.size, 0, none⟩ = some (.slice none 0 0) := blk_cell hres 0
      have r1 : wr.cell? ⟨w.heap.size, 1, none⟩ = some (.slice none 0 0) := blk_cell hres 1
      have r2 : wr.cell? ⟨w.heap.size, 2, none⟩ = some (.slice none 0 0) := blk_cell hres 2
      have z0 := blk_frozen hres 0
      have z1 := blk_frozen hres 1
      have z2 := blk_frozen hres 2
      have d0 := hrd7.slice
      have d1 := hrd7.flag
      have Hbad : Hid (∀ wx, Below w.heap.size w wx → loadM bs = (2, emptyImg) → LoadPost (loadM bs) w (.returned (.tuple #[.agg #[.slice none 0 0, .slice none 0 0, .slice none 0 0], .int .i64 2])) wx) := by
        intro wx h e; rw [e]; exact LoadPost.err h
      have Hbel3 : Hid (Below w.heap.size w (((wr.setCell ⟨w.heap.size, 0, none⟩ (.slice none 0 0)).setCell ⟨w.heap.size, 1, none⟩ (.slice none 0 0)).setCell ⟨w.heap.size, 2, none⟩ (.slice none 0 0))) :=
        ((hbel.setCell (Nat.le_refl _) _).setCell (Nat.le_refl _) _).setCell (Nat.le_refl _) _
      by_cases hsh : short = true
      · subst hsh
        have He := Lib.hid (Hr.out.trans (if_pos (.inl rfl)))
        clear Hr hrd7 himg hres hli
        go_wp2_with fail
        exact bodyPost_ret (v := .tuple #[.agg #[.slice none 0 0, .slice none 0 0, .slice none 0 0], .int .i64 2]) (by simp [results, Try.results13, go_sem, *]) rfl (Hbad.out _ Hbel3.out He.out)
      · have hsh' : short = false := by simpa using hsh
        subst hsh'
        by_cases hre : 0 < rest.length
        · have g1 : decide ((0 : Int) < rest.length) = true := decide_eq_true (by omega)
          have He := Lib.hid (Hr.out.trans (if_pos (.inr hre)))
          clear Hr hrd7 himg hres hli
          go_wp2_with fail
          exact bodyPost_ret (v := .tuple #[.agg #[.slice none 0 0, .slice none 0 0, .slice none 0 0], .int .i64 2]) (by simp [results, Try.results13, go_sem, *]) rfl (Hbad.out _ Hbel3.out He.out)
        · have g1 : decide ((0 : Int) < rest.length) = false := decide_eq_false (by omega)
          have Hr2 := Lib.hid (Hr.out.trans (if_neg (by simpa using hre)))
          have Hw := Lib.hid (wrong_any av1 av2 as' ws.length cv1 us.length cv2 sp.length cs (toInts ws) (toInts us) sp wr hl1.symm hl2.symm rfl (by rw [hl1]; exact c1) (by rw [hl2]; exact c2) c3)
          have hb7 := hli.hB
          have Himg : Hid (∀ wx, wr.grownBy wx none → ImgAt (((wx.setCell ⟨w.heap.size, 0, none⟩ (.slice av1 ws.length cv1)).setCell ⟨w.heap.size, 1, none⟩ (.slice av2 us.length cv2)).setCell ⟨w.heap.size, 2, none⟩ (.slice as' sp.length cs))
              (.agg #[.slice av1 ws.length cv1, .slice av2 us.length cv2, .slice as' sp.length cs]) ⟨toInts ws, toInts us, sp⟩) := by
            intro wx hg
            have hg2 : wx.grownBy (((wx.setCell ⟨w.heap.size, 0, none⟩ (.slice av1 ws.length cv1)).setCell ⟨w.heap.size, 1, none⟩ (.slice av2 us.length cv2)).setCell ⟨w.heap.size, 2, none⟩ (.slice as' sp.length cs)) (some w.heap.size) :=
              grownBy_setCell (grownBy_setCell (grownBy_setCell (grownBy_refl _ _) _) _) _
            rw [hl1, hl2]
            rw [hl1] at hg2
            rw [hl2] at hg2
            exact ImgAt.kept (i := ⟨toInts ws, toInts us, sp⟩) hg2 lo (fun k e => by cases e; omega) (c1.kept hg (fun _ _ _ _ _ e => by cases e)) (c2.kept hg (fun _ _ _ _ _ e => by cases e)) (c3.kept hg (fun _ _ _ _ _ e => by cases e))
              b1 b2 (fun b o s e => by have := b3 b o s e; omega)
          clear Hr Hbad Hbel3 c1 c2 c3 hl1 hl2 hli hrd7 b1 b2 b3
          go_wp2_with fail
          refine Hw.out.mono ?_
          unfold WrongPost
          have hwr : w.heap.size < wr.heap.size := blk_lt hres
          generalize wrongM (toInts ws) (toInts us) sp = en at *
          rintro e w6 ⟨rfl, hb6⟩
          have hg6 := below_grown_none hb6
          have himg6 := blk_grown himg hg6 (by simp)
          have hres6 := blk_grown hres hg6 (by simp)
          have hbel6 : Below w.heap.size w w6 := hbel.trans (hb6.mono (by omega))
          have i60 : w6.cell? ⟨N6, 0, none⟩ = some (.slice av1 ws.length cv1) := blk_cell himg6 0
          have i61 : w6.cell? ⟨N6, 1, none⟩ = some (.slice av2 us.length cv2) := blk_cell himg6 1
          have i62 : w6.cell? ⟨N6, 2, none⟩ = some (.slice as' sp.length cs) := blk_cell himg6 2
          have r60 : w6.cell? ⟨w.heap.size, 0, none⟩ = some (.slice none 0 0) := blk_cell hres6 0
          have r61 : w6.cell? ⟨w.heap.size, 1, none⟩ = some (.slice none 0 0) := blk_cell hres6 1
          have r62 : w6.cell? ⟨w.heap.size, 2, none⟩ = some (.slice none 0 0) := blk_cell hres6 2
          have z60 := blk_frozen hres6 0
          have z61 := blk_frozen hres6 1
          have z62 := blk_frozen hres6 2
          have Hbel3 : ∀ x y z, Hid (Below w.heap.size w (((w6.setCell ⟨w.heap.size, 0, none⟩ x).setCell ⟨w.heap.size, 1, none⟩ y).setCell ⟨w.heap.size, 2, none⟩ z)) :=
            fun x y z => ((hbel6.setCell (Nat.le_refl _) _).setCell (Nat.le_refl _) _).setCell (Nat.le_refl _) _
          by_cases hen : en = 0
          · subst hen
            have He := Lib.hid (Hr2.out.trans (if_neg (by simp)))
            have Hi := Lib.hid (Himg.out w6 hg6)
            clear Hr2 himg hres hbel i0 i1 i2 r0 r1 r2 z0 z1 z2 Himg hb6 hg6 himg6 hres6 hbel6 d0 d1
            go_wp2_with fail
            exact bodyPost_ret (v := .tuple #[.agg #[.slice av1 ws.length cv1, .slice av2 us.length cv2, .slice as' sp.length cs], .int .i64 0]) (by simp [results, Try.results13, go_sem, *]) rfl (by rw [He.out]; exact ⟨_, rfl, Hi.out, (Hbel3 _ _ _).out⟩)
          · have g2 : ((en : Int) == 0) = false := t_ne (by omega)
            have He := Lib.hid (Hr2.out.trans (if_pos hen))
            clear Hr2 himg hres hbel i0 i1 i2 r0 r1 r2 z0 z1 z2 Himg hb6 hg6 himg6 hres6 hbel6 d0 d1
            go_wp2_with fail
            exact bodyPost_ret (v := .tuple #[.agg #[.slice none 0 0, .slice none 0 0, .slice none 0 0], .int .i64 en]) (by simp [results, Try.results13, go_sem, *]) rfl (by rw [He.out]; exact LoadPost.err (Hbel3 _ _ _).out)

/-- 'Load' OF ANY BYTES. -/
theorem load_any (a : Option Addr) (len cap : Nat) (bs : List UInt8) (w : World) (hlen : bs.length = len) (hcap : len ≤ cap) (hcap2 : cap ≤ 9223372036854775807) (hc : Cells w a len (u8s bs)) :
    Calls Try.prog 13 #[.slice a len cap] w (LoadPost (loadM bs) w) := by
  by_cases hbad : 400000 < len ∨ len < 6
  · exact load_early a len cap bs w hlen hbad
  · rcases hc with h0 | ⟨b, off, rfl, h⟩
    · omega
    · have hc : Cells w (some ⟨b, off, none⟩) len (u8s bs) := .inr ⟨b, off, rfl, h⟩
      by_cases hm : bs.take 4 = magic
      · by_cases hs : Crc.crc (bs.take (bs.length - 2)) = readM (bs.drop (bs.length - 2))
        · exact load_main b off len cap bs w hlen (by omega) (by omega) hcap hcap2 hc hm hs
        · exact load_sum b off len cap bs w hlen (by omega) (by omega) hcap hc hm hs
      · exact load_magic b off len cap bs w hlen (by omega) (by omega) hcap hc hm
end Go.Proofs.Ytoifodabfpbjlaa
