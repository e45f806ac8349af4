/- contract of object.Load -/
import Derived.Test.YtoifodabfpbjlaaManyA
import Derived.Deep.QuietTactic
import Derived.BigQuiet
import Derived.Lib.BufferRead
namespace Go.Proofs.Ytoifodabfpbjlaa
open Go.RowKit

def spotAt (st : St) : (ByteArray × Int) × St :=
  let t1 := takeM 1 st.1 st.2
  let t2 := takeM (t1.1.getD 0 0).toNat t1.2.1 t1.2.2
  let t3 := longM t2.2.1 t2.2.2
  ((⟨t2.1.toArray⟩, (t3.1 : Int)), t3.2)

def spotsTo (st : St) : Nat → List (ByteArray × Int) × St
  | 0 => ([], st)
  | k + 1 => ((spotsTo st k).1 ++ [(spotAt (spotsTo st k).2).1], (spotAt (spotsTo st k).2).2)

def toInts (l : List Nat) : List Int := l.map fun (n : Nat) => (n : Int)

structure Img where
  ws : List Int
  us : List Int
  sp : List (ByteArray × Int)

def bodyLoad (b : List UInt8) : Img × St :=
  let r1 := listM b false
  let r2 := listM r1.2.1 r1.2.2
  let r3 := manyM 5 r2.2.1 r2.2.2
  let r4 := spotsTo r3.2 r3.1
  (⟨toInts r1.1, toInts r2.1, r4.1⟩, r4.2)

def emptyImg : Img := ⟨[], [], []⟩

def loadM (b : List UInt8) : Nat × Img :=
  if 400000 < b.length then (4, emptyImg)
  else if b.length < 6 ∨ b.take 4 ≠ magic then (2, emptyImg)
  else if Crc.crc (b.take (b.length - 2)) ≠ readM (b.drop (b.length - 2)) then (8, emptyImg)
  else
    let r := bodyLoad ((b.take (b.length - 2)).drop 4)
    if r.2.2 = true ∨ 0 < r.2.1.length then (2, emptyImg)
    else if wrongM r.1.ws r.1.us r.1.sp ≠ 0 then (wrongM r.1.ws r.1.us r.1.sp, emptyImg)
    else (0, r.1)

/-- an image in memory -/
structure ImgAt (w : World) (v : Value) (i : Img) : Prop where
  ex : ∃ aw cw au cu as' cs, v = .agg #[.slice aw i.ws.length cw, .slice au i.us.length cu, .slice as' i.sp.length cs] ∧
    Cells w aw i.ws.length (zints i.ws) ∧ Cells w au i.us.length (zints i.us) ∧ Cells w as' (2 * i.sp.length) (spotsV i.sp)

def LoadPost (r : Nat × Img) (w : World) (e : Ending) (w' : World) : Prop :=
  ∃ v, e = .returned (.tuple #[v, .int .i64 r.1]) ∧ ImgAt w' v r.2 ∧ Below w.heap.size w w'

theorem emptyAt (w : World) : ImgAt w (.agg #[.slice none 0 0, .slice none 0 0, .slice none 0 0]) emptyImg :=
  ⟨none, 0, none, 0, none, 0, rfl, .inl rfl, .inl rfl, .inl rfl⟩

theorem addr_add (b o k : Nat) : (⟨b, o, none⟩ : Addr).add k = ⟨b, o + k, none⟩ := by unfold Addr.add; split <;> simp_all

/-- 'string(b)' of bytes that are known. -/
theorem conv_str {w : World} {a : Option Addr} {n cap : Nat} {l : List UInt8} (h : Cells w a n (u8s l)) (hn : l.length = n) :
    (convert 22 9 (.slice a n cap)).run Try.prog w = .ok (.string ⟨l.toArray⟩) w := by
  subst hn
  cases a with
  | none =>
    have h0 : l.length = 0 := by
      rcases h with h | ⟨_, _, h, _⟩
      · exact h
      · cases h
    have : l = [] := List.eq_nil_of_length_eq_zero h0
    subst this
    exact Lib.run_convert_nil_bytes w 22 9 5 cap Try.underlying22 Try.underlying5 Try.underlying9
  | some ad =>
    refine run_convert_bytes_back w 22 9 5 ad cap l Try.underlying22 Try.underlying5 Try.underlying9 (fun j hj => ?_)
    obtain ⟨b, off, he, hc⟩ := h.at hj
    cases he
    rw [addr_add, hc]
    unfold u8s
    simp [List.getD, hj]

def resBox : Obj := .cells #[.slice none 0 0, .slice none 0 0, .slice none 0 0] 29

theorem LoadPost.err {n : Nat} {w w' : World} (hb : Below w.heap.size w w') :
    LoadPost (n, emptyImg) w (.returned (.tuple #[.agg #[.slice none 0 0, .slice none 0 0, .slice none 0 0], .int .i64 n])) w' := ⟨_, rfl, emptyAt w', hb⟩

set_option maxHeartbeats 400000 in
theorem load_early (a : Option Addr) (len cap : Nat) (bs : List UInt8) (w : World) (hlen : bs.length = len) (hbad : 400000 < len ∨ len < 6) :
    Calls Try.prog 13 #[.slice a len cap] w (LoadPost (loadM bs) w) := by
  by_cases h1 : 400000 < len
  · have hr : loadM bs = (4, emptyImg) := by unfold loadM; rw [if_pos (by omega)]
    rw [hr]
    clear hr hlen hbad
    have f1 : decide ((400000 : Int) < len) = true := decide_eq_true (by omega)
    go_enter Try.func13, Try.ntmps13
    go_wp2_with fail
    exact bodyPost_ret (v := .tuple #[.agg #[.slice none 0 0, .slice none 0 0, .slice none 0 0], .int .i64 4]) (by simp [results, Try.results13, go_sem]) rfl (LoadPost.err ((Below.refl _ _).alloc (Nat.le_refl _) _))
  · have hr : loadM bs = (2, emptyImg) := by unfold loadM; rw [if_neg (by omega), if_pos (.inl (by omega))]
    rw [hr]
    have h2 : len < 6 := by omega
    clear hr hlen hbad
    have f1 : decide ((400000 : Int) < len) = false := decide_eq_false (by omega)
    have f2 : decide ((len : Int) < 6) = true := decide_eq_true (by omega)
    go_enter Try.func13, Try.ntmps13
    go_wp2_with fail
    exact bodyPost_ret (v := .tuple #[.agg #[.slice none 0 0, .slice none 0 0, .slice none 0 0], .int .i64 2]) (by simp [results, Try.results13, go_sem]) rfl (LoadPost.err ((Below.refl _ _).alloc (Nat.le_refl _) _))

set_option maxHeartbeats 400000 in
theorem load_magic (b off : Nat) (len cap : Nat) (bs : List UInt8) (w : World) (hlen : bs.length = len) (hl : len ≤ 400000) (hl6 : 6 ≤ len) (hcap : len ≤ cap) (hc : Cells w (some ⟨b, off, none⟩) len (u8s bs))
    (hbad : bs.take 4 ≠ magic) :
    Calls Try.prog 13 #[.slice (some ⟨b, off, none⟩) len cap] w (LoadPost (loadM bs) w) := by
  have hr : loadM bs = (2, emptyImg) := by unfold loadM; rw [if_neg (by omega), if_pos (.inr hbad)]
  rw [hr]
  have hc4 : Cells (w.alloc (.cells #[.slice none 0 0, .slice none 0 0, .slice none 0 0] 29)) (some ⟨b, off, none⟩) 4 (u8s (bs.take 4)) :=
    Cells.take ((Cells.grow hc ((Below.refl _ _).alloc (Nat.le_refl _) _)) |> fun h => by rw [hlen]; exact h) (by omega)
  have hcv := conv_str (cap := cap) hc4 (by simp; omega)
  have f3 : (bs.take 4 == [80, 76, 49, 54]) = false := by simpa [magic] using hbad
  clear hr hlen hc4 hbad
  have f1 : decide ((400000 : Int) < len) = false := decide_eq_false (by omega)
  have f2 : decide ((len : Int) < 6) = false := decide_eq_false (by omega)
  go_enter Try.func13, Try.ntmps13
  go_wp2_with fail
  exact bodyPost_ret (v := .tuple #[.agg #[.slice none 0 0, .slice none 0 0, .slice none 0 0], .int .i64 2]) (by simp [results, Try.results13, go_sem]) rfl (LoadPost.err ((Below.refl _ _).alloc (Nat.le_refl _) _))

theorem quiet_crc {w : World} {a : Option Addr} {n cap : Nat} {l : List UInt8} (h : Cells w a n (u8s l)) (hl : l.length = n) (hn : n ≤ 1000000) :
    ∀ k, Calls Try.prog 8 #[.slice a n cap] (w.drewN k) (fun e w'' => e = .returned (.int .i64 (Crc.crc l)) ∧ ∃ m, w'' = w.drewN m) := fun k =>
  (crc_any a n cap l (w.drewN k) hl (by omega) h).mono (by rintro e w'' ⟨rfl, rfl⟩; exact ⟨rfl, _, rfl⟩)
theorem quiet_read {w : World} {a : Option Addr} {n cap : Nat} {l : List UInt8} (h : Cells w a n (u8s l)) (hl : l.length = n) (hn : n ≤ 4) :
    ∀ k, Calls Try.prog 21 #[.slice a n cap] (w.drewN k) (fun e w'' => e = .returned (.int .i64 (readM l)) ∧ ∃ m, w'' = w.drewN m) := fun k =>
  (read_any a n cap l (w.drewN k) hl hn h).mono (by rintro e w'' ⟨rfl, rfl⟩; exact ⟨rfl, _, rfl⟩)

set_option maxHeartbeats 400000 in
theorem load_sum (b off : Nat) (len cap : Nat) (bs : List UInt8) (w : World) (hlen : bs.length = len) (hl : len ≤ 400000) (hl6 : 6 ≤ len) (hcap : len ≤ cap) (hc : Cells w (some ⟨b, off, none⟩) len (u8s bs))
    (hmag : bs.take 4 = magic) (hbad : Crc.crc (bs.take (bs.length - 2)) ≠ readM (bs.drop (bs.length - 2))) :
    Calls Try.prog 13 #[.slice (some ⟨b, off, none⟩) len cap] w (LoadPost (loadM bs) w) := by
  have hr : loadM bs = (8, emptyImg) := by unfold loadM; rw [if_neg (by omega), if_neg (by rintro (h | h); omega; exact h hmag), if_pos hbad]
  rw [hr]
  have hc1 : Cells (w.alloc (.cells #[.slice none 0 0, .slice none 0 0, .slice none 0 0] 29)) (some ⟨b, off, none⟩) bs.length (u8s bs) :=
    (Cells.grow hc ((Below.refl _ _).alloc (Nat.le_refl _) _)) |> fun h => by rw [hlen]; exact h
  have hcv := conv_str (cap := cap) (hc1.take (n := 4) (by omega)) (by simp; omega)
  rw [hmag] at hcv
  clear hr
  have f1 : decide ((400000 : Int) < len) = false := decide_eq_false (by omega)
  have f2 : decide ((len : Int) < 6) = false := decide_eq_false (by omega)
  have f3 : (magic == [80, 76, 49, 54]) = true := rfl
  have Hlen := Lib.hid hlen
  clear hlen
  go_enter Try.func13, Try.ntmps13
  go_wp2_with fail
  have Q1 := Lib.hid (quiet_crc (cap := cap) (hc1.take (n := bs.length - 2) (by omega)) (by simp) (by rw [Hlen.out]; omega))
  have Q2 := Lib.hid (quiet_read (cap := cap - (len - 2)) (hc1.drop (n := bs.length - 2) (by omega)) rfl (by simp; omega))
  rw [Hlen.out] at Q1 Q2 hbad
  have f5 : decide ((Crc.crc (bs.take (len - 2)) : Int) = (readM (bs.drop (len - 2)) : Int)) = false := decide_eq_false (by omega)
  have f6 : ((Crc.crc (bs.take (len - 2)) : Int) == (readM (bs.drop (len - 2)) : Int)) = false := t_ne (by omega)
  have e2 : (bs.drop (len - 2)).length = len - (len - 2) := by simp [Hlen.out]
  rw [e2] at Q2
  clear e2 hbad
  generalize Crc.crc (bs.take (len - 2)) = x at *
  generalize readM (bs.drop (len - 2)) = y at *
  go_quiet ((first | (go_at_call 8; exact Q1.out _) | (go_at_call 21; exact Q2.out _)))
  go_wp2_with fail
  exact bodyPost_ret (v := .tuple #[.agg #[.slice none 0 0, .slice none 0 0, .slice none 0 0], .int .i64 8]) (by simp [results, Try.results13, go_sem]) rfl (LoadPost.err ((((below_drewN ((Below.refl _ _).alloc (Nat.le_refl _) _) _).setCell (Nat.le_refl _) _).setCell (Nat.le_refl _) _).setCell (Nat.le_refl _) _))

/-- where the walk of a file goes on, its sum being right -/
theorem load_good {bs : List UInt8} (h1 : ¬ 400000 < bs.length) (h2 : ¬ bs.length < 6) (hmag : bs.take 4 = magic) (hsum : Crc.crc (bs.take (bs.length - 2)) = readM (bs.drop (bs.length - 2))) :
    loadM bs =
      (if (bodyLoad ((bs.take (bs.length - 2)).drop 4)).2.2 = true ∨ 0 < (bodyLoad ((bs.take (bs.length - 2)).drop 4)).2.1.length then (2, emptyImg)
       else if wrongM (bodyLoad ((bs.take (bs.length - 2)).drop 4)).1.ws (bodyLoad ((bs.take (bs.length - 2)).drop 4)).1.us (bodyLoad ((bs.take (bs.length - 2)).drop 4)).1.sp ≠ 0 then
         (wrongM (bodyLoad ((bs.take (bs.length - 2)).drop 4)).1.ws (bodyLoad ((bs.take (bs.length - 2)).drop 4)).1.us (bodyLoad ((bs.take (bs.length - 2)).drop 4)).1.sp, emptyImg)
       else (0, (bodyLoad ((bs.take (bs.length - 2)).drop 4)).1)) := by
  unfold loadM
  rw [if_neg h1, if_neg (by rintro (h | h); exact h2 h; exact h hmag), if_neg (by simpa using hsum)]

/-! ### blocks that are known whole -/
theorem blk_cell {w : World} {b : Nat} {c : Array Value} {t : TypeId} (h : w.heap[b]? = some (.cells c t (0, 0))) (j : Nat) : w.cell? ⟨b, j, none⟩ = c[j]? := by
  simp [World.cell?, h]
theorem blk_frozen {w : World} {b : Nat} {c : Array Value} {t : TypeId} (h : w.heap[b]? = some (.cells c t (0, 0))) (j : Nat) : w.frozen? ⟨b, j, none⟩ = false := by
  simp [World.frozen?, h]
theorem blk_lt {w : World} {b : Nat} {o : Obj} (h : w.heap[b]? = some o) : b < w.heap.size := (Array.getElem?_eq_some_iff.1 h).1
theorem blk_new (w : World) (o : Obj) : (w.alloc o).heap[w.heap.size]? = some o := heap_alloc_new w o
theorem blk_alloc {w : World} {b : Nat} {o : Obj} (h : w.heap[b]? = some o) (o' : Obj) : (w.alloc o').heap[b]? = some o := by
  rw [Below.heap_alloc w o' b (blk_lt h)]; exact h
theorem blk_grown {w w' : World} {b : Nat} {o : Obj} {row : Option Nat} (h : w.heap[b]? = some o) (hg : w.grownBy w' row) (hr : some b ≠ row) : w'.heap[b]? = some o := by
  rw [hg.block b (blk_lt h) hr]; exact h
theorem blk_set {w : World} {b : Nat} {c : Array Value} {t : TypeId} (h : w.heap[b]? = some (.cells c t (0, 0))) (j : Nat) (v : Value) :
    (w.setCell ⟨b, j, none⟩ v).heap[b]? = some (.cells (c.setIfInBounds j v) t (0, 0)) := by
  simp [World.setCell, Array.getElem?_modify, h]
theorem blk_other {w : World} {b : Nat} {o : Obj} (h : w.heap[b]? = some o) (a : Addr) (v : Value) (hne : b ≠ a.block) : (w.setCell a v).heap[b]? = some o := by
  rw [Below.heap_setCell _ _ _ _ hne]; exact h

def spCells (sp : List (ByteArray × Int)) : List Value := sp.flatMap fun s => [.string s.1, .int .i64 s.2]

/-- WHAT HOLDS WHILE THE SPOTS ARE READ. -/
structure LI (w wr : World) (B N6 lo : Nat) (v1 v2 vs : Value) (ws us : List Nat) (sp : List (ByteArray × Int)) (st : St) : Prop where
  rd : RdSt wr B st
  below : Below w.heap.size w wr
  res : wr.heap[w.heap.size]? = some resBox
  own1 : OwnsInts lo wr v1 ws
  own2 : OwnsInts lo wr v2 us
  lt1 : ∀ k, v1.ownBlock = some k → k < N6
  lt2 : ∀ k, v2.ownBlock = some k → k < N6
  img : wr.heap[N6]? = some (.cells #[v1, v2, vs] 29 (0, 0))
  own3 : wr.ownsRow (N6 + 1) 45 2 vs sp.length (spCells sp)
  hB : B = w.heap.size + 1
  hlo : B < lo
  hN : lo ≤ N6

theorem own_kept {w w' : World} {base : Nat} {e : TypeId} {size : Nat} {v : Value} {n : Nat} {xs : List Value} {row : Option Nat} (h : w.ownsRow base e size v n xs) (hg : w.grownBy w' row)
    (hr : ∀ k, v.ownBlock = some k → some k ≠ row) : w'.ownsRow base e size v n xs :=
  World.ownsRow.kept h hg (by
    cases hv : v.ownBlock with
    | none => exact .inl rfl
    | some b => right; exact hr b hv)

theorem LI.reader {w wr w' : World} {B N6 lo : Nat} {v1 v2 vs : Value} {ws us : List Nat} {sp : List (ByteArray × Int)} {st st' : St} (h : LI w wr B N6 lo v1 v2 vs ws us sp st)
    (hg : wr.grownBy w' (some B)) (hr : RdSt w' B st') : LI w w' B N6 lo v1 v2 vs ws us sp st' := by
  have hB := h.hB
  have hlo := h.hlo
  have hN := h.hN
  have hb : w.heap.size < wr.heap.size := blk_lt h.res
  exact ⟨hr, h.below.grown hg (by omega) (fun k e => by cases e; omega), blk_grown h.res hg (fun e => by cases e; omega), own_kept h.own1 hg (fun k hk e => by cases e; have := (World.ownsRow.lt h.own1 _ hk).1; omega),
    own_kept h.own2 hg (fun k hk e => by cases e; have := (World.ownsRow.lt h.own2 _ hk).1; omega), h.lt1, h.lt2, blk_grown h.img hg (fun e => by cases e; omega),
    own_kept h.own3 hg (fun k hk e => by cases e; have := (World.ownsRow.lt h.own3 _ hk).1; omega), h.hB, h.hlo, h.hN⟩

theorem LI.grown {w wr w' : World} {B N6 lo : Nat} {v1 v2 vs : Value} {ws us : List Nat} {sp : List (ByteArray × Int)} {st : St} (h : LI w wr B N6 lo v1 v2 vs ws us sp st)
    (hg : wr.grownBy w' none) : LI w w' B N6 lo v1 v2 vs ws us sp st := by
  have hb : w.heap.size < wr.heap.size := blk_lt h.res
  obtain ⟨a, cap, hr⟩ := h.rd
  exact ⟨⟨a, cap, hr.kept hg (fun k e => by cases e)⟩, h.below.grown hg (by omega) (fun k e => by cases e), blk_grown h.res hg (by simp), own_kept h.own1 hg (by simp), own_kept h.own2 hg (by simp), h.lt1, h.lt2,
    blk_grown h.img hg (by simp), own_kept h.own3 hg (by simp), h.hB, h.hlo, h.hN⟩

theorem LI.append {w wr w' : World} {B N6 lo : Nat} {v1 v2 vs vs' : Value} {ws us : List Nat} {sp : List (ByteArray × Int)} {st : St} {s : ByteArray × Int} (h : LI w wr B N6 lo v1 v2 vs ws us sp st)
    (hg : wr.grownBy w' vs.ownBlock) (ho : w'.ownsRow (N6 + 1) 45 2 vs' (sp.length + 1) (spCells sp ++ [.string s.1, .int .i64 s.2])) :
    LI w (w'.setCell ⟨N6, 2, none⟩ vs') B N6 lo v1 v2 vs' ws us (sp ++ [s]) st := by
  have hB := h.hB
  have hlo := h.hlo
  have hN := h.hN
  have hb : w.heap.size < wr.heap.size := blk_lt h.res
  have h3 := fun k hk => (World.ownsRow.lt h.own3 k hk).1
  have hset : ∀ row : Option Nat, row = some N6 → w'.grownBy (w'.setCell ⟨N6, 2, none⟩ vs') row := fun row e => by rw [e]; exact grownBy_setCell (grownBy_refl _ _) _
  have hs := hset (some N6) rfl
  obtain ⟨a, cap, hr⟩ := h.rd
  have hsz := hg.size
  refine ⟨⟨a, cap, (hr.kept hg (fun k e => by have := h3 k e; omega)).kept hs (fun k e => by cases e; omega)⟩, (h.below.grown hg (by omega) (fun k e => by have := h3 k e; omega)).grown hs (by omega) (fun k e => by cases e; omega),
    blk_grown (blk_grown h.res hg (fun e => by have := h3 _ e.symm; omega)) hs (fun e => by cases e; omega),
    own_kept (own_kept h.own1 hg (fun k hk e => by have := h3 k e.symm; have := h.lt1 k hk; omega)) hs (fun k hk e => by cases e; have := h.lt1 _ hk; omega),
    own_kept (own_kept h.own2 hg (fun k hk e => by have := h3 k e.symm; have := h.lt2 k hk; omega)) hs (fun k hk e => by cases e; have := h.lt2 _ hk; omega), h.lt1, h.lt2,
    blk_set (blk_grown h.img hg (fun e => by have := h3 _ e.symm; omega)) 2 vs', ?_, h.hB, h.hlo, h.hN⟩
  have ho' := own_kept ho hs (fun k hk e => by cases e; have := (World.ownsRow.lt ho _ hk).1; omega)
  unfold spCells at ho' ⊢
  rw [List.flatMap_append, List.length_append]
  exact ho'

end Go.Proofs.Ytoifodabfpbjlaa
