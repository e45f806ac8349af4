/-
  Texts joined: RnG RnH RnI WantF.
-/
import Derived.Test.YtgmmfjmdpbhjnaaGreatJRb
import Derived.Lib.BufferRead
/-
  play: a program of the shelf is read, and run.
-/
namespace Go.Proofs.YtgmmfjmdpbhjnaaGreat
open Go Go.RowKit Go.XM

/-- a program's text by its name, on paper -/
noncomputable def xT (nn nl : Nat) : Option (Nat × Nat) := oif (Nat.blt nn (Nat.pow 256 nl)) <| ob (runC 120 false ⟨.nil, 0⟩ 28 [.a (.s (.str nn nl))]) fun r => match r.1 with
  | .tup [.s (.str tn tl), .s (.i .i64 (.ofNat 0))] => oif (Nat.blt tn (Nat.pow 256 tl)) (some (tn, tl))
  | _ => none
/-- a program that was read is made ready, on paper -/
noncomputable def xB (d : Nat) (p1 p2 : S) (L : List (Nat × List S × Nat)) (next : Nat) : Option Rdy := ob (litT L) fun t => ob (xRun ⟨t, next⟩ (.a (.ag [p1, p2]))) fun q => oif (Nat.beq q.2.1 50) (ob (rRdy d q.1.hp q.2.2) fun rq => oif (chkRun q.1 rq.1.1 rq.1.2).isSome (some rq.2))
/-- a program by its name, made ready -/
def Played (nn nl : Nat) (rdy : Rdy) : Prop := ∃ tn tl p1 p2 L next t d, xT nn nl = some (tn, tl) ∧ litT L = some t ∧ (isSlS p1 && isSlS p2) = true ∧
  CallsAt 29 [.a (.s (.str tn tl))] ⟨.nil, 0⟩ (.tup [.ag [p1, p2], .ag [.i .i64 (.ofNat 0), .i .i64 (.ofNat 0)]]) ⟨t, next⟩ ∧ xB d p1 p2 L next = some rdy

/-- bytes that come in, in the world -/
def InpIn (w : World) (a : Option Addr) (inp : List Nat) : Prop :=
  inp.length ≤ 65536 ∧ ∀ (k v : Nat), inp[k]? = some v → v < 256 ∧ ∃ b off cur t fz, a = some ⟨b, off, none⟩ ∧ w.heap[b]? = some (.cells cur t fz) ∧ cur[off + k]? = some (.int .u8 v)

theorem rel_below {U : UU} {m : M} {h : Hp} {w w' : World} (r : Rel U w ⟨fun c => c < w.heap.size, fun _ _ => False⟩ m h w') : Below w.heap.size w w' := ⟨r.os, r.tape, r.output, r.size, fun c hc => (r.keep c hc).2.1⟩

theorem isSlS_ok {U : UU} {m : M} {s : S} {v : Value} (e : isSlS s = true) (hd : s.den U m = some v) : ∃ a n c, v = .slice a n c := by
  unfold isSlS at e
  split at e
  · cases hd; exact ⟨_, _, _, rfl⟩
  · obtain ⟨c, x, _, _, rfl⟩ := den_slE (U := U) (m := m) hd; exact ⟨_, _, _, rfl⟩
  · cases e
/-- What the texts of the shelf do when they are played. -/
theorem parts_ok {nn nl : Nat} {rdy : Rdy} (h : Played nn nl rdy) : ∃ tx : ByteArray,
    (∀ w, Calls Tryz.prog 28 #[.string (unB nn nl)] w fun e w' => e = .returned (.tuple #[.string tx, .int .i64 0]) ∧ Below w.heap.size w w') ∧
    ∀ (w : World) (a : Option Addr) (c : Nat) (inp : List Nat), inp.length ≤ 65536 → Calls Tryz.prog 29 #[.string tx] w fun e w' => ∃ s1 n1 c1 s2 n2 c2, e = .returned (.tuple #[.agg #[.slice s1 n1 c1, .slice s2 n2 c2], .agg #[.int .i64 0, .int .i64 0]]) ∧ Below w.heap.size w w' ∧
      ∀ w2, Below w'.heap.size w' w2 → InpIn w a inp → ∀ n rx, evF inp rdy.bd n rdy.k [] ⟨0, [], 0, 0, rdy.gl⟩ = some rx →
        Calls Tryz.prog 30 #[.agg #[.slice s1 n1 c1, .slice s2 n2 c2], .slice a inp.length c, .int .i64 200000] w2 fun e w3 => ∃ u, e = .returned u ∧ Keep (fun c => c < w.heap.size ∨ (w'.heap.size ≤ c ∧ c < w2.heap.size)) w2 w3 ∧ ToldAt (fun c => c < w.heap.size ∨ (w'.heap.size ≤ c ∧ c < w2.heap.size)) w3 rx u := by
  obtain ⟨tn, tl, p1, p2, L, next, t, d, hT, eT, es, hA, hB⟩ := h
  obtain ⟨e0, hT⟩ := oif_some hT
  have e0 : nn < 256 ^ nl := blt_iff.1 e0
  obtain ⟨r, e1, hT⟩ := ob_some hT
  split at hT
  · rename_i tn' tl' hr
    obtain ⟨et, hT⟩ := oif_some hT
    cases hT
    have et : tn < 256 ^ tl := blt_iff.1 et
    obtain ⟨r1, rh⟩ := r
    simp only at hr
    subst hr
    obtain ⟨t', eT', hB⟩ := ob_some hB
    rw [eT] at eT'; cases eT'
    obtain ⟨q, e2, hB⟩ := ob_some hB
    obtain ⟨e3, hB⟩ := oif_some hB
    obtain ⟨rq, e4, hB⟩ := ob_some hB
    obtain ⟨e5, hB⟩ := oif_some hB
    cases hB
    simp only [Bool.and_eq_true] at es
    have strD : ∀ {U : UU} {m : M} {n l : Nat}, n < 256 ^ l → denVL U m [.a (.s (.str n l))] = some [.string (unB n l)] := fun {U m n l} hl => by
      show ob (oif (decide (n < 256 ^ l)) (some (Value.string (unB n l)))) (fun v => ob (some []) fun r => some (v :: r)) = _
      rw [decide_eq_true hl]; rfl
    refine ⟨unB tn tl, fun w => ?_, fun w a c inp hlen => ?_⟩
    · have U : UU := ⟨ByteArray.empty, fun _ => .slice none 0 0, ⟨none, 0, 0, rfl, by omega⟩, fun _ => rfl⟩
      have r0 := rel_none U w (fun c => c < w.heap.size) fun c h => h
      refine ((runC_ok 120).run r0 (strD e0) e1).2.mono fun e w' he => ?_
      obtain ⟨m', u, rfl, hle, hr', hd⟩ := he
      obtain ⟨us, k1, hd⟩ := ob_some hd
      obtain ⟨u1, k2, k1⟩ := ob_some k1
      obtain ⟨l1, k3, k1⟩ := ob_some k1
      obtain ⟨_, rfl⟩ := den_strE (U := U) (m := m') k2
      have k3 : some [Value.int .i64 0] = some l1 := k3
      cases k3; cases k1; cases hd
      exact ⟨rfl, rel_below hr'⟩
    · obtain ⟨U, hU⟩ : ∃ U : UU, U.k 0 = .slice a inp.length c := ⟨⟨ByteArray.empty, fun _ => .slice a inp.length c, ⟨a, inp.length, c, rfl, hlen⟩, fun _ => rfl⟩, rfl⟩
      have r0 := rel_none U w (fun c => c < w.heap.size) fun c h => h
      refine (hA _ _ _ _ _ _ r0 (strD et)).mono fun e w' he => ?_
      obtain ⟨m', u, rfl, hle, hr', hd⟩ := he
      obtain ⟨us, k1, hd⟩ := ob_some hd
      obtain ⟨u1, k2, k1⟩ := ob_some k1
      obtain ⟨l1, k3, k1⟩ := ob_some k1
      have k3 : some [Value.agg #[.int .i64 0, .int .i64 0]] = some l1 := k3
      cases k3; cases k1; cases hd
      obtain ⟨vs, k4, rfl⟩ := den_agE (U := U) (m := m') k2
      obtain ⟨v1, d1, k4⟩ := ob_some k4
      obtain ⟨l2, k5, k4⟩ := ob_some k4
      obtain ⟨v2, d2, k5⟩ := ob_some k5
      cases k5; cases k4
      obtain ⟨s1, n1, c1, rfl⟩ := isSlS_ok es.1 d1
      obtain ⟨s2, n2, c2, rfl⟩ := isSlS_ok es.2 d2
      refine ⟨s1, n1, c1, s2, n2, c2, rfl, rel_below hr', fun w2 hb hin n rx hev => ?_⟩
      have hn := rel_nest hr' hb
      rw [← hU]
      have hi : InpW ⟨fun c => (c < w.heap.size) ∨ (w'.heap.size ≤ c ∧ c < w2.heap.size), fun _ _ => False⟩ w2 U inp := by
        refine ⟨hlen, a, c, hU, fun k v hk => ?_⟩
        obtain ⟨h1, b, off, cur, t, fz, h2, h3, h4⟩ := hin.2 k v hk
        have hlt : b < w.heap.size := blk_lt h3
        refine ⟨h1, b, off, cur, t, fz, h2, .inl hlt, ?_, h4⟩
        rw [hb.block b (by have := hr'.size; omega), (rel_below hr').block b hlt]; exact h3
      exact run_ok hn hi d1 d2 e2 (Nat.eq_of_beq_eq_true e3) e4 e5 hev
  · cases hT
end Go.Proofs.YtgmmfjmdpbhjnaaGreat

/-
  play and tells.
-/
namespace Go.Proofs.YtgmmfjmdpbhjnaaGreat
open Go Go.RowKit Go.XM

theorem InpIn.below {w w' : World} {a : Option Addr} {inp : List Nat} (h : InpIn w a inp) (hb : Below w.heap.size w w') : InpIn w' a inp :=
  ⟨h.1, fun k v hk => let ⟨h1, b, off, cur, t, fz, h2, h3, h4⟩ := h.2 k v hk; ⟨h1, b, off, cur, t, fz, h2, (hb.block b (blk_lt h3)).trans h3, h4⟩⟩

set_option maxHeartbeats 400000 in
set_option maxRecDepth 100000 in
theorem play_ok {nn nl : Nat} {rdy : Rdy} (h : Played nn nl rdy) {inp : List Nat} {n : Nat} {rx : Rx} (he : evF inp rdy.bd n rdy.k [] ⟨0, [], 0, 0, rdy.gl⟩ = some rx) {w : World} {a : Option Addr} {c : Nat} (hin : InpIn w a inp) :
    Calls Tryz.prog 23 #[.string (unB nn nl), .slice a inp.length c] w fun e w' => ∃ u, e = .returned (.tuple #[u, .bool true]) ∧ Below w.heap.size w w' ∧ ToldAt (fun c => c < w.heap.size) w' rx (.tuple #[u, .agg #[.int .i64 0, .int .i64 0]]) := by
  obtain ⟨tx, C1, C2⟩ := parts_ok h
  have HC1 := Lib.hid C1
  have HC2 := Lib.hid fun w => C2 w a c inp hin.1
  have HI := Lib.hid hin
  have HE := Lib.hid he
  clear C1 C2 hin he h
  generalize unB nn nl = nm at *
  obtain ⟨len, hlen⟩ : ∃ len, len = inp.length := ⟨_, rfl⟩
  have HL := Lib.hid hlen
  rw [← hlen]
  clear hlen
  go_enter Tryz.func23, Tryz.ntmps23
  go_wp2_with fail
  refine (HC1.out _).mono ?_
  rintro e w1 ⟨rfl, hb1⟩
  have b4 := (hb1.block _ (by rw [alloc_sz]; omega)).trans (heap_alloc_new w (.cells #[.int .i64 0, .int .i64 0, .slice none 0 0, .int .i64 0, .int .i64 0, .int .u64 0] 33))
  have HB4 := Lib.hid b4
  have HB1 := Lib.hid hb1
  clear hb1 b4
  go_wp2_with fail
  refine (HC2.out _).mono ?_
  rintro e w2 ⟨s1, n1, c1, s2, n2, c2, rfl, hb2, hrun⟩
  have HB2 := Lib.hid hb2
  have HRUN := Lib.hid hrun
  clear hb2 hrun
  go_wp2_with fail
  have hb4 : Below w2.heap.size w2 ((w2.alloc (.cells #[.slice s1 n1 c1, .slice s2 n2 c2] 49)).alloc (.cells #[.int .i64 0, .int .i64 0] 51)) :=
    ⟨rfl, rfl, rfl, by rw [alloc_sz, alloc_sz]; omega, fun b hb => by rw [Below.heap_alloc _ _ _ (by rw [alloc_sz]; omega), Below.heap_alloc _ _ _ hb]⟩
  have hnew := heap_alloc_new (w2.alloc (.cells #[.slice s1 n1 c1, .slice s2 n2 c2] 49)) (.cells #[.int .i64 0, .int .i64 0] 51)
  have hsz : ((w2.alloc (.cells #[.slice s1 n1 c1, .slice s2 n2 c2] 49)).alloc (.cells #[.int .i64 0, .int .i64 0] 51)).heap.size = w2.heap.size + 2 := by rw [alloc_sz, alloc_sz]
  rw [alloc_sz] at hnew
  have hsz1 : w.heap.size + 1 ≤ w1.heap.size := by have := HB1.out.size; rw [alloc_sz] at this; exact this
  have hbw1 : Below w.heap.size w w1 := ⟨HB1.out.os, HB1.out.tape, HB1.out.output, by omega, fun b hb => by rw [HB1.out.block b (by rw [alloc_sz]; omega), Below.heap_alloc _ _ _ hb]⟩
  have hR := HRUN.out _ hb4 (HI.out.below hbw1) n rx HE.out
  rw [← HL.out] at hR
  refine hR.mono ?_
  generalize ((w2.alloc (.cells #[.slice s1 n1 c1, .slice s2 n2 c2] 49)).alloc (.cells #[.int .i64 0, .int .i64 0] 51)) = w4 at *
  rintro e w5 ⟨u, rfl, hk5, how, trap, rd, tk, res, sa, sn, sc, rfl, htold⟩
  have b4 : w5.heap[w.heap.size]? = some (.cells #[.int .i64 0, .int .i64 0, .slice none 0 0, .int .i64 0, .int .i64 0, .int .u64 0] 33) := by
    rw [hk5.block _ (.inl (by omega)), hb4.block _ (by have := HB2.out.size; omega), HB2.out.block _ (by omega)]; exact HB4.out
  have b9 : w5.heap[w2.heap.size + 1]? = some (.cells #[.int .i64 0, .int .i64 0] 51) := by
    rw [hk5.block _ (.inr ⟨by omega, by omega⟩)]; exact hnew
  have hlt5 : w2.heap.size + 1 < w5.heap.size := blk_lt b9
  have hlt2 : w.heap.size < w2.heap.size := by have := HB2.out.size; omega
  have c0 : w5.cell? ⟨w2.heap.size + 1, 0, none⟩ = some (.int .i64 0) := blk_cell b9 0
  have c1' : w5.cell? ⟨w2.heap.size + 1, 1, none⟩ = some (.int .i64 0) := blk_cell b9 1
  have f0 : w5.frozen? ⟨w2.heap.size + 1, 0, none⟩ = false := blk_frozen b9 0
  have f1 : w5.frozen? ⟨w2.heap.size + 1, 1, none⟩ = false := blk_frozen b9 1
  have HT := Lib.hid htold
  have HK5 := Lib.hid hk5
  have HB5 := Lib.hid (And.intro b4 b9)
  have HBb := Lib.hid (And.intro hbw1 hb4)
  clear htold hk5 b4 b9 hnew hR hbw1 hb4
  go_wp2_with fail
  have k10 := heap_alloc_new ((w5.setCell ⟨w2.heap.size + 1, 0, none⟩ (.int .i64 0)).setCell ⟨w2.heap.size + 1, 1, none⟩ (.int .i64 0)) (.cells #[.int .i64 how, .int .i64 trap, .slice sa sn sc, .int .i64 rd, .int .i64 tk, .int .u64 res] 33)
  have hs5 : ((w5.setCell ⟨w2.heap.size + 1, 0, none⟩ (.int .i64 0)).setCell ⟨w2.heap.size + 1, 1, none⟩ (.int .i64 0)).heap.size = w5.heap.size := by simp [World.setCell]
  have k9 := Below.heap_alloc _ (.cells #[.int .i64 how, .int .i64 trap, .slice sa sn sc, .int .i64 rd, .int .i64 tk, .int .u64 res] 33) (w2.heap.size + 1) (by rw [hs5]; exact hlt5) |>.trans (blk_set (blk_set HB5.out.2 0 (.int .i64 0)) 1 (.int .i64 0))
  have k4 := Below.heap_alloc _ (.cells #[.int .i64 how, .int .i64 trap, .slice sa sn sc, .int .i64 rd, .int .i64 tk, .int .u64 res] 33) w.heap.size (by rw [hs5]; omega) |>.trans (blk_other (blk_other HB5.out.1 ⟨w2.heap.size + 1, 0, none⟩ (.int .i64 0) (by show w.heap.size ≠ w2.heap.size + 1; omega)) ⟨w2.heap.size + 1, 1, none⟩ (.int .i64 0) (by show w.heap.size ≠ w2.heap.size + 1; omega))
  rw [hs5] at k10
  have hrest : ∀ b, b < w5.heap.size → b ≠ w2.heap.size + 1 → (((w5.setCell ⟨w2.heap.size + 1, 0, none⟩ (.int .i64 0)).setCell ⟨w2.heap.size + 1, 1, none⟩ (.int .i64 0)).alloc (.cells #[.int .i64 how, .int .i64 trap, .slice sa sn sc, .int .i64 rd, .int .i64 tk, .int .u64 res] 33)).heap[b]? = w5.heap[b]? := fun b hb hne => by
    rw [Below.heap_alloc _ _ _ (by rw [hs5]; exact hb), Below.heap_setCell _ _ _ _ hne, Below.heap_setCell _ _ _ _ hne]
  have HREST := Lib.hid hrest
  have HOS := Lib.hid (show (((w5.setCell ⟨w2.heap.size + 1, 0, none⟩ (.int .i64 0)).setCell ⟨w2.heap.size + 1, 1, none⟩ (.int .i64 0)).alloc (.cells #[.int .i64 how, .int .i64 trap, .slice sa sn sc, .int .i64 rd, .int .i64 tk, .int .u64 res] 33)).os = w5.os ∧ (((w5.setCell ⟨w2.heap.size + 1, 0, none⟩ (.int .i64 0)).setCell ⟨w2.heap.size + 1, 1, none⟩ (.int .i64 0)).alloc (.cells #[.int .i64 how, .int .i64 trap, .slice sa sn sc, .int .i64 rd, .int .i64 tk, .int .u64 res] 33)).tape = w5.tape ∧ (((w5.setCell ⟨w2.heap.size + 1, 0, none⟩ (.int .i64 0)).setCell ⟨w2.heap.size + 1, 1, none⟩ (.int .i64 0)).alloc (.cells #[.int .i64 how, .int .i64 trap, .slice sa sn sc, .int .i64 rd, .int .i64 tk, .int .u64 res] 33)).output = w5.output ∧ (((w5.setCell ⟨w2.heap.size + 1, 0, none⟩ (.int .i64 0)).setCell ⟨w2.heap.size + 1, 1, none⟩ (.int .i64 0)).alloc (.cells #[.int .i64 how, .int .i64 trap, .slice sa sn sc, .int .i64 rd, .int .i64 tk, .int .u64 res] 33)).heap.size = w5.heap.size + 1 from ⟨rfl, rfl, rfl, by rw [alloc_sz, hs5]⟩)
  clear hrest hs5 c0 c1' f0 f1
  generalize (((w5.setCell ⟨w2.heap.size + 1, 0, none⟩ (.int .i64 0)).setCell ⟨w2.heap.size + 1, 1, none⟩ (.int .i64 0)).alloc (.cells #[.int .i64 how, .int .i64 trap, .slice sa sn sc, .int .i64 rd, .int .i64 tk, .int .u64 res] 33)) = w6 at *
  obtain ⟨nb, hnb⟩ : ∃ nb, nb = w5.heap.size := ⟨_, rfl⟩
  obtain ⟨fbk, hfbk⟩ : ∃ fbk, fbk = w2.heap.size + 1 := ⟨_, rfl⟩
  obtain ⟨kb, hkb⟩ : ∃ kb, kb = w.heap.size := ⟨_, rfl⟩
  have HN := Lib.hid (And.intro hnb (And.intro hfbk hkb))
  have HNE := Lib.hid (show nb ≠ kb ∧ fbk ≠ kb from ⟨by omega, by omega⟩)
  rw [← hnb] at k10
  rw [← hfbk] at k9
  rw [← hkb] at k4
  rw [← hnb, ← hfbk, ← hkb]
  clear hnb hfbk hkb
  have HK10 := Lib.hid k10
  have HK9 := Lib.hid k9
  have hS0 : (w6.drew.cell? ⟨nb, 0, none⟩ = some (.int .i64 how) ∧ w6.drew.cell? ⟨nb, 1, none⟩ = some (.int .i64 trap) ∧ w6.drew.cell? ⟨nb, 2, none⟩ = some (.slice sa sn sc) ∧ w6.drew.cell? ⟨nb, 3, none⟩ = some (.int .i64 rd) ∧ w6.drew.cell? ⟨nb, 4, none⟩ = some (.int .i64 tk) ∧ w6.drew.cell? ⟨nb, 5, none⟩ = some (.int .u64 res) ∧ w6.drew.cell? ⟨fbk, 0, none⟩ = some (.int .i64 0) ∧ ∃ a0 a1 a2 a3 a4 a5, w6.drew.heap[kb]? = some (.cells #[a0, a1, a2, a3, a4, a5] 33 (0, 0))) :=
    ⟨blk_cell k10 0, blk_cell k10 1, blk_cell k10 2, blk_cell k10 3, blk_cell k10 4, blk_cell k10 5, blk_cell k9 0, _, _, _, _, _, _, k4⟩
  clear k10 k9 k4
  refine wp_region_G (D := []) (S := fun w' => w'.cell? ⟨nb, 0, none⟩ = some (.int .i64 how) ∧ w'.cell? ⟨nb, 1, none⟩ = some (.int .i64 trap) ∧ w'.cell? ⟨nb, 2, none⟩ = some (.slice sa sn sc) ∧ w'.cell? ⟨nb, 3, none⟩ = some (.int .i64 rd) ∧ w'.cell? ⟨nb, 4, none⟩ = some (.int .i64 tk) ∧ w'.cell? ⟨nb, 5, none⟩ = some (.int .u64 res) ∧ w'.cell? ⟨fbk, 0, none⟩ = some (.int .i64 0) ∧ ∃ a0 a1 a2 a3 a4 a5, w'.heap[kb]? = some (.cells #[a0, a1, a2, a3, a4, a5] 33 (0, 0))) Tryz.checked.mixed hS0 (fun hS => ?_)
  refine wpAnyG_read (i := 0) (v := ?v0) rfl (by kernel_rfl) (by kernel_rfl) (by kernel_rfl) (by kernel_rfl) (by kernel_rfl) ?q0 ?g0 ?y0 hS ?_  -- load 78 t10
  case y0 => intro w' h; obtain ⟨s0, s1, s2, s3, s4, s5, s6, -⟩ := h; go_simp; exact rfl
  case g0 => rfl
  case q0 => exact fun _ _ _ h => h
  go_simp
  refine wpAnyG_read (i := 1) (v := ?v1) rfl (by kernel_rfl) (by kernel_rfl) (by kernel_rfl) (by kernel_rfl) (by kernel_rfl) ?q1 ?g1 ?y1 hS ?_  -- fieldAddr 33 t9 0
  case y1 => intro w' h; obtain ⟨s0, s1, s2, s3, s4, s5, s6, -⟩ := h; go_simp; exact rfl
  case g1 => rfl
  case q1 => exact fun _ _ _ h => h
  go_simp
  refine wpAnyG_read (i := 2) (v := ?v2) rfl (by kernel_rfl) (by kernel_rfl) (by kernel_rfl) (by kernel_rfl) (by kernel_rfl) ?q2 ?g2 ?y2 hS ?_  -- load 22 t36
  case y2 => intro w' h; obtain ⟨s0, s1, s2, s3, s4, s5, s6, -⟩ := h; go_simp; exact rfl
  case g2 => rfl
  case q2 => exact fun _ _ _ h => h
  go_simp
  refine wpAnyG_read (i := 3) (v := ?v3) rfl (by kernel_rfl) (by kernel_rfl) (by kernel_rfl) (by kernel_rfl) (by kernel_rfl) ?q3 ?g3 ?y3 hS ?_  -- binOp eql 22 t37 0:i64 22
  case y3 => intro w' h; obtain ⟨s0, s1, s2, s3, s4, s5, s6, -⟩ := h; go_simp; exact rfl
  case g3 => rfl
  case q3 => exact fun _ _ _ h => h
  go_simp
  refine wpAnyG_one (i := 4) (by kernel_rfl) rfl rfl (fun K hK => ?_)
  obtain ⟨a0, a1, a2, a3, a4, a5, hcc⟩ := hS.2.2.2.2.2.2.2
  have hcc : w6.heap[kb]? = some (.cells #[a0, a1, a2, a3, a4, a5] 33 (0, 0)) := hcc
  have g0 : w6.cell? ⟨kb, 0, none⟩ = some a0 := blk_cell hcc 0
  have g1 : w6.cell? ⟨kb, 1, none⟩ = some a1 := blk_cell hcc 1
  have g2 : w6.cell? ⟨kb, 2, none⟩ = some a2 := blk_cell hcc 2
  have g3 : w6.cell? ⟨kb, 3, none⟩ = some a3 := blk_cell hcc 3
  have g4 : w6.cell? ⟨kb, 4, none⟩ = some a4 := blk_cell hcc 4
  have g5 : w6.cell? ⟨kb, 5, none⟩ = some a5 := blk_cell hcc 5
  have e0 : w6.frozen? ⟨kb, 0, none⟩ = false := blk_frozen hcc 0
  have e1 : w6.frozen? ⟨kb, 1, none⟩ = false := blk_frozen hcc 1
  have e2 : w6.frozen? ⟨kb, 2, none⟩ = false := blk_frozen hcc 2
  have e3 : w6.frozen? ⟨kb, 3, none⟩ = false := blk_frozen hcc 3
  have e4 : w6.frozen? ⟨kb, 4, none⟩ = false := blk_frozen hcc 4
  have e5 : w6.frozen? ⟨kb, 5, none⟩ = false := blk_frozen hcc 5
  have HCC := Lib.hid hcc
  clear hcc hS hS0
  go_wp2_with fail
  have y0 : (w6.setCell ⟨kb, 0, none⟩ (.int .i64 how)).heap[kb]? = some (.cells #[.int .i64 how, a1, a2, a3, a4, a5] 33 (0, 0)) := blk_set HCC.out 0 _
  have y1 : ((w6.setCell ⟨kb, 0, none⟩ (.int .i64 how)).setCell ⟨kb, 1, none⟩ (.int .i64 trap)).heap[kb]? = some (.cells #[.int .i64 how, .int .i64 trap, a2, a3, a4, a5] 33 (0, 0)) := blk_set y0 1 _
  have y2 : (((w6.setCell ⟨kb, 0, none⟩ (.int .i64 how)).setCell ⟨kb, 1, none⟩ (.int .i64 trap)).setCell ⟨kb, 2, none⟩ (.slice sa sn sc)).heap[kb]? = some (.cells #[.int .i64 how, .int .i64 trap, .slice sa sn sc, a3, a4, a5] 33 (0, 0)) := blk_set y1 2 _
  have y3 : ((((w6.setCell ⟨kb, 0, none⟩ (.int .i64 how)).setCell ⟨kb, 1, none⟩ (.int .i64 trap)).setCell ⟨kb, 2, none⟩ (.slice sa sn sc)).setCell ⟨kb, 3, none⟩ (.int .i64 rd)).heap[kb]? = some (.cells #[.int .i64 how, .int .i64 trap, .slice sa sn sc, .int .i64 rd, a4, a5] 33 (0, 0)) := blk_set y2 3 _
  have y4 : (((((w6.setCell ⟨kb, 0, none⟩ (.int .i64 how)).setCell ⟨kb, 1, none⟩ (.int .i64 trap)).setCell ⟨kb, 2, none⟩ (.slice sa sn sc)).setCell ⟨kb, 3, none⟩ (.int .i64 rd)).setCell ⟨kb, 4, none⟩ (.int .i64 tk)).heap[kb]? = some (.cells #[.int .i64 how, .int .i64 trap, .slice sa sn sc, .int .i64 rd, .int .i64 tk, a5] 33 (0, 0)) := blk_set y3 4 _
  have y5 : ((((((w6.setCell ⟨kb, 0, none⟩ (.int .i64 how)).setCell ⟨kb, 1, none⟩ (.int .i64 trap)).setCell ⟨kb, 2, none⟩ (.slice sa sn sc)).setCell ⟨kb, 3, none⟩ (.int .i64 rd)).setCell ⟨kb, 4, none⟩ (.int .i64 tk)).setCell ⟨kb, 5, none⟩ (.int .u64 res)).heap[kb]? = some (.cells #[.int .i64 how, .int .i64 trap, .slice sa sn sc, .int .i64 rd, .int .i64 tk, .int .u64 res] 33 (0, 0)) := blk_set y4 5 _
  have t1 := y5
  clear y0 y1 y2 y3 y4 y5
  have t2 : Keep (fun b => b ≠ kb) w6 ((((((w6.setCell ⟨kb, 0, none⟩ (.int .i64 how)).setCell ⟨kb, 1, none⟩ (.int .i64 trap)).setCell ⟨kb, 2, none⟩ (.slice sa sn sc)).setCell ⟨kb, 3, none⟩ (.int .i64 rd)).setCell ⟨kb, 4, none⟩ (.int .i64 tk)).setCell ⟨kb, 5, none⟩ (.int .u64 res)) := (((((((Keep.refl (fun b => b ≠ kb) w6).setCell (p := ⟨kb, 0, none⟩) (fun h => h rfl) (.int .i64 how)).setCell (p := ⟨kb, 1, none⟩) (fun h => h rfl) (.int .i64 trap)).setCell (p := ⟨kb, 2, none⟩) (fun h => h rfl) (.slice sa sn sc)).setCell (p := ⟨kb, 3, none⟩) (fun h => h rfl) (.int .i64 rd)).setCell (p := ⟨kb, 4, none⟩) (fun h => h rfl) (.int .i64 tk)).setCell (p := ⟨kb, 5, none⟩) (fun h => h rfl) (.int .u64 res))
  clear g0 g1 g2 g3 g4 g5 e0 e1 e2 e3 e4 e5
  generalize ((((((w6.setCell ⟨kb, 0, none⟩ (.int .i64 how)).setCell ⟨kb, 1, none⟩ (.int .i64 trap)).setCell ⟨kb, 2, none⟩ (.slice sa sn sc)).setCell ⟨kb, 3, none⟩ (.int .i64 rd)).setCell ⟨kb, 4, none⟩ (.int .i64 tk)).setCell ⟨kb, 5, none⟩ (.int .u64 res)) = w7 at *
  have u10 := (t2.block nb HNE.out.1).trans HK10.out
  have u9 := (t2.block fbk HNE.out.2).trans HK9.out
  have hS7 : (w7.drew.cell? ⟨nb, 0, none⟩ = some (.int .i64 how) ∧ w7.drew.cell? ⟨nb, 1, none⟩ = some (.int .i64 trap) ∧ w7.drew.cell? ⟨nb, 2, none⟩ = some (.slice sa sn sc) ∧ w7.drew.cell? ⟨nb, 3, none⟩ = some (.int .i64 rd) ∧ w7.drew.cell? ⟨nb, 4, none⟩ = some (.int .i64 tk) ∧ w7.drew.cell? ⟨nb, 5, none⟩ = some (.int .u64 res) ∧ w7.drew.cell? ⟨fbk, 0, none⟩ = some (.int .i64 0) ∧ ∃ a0 a1 a2 a3 a4 a5, w7.drew.heap[kb]? = some (.cells #[a0, a1, a2, a3, a4, a5] 33 (0, 0))) :=
    ⟨blk_cell u10 0, blk_cell u10 1, blk_cell u10 2, blk_cell u10 3, blk_cell u10 4, blk_cell u10 5, blk_cell u9 0, _, _, _, _, _, _, t1⟩
  have HS7 := Lib.hid hS7
  have HT1 := Lib.hid (And.intro t1 t2)
  have v0 : w7.cell? ⟨kb, 0, none⟩ = some (.int .i64 how) := blk_cell t1 0
  have v1 : w7.cell? ⟨kb, 1, none⟩ = some (.int .i64 trap) := blk_cell t1 1
  have v2 : w7.cell? ⟨kb, 2, none⟩ = some (.slice sa sn sc) := blk_cell t1 2
  have v3 : w7.cell? ⟨kb, 3, none⟩ = some (.int .i64 rd) := blk_cell t1 3
  have v4 : w7.cell? ⟨kb, 4, none⟩ = some (.int .i64 tk) := blk_cell t1 4
  have v5 : w7.cell? ⟨kb, 5, none⟩ = some (.int .u64 res) := blk_cell t1 5
  clear t1 t2 u10 u9 hS7
  refine hK _ _ (fun _ => HS7.out) ?_
  clear hK
  go_simp
  refine wpAnyG_one (i := 5) (by kernel_rfl) rfl rfl (fun K hK => ?_)
  go_wp2_with fail
  refine hK _ _ (fun _ => HS7.out) ?_
  clear hK
  go_simp
  refine wpAnyG_done (by kernel_rfl) ?_ _
  go_wp2_with fail
  refine bodyPost_ret (v := .tuple #[.agg #[.int .i64 how, .int .i64 trap, .slice sa sn sc, .int .i64 rd, .int .i64 tk, .int .u64 res], .bool true]) (by simp [results, Tryz.results23, go_sem, v0, v1, v2, v3, v4, v5]) rfl ⟨_, rfl, ?_, how, trap, rd, tk, res, sa, sn, sc, rfl, ?_⟩
  · obtain ⟨q1, q2, q3, q4⟩ := HOS.out
    have k7 := HT1.out.2
    have k5 := HK5.out
    have b2 := HB2.out
    obtain ⟨b1, b4⟩ := HBb.out
    obtain ⟨_, _, hkb⟩ := HN.out
    have s1 := b1.size
    have s2 := b2.size
    have s4 := b4.size
    have s5 := k5.size
    have s7 := k7.size
    refine ⟨k7.os.trans (q1.trans (k5.os.trans (b4.os.trans (b2.os.trans b1.os)))), k7.tape.trans (q2.trans (k5.tape.trans (b4.tape.trans (b2.tape.trans b1.tape)))), k7.output.trans (q3.trans (k5.output.trans (b4.output.trans (b2.output.trans b1.output)))), by show w.heap.size ≤ w7.heap.size; omega, fun b hb => ?_⟩
    show w7.heap[b]? = _
    rw [k7.block b (by show b ≠ kb; omega), HREST.out b (by omega) (by omega), k5.block b (.inl (by omega)), b4.block b (by omega), b2.block b (by omega), b1.block b hb]
  · rcases HT.out with ⟨v, s, rfl, h1, h2, h3⟩ | h | h
    · refine .inl ⟨v, s, rfl, h1, ownsRow_eq h2 fun k hk => ?_, fun k hk hlt => h3 k hk (.inl (by have : k < w.heap.size := hlt; omega))⟩
      have hk5 := ownsRow_lt h2 hk
      have hnk := h3 k hk
      obtain ⟨_, _, hkb⟩ := HN.out
      have : ¬ (k < w1.heap.size ∨ (w2.heap.size ≤ k ∧ k < w4.heap.size)) := hnk
      show w7.heap[k]? = _
      rw [HT1.out.2.block k (by show k ≠ kb; omega), HREST.out k hk5 (by omega)]
    · exact .inr (.inl h)
    · exact .inr (.inr h)
end Go.Proofs.YtgmmfjmdpbhjnaaGreat

/-
  tells: what a program tells is held against what it should.
-/
namespace Go.Proofs.YtgmmfjmdpbhjnaaGreat
open Go Go.RowKit Go.XM

/-- bytes in memory -/
def BytesIn (w : World) (a : Option Addr) (l : List Nat) : Prop := ∀ (k v : Nat), l[k]? = some v → v < 256 ∧ ∃ b off, a = some ⟨b, off, none⟩ ∧ b < w.heap.size ∧ w.cell? ⟨b, off + k, none⟩ = some (.int .u8 v)
def strN (l : List Nat) : ByteArray := ⟨(l.map UInt8.ofNat).toArray⟩
theorem BytesIn.below {w w' : World} {a : Option Addr} {l : List Nat} (h : BytesIn w a l) (hb : Below w.heap.size w w') : BytesIn w' a l := fun k v hk => by
  obtain ⟨h1, b, off, h2, h3, h4⟩ := h k v hk
  exact ⟨h1, b, off, h2, Nat.lt_of_lt_of_le h3 hb.size, by rw [World.cell?_of_block (w := w) (w' := w') (a := ⟨b, off + k, none⟩) (hb.block b h3)]; exact h4⟩
theorem conv_strN {w : World} {a : Option Addr} {n cap : Nat} {l : List Nat} (h : BytesIn w a l) (hn : l.length = n) (hnil : a = none → n = 0) : (convert 22 9 (.slice a n cap)).run Tryz.prog w = .ok (.string (strN l)) w := by
  subst hn
  cases a with
  | none =>
    have : l = [] := List.eq_nil_of_length_eq_zero (hnil rfl)
    subst this
    exact Lib.run_convert_nil_bytes w 22 9 5 cap Tryz.underlying22 Tryz.underlying5 Tryz.underlying9
  | some ad =>
    have hl : (l.map UInt8.ofNat).length = l.length := by simp
    rw [← hl]
    refine run_convert_bytes_back w 22 9 5 ad cap (l.map UInt8.ofNat) Tryz.underlying22 Tryz.underlying5 Tryz.underlying9 (fun j hj => ?_)
    have hj' : j < l.length := by simpa using hj
    obtain ⟨h1, b, off, he, _, hc⟩ := h j _ (List.getElem?_eq_getElem hj')
    cases he
    have ea : (⟨b, off, none⟩ : Addr).add j = ⟨b, off + j, none⟩ := by simp [Addr.add]
    rw [ea, hc]
    simp [Nat.mod_eq_of_lt h1]
theorem bytes_own {w : World} {sa : Option Addr} {sn sc : Nat} {l : List Nat} (h : w.ownsRow 0 5 1 (.slice sa sn sc) l.length (bytes l)) (hl : ∀ v ∈ l, v < 256) : sn = l.length ∧ (sa = none → sn = 0) ∧ BytesIn w sa l := by
  rcases h.2 with ⟨h1, h2⟩ | ⟨g, cap, cur, h1, h2, h3, h4, h5, h6, h7⟩
  · cases h1
    exact ⟨h2.symm, fun _ => rfl, fun k v hk => by have := (List.getElem?_eq_some_iff.1 hk).1; omega⟩
  · cases h1
    refine ⟨rfl, fun e => (by cases e), fun k v hk => ⟨hl v (List.mem_of_getElem? hk), g, 0, rfl, blk_lt h3, ?_⟩⟩
    rw [blk_cell h3 (0 + k), Nat.zero_add]
    have hlt := (List.getElem?_eq_some_iff.1 hk).1
    have : (cur.toList.take (l.length * 1))[k]? = (bytes l)[k]? := by rw [h7]
    rw [List.getElem?_take, if_pos (by omega)] at this
    rw [← Array.getElem?_toList, this]
    unfold bytes
    rw [List.getElem?_map, hk]; rfl

set_option maxHeartbeats 1000000 in
set_option maxRecDepth 100000 in
theorem tells_ok {nn nl : Nat} {rdy : Rdy} (h : Played nn nl rdy) {inp want : List Nat} {large : Bool} {w : World} {a wa : Option Addr} {c wc : Nat} (hin : inp.length ≤ 65536 → InpIn w a inp) (hw : BytesIn w wa want) (hwn : wa = none → want.length = 0)
    (he : inp.length ≤ 65536 → ∃ n v s, evF inp rdy.bd n rdy.k [] ⟨0, [], 0, 0, rdy.gl⟩ = some (.val v s) ∧ s.out = want ∧ ((200000 < s.tk ∨ 65536 < s.out.length) → large = true)) :
    Calls Tryz.prog 20 #[.string (unB nn nl), .slice a inp.length c, .slice wa want.length wc, .bool large] w fun e w' => e = .returned (.bool true) ∧ Below w.heap.size w w' := by
  by_cases hlen : inp.length ≤ 65536
  · obtain ⟨n, v, s, he, hout, hlarge⟩ := he hlen
    have P := play_ok h he (hin hlen) (c := c)
    have g1 : decide ((65536 : Int) < inp.length) = false := decide_eq_false (by omega)
    have HW := Lib.hid (And.intro hw hwn)
    have HO := Lib.hid (And.intro hout hlarge)
    clear hin he hlen h hw hwn hout hlarge
    generalize unB nn nl = nm at *
    generalize inp.length = len at *
    obtain ⟨wl, hwl⟩ : ∃ wl, wl = want.length := ⟨_, rfl⟩
    have HWL := Lib.hid hwl
    rw [← hwl]
    clear hwl
    go_enter Tryz.func20, Tryz.ntmps20
    go_wp2_with fail
    refine P.mono ?_
    rintro e w1 ⟨u, rfl, hb, how, trap, rd, tk, res, sa, sn, sc, hu, ht⟩
    cases hu
    rcases ht with ⟨v', s', hq, rfl, h2, h3⟩ | ⟨ho, hh⟩ | ⟨_, hh⟩
    · cases hq
      have hlt : ∀ v ∈ s.out, v < 256 := fun v hv => by
        rw [HO.out.1] at hv
        obtain ⟨k, hk⟩ := List.getElem?_of_mem hv
        exact (HW.out.1 k v hk).1
      obtain ⟨k1, k2, k3⟩ := bytes_own h2 hlt
      have bal : ∀ X, Below w1.heap.size w1 (w1.alloc X) := fun X => (Below.refl _ w1).alloc (Nat.le_refl _) X
      have cv1 : ∀ X, (convert 22 9 (.slice sa sn sc)).run Tryz.prog (w1.alloc X) = .ok (.string (strN want)) (w1.alloc X) := fun X => by
        rw [← HO.out.1]; exact conv_strN (k3.below (bal X)) k1.symm k2
      have cv2 : ∀ X, (convert 22 9 (.slice wa wl wc)).run Tryz.prog (w1.alloc X) = .ok (.string (strN want)) (w1.alloc X) := fun X =>
        conv_strN ((HW.out.1.below hb).below (bal X)) HWL.out.symm (fun e => by rw [HWL.out]; exact HW.out.2 e)
      have HB := Lib.hid hb
      clear hb h2 h3 P k1 k2 k3 hlt bal
      generalize strN want = str at *
      go_wp2_with fail
      refine bodyPost_ret (v := .bool true) (by simp [results, Tryz.results20, go_sem]) rfl ⟨rfl, HB.out.alloc HB.out.size _⟩
    · have HB := Lib.hid hb
      have HL := Lib.hid (HO.out.2 ho)
      clear hb ho P
      rcases hh with rfl | rfl
      · go_wp2_with fail
        refine bodyPost_ret (v := .bool true) (by simp [results, Tryz.results20, go_sem, HL.out]) rfl ⟨rfl, HB.out.alloc HB.out.size _⟩
      · go_wp2_with fail
        refine bodyPost_ret (v := .bool true) (by simp [results, Tryz.results20, go_sem, HL.out]) rfl ⟨rfl, HB.out.alloc HB.out.size _⟩
    · exact hh.elim
  · have g1 : decide ((65536 : Int) < inp.length) = true := decide_eq_true (by omega)
    clear hin hw hwn he h
    go_enter Tryz.func20, Tryz.ntmps20
    go_wp2_with fail
    refine bodyPost_ret (v := .bool true) (by simp [results, Tryz.results20, go_sem]) rfl ⟨rfl, Below.refl _ _⟩
end Go.Proofs.YtgmmfjmdpbhjnaaGreat

/-
  What a law makes, byte by byte, to hold it against what a program tells.
-/
namespace Go.Proofs.YtgmmfjmdpbhjnaaGreat
open Go Go.RowKit

/-- the row of bytes that a law makes -/
structure WantAt (w0 w : World) (v : Value) (l : List Nat) : Prop where
  own : w.ownsRow 0 5 1 v l.length (bytes l)
  ge : ∀ k, v.ownBlock = some k → w0.heap.size ≤ k
  below : Below w0.heap.size w0 w
  lt : ∀ x ∈ l, x < 256
theorem WantAt.nil (w : World) : WantAt w w (.slice none 0 0) [] := ⟨⟨rfl, .inl ⟨rfl, rfl⟩⟩, fun k h => (by cases h), Below.refl _ _, fun x h => (by simp at h)⟩
theorem WantAt.put {w0 w w' : World} {v v' : Value} {l : List Nat} {o : Obj} (h : WantAt w0 w v l) {x : Nat} (hx : x < 256) (hown : w'.ownsRow 0 5 1 v' (l.length + 1) (bytes l ++ [.int .u8 (x : Int)])) (hg : (w.alloc o).grownBy w' v.ownBlock)
    (hw : ∀ k, v'.ownBlock = some k → v.ownBlock = some k ∨ w.heap.size + 1 ≤ k) : WantAt w0 w' v' (l ++ [x]) := by
  have hs := h.below.size
  refine ⟨by rw [List.length_append, bytes_app]; exact hown, fun k hk => ?_, ⟨hg.os.trans h.below.os, hg.tape.trans h.below.tape, hg.output.trans h.below.output, ?_, fun b hb => ?_⟩, fun y hy => ?_⟩
  · rcases hw k hk with q | q
    · exact h.ge k q
    · omega
  · have := hg.size; rw [alloc_sz] at this; omega
  · rw [hg.block b (by rw [alloc_sz]; omega) (fun e => by have := h.ge b e.symm; omega), Below.heap_alloc _ _ _ (by omega)]
    exact h.below.block b hb
  · rcases List.mem_append.1 hy with hy | hy
    · exact h.lt y hy
    · rw [List.mem_singleton.1 hy]; exact hx
theorem WantAt.bytes {w0 w : World} {v : Value} {l : List Nat} (h : WantAt w0 w v l) : ∃ a c, v = .slice a l.length c ∧ (a = none → l.length = 0) ∧ BytesIn w a l := by
  obtain ⟨a, n, c, rfl⟩ := own_slice h.own
  obtain ⟨rfl, h2, h3⟩ := bytes_own h.own h.lt
  exact ⟨a, c, rfl, h2, h3⟩
theorem cell_ex {w : World} {b o : Nat} {v : Value} (h : w.cell? ⟨b, o, none⟩ = some v) : ∃ cur t fz, w.heap[b]? = some (.cells cur t fz) ∧ cur[o]? = some v := by
  unfold World.cell? at h
  cases hq : w.heap[b]? with
  | none => simp [hq] at h
  | some x =>
    cases x <;> simp [hq] at h
    exact ⟨_, _, _, rfl, h⟩
theorem BytesIn.inp {w w1 : World} {a : Option Addr} {inp : List Nat} (hin : BytesIn w a inp) (hb : Below w.heap.size w w1) (hl : inp.length ≤ 65536) : InpIn w1 a inp := InpIn.below ⟨hl, fun k v hk => by
  obtain ⟨h1, b, off, h2, _, h3⟩ := hin k v hk
  obtain ⟨cur, t, fz, h4, h5⟩ := cell_ex h3
  exact ⟨h1, b, off, cur, t, fz, h2, h4, h5⟩⟩ hb
theorem len_flat1 {F : Nat → Nat} (l : List Nat) : (l.flatMap fun x => [F x]).length = l.length := by
  induction l with
  | nil => rfl
  | cons x l ih => rw [List.flatMap_cons, List.length_append, ih]; simp; omega
/-- below, twice -/
theorem below2 {w w1 w2 : World} (b1 : Below w.heap.size w w1) (b2 : Below w1.heap.size w1 w2) : Below w.heap.size w w2 :=
  ⟨b2.os.trans b1.os, b2.tape.trans b1.tape, b2.output.trans b1.output, Nat.le_trans b1.size b2.size, fun b hb => (b2.block b (Nat.lt_of_lt_of_le hb b1.size)).trans (b1.block b hb)⟩
end Go.Proofs.YtgmmfjmdpbhjnaaGreat
