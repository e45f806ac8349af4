/- contract of the document's Save -/
import Derived.Test.YtoifodabfpbjlaaRefWro
import Derived.Test.YtoifodabfpbjlaaRefByt
import Derived.Test.YtoifodabfpbjlaaSaveA
namespace Go.Proofs.Ytoifodabfpbjlaa
open Go.RowKit

theorem Below.grownNone {w w' : World} (h : Below w.heap.size w w') : w.grownBy w' none := ⟨h.os, h.tape, h.output, h.size, fun k hk _ => h.block k hk⟩

theorem ownsRow_grow {w w' : World} {base : Nat} {e : TypeId} {size : Nat} {v : Value} {n : Nat} {xs : List Value} (h : w.ownsRow base e size v n xs) (hb : Below w.heap.size w w') : w'.ownsRow base e size v n xs :=
  h.kept (Below.grownNone hb) (by cases v.ownBlock <;> simp)

/-- bytes to which may be appended: the call's own, or a full row of elder bytes -/
def App2 (base : Nat) (w : World) (v : Value) (bs : List UInt8) : Prop :=
  OwnsBytes base w v bs ∨ ∃ g, v = .slice (some ⟨g, 0, none⟩) bs.length bs.length ∧ g < w.heap.size ∧ ∀ (j : Nat) u, (bs.map u8v)[j]? = some u → w.cell? ⟨g, j, none⟩ = some u

theorem App2.grow {base : Nat} {w w' : World} {v : Value} {bs : List UInt8} (h : App2 base w v bs) (hb : Below w.heap.size w w') : App2 base w' v bs := by
  rcases h with h | ⟨g, rfl, hg, hc⟩
  · exact .inl (ownsRow_grow h hb)
  · exact .inr ⟨g, rfl, by have := hb.size; omega, fun j u hu => by rw [hb.cell (p := ⟨g, j, none⟩) hg]; exact hc j u hu⟩

/-- 'append(b, x...)' of bytes that are read, at a single operation -/
theorem wp_append_bytes {w : World} {o : Oper} {a : Act} {K : Act → World → Prop} {Q : Exit → Act → World → Prop} (s x : Operand)
    (ho : o.op = .call { callee := .builtin .append, args := #[s, x], argTypes := #[22, 22] })
    (base : Nat) (v : Value) (bs cs : List UInt8) (hs : a.eval s = v) (hown : App2 base w v bs) (ad : Option Addr) (m c : Nat) (hx : a.eval x = .slice ad m c) (hl : cs.length = m) (hm : 0 < m)
    (hc : Cells w ad m (u8s cs)) (h63 : bs.length + m ≤ 1000000000000) (hbase : base ≤ w.heap.size)
    (h : ∀ v' w', OwnsBytes base w' v' (bs ++ cs) → Below base w w' → w.grownBy w' v.ownBlock → K (a.put o.dst v') w') : o.wp Try.prog a w K Q := by
  obtain ⟨i0, hi, hz0, hz1, hz2⟩ := info_parts Try.info5
  obtain ⟨b, off, rfl, -⟩ := hc.at (k := 0) hm
  have hnews : ∀ (j : Nat) u, (cs.map u8v)[j]? = some u → w.cell? ((⟨b, off, none⟩ : Addr).add j) = some u := by
    intro j u hu
    have hj : j < m := by
      have := (List.getElem?_eq_some_iff.1 hu).1
      simpa [hl] using this
    obtain ⟨b', off', he, hcell⟩ := hc.at hj
    cases he
    have hadd : (⟨b, off, none⟩ : Addr).add j = ⟨b, off + j, none⟩ := by unfold Addr.add; split <;> simp_all
    rw [hadd, hcell, ← hu]
    simp [u8s, u8v, List.getD, show j < cs.length by omega]
  have hone : ∀ u ∈ cs.map u8v, u.oneCell' = true := by
    intro u hu; obtain ⟨y, _, rfl⟩ := List.mem_map.1 hu; rfl
  have fin : ∀ v' w', w'.ownsRow base 5 1 v' (bs.length + m) (bs.map u8v ++ cs.map u8v) → OwnsBytes base w' v' (bs ++ cs) := by
    intro v' w' h'
    unfold OwnsBytes
    rw [List.map_append, List.length_append, hl]
    exact h'
  rcases hown with hown | ⟨g, rfl, hg, hcg⟩
  · refine wp_append_own w s x 22 ho base 5 i0 (.int .u8 0) 1 1 Try.underlying22 hi hz0 hz1 hz2 rfl (by decide) v _ _ hs hown ⟨b, off, none⟩ m c (cs.map u8v) hx (by simp [hl]) hnews hone (by unfold maxLen; omega) (by omega) hbase ?_
    intro v' w' h2 h3 _
    exact h v' w' (fin _ _ h2) ((Below.refl _ _).grown h3 hbase (fun k hk => (World.ownsRow.lt hown k hk).1)) h3
  · obtain ⟨v', w', hrun, r1, r2⟩ := run_append_arg_grows (P := Try.prog) w 22 o.type 5 i0 (.int .u8 0) 1 1 Try.underlying22 hi hz0 hz1 hz2 rfl (by decide) ⟨g, 0, none⟩ bs.length bs.length (bs.map u8v) (by simp)
      (fun j u hu => by
        have hadd : (⟨g, 0, none⟩ : Addr).add j = ⟨g, j, none⟩ := by unfold Addr.add; split <;> simp_all
        rw [hadd]
        exact hcg j u hu) ⟨b, off, none⟩ m c (cs.map u8v) (by simp [hl]) hnews (by omega) (by unfold maxLen; omega) (by omega)
    unfold Oper.wp
    simp [execOp, ho, resolve, invoke, builtin, hs, hx, hrun, Result.andThen]
    exact h v' w' (fin _ _ (ownsRow_base r1 hbase)) ((Below.refl _ _).grown r2 hbase (fun k hk => by cases hk)) (grownBy_weaken r2)

theorem own_ne_box {w : World} {base : Nat} {v : Value} {bs : List UInt8} {B : Nat} {c : Array Value} {fz : Nat × Nat} (h : OwnsBytes base w v bs) (hB : w.heap[B]? = some (.cells c 45 fz)) : some B ≠ v.ownBlock := by
  intro e
  rcases h.2 with ⟨rfl, _⟩ | ⟨g', cap, cur, rfl, _, hgg, _⟩
  · simp [Value.ownBlock] at e
  · simp [Value.ownBlock] at e
    subst e
    rw [hB] at hgg
    cases hgg

/-- what has been written when j of the two lists stand -/
def preTo (ws us : List Int) (j : Nat) : List UInt8 := magic ++ (if 0 < j then listBytes (ws.map Int.toNat) else []) ++ (if 1 < j then listBytes (us.map Int.toNat) else [])

/-- the two lists in the block B -/
def TwoRows (w : World) (B : Nat) (ws us : List Int) : Prop := ∀ j, j < 2 → ∃ al ll cl zs, w.cell? ⟨B, j, none⟩ = some (.slice al ll cl) ∧ zs.length = ll ∧ ll ≤ 65536 ∧ Cells w al ll (ints zs) ∧ (∀ z ∈ zs, z < 65536) ∧
  (0 < ll → ∀ b o s, al = some ⟨b, o, s⟩ → b < B) ∧ preTo ws us (j + 1) = preTo ws us j ++ listBytes zs

theorem preTo_length (ws us : List Int) (j : Nat) : (preTo ws us j).length ≤ 12 + 2 * ws.length + 2 * us.length := by
  unfold preTo listBytes
  rw [List.length_append, List.length_append]
  have h1 := listTo_length (ws.map Int.toNat) _ (Nat.le_refl _)
  have h2 := listTo_length (us.map Int.toNat) _ (Nat.le_refl _)
  simp only [List.length_map] at h1 h2
  have h3 : magic.length = 4 := rfl
  split <;> split <;> simp only [List.length_map, h1, h2, h3, List.length_nil] <;> omega

theorem hap2_of {aw au : Option Addr} {lw cw lu cu : Nat} {ws us : List Int} (w1 : World) (_h : AppBytes 0 (w1.alloc (.cells #[.int .u8 80, .int .u8 76, .int .u8 49, .int .u8 54] 5 (4, 5))) (.slice (some ⟨w1.heap.size, 0, none⟩) 4 4) magic) :
    App2 (w1.heap.size + 1 + 1) ((w1.alloc (.cells #[.int .u8 80, .int .u8 76, .int .u8 49, .int .u8 54] 5 (4, 5))).alloc (.cells #[.slice aw lw cw, .slice au lu cu] 26)) (.slice (some ⟨w1.heap.size, 0, none⟩) 4 4) (preTo ws us 0) := by
  refine .inr ⟨w1.heap.size, rfl, by simp; omega, fun j u hu => ?_⟩
  have hu' : (magic.map u8v)[j]? = some u := by simpa [preTo] using hu
  rw [World.cell?_alloc_past _ _ _ (by simp)]
  rw [World.cell?_alloc_mark]
  match j, hu' with
  | 0, hu => exact hu
  | 1, hu => exact hu
  | 2, hu => exact hu
  | 3, hu => exact hu
  | j + 4, hu => simp [magic] at hu

theorem cells_block {w : World} {a : Option Addr} {n : Nat} {E : Nat → Value} (h : Cells w a n E) (hn : 0 < n) : ∃ k, a = some k ∧ k.block < w.heap.size := by
  obtain ⟨b, off, rfl, hc⟩ := h.at hn
  exact ⟨_, rfl, World.block_lt_of_cell? w _ hc⟩

set_option maxHeartbeats 1000000 in
theorem twoRows_of {W wS w1 : World} {aw au : Option Addr} {lw lu : Nat} {ws us : List Int} {sz : w1.heap.size + 1 = W.heap.size} (hb : Below wS.heap.size wS w1) (hs : w1.heap.size + 1 = W.heap.size)
    (hlw : ws.length = lw) (hlu : us.length = lu) (h1 : lw ≤ 65536) (h2 : lu ≤ 400) (hcw : Cells wS aw lw (zints ws)) (hcu : Cells wS au lu (zints us)) (q4 : ∀ x ∈ ws, 0 ≤ x ∧ x ≤ 65535) (q5 : ∀ x ∈ us, 0 ≤ x ∧ x ≤ 65535)
    (cw cu : Nat) (hg : ∀ o, Below wS.heap.size wS (W.alloc o)) : TwoRows (W.alloc (.cells #[.slice aw lw cw, .slice au lu cu] 26)) (w1.heap.size + 1) ws us := by
  have hsz := hb.size
  intro j hj
  by_cases hj0 : j = 0
  · subst hj0
    refine ⟨aw, lw, cw, ws.map Int.toNat, ?_, by simp [hlw], h1, (Cells.grow hcw (hg _)).congr (fun k hk => zints_nat q4 k (by omega)), nats_small q4, ?_, ?_⟩
    · rw [World.cell?_alloc_at _ _ _ _ hs]; rfl
    · exact fun hn b o s e => by have := hcw.lt hn b o s e; omega
    · simp [preTo]
  · obtain rfl : j = 1 := by omega
    refine ⟨au, lu, cu, us.map Int.toNat, ?_, by simp [hlu], by omega, (Cells.grow hcu (hg _)).congr (fun k hk => zints_nat q5 k (by omega)), nats_small q5, ?_, ?_⟩
    · rw [World.cell?_alloc_at _ _ _ _ hs]; rfl
    · exact fun hn b o s e => by have := hcu.lt hn b o s e; omega
    · simp [preTo]

set_option maxHeartbeats 2000000 in
theorem refsave_ok (aw au as' : Option Addr) (lw cw lu cu ls cs : Nat) (ws us : List Int) (sp : List (ByteArray × Int)) (w : World)
    (hlw : ws.length = lw) (hlu : us.length = lu) (hls : sp.length = ls) (hcw : Cells w aw lw (zints ws)) (hcu : Cells w au lu (zints us)) (hcs : Cells w as' (2 * ls) (spotsV sp))
    (nw : aw = none → lw = 0 ∧ cw = 0) (nu : au = none → lu = 0 ∧ cu = 0)
    (hok : wrongM ws us sp = 0) :
    Calls Try.prog 11 #[.agg #[.slice aw lw cw, .slice au lu cu, .slice as' ls cs]] w (SavePost ws us sp w) := by
  obtain ⟨q1, q2, q3, q4, q5, q6⟩ := wrong_zero hok
  have kc := fun (w : World) (C : Array Value) (n c : Nat) => Lib.run_convert_bytes_const (P := Try.prog) w 22 5 C n c Try.underlying22 Try.underlying5
  have Hw := Lib.hid (fun w h => refwrong_any aw au as' lw cw lu cu ls cs ws us sp w hlw hlu hls (Cells.grow hcw h) (Cells.grow hcu h) (Cells.grow hcs h) nw nu)
  have Hok := Lib.hid hok
  have Hlw := Lib.hid hlw
  have Hlu := Lib.hid hlu
  have Hls := Lib.hid hls
  clear hok hlw hlu hls nw nu
  go_enter Try.func11, Try.ntmps11
  go_wp2_with fail
  refine (Hw.out _ ((Below.refl _ _).alloc (Nat.le_refl _) _)).mono ?_
  unfold WrongPost
  rw [Hok.out]
  rintro e w1 ⟨rfl, hb1⟩
  have hz1 : w.heap.size + 1 ≤ w1.heap.size := by have := hb1.size; simp at this; omega
  have c0 : w1.cell? ⟨w.heap.size, 0, none⟩ = some (.slice aw lw cw) := by
    rw [hb1.cell (p := ⟨w.heap.size, 0, none⟩) (by simp), World.cell?_alloc_at _ _ _ _ rfl]; rfl
  have c1 : w1.cell? ⟨w.heap.size, 1, none⟩ = some (.slice au lu cu) := by
    rw [hb1.cell (p := ⟨w.heap.size, 1, none⟩) (by simp), World.cell?_alloc_at _ _ _ _ rfl]; rfl
  have c2 : w1.cell? ⟨w.heap.size, 2, none⟩ = some (.slice as' ls cs) := by
    rw [hb1.cell (p := ⟨w.heap.size, 2, none⟩) (by simp), World.cell?_alloc_at _ _ _ _ rfl]; rfl
  have hbw : Below w.heap.size w w1 := ((Below.refl _ _).alloc (Nat.le_refl _) _).trans (hb1.mono (by simp))
  have hle1 : lw ≤ 65536 := by rw [← Hlw.out]; exact q1
  have hle2 : lu ≤ 400 := by rw [← Hlu.out]; exact q2
  have hle3 : ls ≤ 4000 := by rw [← Hls.out]; exact q3
  have M : ∀ j, j < 3 → (w1.alloc (.cells #[.int .u8 80, .int .u8 76, .int .u8 49, .int .u8 54] 5 (4, 5))).cell? ⟨w.heap.size, j, none⟩ = w1.cell? ⟨w.heap.size, j, none⟩ := fun j _ => World.cell?_alloc_past _ _ _ (show w.heap.size < w1.heap.size by omega)
  have d0 := (M 0 (by omega)).trans c0
  have d1 := (M 1 (by omega)).trans c1
  have d2 := (M 2 (by omega)).trans c2
  have hap := app_magic 0 w1 (Nat.zero_le _)
  clear M c0 c1 c2 hb1
  go_wp2_with fail
  have hbm := (hbw.alloc (by omega) (.cells #[.int .u8 80, .int .u8 76, .int .u8 49, .int .u8 54] 5 (4, 5))).alloc (by simp; omega) (.cells #[.slice aw lw cw, .slice au lu cu] 26)
  have hap2 := hap2_of (ws := ws) (us := us) (aw := aw) (au := au) (lw := lw) (cw := cw) (lu := lu) (cu := cu) w1 hap
  have htl := twoRows_of (W := w1.alloc (.cells #[.int .u8 80, .int .u8 76, .int .u8 49, .int .u8 54] 5 (4, 5))) (wS := w) (sz := by simp) hbw (by simp) Hlw.out Hlu.out hle1 hle2 hcw hcu q4 q5 cw cu (fun o => (hbw.alloc (by omega) _).alloc (by simp; omega) o)
  have d3 : ((w1.alloc (.cells #[.int .u8 80, .int .u8 76, .int .u8 49, .int .u8 54] 5 (4, 5))).alloc (.cells #[.slice aw lw cw, .slice au lu cu] 26)).cell? ⟨w.heap.size, 2, none⟩ = some (.slice as' ls cs) := (World.cell?_alloc_past _ _ _ (by simp; omega)).trans d2
  have hsz : ((w1.alloc (.cells #[.int .u8 80, .int .u8 76, .int .u8 49, .int .u8 54] 5 (4, 5))).alloc (.cells #[.slice aw lw cw, .slice au lu cu] 26)).heap.size = w1.heap.size + 1 + 1 := by simp
  generalize (w1.alloc (.cells #[.int .u8 80, .int .u8 76, .int .u8 49, .int .u8 54] 5 (4, 5))).alloc (.cells #[.slice aw lw cw, .slice au lu cu] 26) = wo at *
  have hsp : ∀ w', Below w.heap.size w w' → Cells w' as' (2 * ls) (spotsV sp) := fun w' h => Cells.grow hcs h
  have Hsp := Lib.hid hsp
  clear hsp hcs hcw hcu kc hap d0 d1 d2
  go_wp2_with fail
  go_loopw [5, 7, 9, 25] (fun v _ _ i wr => ∃ j : Nat, j ≤ 2 ∧ i = .int .i64 j ∧ App2 (w1.heap.size + 1 + 1) wr v (preTo ws us j) ∧ Below (w1.heap.size + 1 + 1) wo wr) (fun _ _ _ i _ => 2 - (intOf i).toNat)
  case atStart => exact ⟨0, by omega, rfl, hap2, Below.refl _ _⟩
  case round =>
    obtain ⟨j, hj, rfl, hr1, hr2⟩ := hrel
    have hpl := preTo_length ws us j
    rw [Hlw.out, Hlu.out] at hpl
    have hrs := hr2.size
    clear hap2
    by_cases hlt : j < 2
    · obtain ⟨al, ll, cl, zs, hcell, hlen, hll, hcz, hzl, hal, hpre⟩ := htl j hlt
      have hcell2 : wr.cell? ⟨w1.heap.size + 1, j, none⟩ = some (.slice al ll cl) := by rw [hr2.cell (p := ⟨w1.heap.size + 1, j, none⟩) (Nat.lt_succ_self _)]; exact hcell
      have hcz2 : ∀ w', Below (w1.heap.size + 1 + 1) wo w' → Cells w' al ll (ints zs) := fun w' h => hcz.below (h.mono (Nat.le_succ _)) hal
      have Hlen := Lib.hid hlen
      have Hpre := Lib.hid hpre
      clear hlen hpre hcz hal hcell htl
      go_wp2_with fail
      refine (refbytes_any ll 4 wr (by omega) (by omega)).mono ?_
      rintro e w2 ⟨rfl, hcb, hbb⟩
      go_wp2_with (at_builtin; refine wpList_of_wp rfl ?_; refine wp_append_bytes (.tmp 29) (.tmp 32) rfl (w1.heap.size + 1 + 1) _ _ _ rfl (App2.grow hr1 hbb) _ 4 4 rfl (bytesOf_length _ _) (by decide) hcb ?c1 ?c2 ?_)
      case c1 => omega
      case c2 => have := hbb.size; omega
      intro v3 w3 hown3 hb3 hg0
      clear hg0
      have hown4 : OwnsBytes (w1.heap.size + 1 + 1) w3 v3 (preTo ws us j ++ listTo zs 0) := by simpa [listTo, Hlen.out] using hown3
      have hb4 := (hr2.trans (hbb.mono (by omega))).trans hb3
      clear hown3 hb3 hbb hcb hr1
      go_wp2_with fail
      obtain ⟨we, rfl⟩ : ∃ we : World, we = wr := ⟨_, rfl⟩
      clear hr2 hcell2 hrs
      go_loopw [5, 9, 36] (fun v _ i wr => ∃ k : Nat, k ≤ ll ∧ i = .int .i64 k ∧ OwnsBytes (w1.heap.size + 1 + 1) wr v (preTo ws us j ++ listTo zs k) ∧ Below (w1.heap.size + 1 + 1) wo wr) (fun _ _ i _ => ll - (intOf i).toNat)
      case atStart => exact ⟨0, by omega, rfl, hown4, hb4⟩
      case round =>
        obtain ⟨k, hk, rfl, hr1, hr2⟩ := hrel
        clear hown4 hb4
        have hrs := hr2.size
        by_cases hlt2 : k < ll
        · obtain ⟨b, off, rfl, hck⟩ := (hcz2 _ hr2).at hlt2
          have hzk : zs.getD k 0 < 65536 := by
            have : k < zs.length := by rw [Hlen.out]; exact hlt2
            rw [List.getD_eq_getElem?_getD, List.getElem?_eq_getElem this]
            exact hzl _ (List.getElem_mem _)
          have hllk : (preTo ws us j ++ listTo zs k).length ≤ 1131077 := by
            rw [List.length_append, listTo_length _ _ (by rw [Hlen.out]; omega)]; omega
          have hs := Lib.hid (listTo_succ zs k (by rw [Hlen.out]; exact hlt2))
          unfold ints at hck
          clear hcz2 hzl
          generalize zs.getD k 0 = z at hck hzk hs
          go_wp2_with fail
          refine (refbytes_any z 2 _ (by omega) (by omega)).mono ?_
          rintro e w5 ⟨rfl, hcb, hbb⟩
          go_wp2_with (at_builtin; refine wpList_of_wp rfl ?_; refine wp_append_bytes (.tmp 40) (.tmp 42) rfl (w1.heap.size + 1 + 1) _ _ _ rfl (App2.grow (.inl hr1) hbb) _ 2 2 rfl (bytesOf_length _ _) (by decide) hcb ?e1 ?e2 ?_)
          case e1 => omega
          case e2 => have := hbb.size; omega
          intro v6 w6 hown6 hb6 hg0
          clear hg0
          have hown7 : OwnsBytes (w1.heap.size + 1 + 1) w6 v6 (preTo ws us j ++ listTo zs (k + 1)) := by rw [hs.out]; simpa using hown6
          have hb7 := (hr2.trans (hbb.mono (by omega))).trans hb6
          clear hown6 hb6 hbb hcb hr1 hr2 hck
          go_wp2_with fail
          go_roundw
          case rel => exact ⟨k + 1, by omega, by go_num, hown7, hb7⟩
          case measure => simp [intOf]; omega
        · obtain rfl : k = ll := by omega
          have hown8 : OwnsBytes (w1.heap.size + 1 + 1) wr u5 (preTo ws us (j + 1)) := by
            rw [Hpre.out]; unfold listBytes; rw [Hlen.out]; exact hr1
          clear hr1
          go_wp2_with fail
          go_roundw
          case rel => exact ⟨j + 1, by omega, by go_num, .inl hown8, hr2⟩
          case measure => simp [intOf]; omega
    · obtain rfl : j = 2 := by omega
      clear htl
      have d4 : wr.cell? ⟨w.heap.size, 2, none⟩ = some (.slice as' ls cs) := (hr2.cell (p := ⟨w.heap.size, 2, none⟩) (by simp; omega)).trans d3
      have hbo : Below w.heap.size w wr := hbm.trans (hr2.mono (by omega))
      clear d3 hr2 hbm
      go_wp2_with fail
      refine (refbytes_any ls 4 wr (by omega) (by omega)).mono ?_
      rintro e w2 ⟨rfl, hcb, hbb⟩
      have d5 : w2.cell? ⟨w.heap.size, 2, none⟩ = some (.slice as' ls cs) := (hbb.cell (p := ⟨w.heap.size, 2, none⟩) (World.block_lt_of_cell? wr _ d4)).trans d4
      go_wp2_with (at_builtin; refine wpList_of_wp rfl ?_; refine wp_append_bytes (.tmp 46) (.tmp 50) rfl (w1.heap.size + 1 + 1) _ _ _ rfl (App2.grow hr1 hbb) _ 4 4 rfl (bytesOf_length _ _) (by decide) hcb ?c1 ?c2 ?_)
      case c1 => omega
      case c2 => have := hbb.size; omega
      intro v3 w3 hown3 hb3 hg0
      clear hg0
      have hown5 : OwnsBytes (w1.heap.size + 1 + 1) w3 v3 (bodyTo ws us sp 0) := by
        unfold bodyTo
        rw [List.take_zero, List.flatMap_nil, List.append_nil, Hls.out]
        simpa [preTo] using hown3
      have d6 : w3.cell? ⟨w.heap.size, 2, none⟩ = some (.slice as' ls cs) := (hb3.cell (p := ⟨w.heap.size, 2, none⟩) (by simp; omega)).trans d5
      have hbw4 : Below w.heap.size w w3 := (hbo.trans (hbb.mono (by have := hbo.size; omega))).trans (hb3.mono (by omega))
      have hz4 : w1.heap.size + 1 + 1 ≤ w3.heap.size := by have := hb3.size; have := hbb.size; omega
      clear hown3 hb3 hbb hcb hr1 d4 d5 hbo hrs hpl hsz
      go_wp2_with fail
      obtain ⟨we, rfl⟩ : ∃ we : World, we = wr := ⟨_, rfl⟩
      obtain ⟨i0, hi, hz0, hz1', hz2'⟩ := info_parts Try.info5
      go_loopw [5, 55] (fun v i wr => ∃ k : Nat, k ≤ ls ∧ i = .int .i64 k ∧ OwnsBytes (w1.heap.size + 1 + 1) wr v (bodyTo ws us sp k) ∧ Below w.heap.size w wr ∧ w1.heap.size + 1 + 1 ≤ wr.heap.size) (fun _ i _ => ls - (intOf i).toNat)
      case atStart => exact ⟨0, by omega, rfl, hown5, hbw4, hz4⟩
      case round =>
        obtain ⟨k, hk, rfl, hr1, hr2, hr3⟩ := hrel
        clear hown5 hbw4 hz4 d6
        by_cases hlt : k < ls
        · have hcs3 := Hsp.out _ hr2
          obtain ⟨b, off, rfl, hck⟩ := hcs3.at (k := 2 * k) (by omega)
          have hck2 : wr.cell? ⟨b, off + 2 * k + 1, none⟩ = some (spotsV sp (2 * k + 1)) := by
            obtain ⟨b', off', he, h⟩ := hcs3.at (k := 2 * k + 1) (by omega)
            cases he
            exact h
          have e1 : spotsV sp (2 * k) = .string (sp.getD k (ByteArray.empty, 0)).1 := by
            unfold spotsV; rw [if_pos (by omega)]; congr 3; omega
          have e2 : spotsV sp (2 * k + 1) = .int .i64 (sp.getD k (ByteArray.empty, 0)).2 := by
            unfold spotsV; rw [if_neg (by omega)]; congr 3; omega
          rw [e1, Nat.mul_comm 2 k] at hck
          rw [e2, Nat.mul_comm 2 k] at hck2
          clear e1 e2 hcs3
          have hkl : k < sp.length := by rw [Hls.out]; exact hlt
          have hsucc := Lib.hid (bodyTo_succ ws us sp k hkl)
          have hgood := q6 (sp.getD k (ByteArray.empty, 0)) (by
            rw [List.getD_eq_getElem?_getD, List.getElem?_eq_getElem hkl]; exact List.getElem_mem _)
          have hblen := bodyTo_length ws us sp k (by omega) q6
          clear hkl
          generalize sp.getD k (ByteArray.empty, 0) = s at hck hck2 hsucc hgood
          obtain ⟨nm, pl⟩ := s
          simp only at hck hck2 hgood
          obtain ⟨g1, g2, g3⟩ := hgood
          have g4 : nm.size ≤ 32 := by unfold namedM at g1; have := (of_decide_eq_true g1).2.1; simpa using this
          clear g1
          obtain ⟨p, rfl⟩ := Int.eq_ofNat_of_zero_le g2
          have hb5 : (bodyTo ws us sp k).length ≤ 400000 := by omega
          go_wp2_with fail
          have hS0 := blk_new wr (.cells #[.string nm, .int .i64 p] 45)
          refine wp_region_held_drew (S := fun w' => w'.heap[wr.heap.size]? = some (.cells #[.string nm, .int .i64 p] 45)) Try.checked.mixed hS0 (fun hS => ?_)
          refine wpAnyH_read (i := 0) (v := ?v0) rfl (by kernel_rfl) (by kernel_rfl) (by kernel_rfl) ?q0 rfl ?y0 hS ?_
          case y0 => intro w' h; clear h; go_simp; exact rfl
          case q0 => exact fun _ _ _ h => h
          go_simp
          refine wpAnyH_read (i := 1) (v := ?v1) rfl (by kernel_rfl) (by kernel_rfl) (by kernel_rfl) ?q1 rfl ?y1 hS ?_
          case y1 => intro w' h; clear h; go_simp; exact rfl
          case q1 => exact fun _ _ _ h => h
          go_simp
          refine wpAnyH_read (i := 2) (v := ?v2) rfl (by kernel_rfl) (by kernel_rfl) (by kernel_rfl) ?q2 rfl ?y2 hS ?_
          case y2 => intro w' h; have h1 := blk_cell h 0; have h2 := blk_cell h 1; go_simp; exact rfl
          case q2 => exact fun _ _ _ h => h
          go_simp
          refine wpAnyH_read (i := 3) (v := ?v3) rfl (by kernel_rfl) (by kernel_rfl) (by kernel_rfl) ?q3 rfl ?y3 hS ?_
          case y3 => intro w' h; clear h; go_simp; exact rfl
          case q3 => exact fun _ _ _ h => h
          go_simp
          have hw8 : IntKind.u8.wrap (nm.size : Int) = nm.size := IntWalk.u8_in _ (by omega)
          refine wpAnyH_read (i := 4) (v := ?v4) rfl (by kernel_rfl) (by kernel_rfl) (by kernel_rfl) ?q4 rfl ?y4 hS ?_
          case y4 => intro w' h; clear h; go_simp; exact rfl
          case q4 => exact fun _ _ _ h => h
          go_simp
          refine wpAnyH_read (i := 7) (v := ?v7) rfl (by kernel_rfl) (by kernel_rfl) (by kernel_rfl) ?q7 rfl ?y7 hS ?_
          case y7 => intro w' h; clear h; go_simp; exact rfl
          case q7 => exact fun _ _ _ h => h
          go_simp
          refine wpAnyH_read (i := 8) (v := ?v8) rfl (by kernel_rfl) (by kernel_rfl) (by kernel_rfl) ?q8 rfl ?y8 hS ?_
          case y8 => intro w' h; have h1 := blk_cell h 0; have h2 := blk_cell h 1; go_simp; exact rfl
          case q8 => exact fun _ _ _ h => h
          go_simp
          refine wpAnyH_read (i := 10) (v := ?v10) rfl (by kernel_rfl) (by kernel_rfl) (by kernel_rfl) ?q10 rfl ?y10 hS ?_
          case y10 => intro w' h; clear h; go_simp; exact rfl
          case q10 => exact fun _ _ _ h => h
          go_simp
          refine wpAnyH_read (i := 11) (v := ?v11) rfl (by kernel_rfl) (by kernel_rfl) (by kernel_rfl) ?q11 rfl ?y11 hS ?_
          case y11 => intro w' h; have h1 := blk_cell h 0; have h2 := blk_cell h 1; go_simp; exact rfl
          case q11 => exact fun _ _ _ h => h
          go_simp
          clear hw8
          refine wpAnyH_one (i := 5) (by kernel_rfl) rfl rfl (fun K hK => ?_)
          go_wp2_with fail
          refine hK _ _ (blk_alloc hS _) (fun hS2 => ?_)
          clear hK
          go_simp
          refine wpAnyH_one (i := 6) (by kernel_rfl) rfl rfl (fun K hK => ?_)
          refine wp_append_bytes (.tmp 59) (.tmp 64) rfl (w1.heap.size + 1 + 1) u5 (bodyTo ws us sp k) [UInt8.ofNat nm.size] rfl (.inl (World.ownsRow.alloc (World.ownsRow.alloc hr1 _) _)) (some ⟨wr.heap.size + 1, 0, none⟩) 1 1 rfl rfl (by decide) ?c1 (by omega) ?c2 ?_
          case c1 =>
            refine .inr ⟨wr.heap.size + 1, 0, rfl, fun j hj => ?_⟩
            obtain rfl : j = 0 := by omega
            show World.cell? (World.alloc (World.alloc wr _) _) _ = _
            rw [World.cell?_alloc_at _ _ _ _ (by simp)]
            simp [u8s, UInt8.toNat_ofNat']
            omega
          case c2 => simp; omega
          intro v5 w5 hown7 hb6 hg6
          have hS3 := blk_grown hS2 hg6 (fun e => by have := (World.ownsRow.lt hr1 _ e.symm).2; omega)
          have hbw5 : Below w.heap.size w w5 := ((hr2.alloc (by omega) _).alloc (by simp; omega) _).drew.trans (hb6.mono (by omega))
          have hz5 : wr.heap.size + 2 ≤ w5.heap.size := by have := hb6.size; simpa using this
          refine hK _ _ hS3 (fun _ => ?_)
          clear hK hS2 hg6 hS hS0 hb6
          go_simp
          refine wpAnyH_one (i := 9) (by kernel_rfl) rfl rfl (fun K hK => ?_)
          refine wp_append_own_string (.tmp 65) (.tmp 67) 22 9 rfl (w1.heap.size + 1 + 1) 5 i0 Try.underlying22 Try.underlying9 hi hz0 hz1' hz2' _ _ _ rfl hown7 nm rfl ?d3 ?d4 ?d5 ?_
          case d3 => unfold maxLen; simp; omega
          case d4 => simp; omega
          case d5 => omega
          intro v6 w6 hown8 hgr8
          have hS4 := blk_grown hS3 hgr8 (own_ne_box hown7 hS3)
          have hown9 : OwnsBytes (w1.heap.size + 1 + 1) w6 v6 ((bodyTo ws us sp k ++ [UInt8.ofNat nm.size]) ++ nm.data.toList) :=
            own_snoc hown8 (by simp) (by simp [Lib.strCells, u8v])
          have hbw6 : Below w.heap.size w w6 := hbw5.grown hgr8 (by omega) (fun k h => by have := (World.ownsRow.lt hown7 k h).1; omega)
          have hz6 := hgr8.size
          refine hK _ _ hS4 (fun _ => ?_)
          clear hK hS3 hown7 hown8 hgr8 hbw5
          go_simp
          refine wpAnyH_one (i := 12) (by kernel_rfl) rfl rfl (fun K hK => ?_)
          go_wp2_with fail
          refine (refbytes_any p 4 w6 (by omega) (by omega)).mono ?_
          rintro e w7 ⟨rfl, hcb, hbb⟩
          have hS5 := blk_grown hS4 (Below.grownNone hbb) (by simp)
          have hbw7 := hbw6.trans (hbb.mono (by have := hbw6.size; omega))
          have hz7 := hbb.size
          refine hK _ _ hS5 (fun _ => ?_)
          clear hK hS4 hbw6
          go_simp
          refine wpAnyH_one (i := 13) (by kernel_rfl) rfl rfl (fun K hK => ?_)
          refine wp_append_bytes (.tmp 68) (.tmp 71) rfl (w1.heap.size + 1 + 1) v6 _ _ rfl (App2.grow (.inl hown9) hbb) _ 4 4 rfl (bytesOf_length _ _) (by decide) hcb ?e1 ?e2 ?_
          case e1 => simp; omega
          case e2 => omega
          intro v8 w8 hown10 hb8 hg8
          have hS6 := blk_grown hS5 hg8 (own_ne_box (ownsRow_grow hown9 hbb) hS5)
          have hown11 : OwnsBytes (w1.heap.size + 1 + 1) w8 v8 (bodyTo ws us sp (k + 1)) := by
            rw [hsucc.out]
            unfold spotBytes
            simpa using hown10
          have hbw8 := hbw7.trans (hb8.mono (by omega))
          have hz8 := hb8.size
          refine hK _ _ hS6 (fun _ => ?_)
          clear hK hS5 hown10 hown9 hbw7 hb8 hg8 hbb hcb
          go_simp
          refine wpAnyH_one (i := 14) (by kernel_rfl) rfl rfl (fun K hK => ?_)
          go_wp2_with fail
          refine hK _ _ hS6 (fun _ => ?_)
          clear hK
          go_simp
          refine wpAnyH_done (by kernel_rfl) ?_ _
          clear hck hck2 hS6
          go_wp2_with fail
          go_roundw
          case rel => exact ⟨k + 1, by omega, by go_num, hown11, hbw8, by omega⟩
          case measure => simp [intOf]; omega
        · obtain rfl : k = ls := by omega
          have hbody : bodyTo ws us sp k = bodyM ws us sp := by unfold bodyM; rw [Hls.out]
          have Hbody := Lib.hid hbody
          have hblen := bodyTo_length ws us sp k (by rw [Hls.out]; omega) q6
          have hb5 : (bodyTo ws us sp k).length ≤ 400000 := by omega
          clear hbody
          obtain ⟨a9, cap9, rfl, hc9, -⟩ := OwnsBytes.read hr1
          go_wp2_with fail
          refine (refcrc_any _ _ _ _ wr rfl (by omega) hc9).mono ?_
          rintro e w8 ⟨rfl, hb8⟩
          have hcrc := Crc.crc_lt (bodyTo ws us sp k)
          go_wp2_with fail
          refine (refbytes_any _ 2 w8 (by omega) (by omega)).mono ?_
          rintro e w9 ⟨rfl, hcb, hbb⟩
          go_wp2_with (at_builtin; refine wpList_of_wp rfl ?_; refine wp_append_bytes (.tmp 74) (.tmp 77) rfl (w1.heap.size + 1 + 1) _ _ _ rfl (App2.grow (App2.grow (.inl hr1) hb8) hbb) _ 2 2 rfl (bytesOf_length _ _) (by decide) hcb ?f1 ?f2 ?_)
          case f1 => omega
          case f2 => have := hbb.size; have := hb8.size; omega
          intro v10 w10 hown10 hb10 hg0
          clear hg0
          go_wp2_with fail
          go_ret2
          refine ⟨v10, rfl, ?_, ((hr2.trans (hb8.mono (by omega))).trans (hbb.mono (by have := hb8.size; omega))).trans (hb10.mono (by omega))⟩
          unfold saveM
          rw [← Hbody.out]
          exact ownsRow_base hown10 (by omega)

set_option maxHeartbeats 400000 in
theorem refsave_err (aw au as' : Option Addr) (lw cw lu cu ls cs : Nat) (ws us : List Int) (sp : List (ByteArray × Int)) (w : World)
    (hlw : ws.length = lw) (hlu : us.length = lu) (hls : sp.length = ls) (hcw : Cells w aw lw (zints ws)) (hcu : Cells w au lu (zints us)) (hcs : Cells w as' (2 * ls) (spotsV sp))
    (nw : aw = none → lw = 0 ∧ cw = 0) (nu : au = none → lu = 0 ∧ cu = 0)
    (hok : wrongM ws us sp ≠ 0) :
    Calls Try.prog 11 #[.agg #[.slice aw lw cw, .slice au lu cu, .slice as' ls cs]] w (SaveErr (wrongM ws us sp) w) := by
  have hw' : ∀ w1, Below w.heap.size w w1 → Hid (Calls Try.prog 19 #[.agg #[.slice aw lw cw, .slice au lu cu, .slice as' ls cs]] w1 fun e w' => e = .returned (.int .i64 (wrongM ws us sp : Nat)) ∧ Below w1.heap.size w1 w') :=
    fun w h => refwrong_any aw au as' lw cw lu cu ls cs ws us sp w hlw hlu hls (Cells.grow hcw h) (Cells.grow hcu h) (Cells.grow hcs h) nw nu
  clear hlw hlu hls nw nu
  generalize wrongM ws us sp = n at *
  have f1 : ((n : Int) == 0) = false := t_ne (by omega)
  go_enter Try.func11, Try.ntmps11
  go_wp2_with fail
  refine (hw' _ ((Below.refl _ _).alloc (Nat.le_refl _) _)).out.mono ?_
  rintro e w1 ⟨rfl, hb1⟩
  go_wp2_with fail
  go_ret2
  exact ⟨rfl, ((Below.refl _ _).alloc (Nat.le_refl _) _).trans (hb1.mono (by simp))⟩
end Go.Proofs.Ytoifodabfpbjlaa
