/- walk of pairlegallaw17.ObjectGuards: two bytes of a saved file are changed -/
import Derived.Test.YtoifodabfpbjlaaGuardW
import Derived.Test.YtoifodabfpbjlaaLoadB
namespace Go.Proofs.Ytoifodabfpbjlaa
open Go.RowKit

theorem changed_at (sv : List UInt8) (k : Nat) (P Q : UInt8) (j : Nat) (hj : j < sv.length) :
    (changed sv k P Q).getD j 0 = if j = k + 1 then sv.getD (k + 1) 0 ^^^ Q else if j = k then sv.getD k 0 ^^^ P else sv.getD j 0 := by
  unfold changed
  simp only [List.getD_eq_getElem?_getD, List.getElem?_set]
  by_cases h1 : k + 1 = j
  · subst h1
    simp [hj]
  · by_cases h2 : k = j
    · subst h2
      simp [hj]
    · simp [h1, h2, show ¬ j = k + 1 by omega, show ¬ j = k by omega]

theorem ofNat_toNat {p : Nat} (h : p < 256) : (UInt8.ofNat p).toNat = p := by simp [UInt8.toNat_ofNat']; omega


set_option maxHeartbeats 1000000 in
set_option maxRecDepth 100000 in
theorem guards_good1 (aw au as' : Option Addr) (lw cw lu cu ls cs : Nat) (ws us : List Int) (sp : List (ByteArray × Int)) (w : World)
    (hlw : ws.length = lw) (hlu : us.length = lu) (hls : sp.length = ls) (hcw : Cells w aw lw (zints ws)) (hcu : Cells w au lu (zints us)) (hcs : Cells w as' (2 * ls) (spotsV sp))
    (k p q : Nat) (hok : wrongM ws us sp = 0) (hk : k + 2 ≤ (saveM ws us sp).length) (hp : p < 256) (hq : q < 256) (h : p ≠ 0) :
    Calls Try.prog 6 #[.agg #[.slice aw lw cw, .slice au lu cu, .slice as' ls cs], .int .i64 k, .int .i64 p, .int .i64 q] w (Grows w true) := by
  have Hs := Lib.hid (fun w' (h : Below w.heap.size w w') => save_ok aw au as' lw cw lu cu ls cs ws us sp w' hlw hlu hls (Cells.grow hcw h) (Cells.grow hcu h) (Cells.grow hcs h) hok)
  have hlen := saveM_length hok
  have Hlc := Lib.hid (load_changed ws us sp k (UInt8.ofNat p) (UInt8.ofNat q) hk (by
    rintro ⟨h1, h2⟩
    have h3 := congrArg UInt8.toNat h1
    have h4 := congrArg UInt8.toNat h2
    simp [UInt8.toNat_ofNat'] at h3 h4
    omega))
  clear hok hcw hcu hcs hlw hlu hls
  obtain ⟨i0, hi, hz0, hz1, hz2⟩ := info_parts Try.info5
  unfold SavePost at Hs
  generalize saveM ws us sp = sv at *
  go_enter Try.func6, Try.ntmps6
  go_wp2_with fail
  refine (alive_any _).mono ?_
  rintro e w1 ⟨rfl, hb1⟩
  have hb1' : Below w.heap.size w w1 := ((Below.refl _ _).alloc (Nat.le_refl _) _).trans (hb1.mono (by simp))
  have himg : w1.heap[w.heap.size]? = some (.cells #[.slice aw lw cw, .slice au lu cu, .slice as' ls cs] 29) := by
    rw [hb1.block _ (by simp)]; exact blk_new _ _
  have c0 := blk_cell himg 0
  have c1 := blk_cell himg 1
  have c2 := blk_cell himg 2
  clear hb1 himg
  have Hb1 := Lib.hid hb1'
  go_wp2_with fail
  refine (Hs.out _ hb1').mono ?_
  clear hb1'
  rintro e w2 ⟨v, rfl, hown, hb2⟩
  obtain ⟨a, cap, rfl, hcv, -⟩ := hown.read
  have Hb2 := Lib.hid (Hb1.out.trans (hb2.mono Hb1.out.size))
  clear hb2 hown c0 c1 c2
  generalize hL : sv.length = L at *
  have fw : wrap64 ((L : Int) - 2) = L - 2 := by unfold wrap64; omega
  have f1 : decide ((k : Int) < 0) = false := decide_eq_false (by omega)
  have f2 : decide ((L : Int) - 2 < k) = false := decide_eq_false (by omega)
  have f3 : decide ((p : Int) < 0) = false := decide_eq_false (by omega)
  have f4 : decide ((q : Int) < 0) = false := decide_eq_false (by omega)
  have f5 : decide ((255 : Int) < p) = false := decide_eq_false (by omega)
  have f6 : decide ((255 : Int) < q) = false := decide_eq_false (by omega)
  have f7 : ((p : Int) == 0) = false := t_ne (by omega)
  have Hsv := Lib.hid hL
  have hsz2 := Hb2.out.size
  clear hL
  obtain ⟨b, off, rfl, hcell⟩ := hcv.at (k := 0) (by omega)
  go_wp2_with (at_builtin; refine wpList_append_lies _ rfl (.tmp 57) (.tmp 58) 22 rfl w.heap.size 5 i0 (.int .u8 0) 1 1 Try.underlying22 hi hz0 hz1 hz2 rfl (by decide) _ _ _ rfl (World.ownsRow_made w2 #[] 0 hsz2 (by decide) rfl) ⟨b, off, none⟩ L cap (sv.map u8v) rfl ?c1 ?c2 ?c3 (by omega) ?c4 ?c5 ?c6 (w2.heap.size + 1) ?c7 ?_)
  case c1 => simp [Hsv.out]
  case c2 =>
    intro j u hu
    have hj : j < sv.length := by
      have := (List.getElem?_eq_some_iff.1 hu).1
      simpa using this
    have hlt0 : j < L := by rw [← Hsv.out]; exact hj
    obtain ⟨b', off', he, hcell'⟩ := (Cells.grow hcv ((Below.refl _ _).alloc (Nat.le_refl _) (.cells #[] 5))).at hlt0
    cases he
    rw [addr_add, hcell', ← hu]
    simp [u8s, u8v, List.getD, hj]
  case c3 => intro u hu; obtain ⟨x, _, rfl⟩ := List.mem_map.1 hu; rfl
  case c4 => unfold maxLen; omega
  case c5 => omega
  case c6 => simp; omega
  case c7 => simp
  intro g cap3 w3 hown3 hgr3 hg hglt
  have hb3 : Below w.heap.size w w3 := (Hb2.out.alloc hsz2 _).grown hgr3 (by simp; omega) (fun k h => by simp [Value.ownBlock] at h; omega)
  have hgb : w.heap.size ≤ g := by
    rcases hg with h | h
    · simp [Value.ownBlock] at h; omega
    · omega
  obtain ⟨-, ⟨h, -⟩ | ⟨g', cap', cur, hv, -, hrow, hn, hcap, hcs, hct⟩⟩ := hown3
  · cases h
  cases hv
  rw [Nat.mul_one] at hcs hct
  have Hrow := Lib.hid hrow
  have Hct := Lib.hid hct
  have Hb3 := Lib.hid hb3
  have Hcs := Lib.hid hcs
  have hat : ∀ j (h : j < L), cur[j]? = some (.int .u8 ((sv.getD j 0).toNat)) := by
    intro j hj
    have h1 : (cur.toList.take L)[j]? = some (.int .u8 ((sv.getD j 0).toNat)) := by
      rw [Hct.out]
      simp [u8v, List.getD, show j < sv.length by rw [Hsv.out]; exact hj]
    rw [List.getElem?_take_of_lt hj] at h1
    simpa using h1
  clear hgr3 hg hct hcs hrow
  have hat1 := hat k (by omega)
  have hat2 := hat (k + 1) (by omega)
  have hX : (sv.getD k 0).toNat < 256 := (sv.getD k 0).toNat_lt
  have hY : (sv.getD (k + 1) 0).toNat < 256 := (sv.getD (k + 1) 0).toNat_lt
  have Hat := Lib.hid hat
  clear hat
  obtain ⟨X, HX⟩ : ∃ X, Hid ((sv.getD k 0).toNat = X) := ⟨_, Lib.hid rfl⟩
  obtain ⟨Y, HY⟩ : ∃ Y, Hid ((sv.getD (k + 1) 0).toNat = Y) := ⟨_, Lib.hid rfl⟩
  rw [HX.out] at hX hat1
  rw [HY.out] at hY hat2
  have fb1 : bits .xor .u8 (X : Int) (p : Int) = ((X ^^^ p : Nat) : Int) := u8_xor_nat X p hX hp
  have fb2 : bits .xor .u8 (Y : Int) (q : Int) = ((Y ^^^ q : Nat) : Int) := u8_xor_nat Y q hY hq
  have t1 : w3.cell? ⟨g, k, none⟩ = some (.int .u8 X) := by rw [blk_cell Hrow.out, hat1]
  have t2 : w3.frozen? ⟨g, k, none⟩ = false := blk_frozen Hrow.out k
  have t3 : w3.cell? ⟨g, k + 1, none⟩ = some (.int .u8 Y) := by rw [blk_cell Hrow.out, hat2]
  have t4 : w3.frozen? ⟨g, k + 1, none⟩ = false := blk_frozen Hrow.out (k + 1)
  clear hat1 hat2
  go_wp2_with fail
  have hsz3 : cur.size = cap3 := Hcs.out
  have hb4 : Below w.heap.size w ((w3.setCell ⟨g, k, none⟩ (.int .u8 ((X ^^^ p : Nat) : Int))).setCell ⟨g, k + 1, none⟩ (.int .u8 ((Y ^^^ q : Nat) : Int))) :=
    (hb3.setCell hgb _).setCell hgb _
  have hrow4 := blk_set (blk_set Hrow.out k (.int .u8 ((X ^^^ p : Nat) : Int))) (k + 1) (.int .u8 ((Y ^^^ q : Nat) : Int))
  generalize ((w3.setCell ⟨g, k, none⟩ (.int .u8 ((X ^^^ p : Nat) : Int))).setCell ⟨g, k + 1, none⟩ (.int .u8 ((Y ^^^ q : Nat) : Int))) = w4 at *
  have hc4 : Cells w4 (some ⟨g, 0, none⟩) L (u8s (changed sv k (UInt8.ofNat p) (UInt8.ofNat q))) := by
    refine .inr ⟨g, 0, rfl, fun j hj => ?_⟩
    rw [Nat.zero_add, blk_cell hrow4 j]
    unfold u8s
    rw [changed_at sv k _ _ j (by rw [Hsv.out]; omega)]
    by_cases h1 : j = k + 1
    · subst h1
      rw [if_pos rfl, UInt8.toNat_xor, HY.out, ofNat_toNat hq, Array.getElem?_setIfInBounds_self, if_pos (by simp; omega)]
    · rw [if_neg h1, Array.getElem?_setIfInBounds_ne (by omega)]
      by_cases h2 : j = k
      · subst h2
        rw [if_pos rfl, UInt8.toNat_xor, HX.out, ofNat_toNat hp, Array.getElem?_setIfInBounds_self, if_pos (by omega)]
      · rw [if_neg h2, Array.getElem?_setIfInBounds_ne (by omega)]
        exact Hat.out j hj
  obtain ⟨n, hn0, hn1, hld⟩ := Hlc.out
  have hcall := load_any (some ⟨g, 0, none⟩) L cap3 (changed sv k (UInt8.ofNat p) (UInt8.ofNat q)) w4 (by rw [changed_length, Hsv.out]) hn hcap hc4
  rw [hld] at hcall
  refine hcall.mono ?_
  clear hcall hld
  rintro e w5 ⟨v, rfl, himg, hb5⟩
  obtain ⟨aw', cw', au', cu', as', cs', rfl, -, -, -⟩ := himg.ex
  have g1 : ((n : Int) == 0) = false := t_ne (by omega)
  have g1' : ((n : Int) != 0) = true := by simp [bne, g1]
  have Hb5 := Lib.hid (hb4.trans (hb5.mono hb4.size))
  have hsz5 := Hb5.out.size
  clear himg hb5 hb4 hrow4 hc4 hn0 hn1
  go_wp2_with fail
  go_ret
  exact ⟨rfl, Hb5.out.alloc hsz5 _⟩

set_option maxHeartbeats 1000000 in
set_option maxRecDepth 100000 in
theorem guards_good2 (aw au as' : Option Addr) (lw cw lu cu ls cs : Nat) (ws us : List Int) (sp : List (ByteArray × Int)) (w : World)
    (hlw : ws.length = lw) (hlu : us.length = lu) (hls : sp.length = ls) (hcw : Cells w aw lw (zints ws)) (hcu : Cells w au lu (zints us)) (hcs : Cells w as' (2 * ls) (spotsV sp))
    (k p q : Nat) (hok : wrongM ws us sp = 0) (hk : k + 2 ≤ (saveM ws us sp).length) (hp : p < 256) (hq : q < 256) (h0 : p = 0) (h : q ≠ 0) :
    Calls Try.prog 6 #[.agg #[.slice aw lw cw, .slice au lu cu, .slice as' ls cs], .int .i64 k, .int .i64 p, .int .i64 q] w (Grows w true) := by
  have Hs := Lib.hid (fun w' (h : Below w.heap.size w w') => save_ok aw au as' lw cw lu cu ls cs ws us sp w' hlw hlu hls (Cells.grow hcw h) (Cells.grow hcu h) (Cells.grow hcs h) hok)
  have hlen := saveM_length hok
  have Hlc := Lib.hid (load_changed ws us sp k (UInt8.ofNat p) (UInt8.ofNat q) hk (by
    rintro ⟨h1, h2⟩
    have h3 := congrArg UInt8.toNat h1
    have h4 := congrArg UInt8.toNat h2
    simp [UInt8.toNat_ofNat'] at h3 h4
    omega))
  clear hok hcw hcu hcs hlw hlu hls
  obtain ⟨i0, hi, hz0, hz1, hz2⟩ := info_parts Try.info5
  unfold SavePost at Hs
  generalize saveM ws us sp = sv at *
  go_enter Try.func6, Try.ntmps6
  go_wp2_with fail
  refine (alive_any _).mono ?_
  rintro e w1 ⟨rfl, hb1⟩
  have hb1' : Below w.heap.size w w1 := ((Below.refl _ _).alloc (Nat.le_refl _) _).trans (hb1.mono (by simp))
  have himg : w1.heap[w.heap.size]? = some (.cells #[.slice aw lw cw, .slice au lu cu, .slice as' ls cs] 29) := by
    rw [hb1.block _ (by simp)]; exact blk_new _ _
  have c0 := blk_cell himg 0
  have c1 := blk_cell himg 1
  have c2 := blk_cell himg 2
  clear hb1 himg
  have Hb1 := Lib.hid hb1'
  go_wp2_with fail
  refine (Hs.out _ hb1').mono ?_
  clear hb1'
  rintro e w2 ⟨v, rfl, hown, hb2⟩
  obtain ⟨a, cap, rfl, hcv, -⟩ := hown.read
  have Hb2 := Lib.hid (Hb1.out.trans (hb2.mono Hb1.out.size))
  clear hb2 hown c0 c1 c2
  generalize hL : sv.length = L at *
  have fw : wrap64 ((L : Int) - 2) = L - 2 := by unfold wrap64; omega
  have f1 : decide ((k : Int) < 0) = false := decide_eq_false (by omega)
  have f2 : decide ((L : Int) - 2 < k) = false := decide_eq_false (by omega)
  have f3 : decide ((p : Int) < 0) = false := decide_eq_false (by omega)
  have f4 : decide ((q : Int) < 0) = false := decide_eq_false (by omega)
  have f5 : decide ((255 : Int) < p) = false := decide_eq_false (by omega)
  have f6 : decide ((255 : Int) < q) = false := decide_eq_false (by omega)
  have f7 : ((p : Int) == 0) = true := t_eq (by omega)
  have f8 : ((q : Int) == 0) = false := t_ne (by omega)
  have Hsv := Lib.hid hL
  have hsz2 := Hb2.out.size
  clear hL
  obtain ⟨b, off, rfl, hcell⟩ := hcv.at (k := 0) (by omega)
  go_wp2_with (at_builtin; refine wpList_append_lies _ rfl (.tmp 57) (.tmp 58) 22 rfl w.heap.size 5 i0 (.int .u8 0) 1 1 Try.underlying22 hi hz0 hz1 hz2 rfl (by decide) _ _ _ rfl (World.ownsRow_made w2 #[] 0 hsz2 (by decide) rfl) ⟨b, off, none⟩ L cap (sv.map u8v) rfl ?c1 ?c2 ?c3 (by omega) ?c4 ?c5 ?c6 (w2.heap.size + 1) ?c7 ?_)
  case c1 => simp [Hsv.out]
  case c2 =>
    intro j u hu
    have hj : j < sv.length := by
      have := (List.getElem?_eq_some_iff.1 hu).1
      simpa using this
    have hlt0 : j < L := by rw [← Hsv.out]; exact hj
    obtain ⟨b', off', he, hcell'⟩ := (Cells.grow hcv ((Below.refl _ _).alloc (Nat.le_refl _) (.cells #[] 5))).at hlt0
    cases he
    rw [addr_add, hcell', ← hu]
    simp [u8s, u8v, List.getD, hj]
  case c3 => intro u hu; obtain ⟨x, _, rfl⟩ := List.mem_map.1 hu; rfl
  case c4 => unfold maxLen; omega
  case c5 => omega
  case c6 => simp; omega
  case c7 => simp
  intro g cap3 w3 hown3 hgr3 hg hglt
  have hb3 : Below w.heap.size w w3 := (Hb2.out.alloc hsz2 _).grown hgr3 (by simp; omega) (fun k h => by simp [Value.ownBlock] at h; omega)
  have hgb : w.heap.size ≤ g := by
    rcases hg with h | h
    · simp [Value.ownBlock] at h; omega
    · omega
  obtain ⟨-, ⟨h, -⟩ | ⟨g', cap', cur, hv, -, hrow, hn, hcap, hcs, hct⟩⟩ := hown3
  · cases h
  cases hv
  rw [Nat.mul_one] at hcs hct
  have Hrow := Lib.hid hrow
  have Hct := Lib.hid hct
  have Hb3 := Lib.hid hb3
  have Hcs := Lib.hid hcs
  have hat : ∀ j (h : j < L), cur[j]? = some (.int .u8 ((sv.getD j 0).toNat)) := by
    intro j hj
    have h1 : (cur.toList.take L)[j]? = some (.int .u8 ((sv.getD j 0).toNat)) := by
      rw [Hct.out]
      simp [u8v, List.getD, show j < sv.length by rw [Hsv.out]; exact hj]
    rw [List.getElem?_take_of_lt hj] at h1
    simpa using h1
  clear hgr3 hg hct hcs hrow
  have hat1 := hat k (by omega)
  have hat2 := hat (k + 1) (by omega)
  have hX : (sv.getD k 0).toNat < 256 := (sv.getD k 0).toNat_lt
  have hY : (sv.getD (k + 1) 0).toNat < 256 := (sv.getD (k + 1) 0).toNat_lt
  have Hat := Lib.hid hat
  clear hat
  obtain ⟨X, HX⟩ : ∃ X, Hid ((sv.getD k 0).toNat = X) := ⟨_, Lib.hid rfl⟩
  obtain ⟨Y, HY⟩ : ∃ Y, Hid ((sv.getD (k + 1) 0).toNat = Y) := ⟨_, Lib.hid rfl⟩
  rw [HX.out] at hX hat1
  rw [HY.out] at hY hat2
  have fb1 : bits .xor .u8 (X : Int) (p : Int) = ((X ^^^ p : Nat) : Int) := u8_xor_nat X p hX hp
  have fb0 : bits .xor .u8 (X : Int) 0 = ((X ^^^ p : Nat) : Int) := by rw [h0]; exact u8_xor_nat X 0 hX (by omega)
  have fb2 : bits .xor .u8 (Y : Int) (q : Int) = ((Y ^^^ q : Nat) : Int) := u8_xor_nat Y q hY hq
  have t1 : w3.cell? ⟨g, k, none⟩ = some (.int .u8 X) := by rw [blk_cell Hrow.out, hat1]
  have t2 : w3.frozen? ⟨g, k, none⟩ = false := blk_frozen Hrow.out k
  have t3 : w3.cell? ⟨g, k + 1, none⟩ = some (.int .u8 Y) := by rw [blk_cell Hrow.out, hat2]
  have t4 : w3.frozen? ⟨g, k + 1, none⟩ = false := blk_frozen Hrow.out (k + 1)
  clear hat1 hat2
  go_wp2_with fail
  have hsz3 : cur.size = cap3 := Hcs.out
  have hb4 : Below w.heap.size w ((w3.setCell ⟨g, k, none⟩ (.int .u8 (X : Int))).setCell ⟨g, k + 1, none⟩ (.int .u8 ((Y ^^^ q : Nat) : Int))) :=
    (hb3.setCell hgb _).setCell hgb _
  have hrow4 := blk_set (blk_set Hrow.out k (.int .u8 (X : Int))) (k + 1) (.int .u8 ((Y ^^^ q : Nat) : Int))
  generalize ((w3.setCell ⟨g, k, none⟩ (.int .u8 (X : Int))).setCell ⟨g, k + 1, none⟩ (.int .u8 ((Y ^^^ q : Nat) : Int))) = w4 at *
  have hc4 : Cells w4 (some ⟨g, 0, none⟩) L (u8s (changed sv k (UInt8.ofNat p) (UInt8.ofNat q))) := by
    refine .inr ⟨g, 0, rfl, fun j hj => ?_⟩
    rw [Nat.zero_add, blk_cell hrow4 j]
    unfold u8s
    rw [changed_at sv k _ _ j (by rw [Hsv.out]; omega)]
    by_cases h1 : j = k + 1
    · subst h1
      rw [if_pos rfl, UInt8.toNat_xor, HY.out, ofNat_toNat hq, Array.getElem?_setIfInBounds_self, if_pos (by simp; omega)]
    · rw [if_neg h1, Array.getElem?_setIfInBounds_ne (by omega)]
      by_cases h2 : j = k
      · subst h2
        rw [if_pos rfl, UInt8.toNat_xor, HX.out, ofNat_toNat hp, Array.getElem?_setIfInBounds_self, if_pos (by omega)]
        simp [h0]
      · rw [if_neg h2, Array.getElem?_setIfInBounds_ne (by omega)]
        exact Hat.out j hj
  obtain ⟨n, hn0, hn1, hld⟩ := Hlc.out
  have hcall := load_any (some ⟨g, 0, none⟩) L cap3 (changed sv k (UInt8.ofNat p) (UInt8.ofNat q)) w4 (by rw [changed_length, Hsv.out]) hn hcap hc4
  rw [hld] at hcall
  refine hcall.mono ?_
  clear hcall hld
  rintro e w5 ⟨v, rfl, himg, hb5⟩
  obtain ⟨aw', cw', au', cu', as', cs', rfl, -, -, -⟩ := himg.ex
  have g1 : ((n : Int) == 0) = false := t_ne (by omega)
  have g1' : ((n : Int) != 0) = true := by simp [bne, g1]
  have Hb5 := Lib.hid (hb4.trans (hb5.mono hb4.size))
  have hsz5 := Hb5.out.size
  clear himg hb5 hb4 hrow4 hc4 hn0 hn1
  go_wp2_with fail
  go_ret
  exact ⟨rfl, Hb5.out.alloc hsz5 _⟩

end Go.Proofs.Ytoifodabfpbjlaa
