/- walk of pairlegallaw17.ObjectTurns (printed by turnw.py) -/
import Derived.Test.YtoifodabfpbjlaaSameA
import Derived.Test.YtoifodabfpbjlaaTurnP
import Derived.Test.YtoifodabfpbjlaaGuardW
namespace Go.Proofs.Ytoifodabfpbjlaa
open Go.RowKit

theorem owns_caps {base : Nat} {w : World} {v : Value} {bs : List UInt8} (h : OwnsBytes base w v bs) :
    ∃ a cap, v = .slice a bs.length cap ∧ bs.length ≤ cap ∧ cap ≤ maxLen ∧ Cells w a bs.length (u8s bs) := by
  obtain ⟨a, cap, rfl, hc, -⟩ := h.read
  refine ⟨a, cap, rfl, ?_, ?_, hc⟩
  · obtain ⟨-, ⟨h1, h2⟩ | ⟨g, cap', cur, hv, -, -, hn, -⟩⟩ := h
    · rw [h2]; exact Nat.zero_le _
    · cases hv; exact hn
  · obtain ⟨-, ⟨h1, h2⟩ | ⟨g, cap', cur, hv, -, -, -, hn, -⟩⟩ := h
    · simp only [Value.slice.injEq] at h1; rw [h1.2.2]; decide
    · cases hv; exact hn

set_option maxHeartbeats 1000000 in
set_option maxRecDepth 100000 in
theorem turns_A1 (aw au as' ab : Option Addr) (lw cw lu cu ls cs lb cb : Nat) (ws us : List Int) (sp : List (ByteArray × Int)) (bs : List UInt8) (w : World)
    (hlw : ws.length = lw) (hlu : us.length = lu) (hls : sp.length = ls) (hcw : Cells w aw lw (zints ws)) (hcu : Cells w au lu (zints us)) (hcs : Cells w as' (2 * ls) (spotsV sp))
    (hlb : bs.length = lb) (hcap : lb ≤ cb) (hcap2 : cb ≤ maxLen) (hcb : Cells w ab lb (u8s bs)) (hok : wrongM ws us sp ≠ 0) (nl : Nat) (im : Img) (hld : loadM bs = (nl, im)) (hnl : nl ≠ 0) :
    Calls Try.prog 5 #[.agg #[.slice aw lw cw, .slice au lu cu, .slice as' ls cs], .slice ab lb cb] w (Grows w true) := by
  have Hs := Lib.hid (fun w' (h : Below w.heap.size w w') => save_err aw au as' lw cw lu cu ls cs ws us sp w' hlw hlu hls (Cells.grow hcw h) (Cells.grow hcu h) (Cells.grow hcs h) hok)
  generalize wrongM ws us sp = n1 at *
  have f1 : ((n1 : Int) == 0) = false := t_ne (by omega)
  have f1' : ((n1 : Int) != 0) = true := by simp [bne, f1]
  clear hok hlw hlu hls hcw hcu hcs
  have Hl := Lib.hid (fun w' (h : Below w.heap.size w w') => load_any ab lb cb bs w' hlb hcap hcap2 (Cells.grow hcb h))
  rw [hld] at Hl
  have Hcb := Lib.hid (fun w' (h : Below w.heap.size w w') => (Cells.grow hcb h : Cells w' ab lb (u8s bs)))
  have Hlb := Lib.hid hlb
  clear hlb hcap hcap2 hcb
  go_enter Try.func5, Try.ntmps5
  go_wp2_with fail
  refine (alive_any _).mono ?_
  rintro e w1 ⟨rfl, hb1⟩
  have hb1' : Below w.heap.size w w1 := ((Below.refl _ _).alloc (Nat.le_refl _) _).trans (hb1.mono (by simp))
  have himg : w1.heap[w.heap.size]? = some (.cells #[.slice aw lw cw, .slice au lu cu, .slice as' ls cs] 29) := by
    rw [hb1.block _ (by simp)]; exact blk_new _ _
  have hlt1 : w.heap.size < w1.heap.size := blk_lt himg
  have c0 := blk_cell himg 0
  have c1 := blk_cell himg 1
  have c2 := blk_cell himg 2
  have Himg := Lib.hid himg
  clear hb1 himg
  have Hb1 := Lib.hid hb1'
  go_wp2_with fail
  refine (Hs.out _ hb1').mono ?_
  clear hb1' c0 c1 c2
  rintro e w2 ⟨rfl, hb2⟩
  have hbt := Hb1.out.trans (hb2.mono Hb1.out.size)
  have Hbt := Lib.hid hbt
  clear hb2
  go_wp2_with fail
  generalize w2 = wt at *
  refine (Hl.out _ hbt).mono ?_
  clear hbt
  rintro e w5 ⟨v5, rfl, himg5, hb6⟩
  obtain ⟨aw5, cw5, au5, cu5, as5, cs5, rfl, q1, q2, q3⟩ := himg5.ex
  have g1 : ((nl : Int) == 0) = false := t_ne (by omega)
  have g1' : ((nl : Int) != 0) = true := by simp [bne, g1]
  have hb7 := Hbt.out.trans (hb6.mono Hbt.out.size)
  have Hb7 := Lib.hid hb7
  have hsz7 := hb7.size
  clear himg5 q1 q2 q3 hb6 hb7
  go_wp2_with fail
  go_ret
  exact ⟨rfl, Hb7.out.alloc hsz7 _⟩

set_option maxHeartbeats 1000000 in
set_option maxRecDepth 100000 in
theorem turns_A2 (aw au as' ab : Option Addr) (lw cw lu cu ls cs lb cb : Nat) (ws us : List Int) (sp : List (ByteArray × Int)) (bs : List UInt8) (w : World)
    (hlw : ws.length = lw) (hlu : us.length = lu) (hls : sp.length = ls) (hcw : Cells w aw lw (zints ws)) (hcu : Cells w au lu (zints us)) (hcs : Cells w as' (2 * ls) (spotsV sp))
    (hlb : bs.length = lb) (hcap : lb ≤ cb) (hcap2 : cb ≤ maxLen) (hcb : Cells w ab lb (u8s bs)) (hok : wrongM ws us sp ≠ 0) (im : Img) (hld : loadM bs = (0, im)) :
    Calls Try.prog 5 #[.agg #[.slice aw lw cw, .slice au lu cu, .slice as' ls cs], .slice ab lb cb] w (Grows w true) := by
  have Hs := Lib.hid (fun w' (h : Below w.heap.size w w') => save_err aw au as' lw cw lu cu ls cs ws us sp w' hlw hlu hls (Cells.grow hcw h) (Cells.grow hcu h) (Cells.grow hcs h) hok)
  generalize wrongM ws us sp = n1 at *
  have f1 : ((n1 : Int) == 0) = false := t_ne (by omega)
  have f1' : ((n1 : Int) != 0) = true := by simp [bne, f1]
  clear hok hlw hlu hls hcw hcu hcs
  have Hl := Lib.hid (fun w' (h : Below w.heap.size w w') => load_any ab lb cb bs w' hlb hcap hcap2 (Cells.grow hcb h))
  rw [hld] at Hl
  have Hcb := Lib.hid (fun w' (h : Below w.heap.size w w') => (Cells.grow hcb h : Cells w' ab lb (u8s bs)))
  have Hlb := Lib.hid hlb
  clear hlb hcap hcap2 hcb
  go_enter Try.func5, Try.ntmps5
  go_wp2_with fail
  refine (alive_any _).mono ?_
  rintro e w1 ⟨rfl, hb1⟩
  have hb1' : Below w.heap.size w w1 := ((Below.refl _ _).alloc (Nat.le_refl _) _).trans (hb1.mono (by simp))
  have himg : w1.heap[w.heap.size]? = some (.cells #[.slice aw lw cw, .slice au lu cu, .slice as' ls cs] 29) := by
    rw [hb1.block _ (by simp)]; exact blk_new _ _
  have hlt1 : w.heap.size < w1.heap.size := blk_lt himg
  have c0 := blk_cell himg 0
  have c1 := blk_cell himg 1
  have c2 := blk_cell himg 2
  have Himg := Lib.hid himg
  clear hb1 himg
  have Hb1 := Lib.hid hb1'
  go_wp2_with fail
  refine (Hs.out _ hb1').mono ?_
  clear hb1' c0 c1 c2
  rintro e w2 ⟨rfl, hb2⟩
  have hbt := Hb1.out.trans (hb2.mono Hb1.out.size)
  have Hbt := Lib.hid hbt
  clear hb2
  go_wp2_with fail
  generalize w2 = wt at *
  refine (Hl.out _ hbt).mono ?_
  clear hbt
  rintro e w5 ⟨v5, rfl, himg5, hb6⟩
  obtain ⟨aw5, cw5, au5, cu5, as5, cs5, rfl, q1, q2, q3⟩ := himg5.ex
  have hb7 := Hbt.out.trans (hb6.mono Hbt.out.size)
  have hsz7 := hb7.size
  obtain ⟨y1, y2, y3⟩ := save_loaded hld
  have hsv := save_ok aw5 au5 as5 im.ws.length cw5 im.us.length cu5 im.sp.length cs5 im.ws im.us im.sp (w5.alloc (.cells #[.slice aw5 im.ws.length cw5, .slice au5 im.us.length cu5, .slice as5 im.sp.length cs5] 29)) rfl rfl rfl
    (q1.grow ((Below.refl _ _).alloc (Nat.le_refl _) _)) (q2.grow ((Below.refl _ _).alloc (Nat.le_refl _) _)) (q3.grow ((Below.refl _ _).alloc (Nat.le_refl _) _)) y1
  have hb8 : Below w.heap.size w (w5.alloc (.cells #[.slice aw5 im.ws.length cw5, .slice au5 im.us.length cu5, .slice as5 im.sp.length cs5] 29)) := hb7.alloc hsz7 _
  unfold SavePost at hsv
  rw [y2] at hsv
  have Hsv := Lib.hid hsv
  have Hb8 := Lib.hid hb8
  have hlb : lb ≤ 1000000 := by rw [← Hlb.out]; omega
  clear hsv hb8 himg5 q1 q2 q3 hb6 hb7 hld y1 y2 y3
  generalize im.ws.length = l1 at *
  generalize im.us.length = l2 at *
  generalize im.sp.length = l3 at *
  go_wp2_with fail
  refine Hsv.out.mono ?_
  rintro e w6 ⟨v6, rfl, hown6, hb9⟩
  obtain ⟨a6, cap6, rfl, h6a, h6b, h6c⟩ := owns_caps hown6
  have hb10 := Hb8.out.trans (hb9.mono Hb8.out.size)
  have Hb10 := Lib.hid hb10
  rw [Hlb.out] at h6c ⊢
  have Hsb := Lib.hid (same_bytes a6 ab lb cap6 cb bs w6 hlb h6c (Hcb.out w6 hb10))
  clear hown6 hb9 h6a h6b h6c hb10
  go_wp2_with fail
  refine Hsb.out.mono ?_
  rintro e w7 ⟨rfl, m7, rfl⟩
  go_wp2_with fail
  go_ret
  exact ⟨rfl, below_drewN' Hb10.out _⟩

set_option maxHeartbeats 1000000 in
set_option maxRecDepth 100000 in
theorem turns_B1 (aw au as' ab : Option Addr) (lw cw lu cu ls cs lb cb : Nat) (ws us : List Int) (sp : List (ByteArray × Int)) (bs : List UInt8) (w : World)
    (hlw : ws.length = lw) (hlu : us.length = lu) (hls : sp.length = ls) (hcw : Cells w aw lw (zints ws)) (hcu : Cells w au lu (zints us)) (hcs : Cells w as' (2 * ls) (spotsV sp))
    (hlb : bs.length = lb) (hcap : lb ≤ cb) (hcap2 : cb ≤ maxLen) (hcb : Cells w ab lb (u8s bs)) (hok : wrongM ws us sp = 0) (nl : Nat) (im : Img) (hld : loadM bs = (nl, im)) (hnl : nl ≠ 0) :
    Calls Try.prog 5 #[.agg #[.slice aw lw cw, .slice au lu cu, .slice as' ls cs], .slice ab lb cb] w (Grows w true) := by
  have Hs := Lib.hid (fun w' (h : Below w.heap.size w w') => save_ok aw au as' lw cw lu cu ls cs ws us sp w' hlw hlu hls (Cells.grow hcw h) (Cells.grow hcu h) (Cells.grow hcs h) hok)
  have hlen := saveM_length hok
  have Hsl := Lib.hid (load_saved ws us sp hok hlen)
  obtain ⟨z1, z2, z3, -, -, -⟩ := wrong_zero hok
  have Hsame := Lib.hid (fun w' aw' au' as'' cw' cu' cs' (h : Below w.heap.size w w') (h1 : Cells w' aw' lw (zints ws)) (h2 : Cells w' au' lu (zints us)) (h3 : Cells w' as'' (2 * ls) (spotsV sp)) =>
    same_image aw au as' aw' au' as'' lw cw lu cu ls cs cw' cu' cs' ws us sp w' (by omega) (by omega) (by omega) (Cells.grow hcw h) (Cells.grow hcu h) (Cells.grow hcs h) h1 h2 h3)
  have Hlw := Lib.hid hlw
  have Hlu := Lib.hid hlu
  have Hls := Lib.hid hls
  clear hok hlw hlu hls hcw hcu hcs z1 z2 z3
  unfold SavePost at Hs
  generalize saveM ws us sp = sv at *
  have Hl := Lib.hid (fun w' (h : Below w.heap.size w w') => load_any ab lb cb bs w' hlb hcap hcap2 (Cells.grow hcb h))
  rw [hld] at Hl
  have Hcb := Lib.hid (fun w' (h : Below w.heap.size w w') => (Cells.grow hcb h : Cells w' ab lb (u8s bs)))
  have Hlb := Lib.hid hlb
  clear hlb hcap hcap2 hcb
  go_enter Try.func5, Try.ntmps5
  go_wp2_with fail
  refine (alive_any _).mono ?_
  rintro e w1 ⟨rfl, hb1⟩
  have hb1' : Below w.heap.size w w1 := ((Below.refl _ _).alloc (Nat.le_refl _) _).trans (hb1.mono (by simp))
  have himg : w1.heap[w.heap.size]? = some (.cells #[.slice aw lw cw, .slice au lu cu, .slice as' ls cs] 29) := by
    rw [hb1.block _ (by simp)]; exact blk_new _ _
  have hlt1 : w.heap.size < w1.heap.size := blk_lt himg
  have c0 := blk_cell himg 0
  have c1 := blk_cell himg 1
  have c2 := blk_cell himg 2
  have Himg := Lib.hid himg
  clear hb1 himg
  have Hb1 := Lib.hid hb1'
  go_wp2_with fail
  refine (Hs.out _ hb1').mono ?_
  clear hb1' c0 c1 c2
  rintro e w2 ⟨v, rfl, hown, hb2⟩
  obtain ⟨a2, cap2, rfl, hca, hcb2, hcv⟩ := owns_caps hown
  have Hb2 := Lib.hid hb2
  clear hb2 hown
  have f2 : decide ((400000 : Int) < (sv.length : Int)) = false := decide_eq_false (by omega)
  go_wp2_with fail
  have hcall := load_any a2 sv.length cap2 sv w2 rfl hca hcb2 hcv
  rw [Hsl.out] at hcall
  refine hcall.mono ?_
  clear hcall
  rintro e w3 ⟨v3, rfl, himg3, hb3⟩
  obtain ⟨aw', cw', au', cu', as'', cs', rfl, k1, k2, k3⟩ := himg3.ex
  simp only [Hlw.out, Hlu.out, Hls.out] at k1 k2 k3 ⊢
  have hb23 := Hb2.out.trans (hb3.mono Hb2.out.size)
  have himg4 : (w3.alloc (.cells #[.slice aw' lw cw', .slice au' lu cu', .slice as'' ls cs'] 29)).heap[w.heap.size]? = some (.cells #[.slice aw lw cw, .slice au lu cu, .slice as' ls cs] 29) := by
    refine blk_alloc ?_ _
    rw [hb23.block _ hlt1]; exact Himg.out
  have hb4 : Below w.heap.size w (w3.alloc (.cells #[.slice aw' lw cw', .slice au' lu cu', .slice as'' ls cs'] 29)) :=
    (Hb1.out.trans (hb23.mono Hb1.out.size)).alloc (by have := hb23.size; omega) _
  have hsh := Hsame.out _ aw' au' as'' cw' cu' cs' hb4 (k1.grow ((Below.refl _ _).alloc (Nat.le_refl _) _)) (k2.grow ((Below.refl _ _).alloc (Nat.le_refl _) _)) (k3.grow ((Below.refl _ _).alloc (Nat.le_refl _) _))
  have c0 := blk_cell himg4 0
  have c1 := blk_cell himg4 1
  have c2 := blk_cell himg4 2
  have Hsh := Lib.hid hsh
  have Hb4 := Lib.hid hb4
  clear hsh himg4 hb23 hb4 k1 k2 k3 hb3 himg3 hcv hca hcb2
  go_wp2_with fail
  refine Hsh.out.mono ?_
  rintro e w4 ⟨rfl, hb5⟩
  have hbt := Hb4.out.trans (hb5.mono Hb4.out.size)
  have Hbt := Lib.hid hbt
  clear hb5 c0 c1 c2
  go_wp2_with fail
  generalize w4 = wt at *
  refine (Hl.out _ hbt).mono ?_
  clear hbt
  rintro e w5 ⟨v5, rfl, himg5, hb6⟩
  obtain ⟨aw5, cw5, au5, cu5, as5, cs5, rfl, q1, q2, q3⟩ := himg5.ex
  have g1 : ((nl : Int) == 0) = false := t_ne (by omega)
  have g1' : ((nl : Int) != 0) = true := by simp [bne, g1]
  have hb7 := Hbt.out.trans (hb6.mono Hbt.out.size)
  have Hb7 := Lib.hid hb7
  have hsz7 := hb7.size
  clear himg5 q1 q2 q3 hb6 hb7
  go_wp2_with fail
  go_ret
  exact ⟨rfl, Hb7.out.alloc hsz7 _⟩

set_option maxHeartbeats 1000000 in
set_option maxRecDepth 100000 in
theorem turns_B2 (aw au as' ab : Option Addr) (lw cw lu cu ls cs lb cb : Nat) (ws us : List Int) (sp : List (ByteArray × Int)) (bs : List UInt8) (w : World)
    (hlw : ws.length = lw) (hlu : us.length = lu) (hls : sp.length = ls) (hcw : Cells w aw lw (zints ws)) (hcu : Cells w au lu (zints us)) (hcs : Cells w as' (2 * ls) (spotsV sp))
    (hlb : bs.length = lb) (hcap : lb ≤ cb) (hcap2 : cb ≤ maxLen) (hcb : Cells w ab lb (u8s bs)) (hok : wrongM ws us sp = 0) (im : Img) (hld : loadM bs = (0, im)) :
    Calls Try.prog 5 #[.agg #[.slice aw lw cw, .slice au lu cu, .slice as' ls cs], .slice ab lb cb] w (Grows w true) := by
  have Hs := Lib.hid (fun w' (h : Below w.heap.size w w') => save_ok aw au as' lw cw lu cu ls cs ws us sp w' hlw hlu hls (Cells.grow hcw h) (Cells.grow hcu h) (Cells.grow hcs h) hok)
  have hlen := saveM_length hok
  have Hsl := Lib.hid (load_saved ws us sp hok hlen)
  obtain ⟨z1, z2, z3, -, -, -⟩ := wrong_zero hok
  have Hsame := Lib.hid (fun w' aw' au' as'' cw' cu' cs' (h : Below w.heap.size w w') (h1 : Cells w' aw' lw (zints ws)) (h2 : Cells w' au' lu (zints us)) (h3 : Cells w' as'' (2 * ls) (spotsV sp)) =>
    same_image aw au as' aw' au' as'' lw cw lu cu ls cs cw' cu' cs' ws us sp w' (by omega) (by omega) (by omega) (Cells.grow hcw h) (Cells.grow hcu h) (Cells.grow hcs h) h1 h2 h3)
  have Hlw := Lib.hid hlw
  have Hlu := Lib.hid hlu
  have Hls := Lib.hid hls
  clear hok hlw hlu hls hcw hcu hcs z1 z2 z3
  unfold SavePost at Hs
  generalize saveM ws us sp = sv at *
  have Hl := Lib.hid (fun w' (h : Below w.heap.size w w') => load_any ab lb cb bs w' hlb hcap hcap2 (Cells.grow hcb h))
  rw [hld] at Hl
  have Hcb := Lib.hid (fun w' (h : Below w.heap.size w w') => (Cells.grow hcb h : Cells w' ab lb (u8s bs)))
  have Hlb := Lib.hid hlb
  clear hlb hcap hcap2 hcb
  go_enter Try.func5, Try.ntmps5
  go_wp2_with fail
  refine (alive_any _).mono ?_
  rintro e w1 ⟨rfl, hb1⟩
  have hb1' : Below w.heap.size w w1 := ((Below.refl _ _).alloc (Nat.le_refl _) _).trans (hb1.mono (by simp))
  have himg : w1.heap[w.heap.size]? = some (.cells #[.slice aw lw cw, .slice au lu cu, .slice as' ls cs] 29) := by
    rw [hb1.block _ (by simp)]; exact blk_new _ _
  have hlt1 : w.heap.size < w1.heap.size := blk_lt himg
  have c0 := blk_cell himg 0
  have c1 := blk_cell himg 1
  have c2 := blk_cell himg 2
  have Himg := Lib.hid himg
  clear hb1 himg
  have Hb1 := Lib.hid hb1'
  go_wp2_with fail
  refine (Hs.out _ hb1').mono ?_
  clear hb1' c0 c1 c2
  rintro e w2 ⟨v, rfl, hown, hb2⟩
  obtain ⟨a2, cap2, rfl, hca, hcb2, hcv⟩ := owns_caps hown
  have Hb2 := Lib.hid hb2
  clear hb2 hown
  have f2 : decide ((400000 : Int) < (sv.length : Int)) = false := decide_eq_false (by omega)
  go_wp2_with fail
  have hcall := load_any a2 sv.length cap2 sv w2 rfl hca hcb2 hcv
  rw [Hsl.out] at hcall
  refine hcall.mono ?_
  clear hcall
  rintro e w3 ⟨v3, rfl, himg3, hb3⟩
  obtain ⟨aw', cw', au', cu', as'', cs', rfl, k1, k2, k3⟩ := himg3.ex
  simp only [Hlw.out, Hlu.out, Hls.out] at k1 k2 k3 ⊢
  have hb23 := Hb2.out.trans (hb3.mono Hb2.out.size)
  have himg4 : (w3.alloc (.cells #[.slice aw' lw cw', .slice au' lu cu', .slice as'' ls cs'] 29)).heap[w.heap.size]? = some (.cells #[.slice aw lw cw, .slice au lu cu, .slice as' ls cs] 29) := by
    refine blk_alloc ?_ _
    rw [hb23.block _ hlt1]; exact Himg.out
  have hb4 : Below w.heap.size w (w3.alloc (.cells #[.slice aw' lw cw', .slice au' lu cu', .slice as'' ls cs'] 29)) :=
    (Hb1.out.trans (hb23.mono Hb1.out.size)).alloc (by have := hb23.size; omega) _
  have hsh := Hsame.out _ aw' au' as'' cw' cu' cs' hb4 (k1.grow ((Below.refl _ _).alloc (Nat.le_refl _) _)) (k2.grow ((Below.refl _ _).alloc (Nat.le_refl _) _)) (k3.grow ((Below.refl _ _).alloc (Nat.le_refl _) _))
  have c0 := blk_cell himg4 0
  have c1 := blk_cell himg4 1
  have c2 := blk_cell himg4 2
  have Hsh := Lib.hid hsh
  have Hb4 := Lib.hid hb4
  clear hsh himg4 hb23 hb4 k1 k2 k3 hb3 himg3 hcv hca hcb2
  go_wp2_with fail
  refine Hsh.out.mono ?_
  rintro e w4 ⟨rfl, hb5⟩
  have hbt := Hb4.out.trans (hb5.mono Hb4.out.size)
  have Hbt := Lib.hid hbt
  clear hb5 c0 c1 c2
  go_wp2_with fail
  generalize w4 = wt at *
  refine (Hl.out _ hbt).mono ?_
  clear hbt
  rintro e w5 ⟨v5, rfl, himg5, hb6⟩
  obtain ⟨aw5, cw5, au5, cu5, as5, cs5, rfl, q1, q2, q3⟩ := himg5.ex
  have hb7 := Hbt.out.trans (hb6.mono Hbt.out.size)
  have hsz7 := hb7.size
  obtain ⟨y1, y2, y3⟩ := save_loaded hld
  have hsv := save_ok aw5 au5 as5 im.ws.length cw5 im.us.length cu5 im.sp.length cs5 im.ws im.us im.sp (w5.alloc (.cells #[.slice aw5 im.ws.length cw5, .slice au5 im.us.length cu5, .slice as5 im.sp.length cs5] 29)) rfl rfl rfl
    (q1.grow ((Below.refl _ _).alloc (Nat.le_refl _) _)) (q2.grow ((Below.refl _ _).alloc (Nat.le_refl _) _)) (q3.grow ((Below.refl _ _).alloc (Nat.le_refl _) _)) y1
  have hb8 : Below w.heap.size w (w5.alloc (.cells #[.slice aw5 im.ws.length cw5, .slice au5 im.us.length cu5, .slice as5 im.sp.length cs5] 29)) := hb7.alloc hsz7 _
  unfold SavePost at hsv
  rw [y2] at hsv
  have Hsv := Lib.hid hsv
  have Hb8 := Lib.hid hb8
  have hlb : lb ≤ 1000000 := by rw [← Hlb.out]; omega
  clear hsv hb8 himg5 q1 q2 q3 hb6 hb7 hld y1 y2 y3
  generalize im.ws.length = l1 at *
  generalize im.us.length = l2 at *
  generalize im.sp.length = l3 at *
  go_wp2_with fail
  refine Hsv.out.mono ?_
  rintro e w6 ⟨v6, rfl, hown6, hb9⟩
  obtain ⟨a6, cap6, rfl, h6a, h6b, h6c⟩ := owns_caps hown6
  have hb10 := Hb8.out.trans (hb9.mono Hb8.out.size)
  have Hb10 := Lib.hid hb10
  rw [Hlb.out] at h6c ⊢
  have Hsb := Lib.hid (same_bytes a6 ab lb cap6 cb bs w6 hlb h6c (Hcb.out w6 hb10))
  clear hown6 hb9 h6a h6b h6c hb10
  go_wp2_with fail
  refine Hsb.out.mono ?_
  rintro e w7 ⟨rfl, m7, rfl⟩
  go_wp2_with fail
  go_ret
  exact ⟨rfl, below_drewN' Hb10.out _⟩

end Go.Proofs.Ytoifodabfpbjlaa
