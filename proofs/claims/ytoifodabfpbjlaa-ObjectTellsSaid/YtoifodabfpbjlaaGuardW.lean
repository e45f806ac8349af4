/- walk of pairlegallaw17.ObjectGuards -/
import Derived.Test.YtoifodabfpbjlaaSumsA
import Derived.Test.YtoifodabfpbjlaaGuardQ
namespace Go.Proofs.Ytoifodabfpbjlaa
open Go.RowKit

theorem saveM_length {ws us : List Int} {sp : List (ByteArray × Int)} (h : wrongM ws us sp = 0) : (saveM ws us sp).length ≤ 400000 := by
  obtain ⟨h1, h2, h3, h4, h5, h6⟩ := wrong_zero h
  have := bodyTo_length ws us sp sp.length (Nat.le_refl _) h6
  unfold saveM bodyM
  simp only [List.length_append, bytesOf_length]
  omega

section
variable (aw au as' : Option Addr) (lw cw lu cu ls cs : Nat) (ws us : List Int) (sp : List (ByteArray × Int)) (w : World)
  (hlw : ws.length = lw) (hlu : us.length = lu) (hls : sp.length = ls) (hcw : Cells w aw lw (zints ws)) (hcu : Cells w au lu (zints us)) (hcs : Cells w as' (2 * ls) (spotsV sp))
include hlw hlu hls hcw hcu hcs

set_option maxHeartbeats 1000000 in
theorem guards_err (x p q : Int) (hok : wrongM ws us sp ≠ 0) :
    Calls Try.prog 6 #[.agg #[.slice aw lw cw, .slice au lu cu, .slice as' ls cs], .int .i64 x, .int .i64 p, .int .i64 q] w (Grows w true) := by
  have Hs := Lib.hid (fun w' (h : Below w.heap.size w w') => save_err aw au as' lw cw lu cu ls cs ws us sp w' hlw hlu hls (Cells.grow hcw h) (Cells.grow hcu h) (Cells.grow hcs h) hok)
  generalize wrongM ws us sp = n at *
  have f1 : ((n : Int) == 0) = false := t_ne (by omega)
  have f1' : ((n : Int) != 0) = true := by simp [bne, f1]
  clear hok
  go_enter Try.func6, Try.ntmps6
  go_wp2_with fail
  refine (alive_any _).mono ?_
  rintro e w1 ⟨rfl, hb1⟩
  have hb1' : Below w.heap.size w w1 := ((Below.refl _ _).alloc (Nat.le_refl _) _).trans (hb1.mono (by simp))
  have himg : w1.heap[w.heap.size]? = some (.cells #[.slice aw lw cw, .slice au lu cu, .slice as' ls cs] 29) := by
    rw [hb1.block _ (by simp)]; exact blk_new _ _
  have c0 := blk_cell himg 0
  have c1 := blk_cell himg 1
  have c2 := blk_cell himg 2
  clear hb1 himg
  have Hb1 := Lib.hid hb1'
  go_wp2_with fail
  refine (Hs.out _ hb1').mono ?_
  clear hb1'
  rintro e w2 ⟨rfl, hb2⟩
  have Hb2 := Lib.hid hb2
  clear hb2
  go_wp2_with fail
  go_ret
  exact ⟨rfl, Hb1.out.trans (Hb2.out.mono Hb1.out.size)⟩

set_option maxHeartbeats 1000000 in
theorem guards_bad1 (x p q : Int) (hok : wrongM ws us sp = 0) (h : x < 0) :
    Calls Try.prog 6 #[.agg #[.slice aw lw cw, .slice au lu cu, .slice as' ls cs], .int .i64 x, .int .i64 p, .int .i64 q] w (Grows w true) := by
  have Hs := Lib.hid (fun w' (h : Below w.heap.size w w') => save_ok aw au as' lw cw lu cu ls cs ws us sp w' hlw hlu hls (Cells.grow hcw h) (Cells.grow hcu h) (Cells.grow hcs h) hok)
  have hlen := saveM_length hok
  have hlen6 : 8 ≤ (saveM ws us sp).length := by have := bodyM_six ws us sp; unfold saveM; simp only [List.length_append, bytesOf_length]; omega
  clear hok
  go_enter Try.func6, Try.ntmps6
  go_wp2_with fail
  refine (alive_any _).mono ?_
  rintro e w1 ⟨rfl, hb1⟩
  have hb1' : Below w.heap.size w w1 := ((Below.refl _ _).alloc (Nat.le_refl _) _).trans (hb1.mono (by simp))
  have himg : w1.heap[w.heap.size]? = some (.cells #[.slice aw lw cw, .slice au lu cu, .slice as' ls cs] 29) := by
    rw [hb1.block _ (by simp)]; exact blk_new _ _
  have c0 := blk_cell himg 0
  have c1 := blk_cell himg 1
  have c2 := blk_cell himg 2
  clear hb1 himg
  have Hb1 := Lib.hid hb1'
  go_wp2_with fail
  refine (Hs.out _ hb1').mono ?_
  clear hb1'
  rintro e w2 ⟨v, rfl, hown, hb2⟩
  obtain ⟨a, cap, rfl, -, -⟩ := hown.read
  have Hb2 := Lib.hid hb2
  clear hb2 hown
  generalize (saveM ws us sp).length = L at *
  have fw : wrap64 ((L : Int) - 2) = L - 2 := by unfold wrap64; omega
  have f1 : decide (x < 0) = true := decide_eq_true (by omega)
  go_wp2_with fail
  go_ret
  exact ⟨rfl, Hb1.out.trans (Hb2.out.mono Hb1.out.size)⟩

set_option maxHeartbeats 1000000 in
theorem guards_bad2 (x p q : Int) (hok : wrongM ws us sp = 0) (h : 0 ≤ x) (h2 : ((saveM ws us sp).length : Int) - 2 < x) :
    Calls Try.prog 6 #[.agg #[.slice aw lw cw, .slice au lu cu, .slice as' ls cs], .int .i64 x, .int .i64 p, .int .i64 q] w (Grows w true) := by
  have Hs := Lib.hid (fun w' (h : Below w.heap.size w w') => save_ok aw au as' lw cw lu cu ls cs ws us sp w' hlw hlu hls (Cells.grow hcw h) (Cells.grow hcu h) (Cells.grow hcs h) hok)
  have hlen := saveM_length hok
  have hlen6 : 8 ≤ (saveM ws us sp).length := by have := bodyM_six ws us sp; unfold saveM; simp only [List.length_append, bytesOf_length]; omega
  clear hok
  go_enter Try.func6, Try.ntmps6
  go_wp2_with fail
  refine (alive_any _).mono ?_
  rintro e w1 ⟨rfl, hb1⟩
  have hb1' : Below w.heap.size w w1 := ((Below.refl _ _).alloc (Nat.le_refl _) _).trans (hb1.mono (by simp))
  have himg : w1.heap[w.heap.size]? = some (.cells #[.slice aw lw cw, .slice au lu cu, .slice as' ls cs] 29) := by
    rw [hb1.block _ (by simp)]; exact blk_new _ _
  have c0 := blk_cell himg 0
  have c1 := blk_cell himg 1
  have c2 := blk_cell himg 2
  clear hb1 himg
  have Hb1 := Lib.hid hb1'
  go_wp2_with fail
  refine (Hs.out _ hb1').mono ?_
  clear hb1'
  rintro e w2 ⟨v, rfl, hown, hb2⟩
  obtain ⟨a, cap, rfl, -, -⟩ := hown.read
  have Hb2 := Lib.hid hb2
  clear hb2 hown
  generalize (saveM ws us sp).length = L at *
  have fw : wrap64 ((L : Int) - 2) = L - 2 := by unfold wrap64; omega
  have f1 : decide (x < 0) = false := decide_eq_false (by omega)
  have f2 : decide ((L : Int) - 2 < x) = true := decide_eq_true (by omega)
  go_wp2_with fail
  go_ret
  exact ⟨rfl, Hb1.out.trans (Hb2.out.mono Hb1.out.size)⟩

set_option maxHeartbeats 1000000 in
theorem guards_bad3 (x p q : Int) (hok : wrongM ws us sp = 0) (h : 0 ≤ x) (h2 : x ≤ ((saveM ws us sp).length : Int) - 2) (h3 : p < 0) :
    Calls Try.prog 6 #[.agg #[.slice aw lw cw, .slice au lu cu, .slice as' ls cs], .int .i64 x, .int .i64 p, .int .i64 q] w (Grows w true) := by
  have Hs := Lib.hid (fun w' (h : Below w.heap.size w w') => save_ok aw au as' lw cw lu cu ls cs ws us sp w' hlw hlu hls (Cells.grow hcw h) (Cells.grow hcu h) (Cells.grow hcs h) hok)
  have hlen := saveM_length hok
  have hlen6 : 8 ≤ (saveM ws us sp).length := by have := bodyM_six ws us sp; unfold saveM; simp only [List.length_append, bytesOf_length]; omega
  clear hok
  go_enter Try.func6, Try.ntmps6
  go_wp2_with fail
  refine (alive_any _).mono ?_
  rintro e w1 ⟨rfl, hb1⟩
  have hb1' : Below w.heap.size w w1 := ((Below.refl _ _).alloc (Nat.le_refl _) _).trans (hb1.mono (by simp))
  have himg : w1.heap[w.heap.size]? = some (.cells #[.slice aw lw cw, .slice au lu cu, .slice as' ls cs] 29) := by
    rw [hb1.block _ (by simp)]; exact blk_new _ _
  have c0 := blk_cell himg 0
  have c1 := blk_cell himg 1
  have c2 := blk_cell himg 2
  clear hb1 himg
  have Hb1 := Lib.hid hb1'
  go_wp2_with fail
  refine (Hs.out _ hb1').mono ?_
  clear hb1'
  rintro e w2 ⟨v, rfl, hown, hb2⟩
  obtain ⟨a, cap, rfl, -, -⟩ := hown.read
  have Hb2 := Lib.hid hb2
  clear hb2 hown
  generalize (saveM ws us sp).length = L at *
  have fw : wrap64 ((L : Int) - 2) = L - 2 := by unfold wrap64; omega
  have f1 : decide (x < 0) = false := decide_eq_false (by omega)
  have f2 : decide ((L : Int) - 2 < x) = false := decide_eq_false (by omega)
  have f3 : decide (p < 0) = true := decide_eq_true (by omega)
  go_wp2_with fail
  go_ret
  exact ⟨rfl, Hb1.out.trans (Hb2.out.mono Hb1.out.size)⟩

set_option maxHeartbeats 1000000 in
theorem guards_bad4 (x p q : Int) (hok : wrongM ws us sp = 0) (h : 0 ≤ x) (h2 : x ≤ ((saveM ws us sp).length : Int) - 2) (h3 : 0 ≤ p) (h4 : q < 0) :
    Calls Try.prog 6 #[.agg #[.slice aw lw cw, .slice au lu cu, .slice as' ls cs], .int .i64 x, .int .i64 p, .int .i64 q] w (Grows w true) := by
  have Hs := Lib.hid (fun w' (h : Below w.heap.size w w') => save_ok aw au as' lw cw lu cu ls cs ws us sp w' hlw hlu hls (Cells.grow hcw h) (Cells.grow hcu h) (Cells.grow hcs h) hok)
  have hlen := saveM_length hok
  have hlen6 : 8 ≤ (saveM ws us sp).length := by have := bodyM_six ws us sp; unfold saveM; simp only [List.length_append, bytesOf_length]; omega
  clear hok
  go_enter Try.func6, Try.ntmps6
  go_wp2_with fail
  refine (alive_any _).mono ?_
  rintro e w1 ⟨rfl, hb1⟩
  have hb1' : Below w.heap.size w w1 := ((Below.refl _ _).alloc (Nat.le_refl _) _).trans (hb1.mono (by simp))
  have himg : w1.heap[w.heap.size]? = some (.cells #[.slice aw lw cw, .slice au lu cu, .slice as' ls cs] 29) := by
    rw [hb1.block _ (by simp)]; exact blk_new _ _
  have c0 := blk_cell himg 0
  have c1 := blk_cell himg 1
  have c2 := blk_cell himg 2
  clear hb1 himg
  have Hb1 := Lib.hid hb1'
  go_wp2_with fail
  refine (Hs.out _ hb1').mono ?_
  clear hb1'
  rintro e w2 ⟨v, rfl, hown, hb2⟩
  obtain ⟨a, cap, rfl, -, -⟩ := hown.read
  have Hb2 := Lib.hid hb2
  clear hb2 hown
  generalize (saveM ws us sp).length = L at *
  have fw : wrap64 ((L : Int) - 2) = L - 2 := by unfold wrap64; omega
  have f1 : decide (x < 0) = false := decide_eq_false (by omega)
  have f2 : decide ((L : Int) - 2 < x) = false := decide_eq_false (by omega)
  have f3 : decide (p < 0) = false := decide_eq_false (by omega)
  have f4 : decide (q < 0) = true := decide_eq_true (by omega)
  go_wp2_with fail
  go_ret
  exact ⟨rfl, Hb1.out.trans (Hb2.out.mono Hb1.out.size)⟩

set_option maxHeartbeats 1000000 in
theorem guards_bad5 (x p q : Int) (hok : wrongM ws us sp = 0) (h : 0 ≤ x) (h2 : x ≤ ((saveM ws us sp).length : Int) - 2) (h4 : 0 ≤ q) (h5 : 255 < p) :
    Calls Try.prog 6 #[.agg #[.slice aw lw cw, .slice au lu cu, .slice as' ls cs], .int .i64 x, .int .i64 p, .int .i64 q] w (Grows w true) := by
  have Hs := Lib.hid (fun w' (h : Below w.heap.size w w') => save_ok aw au as' lw cw lu cu ls cs ws us sp w' hlw hlu hls (Cells.grow hcw h) (Cells.grow hcu h) (Cells.grow hcs h) hok)
  have hlen := saveM_length hok
  have hlen6 : 8 ≤ (saveM ws us sp).length := by have := bodyM_six ws us sp; unfold saveM; simp only [List.length_append, bytesOf_length]; omega
  clear hok
  go_enter Try.func6, Try.ntmps6
  go_wp2_with fail
  refine (alive_any _).mono ?_
  rintro e w1 ⟨rfl, hb1⟩
  have hb1' : Below w.heap.size w w1 := ((Below.refl _ _).alloc (Nat.le_refl _) _).trans (hb1.mono (by simp))
  have himg : w1.heap[w.heap.size]? = some (.cells #[.slice aw lw cw, .slice au lu cu, .slice as' ls cs] 29) := by
    rw [hb1.block _ (by simp)]; exact blk_new _ _
  have c0 := blk_cell himg 0
  have c1 := blk_cell himg 1
  have c2 := blk_cell himg 2
  clear hb1 himg
  have Hb1 := Lib.hid hb1'
  go_wp2_with fail
  refine (Hs.out _ hb1').mono ?_
  clear hb1'
  rintro e w2 ⟨v, rfl, hown, hb2⟩
  obtain ⟨a, cap, rfl, -, -⟩ := hown.read
  have Hb2 := Lib.hid hb2
  clear hb2 hown
  generalize (saveM ws us sp).length = L at *
  have fw : wrap64 ((L : Int) - 2) = L - 2 := by unfold wrap64; omega
  have f1 : decide (x < 0) = false := decide_eq_false (by omega)
  have f2 : decide ((L : Int) - 2 < x) = false := decide_eq_false (by omega)
  have f3 : decide (p < 0) = false := decide_eq_false (by omega)
  have f4 : decide (q < 0) = false := decide_eq_false (by omega)
  have f5 : decide (255 < p) = true := decide_eq_true (by omega)
  go_wp2_with fail
  go_ret
  exact ⟨rfl, Hb1.out.trans (Hb2.out.mono Hb1.out.size)⟩

set_option maxHeartbeats 1000000 in
theorem guards_bad6 (x p q : Int) (hok : wrongM ws us sp = 0) (h : 0 ≤ x) (h2 : x ≤ ((saveM ws us sp).length : Int) - 2) (h3 : 0 ≤ p) (h5 : p ≤ 255) (h6 : 255 < q) :
    Calls Try.prog 6 #[.agg #[.slice aw lw cw, .slice au lu cu, .slice as' ls cs], .int .i64 x, .int .i64 p, .int .i64 q] w (Grows w true) := by
  have Hs := Lib.hid (fun w' (h : Below w.heap.size w w') => save_ok aw au as' lw cw lu cu ls cs ws us sp w' hlw hlu hls (Cells.grow hcw h) (Cells.grow hcu h) (Cells.grow hcs h) hok)
  have hlen := saveM_length hok
  have hlen6 : 8 ≤ (saveM ws us sp).length := by have := bodyM_six ws us sp; unfold saveM; simp only [List.length_append, bytesOf_length]; omega
  clear hok
  go_enter Try.func6, Try.ntmps6
  go_wp2_with fail
  refine (alive_any _).mono ?_
  rintro e w1 ⟨rfl, hb1⟩
  have hb1' : Below w.heap.size w w1 := ((Below.refl _ _).alloc (Nat.le_refl _) _).trans (hb1.mono (by simp))
  have himg : w1.heap[w.heap.size]? = some (.cells #[.slice aw lw cw, .slice au lu cu, .slice as' ls cs] 29) := by
    rw [hb1.block _ (by simp)]; exact blk_new _ _
  have c0 := blk_cell himg 0
  have c1 := blk_cell himg 1
  have c2 := blk_cell himg 2
  clear hb1 himg
  have Hb1 := Lib.hid hb1'
  go_wp2_with fail
  refine (Hs.out _ hb1').mono ?_
  clear hb1'
  rintro e w2 ⟨v, rfl, hown, hb2⟩
  obtain ⟨a, cap, rfl, -, -⟩ := hown.read
  have Hb2 := Lib.hid hb2
  clear hb2 hown
  generalize (saveM ws us sp).length = L at *
  have fw : wrap64 ((L : Int) - 2) = L - 2 := by unfold wrap64; omega
  have f1 : decide (x < 0) = false := decide_eq_false (by omega)
  have f2 : decide ((L : Int) - 2 < x) = false := decide_eq_false (by omega)
  have f3 : decide (p < 0) = false := decide_eq_false (by omega)
  have f4 : decide (q < 0) = false := decide_eq_false (by omega)
  have f5 : decide (255 < p) = false := decide_eq_false (by omega)
  have f6 : decide (255 < q) = true := decide_eq_true (by omega)
  go_wp2_with fail
  go_ret
  exact ⟨rfl, Hb1.out.trans (Hb2.out.mono Hb1.out.size)⟩

set_option maxHeartbeats 1000000 in
theorem guards_bad7 (x p q : Int) (hok : wrongM ws us sp = 0) (h : 0 ≤ x) (h2 : x ≤ ((saveM ws us sp).length : Int) - 2) (h3 : p = 0) (h4 : q = 0) :
    Calls Try.prog 6 #[.agg #[.slice aw lw cw, .slice au lu cu, .slice as' ls cs], .int .i64 x, .int .i64 p, .int .i64 q] w (Grows w true) := by
  have Hs := Lib.hid (fun w' (h : Below w.heap.size w w') => save_ok aw au as' lw cw lu cu ls cs ws us sp w' hlw hlu hls (Cells.grow hcw h) (Cells.grow hcu h) (Cells.grow hcs h) hok)
  have hlen := saveM_length hok
  have hlen6 : 8 ≤ (saveM ws us sp).length := by have := bodyM_six ws us sp; unfold saveM; simp only [List.length_append, bytesOf_length]; omega
  clear hok
  go_enter Try.func6, Try.ntmps6
  go_wp2_with fail
  refine (alive_any _).mono ?_
  rintro e w1 ⟨rfl, hb1⟩
  have hb1' : Below w.heap.size w w1 := ((Below.refl _ _).alloc (Nat.le_refl _) _).trans (hb1.mono (by simp))
  have himg : w1.heap[w.heap.size]? = some (.cells #[.slice aw lw cw, .slice au lu cu, .slice as' ls cs] 29) := by
    rw [hb1.block _ (by simp)]; exact blk_new _ _
  have c0 := blk_cell himg 0
  have c1 := blk_cell himg 1
  have c2 := blk_cell himg 2
  clear hb1 himg
  have Hb1 := Lib.hid hb1'
  go_wp2_with fail
  refine (Hs.out _ hb1').mono ?_
  clear hb1'
  rintro e w2 ⟨v, rfl, hown, hb2⟩
  obtain ⟨a, cap, rfl, -, -⟩ := hown.read
  have Hb2 := Lib.hid hb2
  clear hb2 hown
  generalize (saveM ws us sp).length = L at *
  have fw : wrap64 ((L : Int) - 2) = L - 2 := by unfold wrap64; omega
  have f1 : decide (x < 0) = false := decide_eq_false (by omega)
  have f2 : decide ((L : Int) - 2 < x) = false := decide_eq_false (by omega)
  have f3 : decide (p < 0) = false := decide_eq_false (by omega)
  have f4 : decide (q < 0) = false := decide_eq_false (by omega)
  have f5 : decide (255 < p) = false := decide_eq_false (by omega)
  have f6 : decide (255 < q) = false := decide_eq_false (by omega)
  have f7 : (p == 0) = true := t_eq h3
  have f8 : (q == 0) = true := t_eq h4
  go_wp2_with fail
  go_ret
  exact ⟨rfl, Hb1.out.trans (Hb2.out.mono Hb1.out.size)⟩
end
end Go.Proofs.Ytoifodabfpbjlaa
