/- walk of pairlegallaw17.ObjectTells -/
import Derived.Test.YtoifodabfpbjlaaRefLoB
import Derived.Test.YtoifodabfpbjlaaTurnW
namespace Go.Proofs.Ytoifodabfpbjlaa
open Go.RowKit

def saveRes (ws us : List Int) (sp : List (ByteArray × Int)) : List UInt8 × Nat := if wrongM ws us sp = 0 then (saveM ws us sp, 0) else ([], wrongM ws us sp)
def SaveAny (r : List UInt8 × Nat) (w : World) (e : Ending) (w' : World) : Prop :=
  ∃ a c, e = .returned (.tuple #[.slice a r.1.length c, .int .i64 (r.2 : Nat)]) ∧ Cells w' a r.1.length (u8s r.1) ∧ Below w.heap.size w w'

theorem saveAny_ok {ws us : List Int} {sp : List (ByteArray × Int)} {w w' : World} {e : Ending} (hok : wrongM ws us sp = 0) (h : SavePost ws us sp w e w') : SaveAny (saveRes ws us sp) w e w' := by
  obtain ⟨v, rfl, ho, hb⟩ := h
  obtain ⟨a, c, rfl, hc, -⟩ := ho.read
  unfold saveRes
  rw [if_pos hok]
  exact ⟨a, c, rfl, hc, hb⟩
theorem saveAny_err {ws us : List Int} {sp : List (ByteArray × Int)} {w w' : World} {e : Ending} (hok : wrongM ws us sp ≠ 0) (h : SaveErr (wrongM ws us sp) w e w') : SaveAny (saveRes ws us sp) w e w' := by
  obtain ⟨rfl, hb⟩ := h
  unfold saveRes
  rw [if_neg hok]
  exact ⟨none, 0, rfl, .inl rfl, hb⟩

theorem save_both (aw au as' : Option Addr) (lw cw lu cu ls cs : Nat) (ws us : List Int) (sp : List (ByteArray × Int)) (w : World)
    (hlw : ws.length = lw) (hlu : us.length = lu) (hls : sp.length = ls) (hcw : Cells w aw lw (zints ws)) (hcu : Cells w au lu (zints us)) (hcs : Cells w as' (2 * ls) (spotsV sp))
    (nw : aw = none → lw = 0 ∧ cw = 0) (nu : au = none → lu = 0 ∧ cu = 0) :
    Calls Try.prog 10 #[.agg #[.slice aw lw cw, .slice au lu cu, .slice as' ls cs]] w (SaveAny (saveRes ws us sp) w) ∧
    Calls Try.prog 11 #[.agg #[.slice aw lw cw, .slice au lu cu, .slice as' ls cs]] w (SaveAny (saveRes ws us sp) w) := by
  by_cases hok : wrongM ws us sp = 0
  · exact ⟨(save_ok aw au as' lw cw lu cu ls cs ws us sp w hlw hlu hls hcw hcu hcs hok).mono fun _ _ h => saveAny_ok hok h,
      (refsave_ok aw au as' lw cw lu cu ls cs ws us sp w hlw hlu hls hcw hcu hcs nw nu hok).mono fun _ _ h => saveAny_ok hok h⟩
  · exact ⟨(save_err aw au as' lw cw lu cu ls cs ws us sp w hlw hlu hls hcw hcu hcs hok).mono fun _ _ h => saveAny_err hok h,
      (refsave_err aw au as' lw cw lu cu ls cs ws us sp w hlw hlu hls hcw hcu hcs nw nu hok).mono fun _ _ h => saveAny_err hok h⟩

theorem saveRes_length (ws us : List Int) (sp : List (ByteArray × Int)) : (saveRes ws us sp).1.length ≤ 1000000 := by
  unfold saveRes
  split
  · rename_i hok
    obtain ⟨q1, q2, q3, q4, q5, q6⟩ := wrong_zero hok
    have := bodyTo_length ws us sp sp.length (Nat.le_refl _) q6
    unfold saveM bodyM
    rw [List.length_append, bytesOf_length]
    omega
  · simp

theorem loadM_small (bs : List UInt8) : (loadM bs).2.ws.length ≤ 1000000 ∧ (loadM bs).2.us.length ≤ 1000000 ∧ (loadM bs).2.sp.length ≤ 1000000 := by
  have h0 : emptyImg.ws.length ≤ 1000000 ∧ emptyImg.us.length ≤ 1000000 ∧ emptyImg.sp.length ≤ 1000000 := by simp [emptyImg]
  unfold loadM
  split
  · exact h0
  · split
    · exact h0
    · split
      · exact h0
      · dsimp only
        split
        · exact h0
        · split
          · exact h0
          · rename_i h
            obtain ⟨q1, q2, q3, _⟩ := wrong_zero (by simpa using h)
            exact ⟨Nat.le_trans q1 (by decide), Nat.le_trans q2 (by decide), Nat.le_trans q3 (by decide)⟩

set_option maxHeartbeats 2000000 in
set_option maxRecDepth 100000 in
theorem tells_any (aw au as' ab : Option Addr) (lw cw lu cu ls cs lb cb : Nat) (ws us : List Int) (sp : List (ByteArray × Int)) (bs : List UInt8) (w : World)
    (hlw : ws.length = lw) (hlu : us.length = lu) (hls : sp.length = ls) (hcw : Cells w aw lw (zints ws)) (hcu : Cells w au lu (zints us)) (hcs : Cells w as' (2 * ls) (spotsV sp))
    (nw : aw = none → lw = 0 ∧ cw = 0) (nu : au = none → lu = 0 ∧ cu = 0)
    (hlb : bs.length = lb) (hcap : lb ≤ cb) (hcap2 : cb ≤ maxLen) (hlb2 : lb ≤ 140737488351232) (hcb : Cells w ab lb (u8s bs)) :
    Calls Try.prog 4 #[.agg #[.slice aw lw cw, .slice au lu cu, .slice as' ls cs], .slice ab lb cb] w (Grows w true) := by
  have Hs := Lib.hid (fun w' (h : Below w.heap.size w w') => save_both aw au as' lw cw lu cu ls cs ws us sp w' hlw hlu hls (Cells.grow hcw h) (Cells.grow hcu h) (Cells.grow hcs h) nw nu)
  have hsl := saveRes_length ws us sp
  obtain ⟨r, hsr⟩ : ∃ r, saveRes ws us sp = r := ⟨_, rfl⟩
  obtain ⟨sb, sn⟩ := r
  rw [hsr] at Hs hsl
  simp only at hsl
  clear hsr hlw hlu hls hcw hcu hcs nw nu
  have Hl := Lib.hid (fun w' (h : Below w.heap.size w w') => load_any ab lb cb bs w' hlb hcap hcap2 (Cells.grow hcb h))
  have Hr := Lib.hid (fun w' (h : Below w.heap.size w w') => refload_any ab lb cb bs w' hlb hcap hcap2 (Cells.grow hcb h))
  have hls := loadM_small bs
  have Hc1 := Lib.hid (fun w' (h : Below w.heap.size w w') => crc_any ab lb cb bs w' hlb (by omega) (Cells.grow hcb h))
  have Hc2 := Lib.hid (fun w' (h : Below w.heap.size w w') => refcrc_any ab lb cb bs w' hlb (by omega) (Cells.grow hcb h))
  generalize Crc.crc bs = x at *
  obtain ⟨r, hlm⟩ : ∃ r, loadM bs = r := ⟨_, rfl⟩
  obtain ⟨nl, im⟩ := r
  rw [hlm] at Hl Hr hls
  simp only at hls
  obtain ⟨ms1, ms2, ms3⟩ := hls
  have f0 : ((x : Int) != (x : Int)) = false := by simp
  have f1 : ((sn : Int) != (sn : Int)) = false := by simp
  have f2 : ((nl : Int) == (nl : Int)) = true := by simp
  clear hlm hlb hcap hcap2 hlb2 hcb
  have hb0 : Below w.heap.size w (w.alloc (.cells #[.slice aw lw cw, .slice au lu cu, .slice as' ls cs] 29)) := (Below.refl _ _).alloc (Nat.le_refl _) _
  have himg0 := blk_new w (.cells #[.slice aw lw cw, .slice au lu cu, .slice as' ls cs] 29)
  go_enter Try.func4, Try.ntmps4
  go_wp2_with fail
  generalize w.alloc (.cells #[.slice aw lw cw, .slice au lu cu, .slice as' ls cs] 29) = w0 at *
  refine (Hc1.out _ hb0).mono ?_
  rintro e w1 ⟨rfl, rfl⟩
  go_wp2_with fail
  refine (Hc2.out _ hb0).mono ?_
  rintro e w1 ⟨rfl, hb1⟩
  have himg1 := blk_grown himg0 (below_grown_none hb1) (by simp)
  have hbt1 := hb0.trans (hb1.mono hb0.size)
  clear himg0 hb1 hb0
  have c0 := blk_cell himg1 0
  have c1 := blk_cell himg1 1
  have c2 := blk_cell himg1 2
  go_wp2_with fail
  refine (Hs.out _ hbt1).1.mono ?_
  rintro e w2 ⟨a2, cc2, rfl, hc2, hb2⟩
  have himg2 := blk_grown himg1 (below_grown_none hb2) (by simp)
  have hbt2 := hbt1.trans (hb2.mono hbt1.size)
  clear himg1 hb2 hbt1 c0 c1 c2
  have c0 := blk_cell himg2 0
  have c1 := blk_cell himg2 1
  have c2 := blk_cell himg2 2
  have Hc2' := Lib.hid (fun w' (h : Below w2.heap.size w2 w') => Cells.grow hc2 h)
  clear hc2
  go_wp2_with fail
  refine (Hs.out _ hbt2).2.mono ?_
  rintro e w3 ⟨a3, cc3, rfl, hc3, hb3⟩
  have hbt3 := hbt2.trans (hb3.mono hbt2.size)
  have Hsb := Lib.hid (same_bytes a2 a3 sb.length cc2 cc3 sb w3 hsl (Hc2'.out _ hb3) hc3)
  clear himg2 hb3 hbt2 c0 c1 c2 Hc2' hc3
  go_wp2_with fail
  refine Hsb.out.mono ?_
  rintro e w4 ⟨rfl, m4, rfl⟩
  have hbt4 := below_drewN' hbt3 m4
  clear Hsb hbt3
  go_wp2_with fail
  refine (Hl.out _ hbt4).mono ?_
  rintro e w5 ⟨v5, rfl, himg5, hb5⟩
  have hbt5 := hbt4.trans (hb5.mono hbt4.size)
  obtain ⟨aw5, cw5, au5, cu5, as5, cs5, rfl, q1, q2, q3⟩ := himg5.ex
  have Q := Lib.hid (fun w' (h : Below w5.heap.size w5 w') => (⟨Cells.grow q1 h, Cells.grow q2 h, Cells.grow q3 h⟩ : Cells w' aw5 im.ws.length (zints im.ws) ∧ Cells w' au5 im.us.length (zints im.us) ∧ Cells w' as5 (2 * im.sp.length) (spotsV im.sp)))
  clear himg5 q1 q2 q3 hb5 hbt4
  have hsz5 := hbt5.size
  go_wp2_with fail
  have hbt6 : Below w.heap.size w (w5.alloc (.cells #[.slice aw5 im.ws.length cw5, .slice au5 im.us.length cu5, .slice as5 im.sp.length cs5] 29)) := hbt5.alloc hsz5 _
  have hb56 : Below w5.heap.size w5 (w5.alloc (.cells #[.slice aw5 im.ws.length cw5, .slice au5 im.us.length cu5, .slice as5 im.sp.length cs5] 29)) := (Below.refl _ _).alloc (Nat.le_refl _) _
  have himg6 := blk_new w5 (.cells #[.slice aw5 im.ws.length cw5, .slice au5 im.us.length cu5, .slice as5 im.sp.length cs5] 29)
  generalize w5.alloc (.cells #[.slice aw5 im.ws.length cw5, .slice au5 im.us.length cu5, .slice as5 im.sp.length cs5] 29) = w6 at *
  refine (Hr.out _ hbt6).mono ?_
  rintro e w7 ⟨v7, rfl, himg7, hb7⟩
  have hbt7 := hbt6.trans (hb7.mono hbt6.size)
  have hi67 := blk_grown himg6 (below_grown_none hb7) (by simp)
  have hb57 := hb56.trans (hb7.mono hb56.size)
  obtain ⟨aw7, cw7, au7, cu7, as7, cs7, rfl, q1, q2, q3⟩ := himg7.ex
  have c0 := blk_cell hi67 0
  have c1 := blk_cell hi67 1
  have c2 := blk_cell hi67 2
  have hlt : w5.heap.size < w7.heap.size := blk_lt hi67
  have hsz7 := hbt7.size
  have Hsi := Lib.hid (fun w' (h : Below w7.heap.size w7 w') => same_image aw5 au5 as5 aw7 au7 as7 im.ws.length cw5 im.us.length cu5 im.sp.length cs5 cw7 cu7 cs7 im.ws im.us im.sp w' ms1 ms2 ms3
    (Q.out _ (hb57.trans (h.mono hb57.size))).1 (Q.out _ (hb57.trans (h.mono hb57.size))).2.1 (Q.out _ (hb57.trans (h.mono hb57.size))).2.2 (Cells.grow q1 h) (Cells.grow q2 h) (Cells.grow q3 h))
  clear himg7 q1 q2 q3 hb7 hbt6 himg6 hi67 hb56 hb57 Q hbt5
  go_wp2_with fail
  refine (Hsi.out _ ((Below.refl _ _).alloc (Nat.le_refl _) _)).mono ?_
  rintro e w8 ⟨rfl, hb8⟩
  go_wp2_with fail
  go_ret
  exact ⟨rfl, (hbt7.alloc hsz7 _).trans (hb8.mono (by simp; omega))⟩
end Go.Proofs.Ytoifodabfpbjlaa
