/- contract of the document's Wrong -/
import Derived.Test.YtoifodabfpbjlaaRefNam
import Derived.Test.YtoifodabfpbjlaaSumsA
import Derived.Test.YtoifodabfpbjlaaLoadA
namespace Go.Proofs.Ytoifodabfpbjlaa
open Go.RowKit

/-- 'append(s, x...)' where s is the call's own row and x's cells are known, at a single operation; x may be nil. -/
theorem wp_append_cells {P : Program} {w : World} {o : Oper} {a : Act} {K : Act → World → Prop} {Q : Exit → Act → World → Prop} (s x : Operand) (t : TypeId)
    (ho : o.op = .call { callee := .builtin .append, args := #[s, x], argTypes := #[t, t] })
    (base : Nat) (e : TypeId) (i : TypeInfo) (z : Value) (bytes : Nat) (ht : P.underlying t = some (.slice e)) (hi : P.info? e = some i) (hz : i.zero = some z)
    (hsize : i.size = 1) (hby : i.bytes = bytes) (hzs : z.cells.size = 1)
    (v : Value) (n : Nat) (xs : List Value) (hs : a.eval s = v) (hown : w.ownsRow base e 1 v n xs)
    (ad : Option Addr) (m c : Nat) (E : Nat → Value) (hx : a.eval x = .slice ad m c) (hnil : ad = none → m = 0 ∧ c = 0)
    (hc : Cells w ad m E) (h1 : ∀ k, (E k).oneCell' = true) (h63 : n + m ≤ maxLen) (hbytes : (n + m) * bytes ≤ 140737488355328) (hbase : base ≤ w.heap.size)
    (h : ∀ v' w', w'.ownsRow base e 1 v' (n + m) (xs ++ (List.range m).map E) → w.grownBy w' v.ownBlock → K (a.put o.dst v') w') : o.wp P a w K Q := by
  cases ad with
  | none =>
    obtain ⟨rfl, rfl⟩ := hnil rfl
    refine wp_append_own_none s x t ho base e i 1 ht hi v n xs hs hown hx (h v w ?_ ?_)
    · simpa using hown
    · exact ⟨rfl, rfl, rfl, Nat.le_refl _, fun _ _ _ => rfl⟩
  | some ad =>
    refine wp_append_own w s x t ho base e i z 1 bytes ht hi hz hsize hby hzs (by decide) v n xs hs hown ad m c ((List.range m).map E) hx (by simp) ?_ ?_ h63 hbytes hbase (fun v' w' h2 h3 _ => h v' w' h2 h3)
    · intro j u hu
      have hj : j < m := by
        have := (List.getElem?_eq_some_iff.1 hu).1
        simpa using this
      obtain ⟨b, off, he, hcell⟩ := hc.at hj
      cases he
      have hadd : (⟨b, off, none⟩ : Addr).add j = ⟨b, off + j, none⟩ := by unfold Addr.add; split <;> simp_all
      rw [hadd, hcell, ← hu]
      simp [hj]
    · intro u hu
      obtain ⟨k, _, rfl⟩ := List.mem_map.1 hu
      exact h1 k

theorem named_after {w wo wr w' : World} {v0 v1 : Value} (h1 : Below w.heap.size w wr) (h2 : Below wo.heap.size wo wr) (h : Below (wr.alloc (.cells #[v0, v1] 45)).heap.size (wr.alloc (.cells #[v0, v1] 45)) w') :
    Below w.heap.size w w' ∧ Below wo.heap.size wo w' ∧ w'.cell? ⟨wr.heap.size, 1, none⟩ = some v1 := by
  have hB := h1.size
  have hC := h2.size
  refine ⟨(h1.alloc hB _).trans (h.mono (by simp; omega)), (h2.alloc hC _).trans (h.mono (by simp; omega)), ?_⟩
  rw [h.cell (p := ⟨wr.heap.size, 1, none⟩) (by simp)]
  exact blk_cell (blk_new wr _) 1

set_option maxHeartbeats 1000000 in
theorem refwrong_any (aw au as' : Option Addr) (lw cw lu cu ls cs : Nat) (ws us : List Int) (sp : List (ByteArray × Int)) (w : World)
    (hlw : ws.length = lw) (hlu : us.length = lu) (hls : sp.length = ls) (hcw : Cells w aw lw (zints ws)) (hcu : Cells w au lu (zints us)) (hcs : Cells w as' (2 * ls) (spotsV sp))
    (nw : aw = none → lw = 0 ∧ cw = 0) (nu : au = none → lu = 0 ∧ cu = 0) :
    Calls Try.prog 19 #[.agg #[.slice aw lw cw, .slice au lu cu, .slice as' ls cs]] w (WrongPost ws us sp w) := by
  by_cases h1 : 65536 < lw
  · have H := Lib.hid (@wrong_many ws us sp (by omega))
    have f1 : decide ((65536 : Int) < lw) = true := decide_eq_true (by omega)
    clear hlw hlu hls
    go_enter Try.func19, Try.ntmps19
    go_wp2_with fail
    go_ret
    exact WrongPost.mk (by rw [H.out]; rfl) ((Below.refl _ _).alloc (Nat.le_refl _) _)
  have f1 : decide ((65536 : Int) < lw) = false := decide_eq_false (by omega)
  by_cases h2 : 400 < lu
  · have H := Lib.hid (@wrong_many ws us sp (by omega))
    have f2 : decide ((400 : Int) < lu) = true := decide_eq_true (by omega)
    clear hlw hlu hls
    go_enter Try.func19, Try.ntmps19
    go_wp2_with fail
    go_ret
    exact WrongPost.mk (by rw [H.out]; rfl) ((Below.refl _ _).alloc (Nat.le_refl _) _)
  have f2 : decide ((400 : Int) < lu) = false := decide_eq_false (by omega)
  by_cases h3 : 4000 < ls
  · have H := Lib.hid (@wrong_many ws us sp (by omega))
    have f3 : decide ((4000 : Int) < ls) = true := decide_eq_true (by omega)
    clear hlw hlu hls
    go_enter Try.func19, Try.ntmps19
    go_wp2_with fail
    go_ret
    exact WrongPost.mk (by rw [H.out]; rfl) ((Below.refl _ _).alloc (Nat.le_refl _) _)
  have f3 : decide ((4000 : Int) < ls) = false := decide_eq_false (by omega)
  have Hsm := Lib.hid (show ¬ (65536 < ws.length ∨ 400 < us.length ∨ 4000 < sp.length) by omega)
  have Hlw := Lib.hid hlw
  have Hlu := Lib.hid hlu
  have Hls := Lib.hid hls
  clear hlw hlu hls
  go_enter Try.func19, Try.ntmps19
  go_wp2_with fail
  have himg := blk_new w (.cells #[.slice aw lw cw, .slice au lu cu, .slice as' ls cs] 29)
  have hb1 : Below w.heap.size w (w.alloc (.cells #[.slice aw lw cw, .slice au lu cu, .slice as' ls cs] 29)) := (Below.refl _ _).alloc (Nat.le_refl _) _
  have hs1 : (w.alloc (.cells #[.slice aw lw cw, .slice au lu cu, .slice as' ls cs] 29)).heap.size = w.heap.size + 1 := by simp
  generalize w.alloc (.cells #[.slice aw lw cw, .slice au lu cu, .slice as' ls cs] 29) = w1 at *
  obtain ⟨i0, hi, hz0, hz1, hz2⟩ := info_parts Try.info3
  refine wp_region_held_drew (S := fun w' => w'.heap[w.heap.size]? = some (.cells #[.slice aw lw cw, .slice au lu cu, .slice as' ls cs] 29)) Try.checked.mixed himg (fun hS => ?_)
  refine wpAnyH_read (i := 1) (v := .pointer (some ⟨w.heap.size, 0, none⟩)) rfl (by kernel_rfl) (by kernel_rfl) (by kernel_rfl) (fun _ _ _ h => h) rfl (fun w' h => ?_) hS ?_
  · go_simp
  go_simp
  refine wpAnyH_read (i := 2) (v := .slice aw lw cw) rfl (by kernel_rfl) (by kernel_rfl) (by kernel_rfl) (fun _ _ _ h => h) rfl (fun w' h => ?_) hS ?_
  · have h1 := blk_cell h 0
    go_simp
  go_simp
  refine wpAnyH_read (i := 4) (v := .pointer (some ⟨w.heap.size, 1, none⟩)) rfl (by kernel_rfl) (by kernel_rfl) (by kernel_rfl) (fun _ _ _ h => h) rfl (fun w' h => ?_) hS ?_
  · go_simp
  go_simp
  refine wpAnyH_read (i := 5) (v := .slice au lu cu) rfl (by kernel_rfl) (by kernel_rfl) (by kernel_rfl) (fun _ _ _ h => h) rfl (fun w' h => ?_) hS ?_
  · have h1 := blk_cell h 1
    go_simp
  go_simp
  refine wpAnyH_read (i := 8) (v := .int .i64 0) rfl (by kernel_rfl) (by kernel_rfl) (by kernel_rfl) (fun _ _ _ h => h) rfl (fun w' h => ?_) hS ?_
  · go_simp
  go_simp
  refine wpAnyH_one (i := 0) (by kernel_rfl) rfl rfl (fun K hK => ?_)
  go_wp2_with fail
  refine hK _ _ (blk_alloc hS _) (fun hS2 => ?_)
  clear hK
  go_simp
  refine wpAnyH_one (i := 3) (by kernel_rfl) rfl rfl (fun K hK => ?_)
  have hown0 : (w1.alloc (.cells #[] 3)).drew.ownsRow (w.heap.size + 1) 3 1 (.slice (some ⟨w.heap.size + 1, 0, none⟩) 0 0) 0 [] := by
    have h := World.ownsRow_made (base := w.heap.size + 1) (e := 3) (size := 1) w1 #[] 0 (by omega) (by decide) rfl
    rw [hs1] at h
    exact h
  refine wp_append_cells (.tmp 23) (.tmp 25) 26 rfl (w.heap.size + 1) 3 i0 (.int .i64 0) 8 Try.underlying26 hi hz0 hz1 hz2 rfl (.slice (some ⟨w.heap.size + 1, 0, none⟩) 0 0) 0 [] rfl hown0 aw lw cw (zints ws) rfl nw ?c1 (fun _ => rfl) ?c3 ?c4 ?c5 ?_
  case c1 => exact Cells.grow hcw (hb1.alloc (by omega) _).drew
  case c3 => unfold maxLen; omega
  case c4 => omega
  case c5 => simp; omega
  intro v2 w2 hown1 hgr1
  have hb2 : Below w.heap.size w w2 := (hb1.alloc (by omega) (.cells #[] 3)).drew.grown hgr1 (by simp; omega) (fun k h => by simp [Value.ownBlock] at h; omega)
  have hS3 := blk_grown hS2 hgr1 (fun h => by simp [Value.ownBlock] at h)
  have hz2' := hgr1.size
  simp [hs1] at hz2'
  refine hK _ _ hS3 (fun _ => ?_)
  clear hK hS2 hown0 hgr1
  go_simp
  refine wpAnyH_one (i := 6) (by kernel_rfl) rfl rfl (fun K hK => ?_)
  refine wp_append_cells (.tmp 26) (.tmp 28) 26 rfl (w.heap.size + 1) 3 i0 (.int .i64 0) 8 Try.underlying26 hi hz0 hz1 hz2 rfl v2 _ _ rfl hown1 au lu cu (zints us) rfl nu ?d1 (fun _ => rfl) ?d3 ?d4 ?d5 ?_
  case d1 => exact Cells.grow hcu hb2
  case d3 => unfold maxLen; omega
  case d4 => omega
  case d5 => omega
  intro v3 w3 hown2 hgr2
  have hlo := World.ownsRow.lt hown1
  have hb3 : Below w.heap.size w w3 := hb2.grown hgr2 (by omega) (fun k h => by have := (hlo k h).1; omega)
  have hS4 := blk_grown hS3 hgr2 (fun h => by have := (hlo _ h.symm).1; omega)
  have hz3 := hgr2.size
  refine hK _ _ hS4 (fun _ => ?_)
  clear hK hS3 hown1 hgr2 hlo
  have hzs : ([] ++ (List.range lw).map (zints ws) ++ (List.range lu).map (zints us)).length = lw + lu := by simp
  obtain ⟨a3, cap3, rfl, hc3, -⟩ := (App.ofOwns hown2).read
  rw [Nat.mul_one] at hc3
  have hc4 : Cells w3 a3 (0 + lw + lu) (zints (ws ++ us)) := by
    refine hc3.congr fun k hk => ?_
    unfold zints
    simp only [List.nil_append, List.getD_eq_getElem?_getD, List.getElem?_append, List.length_map, List.length_range, Hlw.out]
    split
    · rename_i h
      simp [h]
    · rename_i h
      simp [show k - lw < lu by omega]
  have Hc2 : Hid (w3.cell? ⟨w.heap.size, 2, none⟩ = some (.slice as' ls cs)) := by
    exact blk_cell hS4 2
  go_simp
  refine wpAnyH_one (i := 7) (by kernel_rfl) rfl rfl (fun K hK => ?_)
  go_wp2_with fail
  refine hK _ _ hS4 (fun _ => ?_)
  clear hK
  go_simp
  refine wpAnyH_done (by kernel_rfl) ?_ _
  obtain ⟨zs, hzsd⟩ : ∃ zs, zs = ws ++ us := ⟨_, rfl⟩
  have Hzs := Lib.hid hzsd
  rw [← hzsd] at hc4
  obtain ⟨n, hn⟩ : ∃ n, n = lw + lu := ⟨_, rfl⟩
  have Hlen : Hid (zs.length = n) := Lib.hid (by rw [Hzs.out, List.length_append, Hlw.out, Hlu.out, hn])
  have hn8 : n ≤ 65936 := by omega
  have hc5 : Cells w3 a3 n (zints zs) := by rw [hn]; simpa using hc4
  have hcast : ((lw : Int) + lu) = (n : Int) := by omega
  have hcs3 := Cells.grow hcs hb3
  have hsp2 := Hc2.out
  have hb3' := Below.refl w3.heap.size w3
  rw [← hn, hcast]
  clear hc3 hc4 hown2 hzs hS4 hS hb2 hb1 himg hzsd hn hcast hcw hcu hcs Hc2 nw nu hi hz0 hz1 hz2 hz2' hz3 hs1
  go_wp2_with fail
  go_loop [2, 4, 31] (fun _ _ i => ∃ k : Nat, k ≤ n ∧ i = .int .i64 k ∧ ∀ m, m < k → okWord (zs.getD m 0) = true) (fun _ _ i => n - (intOf i).toNat)
  case atStart => exact ⟨0, by omega, rfl, fun n hn => absurd hn (Nat.not_lt_zero _)⟩
  case round =>
    obtain ⟨k, hk, rfl, hgood⟩ := hrel
    have Hgood := Lib.hid hgood
    clear hgood
    by_cases hlt2 : k < n
    · obtain ⟨b, off, rfl, hck⟩ := hc5.at hlt2
      have hin : Hid (zs.getD k 0 ∈ ws ++ us) := by
        rw [← Hzs.out]
        have : k < zs.length := by rw [Hlen.out]; exact hlt2
        rw [List.getD_eq_getElem?_getD, List.getElem?_eq_getElem this]
        exact List.getElem_mem _
      have hstep : okWord (zs.getD k 0) = true → Hid (∀ n, n < k + 1 → okWord (zs.getD n 0) = true) := by
        intro h n hn
        by_cases e : n = k
        · rw [e]; exact h
        · exact Hgood.out n (by omega)
      unfold zints at hck
      generalize zs.getD k 0 = x at hck hin hstep
      by_cases g1 : x < 0
      · have d1 : decide (x < 0) = true := decide_eq_true g1
        have H := Lib.hid (wrong_word (sp := sp) Hsm.out hin.out (okWord_false (by omega)))
        clear hstep
        go_wp2_with fail
        go_ret
        exact WrongPost.mk (by rw [H.out]; rfl) hb3
      have d1 : decide (x < 0) = false := decide_eq_false g1
      by_cases g2 : 65535 < x
      · have d2 : decide (65535 < x) = true := decide_eq_true g2
        have H := Lib.hid (wrong_word (sp := sp) Hsm.out hin.out (okWord_false (by omega)))
        clear hstep
        go_wp2_with fail
        go_ret
        exact WrongPost.mk (by rw [H.out]; rfl) hb3
      have d2 : decide (65535 < x) = false := decide_eq_false g2
      have H := hstep (okWord_true (by omega))
      clear hstep
      go_wp2_with fail
      go_round
      case rel => exact ⟨k + 1, by omega, by go_num, H.out⟩
      case measure => simp [intOf]; omega
    · obtain rfl : k = n := by omega
      have Hsp := Lib.hid (wrong_spots (ws := ws) (us := us) (sp := sp) Hsm.out (fun x hx => by
        rw [← Hzs.out] at hx
        obtain ⟨m, hm, rfl⟩ := List.getElem_of_mem hx
        have := Hgood.out m (by rw [← Hlen.out]; exact hm)
        rw [List.getD_eq_getElem?_getD, List.getElem?_eq_getElem hm] at this
        exact this))
      clear hc5
      go_wp2_with fail
      go_loopw [2, 6, 45] (fun _ _ i wr => ∃ k : Nat, k ≤ ls ∧ i = .int .i64 k ∧ (∀ n, n < k → spotWrong (sp.getD n (ByteArray.empty, 0)) = 0) ∧ Below w.heap.size w wr ∧ Below w3.heap.size w3 wr) (fun _ _ i _ => ls - (intOf i).toNat)
      case atStart => exact ⟨0, by omega, rfl, fun n hn => absurd hn (Nat.not_lt_zero _), hb3, hb3'⟩
      case round =>
        obtain ⟨k, hk, rfl, hgood, hw1, hw2⟩ := hrel
        have Hgood := Lib.hid hgood
        clear hgood
        by_cases hlt2 : k < ls
        · have hcs4 := Cells.grow hcs3 hw2
          obtain ⟨b, off, rfl, hck⟩ := hcs4.at (k := 2 * k) (by omega)
          have hck2 : wr.cell? ⟨b, off + 2 * k + 1, none⟩ = some (spotsV sp (2 * k + 1)) := by
            obtain ⟨b', off', he, h⟩ := hcs4.at (k := 2 * k + 1) (by omega)
            cases he
            exact h
          have e1 : spotsV sp (2 * k) = .string (sp.getD k (ByteArray.empty, 0)).1 := by
            unfold spotsV; rw [if_pos (by omega)]; congr 3; omega
          have e2 : spotsV sp (2 * k + 1) = .int .i64 (sp.getD k (ByteArray.empty, 0)).2 := by
            unfold spotsV; rw [if_neg (by omega)]; congr 3; omega
          rw [e1, Nat.mul_comm 2 k] at hck
          rw [e2, Nat.mul_comm 2 k] at hck2
          clear e1 e2
          have hkl : k < sp.length := by rw [Hls.out]; exact hlt2
          have hat := fun n (hn : n ≠ 0) (h : spotWrong (sp.getD k (ByteArray.empty, 0)) = n) => Lib.hid (spotsWrong_at hkl Hgood.out h hn)
          have hstep : spotWrong (sp.getD k (ByteArray.empty, 0)) = 0 → Hid (∀ n, n < k + 1 → spotWrong (sp.getD n (ByteArray.empty, 0)) = 0) := by
            intro h n hn
            by_cases e : n = k
            · rw [e]; exact h
            · exact Hgood.out n (by omega)
          clear hkl
          generalize sp.getD k (ByteArray.empty, 0) = s at hck hck2 hat hstep
          obtain ⟨nm, pl⟩ := s
          simp only at hck hck2
          have hw3 : ∀ o, Below w.heap.size w (wr.alloc o) := fun o => hw1.alloc (by have := hw1.size; omega) o
          have hw4 : ∀ o, Below w3.heap.size w3 (wr.alloc o) := fun o => hw2.alloc (by have := hw2.size; omega) o
          by_cases g1 : namedM nm.data.toList = false
          · have H := hat 7 (by omega) (by unfold spotWrong; rw [if_pos g1])
            clear hat hstep
            have hnm : Calls Try.prog 29 #[.string nm] (wr.alloc (.cells #[.string nm, .int .i64 pl] 45)) fun e w' => e = .returned (.bool false) ∧ Below (wr.alloc (.cells #[.string nm, .int .i64 pl] 45)).heap.size (wr.alloc (.cells #[.string nm, .int .i64 pl] 45)) w' := by
              rw [← g1]; exact refnamed_any nm _
            have Hnm := Lib.hid hnm
            clear hnm
            clear g1
            go_wp2_with fail
            refine Hnm.out.mono ?_
            rintro e w' ⟨rfl, hbn⟩
            obtain ⟨hq1, hq2, hq3⟩ := named_after hw1 hw2 hbn
            clear hbn
            go_wp2_with fail
            go_ret
            exact WrongPost.mk (by rw [Hsp.out, H.out]; rfl) hq1
          have hnm : Calls Try.prog 29 #[.string nm] (wr.alloc (.cells #[.string nm, .int .i64 pl] 45)) fun e w' => e = .returned (.bool true) ∧ Below (wr.alloc (.cells #[.string nm, .int .i64 pl] 45)).heap.size (wr.alloc (.cells #[.string nm, .int .i64 pl] 45)) w' := by
            rw [← show namedM nm.data.toList = true by simpa using g1]; exact refnamed_any nm _
          have Hnm := Lib.hid hnm
          clear hnm
          by_cases g2 : pl < 0
          · have H := hat 3 (by omega) (by unfold spotWrong; rw [if_neg g1, if_neg (by simp only []; omega)])
            have d1 : decide (pl < 0) = true := decide_eq_true g2
            clear hat hstep g1
            go_wp2_with fail
            refine Hnm.out.mono ?_
            rintro e w' ⟨rfl, hbn⟩
            obtain ⟨hq1, hq2, hq3⟩ := named_after hw1 hw2 hbn
            clear hbn
            go_wp2_with fail
            go_ret
            exact WrongPost.mk (by rw [Hsp.out, H.out]; rfl) hq1
          have d1 : decide (pl < 0) = false := decide_eq_false g2
          by_cases g3 : 65536 < pl
          · have H := hat 3 (by omega) (by unfold spotWrong; rw [if_neg g1, if_neg (by simp only []; omega)])
            have d2 : decide (65536 < pl) = true := decide_eq_true g3
            clear hat hstep g1
            go_wp2_with fail
            refine Hnm.out.mono ?_
            rintro e w' ⟨rfl, hbn⟩
            obtain ⟨hq1, hq2, hq3⟩ := named_after hw1 hw2 hbn
            clear hbn
            go_wp2_with fail
            go_ret
            exact WrongPost.mk (by rw [Hsp.out, H.out]; rfl) hq1
          have d2 : decide (65536 < pl) = false := decide_eq_false g3
          have H := hstep (by unfold spotWrong; rw [if_neg g1, if_pos (by simp only []; omega)])
          clear hat hstep g1
          go_wp2_with fail
          refine Hnm.out.mono ?_
          rintro e w' ⟨rfl, hbn⟩
          obtain ⟨hq1, hq2, hq3⟩ := named_after hw1 hw2 hbn
          clear hbn
          go_wp2_with fail
          go_roundw
          case rel => exact ⟨k + 1, by omega, by go_num, H.out, hq1, hq2⟩
          case measure => simp [intOf]; omega
        · obtain rfl : k = ls := by omega
          go_wp2_with fail
          go_ret
          exact WrongPost.mk (by rw [Hsp.out, spotsWrong_zero (by rw [Hls.out]; omega) Hgood.out, List.drop_of_length_le (by rw [Hls.out]; omega)]; rfl) hw1
end Go.Proofs.Ytoifodabfpbjlaa
