/-
  ShelfSort: the law's function.
-/
import Derived.Test.YtgmmfjmdpbhjnaaGreatJRc
import Derived.Test.YtgmmfjmdpbhjnaaGreatLSorP
import Derived.Test.YtgmmfjmdpbhjnaaGreatJMa
namespace Go.Proofs.YtgmmfjmdpbhjnaaGreat
open Go Go.RowKit

/-- an array of counts -/
structure CntsAt (w wr : World) (f : Nat → Nat) : Prop where
  below : Below w.heap.size w wr
  row : ∃ cur, wr.heap[w.heap.size]? = some (.cells cur 23 (0, 0)) ∧ cur.size = 256 ∧ ∀ v, v < 256 → cur[v]? = some (.int .i64 ((f v : Nat) : Int))
theorem CntsAt.cell {w wr : World} {f : Nat → Nat} (h : CntsAt w wr f) {v : Nat} (hv : v < 256) : wr.cell? ⟨w.heap.size, v, none⟩ = some (.int .i64 ((f v : Nat) : Int)) := by
  obtain ⟨cur, h1, _, h3⟩ := h.row
  rw [blk_cell h1]
  exact h3 v hv
theorem CntsAt.frozen {w wr : World} {f : Nat → Nat} (h : CntsAt w wr f) (v : Nat) : wr.frozen? ⟨w.heap.size, v, none⟩ = false := by
  obtain ⟨cur, h1, _, _⟩ := h.row
  exact blk_frozen h1 v
theorem CntsAt.put {w wr : World} {f g : Nat → Nat} (h : CntsAt w wr f) {v k : Nat} (hv : v < 256) (h1 : g v = k) (h2 : ∀ x, x ≠ v → g x = f x) : CntsAt w (wr.setCell ⟨w.heap.size, v, none⟩ (.int .i64 (k : Int))) g := by
  obtain ⟨cur, e1, e2, e3⟩ := h.row
  refine ⟨⟨h.below.os, h.below.tape, h.below.output, by have := h.below.size; simpa [World.setCell] using this, fun b hb => (Below.heap_setCell _ _ _ _ (show b ≠ w.heap.size by omega)).trans (h.below.block b hb)⟩, _, blk_set e1 v _, by simp [e2], fun x hx => ?_⟩
  rw [Array.getElem?_setIfInBounds]
  by_cases hxv : v = x
  · subst hxv
    rw [if_pos rfl, if_pos (by omega), h1]
  · rw [if_neg hxv, h2 x (fun e => hxv e.symm)]
    exact e3 x hx
theorem CntsAt.ext {w wr : World} {f g : Nat → Nat} (h : CntsAt w wr f) (e : ∀ v, g v = f v) : CntsAt w wr g := by
  have : g = f := funext e
  rw [this]; exact h
theorem info_arr : (Tryz.prog.info? 23).map (fun i => i.size) = some 256 := by kernel_rfl
theorem wpList_load_arr {w : World} {ops : Array Oper} {rest : List Oper} {o : Oper} {a : Act} {Q : Exit → Act → World → Prop} (hgd : o.guard = none) (x : Operand) (ho : o.op = .load 23 x)
    (b : Nat) (hx : a.eval x = .pointer (some ⟨b, 0, none⟩)) (vs : List Value) (hl : vs.length = 256) (hc : ∀ (j : Nat) v, vs[j]? = some v → w.cell? ⟨b, j, none⟩ = some v)
    (h : wpList Tryz.prog ops Q rest (a.put o.dst (.agg vs.toArray)) w) : wpList Tryz.prog ops Q (o :: rest) a w := by
  refine wpList_plain hgd fun K hK => ?_
  obtain ⟨i, hi, hs⟩ := Option.map_eq_some_iff.1 info_arr
  have hagg := XM.run_isAgg Tryz.underlying23 w
  have hld := run_loadCells_list (P := Tryz.prog) (w := w) ⟨b, 0, none⟩ vs (fun j v hj => by
    have e : (⟨b, 0, none⟩ : Addr).add j = ⟨b, j, none⟩ := by rw [XM.add_lit, Nat.zero_add]
    rw [e]; exact hc j v hj)
  rw [hl] at hld
  unfold Oper.wp
  have he : (execOp a.eval o).run Tryz.prog w = .ok (.value (.agg vs.toArray)) w := by
    simp [execOp, ho, hx, Instr.loadAt, Instr.sureAddr, loadVar, hagg, XM.aggOf, sizeOf, typeInfo, hi, hs, hld]
  rw [he]
  exact hK _ _ h
theorem wpList_index_arr {w : World} {ops : Array Oper} {rest : List Oper} {o : Oper} {a : Act} {Q : Exit → Act → World → Prop} (hgd : o.guard = none) (x ix : Operand) (ho : o.op = .index 23 x ix)
    (cs : Array Value) (j : Nat) (v : Value) (hx : a.eval x = .agg cs) (hi : a.eval ix = .int .i64 (j : Nat)) (hj : j < 256) (hv : cs[j]? = some v)
    (h : wpList Tryz.prog ops Q rest (a.put o.dst v) w) : wpList Tryz.prog ops Q (o :: rest) a w := by
  refine wpList_plain hgd fun K hK => ?_
  obtain ⟨i, h1, h2⟩ := Option.map_eq_some_iff.1 (show (Tryz.prog.info? 3).map (fun i => i.size) = some 1 by kernel_rfl)
  have hagg := XM.run_isAgg Tryz.underlying3 w
  unfold Oper.wp
  have he : (execOp a.eval o).run Tryz.prog w = .ok (.value v) w := by
    simp [execOp, ho, hx, hi, Instr.index, asIntOf, run_underlying Tryz.underlying23, part, sizeOf, typeInfo, h1, h2, hv, hj]
  rw [he]
  exact hK _ _ h

theorem zero_arr : Tryz.zeroCells23.size = 256 ∧ ∀ v, v < 256 → Tryz.zeroCells23[v]? = some (.int .i64 ((0 : Nat) : Int)) := by
  have h : Tryz.zeroCells23 = Array.replicate 256 (.int .i64 0) := by kernel_rfl
  rw [h]
  refine ⟨by simp, fun v hv => ?_⟩
  rw [Array.getElem?_replicate, if_pos hv]
  rfl
set_option maxHeartbeats 4000000 in
set_option maxRecDepth 100000 in
theorem shelfSort_ok (w : World) (a : Option Addr) (c : Nat) (inp : List Nat) (hin : BytesIn w a inp) (_ : a = none → inp.length = 0) (hreach : inp.length ≤ 140737488351232) {rdy : Rdy} (hP : Played 1936683636 4 rdy) (hR : rdy = ⟨0, sorBd, [List.replicate 64 0]⟩) :
    Calls Tryz.prog 3 #[.slice a inp.length c] w fun e w' => e = .returned (.bool true) ∧ Below w.heap.size w w' := by
  subst hR
  have hb : ∀ v ∈ inp, v < 256 := fun v hv => by
    obtain ⟨k, hk⟩ := List.getElem?_of_mem hv
    exact (hin k v hk).1
  obtain ⟨V, hV⟩ : ∃ V : Nat → List Nat, V = fun t => cT (cnt inp (min inp.length 64)) 0 t := ⟨_, rfl⟩
  have hV0 : V 0 = [] := by rw [hV]; rfl
  have hV1 : ∀ t, V (t + 1) = V t ++ List.replicate (cnt inp (min inp.length 64) t) t := fun t => by
    rw [hV]
    show cT _ 0 t ++ List.replicate (cnt inp _ (0 + t)) (0 + t) = _
    rw [Nat.zero_add]
  have hVs : V 256 = srt inp (min inp.length 64) := by rw [hV]; rfl
  have hle : ∀ i v, i ≤ 64 → cnt inp i v ≤ 64 := fun i v hi => by
    unfold cnt
    refine Nat.le_trans List.count_le_length ?_
    rw [List.length_take]; omega
  have hVl : (V 256).length ≤ 64 := by rw [hVs, srt_len hb _ (by omega)]; omega
  have T := fun (w1 : World) (wa : Option Addr) (wc : Nat) (hw : Below w.heap.size w w1) (h1 : BytesIn w1 wa (V 256)) (h2 : wa = none → (V 256).length = 0) =>
    tells_ok hP (inp := inp) (want := V 256) (large := decide ((60 : Int) < inp.length)) (w := w1) (a := a) (wa := wa) (c := c) (wc := wc) (fun hl => hin.inp hw hl) h1 h2
    (fun _ => by
      obtain ⟨n, v, s, h1, h2, h3⟩ := sort_means hb
      exact ⟨n, v, s, h1, by rw [h2, hVs], fun ho => decide_eq_true (by have := h3 ho; omega)⟩)
  have hs : XM.unB 1936683636 4 = ⟨#[115, 111, 114, 116]⟩ := by kernel_rfl
  rw [hs] at T
  have hVm : ∀ t, t ≤ 256 → (V t).length ≤ 64 := fun t ht => by
    have h1 : ∃ r, V 256 = V t ++ r := by
      rw [hV]
      have := cT_add (cnt inp (min inp.length 64)) 0 t (256 - t)
      rw [show t + (256 - t) = 256 by omega] at this
      exact ⟨_, this⟩
    obtain ⟨r, hr⟩ := h1
    rw [hr, List.length_append] at hVl
    omega
  have hcs : ∀ (j v : Nat), inp[j]? = some v → cnt inp (j + 1) v = cnt inp j v + 1 ∧ ∀ x, x ≠ v → cnt inp (j + 1) x = cnt inp j x := fun j v hv => by
    have hj := (List.getElem?_eq_some_iff.1 hv).1
    have h := cnt_succ (inp := inp) hj
    have e : curC inp j = v := by unfold curC; rw [hv]; rfl
    rw [e] at h
    exact h
  have HT := Lib.hid T
  have HIN := Lib.hid (And.intro hin hb)
  have HV := Lib.hid (And.intro hV0 (And.intro hV1 (And.intro hVm hle)))
  have HC := Lib.hid (And.intro hcs (cnt_zero inp))
  clear hin hb hs T hP hV hV0 hV1 hVs hVl hVm hle hcs
  obtain ⟨N, hN⟩ : ∃ N, N = inp.length := ⟨_, rfl⟩
  have HN := Lib.hid hN
  rw [← hN] at hreach HV ⊢
  clear hN
  obtain ⟨i0, hi, hz0, hz1, hz2⟩ := info_parts info_u8
  go_enter Tryz.func3, Tryz.ntmps3
  go_wp2_with fail
  go_loopw [12] (fun iv wr => ∃ j : Nat, j ≤ N ∧ iv = .int .i64 j ∧ CntsAt w wr (cnt inp (min j 64))) (fun iv _ => N - (intOf iv).toNat)
  case atStart =>
    refine ⟨0, Nat.zero_le _, rfl, ⟨(Below.refl _ w).alloc (Nat.le_refl _) _, _, heap_alloc_new w _, zero_arr.1, fun v hv => ?_⟩⟩
    rw [Nat.zero_min, HC.out.2]
    exact zero_arr.2 v hv
  case round =>
    obtain ⟨j, hj, rfl, hw⟩ := hrel
    by_cases hlt : j < N
    · have hls : decide ((j : Int) < N) = true := decide_eq_true (by omega)
      have hjl : j < inp.length := by have := HN.out; omega
      obtain ⟨v, hv⟩ : ∃ v, inp[j]? = some v := ⟨_, List.getElem?_eq_getElem hjl⟩
      obtain ⟨hv256, b, off, ha, hbl, hcell⟩ := (HIN.out.1.below hw.below) j v hv
      obtain ⟨k1, k2⟩ := HC.out.1 j v hv
      subst ha
      clear hv hjl
      by_cases h64 : j < 64
      · have q2 : decide ((j : Int) < 64) = true := decide_eq_true (by omega)
        have q3 : decide ((v : Int) < 256) = true := decide_eq_true (by omega)
        have e1 : min j 64 = j := by omega
        have e2 : min (j + 1) 64 = j + 1 := by omega
        rw [e1] at hw
        have hle := HV.out.2.2.2 j v (by omega)
        have hcel := hw.cell hv256
        have hfz := hw.frozen v
        have HW := Lib.hid (show CntsAt w (wr.setCell ⟨w.heap.size, v, none⟩ (.int .i64 ((cnt inp j v + 1 : Nat) : Int))) (cnt inp (min (j + 1) 64)) by rw [e2]; exact hw.put hv256 k1 k2)
        clear hw k1 k2 e1 e2
        generalize cnt inp j v = q at *
        have w1 : ((q + 1 : Nat) : Int) = (q : Int) + 1 := by omega
        rw [w1] at HW
        clear w1
        go_wp2_with fail
        go_round
        case rel => exact ⟨j + 1, by omega, by go_num, HW.out⟩
        case measure => simp [intOf]; omega
      · have q2 : decide ((j : Int) < 64) = false := decide_eq_false (by omega)
        have e1 : min j 64 = min (j + 1) 64 := by omega
        rw [e1] at hw
        have HW := Lib.hid hw
        clear hw k1 k2 e1
        go_wp2_with fail
        go_round
        case rel => exact ⟨j + 1, by omega, by go_num, HW.out⟩
        case measure => simp [intOf]; omega
    · obtain rfl : j = N := by omega
      have hls : decide (((j : Nat) : Int) < j) = false := decide_eq_false (by omega)
      have hf : ∀ v, cnt inp (min j 64) v ≤ 64 := fun v => HV.out.2.2.2 _ v (by omega)
      have HF := Lib.hid hf
      obtain ⟨f, hfe⟩ : ∃ f, f = cnt inp (min j 64) := ⟨_, rfl⟩
      rw [← hfe] at hw HV HF
      clear hf hfe
      obtain ⟨vs, hvs⟩ : ∃ vs : List Value, vs = (List.range 256).map (fun v => Value.int .i64 ((f v : Nat) : Int)) := ⟨_, rfl⟩
      have hvl : vs.length = 256 := by rw [hvs]; simp
      have hvc : ∀ (i : Nat) v, vs[i]? = some v → wr.cell? ⟨w.heap.size, i, none⟩ = some v := fun i v h => by
        have hlt := (List.getElem?_eq_some_iff.1 h).1
        rw [hvs] at h
        rw [List.getElem?_map, List.getElem?_range (by omega)] at h
        cases h
        exact hw.cell (by omega)
      have hvi : ∀ i, i < 256 → vs.toArray[i]? = some (Value.int .i64 ((f i : Nat) : Int)) := fun i hi => by
        rw [hvs]
        rw [List.getElem?_toArray, List.getElem?_map, List.getElem?_range hi]
        rfl
      have HVL := Lib.hid (And.intro hvl hvc)
      have HVI := Lib.hid hvi
      have HB := Lib.hid hw.below
      clear hvs hvl hvc hvi hw
      go_wp2_with (refine wpList_load_arr rfl (.tmp 3) rfl w.heap.size rfl vs HVL.out.1 HVL.out.2 ?_)
      obtain ⟨cs, hcs⟩ : ∃ cs, cs = vs.toArray := ⟨_, rfl⟩
      rw [← hcs] at HVI ⊢
      clear hcs
      have hst : WantAt w wr (.slice none 0 0) (V 0) := by
        rw [HV.out.1]
        exact ⟨(WantAt.nil wr).own, fun k h => (by cases h), HB.out, fun x h => (by simp at h)⟩
      have HST := Lib.hid hst
      clear hst HVL HB
      go_loopw [26, 6] (fun cv lv wr => ∃ t : Nat, t ≤ 256 ∧ cv = .int .i64 t ∧ WantAt w wr lv (V t)) (fun cv _ _ => 256 - (intOf cv).toNat)
      case atStart => exact ⟨0, by omega, rfl, HST.out⟩
      case round =>
        obtain ⟨t, ht, rfl, hw⟩ := hrel
        by_cases hlt : t < 256
        · have q1 : decide ((t : Int) < 256) = true := decide_eq_true (by omega)
          have hft := HF.out t
          have hvt := HVI.out t hlt
          have hvl := HV.out.2.2.1 (t + 1) (by omega)
          have hv1 := HV.out.2.1 t
          rw [hv1, List.length_append, List.length_replicate] at hvl
          have HV1 := Lib.hid hv1
          have HW := Lib.hid hw
          clear hw hv1
          generalize f t = n at *
          have hw8 : IntKind.u8.wrap (t : Int) = (t : Int) := by rw [IntKind.wrap]; simp [IntKind.bits, IntKind.signed]; omega
          generalize V t = vt at *
          obtain ⟨L, hL⟩ : ∃ L, L = vt.length := ⟨_, rfl⟩
          have HL := Lib.hid hL
          rw [← hL] at hvl
          clear hL
          go_wp2_with (refine wpList_index_arr rfl (.tmp 25) (.tmp 26) rfl cs t (.int .i64 (n : Int)) rfl rfl hlt hvt ?_)
          go_loopw [9, 6] (fun kv lv wr => ∃ k : Nat, k ≤ n ∧ kv = .int .i64 k ∧ WantAt w wr lv (vt ++ List.replicate k t)) (fun kv _ _ => n - (intOf kv).toNat)
          case atStart => exact ⟨0, by omega, rfl, by simpa using HW.out⟩
          case round =>
            obtain ⟨k, hk, rfl, hw⟩ := hrel
            by_cases hlk : k < n
            · have q2 : decide ((k : Int) < n) = true := decide_eq_true (by omega)
              have hown := hw.own
              have HW := Lib.hid hw
              have HJ := Lib.hid (show (vt ++ List.replicate k t) ++ [t] = vt ++ List.replicate (k + 1) t by rw [List.append_assoc, ← List.replicate_succ'])
              clear hw
              obtain ⟨M, hM⟩ : ∃ M, M = (vt ++ List.replicate k t).length := ⟨_, rfl⟩
              have hM2 : M ≤ 64 := by rw [hM, List.length_append, List.length_replicate]; have := HL.out; omega
              have HM := Lib.hid hM
              rw [← hM] at hown
              clear hM
              go_wp2_with (at_builtin; refine wpList_append_where rfl (.tmp 35) (.tmp 38) 22 rfl 5 i0 (.int .u8 0) 1 1 Tryz.underlying22 hi hz0 hz1 hz2 rfl (by decide) _ _ _ rfl (World.ownsRow.alloc hown _) ⟨wr.heap.size, 0, none⟩ 1 1 [.int .u8 (t : Int)] rfl rfl ?c1 ?c2 ?c3 ?c4 ?_)
              case c1 => exact cell_one_new _ _ _
              case c2 => intro u hu; simp at hu; subst hu; rfl
              case c3 => unfold maxLen; omega
              case c4 => omega
              intro lv' w3 hown' hgrow hwhere
              have hnew := HW.out.put (x := t) (by omega) (by rw [← HM.out]; exact hown') hgrow hwhere
              rw [HJ.out] at hnew
              have HNEW := Lib.hid hnew
              clear hnew hown' hgrow hwhere hown
              go_wp2_with fail
              go_round
              case rel => exact ⟨k + 1, by omega, by go_num, HNEW.out⟩
              case measure => simp [intOf]; omega
            · obtain rfl : k = n := by omega
              have q2 : decide (((k : Nat) : Int) < k) = false := decide_eq_false (by omega)
              rw [← HV1.out] at hw
              have HW2 := Lib.hid hw
              clear hw HW
              go_wp2_with fail
              go_round
              case rel => exact ⟨t + 1, by omega, by go_num, HW2.out⟩
              case measure => simp [intOf]; omega
        · obtain rfl : t = 256 := by omega
          have q1 : decide (((256 : Nat) : Int) < 256) = false := decide_eq_false (by omega)
          obtain ⟨wa, wc, hlv, hwa, hbytes⟩ := hw.bytes
          have TT := HT.out wr wa wc hw.below hbytes hwa
          obtain ⟨M, hM⟩ : ∃ M, M = (V 256).length := ⟨_, rfl⟩
          rw [← hM] at TT hlv
          rw [← HN.out] at TT
          subst hlv
          have HB := Lib.hid hw.below
          clear hw hwa hbytes hM
          go_wp2_with fail
          refine TT.mono ?_
          rintro e w2 ⟨rfl, hb2⟩
          have HB2 := Lib.hid hb2
          clear TT hb2
          go_wp2_with fail
          exact bodyPost_ret (v := .bool true) (by simp [results, Tryz.results3, go_sem]) rfl ⟨rfl, below2 HB.out HB2.out⟩
end Go.Proofs.YtgmmfjmdpbhjnaaGreat
