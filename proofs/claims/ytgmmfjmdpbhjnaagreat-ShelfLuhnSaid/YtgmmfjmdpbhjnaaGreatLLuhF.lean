/-
  ShelfLuhn: the law's function.
-/
import Derived.Test.YtgmmfjmdpbhjnaaGreatJRc
import Derived.Test.YtgmmfjmdpbhjnaaGreatLLuhP
import Derived.Test.YtgmmfjmdpbhjnaaGreatJRd
import Derived.Lib.SlBytesConst
namespace Go.Proofs.YtgmmfjmdpbhjnaaGreat
open Go Go.RowKit

def ints (l : List Nat) : List Value := l.map fun v => .int .i64 ((v : Nat) : Int)
/-- a row of numbers that a law makes -/
structure IntsAt (w0 w : World) (v : Value) (l : List Nat) : Prop where
  own : w.ownsRow 0 3 1 v l.length (ints l)
  ge : ∀ k, v.ownBlock = some k → w0.heap.size ≤ k
  below : Below w0.heap.size w0 w
theorem IntsAt.nil (w : World) : IntsAt w w (.slice none 0 0) [] := ⟨⟨rfl, .inl ⟨rfl, rfl⟩⟩, fun k h => (by cases h), Below.refl _ _⟩
theorem IntsAt.put {w0 w w' : World} {v v' : Value} {l : List Nat} {o : Obj} (h : IntsAt w0 w v l) {x : Nat} (hown : w'.ownsRow 0 3 1 v' (l.length + 1) (ints l ++ [.int .i64 (x : Int)])) (hg : (w.alloc o).grownBy w' v.ownBlock)
    (hw : ∀ k, v'.ownBlock = some k → v.ownBlock = some k ∨ w.heap.size + 1 ≤ k) : IntsAt w0 w' v' (l ++ [x]) := by
  have hs := h.below.size
  refine ⟨by rw [List.length_append]; unfold ints; rw [List.map_append]; exact hown, fun k hk => ?_, ⟨hg.os.trans h.below.os, hg.tape.trans h.below.tape, hg.output.trans h.below.output, ?_, fun b hb => ?_⟩⟩
  · rcases hw k hk with q | q
    · exact h.ge k q
    · omega
  · have := hg.size; rw [alloc_sz] at this; omega
  · rw [hg.block b (by rw [alloc_sz]; omega) (fun e => by have := h.ge b e.symm; omega), Below.heap_alloc _ _ _ (by omega)]
    exact h.below.block b hb
theorem IntsAt.shape {w0 w : World} {v : Value} {l : List Nat} (h : IntsAt w0 w v l) : ∃ a c, v = .slice a l.length c ∧ ∀ (k x : Nat), l[k]? = some x → ∃ b, a = some ⟨b, 0, none⟩ ∧ b < w.heap.size ∧ w.cell? ⟨b, k, none⟩ = some (.int .i64 ((x : Nat) : Int)) := by
  rcases h.own.2 with ⟨h1, h2⟩ | ⟨g, cap, cur, h1, h2, h3, h4, h5, h6, h7⟩
  · exact ⟨none, 0, by rw [h1, h2], fun k x hk => by have := (List.getElem?_eq_some_iff.1 hk).1; omega⟩
  · refine ⟨_, _, h1, fun k x hk => ⟨g, rfl, blk_lt h3, ?_⟩⟩
    rw [blk_cell h3 k]
    have hlt := (List.getElem?_eq_some_iff.1 hk).1
    have : (cur.toList.take (l.length * 1))[k]? = (ints l)[k]? := by rw [h7]
    rw [List.getElem?_take, if_pos (by omega)] at this
    rw [← Array.getElem?_toList, this]
    unfold ints
    rw [List.getElem?_map, hk]; rfl
theorem info_int : (Tryz.prog.info? 3).map (fun i => (i.zero, i.size, i.bytes)) = some (some (.int .i64 0), 1, 8) := by kernel_rfl
theorem byte2 (w : World) (d : Nat) (hd : d < 256) (f : Nat × Nat) : BytesIn (w.alloc (.cells #[.int .u8 (d : Nat), .int .u8 10] 5 f)) (some ⟨w.heap.size, 0, none⟩) [d, 10] := fun k v hk => by
  have hn := heap_alloc_new w (.cells #[.int .u8 (d : Nat), .int .u8 10] 5 f)
  have hs : w.heap.size < (w.alloc (.cells #[.int .u8 (d : Nat), .int .u8 10] 5 f)).heap.size := by rw [alloc_sz]; omega
  match k, hk with
  | 0, hk => cases hk; exact ⟨hd, _, 0, rfl, hs, by unfold World.cell?; rw [hn]; rfl⟩
  | 1, hk => cases hk; exact ⟨by omega, _, 0, rfl, hs, by unfold World.cell?; rw [hn]; rfl⟩
  | k + 2, hk => simp at hk

set_option maxHeartbeats 4000000 in
set_option maxRecDepth 100000 in
theorem shelfLuhn_ok (w : World) (a : Option Addr) (c : Nat) (inp : List Nat) (hin : BytesIn w a inp) (_ : a = none → inp.length = 0) (hreach : inp.length ≤ 140737488351232) {rdy : Rdy} (hP : Played 1819633774 4 rdy) (hR : rdy = ⟨0, luhBd, [List.replicate 40 0]⟩) :
    Calls Tryz.prog 11 #[.slice a inp.length c] w fun e w' => e = .returned (.bool true) ∧ Below w.heap.size w w' := by
  subst hR
  have hb : ∀ v ∈ inp, v < 256 := fun v hv => by
    obtain ⟨k, hk⟩ := List.getElem?_of_mem hv
    exact (hin k v hk).1
  have T := fun (d : Nat) (hd : (luhN inp % 10 = 0 ∧ d = 49) ∨ (luhN inp % 10 ≠ 0 ∧ d = 48)) (w1 : World) (wa : Option Addr) (wc : Nat) (hw : Below w.heap.size w w1) (h1 : BytesIn w1 wa [d, 10]) (h2 : wa = none → [d, 10].length = 0) =>
    tells_ok hP (inp := inp) (want := [d, 10]) (large := decide ((60 : Int) < inp.length)) (w := w1) (a := a) (wa := wa) (c := c) (wc := wc) (fun hl => hin.inp hw hl) h1 h2
    (fun _ => by
      obtain ⟨d', n, v, s, h0, q1, q2, q3⟩ := luh_means hb
      have : d' = d := by
        rcases hd with ⟨p, rfl⟩ | ⟨p, rfl⟩ <;> rcases h0 with ⟨p', rfl⟩ | ⟨p', rfl⟩
        · rfl
        · exact absurd p p'
        · exact absurd p' p
        · rfl
      subst this
      exact ⟨n, v, s, q1, q2, fun ho => decide_eq_true (by have := q3 ho; omega)⟩)
  have hs : XM.unB 1819633774 4 = ⟨#[108, 117, 104, 110]⟩ := by kernel_rfl
  rw [hs] at T
  obtain ⟨D, hD⟩ : ∃ D : Nat → List Nat, D = dgL inp := ⟨_, rfl⟩
  have hD0 : D 0 = [] := by rw [hD]; rfl
  have hD1 : ∀ (j v : Nat), inp[j]? = some v → D (j + 1) = if 48 ≤ v ∧ v ≤ 57 ∧ (D j).length < 40 then D j ++ [v - 48] else D j := fun j v hv => by
    have e : curC inp j = v := by unfold curC; rw [hv]; rfl
    rw [hD]
    show (if _ then _ else _) = _
    rw [e]
  have hDl : ∀ j, (D j).length ≤ 40 := fun j => by rw [hD]; exact dgL_len inp j
  have hDx : ∀ j, ∀ x ∈ D j, x < 10 := fun j => by rw [hD]; exact dgL_lt inp j
  have hN : luhN inp = gLu (D inp.length) (D inp.length).length := by rw [hD]; rfl
  have HT := Lib.hid T
  have HIN := Lib.hid (And.intro hin hb)
  have HD := Lib.hid (And.intro hD0 (And.intro hD1 (And.intro hDl (And.intro hDx hN))))
  clear hin hb hs T hP hD hD0 hD1 hDl hDx hN
  have kc := fun (w : World) (C : Array Value) (n c : Nat) => Lib.run_convert_bytes_const (P := Tryz.prog) w 22 5 C n c Tryz.underlying22 Tryz.underlying5
  obtain ⟨N, hN⟩ : ∃ N, N = inp.length := ⟨_, rfl⟩
  have HN := Lib.hid hN
  rw [← hN] at hreach ⊢
  clear hN
  obtain ⟨i0, hi, hz0, hz1, hz2⟩ := info_parts info_int
  go_enter Tryz.func11, Tryz.ntmps11
  go_wp2_with fail
  go_loopw [3, 12] (fun lv iv wr => ∃ j : Nat, j ≤ N ∧ iv = .int .i64 j ∧ IntsAt w wr lv (D j)) (fun _ iv _ => N - (intOf iv).toNat)
  case atStart => exact ⟨0, Nat.zero_le _, rfl, by rw [HD.out.1]; exact IntsAt.nil w⟩
  case round =>
    obtain ⟨j, hj, rfl, hw⟩ := hrel
    by_cases hlt : j < N
    · have hls : decide ((j : Int) < N) = true := decide_eq_true (by omega)
      have hjl : j < inp.length := by have := HN.out; omega
      obtain ⟨v, hv⟩ : ∃ v, inp[j]? = some v := ⟨_, List.getElem?_eq_getElem hjl⟩
      obtain ⟨hv256, b, off, ha, hbl, hcell⟩ := (HIN.out.1.below hw.below) j v hv
      have hstep := HD.out.2.1 j v hv
      have hlen := HD.out.2.2.1 j
      subst ha
      have hown := hw.own
      obtain ⟨sa, sc, rfl, -⟩ := hw.shape
      clear hv hjl
      by_cases c1 : 48 ≤ v
      · have p1 : decide ((48 : Int) ≤ v) = true := decide_eq_true (by omega)
        by_cases c2 : v ≤ 57
        · have p2 : decide ((v : Int) ≤ 57) = true := decide_eq_true (by omega)
          by_cases c3 : (D j).length < 40
          · rw [if_pos ⟨c1, c2, c3⟩] at hstep
            obtain ⟨M, hM⟩ : ∃ M, M = (D j).length := ⟨_, rfl⟩
            have HM := Lib.hid hM
            rw [← hM] at hown hlen c3 hw
            have HW := Lib.hid hw
            rw [← hM]
            clear hM hw
            have p3 : decide ((M : Int) < 40) = true := decide_eq_true (by omega)
            obtain ⟨d, hd⟩ : ∃ d, d = v - 48 := ⟨_, rfl⟩
            have e1 : (v : Int) - 48 = (d : Int) := by omega
            have hd10 : d < 10 := by omega
            rw [← hd] at hstep
            have HS := Lib.hid hstep
            clear hstep hd
            go_wp2_with (at_builtin; refine wpList_append_where rfl (.tmp 27) (.tmp 31) 36 rfl 3 i0 (.int .i64 0) 1 8 Tryz.underlying36 hi hz0 hz1 hz2 rfl (by decide) _ _ _ rfl (World.ownsRow.alloc hown _) ⟨wr.heap.size, 0, none⟩ 1 1 [.int .i64 (d : Int)] rfl rfl ?c1 ?c2 ?c3 ?c4 ?_)
            case c1 => exact cell_one_new _ _ _
            case c2 => intro u hu; simp at hu; subst hu; rfl
            case c3 => unfold maxLen; omega
            case c4 => omega
            intro lv' w3 hown' hgrow hwhere
            have hnew := HW.out.put (x := d) (by rw [← HM.out]; exact hown') hgrow hwhere
            rw [← HS.out] at hnew
            have HNEW := Lib.hid hnew
            clear hnew hown' hgrow hwhere hown
            go_wp2_with fail
            go_round
            case rel => exact ⟨j + 1, by omega, by go_num, HNEW.out⟩
            case measure => simp [intOf]; omega
          · rw [if_neg (fun h => c3 h.2.2)] at hstep
            have hw2 : IntsAt w wr (.slice sa (D j).length sc) (D (j + 1)) := by rw [hstep]; exact hw
            obtain ⟨M, hM⟩ : ∃ M, M = (D j).length := ⟨_, rfl⟩
            rw [← hM] at c3 hw2 ⊢
            have HW := Lib.hid hw2
            clear hw2
            clear hM hw hown hstep
            have p3 : decide ((M : Int) < 40) = false := decide_eq_false (by omega)
            go_wp2_with fail
            go_round
            case rel => exact ⟨j + 1, by omega, by go_num, HW.out⟩
            case measure => simp [intOf]; omega
        · have p2 : decide ((v : Int) ≤ 57) = false := decide_eq_false (by omega)
          rw [if_neg (fun h => c2 h.2.1)] at hstep
          have HW := Lib.hid (show IntsAt w wr (.slice sa (D j).length sc) (D (j + 1)) by rw [hstep]; exact hw)
          clear hw hown hstep
          go_wp2_with fail
          go_round
          case rel => exact ⟨j + 1, by omega, by go_num, HW.out⟩
          case measure => simp [intOf]; omega
      · have p1 : decide ((48 : Int) ≤ v) = false := decide_eq_false (by omega)
        rw [if_neg (fun h => c1 h.1)] at hstep
        have HW := Lib.hid (show IntsAt w wr (.slice sa (D j).length sc) (D (j + 1)) by rw [hstep]; exact hw)
        clear hw hown hstep
        go_wp2_with fail
        go_round
        case rel => exact ⟨j + 1, by omega, by go_num, HW.out⟩
        case measure => simp [intOf]; omega
    · obtain rfl : j = N := by omega
      have hls : decide (((j : Nat) : Int) < j) = false := decide_eq_false (by omega)
      have hlen := HD.out.2.2.1 j
      have hdx := HD.out.2.2.2.1 j
      have hlu := HD.out.2.2.2.2
      rw [← HN.out] at hlu
      obtain ⟨sa, sc, rfl, hcells⟩ := hw.shape
      have HLU := Lib.hid hlu
      have HC := Lib.hid hcells
      have HDX := Lib.hid hdx
      have HB := Lib.hid hw.below
      clear hw hlu hcells hdx
      generalize D j = L at *
      obtain ⟨M, hM⟩ : ∃ M, M = L.length := ⟨_, rfl⟩
      have HM := Lib.hid hM
      rw [← hM] at hlen HLU ⊢
      clear hM
      go_wp2_with fail
      go_loopw [6, 36] (fun nv iv wr' => ∃ i : Nat, i ≤ M ∧ iv = .int .i64 i ∧ nv = .int .i64 ((gLu L i : Nat) : Int) ∧ wr' = wr) (fun _ iv _ => M - (intOf iv).toNat)
      case atStart => exact ⟨0, Nat.zero_le _, rfl, rfl, rfl⟩
      case round =>
        obtain ⟨i, him, rfl, rfl, rfl⟩ := hrel
        have hg := gLu_le HDX.out i
        by_cases hil : i < M
        · have his : decide ((i : Int) < M) = true := decide_eq_true (by omega)
          have hiL : i < L.length := by have := HM.out; omega
          obtain ⟨d, hd⟩ : ∃ d, L[i]? = some d := ⟨_, List.getElem?_eq_getElem hiL⟩
          obtain ⟨g, rfl, hgl, hcell⟩ := HC.out i d hd
          have hd10 : d < 10 := HDX.out d (List.mem_of_getElem? hd)
          have hnx : gLu L (i + 1) = gLu L i + fLu (M - 1 - i) d := by
            show gLu L i + fLu (L.length - 1 - i) (L.getD i 0) = _
            rw [← HM.out, List.getD_eq_getElem?_getD, hd]; rfl
          obtain ⟨r, hr⟩ : ∃ r, r = M - 1 - i := ⟨_, rfl⟩
          have e1 : (M : Int) - 1 - (i : Int) = (r : Int) := by omega
          have e2 := tm_nat r 2
          rw [← hr] at hnx
          have hrM : r < M := by omega
          clear hd hiL hr
          generalize gLu L i = n at *
          by_cases hodd : r % 2 = 1
          · rw [hodd] at e2
            have e7 : (r : Int) % 2 = 1 := by omega
            have e3 := tm_nat (d * 2) 10
            have e4 : ((d * 2 : Nat) : Int) = (d : Int) * 2 := by push_cast; rfl
            rw [e4] at e3
            obtain ⟨q, hq⟩ : ∃ q, q = d * 2 / 10 := ⟨_, rfl⟩
            obtain ⟨z, hz⟩ : ∃ z, z = d * 2 % 10 := ⟨_, rfl⟩
            rw [← hz] at e3
            have e5 : (d : Int) * 2 / 10 = (q : Int) := by omega
            have e6 : (d : Int) * 2 % 10 = (z : Int) := by omega
            have hq2 : q ≤ 1 := by omega
            have hz2' : z ≤ 9 := by omega
            have hf : fLu r d = q + z := by
              unfold fLu
              rw [if_pos hodd]
              split <;> omega
            rw [hf] at hnx
            have HX := Lib.hid hnx
            clear hnx hf hq hz e4 hodd
            go_wp2_with fail
            go_round
            case rel => exact ⟨i + 1, by omega, by go_num, by rw [HX.out]; push_cast; rfl, trivial⟩
            case measure => simp [intOf]; omega
          · have h0 : r % 2 = 0 := by omega
            rw [h0] at e2
            have e7 : (r : Int) % 2 = 0 := by omega
            have hf : fLu r d = d := by
              unfold fLu
              rw [if_neg hodd]
            rw [hf] at hnx
            have HX := Lib.hid hnx
            clear hnx hf hodd h0
            go_wp2_with fail
            go_round
            case rel => exact ⟨i + 1, by omega, by go_num, by rw [HX.out]; push_cast; rfl, trivial⟩
            case measure => simp [intOf]; omega
        · obtain rfl : i = M := by omega
          have his : decide (((i : Nat) : Int) < i) = false := decide_eq_false (by omega)
          have hHT := HT.out
          rw [HLU.out] at hHT
          have HT2 := Lib.hid hHT
          clear hHT
          generalize gLu L i = n at *
          have e2 := tm_nat n 10
          have kc2 := fun (o : Obj) (C : Array Value) (n c : Nat) => kc (wr.alloc o) C n c
          simp only [alloc_sz] at kc2
          by_cases hz : n % 10 = 0
          · rw [hz] at e2
            have e7 : (n : Int) % 10 = 0 := by omega
            go_wp2_with fail
            have hb2 : Below wr.heap.size wr ((wr.alloc (.cells #[.int .u8 48, .int .u8 10] 5 (2, 3))).alloc (.cells #[.int .u8 49, .int .u8 10] 5 (2, 3))) := ((Below.refl _ wr).alloc (Nat.le_refl _) _).alloc (by rw [alloc_sz]; omega) _
            have hby := byte2 (wr.alloc (.cells #[.int .u8 48, .int .u8 10] 5 (2, 3))) 49 (by decide) (2, 3)
            rw [alloc_sz] at hby
            have TT := HT2.out 49 (.inl ⟨hz, rfl⟩) _ (some ⟨wr.heap.size + 1, 0, none⟩) 2 (below2 HB.out hb2) hby (fun e => by cases e)
            rw [← HN.out] at TT
            have HBB := Lib.hid (below2 HB.out hb2)
            refine TT.mono ?_
            rintro e w2 ⟨rfl, hb3⟩
            have HB3 := Lib.hid (below2 HBB.out hb3)
            clear TT hb3 hb2 hby kc kc2
            go_wp2_with fail
            exact bodyPost_ret (v := .bool true) (by simp [results, Tryz.results11, go_sem]) rfl ⟨rfl, HB3.out⟩
          · have e7 : ((n : Int) % 10 == 0) = false := t_ne (by omega)
            have e8 : (((n % 10 : Nat) : Int) == 0) = false := t_ne (by omega)
            go_wp2_with fail
            have hb2 : Below wr.heap.size wr (wr.alloc (.cells #[.int .u8 48, .int .u8 10] 5 (2, 3))) := (Below.refl _ wr).alloc (Nat.le_refl _) _
            have hby := byte2 wr 48 (by decide) (2, 3)
            have TT := HT2.out 48 (.inr ⟨hz, rfl⟩) _ (some ⟨wr.heap.size, 0, none⟩) 2 (below2 HB.out hb2) hby (fun e => by cases e)
            rw [← HN.out] at TT
            have HBB := Lib.hid (below2 HB.out hb2)
            refine TT.mono ?_
            rintro e w2 ⟨rfl, hb3⟩
            have HB3 := Lib.hid (below2 HBB.out hb3)
            clear TT hb3 hb2 hby kc kc2
            go_wp2_with fail
            exact bodyPost_ret (v := .bool true) (by simp [results, Tryz.results11, go_sem]) rfl ⟨rfl, HB3.out⟩
end Go.Proofs.YtgmmfjmdpbhjnaaGreat
