/-
  ShelfReverse: the law's function.
-/
import Derived.Test.YtclpjglkjkbljaaGreatJRc
import Derived.Test.YtclpjglkjkbljaaGreatLRevP
import Derived.Test.YtclpjglkjkbljaaGreatLCouF
namespace Go.Proofs.YtclpjglkjkbljaaGreat
open Go Go.RowKit

set_option maxHeartbeats 1000000 in
set_option maxRecDepth 100000 in
theorem shelfReverse_ok (w : World) (a : Option Addr) (c : Nat) (inp : List Nat) (hin : BytesIn w a inp) (_ : a = none → inp.length = 0) (hreach : inp.length ≤ 140737488351232) {rdy : Rdy} (hP : Played 32199706527560549 7 rdy) (hR : rdy = ⟨0, revBd, [List.replicate 200 0]⟩) :
    Calls Tryz.prog 3 #[.slice a inp.length c] w fun e w' => e = .returned (.bool true) ∧ Below w.heap.size w w' := by
  subst hR
  have hb : ∀ v ∈ inp, v < 256 := fun v hv => by
    obtain ⟨k, hk⟩ := List.getElem?_of_mem hv
    exact (hin k v hk).1
  obtain ⟨V, hV⟩ : ∃ V : Nat → List Nat, V = fun t => ((inp.take 200).drop t).reverse := ⟨_, rfl⟩
  have hV0 : V 0 = (inp.take 200).reverse := by rw [hV]; rfl
  have hVN : V inp.length = [] := by rw [hV]; simp only; rw [List.drop_of_length_le (by rw [List.length_take]; omega)]; rfl
  have hV1 : ∀ k v, inp[k]? = some v → k < 200 → V k = V (k + 1) ++ [v] := fun k v hv hk => by
    have h : (inp.take 200)[k]? = some v := by rw [List.getElem?_take, if_pos hk, hv]
    have hlt := (List.getElem?_eq_some_iff.1 h).1
    rw [hV]
    simp only
    rw [List.drop_eq_getElem_cons hlt, List.reverse_cons]
    congr 2
    exact (List.getElem?_eq_some_iff.1 h).2
  have hV2 : ∀ k, ¬ k < 200 → V k = V (k + 1) := fun k hk => by
    rw [hV]
    simp only
    rw [List.drop_of_length_le (by rw [List.length_take]; omega), List.drop_of_length_le (by rw [List.length_take]; omega)]
  have hVl : ∀ t, (V t).length ≤ 200 := fun t => by rw [hV]; simp only; rw [List.length_reverse, List.length_drop, List.length_take]; omega
  have T := fun (w1 : World) (wa : Option Addr) (wc : Nat) (hw : Below w.heap.size w w1) (h1 : BytesIn w1 wa (V 0)) (h2 : wa = none → (V 0).length = 0) =>
    tells_ok hP (inp := inp) (want := V 0) (large := decide ((60 : Int) < inp.length)) (w := w1) (a := a) (wa := wa) (c := c) (wc := wc) (fun hl => hin.inp hw hl) h1 h2
    (fun _ => by
      obtain ⟨n, v, s, h1, h2, h3⟩ := rev_means hb
      exact ⟨n, v, s, h1, by rw [h2, hV0], fun ho => decide_eq_true (by have := h3 ho; omega)⟩)
  have hs : XM.unB 32199706527560549 7 = ⟨#[114, 101, 118, 101, 114, 115, 101]⟩ := by kernel_rfl
  rw [hs] at T
  have HT := Lib.hid T
  have HIN := Lib.hid (And.intro hin hb)
  have HV := Lib.hid (And.intro hV1 (And.intro hV2 (And.intro hVl hVN)))
  clear hin hb hs T hP hV hV0 hV1 hV2 hVl hVN
  obtain ⟨N, hN⟩ : ∃ N, N = inp.length := ⟨_, rfl⟩
  have HN := Lib.hid hN
  rw [← hN] at hreach ⊢
  clear hN
  obtain ⟨i0, hi, hz0, hz1, hz2⟩ := info_parts info_u8
  go_enter Tryz.func3, Tryz.ntmps3
  go_wp2_with fail
  go_loopw [3, 4] (fun lv i wr => (∃ k : Nat, k < N ∧ i = .int .i64 k ∧ WantAt w wr lv (V (k + 1))) ∨ (i = .int .i64 (-1) ∧ WantAt w wr lv (V 0))) (fun _ i _ => (intOf i + 1).toNat)
  case atStart =>
    by_cases h0 : N = 0
    · subst h0
      refine .inr ⟨rfl, ?_⟩
      have := HV.out.2.2.2
      rw [← HN.out] at this
      rw [this]
      exact WantAt.nil w
    · obtain ⟨k, rfl⟩ : ∃ k, N = k + 1 := ⟨N - 1, by omega⟩
      refine .inl ⟨k, by omega, by go_num, ?_⟩
      have := HV.out.2.2.2
      rw [← HN.out] at this
      rw [this]
      exact WantAt.nil w
  case round =>
    rcases hrel with ⟨k, hk, rfl, hw⟩ | ⟨rfl, hw⟩
    · have hls : decide ((0 : Int) ≤ k) = true := decide_eq_true (by omega)
      have hkn : decide ((k : Int) < N) = true := decide_eq_true (by omega)
      have hjl : k < inp.length := by have := HN.out; omega
      obtain ⟨v, hv⟩ : ∃ v, inp[k]? = some v := ⟨_, List.getElem?_eq_getElem hjl⟩
      obtain ⟨hv256, b, off, ha, hbl, hcell⟩ := (HIN.out.1.below hw.below) k v hv
      have hnext : ∀ wr lv, WantAt w wr lv (V k) → ((∃ k' : Nat, k' < N ∧ Value.int .i64 ((k : Int) - 1) = .int .i64 k' ∧ WantAt w wr lv (V (k' + 1))) ∨ (Value.int .i64 ((k : Int) - 1) = .int .i64 (-1) ∧ WantAt w wr lv (V 0))) := fun wr lv h => by
        by_cases h0 : k = 0
        · subst h0; exact .inr ⟨rfl, h⟩
        · obtain ⟨k', rfl⟩ : ∃ k', k = k' + 1 := ⟨k - 1, by omega⟩
          exact .inl ⟨k', by omega, congrArg (Value.int .i64) (by omega), h⟩
      have HX := Lib.hid hnext
      clear hnext
      by_cases h200 : k < 200
      · have q2 : decide ((k : Int) < 200) = true := decide_eq_true (by omega)
        have hown := hw.own
        have hvl := HV.out.2.2.1 (k + 1)
        have HW := Lib.hid hw
        have HJ := Lib.hid (HV.out.1 k v hv h200)
        subst ha
        clear hw hv hjl
        obtain ⟨M, hM⟩ : ∃ M, M = (V (k + 1)).length := ⟨_, rfl⟩
        have HM := Lib.hid hM
        rw [← hM] at hown hvl
        clear hM
        go_wp2_with (at_builtin; refine wpList_append_where rfl (.tmp 14) (.tmp 19) 22 rfl 5 i0 (.int .u8 0) 1 1 Tryz.underlying22 hi hz0 hz1 hz2 rfl (by decide) _ _ _ rfl (World.ownsRow.alloc hown _) ⟨wr.heap.size, 0, none⟩ 1 1 [.int .u8 (v : Int)] rfl rfl ?c1 ?c2 ?c3 ?c4 ?_)
        case c1 => exact cell_one_new _ _ _
        case c2 => intro u hu; simp at hu; subst hu; rfl
        case c3 => unfold maxLen; omega
        case c4 => omega
        intro lv' w3 hown' hgrow hwhere
        have hnew := HW.out.put (x := v) (by omega) (by rw [← HM.out]; exact hown') hgrow hwhere
        rw [← HJ.out] at hnew
        have HNEW := Lib.hid hnew
        clear hnew hown' hgrow hwhere hown
        go_wp2_with fail
        go_round
        case rel => exact HX.out _ _ HNEW.out
        case measure => simp [intOf]
      · have q2 : decide ((k : Int) < 200) = false := decide_eq_false (by omega)
        have hw2 := hw
        rw [← HV.out.2.1 k h200] at hw2
        have HW := Lib.hid hw2
        clear hw hw2 hv hjl
        go_wp2_with fail
        go_round
        case rel => exact HX.out _ _ HW.out
        case measure => simp [intOf]
    · have hls : decide ((0 : Int) ≤ -1) = false := rfl
      obtain ⟨wa, wc, hlv, hwa, hbytes⟩ := hw.bytes
      have TT := HT.out wr wa wc hw.below hbytes hwa
      obtain ⟨M, hM⟩ : ∃ M, M = (V 0).length := ⟨_, rfl⟩
      rw [← hM] at TT hlv
      rw [← HN.out] at TT
      subst hlv
      have HB := Lib.hid hw.below
      clear hw hwa hbytes hM
      go_wp2_with fail
      refine TT.mono ?_
      rintro e w2 ⟨rfl, hb2⟩
      have HB2 := Lib.hid hb2
      clear TT hb2
      go_wp2_with fail
      exact bodyPost_ret (v := .bool true) (by simp [results, Tryz.results3, go_sem]) rfl ⟨rfl, below2 HB.out HB2.out⟩
end Go.Proofs.YtclpjglkjkbljaaGreat
