/-
  ShelfRot13: the law's function.
-/
import Derived.Test.YthfgkmjbfkociaaGreatLWantF
import Derived.Test.YthfgkmjbfkociaaGreatJPa
namespace Go.Proofs.YthfgkmjbfkociaaGreat
open Go Go.RowKit

set_option maxHeartbeats 1000000 in
set_option maxRecDepth 100000 in
theorem shelfRot_ok (w : World) (a : Option Addr) (c : Nat) (inp : List Nat) (hin : BytesIn w a inp) (hn : a = none → inp.length = 0) (hreach : inp.length ≤ 140737488351232) (d : Nat) (hP : xPlay d 491496157491 5 = some ⟨0, [(mapMain (caseB rotE), 1)]⟩) :
    Calls Tryz.prog 4 #[.slice a inp.length c] w fun e w' => e = .returned (.bool true) ∧ Below w.heap.size w w' := by
  have hb : ∀ v ∈ inp, v < 256 := fun v hv => by
    obtain ⟨k, hk⟩ := List.getElem?_of_mem hv
    exact (hin k v hk).1
  obtain ⟨G, hG⟩ : ∃ G : Nat → List Nat, G = caseF (fun x => (x - 97 + 13) % 26 + 97) := ⟨_, rfl⟩
  have hlen : ∀ l : List Nat, (l.flatMap G).length = l.length := fun l => by rw [hG]; exact len_flat1 l
  have T := fun (w1 : World) (wa : Option Addr) (wc : Nat) (hw : Below w.heap.size w w1) (h1 : BytesIn w1 wa (inp.flatMap G)) (h2 : wa = none → (inp.flatMap G).length = 0) =>
    tells_ok hP (inp := inp) (want := inp.flatMap G) (large := decide ((60 : Int) < inp.length)) (w := w1) (a := a) (wa := wa) (c := c) (wc := wc) (fun hl => hin.inp hw hl) h1 h2
    (fun hl => by
      obtain ⟨n, s, h1, h2, h3⟩ := case_means rot_all hb
      refine ⟨n, 0, s, h1, by rw [h2, hG], fun ho => decide_eq_true ?_⟩
      rw [h2, ← hG, hlen] at ho
      omega)
  have hs : XM.unB 491496157491 5 = ⟨#[114, 111, 116, 49, 51]⟩ := by kernel_rfl
  rw [hs] at T
  have HT := Lib.hid T
  have HIN := Lib.hid (And.intro hin (And.intro hn hb))
  have HG := Lib.hid (And.intro hG hlen)
  clear hin hn hb hs T hP hG hlen
  obtain ⟨N, hN⟩ : ∃ N, N = inp.length := ⟨_, rfl⟩
  have HN := Lib.hid hN
  rw [← hN] at hreach ⊢
  clear hN
  obtain ⟨i0, hi, hz0, hz1, hz2⟩ := info_parts info_u8
  go_enter Tryz.func4, Tryz.ntmps4
  go_wp2_with fail
  go_loopw [3, 8] (fun lv i wr => ∃ j : Nat, j ≤ N ∧ i = .int .i64 j ∧ WantAt w wr lv ((inp.take j).flatMap G)) (fun _ i _ => N - (intOf i).toNat)
  case atStart => exact ⟨0, by omega, rfl, WantAt.nil w⟩
  case round =>
    obtain ⟨j, hj, rfl, hw⟩ := hrel
    by_cases hlt : j < N
    · have hls : decide ((j : Int) < N) = true := decide_eq_true (by omega)
      have hjl : j < inp.length := by have := HN.out; omega
      obtain ⟨v, hv⟩ : ∃ v, inp[j]? = some v := ⟨_, List.getElem?_eq_getElem hjl⟩
      obtain ⟨hv256, b, off, ha, hbl, hcell⟩ := (HIN.out.1.below hw.below) j v hv
      have ht : (inp.take (j + 1)).flatMap G = (inp.take j).flatMap G ++ G v := by rw [List.take_add_one, hv, List.flatMap_append]; simp
      have hown := hw.own
      rw [HG.out.2, List.length_take, Nat.min_eq_left (by omega)] at hown
      have HW := Lib.hid hw
      have HJ := Lib.hid ht
      subst ha
      clear hw ht hv hjl
      by_cases hsm : 97 ≤ v ∧ v ≤ 122
      · have q1 : decide ((97 : Int) ≤ v) = true := decide_eq_true (by omega)
        have q2 : decide ((v : Int) ≤ 122) = true := decide_eq_true (by omega)
        have q3 : decide ((v : Int) < 97) = false := decide_eq_false (by omega)
        have q4 : decide ((122 : Int) < v) = false := decide_eq_false (by omega)
        have hGv : G v = [(v - 97 + 13) % 26 + 97] := by rw [HG.out.1]; unfold caseF; rw [if_pos hsm]
        have HGV := Lib.hid hGv
        clear hGv
        have w1 : IntKind.u8.wrap ((v : Int) - 97) = ((v - 97 : Nat) : Int) := by rw [IntKind.wrap]; simp [IntKind.bits, IntKind.signed]; omega
        have w2 : IntKind.u8.wrap (((v - 97 : Nat) : Int) + 13) = ((v - 97 + 13 : Nat) : Int) := by rw [IntKind.wrap]; simp [IntKind.bits, IntKind.signed]; omega
        go_wp2_with (at_builtin; refine wpList_append_where rfl (.tmp 23) (.tmp 25) 22 rfl 5 i0 (.int .u8 0) 1 1 Tryz.underlying22 hi hz0 hz1 hz2 rfl (by decide) _ _ _ rfl (World.ownsRow.alloc hown _) ⟨wr.heap.size, 0, none⟩ 1 1 [.int .u8 (((v - 97 + 13) % 26 + 97 : Nat) : Int)] rfl rfl ?c1 ?c2 ?c3 ?c4 ?_)
        case c1 =>
          rw [show (97 + (((v - 97 : Nat) : Int) + 13) % 26) = (((v - 97 + 13) % 26 + 97 : Nat) : Int) by omega]
          exact cell_one_new _ _ _
        case c2 => intro u hu; simp at hu; subst hu; rfl
        case c3 => unfold maxLen; omega
        case c4 => omega
        intro lv' w3 hown' hgrow hwhere
        have hnew := HW.out.put (x := (v - 97 + 13) % 26 + 97) (by omega) (by rw [HG.out.2, List.length_take, Nat.min_eq_left (by have := HN.out; omega)]; exact hown') hgrow hwhere
        have HNEW := Lib.hid hnew
        clear hnew hown' hgrow hwhere hown
        go_wp2_with fail
        go_round
        case rel => exact ⟨j + 1, by omega, by go_num, by rw [HJ.out, HGV.out]; exact HNEW.out⟩
        case measure => simp [intOf]; omega
      · have hGv : G v = [v] := by rw [HG.out.1]; unfold caseF; rw [if_neg hsm]
        have HGV := Lib.hid hGv
        clear hGv
        by_cases h97 : 97 ≤ v
        all_goals
          first
          | (have q1 : decide ((97 : Int) ≤ v) = true := decide_eq_true (by omega)
             have q2 : decide ((v : Int) ≤ 122) = false := decide_eq_false (by omega)
             have q3 : decide ((v : Int) < 97) = false := decide_eq_false (by omega)
             have q4 : decide ((122 : Int) < v) = true := decide_eq_true (by omega))
          | (have q1 : decide ((97 : Int) ≤ v) = false := decide_eq_false (by omega)
             have q3 : decide ((v : Int) < 97) = true := decide_eq_true (by omega))
          clear hsm
          go_wp2_with (at_builtin; refine wpList_append_where rfl (.tmp 23) (.tmp 25) 22 rfl 5 i0 (.int .u8 0) 1 1 Tryz.underlying22 hi hz0 hz1 hz2 rfl (by decide) _ _ _ rfl (World.ownsRow.alloc hown _) ⟨wr.heap.size, 0, none⟩ 1 1 [.int .u8 (v : Int)] rfl rfl ?c1 ?c2 ?c3 ?c4 ?_)
          case c1 => exact cell_one_new _ _ _
          case c2 => intro u hu; simp at hu; subst hu; rfl
          case c3 => unfold maxLen; omega
          case c4 => omega
          intro lv' w3 hown' hgrow hwhere
          have hnew := HW.out.put (x := v) (by omega) (by rw [HG.out.2, List.length_take, Nat.min_eq_left (by have := HN.out; omega)]; exact hown') hgrow hwhere
          have HNEW := Lib.hid hnew
          clear hnew hown' hgrow hwhere hown
          go_wp2_with fail
          go_round
          case rel => exact ⟨j + 1, by omega, by go_num, by rw [HJ.out, HGV.out]; exact HNEW.out⟩
          case measure => simp [intOf]; omega
    · have hj' : j = N := by omega
      subst hj'
      have hls : decide ((j : Int) < j) = false := decide_eq_false (by omega)
      obtain ⟨wa, wc, hlv, hwa, hbytes⟩ := hw.bytes
      rw [List.take_of_length_le (by have := HN.out; omega)] at hlv hwa hbytes
      have hl2 : (inp.flatMap G).length = j := by rw [HG.out.2, HN.out]
      have TT := HT.out wr wa wc hw.below hbytes hwa
      rw [hl2, ← HN.out] at TT
      rw [hl2] at hlv
      subst hlv
      have HB := Lib.hid hw.below
      clear hw hwa hbytes hl2
      go_wp2_with fail
      refine TT.mono ?_
      rintro e w2 ⟨rfl, hb2⟩
      have HB2 := Lib.hid hb2
      clear TT hb2
      go_wp2_with fail
      refine bodyPost_ret (v := .bool true) (by simp [results, Tryz.results4, go_sem]) rfl ⟨rfl, ?_⟩
      have b1 := HB.out
      have b2 := HB2.out
      have s1 := b1.size
      exact ⟨b2.os.trans b1.os, b2.tape.trans b1.tape, b2.output.trans b1.output, Nat.le_trans b1.size b2.size, fun b hb => (b2.block b (by omega)).trans (b1.block b hb)⟩
end Go.Proofs.YthfgkmjbfkociaaGreat
