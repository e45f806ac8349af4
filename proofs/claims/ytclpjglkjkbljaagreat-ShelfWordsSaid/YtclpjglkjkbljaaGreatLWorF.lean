/-
  ShelfWords: the law's function.
-/
import Derived.Test.YtclpjglkjkbljaaGreatLLineF
import Derived.Test.YtclpjglkjkbljaaGreatLFolQ
import Derived.Test.YtclpjglkjkbljaaGreatLCouF
namespace Go.Proofs.YtclpjglkjkbljaaGreat
open Go Go.RowKit

set_option maxHeartbeats 1000000 in
set_option maxRecDepth 100000 in
theorem shelfWords_ok (w : World) (a : Option Addr) (c : Nat) (inp : List Nat) (hin : BytesIn w a inp) (_ : a = none → inp.length = 0) (hreach : inp.length ≤ 140737488351232) {rdy : Rdy} (hP : Played 512970876019 5 rdy) (hR : rdy = ⟨1, worBd, [List.replicate 20 0]⟩) :
    Calls Tryz.prog 10 #[.slice a inp.length c] w fun e w' => e = .returned (.bool true) ∧ Below w.heap.size w w' := by
  subst hR
  have hb : ∀ v ∈ inp, v < 256 := fun v hv => by
    obtain ⟨k, hk⟩ := List.getElem?_of_mem hv
    exact (hin k v hk).1
  have T := fun (w1 : World) (wa : Option Addr) (wc : Nat) (hw : Below w.heap.size w w1) (h1 : BytesIn w1 wa (digs (woN inp) ++ [10])) (h2 : wa = none → (digs (woN inp) ++ [10]).length = 0) =>
    tells_ok hP (inp := inp) (want := digs (woN inp) ++ [10]) (large := decide ((60 : Int) < inp.length)) (w := w1) (a := a) (wa := wa) (c := c) (wc := wc) (fun hl => hin.inp hw hl) h1 h2
    (fun hl => by
      obtain ⟨n, v, s, h1, h2, h3⟩ := words_means hb hl
      exact ⟨n, v, s, h1, h2, fun ho => decide_eq_true (by have := h3 ho; omega)⟩)
  have hs : XM.unB 512970876019 5 = ⟨#[119, 111, 114, 100, 115]⟩ := by kernel_rfl
  rw [hs] at T
  have hbd := wo_le (inp := inp)
  have hfs : ∀ j, j < inp.length → foldC woF (0, 0) inp (j + 1) = woF (foldC woF (0, 0) inp j) (curC inp j) := fun j hj => foldC_succ woF (0, 0) hj
  have hend : woN inp = (foldC woF (0, 0) inp inp.length).1 := by unfold woN; rw [← foldC_all]
  have hnum : woN inp < 18446744073709551616 := by rw [hend]; have := (hbd inp.length (Nat.le_refl _)).1; omega
  have HL := line_ok (woN inp) hnum w
  have HT := Lib.hid T
  have HIN := Lib.hid (And.intro hin hb)
  have HBD := Lib.hid hbd
  have HFS := Lib.hid hfs
  have HF0 := Lib.hid (foldC_zero woF (0, 0) inp)
  have HE := Lib.hid hend
  clear hin hb hs T hP hbd hfs hend hnum
  generalize digs (woN inp) ++ [10] = want at *
  generalize woN inp = num at *
  obtain ⟨N, hN⟩ : ∃ N, N = inp.length := ⟨_, rfl⟩
  obtain ⟨L, hL⟩ : ∃ L, L = want.length := ⟨_, rfl⟩
  rw [← hN, ← hL] at HT
  rw [← hL] at HL
  have HN := Lib.hid hN
  rw [← hN] at hreach ⊢
  clear hN hL
  go_enter Tryz.func10, Tryz.ntmps10
  go_wp2_with fail
  go_loopw [3, 8] (fun va i wr => ∃ j : Nat, j ≤ N ∧ i = .int .i64 j ∧ va = .int .u64 ((foldC woF (0, 0) inp j).1 : Nat) ∧ wr = w) (fun _ i _ => N - (intOf i).toNat)
  case atStart => exact ⟨0, by omega, rfl, by rw [HF0.out]; rfl, rfl⟩
  case round =>
    obtain ⟨j, hj, rfl, rfl, rfl⟩ := hrel
    by_cases hlt : j < N
    · have hls : decide ((j : Int) < N) = true := decide_eq_true (by omega)
      have hjl : j < inp.length := by have := HN.out; omega
      obtain ⟨v, hv⟩ : ∃ v, inp[j]? = some v := ⟨_, List.getElem?_eq_getElem hjl⟩
      obtain ⟨hv256, b, off, ha, hbl, hcell⟩ := HIN.out.1 j v hv
      have hcu : curC inp j = v := by unfold curC; rw [hv]; rfl
      have hstep := HFS.out j hjl
      rw [hcu] at hstep
      have hbj := HBD.out j (by omega)
      have HST := Lib.hid hstep
      subst ha
      clear hv hcu hstep
      obtain ⟨A, hA⟩ : ∃ A, A = (foldC woF (0, 0) inp j).1 := ⟨_, rfl⟩
      obtain ⟨B, hB⟩ : ∃ B, B = (foldC woF (0, 0) inp j).2 := ⟨_, rfl⟩
      rw [← hA, ← hB] at hbj
      rw [← hA]
      have HAB := Lib.hid (And.intro hA hB)
      clear hA hB
      by_cases h32 : v ≤ 32
      · have q1 : decide ((32 : Int) < v) = false := decide_eq_false (by omega)
        have q2 : decide ((v : Int) ≤ 32) = true := decide_eq_true (by omega)
        have HR := Lib.hid (show (foldC woF (0, 0) inp (j + 1)).1 = A by rw [HST.out, woF_lo h32, HAB.out.1])
        go_wp2_with fail
        go_round
        case rel => exact ⟨j + 1, by omega, by go_num, by rw [HR.out], trivial⟩
        case measure => simp [intOf]; omega
      · have q1 : decide ((32 : Int) < v) = true := decide_eq_true (by omega)
        have q2 : decide ((v : Int) ≤ 32) = false := decide_eq_false (by omega)
        by_cases hj0 : j = 0
        · subst hj0
          have q3 : ((0 : Int) == 0) = true := rfl
          have HR := Lib.hid (show (foldC woF (0, 0) inp (0 + 1)).1 = 1 by rw [HST.out, HF0.out]; unfold woF; rw [if_neg h32]; rfl)
          have hA0 : A = 0 := by rw [HAB.out.1, HF0.out]
          subst hA0
          have hcell0 : wr.cell? ⟨b, off, none⟩ = some (.int .u8 v) := by simpa using hcell
          clear hcell
          go_wp2_with fail
          go_round
          case rel => exact ⟨0 + 1, by omega, by go_num, by rw [HR.out]; rfl, trivial⟩
          case measure => simp [intOf]; omega
        · obtain ⟨k, rfl⟩ : ∃ k, j = k + 1 := ⟨j - 1, by omega⟩
          have q3 : (((k + 1 : Nat) : Int) == 0) = false := t_ne (by omega)
          have hkl : k < inp.length := by omega
          obtain ⟨u, hu⟩ : ∃ u, inp[k]? = some u := ⟨_, List.getElem?_eq_getElem hkl⟩
          obtain ⟨hu256, b', off', ha', hbl', hcell'⟩ := HIN.out.1 k u hu
          cases ha'
          have hcu : curC inp k = u := by unfold curC; rw [hu]; rfl
          have hB2 : B = if u ≤ 32 then 0 else 1 := by
            rw [HAB.out.2, HFS.out k hkl, hcu]; unfold woF
            by_cases hu32 : u ≤ 32
            · rw [if_pos hu32, if_pos hu32]
            · rw [if_neg hu32, if_neg hu32]
          have q4 : ((k + 1 : Nat) : Int) - 1 = (k : Int) := by omega
          have hks : decide ((k : Int) < N) = true := decide_eq_true (by omega)
          by_cases hu32 : u ≤ 32
          · have q5 : decide ((u : Int) ≤ 32) = true := decide_eq_true (by omega)
            rw [if_pos hu32] at hB2
            have HR := Lib.hid (show (foldC woF (0, 0) inp (k + 1 + 1)).1 = A + 1 by rw [HST.out, woF_hi h32, HAB.out.1]; exact if_pos (HAB.out.2 ▸ hB2))
            have q6 : decide ((32 : Int) < u) = false := decide_eq_false (by omega)
            clear hu hcu hB2
            go_wp2_with fail
            go_round
            case rel => exact ⟨k + 1 + 1, by omega, by go_num, by rw [HR.out]; rfl, trivial⟩
            case measure => simp [intOf]; omega
          · have q5 : decide ((u : Int) ≤ 32) = false := decide_eq_false (by omega)
            rw [if_neg hu32] at hB2
            have HR := Lib.hid (show (foldC woF (0, 0) inp (k + 1 + 1)).1 = A by rw [HST.out, woF_hi h32, HAB.out.1]; exact if_neg (by rw [← HAB.out.2, hB2]; decide))
            have q6 : decide ((32 : Int) < u) = true := decide_eq_true (by omega)
            clear hu hcu hB2
            go_wp2_with fail
            go_round
            case rel => exact ⟨k + 1 + 1, by omega, by go_num, by rw [HR.out], trivial⟩
            case measure => simp [intOf]; omega
    · have hj' : j = N := by omega
      subst hj'
      have hls : decide ((j : Int) < j) = false := decide_eq_false (by omega)
      have hend := HE.out
      rw [← HN.out] at hend
      rw [← hend]
      clear hend
      go_wp2_with fail
      refine HL.mono ?_
      rintro e w1 ⟨wa, wc, rfl, hbytes, hbl⟩
      have TT := HT.out w1 (some wa) wc hbl hbytes (fun e => by cases e)
      have HB := Lib.hid hbl
      clear hbl hbytes HL
      go_wp2_with fail
      refine TT.mono ?_
      rintro e w2 ⟨rfl, hb2⟩
      have HB2 := Lib.hid hb2
      clear TT hb2
      go_wp2_with fail
      exact bodyPost_ret (v := .bool true) (by simp [results, Tryz.results10, go_sem]) rfl ⟨rfl, below2 HB.out HB2.out⟩
end Go.Proofs.YtclpjglkjkbljaaGreat
