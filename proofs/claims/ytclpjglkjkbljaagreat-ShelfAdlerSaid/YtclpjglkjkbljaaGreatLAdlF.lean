/-
  ShelfAdler: the law's function.
-/
import Derived.Test.YtclpjglkjkbljaaGreatLLineF
import Derived.Test.YtclpjglkjkbljaaGreatLFolP
import Derived.Test.YtclpjglkjkbljaaGreatLCouF
namespace Go.Proofs.YtclpjglkjkbljaaGreat
open Go Go.RowKit

set_option maxHeartbeats 1000000 in
set_option maxRecDepth 100000 in
theorem shelfAdler_ok (w : World) (a : Option Addr) (c : Nat) (inp : List Nat) (hin : BytesIn w a inp) (_ : a = none → inp.length = 0) (hreach : inp.length ≤ 140737488351232) {rdy : Rdy} (hP : Played 418296653170 5 rdy) (hR : rdy = ⟨1, adlBd, [List.replicate 20 0]⟩) :
    Calls Tryz.prog 8 #[.slice a inp.length c] w fun e w' => e = .returned (.bool true) ∧ Below w.heap.size w w' := by
  subst hR
  have hb : ∀ v ∈ inp, v < 256 := fun v hv => by
    obtain ⟨k, hk⟩ := List.getElem?_of_mem hv
    exact (hin k v hk).1
  have T := fun (w1 : World) (wa : Option Addr) (wc : Nat) (hw : Below w.heap.size w w1) (h1 : BytesIn w1 wa (digs (adN inp) ++ [10])) (h2 : wa = none → (digs (adN inp) ++ [10]).length = 0) =>
    tells_ok hP (inp := inp) (want := digs (adN inp) ++ [10]) (large := decide ((60 : Int) < inp.length)) (w := w1) (a := a) (wa := wa) (c := c) (wc := wc) (fun hl => hin.inp hw hl) h1 h2
    (fun _ => by
      obtain ⟨n, v, s, h1, h2, h3⟩ := adler_means hb
      exact ⟨n, v, s, h1, h2, fun ho => decide_eq_true (by have := h3 ho; omega)⟩)
  have hs : XM.unB 418296653170 5 = ⟨#[97, 100, 108, 101, 114]⟩ := by kernel_rfl
  rw [hs] at T
  have hbd := ad_lt hb
  have hfs : ∀ j, j < inp.length → foldC adF (1, 0) inp (j + 1) = adF (foldC adF (1, 0) inp j) (curC inp j) := fun j hj => foldC_succ adF (1, 0) hj
  have hend : adN inp = (foldC adF (1, 0) inp inp.length).2 * 65536 + (foldC adF (1, 0) inp inp.length).1 := by unfold adN; rw [← foldC_all]
  have hnum : adN inp < 18446744073709551616 := by have := hbd inp.length (Nat.le_refl _); omega
  have HL := line_ok (adN inp) hnum w
  have HT := Lib.hid T
  have HIN := Lib.hid (And.intro hin hb)
  have HBD := Lib.hid hbd
  have HFS := Lib.hid hfs
  have HF0 := Lib.hid (foldC_zero adF (1, 0) inp)
  have HE := Lib.hid hend
  clear hin hb hs T hP hbd hfs hend hnum
  generalize digs (adN inp) ++ [10] = want at *
  generalize adN inp = num at *
  obtain ⟨N, hN⟩ : ∃ N, N = inp.length := ⟨_, rfl⟩
  obtain ⟨L, hL⟩ : ∃ L, L = want.length := ⟨_, rfl⟩
  rw [← hN, ← hL] at HT
  rw [← hL] at HL
  have HN := Lib.hid hN
  rw [← hN] at hreach ⊢
  clear hN hL
  go_enter Tryz.func8, Tryz.ntmps8
  go_wp2_with fail
  go_loopw [3, 4, 10] (fun va vb i wr => ∃ j : Nat, j ≤ N ∧ i = .int .i64 j ∧ va = .int .u64 ((foldC adF (1, 0) inp j).1 : Nat) ∧ vb = .int .u64 ((foldC adF (1, 0) inp j).2 : Nat) ∧ wr = w) (fun _ _ i _ => N - (intOf i).toNat)
  case atStart => exact ⟨0, by omega, rfl, by rw [HF0.out]; rfl, by rw [HF0.out]; rfl, rfl⟩
  case round =>
    obtain ⟨j, hj, rfl, rfl, rfl, rfl⟩ := hrel
    by_cases hlt : j < N
    · have hls : decide ((j : Int) < N) = true := decide_eq_true (by omega)
      have hjl : j < inp.length := by have := HN.out; omega
      obtain ⟨v, hv⟩ : ∃ v, inp[j]? = some v := ⟨_, List.getElem?_eq_getElem hjl⟩
      obtain ⟨hv256, b, off, ha, hbl, hcell⟩ := HIN.out.1 j v hv
      have hcu : curC inp j = v := by unfold curC; rw [hv]; rfl
      have hstep := HFS.out j hjl
      rw [hcu] at hstep
      have hbj := HBD.out j (by omega)
      have HST := Lib.hid hstep
      subst ha
      clear hv hcu hstep
      obtain ⟨A, hA⟩ : ∃ A, A = (foldC adF (1, 0) inp j).1 := ⟨_, rfl⟩
      obtain ⟨B, hB⟩ : ∃ B, B = (foldC adF (1, 0) inp j).2 := ⟨_, rfl⟩
      rw [← hA, ← hB] at hbj ⊢
      have HAB := Lib.hid (And.intro hA hB)
      clear hA hB
      obtain ⟨A2, hA2⟩ : ∃ A2, A2 = (A + v) % 65521 := ⟨_, rfl⟩
      obtain ⟨B2, hB2⟩ : ∃ B2, B2 = (B + A2) % 65521 := ⟨_, rfl⟩
      have HR := Lib.hid (show foldC adF (1, 0) inp (j + 1) = (A2, B2) by
        rw [HST.out, hB2, hA2, HAB.out.1, HAB.out.2]; rfl)
      have HA2 := Lib.hid hA2
      have HB2 := Lib.hid hB2
      clear hA2 hB2
      go_wp2_with fail
      go_round
      case rel => exact ⟨j + 1, by omega, by go_num, by rw [HR.out]; exact congrArg (Value.int .u64) (by have := HA2.out; show _ = ((A2 : Nat) : Int); omega), by rw [HR.out]; exact congrArg (Value.int .u64) (by have := HA2.out; have := HB2.out; show _ = ((B2 : Nat) : Int); omega), trivial⟩
      case measure => simp [intOf]; omega

    · have hj' : j = N := by omega
      subst hj'
      have hls : decide ((j : Int) < j) = false := decide_eq_false (by omega)
      have hend := HE.out
      rw [← HN.out] at hend
      obtain ⟨A, hA⟩ : ∃ A, A = (foldC adF (1, 0) inp j).1 := ⟨_, rfl⟩
      obtain ⟨B, hB⟩ : ∃ B, B = (foldC adF (1, 0) inp j).2 := ⟨_, rfl⟩
      have hbj := HBD.out j (by have := HN.out; omega)
      rw [← hA, ← hB] at hend hbj ⊢
      clear hA hB
      rw [show (num : Int) = (B : Int) * 65536 + (A : Int) by omega] at HL
      clear hend
      go_wp2_with fail
      refine HL.mono ?_
      rintro e w1 ⟨wa, wc, rfl, hbytes, hbl⟩
      have TT := HT.out w1 (some wa) wc hbl hbytes (fun e => by cases e)
      have HB := Lib.hid hbl
      clear hbl hbytes HL
      go_wp2_with fail
      refine TT.mono ?_
      rintro e w2 ⟨rfl, hb2⟩
      have HB2 := Lib.hid hb2
      clear TT hb2
      go_wp2_with fail
      exact bodyPost_ret (v := .bool true) (by simp [results, Tryz.results8, go_sem]) rfl ⟨rfl, below2 HB.out HB2.out⟩
end Go.Proofs.YtclpjglkjkbljaaGreat
