/-
  ShelfOnes: the law's function.
-/
import Derived.Test.YtclpjglkjkbljaaGreatLLineF
import Derived.Test.YtclpjglkjkbljaaGreatLFolQ
import Derived.Test.YtclpjglkjkbljaaGreatLCouF
namespace Go.Proofs.YtclpjglkjkbljaaGreat
open Go Go.RowKit

set_option maxHeartbeats 1000000 in
set_option maxRecDepth 100000 in
theorem shelfOnes_ok (w : World) (a : Option Addr) (c : Nat) (inp : List Nat) (hin : BytesIn w a inp) (_ : a = none → inp.length = 0) (hreach : inp.length ≤ 140737488351232) {rdy : Rdy} (hP : Played 1869505907 4 rdy) (hR : rdy = ⟨1, oneBd, [List.replicate 20 0]⟩) :
    Calls Tryz.prog 6 #[.slice a inp.length c] w fun e w' => e = .returned (.bool true) ∧ Below w.heap.size w w' := by
  subst hR
  have hb : ∀ v ∈ inp, v < 256 := fun v hv => by
    obtain ⟨k, hk⟩ := List.getElem?_of_mem hv
    exact (hin k v hk).1
  have T := fun (w1 : World) (wa : Option Addr) (wc : Nat) (hw : Below w.heap.size w w1) (h1 : BytesIn w1 wa (digs (onN inp) ++ [10])) (h2 : wa = none → (digs (onN inp) ++ [10]).length = 0) =>
    tells_ok hP (inp := inp) (want := digs (onN inp) ++ [10]) (large := decide ((60 : Int) < inp.length)) (w := w1) (a := a) (wa := wa) (c := c) (wc := wc) (fun hl => hin.inp hw hl) h1 h2
    (fun hl => by
      obtain ⟨n, v, s, h1, h2, h3⟩ := ones_means hb hl
      exact ⟨n, v, s, h1, h2, fun ho => decide_eq_true (by have := h3 ho; omega)⟩)
  have hs : XM.unB 1869505907 4 = ⟨#[111, 110, 101, 115]⟩ := by kernel_rfl
  rw [hs] at T
  have hbd := on_le hb
  have hfs : ∀ j, j < inp.length → foldC onF 0 inp (j + 1) = onF (foldC onF 0 inp j) (curC inp j) := fun j hj => foldC_succ onF 0 hj
  have hend : onN inp = foldC onF 0 inp inp.length := by unfold onN; rw [← foldC_all]
  have hnum : onN inp < 18446744073709551616 := by rw [hend]; have := hbd inp.length (Nat.le_refl _); omega
  have HL := line_ok (onN inp) hnum w
  have HT := Lib.hid T
  have HIN := Lib.hid (And.intro hin hb)
  have HBD := Lib.hid hbd
  have HFS := Lib.hid hfs
  have HF0 := Lib.hid (foldC_zero onF 0 inp)
  have HE := Lib.hid hend
  clear hin hb hs T hP hbd hfs hend hnum
  generalize digs (onN inp) ++ [10] = want at *
  generalize onN inp = num at *
  obtain ⟨N, hN⟩ : ∃ N, N = inp.length := ⟨_, rfl⟩
  obtain ⟨L, hL⟩ : ∃ L, L = want.length := ⟨_, rfl⟩
  rw [← hN, ← hL] at HT
  rw [← hL] at HL
  have HN := Lib.hid hN
  rw [← hN] at hreach ⊢
  clear hN hL
  go_enter Tryz.func6, Tryz.ntmps6
  go_wp2_with fail
  go_loopw [3, 9] (fun va i wr => ∃ j : Nat, j ≤ N ∧ i = .int .i64 j ∧ va = .int .u64 (foldC onF 0 inp j : Nat) ∧ wr = w) (fun _ i _ => N - (intOf i).toNat)
  case atStart => exact ⟨0, by omega, rfl, by rw [HF0.out]; rfl, rfl⟩
  case round =>
    obtain ⟨j, hj, rfl, rfl, rfl⟩ := hrel
    by_cases hlt : j < N
    · have hls : decide ((j : Int) < N) = true := decide_eq_true (by omega)
      have hjl : j < inp.length := by have := HN.out; omega
      obtain ⟨v, hv⟩ : ∃ v, inp[j]? = some v := ⟨_, List.getElem?_eq_getElem hjl⟩
      obtain ⟨hv256, b, off, ha, hbl, hcell⟩ := HIN.out.1 j v hv
      have hcu : curC inp j = v := by unfold curC; rw [hv]; rfl
      have hstep := HFS.out j hjl
      rw [hcu] at hstep
      have hbj := HBD.out j (by omega)
      have HST := Lib.hid hstep
      subst ha
      clear hv hcu hstep
      obtain ⟨A, hA⟩ : ∃ A, A = foldC onF 0 inp j := ⟨_, rfl⟩
      rw [← hA] at hbj ⊢
      have HR := Lib.hid (show foldC onF 0 inp (j + 1) = A + pc v by rw [HST.out, hA]; rfl)
      clear hA
      go_wp2_with fail
      go_loopw [3, 5] (fun va vc wr' => ∃ n k : Nat, va = .int .u64 (n : Nat) ∧ vc = .int .u8 (k : Nat) ∧ Hid (n + pc k = A + pc v) ∧ k < 256 ∧ wr' = wr) (fun _ vc _ => (intOf vc).toNat)
      case atStart => exact ⟨A, v, rfl, rfl, Lib.hid rfl, hv256, rfl⟩
      case round =>
        obtain ⟨n, k, rfl, rfl, hsum, hk, rfl⟩ := hrel
        by_cases hz : k = 0
        · subst hz
          have q1 : decide ((0 : Int) < (0 : Nat)) = false := rfl
          go_wp2_with fail
          go_round
          case rel => exact ⟨j + 1, by omega, by go_num, by rw [HR.out, ← hsum.out, pc_zero]; rfl, trivial⟩
          case measure => simp [intOf]; omega
        · have q1 : decide ((0 : Int) < (k : Nat)) = true := decide_eq_true (by omega)
          have hle : n ≤ 8 * j + 8 := by
            have := hsum.out
            have := pc_le 8 v hv256
            omega
          have e1 : (k : Int).tmod 2 = ((k % 2 : Nat) : Int) := by rw [Int.tmod_eq_emod_of_nonneg (by omega)]; omega
          have HS := Lib.hid (show n + k % 2 + pc (k / 2) = A + pc v by rw [← hsum.out, pc_pos hz]; omega)
          clear hsum
          go_wp2_with fail
          go_round
          case rel => exact ⟨n + k % 2, k / 2, by go_num, by go_num, HS, by omega, trivial⟩
          case measure => simp [intOf]; omega
    · have hj' : j = N := by omega
      subst hj'
      have hls : decide ((j : Int) < j) = false := decide_eq_false (by omega)
      have hend := HE.out
      rw [← HN.out] at hend
      rw [← hend]
      clear hend
      go_wp2_with fail
      refine HL.mono ?_
      rintro e w1 ⟨wa, wc, rfl, hbytes, hbl⟩
      have TT := HT.out w1 (some wa) wc hbl hbytes (fun e => by cases e)
      have HB := Lib.hid hbl
      clear hbl hbytes HL
      go_wp2_with fail
      refine TT.mono ?_
      rintro e w2 ⟨rfl, hb2⟩
      have HB2 := Lib.hid hb2
      clear TT hb2
      go_wp2_with fail
      exact bodyPost_ret (v := .bool true) (by simp [results, Tryz.results6, go_sem]) rfl ⟨rfl, below2 HB.out HB2.out⟩
end Go.Proofs.YtclpjglkjkbljaaGreat
