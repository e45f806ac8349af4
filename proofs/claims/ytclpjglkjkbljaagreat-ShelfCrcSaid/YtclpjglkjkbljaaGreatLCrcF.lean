/-
  ShelfCrc: the law's function.
-/
import Derived.Test.YtclpjglkjkbljaaGreatLLineF
import Derived.Test.YtclpjglkjkbljaaGreatLCrcP
import Derived.Test.YtclpjglkjkbljaaGreatLCouF
namespace Go.Proofs.YtclpjglkjkbljaaGreat
open Go Go.RowKit

set_option maxHeartbeats 1000000 in
set_option maxRecDepth 100000 in
theorem shelfCrc_ok (w : World) (a : Option Addr) (c : Nat) (inp : List Nat) (hin : BytesIn w a inp) (_ : a = none → inp.length = 0) (hreach : inp.length ≤ 140737488351232) {rdy : Rdy} (hP : Played 6517347 3 rdy) (hR : rdy = ⟨1, crcBd, [List.replicate 20 0]⟩) :
    Calls Tryz.prog 7 #[.slice a inp.length c] w fun e w' => e = .returned (.bool true) ∧ Below w.heap.size w w' := by
  subst hR
  have hb : ∀ v ∈ inp, v < 256 := fun v hv => by
    obtain ⟨k, hk⟩ := List.getElem?_of_mem hv
    exact (hin k v hk).1
  have T := fun (w1 : World) (wa : Option Addr) (wc : Nat) (hw : Below w.heap.size w w1) (h1 : BytesIn w1 wa (digs (crN inp) ++ [10])) (h2 : wa = none → (digs (crN inp) ++ [10]).length = 0) =>
    tells_ok hP (inp := inp) (want := digs (crN inp) ++ [10]) (large := decide ((60 : Int) < inp.length)) (w := w1) (a := a) (wa := wa) (c := c) (wc := wc) (fun hl => hin.inp hw hl) h1 h2
    (fun _ => by
      obtain ⟨n, v, s, h1, h2, h3⟩ := crc_means hb
      exact ⟨n, v, s, h1, h2, fun ho => decide_eq_true (by have := h3 ho; omega)⟩)
  have hs : XM.unB 6517347 3 = ⟨#[99, 114, 99]⟩ := by kernel_rfl
  rw [hs] at T
  have hbd := cr_lt hb
  have hfs : ∀ j, j < inp.length → foldC crF 65535 inp (j + 1) = crF (foldC crF 65535 inp j) (curC inp j) := fun j hj => foldC_succ crF 65535 hj
  have hend : crN inp = foldC crF 65535 inp inp.length := by unfold crN; rw [← foldC_all]
  have hnum : crN inp < 18446744073709551616 := by rw [hend]; have := hbd inp.length (Nat.le_refl _); omega
  have HL := line_ok (crN inp) hnum w
  have HT := Lib.hid T
  have HIN := Lib.hid (And.intro hin hb)
  have HBD := Lib.hid hbd
  have HFS := Lib.hid hfs
  have HF0 := Lib.hid (foldC_zero crF 65535 inp)
  have HE := Lib.hid hend
  clear hin hb hs T hP hbd hfs hend hnum
  generalize digs (crN inp) ++ [10] = want at *
  generalize crN inp = num at *
  obtain ⟨N, hN⟩ : ∃ N, N = inp.length := ⟨_, rfl⟩
  obtain ⟨L, hL⟩ : ∃ L, L = want.length := ⟨_, rfl⟩
  rw [← hN, ← hL] at HT
  rw [← hL] at HL
  have HN := Lib.hid hN
  rw [← hN] at hreach ⊢
  clear hN hL
  go_enter Tryz.func7, Tryz.ntmps7
  go_wp2_with fail
  go_loopw [3, 10] (fun va i wr => ∃ j : Nat, j ≤ N ∧ i = .int .i64 j ∧ va = .int .u64 (foldC crF 65535 inp j : Nat) ∧ wr = w) (fun _ i _ => N - (intOf i).toNat)
  case atStart => exact ⟨0, by omega, rfl, by rw [HF0.out]; rfl, rfl⟩
  case round =>
    obtain ⟨j, hj, rfl, rfl, rfl⟩ := hrel
    by_cases hlt : j < N
    · have hls : decide ((j : Int) < N) = true := decide_eq_true (by omega)
      have hjl : j < inp.length := by have := HN.out; omega
      obtain ⟨v, hv⟩ : ∃ v, inp[j]? = some v := ⟨_, List.getElem?_eq_getElem hjl⟩
      obtain ⟨hv256, b, off, ha, hbl, hcell⟩ := HIN.out.1 j v hv
      have hcu : curC inp j = v := by unfold curC; rw [hv]; rfl
      have hstep := HFS.out j hjl
      rw [hcu] at hstep
      have hbj := HBD.out j (by omega)
      have HST := Lib.hid hstep
      subst ha
      clear hv hcu hstep
      obtain ⟨A, hA⟩ : ∃ A, A = foldC crF 65535 inp j := ⟨_, rfl⟩
      rw [← hA] at hbj ⊢
      obtain ⟨X, hX⟩ : ∃ X, X = A ^^^ v * 256 := ⟨_, rfl⟩
      have HR := Lib.hid (show foldC crF 65535 inp (j + 1) = itr X 8 by rw [HST.out, hX, hA]; rfl)
      have hXl : X < 65536 := by rw [hX]; exact Nat.xor_lt_two_pow (n := 16) hbj (by omega)
      have e1 : bits .xor .u64 (A : Int) ((v : Int) * 256) = (X : Int) := by rw [hX]; exact u64_xor_nat A (v * 256) (by omega) (by omega)
      clear hA hX
      go_wp2_with fail
      go_loopw [3, 6] (fun va vk wr' => ∃ k : Nat, k ≤ 8 ∧ va = .int .u64 (itr X k : Nat) ∧ vk = .int .i64 (k : Nat) ∧ wr' = wr) (fun _ vk _ => 8 - (intOf vk).toNat)
      case atStart => exact ⟨0, by omega, rfl, rfl, rfl⟩
      case round =>
        obtain ⟨k, hk, rfl, rfl, rfl⟩ := hrel
        by_cases h8 : k < 8
        · have q1 : decide ((k : Int) < 8) = true := decide_eq_true (by omega)
          have hil := itr_lt hXl k
          have hS := crS_eq hil
          obtain ⟨y, hy⟩ : ∃ y, y = itr X k := ⟨_, rfl⟩
          rw [← hy] at hil hS ⊢
          have HI := Lib.hid (show itr X (k + 1) = crS y by rw [hy]; rfl)
          clear hy
          by_cases hc : 65536 ≤ 2 * y
          · rw [if_pos hc] at hS
            obtain ⟨Z, hZ⟩ : ∃ Z, Z = 2 * y := ⟨_, rfl⟩
            rw [← hZ] at hS hc
            obtain ⟨Z1, hZ1⟩ : ∃ Z1, Z1 = Z ^^^ 65536 := ⟨_, rfl⟩
            rw [← hZ1] at hS
            have hZ1l : Z1 < 65536 := by
              rw [hZ1, show Z = 65536 + (Z - 65536) by omega, xor_hi _ (by omega)]; omega
            have q2 : decide ((65536 : Int) ≤ 2 * (y : Int)) = true := decide_eq_true (by omega)
            have e2 : bits .xor .u64 (2 * (y : Int)) 65536 = (Z1 : Int) := by
              rw [hZ1, show (2 * (y : Int)) = (Z : Int) by omega]; exact u64_xor_nat Z 65536 (by omega) (by omega)
            have e3 : bits .xor .u64 (Z1 : Int) 4129 = ((Z1 ^^^ 4129 : Nat) : Int) := u64_xor_nat Z1 4129 (by omega) (by omega)
            have HS := Lib.hid hS
            clear hS hZ1 hZ
            go_wp2_with fail
            go_round
            case rel => exact ⟨k + 1, by omega, by rw [HI.out, HS.out], by go_num, trivial⟩
            case measure => simp [intOf]; omega
          · rw [if_neg hc] at hS
            have q2 : decide ((65536 : Int) ≤ 2 * (y : Int)) = false := decide_eq_false (by omega)
            have HS := Lib.hid hS
            clear hS
            go_wp2_with fail
            go_round
            case rel => exact ⟨k + 1, by omega, by rw [HI.out, HS.out]; go_num, by go_num, trivial⟩
            case measure => simp [intOf]; omega
        · obtain rfl : k = 8 := by omega
          have q1 : decide (((8 : Nat) : Int) < 8) = false := rfl
          go_wp2_with fail
          go_round
          case rel => exact ⟨j + 1, by omega, by go_num, by rw [HR.out], trivial⟩
          case measure => simp [intOf]; omega
    · have hj' : j = N := by omega
      subst hj'
      have hls : decide ((j : Int) < j) = false := decide_eq_false (by omega)
      have hend := HE.out
      rw [← HN.out] at hend
      rw [← hend]
      clear hend
      go_wp2_with fail
      refine HL.mono ?_
      rintro e w1 ⟨wa, wc, rfl, hbytes, hbl⟩
      have TT := HT.out w1 (some wa) wc hbl hbytes (fun e => by cases e)
      have HB := Lib.hid hbl
      clear hbl hbytes HL
      go_wp2_with fail
      refine TT.mono ?_
      rintro e w2 ⟨rfl, hb2⟩
      have HB2 := Lib.hid hb2
      clear TT hb2
      go_wp2_with fail
      exact bodyPost_ret (v := .bool true) (by simp [results, Tryz.results7, go_sem]) rfl ⟨rfl, below2 HB.out HB2.out⟩
end Go.Proofs.YtclpjglkjkbljaaGreat
