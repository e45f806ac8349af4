/-
  ShelfDigits: the law's function.
-/
import Derived.Test.YtclpjglkjkbljaaGreatLLineF
import Derived.Test.YtclpjglkjkbljaaGreatLFolP
import Derived.Test.YtclpjglkjkbljaaGreatLCouF
namespace Go.Proofs.YtclpjglkjkbljaaGreat
open Go Go.RowKit

set_option maxHeartbeats 1000000 in
set_option maxRecDepth 100000 in
theorem shelfDigits_ok (w : World) (a : Option Addr) (c : Nat) (inp : List Nat) (hin : BytesIn w a inp) (_ : a = none → inp.length = 0) (hreach : inp.length ≤ 140737488351232) {rdy : Rdy} (hP : Played 110403869308019 6 rdy) (hR : rdy = ⟨1, digBd, [List.replicate 20 0]⟩) :
    Calls Tryz.prog 11 #[.slice a inp.length c] w fun e w' => e = .returned (.bool true) ∧ Below w.heap.size w w' := by
  subst hR
  have hb : ∀ v ∈ inp, v < 256 := fun v hv => by
    obtain ⟨k, hk⟩ := List.getElem?_of_mem hv
    exact (hin k v hk).1
  have T := fun (w1 : World) (wa : Option Addr) (wc : Nat) (hw : Below w.heap.size w w1) (h1 : BytesIn w1 wa (digs (diN inp) ++ [10])) (h2 : wa = none → (digs (diN inp) ++ [10]).length = 0) =>
    tells_ok hP (inp := inp) (want := digs (diN inp) ++ [10]) (large := decide ((60 : Int) < inp.length)) (w := w1) (a := a) (wa := wa) (c := c) (wc := wc) (fun hl => hin.inp hw hl) h1 h2
    (fun _ => by
      obtain ⟨n, v, s, h1, h2, h3⟩ := digits_means hb
      exact ⟨n, v, s, h1, h2, fun ho => decide_eq_true (by have := h3 ho; omega)⟩)
  have hs : XM.unB 110403869308019 6 = ⟨#[100, 105, 103, 105, 116, 115]⟩ := by kernel_rfl
  rw [hs] at T
  have hbd := di_lt hb
  have hfs : ∀ j, j < inp.length → foldC diF 0 inp (j + 1) = diF (foldC diF 0 inp j) (curC inp j) := fun j hj => foldC_succ diF 0 hj
  have hend : diN inp = foldC diF 0 inp inp.length := by unfold diN; rw [← foldC_all]
  have hnum : diN inp < 18446744073709551616 := by rw [hend]; exact hbd inp.length (Nat.le_refl _)
  have HL := line_ok (diN inp) hnum w
  have HT := Lib.hid T
  have HIN := Lib.hid (And.intro hin hb)
  have HBD := Lib.hid hbd
  have HFS := Lib.hid hfs
  have HF0 := Lib.hid (foldC_zero diF 0 inp)
  have HE := Lib.hid hend
  clear hin hb hs T hP hbd hfs hend hnum
  generalize digs (diN inp) ++ [10] = want at *
  generalize diN inp = num at *
  obtain ⟨N, hN⟩ : ∃ N, N = inp.length := ⟨_, rfl⟩
  obtain ⟨L, hL⟩ : ∃ L, L = want.length := ⟨_, rfl⟩
  rw [← hN, ← hL] at HT
  rw [← hL] at HL
  have HN := Lib.hid hN
  rw [← hN] at hreach ⊢
  clear hN hL
  go_enter Tryz.func11, Tryz.ntmps11
  go_wp2_with fail
  go_loopw [3, 8] (fun va i wr => ∃ j : Nat, j ≤ N ∧ i = .int .i64 j ∧ va = .int .u64 (foldC diF 0 inp j : Nat) ∧ wr = w) (fun _ i _ => N - (intOf i).toNat)
  case atStart => exact ⟨0, by omega, rfl, by rw [HF0.out]; rfl, rfl⟩
  case round =>
    obtain ⟨j, hj, rfl, rfl, rfl⟩ := hrel
    by_cases hlt : j < N
    · have hls : decide ((j : Int) < N) = true := decide_eq_true (by omega)
      have hjl : j < inp.length := by have := HN.out; omega
      obtain ⟨v, hv⟩ : ∃ v, inp[j]? = some v := ⟨_, List.getElem?_eq_getElem hjl⟩
      obtain ⟨hv256, b, off, ha, hbl, hcell⟩ := HIN.out.1 j v hv
      have hcu : curC inp j = v := by unfold curC; rw [hv]; rfl
      have hstep := HFS.out j hjl
      rw [hcu] at hstep
      have hbj := HBD.out j (by omega)
      have HST := Lib.hid hstep
      subst ha
      clear hv hcu hstep
      obtain ⟨A, hA⟩ : ∃ A, A = foldC diF 0 inp j := ⟨_, rfl⟩
      rw [← hA] at hbj ⊢
      have HAB := Lib.hid hA
      clear hA
      by_cases hd : 48 ≤ v ∧ v ≤ 57
      · have q1 : decide ((48 : Int) ≤ v) = true := decide_eq_true (by omega)
        have q2 : decide ((v : Int) ≤ 57) = true := decide_eq_true (by omega)
        have q3 : decide ((v : Int) < 48) = false := decide_eq_false (by omega)
        have q4 : decide ((57 : Int) < v) = false := decide_eq_false (by omega)
        have hdd : isD v = true := decide_eq_true hd
        obtain ⟨R, hR⟩ : ∃ R, R = (A + (v - 48)) % 18446744073709551616 := ⟨_, rfl⟩
        have HR := Lib.hid (show foldC diF 0 inp (j + 1) = R by
          rw [HST.out, hR, HAB.out]; unfold diF; rw [if_pos hdd])
        have e2 : IntKind.u64.wrap ((A : Int) + ((v : Int) - 48)) = (R : Int) := by rw [IntKind.wrap]; simp [IntKind.bits, IntKind.signed]; omega
        clear hR
        go_wp2_with fail
        go_round
        case rel => exact ⟨j + 1, by omega, by go_num, by rw [HR.out], trivial⟩
        case measure => simp [intOf]; omega
      · have hdd : isD v = false := decide_eq_false hd
        by_cases h48 : 48 ≤ v
        all_goals
          first
          | (have q1 : decide ((48 : Int) ≤ v) = true := decide_eq_true (by omega)
             have q2 : decide ((v : Int) ≤ 57) = false := decide_eq_false (by omega)
             have q3 : decide ((v : Int) < 48) = false := decide_eq_false (by omega)
             have q4 : decide ((57 : Int) < v) = true := decide_eq_true (by omega))
          | (have q1 : decide ((48 : Int) ≤ v) = false := decide_eq_false (by omega)
             have q3 : decide ((v : Int) < 48) = true := decide_eq_true (by omega))
          have HR := Lib.hid (show foldC diF 0 inp (j + 1) = A by
            rw [HST.out, HAB.out]; unfold diF; rw [if_neg (by rw [hdd]; decide)])
          go_wp2_with fail
          go_round
          case rel => exact ⟨j + 1, by omega, by go_num, by rw [HR.out], trivial⟩
          case measure => simp [intOf]; omega
    · have hj' : j = N := by omega
      subst hj'
      have hls : decide ((j : Int) < j) = false := decide_eq_false (by omega)
      have hend := HE.out
      rw [← HN.out] at hend
      rw [← hend]
      clear hend
      go_wp2_with fail
      refine HL.mono ?_
      rintro e w1 ⟨wa, wc, rfl, hbytes, hbl⟩
      have TT := HT.out w1 (some wa) wc hbl hbytes (fun e => by cases e)
      have HB := Lib.hid hbl
      clear hbl hbytes HL
      go_wp2_with fail
      refine TT.mono ?_
      rintro e w2 ⟨rfl, hb2⟩
      have HB2 := Lib.hid hb2
      clear TT hb2
      go_wp2_with fail
      exact bodyPost_ret (v := .bool true) (by simp [results, Tryz.results11, go_sem]) rfl ⟨rfl, below2 HB.out HB2.out⟩
end Go.Proofs.YtclpjglkjkbljaaGreat
