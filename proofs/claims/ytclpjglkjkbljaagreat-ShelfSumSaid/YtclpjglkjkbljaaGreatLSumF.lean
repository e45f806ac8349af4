/-
  ShelfSum: the law's function.
-/
import Derived.Test.YtclpjglkjkbljaaGreatLLineF
import Derived.Test.YtclpjglkjkbljaaGreatLFolP
import Derived.Test.YtclpjglkjkbljaaGreatLCouF
namespace Go.Proofs.YtclpjglkjkbljaaGreat
open Go Go.RowKit

set_option maxHeartbeats 1000000 in
set_option maxRecDepth 100000 in
theorem shelfSum_ok (w : World) (a : Option Addr) (c : Nat) (inp : List Nat) (hin : BytesIn w a inp) (_ : a = none → inp.length = 0) (hreach : inp.length ≤ 140737488351232) {rdy : Rdy} (hP : Played 7566701 3 rdy) (hR : rdy = ⟨1, sumBd, [List.replicate 20 0]⟩) :
    Calls Tryz.prog 9 #[.slice a inp.length c] w fun e w' => e = .returned (.bool true) ∧ Below w.heap.size w w' := by
  subst hR
  have hb : ∀ v ∈ inp, v < 256 := fun v hv => by
    obtain ⟨k, hk⟩ := List.getElem?_of_mem hv
    exact (hin k v hk).1
  have T := fun (w1 : World) (wa : Option Addr) (wc : Nat) (hw : Below w.heap.size w w1) (h1 : BytesIn w1 wa (digs (suN inp) ++ [10])) (h2 : wa = none → (digs (suN inp) ++ [10]).length = 0) =>
    tells_ok hP (inp := inp) (want := digs (suN inp) ++ [10]) (large := decide ((60 : Int) < inp.length)) (w := w1) (a := a) (wa := wa) (c := c) (wc := wc) (fun hl => hin.inp hw hl) h1 h2
    (fun _ => by
      obtain ⟨n, v, s, h1, h2, h3⟩ := sum_means hb
      exact ⟨n, v, s, h1, h2, fun ho => decide_eq_true (by have := h3 ho; omega)⟩)
  have hs : XM.unB 7566701 3 = ⟨#[115, 117, 109]⟩ := by kernel_rfl
  rw [hs] at T
  have hbd := su_lt hb
  have hfs : ∀ j, j < inp.length → foldC suF (0, 0) inp (j + 1) = suF (foldC suF (0, 0) inp j) (curC inp j) := fun j hj => foldC_succ suF (0, 0) hj
  have hend : suN inp = ((foldC suF (0, 0) inp inp.length).1 + (foldC suF (0, 0) inp inp.length).2) % 18446744073709551616 := by unfold suN; rw [← foldC_all]
  have hnum : suN inp < 18446744073709551616 := Nat.mod_lt _ (by decide)
  have HL := line_ok (suN inp) hnum w
  have HT := Lib.hid T
  have HIN := Lib.hid (And.intro hin hb)
  have HBD := Lib.hid hbd
  have HFS := Lib.hid hfs
  have HF0 := Lib.hid (foldC_zero suF (0, 0) inp)
  have HE := Lib.hid hend
  clear hin hb hs T hP hbd hfs hend hnum
  generalize digs (suN inp) ++ [10] = want at *
  generalize suN inp = num at *
  obtain ⟨N, hN⟩ : ∃ N, N = inp.length := ⟨_, rfl⟩
  obtain ⟨L, hL⟩ : ∃ L, L = want.length := ⟨_, rfl⟩
  rw [← hN, ← hL] at HT
  rw [← hL] at HL
  have HN := Lib.hid hN
  rw [← hN] at hreach ⊢
  clear hN hL
  go_enter Tryz.func9, Tryz.ntmps9
  go_wp2_with fail
  go_loopw [3, 4, 10] (fun va vb i wr => ∃ j : Nat, j ≤ N ∧ i = .int .i64 j ∧ va = .int .u64 ((foldC suF (0, 0) inp j).1 : Nat) ∧ vb = .int .u64 ((foldC suF (0, 0) inp j).2 : Nat) ∧ wr = w) (fun _ _ i _ => N - (intOf i).toNat)
  case atStart => exact ⟨0, by omega, rfl, by rw [HF0.out]; rfl, by rw [HF0.out]; rfl, rfl⟩
  case round =>
    obtain ⟨j, hj, rfl, rfl, rfl, rfl⟩ := hrel
    by_cases hlt : j < N
    · have hls : decide ((j : Int) < N) = true := decide_eq_true (by omega)
      have hjl : j < inp.length := by have := HN.out; omega
      obtain ⟨v, hv⟩ : ∃ v, inp[j]? = some v := ⟨_, List.getElem?_eq_getElem hjl⟩
      obtain ⟨hv256, b, off, ha, hbl, hcell⟩ := HIN.out.1 j v hv
      have hcu : curC inp j = v := by unfold curC; rw [hv]; rfl
      have hstep := HFS.out j hjl
      rw [hcu] at hstep
      have hbj := HBD.out j (by omega)
      have HST := Lib.hid hstep
      subst ha
      clear hv hcu hstep
      obtain ⟨A, hA⟩ : ∃ A, A = (foldC suF (0, 0) inp j).1 := ⟨_, rfl⟩
      obtain ⟨B, hB⟩ : ∃ B, B = (foldC suF (0, 0) inp j).2 := ⟨_, rfl⟩
      rw [← hA, ← hB] at hbj ⊢
      have HAB := Lib.hid (And.intro hA hB)
      clear hA hB
      by_cases hd : 48 ≤ v ∧ v ≤ 57
      · have q1 : decide ((48 : Int) ≤ v) = true := decide_eq_true (by omega)
        have q2 : decide ((v : Int) ≤ 57) = true := decide_eq_true (by omega)
        have q3 : decide ((v : Int) < 48) = false := decide_eq_false (by omega)
        have q4 : decide ((57 : Int) < v) = false := decide_eq_false (by omega)
        have hdd : isD v = true := decide_eq_true hd
        obtain ⟨X, hX⟩ : ∃ X, X = B * 10 % 18446744073709551616 := ⟨_, rfl⟩
        obtain ⟨R, hR⟩ : ∃ R, R = (X + (v - 48)) % 18446744073709551616 := ⟨_, rfl⟩
        have HR := Lib.hid (show foldC suF (0, 0) inp (j + 1) = (A, R) by
          rw [HST.out, hR, hX, HAB.out.1, HAB.out.2]; unfold suF; rw [if_pos hdd])
        have e1 : IntKind.u64.wrap (10 * (B : Int)) = (X : Int) := by rw [IntKind.wrap]; simp [IntKind.bits, IntKind.signed]; omega
        have e2 : IntKind.u64.wrap ((X : Int) + ((v : Int) - 48)) = (R : Int) := by rw [IntKind.wrap]; simp [IntKind.bits, IntKind.signed]; omega
        clear hX hR
        go_wp2_with fail
        go_round
        case rel => exact ⟨j + 1, by omega, by go_num, by rw [HR.out], by rw [HR.out], trivial⟩
        case measure => simp [intOf]; omega
      · have hdd : isD v = false := decide_eq_false hd
        by_cases h48 : 48 ≤ v
        all_goals
          first
          | (have q1 : decide ((48 : Int) ≤ v) = true := decide_eq_true (by omega)
             have q2 : decide ((v : Int) ≤ 57) = false := decide_eq_false (by omega)
             have q3 : decide ((v : Int) < 48) = false := decide_eq_false (by omega)
             have q4 : decide ((57 : Int) < v) = true := decide_eq_true (by omega))
          | (have q1 : decide ((48 : Int) ≤ v) = false := decide_eq_false (by omega)
             have q3 : decide ((v : Int) < 48) = true := decide_eq_true (by omega))
          have hR : foldC suF (0, 0) inp (j + 1) = ((A + B) % 18446744073709551616, 0) := by
            rw [HST.out, HAB.out.1, HAB.out.2]; unfold suF; rw [if_neg (by rw [hdd]; decide)]
          obtain ⟨R, hR2⟩ : ∃ R, R = (A + B) % 18446744073709551616 := ⟨_, rfl⟩
          rw [← hR2] at hR
          have e1 : IntKind.u64.wrap ((A : Int) + (B : Int)) = (R : Int) := by rw [IntKind.wrap]; simp [IntKind.bits, IntKind.signed]; omega
          have HR := Lib.hid hR
          clear hR hR2
          go_wp2_with fail
          go_round
          case rel => exact ⟨j + 1, by omega, by go_num, by rw [HR.out], by rw [HR.out]; rfl, trivial⟩
          case measure => simp [intOf]; omega
    · have hj' : j = N := by omega
      subst hj'
      have hls : decide ((j : Int) < j) = false := decide_eq_false (by omega)
      have hend := HE.out
      rw [← HN.out] at hend
      obtain ⟨A, hA⟩ : ∃ A, A = (foldC suF (0, 0) inp j).1 := ⟨_, rfl⟩
      obtain ⟨B, hB⟩ : ∃ B, B = (foldC suF (0, 0) inp j).2 := ⟨_, rfl⟩
      have hbj := HBD.out j (by have := HN.out; omega)
      rw [← hA, ← hB] at hend hbj ⊢
      clear hA hB
      have e1 : IntKind.u64.wrap ((A : Int) + (B : Int)) = (num : Int) := by rw [IntKind.wrap]; simp [IntKind.bits, IntKind.signed]; omega
      clear hend
      go_wp2_with fail
      refine HL.mono ?_
      rintro e w1 ⟨wa, wc, rfl, hbytes, hbl⟩
      have TT := HT.out w1 (some wa) wc hbl hbytes (fun e => by cases e)
      have HB := Lib.hid hbl
      clear hbl hbytes HL
      go_wp2_with fail
      refine TT.mono ?_
      rintro e w2 ⟨rfl, hb2⟩
      have HB2 := Lib.hid hb2
      clear TT hb2
      go_wp2_with fail
      exact bodyPost_ret (v := .bool true) (by simp [results, Tryz.results9, go_sem]) rfl ⟨rfl, below2 HB.out HB2.out⟩
end Go.Proofs.YtclpjglkjkbljaaGreat
