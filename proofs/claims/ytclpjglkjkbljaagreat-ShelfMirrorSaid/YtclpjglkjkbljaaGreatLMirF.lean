/-
  ShelfMirror: the law's function.
-/
import Derived.Test.YtclpjglkjkbljaaGreatJRc
import Derived.Test.YtclpjglkjkbljaaGreatLMirP
import Derived.Test.YtclpjglkjkbljaaGreatLCouF
import Derived.Lib.SlBytesConst
namespace Go.Proofs.YtclpjglkjkbljaaGreat
open Go Go.RowKit

theorem bytes2 (w : World) (d : Nat) (hd : d < 256) (f : Nat × Nat) : BytesIn (w.alloc (.cells #[.int .u8 (d : Nat), .int .u8 10] 5 f)) (some ⟨w.heap.size, 0, none⟩) [d, 10] := fun k v hk => by
  have hn := heap_alloc_new w (.cells #[.int .u8 (d : Nat), .int .u8 10] 5 f)
  have hs : w.heap.size < (w.alloc (.cells #[.int .u8 (d : Nat), .int .u8 10] 5 f)).heap.size := by rw [alloc_sz]; omega
  match k, hk with
  | 0, hk => cases hk; exact ⟨hd, _, 0, rfl, hs, by unfold World.cell?; rw [hn]; rfl⟩
  | 1, hk => cases hk; exact ⟨by omega, _, 0, rfl, hs, by unfold World.cell?; rw [hn]; rfl⟩
  | k + 2, hk => simp at hk
/-- what has been seen so far -/
def MirAt (w0 wr : World) (lv : Value) (inp : List Nat) (M j : Nat) : Prop :=
  ∃ (bk d : Nat), lv = .slice (some ⟨bk, 0, none⟩) 2 2 ∧ Below w0.heap.size w0 wr ∧ BytesIn wr (some ⟨bk, 0, none⟩) [d, 10] ∧ ((∀ k, k < j → curC inp k = curC inp (M - 1 - k)) ∧ d = 49 ∨ (¬ ∀ k, k < j → curC inp k = curC inp (M - 1 - k)) ∧ d = 48)

set_option maxHeartbeats 2000000 in
set_option maxRecDepth 100000 in
theorem shelfMirror_ok (w : World) (a : Option Addr) (c : Nat) (inp : List Nat) (hin : BytesIn w a inp) (hn : a = none → inp.length = 0) (hreach : inp.length ≤ 140737488351232) (hcap : inp.length ≤ c) {rdy : Rdy} (hP : Played 120299659095922 6 rdy) (hR : rdy = ⟨0, mirBd, [List.replicate 200 0]⟩) :
    Calls Tryz.prog 13 #[.slice a inp.length c] w fun e w' => e = .returned (.bool true) ∧ Below w.heap.size w w' := by
  subst hR
  have hb : ∀ v ∈ inp, v < 256 := fun v hv => by
    obtain ⟨k, hk⟩ := List.getElem?_of_mem hv
    exact (hin k v hk).1
  have T := fun (d : Nat) (hd : (mirP inp ∧ d = 49) ∨ (¬ mirP inp ∧ d = 48)) (w1 : World) (wa : Option Addr) (wc : Nat) (hw : Below w.heap.size w w1) (h1 : BytesIn w1 wa [d, 10]) (h2 : wa = none → [d, 10].length = 0) =>
    tells_ok hP (inp := inp) (want := [d, 10]) (large := decide ((60 : Int) < inp.length)) (w := w1) (a := a) (wa := wa) (c := c) (wc := wc) (fun hl => hin.inp hw hl) h1 h2
    (fun _ => by
      obtain ⟨d', n, v, s, h0, q1, q2, q3⟩ := mir_means hb
      have : d' = d := by
        rcases hd with ⟨p, rfl⟩ | ⟨p, rfl⟩ <;> rcases h0 with ⟨p', rfl⟩ | ⟨p', rfl⟩
        · rfl
        · exact absurd p p'
        · exact absurd p' p
        · rfl
      subst this
      exact ⟨n, v, s, q1, q2, fun ho => decide_eq_true (by have := q3 ho; omega)⟩)
  have hs : XM.unB 120299659095922 6 = ⟨#[109, 105, 114, 114, 111, 114]⟩ := by kernel_rfl
  rw [hs] at T
  have HT := Lib.hid T
  have HIN := Lib.hid (And.intro hin (And.intro hn hb))
  clear hin hb hs T hP
  obtain ⟨N, hN⟩ : ∃ N, N = inp.length := ⟨_, rfl⟩
  have HN := Lib.hid hN
  have kc := fun (w : World) (C : Array Value) (n c : Nat) => Lib.run_convert_bytes_const (P := Tryz.prog) w 22 5 C n c Tryz.underlying22 Tryz.underlying5
  rw [← hN] at hreach hcap hn ⊢
  clear hN
  obtain ⟨M, hM⟩ : ∃ M, M = min N 200 := ⟨_, rfl⟩
  have HM := Lib.hid hM
  have hMN : M ≤ N := by omega
  by_cases h200 : 200 < N
  · have g1 : decide ((200 : Int) < N) = true := decide_eq_true (by omega)
    obtain ⟨ad, rfl⟩ : ∃ ad, a = some ad := by
      cases a with
      | none => have := hn rfl; omega
      | some ad => exact ⟨ad, rfl⟩
    obtain rfl : M = 200 := by omega
    have hc2 : decide ((200 : Int) ≤ c) = true := decide_eq_true (by omega)
    clear hM hn
    go_enter Tryz.func13, Tryz.ntmps13
    go_wp2_with fail
    go_loopw [4, 16] (fun lv i wr => ∃ j : Nat, j ≤ 200 ∧ i = .int .i64 j ∧ MirAt w wr lv inp 200 j) (fun _ i _ => 200 - (intOf i).toNat)
    case atStart =>
      refine ⟨0, by omega, rfl, w.heap.size, 49, rfl, ?_, bytes2 w 49 (by decide) _, .inl ⟨fun k h => absurd h (Nat.not_lt_zero k), rfl⟩⟩
      exact ⟨rfl, rfl, rfl, by rw [alloc_sz]; omega, fun b hb => Below.heap_alloc _ _ _ hb⟩
    case round =>
      obtain ⟨j, hj, rfl, bk, d, rfl, hbel, hby, hd⟩ := hrel
      by_cases hlt : j < 200
      · have hls : decide ((j : Int) < 200) = true := decide_eq_true (by omega)
        have hin2 := HIN.out.1.below hbel
        have hjl : j < inp.length := by have := HN.out; omega
        obtain ⟨q, hq⟩ : ∃ q, q = 200 - 1 - j := ⟨_, rfl⟩
        have hql : q < inp.length := by have := HN.out; omega
        obtain ⟨v, hv⟩ : ∃ v, inp[j]? = some v := ⟨_, List.getElem?_eq_getElem hjl⟩
        obtain ⟨u, hu⟩ : ∃ u, inp[q]? = some u := ⟨_, List.getElem?_eq_getElem hql⟩
        obtain ⟨hv256, b, off, ha, hbl, hcell⟩ := hin2 j v hv
        obtain ⟨hu256, b', off', ha', hbl', hcell'⟩ := hin2 q u hu
        have HC := Lib.hid (show curC inp j = v ∧ curC inp (200 - 1 - j) = u by rw [← hq]; unfold curC; rw [hv, hu]; exact ⟨rfl, rfl⟩)
        have e1 : (199 : Int) - (j : Int) = (q : Int) := by omega
        have e2 : (200 : Int) - 1 - (j : Int) = (q : Int) := by omega
        have hql2 : decide ((q : Int) < 200) = true := decide_eq_true (by omega)
        cases ha
        cases ha'
        have HD := Lib.hid (And.intro hbel (And.intro hby hd))
        clear hv hu hin2 hbel hby hd hq
        by_cases hvu : v = u
        · have n1 : ((v : Int) != (u : Int)) = false := by rw [hvu]; simp
          have n2 : ((v : Int) == (u : Int)) = true := by rw [hvu]; simp
          go_wp2_with fail
          go_quiet (fail)
          go_wp2_with fail
          go_round
          case rel =>
            obtain ⟨hbel, hby, hd⟩ := HD.out
            have hdr : ∀ n, Below wr.heap.size wr (wr.drewN n) := fun n => ⟨rfl, rfl, rfl, Nat.le_refl _, fun _ _ => rfl⟩
            refine ⟨j + 1, by omega, by go_num, bk, d, rfl, below2 hbel (hdr _), hby.below (hdr _), ?_⟩
            rcases hd with ⟨hd, rfl⟩ | ⟨hd, rfl⟩
            · refine .inl ⟨fun k hk => ?_, rfl⟩
              by_cases hkj : k = j
              · subst hkj; rw [HC.out.1, HC.out.2]; exact hvu
              · exact hd k (by omega)
            · exact .inr ⟨fun h => hd fun k hk => h k (by omega), rfl⟩
          case measure => simp [intOf]; omega
        · have n1 : ((v : Int) != (u : Int)) = true := by simp; omega
          have n2 : ((v : Int) == (u : Int)) = false := by simp; omega
          have kd : ∀ (n : Nat) (C : Array Value) (m c : Nat), (convert 22 22 (.slice (some ⟨wr.heap.size, 0, none⟩) m c)).run Tryz.prog ((wr.drewN n).alloc (.cells C 5)) = .ok (.slice (some ⟨wr.heap.size, 0, none⟩) m c) ((wr.drewN n).alloc (.cells C 5 (C.size, C.size + 1))) := fun n C m c => kc (wr.drewN n) C m c
          go_wp2_with fail
          go_quiet (fail)
          go_wp2_with fail
          go_round
          case rel =>
            obtain ⟨hbel, hby, hd⟩ := HD.out
            have hdr : ∀ n o, Below wr.heap.size wr ((wr.drewN n).alloc o) := fun n o => ⟨rfl, rfl, rfl, by rw [alloc_sz]; exact Nat.le_succ _, fun b hb => Below.heap_alloc _ _ _ hb⟩
            exact ⟨j + 1, by omega, by go_num, wr.heap.size, 48, rfl, below2 hbel (hdr _ _), bytes2 (wr.drewN _) 48 (by decide) _, .inr ⟨fun h => hvu (by rw [← HC.out.1, ← HC.out.2]; exact h j (by omega)), rfl⟩⟩
          case measure => simp [intOf]; omega
      · obtain rfl : j = 200 := by omega
        have hls : decide (((200 : Nat) : Int) < 200) = false := decide_eq_false (by omega)
        have hmir : (mirP inp ∧ d = 49) ∨ (¬ mirP inp ∧ d = 48) := by
          unfold mirP
          rw [← HN.out, ← HM.out]
          exact hd
        have TT := HT.out d hmir wr (some ⟨bk, 0, none⟩) 2 hbel hby (fun e => by cases e)
        rw [← HN.out] at TT
        have HB := Lib.hid hbel
        clear hbel hby hd hmir
        go_wp2_with fail
        refine TT.mono ?_
        rintro e w2 ⟨rfl, hb2⟩
        have HB2 := Lib.hid hb2
        clear TT hb2
        go_wp2_with fail
        exact bodyPost_ret (v := .bool true) (by simp [results, Tryz.results13, go_sem]) rfl ⟨rfl, below2 HB.out HB2.out⟩
  · have g1 : decide ((200 : Int) < N) = false := decide_eq_false (by omega)
    obtain rfl : M = N := by omega
    clear hM hn
    go_enter Tryz.func13, Tryz.ntmps13
    go_wp2_with fail
    go_loopw [4, 16] (fun lv i wr => ∃ j : Nat, j ≤ M ∧ i = .int .i64 j ∧ MirAt w wr lv inp M j) (fun _ i _ => M - (intOf i).toNat)
    case atStart =>
      refine ⟨0, by omega, rfl, w.heap.size, 49, rfl, ?_, bytes2 w 49 (by decide) _, .inl ⟨fun k h => absurd h (Nat.not_lt_zero k), rfl⟩⟩
      exact ⟨rfl, rfl, rfl, by rw [alloc_sz]; omega, fun b hb => Below.heap_alloc _ _ _ hb⟩
    case round =>
      obtain ⟨j, hj, rfl, bk, d, rfl, hbel, hby, hd⟩ := hrel
      by_cases hlt : j < M
      · have hls : decide ((j : Int) < M) = true := decide_eq_true (by omega)
        have hin2 := HIN.out.1.below hbel
        have hjl : j < inp.length := by have := HN.out; omega
        obtain ⟨q, hq⟩ : ∃ q, q = M - 1 - j := ⟨_, rfl⟩
        have hql : q < inp.length := by have := HN.out; omega
        obtain ⟨v, hv⟩ : ∃ v, inp[j]? = some v := ⟨_, List.getElem?_eq_getElem hjl⟩
        obtain ⟨u, hu⟩ : ∃ u, inp[q]? = some u := ⟨_, List.getElem?_eq_getElem hql⟩
        obtain ⟨hv256, b, off, ha, hbl, hcell⟩ := hin2 j v hv
        obtain ⟨hu256, b', off', ha', hbl', hcell'⟩ := hin2 q u hu
        have HC := Lib.hid (show curC inp j = v ∧ curC inp (M - 1 - j) = u by rw [← hq]; unfold curC; rw [hv, hu]; exact ⟨rfl, rfl⟩)
        have e1 : (M : Int) - 1 - (j : Int) = (q : Int) := by omega
        have hql2 : decide ((q : Int) < M) = true := decide_eq_true (by omega)
        cases ha
        cases ha'
        have HD := Lib.hid (And.intro hbel (And.intro hby hd))
        clear hv hu hin2 hbel hby hd hq
        by_cases hvu : v = u
        · have n1 : ((v : Int) != (u : Int)) = false := by rw [hvu]; simp
          have n2 : ((v : Int) == (u : Int)) = true := by rw [hvu]; simp
          go_wp2_with fail
          go_quiet (fail)
          go_wp2_with fail
          go_round
          case rel =>
            obtain ⟨hbel, hby, hd⟩ := HD.out
            have hdr : ∀ n, Below wr.heap.size wr (wr.drewN n) := fun n => ⟨rfl, rfl, rfl, Nat.le_refl _, fun _ _ => rfl⟩
            refine ⟨j + 1, by omega, by go_num, bk, d, rfl, below2 hbel (hdr _), hby.below (hdr _), ?_⟩
            rcases hd with ⟨hd, rfl⟩ | ⟨hd, rfl⟩
            · refine .inl ⟨fun k hk => ?_, rfl⟩
              by_cases hkj : k = j
              · subst hkj; rw [HC.out.1, HC.out.2]; exact hvu
              · exact hd k (by omega)
            · exact .inr ⟨fun h => hd fun k hk => h k (by omega), rfl⟩
          case measure => simp [intOf]; omega
        · have n1 : ((v : Int) != (u : Int)) = true := by simp; omega
          have n2 : ((v : Int) == (u : Int)) = false := by simp; omega
          have kd : ∀ (n : Nat) (C : Array Value) (m c : Nat), (convert 22 22 (.slice (some ⟨wr.heap.size, 0, none⟩) m c)).run Tryz.prog ((wr.drewN n).alloc (.cells C 5)) = .ok (.slice (some ⟨wr.heap.size, 0, none⟩) m c) ((wr.drewN n).alloc (.cells C 5 (C.size, C.size + 1))) := fun n C m c => kc (wr.drewN n) C m c
          go_wp2_with fail
          go_quiet (fail)
          go_wp2_with fail
          go_round
          case rel =>
            obtain ⟨hbel, hby, hd⟩ := HD.out
            have hdr : ∀ n o, Below wr.heap.size wr ((wr.drewN n).alloc o) := fun n o => ⟨rfl, rfl, rfl, by rw [alloc_sz]; exact Nat.le_succ _, fun b hb => Below.heap_alloc _ _ _ hb⟩
            exact ⟨j + 1, by omega, by go_num, wr.heap.size, 48, rfl, below2 hbel (hdr _ _), bytes2 (wr.drewN _) 48 (by decide) _, .inr ⟨fun h => hvu (by rw [← HC.out.1, ← HC.out.2]; exact h j (by omega)), rfl⟩⟩
          case measure => simp [intOf]; omega
      · obtain rfl : M = j := by omega
        have hls : decide (((M : Nat) : Int) < M) = false := decide_eq_false (by omega)
        have hmir : (mirP inp ∧ d = 49) ∨ (¬ mirP inp ∧ d = 48) := by
          unfold mirP
          rw [← HN.out, ← HM.out]
          exact hd
        have TT := HT.out d hmir wr (some ⟨bk, 0, none⟩) 2 hbel hby (fun e => by cases e)
        rw [← HN.out] at TT
        have HB := Lib.hid hbel
        clear hbel hby hd hmir
        go_wp2_with fail
        refine TT.mono ?_
        rintro e w2 ⟨rfl, hb2⟩
        have HB2 := Lib.hid hb2
        clear TT hb2
        go_wp2_with fail
        exact bodyPost_ret (v := .bool true) (by simp [results, Tryz.results13, go_sem]) rfl ⟨rfl, below2 HB.out HB2.out⟩
end Go.Proofs.YtclpjglkjkbljaaGreat
