/-
  ShelfBinary: the law's function.
-/
import Derived.Test.YtgmmfjmdpbhjnaaGreatJRd
import Derived.Test.YtgmmfjmdpbhjnaaGreatLNuU
namespace Go.Proofs.YtgmmfjmdpbhjnaaGreat
open Go Go.RowKit

theorem strN_cons (x : Nat) (l : List Nat) : strN [x] ++ strN l = strN (x :: l) := by rw [← strN_app]; rfl
theorem rune_0 (W : World) : (convert 21 9 (.int .i32 48)).run Tryz.prog W = .ok (.string (strN [48])) W := by kernel_rfl
theorem rune_1 (W : World) : (convert 21 9 (.int .i32 49)).run Tryz.prog W = .ok (.string (strN [49])) W := by kernel_rfl

set_option maxHeartbeats 4000000 in
set_option maxRecDepth 100000 in
theorem shelfBinary_ok (w : World) (n : Nat) (hn : n < 18446744073709551616) {rdy : Rdy} (hP : Played 108204962968185 6 rdy) (hR : rdy = ⟨1, by2Bd, []⟩) :
    Calls Tryz.prog 13 #[.int .u64 (n : Nat)] w fun e w' => e = .returned (.bool true) ∧ Below w.heap.size w w' := by
  subst hR
  obtain ⟨top, htop, hlt, hge, hE⟩ := by2_means hn
  have T := tellsAsk_of hP (nm := ⟨#[98, 105, 110, 97, 114, 121]⟩) (by kernel_rfl) hE
  obtain ⟨V, hV⟩ : ∃ V : Nat → ByteArray, V = fun t => strN (bitsL n t ++ [10]) := ⟨_, rfl⟩
  have hV0 : V 0 = ⟨#[10]⟩ := by rw [hV]; rfl
  have hV1 : ∀ t, strN [n / 2 ^ t % 2 + 48] ++ V t = V (t + 1) := fun t => by
    rw [hV]
    exact strN_cons _ _
  have hVs : ∀ t, t ≤ 64 → (V t).size ≤ 65 := fun t ht => by
    rw [hV]
    simp only
    rw [strN_size, List.length_append, bitsL_len]
    simp
    omega
  have hVl : V (top + 1) = strN (bitsL n (top + 1) ++ [10]) := by rw [hV]
  have hwl : ∀ v ∈ bitsL n (top + 1) ++ [10], v < 256 := fun v hv => by
    rcases List.mem_append.1 hv with h | h
    · exact bitsL_lt n _ v h
    · have : v = 10 := by simpa using h
      omega
  have HT := Lib.hid T
  have HW := Lib.hid fun w1 => And.intro (bytesWorld_in w1 (bitsL n (top + 1) ++ [10]) hwl) (And.intro (bytesWorld_below w1 (strN (bitsL n (top + 1) ++ [10]))) (strN_size (bitsL n (top + 1) ++ [10])))
  rw [← hVl] at HW
  have HV := Lib.hid (And.intro hV1 hVs)
  have HG := Lib.hid (And.intro hlt hge)
  clear T hP hE hV hVl hwl hV1 hVs hlt hge
  generalize bitsL n (top + 1) ++ [10] = want at *
  go_enter Tryz.func13, Tryz.ntmps13
  go_wp2_with fail
  go_loopw [3, 4] (fun vs vk wr => ∃ t k : Nat, t ≤ top ∧ vs = .string (V t) ∧ vk = .int .u64 (k : Nat) ∧ k < 18446744073709551616 ∧ Hid (k = n / 2 ^ t) ∧ Below w.heap.size w wr) (fun _ vk _ => (intOf vk).toNat)
  case atStart => exact ⟨0, n, Nat.zero_le _, by rw [hV0], rfl, hn, Lib.hid (by rw [Nat.pow_zero, Nat.div_one]), Below.refl _ _⟩
  case round =>
    obtain ⟨t, k, ht, rfl, rfl, hk64, hk, hb0⟩ := hrel
    have e1 : (k : Int).tmod 2 = ((k % 2 : Nat) : Int) := tm_nat k 2
    have hsz := HV.out.2 t (by omega)
    have hnext : 2 ≤ k → t + 1 ≤ top := fun h2 => by
      refine Nat.lt_of_not_le fun hle => ?_
      have : t = top := by omega
      have h3 := HG.out.1
      rw [← this, Nat.mul_comm] at h3
      have := Nat.div_lt_of_lt_mul h3
      rw [← hk.out] at this
      omega
    have hlast : k < 2 → t = top := fun h2 => by
      rcases Nat.lt_or_ge t top with h | h
      · exfalso
        rcases HG.out.2 with h0 | h0
        · omega
        · have h3 : 2 ^ (t + 1) ≤ n := Nat.le_trans (Nat.pow_le_pow_right (by decide) h) h0
          rw [Nat.pow_succ, Nat.mul_comm] at h3
          have := (Nat.le_div_iff_mul_le (Nat.pow_pos (n := t) (show 0 < 2 by decide))).2 h3
          rw [← hk.out] at this
          omega
      · omega
    have HH := Lib.hid (And.intro hnext hlast)
    clear hnext hlast
    have hlt : k % 2 < 2 := Nat.mod_lt _ (by decide)
    by_cases h2 : k < 2
    · have p1 : decide ((k : Int) < 2) = true := decide_eq_true (by omega)
      have htt := HH.out.2 h2
      subst htt
      obtain ⟨S, hS⟩ : ∃ S, S = V (t + 1) := ⟨_, rfl⟩
      rw [← hS] at HW
      obtain ⟨d, hd⟩ : ∃ d, d = k % 2 := ⟨_, rfl⟩
      have HK := Lib.hid hk.out
      have hd2 : n / 2 ^ t % 2 + 48 = d + 48 := by rw [hd, hk.out]
      have hs := HV.out.1 t
      rw [hd2, ← hS] at hs
      rw [← hd] at e1 hlt
      clear hd hd2 hk hS
      have HS := Lib.hid hs
      clear hs
      generalize V t = pre at *
      have hor : d = 0 ∨ d = 1 := by omega
      have r0 := rune_0
      have r1 := rune_1
      generalize hq0 : strN [48] = q0 at *
      generalize hq1 : strN [49] = q1 at *
      have hqs : q0.size = 1 ∧ q1.size = 1 := by rw [← hq0, ← hq1]; exact ⟨rfl, rfl⟩
      have HQ := Lib.hid (And.intro hq0 hq1)
      obtain ⟨hqs0, hqs1⟩ := hqs
      clear hq0 hq1
      rcases hor with rfl | rfl
      · have HS2 : Hid (q0 ++ pre = S) := Lib.hid (by rw [← HQ.out.1]; exact HS.out)
        clear HS
        have HB0 := Lib.hid hb0
        clear hb0
        go_wp2_with fail
        refine (asked_ok [n] (by simp) _ _ _ (nums_one _ n hn _ _)).mono ?_
        rintro e w1 ⟨a1, c1, rfl, hy1, hb1⟩
        have hbig := below2 (HB0.out.alloc HB0.out.size _) hb1
        rw [HS2.out]
        obtain ⟨z1, z2, z3⟩ := HW.out w1
        have cv := Lib.run_convert_string_bytes w1 9 22 5 S Tryz.underlying9 Tryz.underlying22 Tryz.underlying5
        have TT := HT.out _ (some a1) (some ⟨w1.heap.size, 0, none⟩) c1 (grownCap w1 S.size 0 5) (hy1.below z2) z1 (fun e => by cases e)
        rw [← z3] at TT
        have HY2 := Lib.hid (below2 hbig z2)
        clear hy1 hb1 z1 z2 z3 hbig
        go_wp2_with fail
        refine TT.mono ?_
        rintro e w3 ⟨rfl, hb3⟩
        have HY3 := Lib.hid (below2 HY2.out hb3)
        clear TT hb3 cv
        go_wp2_with fail
        exact bodyPost_ret (v := .bool true) (by simp [results, Tryz.results13, go_sem]) rfl ⟨rfl, HY3.out⟩
      · have HS2 : Hid (q1 ++ pre = S) := Lib.hid (by rw [← HQ.out.2]; exact HS.out)
        clear HS
        have HB0 := Lib.hid hb0
        clear hb0
        go_wp2_with fail
        refine (asked_ok [n] (by simp) _ _ _ (nums_one _ n hn _ _)).mono ?_
        rintro e w1 ⟨a1, c1, rfl, hy1, hb1⟩
        have hbig := below2 (HB0.out.alloc HB0.out.size _) hb1
        rw [HS2.out]
        obtain ⟨z1, z2, z3⟩ := HW.out w1
        have cv := Lib.run_convert_string_bytes w1 9 22 5 S Tryz.underlying9 Tryz.underlying22 Tryz.underlying5
        have TT := HT.out _ (some a1) (some ⟨w1.heap.size, 0, none⟩) c1 (grownCap w1 S.size 0 5) (hy1.below z2) z1 (fun e => by cases e)
        rw [← z3] at TT
        have HY2 := Lib.hid (below2 hbig z2)
        clear hy1 hb1 z1 z2 z3 hbig
        go_wp2_with fail
        refine TT.mono ?_
        rintro e w3 ⟨rfl, hb3⟩
        have HY3 := Lib.hid (below2 HY2.out hb3)
        clear TT hb3 cv
        go_wp2_with fail
        exact bodyPost_ret (v := .bool true) (by simp [results, Tryz.results13, go_sem]) rfl ⟨rfl, HY3.out⟩
    · have p1 : decide ((k : Int) < 2) = false := decide_eq_false (by omega)
      have htn := HH.out.1 (by omega)
      clear HT HW
      obtain ⟨d, hd⟩ : ∃ d, d = k % 2 := ⟨_, rfl⟩
      have HK := Lib.hid hk.out
      have hd2 : n / 2 ^ t % 2 + 48 = d + 48 := by rw [hd, hk.out]
      have hs := HV.out.1 t
      rw [hd2] at hs
      rw [← hd] at e1 hlt
      clear hd hd2 hk
      have HS := Lib.hid hs
      clear hs
      generalize V t = pre at *
      have hor : d = 0 ∨ d = 1 := by omega
      have r0 := rune_0
      have r1 := rune_1
      generalize hq0 : strN [48] = q0 at *
      generalize hq1 : strN [49] = q1 at *
      have hqs : q0.size = 1 ∧ q1.size = 1 := by rw [← hq0, ← hq1]; exact ⟨rfl, rfl⟩
      have HQ := Lib.hid (And.intro hq0 hq1)
      obtain ⟨hqs0, hqs1⟩ := hqs
      clear hq0 hq1
      rcases hor with rfl | rfl
      · have HS2 : Hid (q0 ++ pre = V (t + 1)) := Lib.hid (by rw [← HQ.out.1]; exact HS.out)
        clear HS
        go_wp2_with fail
        go_round
        case rel => exact ⟨t + 1, k / 2, htn, by rw [HS2.out], by simp, by omega, Lib.hid (by rw [HK.out, Nat.pow_succ, Nat.div_div_eq_div_mul]), hb0⟩
        case measure => simp [intOf]; omega
      · have HS2 : Hid (q1 ++ pre = V (t + 1)) := Lib.hid (by rw [← HQ.out.2]; exact HS.out)
        clear HS
        go_wp2_with fail
        go_round
        case rel => exact ⟨t + 1, k / 2, htn, by rw [HS2.out], by simp, by omega, Lib.hid (by rw [HK.out, Nat.pow_succ, Nat.div_div_eq_div_mul]), hb0⟩
        case measure => simp [intOf]; omega
end Go.Proofs.YtgmmfjmdpbhjnaaGreat
