/-
  ShelfPrimes: the law's function.
-/
import Derived.Test.YtgmmfjmdpbhjnaaGreatJRd
import Derived.Test.YtgmmfjmdpbhjnaaGreatLAppF
import Derived.Test.YtgmmfjmdpbhjnaaGreatLNuW
namespace Go.Proofs.YtgmmfjmdpbhjnaaGreat
open Go Go.RowKit

set_option maxHeartbeats 4000000 in
set_option maxRecDepth 100000 in
theorem shelfPrimes_ok (w : World) (n : Nat) (hn : n < 18446744073709551616) {rdy : Rdy} (hP : Played 123636697359731 6 rdy) (hR : rdy = ⟨2, priBd, [List.replicate 20 0, List.replicate 200 0]⟩) :
    Calls Tryz.prog 10 #[.int .u64 (n : Nat)] w fun e w' => e = .returned (.bool true) ∧ Below w.heap.size w w' := by
  subst hR
  have T := tellsAsk_of hP (nm := ⟨#[112, 114, 105, 109, 101, 115]⟩) (by kernel_rfl) (pri_means hn)
  have HT := Lib.hid T
  have HO := Lib.hid (show ∀ j, prO (j + 1) = if prB (j + 2) then prO j ++ (digs (j + 2) ++ [10]) else prO j from fun j => rfl)
  have HL := Lib.hid prO_len
  clear T hP
  obtain ⟨i0, hi, hz0, hz1, hz2⟩ := info_parts info_u8
  go_enter Tryz.func10, Tryz.ntmps10
  go_wp2_with fail
  go_loopw [3, 4] (fun lv vi wr => ∃ i : Nat, 2 ≤ i ∧ i ≤ 200 ∧ (i ≤ n + 1 ∨ i = 2) ∧ vi = .int .u64 (i : Nat) ∧ WantAt w wr lv (prO (i - 2))) (fun _ vi _ => 200 - (intOf vi).toNat)
  case atStart => exact ⟨2, by omega, by omega, .inr rfl, rfl, WantAt.nil w⟩
  case round =>
    obtain ⟨i, hi2, hi200, hin, rfl, hw⟩ := hrel
    have hend : ¬ (i ≤ n ∧ i < 200) → i - 2 = min (n - 1) 198 := fun h => by omega
    by_cases h1 : i ≤ n ∧ i < 200
    · have p1 : decide ((i : Int) ≤ n) = true := decide_eq_true (by omega)
      have p1' : decide (i ≤ n) = true := decide_eq_true (by omega)
      have p2 : decide ((i : Int) < 200) = true := decide_eq_true (by omega)
      have p2' : decide (i < 200) = true := decide_eq_true (by omega)
      have HW := Lib.hid hw
      clear hw hend
      go_wp2_with fail
      go_loopw [5, 6] (fun vp vk wr' => ∃ (k : Nat) (pb : Bool), 2 ≤ k ∧ k ≤ i ∧ vp = .bool pb ∧ vk = .int .u64 (k : Nat) ∧ Hid (pb = true ↔ ∀ d, 2 ≤ d → d < k → i % d ≠ 0) ∧ wr' = wr) (fun _ vk _ => i - (intOf vk).toNat)
      case atStart => exact ⟨2, true, by omega, by omega, rfl, rfl, Lib.hid ⟨fun _ d h1 h2 => by omega, fun _ => rfl⟩, rfl⟩
      case round =>
        obtain ⟨k, pb, hk2, hki, rfl, rfl, hpb, rfl⟩ := hrel
        by_cases hlt : k < i
        · have hls : decide ((k : Int) < i) = true := decide_eq_true (by omega)
          have hls' : decide (k < i) = true := decide_eq_true (by omega)
          have e1 := tm_nat i k
          cases pb with
          | false =>
            have HH : Hid (false = true ↔ ∀ d, 2 ≤ d → d < k + 1 → i % d ≠ 0) := Lib.hid ⟨fun h => (by cases h), fun h => hpb.out.2 fun d d1 d2 => h d d1 (by omega)⟩
            clear hpb
            go_wp2_with fail
            go_round
            case rel => exact ⟨k + 1, false, by omega, by omega, rfl, by go_num, HH, trivial⟩
            case measure => simp [intOf]; omega
          | true =>
            by_cases hm : i % k = 0
            · have HH : Hid (false = true ↔ ∀ d, 2 ≤ d → d < k + 1 → i % d ≠ 0) := Lib.hid ⟨fun h => (by cases h), fun h => absurd hm (h k hk2 (by omega))⟩
              rw [hm] at e1
              clear hpb hm
              go_wp2_with fail
              go_round
              case rel => exact ⟨k + 1, false, by omega, by omega, rfl, by go_num, HH, trivial⟩
              case measure => simp [intOf]; omega
            · have HH : Hid (true = true ↔ ∀ d, 2 ≤ d → d < k + 1 → i % d ≠ 0) := Lib.hid ⟨fun _ d d1 d2 => by
                by_cases hd : d = k
                · subst hd; exact hm
                · exact hpb.out.1 rfl d d1 (by omega), fun _ => rfl⟩
              have q1 : (((i % k : Nat) : Int) != 0) = true := by simp; omega
              have q2 : ((i : Int) % k != 0) = true := by
                have e : (i : Int) % k = ((i % k : Nat) : Int) := rfl
                rw [e]
                exact q1
              clear hpb hm
              go_wp2_with fail
              go_round
              case rel => exact ⟨k + 1, true, by omega, by omega, rfl, by go_num, HH, trivial⟩
              case measure => simp [intOf]; omega
        · obtain rfl : k = i := by omega
          have hls : decide ((k : Int) < k) = false := decide_eq_false (by omega)
          have hls' : decide (k < k) = false := decide_eq_false (by omega)
          obtain ⟨j, hj⟩ : ∃ j, j = k - 2 := ⟨_, rfl⟩
          have hkj : k = j + 2 := by omega
          have hO := HO.out j
          rw [← hkj] at hO
          have hpr : prB k = pb := by
            cases hb : prB k with
            | true => exact (hpb.out.2 ((prB_iff k).1 hb)).symm
            | false =>
              cases pb with
              | false => rfl
              | true => rw [(prB_iff k).2 (hpb.out.1 rfl)] at hb; cases hb
          rw [hpr] at hO
          have hw := HW.out
          rw [← hj] at hw
          have HNX := Lib.hid (show k + 1 - 2 = j + 1 by omega)
          have hj198 : j ≤ 198 := by omega
          clear hpb hpr
          cases pb with
          | false =>
            rw [if_neg (by decide)] at hO
            rw [← hO] at hw
            have HW2 := Lib.hid hw
            clear hw HW hO hj hkj
            go_wp2_with fail
            go_round
            case rel => exact ⟨k + 1, by omega, by omega, .inl (by omega), by go_num, by rw [HNX.out]; exact HW2.out⟩
            case measure => simp [intOf]; omega
          | true =>
            rw [if_pos rfl] at hO
            have HLN := line_ok k (by omega) wr
            have hlen := HL.out j (by omega)
            have hl2 := line_short (n := k) (by omega)
            have hl0 : 0 < (digs k ++ [10]).length := by simp
            have hlt' := line_lt k
            have HO2 := Lib.hid hO
            have HW2 := Lib.hid hw
            clear hO hw HW hj hkj
            generalize hln : digs k ++ [10] = ln at *
            clear hln
            generalize prO j = old at *
            go_wp2_with fail
            refine HLN.mono ?_
            rintro e w1 ⟨wa, wc, rfl, hbytes, hbl⟩
            have hw1 := HW2.out.later hbl
            have hown := hw1.own
            obtain ⟨_, b1, o1, hwa, _, _⟩ := hbytes 0 _ (List.getElem?_eq_getElem hl0)
            cases hwa
            have HC := Lib.hid (And.intro hbytes (And.intro hw1 hlt'))
            clear hbytes hw1 hbl HLN hlt'
            go_wp2_with (at_builtin; refine wpList_append_where rfl (.tmp 29) (.tmp 31) 22 rfl 5 i0 (.int .u8 0) 1 1 Tryz.underlying22 hi hz0 hz1 hz2 rfl (by decide) _ _ _ rfl hown ⟨b1, o1, none⟩ ln.length wc (bytes ln) rfl ?c1 ?c2 ?c3 ?c4 ?c5 ?_)
            case c1 => rw [bytes_len, Nat.mul_one]
            case c2 => exact bytes_cells HC.out.1
            case c3 => exact bytes_one ln
            case c4 => unfold maxLen; omega
            case c5 => omega
            intro lv' w3 hown' hgrow hwhere
            have HNEW := Lib.hid (HC.out.2.1.puts HC.out.2.2 hown' hgrow hwhere)
            clear hown' hgrow hwhere hown
            go_wp2_with fail
            go_round
            case rel => exact ⟨k + 1, by omega, by omega, .inl (by omega), by go_num, by rw [HNX.out, HO2.out]; exact HNEW.out⟩
            case measure => simp [intOf]; omega
    · have he := hend h1
      rw [he] at hw
      obtain ⟨wa, wc, hlv, hwn, hby⟩ := hw.bytes
      have HB0 := Lib.hid hw.below
      have HY0 := Lib.hid hby
      clear hw hend he hby
      generalize prO (min (n - 1) 198) = want at *
      obtain ⟨L, hL⟩ : ∃ L, L = want.length := ⟨_, rfl⟩
      have HLL := Lib.hid hL
      rw [← hL] at hlv hwn
      subst hlv
      clear hL
      by_cases hin' : i ≤ n
      · have p1 : decide ((i : Int) ≤ n) = true := decide_eq_true (by omega)
        have p1' : decide (i ≤ n) = true := decide_eq_true (by omega)
        have p2 : decide ((i : Int) < 200) = false := decide_eq_false (by omega)
        have p2' : decide (i < 200) = false := decide_eq_false (by omega)
        go_wp2_with fail
        refine (asked_ok [n] (by simp) _ _ _ (nums_one _ n hn _ _)).mono ?_
        rintro e w1 ⟨a1, c1, rfl, hy1, hb1⟩
        have hbb := below2 ((Below.refl _ wr).alloc (Nat.le_refl _) _) hb1
        have TT := HT.out w1 (some a1) wa c1 wc hy1 (HY0.out.below hbb) (fun h => by rw [← HLL.out]; exact hwn h)
        rw [← HLL.out] at TT
        have HY1 := Lib.hid (below2 HB0.out hbb)
        clear hy1 hb1 hbb
        go_wp2_with fail
        refine TT.mono ?_
        rintro e w3 ⟨rfl, hb3⟩
        have HY3 := Lib.hid (below2 HY1.out hb3)
        clear TT hb3
        go_wp2_with fail
        exact bodyPost_ret (v := .bool true) (by simp [results, Tryz.results10, go_sem]) rfl ⟨rfl, HY3.out⟩
      · have p1 : decide ((i : Int) ≤ n) = false := decide_eq_false (by omega)
        have p1' : decide (i ≤ n) = false := decide_eq_false (by omega)
        go_wp2_with fail
        refine (asked_ok [n] (by simp) _ _ _ (nums_one _ n hn _ _)).mono ?_
        rintro e w1 ⟨a1, c1, rfl, hy1, hb1⟩
        have hbb := below2 ((Below.refl _ wr).alloc (Nat.le_refl _) _) hb1
        have TT := HT.out w1 (some a1) wa c1 wc hy1 (HY0.out.below hbb) (fun h => by rw [← HLL.out]; exact hwn h)
        rw [← HLL.out] at TT
        have HY1 := Lib.hid (below2 HB0.out hbb)
        clear hy1 hb1 hbb
        go_wp2_with fail
        refine TT.mono ?_
        rintro e w3 ⟨rfl, hb3⟩
        have HY3 := Lib.hid (below2 HY1.out hb3)
        clear TT hb3
        go_wp2_with fail
        exact bodyPost_ret (v := .bool true) (by simp [results, Tryz.results10, go_sem]) rfl ⟨rfl, HY3.out⟩
end Go.Proofs.YtgmmfjmdpbhjnaaGreat
