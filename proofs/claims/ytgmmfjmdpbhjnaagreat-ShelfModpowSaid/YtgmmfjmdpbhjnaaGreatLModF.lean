/-
  ShelfModpow: the law's function.
-/
import Derived.Test.YtgmmfjmdpbhjnaaGreatJRd
import Derived.Test.YtgmmfjmdpbhjnaaGreatLTrpF
import Derived.Test.YtgmmfjmdpbhjnaaGreatLPowF
import Derived.Test.YtgmmfjmdpbhjnaaGreatLNuT
namespace Go.Proofs.YtgmmfjmdpbhjnaaGreat
open Go Go.RowKit

/-! ### FERMAT, at 65537: each rest is tried -/
def fq (x : Nat) : Nat := x * x % 65537
def fqI : Nat → Nat → Nat
  | 0, x => x
  | k + 1, x => fqI k (fq x)
noncomputable def frm (x : Nat) : Bool := Nat.beq (Nat.mod (Nat.mul (Nat.rec (motive := fun _ => Nat → Nat) (fun y => y) (fun _ ih y => ih (Nat.mod (Nat.mul y y) 65537)) 16 x) x) 65537) x
noncomputable def frmA (lo : Nat) (k : Nat) : Bool := Nat.rec (motive := fun _ => Bool) true (fun k ih => cond (frm (Nat.add lo k)) ih false) k
theorem frmA_ok (lo : Nat) : ∀ k, frmA lo k = true → ∀ i, i < k → frm (lo + i) = true
  | 0, _, i, hi => absurd hi (Nat.not_lt_zero i)
  | k + 1, h, i, hi => by
    replace h : cond (frm (lo + k)) (frmA lo k) false = true := h
    cases hb : frm (lo + k) with
    | false => rw [hb] at h; cases h
    | true =>
      rw [hb] at h
      by_cases e : i = k
      · subst e; exact hb
      · exact frmA_ok lo k h i (by omega)
theorem frm_0 : frmA 0 16384 = true := by kernel_rfl
theorem frm_1 : frmA 16384 16384 = true := by kernel_rfl
theorem frm_2 : frmA 32768 16384 = true := by kernel_rfl
theorem frm_3 : frmA 49152 16385 = true := by kernel_rfl
theorem frm_all {x : Nat} (h : x < 65537) : frm x = true := by
  have : x < 16384 ∨ (16384 ≤ x ∧ x < 32768) ∨ (32768 ≤ x ∧ x < 49152) ∨ (49152 ≤ x) := by omega
  rcases this with h1 | h1 | h1 | h1
  · have := frmA_ok 0 16384 frm_0 x h1
    rwa [Nat.zero_add] at this
  · have := frmA_ok 16384 16384 frm_1 (x - 16384) (by omega)
    rwa [show 16384 + (x - 16384) = x by omega] at this
  · have := frmA_ok 32768 16384 frm_2 (x - 32768) (by omega)
    rwa [show 32768 + (x - 32768) = x by omega] at this
  · have := frmA_ok 49152 16385 frm_3 (x - 49152) (by omega)
    rwa [show 49152 + (x - 49152) = x by omega] at this
theorem fqI_pow : ∀ (k x : Nat), fqI k x % 65537 = x ^ 2 ^ k % 65537
  | 0, x => by show x % 65537 = x ^ 1 % 65537; rw [Nat.pow_one]
  | k + 1, x => by
    show fqI k (fq x) % 65537 = _
    rw [fqI_pow k (fq x)]
    unfold fq
    rw [← Nat.pow_mod, ← Nat.pow_two, ← Nat.pow_mul, Nat.pow_succ']
theorem fermat (a e : Nat) (he : e = 65537) : a ^ e % 65537 = a % 65537 := by
  have hx := Nat.mod_lt a (show 65537 > 0 by decide)
  rw [Nat.pow_mod]
  generalize a % 65537 = x at *
  have h := Nat.eq_of_beq_eq_true (frm_all hx)
  have h2 : fqI 16 x * x % 65537 = x := h
  obtain ⟨f, hf⟩ : ∃ f, f = 2 ^ 16 := ⟨_, rfl⟩
  have h3 := fqI_pow 16 x
  rw [← hf] at h3
  have h4 : e = f + 1 := by rw [hf, he]
  rw [h4, Nat.pow_succ, Nat.mul_mod, ← h3, ← Nat.mul_mod]
  exact h2
/-- a power by bits from above, as a rest -/
theorem mp_next (a b M j : Nat) : (a ^ (b / 2 ^ (j + 1)) % M) * (a ^ (b / 2 ^ (j + 1)) % M) % M = a ^ (2 * (b / 2 ^ (j + 1))) % M := by
  rw [← Nat.mul_mod, ← Nat.pow_add, ← Nat.two_mul]

set_option maxHeartbeats 4000000 in
set_option maxRecDepth 100000 in
theorem shelfModpow_ok (w : World) (a b m : Nat) (ha : a < 18446744073709551616) (hb : b < 18446744073709551616) (_ : m < 18446744073709551616) {rdy : Rdy} (hP : Played 120325193887607 6 rdy) (hR : rdy = ⟨2, mpBd, [List.replicate 20 0]⟩) :
    Calls Tryz.prog 15 #[.int .u64 (a : Nat), .int .u64 (b : Nat), .int .u64 (m : Nat)] w fun e w' => e = .returned (.bool true) ∧ Below w.heap.size w w' := by
  subst hR
  obtain ⟨M, hM⟩ : ∃ M, M = m % 4294967296 := ⟨_, rfl⟩
  have hM32 : M < 4294967296 := by rw [hM]; exact Nat.mod_lt _ (by decide)
  have e0 : (m : Int).tmod 4294967296 = (M : Int) := by rw [hM]; exact tm_nat m 4294967296
  have hM64 : M < 18446744073709551616 := by omega
  clear hM
  have hb0 := Below.refl w.heap.size w
  by_cases h0 : M = 0
  · have TT : TrapsAsk ⟨#[109, 111, 100, 112, 111, 119]⟩ [a, b, 0] 1 := trapsAsk_of hP (by kernel_rfl) (by
      have := askL_len [a, b, 0] (fun v hv => by
        rcases List.mem_cons.1 hv with h | hv
        · rw [h]; exact ha
        · rcases List.mem_cons.1 hv with h | hv
          · rw [h]; exact hb
          · have : v = 0 := by simpa using hv
            omega)
      simp at this
      omega) (modpow_traps ha hb)
    have HTR := Lib.hid TT
    clear TT hP
    subst h0
    have HB0 := Lib.hid hb0
    clear hb0
    go_enter Tryz.func15, Tryz.ntmps15
    go_wp2_with fail
    refine (asked_ok [a, b, 0] (by simp) _ _ _ (nums_three _ a b 0 ha hb (by decide) _ _)).mono ?_
    rintro e w1 ⟨a1, c1, rfl, hy1, hb1⟩
    have TR := HTR.out w1 (some a1) c1 hy1
    have HY1 := Lib.hid (below2 (HB0.out.alloc HB0.out.size _) hb1)
    clear hy1 hb1
    go_wp2_with fail
    refine TR.mono ?_
    rintro e w2 ⟨sa, sc, rd, tk, res, rfl, hb2⟩
    have HY2 := Lib.hid (below2 HY1.out hb2)
    clear hb2 TR
    go_wp2_with fail
    exact bodyPost_ret (v := .bool true) (by simp [results, Tryz.results15, go_sem]) rfl ⟨rfl, HY2.out.alloc HY2.out.size _⟩
  · have hM0 : 0 < M := by omega
    have T := tellsAsk_of hP (nm := ⟨#[109, 111, 100, 112, 111, 119]⟩) (by kernel_rfl) (modpow_means ha hb hM32 hM0)
    have HT := Lib.hid T
    have p0 : ((M : Int) == 0) = false := t_ne (by omega)
    have e1 := tm_nat 1 M
    have e1' : (1 : Int).tmod M = ((1 % M : Nat) : Int) := e1
    clear T hP
    go_enter Tryz.func15, Tryz.ntmps15
    go_wp2_with fail
    go_loopw [9, 10] (fun va vk wr => ∃ j x : Nat, j ≤ 64 ∧ va = .int .u64 (x : Nat) ∧ vk = .int .i64 ((j : Int) - 1) ∧ x < M ∧ Hid (x = a ^ (b / 2 ^ j) % M) ∧ Below w.heap.size w wr) (fun _ vk _ => (intOf vk + 1).toNat)
    case atStart => exact ⟨64, 1 % M, Nat.le_refl _, rfl, rfl, Nat.mod_lt _ hM0, Lib.hid (by rw [Nat.div_eq_of_lt hb, Nat.pow_zero]), hb0⟩
    case round =>
      clear hb0
      obtain ⟨j, x, hj, rfl, rfl, hx, hX, hb0⟩ := hrel
      cases j with
      | zero =>
        have hxe : x = a ^ b % M := by rw [hX.out, Nat.pow_zero, Nat.div_one]
        rw [← hxe] at HT
        have hls : decide ((0 : Int) ≤ ((0 : Nat) : Int) - 1) = false := rfl
        have hx64 : x < 18446744073709551616 := by omega
        have e2 := tm_nat a M
        by_cases hp : M = 65537
        · by_cases hbm : b = M
          · have hf : x = a % M := by rw [hxe, hp]; exact fermat a b (by omega)
            rw [← hf] at e2
            clear hxe hX hf e1 e1' p0 hM32 hM64
            subst hp
            subst hbm
            have e2' : (a : Int).tmod 65537 = (x : Int) := e2
            have e2'' : (a : Int) % 65537 = (x : Int) := by rw [← e2', Int.tmod_eq_emod_of_nonneg (by omega)]
            clear e2
            have HL0 := Lib.hid (line_ok (x) hx64)
            generalize digs x ++ [10] = want at *
            have HB0 := Lib.hid hb0
            clear hb0
            go_wp2_with fail
            refine (asked_ok [a, 65537, 65537] (by simp) _ _ _ (nums_three _ a 65537 65537 ha (by decide) (by decide) _ _)).mono ?_
            rintro e w1 ⟨a1, c1, rfl, hy1, hb1⟩
            have HL := HL0.out w1
            have HY1 := Lib.hid (And.intro hy1 (below2 (HB0.out.alloc HB0.out.size _) hb1))
            clear hy1 hb1
            go_wp2_with fail
            refine HL.mono ?_
            rintro e w2 ⟨a2, c2, rfl, hy2, hb2⟩
            have TT := HT.out w2 (some a1) (some a2) c1 c2 (HY1.out.1.below hb2) hy2 (fun e => by cases e)
            have HY2 := Lib.hid (below2 HY1.out.2 hb2)
            clear hy2 hb2 HL
            go_wp2_with fail
            refine TT.mono ?_
            rintro e w3 ⟨rfl, hb3⟩
            have HY3 := Lib.hid (below2 HY2.out hb3)
            clear TT hb3
            go_wp2_with fail
            exact bodyPost_ret (v := .bool true) (by simp [results, Tryz.results15, go_sem]) rfl ⟨rfl, HY3.out⟩
          · have q2 : ((b : Int) == (M : Int)) = false := t_ne (by omega)
            clear hxe hX e1 e1' p0 hM32 hM64 q2
            subst hp
            have q2 : ((b : Int) == 65537) = false := t_ne (by omega)
            have HL0 := Lib.hid (line_ok (x) hx64)
            generalize digs x ++ [10] = want at *
            have HB0 := Lib.hid hb0
            clear hb0
            go_wp2_with fail
            refine (asked_ok [a, b, 65537] (by simp) _ _ _ (nums_three _ a b 65537 ha hb (by decide) _ _)).mono ?_
            rintro e w1 ⟨a1, c1, rfl, hy1, hb1⟩
            have HL := HL0.out w1
            have HY1 := Lib.hid (And.intro hy1 (below2 (HB0.out.alloc HB0.out.size _) hb1))
            clear hy1 hb1
            go_wp2_with fail
            refine HL.mono ?_
            rintro e w2 ⟨a2, c2, rfl, hy2, hb2⟩
            have TT := HT.out w2 (some a1) (some a2) c1 c2 (HY1.out.1.below hb2) hy2 (fun e => by cases e)
            have HY2 := Lib.hid (below2 HY1.out.2 hb2)
            clear hy2 hb2 HL
            go_wp2_with fail
            refine TT.mono ?_
            rintro e w3 ⟨rfl, hb3⟩
            have HY3 := Lib.hid (below2 HY2.out hb3)
            clear TT hb3
            go_wp2_with fail
            exact bodyPost_ret (v := .bool true) (by simp [results, Tryz.results15, go_sem]) rfl ⟨rfl, HY3.out⟩
        · have q1 : ((M : Int) == 65537) = false := t_ne (by omega)
          clear hxe hX e1 e1'
          have HL0 := Lib.hid (line_ok (x) hx64)
          generalize digs x ++ [10] = want at *
          have HB0 := Lib.hid hb0
          clear hb0
          go_wp2_with fail
          refine (asked_ok [a, b, M] (by simp) _ _ _ (nums_three _ a b M ha hb hM64 _ _)).mono ?_
          rintro e w1 ⟨a1, c1, rfl, hy1, hb1⟩
          have HL := HL0.out w1
          have HY1 := Lib.hid (And.intro hy1 (below2 (HB0.out.alloc HB0.out.size _) hb1))
          clear hy1 hb1
          go_wp2_with fail
          refine HL.mono ?_
          rintro e w2 ⟨a2, c2, rfl, hy2, hb2⟩
          have TT := HT.out w2 (some a1) (some a2) c1 c2 (HY1.out.1.below hb2) hy2 (fun e => by cases e)
          have HY2 := Lib.hid (below2 HY1.out.2 hb2)
          clear hy2 hb2 HL
          go_wp2_with fail
          refine TT.mono ?_
          rintro e w3 ⟨rfl, hb3⟩
          have HY3 := Lib.hid (below2 HY2.out hb3)
          clear TT hb3
          go_wp2_with fail
          exact bodyPost_ret (v := .bool true) (by simp [results, Tryz.results15, go_sem]) rfl ⟨rfl, HY3.out⟩
      | succ j =>
        have ej : ((j + 1 : Nat) : Int) - 1 = (j : Int) := by omega
        rw [ej]
        have hls : decide ((0 : Int) ≤ (j : Int)) = true := decide_eq_true (by omega)
        obtain ⟨q, hq⟩ : ∃ q, q = b / 2 ^ j := ⟨_, rfl⟩
        have e2 : (b : Int) / 2 ^ j = (q : Int) := by rw [hq]; push_cast; rfl
        have hqb : q ≤ b := by rw [hq]; exact Nat.div_le_self _ _
        have e3 : bits .and .u64 (q : Int) 1 = ((q % 2 : Nat) : Int) := by
          have := u64_and_nat q 1 (by omega) (by omega)
          rw [Nat.and_one_is_mod] at this
          exact this
        have HN := mp_next a b M j
        have HH := half_next b j
        rw [← hq] at HH
        rw [← hX.out] at HN
        obtain ⟨xx, hxx⟩ : ∃ xx, xx = x * x := ⟨_, rfl⟩
        have hxxl : xx < 18446744073709551616 := by rw [hxx]; exact mp_mul hx hx hM32
        have w1 := wr_mfit x x xx hxx.symm hxxl
        obtain ⟨y, hy⟩ : ∃ y, y = xx % M := ⟨_, rfl⟩
        have hyM : y < M := by rw [hy]; exact Nat.mod_lt _ hM0
        have e4 := tm_nat xx M
        rw [← hxx, ← hy] at HN
        rw [← hy] at e4
        by_cases hb1 : q % 2 = 1
        · have q1 : (((q % 2 : Nat) : Int) == 1) = true := by rw [hb1]; rfl
          obtain ⟨c, hc⟩ : ∃ c, c = a % M := ⟨_, rfl⟩
          have hcM : c < M := by rw [hc]; exact Nat.mod_lt _ hM0
          have e5 := tm_nat a M
          rw [← hc] at e5
          obtain ⟨yc, hyc⟩ : ∃ yc, yc = y * c := ⟨_, rfl⟩
          have hycl : yc < 18446744073709551616 := by rw [hyc]; exact mp_mul hyM hcM hM32
          have w2 := wr_mfit y c yc hyc.symm hycl
          have e6 := tm_nat yc M
          have hzM : yc % M < M := Nat.mod_lt _ hM0
          have HR := Lib.hid (show yc % M = a ^ (b / 2 ^ j) % M by
            rw [← hq, HH, hb1, Nat.pow_succ, Nat.mul_mod, ← HN, hyc, hc, ← Nat.mul_mod_mod])
          clear HN HH hq hb1 hyc hc hy hxx hX
          go_wp2_with fail
          go_round
          case rel => exact ⟨j, yc % M, by omega, by simp, rfl, hzM, HR, hb0⟩
          case measure => simp [intOf]
        · have q1 : (((q % 2 : Nat) : Int) == 1) = false := t_ne (by omega)
          have HR := Lib.hid (show y = a ^ (b / 2 ^ j) % M by
            rw [← hq, HH, show q % 2 = 0 by omega, Nat.add_zero, HN])
          clear HN HH hq hb1 hy hxx hX
          go_wp2_with fail
          go_round
          case rel => exact ⟨j, y, by omega, rfl, rfl, hyM, HR, hb0⟩
          case measure => simp [intOf]
end Go.Proofs.YtgmmfjmdpbhjnaaGreat
