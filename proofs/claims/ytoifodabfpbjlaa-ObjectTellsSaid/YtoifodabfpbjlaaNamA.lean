/- contract of asm.Named -/
import Derived.Test.YtoifodabfpbjlaaRows
import Derived.Test.YtoifodabfpbjlaaPlain
import Derived.Test.YtoifodabfpbjlaaBase
namespace Go.Proofs.Ytoifodabfpbjlaa
open Go.RowKit

/-- may this byte (as a number) stand at place i of a name? -/
def charOK (c : Nat) (i : Nat) : Bool := decide (97 ≤ c ∧ c ≤ 122 ∨ c = 95 ∨ c = 46 ∧ i = 0 ∨ i ≠ 0 ∧ 48 ≤ c ∧ c ≤ 57)
def charsOK (s : List UInt8) (k : Nat) : Prop := ∀ i, i < k → charOK (s.getD i 0).toNat i = true
instance (s : List UInt8) (k : Nat) : Decidable (charsOK s k) := by unfold charsOK; infer_instance
def namedM (s : List UInt8) : Bool := decide (1 ≤ s.length ∧ s.length ≤ 32 ∧ charsOK s s.length ∧ s ≠ [46])

theorem charOK_true {c i : Nat} (h : 97 ≤ c ∧ c ≤ 122 ∨ c = 95 ∨ c = 46 ∧ i = 0 ∨ i ≠ 0 ∧ 48 ≤ c ∧ c ≤ 57) : charOK c i = true := decide_eq_true h
theorem charOK_false {c i : Nat} (h : ¬ (97 ≤ c ∧ c ≤ 122 ∨ c = 95 ∨ c = 46 ∧ i = 0 ∨ i ≠ 0 ∧ 48 ≤ c ∧ c ≤ 57)) : charOK c i = false := decide_eq_false h
theorem charsOK_succ {s : List UInt8} {k : Nat} (h : charsOK s k) (hc : charOK (s.getD k 0).toNat k = true) : charsOK s (k + 1) := by
  intro i hi
  by_cases e : i = k
  · subst e; exact hc
  · exact h i (by omega)
theorem named_no {s : List UInt8} {k : Nat} (hk : k < s.length) (hc : charOK (s.getD k 0).toNat k = false) : namedM s = false := by
  unfold namedM
  refine decide_eq_false fun h => ?_
  have := h.2.2.1 k hk
  rw [hc] at this
  cases this

theorem named_all {s : List UInt8} (h1 : 1 ≤ s.length) (h2 : s.length ≤ 32) (h3 : charsOK s s.length) : namedM s = !(s == [46]) := by
  unfold namedM
  by_cases h : s = [46]
  · simp [h]
  · rw [decide_eq_true ⟨h1, h2, h3, h⟩]
    simp [h]

set_option maxHeartbeats 1000000 in
theorem named_any (s : ByteArray) (w : World) :
    Calls Try.prog 28 #[.string s] w fun e w' => e = .returned (.bool (namedM s.data.toList)) ∧ w = w' := by
  by_cases hlo : s.size < 1
  · go_enter Try.func28, Try.ntmps28
    go_wp2
    go_ret
    exact ⟨ret_bool (decide_eq_false fun h => by have := h.1; simp at this; omega).symm, rfl⟩
  · by_cases hhi : 32 < s.size
    · go_enter Try.func28, Try.ntmps28
      go_wp2
      go_ret
      exact ⟨ret_bool (decide_eq_false fun h => by have := h.2.1; simp at this; omega).symm, rfl⟩
    · go_enter Try.func28, Try.ntmps28
      go_wp2
      go_loop [3, 4, 5, 16] (fun _ _ _ i => ∃ k : Nat, k ≤ s.size ∧ i = .int .i64 k ∧ charsOK s.data.toList k) (fun _ _ _ i => s.size - (intOf i).toNat)
      case atStart => exact ⟨0, by omega, rfl, fun i hi => absurd hi (Nat.not_lt_zero _)⟩
      case round =>
        obtain ⟨k, hk, rfl, Hk⟩ := hrel
        by_cases hlt : k < s.size
        · have hcu : (s.data.toList.getD k 0).toNat = s[k].toNat := by
            rw [List.getD_eq_getElem?_getD, List.getElem?_eq_getElem (by simpa using hlt)]; rfl
          have hyes : charOK s[k].toNat k = true → Hid (charsOK s.data.toList (k + 1)) := fun h => charsOK_succ Hk (by rw [hcu]; exact h)
          have hno : charOK s[k].toNat k = false → Hid (namedM s.data.toList = false) := fun h => named_no (by simpa using hlt) (by rw [hcu]; exact h)
          clear hcu
          clear Hk
          by_cases hok : charOK s[k].toNat k = true
          · have H := hyes hok
            unfold charOK at hok
            have hok2 := of_decide_eq_true hok
            clear hyes hno hok
            have cls : (97 ≤ s[k].toNat ∧ s[k].toNat ≤ 122) ∨ s[k].toNat = 95 ∨ (s[k].toNat = 46 ∧ k = 0) ∨ (0 < k ∧ 48 ≤ s[k].toNat ∧ s[k].toNat ≤ 57) := by omega
            clear hok2
            rcases cls with ⟨c1, c2⟩ | c1 | ⟨c1, c2⟩ | ⟨c1, c2, c3⟩
            · have fa : decide ((97 : Int) ≤ (s[k].toNat : Int)) = true := decide_eq_true (by omega)
              have fb : decide ((s[k].toNat : Int) ≤ (122 : Int)) = true := decide_eq_true (by omega)
              clear c1 c2
              go_wp2
              go_round
              case rel => exact ⟨k + 1, by omega, by go_num, H.out⟩
              case measure => simp [intOf]; omega
            · have fa : decide ((97 : Int) ≤ (s[k].toNat : Int)) = false := decide_eq_false (by omega)
              have fc : ((s[k].toNat : Int) == (95 : Int)) = true := beq_iff_eq.2 (by omega)
              clear c1 
              go_wp2
              go_round
              case rel => exact ⟨k + 1, by omega, by go_num, H.out⟩
              case measure => simp [intOf]; omega
            · have fa : decide ((97 : Int) ≤ (s[k].toNat : Int)) = false := decide_eq_false (by omega)
              have fc : ((s[k].toNat : Int) == (95 : Int)) = false := t_ne (by omega)
              have fd : ((s[k].toNat : Int) == (46 : Int)) = true := beq_iff_eq.2 (by omega)
              have fe : ((k : Int) == (0 : Int)) = true := beq_iff_eq.2 (by omega)
              clear c1 c2
              go_wp2
              go_round
              case rel => exact ⟨k + 1, by omega, by go_num, H.out⟩
              case measure => simp [intOf]; omega
            · have fa : decide ((97 : Int) ≤ (s[k].toNat : Int)) = false := decide_eq_false (by omega)
              have fc : ((s[k].toNat : Int) == (95 : Int)) = false := t_ne (by omega)
              have fd : ((s[k].toNat : Int) == (46 : Int)) = false := t_ne (by omega)
              have fe : ((k : Int) == (0 : Int)) = false := t_ne (by omega)
              have ff : decide ((s[k].toNat : Int) < (48 : Int)) = false := decide_eq_false (by omega)
              have fg : decide ((57 : Int) < (s[k].toNat : Int)) = false := decide_eq_false (by omega)
              clear c1 c2 c3
              go_wp2
              go_round
              case rel => exact ⟨k + 1, by omega, by go_num, H.out⟩
              case measure => simp [intOf]; omega
          · have H := hno (by simpa using hok)
            unfold charOK at hok
            have hok2 := hok
            simp only [decide_eq_true_eq] at hok2
            clear hyes hno hok
            have cls : (k = 0 ∧ 122 < s[k].toNat) ∨ (k = 0 ∧ s[k].toNat < 97 ∧ ¬ s[k].toNat = 95 ∧ ¬ s[k].toNat = 46) ∨ (0 < k ∧ 122 < s[k].toNat) ∨
              (0 < k ∧ 57 < s[k].toNat ∧ s[k].toNat < 97 ∧ ¬ s[k].toNat = 95) ∨ (0 < k ∧ s[k].toNat < 48 ∧ ¬ s[k].toNat = 46) ∨ (0 < k ∧ s[k].toNat = 46) := by
              rcases Nat.eq_zero_or_pos k with h0 | h0
              · subst h0
                omega
              · omega
            clear hok2
            rcases cls with c1 | c1 | c1 | c1 | c1 | c1
            · have fa : decide ((97 : Int) ≤ (s[k].toNat : Int)) = true := decide_eq_true (by omega)
              have fb : decide ((s[k].toNat : Int) ≤ (122 : Int)) = false := decide_eq_false (by omega)
              have fc : ((s[k].toNat : Int) == (95 : Int)) = false := t_ne (by omega)
              have fd : ((s[k].toNat : Int) == (46 : Int)) = false := t_ne (by omega)
              have fe : ((k : Int) == (0 : Int)) = true := beq_iff_eq.2 (by omega)
              clear c1
              go_wp2
              go_ret
              exact ⟨ret_bool H.out.symm, rfl⟩
            · have fa : decide ((97 : Int) ≤ (s[k].toNat : Int)) = false := decide_eq_false (by omega)
              have fc : ((s[k].toNat : Int) == (95 : Int)) = false := t_ne (by omega)
              have fd : ((s[k].toNat : Int) == (46 : Int)) = false := t_ne (by omega)
              have fe : ((k : Int) == (0 : Int)) = true := beq_iff_eq.2 (by omega)
              clear c1
              go_wp2
              go_ret
              exact ⟨ret_bool H.out.symm, rfl⟩
            · have fa : decide ((97 : Int) ≤ (s[k].toNat : Int)) = true := decide_eq_true (by omega)
              have fb : decide ((s[k].toNat : Int) ≤ (122 : Int)) = false := decide_eq_false (by omega)
              have fc : ((s[k].toNat : Int) == (95 : Int)) = false := t_ne (by omega)
              have fd : ((s[k].toNat : Int) == (46 : Int)) = false := t_ne (by omega)
              have fe : ((k : Int) == (0 : Int)) = false := t_ne (by omega)
              have ff : decide ((s[k].toNat : Int) < (48 : Int)) = false := decide_eq_false (by omega)
              have fg : decide ((57 : Int) < (s[k].toNat : Int)) = true := decide_eq_true (by omega)
              clear c1
              go_wp2
              go_ret
              exact ⟨ret_bool H.out.symm, rfl⟩
            · have fa : decide ((97 : Int) ≤ (s[k].toNat : Int)) = false := decide_eq_false (by omega)
              have fc : ((s[k].toNat : Int) == (95 : Int)) = false := t_ne (by omega)
              have fd : ((s[k].toNat : Int) == (46 : Int)) = false := t_ne (by omega)
              have fe : ((k : Int) == (0 : Int)) = false := t_ne (by omega)
              have ff : decide ((s[k].toNat : Int) < (48 : Int)) = false := decide_eq_false (by omega)
              have fg : decide ((57 : Int) < (s[k].toNat : Int)) = true := decide_eq_true (by omega)
              clear c1
              go_wp2
              go_ret
              exact ⟨ret_bool H.out.symm, rfl⟩
            · have fa : decide ((97 : Int) ≤ (s[k].toNat : Int)) = false := decide_eq_false (by omega)
              have fc : ((s[k].toNat : Int) == (95 : Int)) = false := t_ne (by omega)
              have fd : ((s[k].toNat : Int) == (46 : Int)) = false := t_ne (by omega)
              have fe : ((k : Int) == (0 : Int)) = false := t_ne (by omega)
              have ff : decide ((s[k].toNat : Int) < (48 : Int)) = true := decide_eq_true (by omega)
              clear c1
              go_wp2
              go_ret
              exact ⟨ret_bool H.out.symm, rfl⟩
            · have fa : decide ((97 : Int) ≤ (s[k].toNat : Int)) = false := decide_eq_false (by omega)
              have fc : ((s[k].toNat : Int) == (95 : Int)) = false := t_ne (by omega)
              have fd : ((s[k].toNat : Int) == (46 : Int)) = true := beq_iff_eq.2 (by omega)
              have fe : ((k : Int) == (0 : Int)) = false := t_ne (by omega)
              have ff : decide ((s[k].toNat : Int) < (48 : Int)) = true := decide_eq_true (by omega)
              clear c1
              go_wp2
              go_ret
              exact ⟨ret_bool H.out.symm, rfl⟩
        · obtain rfl : k = s.size := by omega
          go_wp2
          go_ret
          refine ⟨ret_bool ?_, rfl⟩
          rw [named_all (by simp; omega) (by simp; omega) (by simpa using Hk)]
          simp [ByteArray.toList_eq]
end Go.Proofs.Ytoifodabfpbjlaa
