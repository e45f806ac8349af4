/-
  Texts joined: Xq Xr.
-/
import Derived.Test.YtiflcnlnlkegaaaGreatJMc
import Derived.Test.YtiflcnlnlkegaaaGreatXks
import Derived.Test.YtiflcnlnlkegaaaGreatRows
import Derived.WalkKit
import Derived.WalkSpells
import Derived.WalkLawsBesides
import Derived.Recover
import Derived.Test.YtiflcnlnlkegaaaGreatShelf
/-
  Contracts that stand in for the code of small functions.
-/
namespace Go.Proofs.YtiflcnlnlkegaaaGreat
open Go Go.RowKit Go.XM

theorem ret_b {a b : Bool} (h : a = b) : Ending.returned (.bool a) = .returned (.bool b) := by rw [h]
def letterN (c : Nat) : Bool := decide (97 ≤ c ∧ c ≤ 122) || decide (65 ≤ c ∧ c ≤ 90) || decide (c = 95)
def digitN (c : Nat) : Bool := decide (48 ≤ c ∧ c ≤ 57)
theorem letter_ok (c : Nat) (w : World) : Calls Tryz.prog 33 #[.int .u8 c] w fun e w' => e = .returned (.bool (letterN c)) ∧ w = w' := by
  go_enter Tryz.func33, Tryz.ntmps33
  go_wp2_with fail
  all_goals
    go_ret
    exact ⟨ret_b (by unfold letterN; rw [Bool.eq_iff_iff]; simp; omega), rfl⟩
theorem digit_ok (c : Nat) (w : World) : Calls Tryz.prog 34 #[.int .u8 c] w fun e w' => e = .returned (.bool (digitN c)) ∧ w = w' := by
  go_enter Tryz.func34, Tryz.ntmps34
  go_wp2_with fail
  all_goals
    go_ret
    exact ⟨ret_b (by unfold digitN; rw [Bool.eq_iff_iff]; simp; omega), rfl⟩
theorem tl_beq (a b : ByteArray) : (a.toList == b.toList) = (a == b) := by
  rw [ba_beq]
  by_cases h : a = b
  · subst h; simp
  · rw [decide_eq_false h]
    exact beq_eq_false_iff_ne.2 fun k => h (ba_ext (by rw [← ByteArray.toList_eq, ← ByteArray.toList_eq]; exact k))
theorem prefix0_ok (s p : ByteArray) (w : World) : Calls Tryz.prog 54 #[.string s, .string p] w fun e w' => e = .returned (.bool (decide (p.size ≤ s.size) && (s.extract 0 p.size == p))) ∧ w = w' := by
  by_cases h : p.size ≤ s.size
  · have h1 : decide ((p.size : Int) ≤ s.size) = true := decide_eq_true (by omega)
    have h2 : decide (p.size ≤ s.size) = true := decide_eq_true h
    go_enter Tryz.func54, Tryz.ntmps54
    go_wp2_with fail
    all_goals
      go_ret
      refine ⟨ret_b ?_, rfl⟩
      rw [h2, Bool.true_and]; exact tl_beq _ _
  · have h1 : decide ((p.size : Int) ≤ s.size) = false := decide_eq_false (by omega)
    have h2 : decide (p.size ≤ s.size) = false := decide_eq_false h
    go_enter Tryz.func54, Tryz.ntmps54
    go_wp2_with fail
    all_goals
      go_ret
      refine ⟨ret_b ?_, rfl⟩
      rw [h2]; rfl
theorem prefix_ok (s p : ByteArray) (w : World) : Calls Tryz.prog 31 #[.string s, .string p] w fun e w' => e = .returned (.bool (decide (p.size ≤ s.size) && (s.extract 0 p.size == p))) ∧ w = w' := by
  have H := prefix0_ok s p w
  go_enter Tryz.func31, Tryz.ntmps31
  go_wp2_with fail
  refine H.mono ?_
  rintro e w' ⟨rfl, rfl⟩
  clear H
  go_wp2_with fail
  go_ret
  exact ⟨rfl, rfl⟩

/-- a letter -/
noncomputable def iLetter (h : Hp) (l : List V) : Option (V × Hp) :=
  match l with
  | [x] => ob (asI x) fun y => match y.2 with
    | .ofNat c => oif (keq y.1 .u8) (some (.a (.s (.bo (or (or (and (Nat.ble 97 c) (Nat.ble c 122)) (and (Nat.ble 65 c) (Nat.ble c 90))) (Nat.beq c 95)))), h))
    | .negSucc _ => none
  | _ => none
noncomputable def iDigit (h : Hp) (l : List V) : Option (V × Hp) :=
  match l with
  | [x] => ob (asI x) fun y => match y.2 with
    | .ofNat c => oif (keq y.1 .u8) (some (.a (.s (.bo (and (Nat.ble 48 c) (Nat.ble c 57)))), h))
    | .negSucc _ => none
  | _ => none
noncomputable def iPrefix (h : Hp) (l : List V) : Option (V × Hp) :=
  match l with
  | [x, y] => ob (asStr x) fun a => ob (asStr y) fun b => some (.a (.s (.bo (Bool.rec false (Nat.beq (Nat.div a.1 (Nat.pow 256 (Nat.sub a.2 b.2))) b.1) (Nat.ble b.2 a.2)))), h)
  | _ => none
noncomputable def iRecover (h : Hp) (l : List V) : Option (V × Hp) :=
  match l with
  | [_, _] => some (.tup [], h)
  | _ => none
theorem read1_ok (a b : Value) (w : World) : CallsD Tryz.prog 15 #[a, b] .returning w fun e u' w' => u' = .returning ∧ e = .returned (.tuple #[]) ∧ w = w' := by
  refine callsD_of_wpS Tryz.func15 rfl fun c₀ cs hu => ?_
  apply wpS_seq
  apply wpS_region
  simp [wpOpsS, go_sem, recoverD, hu, Tryz.ntmps15, Exit.thenS]
  refine wpS_of_wp ?_
  go_wp2_with fail
  all_goals
    cases c₀
    simp_all [bodyPostS, results, Tryz.results15]

/-- small functions by their contracts -/
noncomputable def intr (off : Bool) (f : Nat) : Option (Hp → List V → Option (V × Hp)) :=
  Bool.rec (Bool.rec (Bool.rec (Bool.rec none (some iPrefix) (Nat.beq f 31)) (some iDigit) (Nat.beq f 34)) (some iLetter) (Nat.beq f 33))
    (Bool.rec none (some iRecover) (Nat.beq f 15)) off
theorem isFn_of {f : Nat} {fn : Func} (h : Tryz.prog.funcs[f]? = some fn) (h1 : (fn.name == "runtime.NumGoroutine") = false) (h2 : fn.body.isNone = false) : isFn Tryz.prog f := ⟨fn, h, h1, h2⟩
theorem pure_ok {f : Nat} {us : List Value} {u : Value} {U : UU} {w0 : World} {prot : PP} {m : M} {h : Hp} {w : World} {v : V} (hr : Rel U w0 prot m h w) (hv : v.den U m = some u)
    (hc : Calls Tryz.prog f us.toArray w fun e w' => e = .returned u ∧ w = w') : Calls Tryz.prog f us.toArray w (fun e w' => ∃ m' u, e = .returned u ∧ m.le m' ∧ Rel U w0 prot m' h w' ∧ v.den U m' = some u) :=
  hc.mono fun e w' he => by
    obtain ⟨rfl, rfl⟩ := he
    exact ⟨m, u, rfl, M.le_refl m, hr, hv⟩
theorem den1 {U : UU} {m : M} {x : V} {us : List Value} (h : denVL U m [x] = some us) : ∃ u, x.den U m = some u ∧ us = [u] := by
  obtain ⟨u, q, h1, h2, rfl⟩ := denVL_cons h
  cases h2; exact ⟨u, h1, rfl⟩
theorem den2 {U : UU} {m : M} {x y : V} {us : List Value} (h : denVL U m [x, y] = some us) : ∃ u v, x.den U m = some u ∧ y.den U m = some v ∧ us = [u, v] := by
  obtain ⟨u, q, h1, h2, rfl⟩ := denVL_cons h
  obtain ⟨v, h3, rfl⟩ := den1 h2
  exact ⟨u, v, h1, h3, rfl⟩
theorem intr_ok : IntrOK Tryz.prog intr := by
  intro off f g U w0 prot m h w args us r hI hr hd e
  unfold intr at hI
  cases off with
  | true =>
    have hI : (Bool.rec none (some iRecover) (Nat.beq f 15) : Option (Hp → List V → Option (V × Hp))) = some g := hI
    cases hb : Nat.beq f 15 with
    | false => rw [hb] at hI; cases hI
    | true =>
      rw [hb] at hI
      cases hI
      have := Nat.eq_of_beq_eq_true hb; subst this
      unfold iRecover at e
      split at e
      · cases e
        obtain ⟨a, b, h1, h2, rfl⟩ := den2 hd
        refine ⟨isFn_of Tryz.func15 (by kernel_rfl) (by kernel_rfl), (fun h => by cases h), fun _ => ?_⟩
        refine (read1_ok a b w).mono fun e u' w' he => ?_
        obtain ⟨rfl, rfl, rfl⟩ := he
        exact ⟨rfl, m, .tuple #[], rfl, M.le_refl m, hr, rfl⟩
      · cases e
  | false =>
    have hI : (Bool.rec (Bool.rec (Bool.rec none (some iPrefix) (Nat.beq f 31)) (some iDigit) (Nat.beq f 34)) (some iLetter) (Nat.beq f 33) : Option (Hp → List V → Option (V × Hp))) = some g := hI
    cases hb : Nat.beq f 33 with
    | true =>
      rw [hb] at hI
      cases hI
      have := Nat.eq_of_beq_eq_true hb; subst this
      unfold iLetter at e
      split at e
      · rw [ob_eq] at e
        obtain ⟨y, e1, e⟩ := e
        have := asI_ok e1; subst this
        obtain ⟨u, h1, rfl⟩ := den1 hd
        have := den_int h1; subst this
        split at e
        · rename_i c hc
          obtain ⟨e2, e⟩ := oif_some e
          cases e
          rw [keq_ok e2, hc]
          refine ⟨isFn_of Tryz.func33 (by kernel_rfl) (by kernel_rfl), (fun _ => pure_ok hr (u := .bool (letterN c)) ?_ (letter_ok c w)), fun h => by cases h⟩
          show some (Value.bool _) = some (Value.bool _)
          congr 2
          unfold letterN
          rw [Bool.eq_iff_iff]; simp
        · cases e
      · cases e
    | false =>
    rw [hb] at hI
    cases hb : Nat.beq f 34 with
    | true =>
      rw [hb] at hI
      cases hI
      have := Nat.eq_of_beq_eq_true hb; subst this
      unfold iDigit at e
      split at e
      · rw [ob_eq] at e
        obtain ⟨y, e1, e⟩ := e
        have := asI_ok e1; subst this
        obtain ⟨u, h1, rfl⟩ := den1 hd
        have := den_int h1; subst this
        split at e
        · rename_i c hc
          obtain ⟨e2, e⟩ := oif_some e
          cases e
          rw [keq_ok e2, hc]
          refine ⟨isFn_of Tryz.func34 (by kernel_rfl) (by kernel_rfl), (fun _ => pure_ok hr (u := .bool (digitN c)) ?_ (digit_ok c w)), fun h => by cases h⟩
          show some (Value.bool _) = some (Value.bool _)
          congr 2
          unfold digitN
          rw [Bool.eq_iff_iff]; simp
        · cases e
      · cases e
    | false =>
    rw [hb] at hI
    cases hb : Nat.beq f 31 with
    | false => rw [hb] at hI; cases hI
    | true =>
      rw [hb] at hI
      cases hI
      have := Nat.eq_of_beq_eq_true hb; subst this
      unfold iPrefix at e
      split at e
      · simp only [ob_eq] at e
        obtain ⟨a, e1, b, e2, e⟩ := e
        have := asStr_ok e1; subst this
        have := asStr_ok e2; subst this
        obtain ⟨u, v, h1, h2, rfl⟩ := den2 hd
        obtain ⟨l1, rfl⟩ := den_strE (U := U) (m := m) h1
        obtain ⟨l2, rfl⟩ := den_strE (U := U) (m := m) h2
        cases e
        refine ⟨isFn_of Tryz.func31 (by kernel_rfl) (by kernel_rfl), (fun _ => pure_ok hr ?_ (prefix_ok (unB a.1 a.2) (unB b.1 b.2) w)), fun h => by cases h⟩
        show some (Value.bool _) = some (Value.bool _)
        congr 2
        rw [unB_size, unB_size]
        cases hle : Nat.ble b.2 a.2 with
        | false =>
          have : ¬ b.2 ≤ a.2 := fun h => by
            have h' : Nat.ble b.2 a.2 = true := by rw [Nat.ble_eq]; exact h
            rw [h'] at hle; cases hle
          rw [decide_eq_false this]; rfl
        | true =>
          have hle : b.2 ≤ a.2 := by rw [Nat.ble_eq] at hle; exact hle
          rw [decide_eq_true hle, Bool.true_and, unB_extract _ _ _ _ (Nat.zero_le _) hle, Nat.sub_zero]
          have hm : a.1 / 256 ^ (a.2 - b.2) < 256 ^ b.2 := by
            rw [Nat.div_lt_iff_lt_mul (Nat.pow_pos (by omega)), ← Nat.pow_add]
            have : b.2 + (a.2 - b.2) = a.2 := by omega
            rw [this]; exact l1
          rw [Nat.mod_eq_of_lt hm, ← str_sameB hm l2, Nat.beq_refl, Bool.true_and]
          rfl
      · cases e
noncomputable def TT (f : Nat) : Option Func := Tryz.prog.funcs[f]?
/-- THE MACHINE ON PAPER, FOR THIS PROGRAM: so many calls deep. -/
noncomputable def runX (k : Nat) : CF := xcall (xreg Tryz.prog) Tryz.prog TT ks intr 100000 k
theorem runX_ok (k : Nat) : CallOK Tryz.prog (runX k) := xcall_ok (fun _ h => xreg_ok Tryz.checked.mixed h) (fun _ _ h => h) intr_ok k
end Go.Proofs.YtiflcnlnlkegaaaGreat

/-
  The machine on paper, with strings.Compare by its contract.
-/
namespace Go.Proofs.YtiflcnlnlkegaaaGreat
open Go Go.RowKit Go.XM

noncomputable def iCompare (h : Hp) (l : List V) : Option (V × Hp) :=
  match l with
  | [x, y] => ob (asStr x) fun a => ob (asStr y) fun b => forceI (Lib.compareBytes (unL a.1 a.2) (unL b.1 b.2)) fun n => some (.a (.s (.i .i64 n)), h)
  | _ => none
/-- small functions by their contracts, strings.Compare too -/
noncomputable def intrC (off : Bool) (f : Nat) : Option (Hp → List V → Option (V × Hp)) :=
  Bool.rec (Bool.rec (intr false f) (some iCompare) (Nat.beq f 29)) (intr true f) off
theorem intrC_ok : IntrOK Tryz.prog intrC := by
  intro off f g U w0 prot m h w args us r hI hr hd e
  unfold intrC at hI
  cases off with
  | true => exact intr_ok hI hr hd e
  | false =>
    have hI : (Bool.rec (intr false f) (some iCompare) (Nat.beq f 29) : Option (Hp → List V → Option (V × Hp))) = some g := hI
    cases hb : Nat.beq f 29 with
    | false => rw [hb] at hI; exact intr_ok hI hr hd e
    | true =>
      rw [hb] at hI
      cases hI
      have := Nat.eq_of_beq_eq_true hb; subst this
      unfold iCompare at e
      split at e
      · simp only [ob_eq] at e
        obtain ⟨a, e1, b, e2, e⟩ := e
        have := asStr_ok e1; subst this
        have := asStr_ok e2; subst this
        obtain ⟨u, v, h1, h2, rfl⟩ := den2 hd
        obtain ⟨l1, rfl⟩ := den_strE (U := U) (m := m) h1
        obtain ⟨l2, rfl⟩ := den_strE (U := U) (m := m) h2
        rw [forceI_eq] at e
        cases e
        refine ⟨isFn_of Tryz.func29 (by kernel_rfl) (by kernel_rfl), (fun _ => pure_ok hr (u := .int .i64 (Lib.compareBytes (unL a.1 a.2) (unL b.1 b.2))) rfl ((Tryz.strings_Compare _ _ w).mono fun e w' he => ⟨he.1, he.2.symm⟩)), fun h => by cases h⟩
      · cases e
/-- THE MACHINE ON PAPER, FOR THIS PROGRAM: so many calls deep. -/
noncomputable def runC (k : Nat) : CF := xcall (xreg Tryz.prog) Tryz.prog TT ks intrC 100000 k
theorem runC_ok (k : Nat) : CallOK Tryz.prog (runC k) := xcall_ok (fun _ h => xreg_ok Tryz.checked.mixed h) (fun _ _ h => h) intrC_ok k
end Go.Proofs.YtiflcnlnlkegaaaGreat
