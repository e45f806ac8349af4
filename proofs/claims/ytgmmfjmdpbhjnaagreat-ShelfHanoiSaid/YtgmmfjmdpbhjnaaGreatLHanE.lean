/-
  ShelfHanoi: the law's function on paper.
-/
import Derived.Test.YtgmmfjmdpbhjnaaGreatJRd
import Derived.Test.YtgmmfjmdpbhjnaaGreatLNuV
namespace Go.Proofs.YtgmmfjmdpbhjnaaGreat
open Go Go.RowKit Go.XM

noncomputable def hanC : Code := match Tryz.f18.body with
  | some b => b
  | none => .skip
noncomputable def hanOps : Array Oper := match behind 6 hanC with
  | .seq (.region _ ops _) _ => ops
  | _ => #[]
noncomputable def hanRest : Code := match behind 6 hanC with
  | .seq _ r => r
  | _ => .skip
theorem han_be : ∃ id, behind 6 hanC = .seq (.region id hanOps false) hanRest := ⟨_, rfl⟩
noncomputable def hanK : SC := ⟨Tryz.f18.ntmps, ks 18, []⟩
/-- the law's function on paper, up to what it holds against the program -/
noncomputable def hanSt (n : Nat) : Option St := ob (xpre (xreg Tryz.prog hanK) Tryz.prog hanK 100000 6 hanC) fun pre => ob (xopsN Tryz.prog hanOps 9 hanK hanOps.toList) fun g =>
  ob (trV (ks 18) [.a (.s (.i .u64 (.ofNat n)))] 0 .nil) fun tr => ob (pre (runC 40) ⟨⟨[], tr⟩, ⟨.nil, 0⟩, []⟩) fun st => g (runC 40) st
/-- a row on paper -/
noncomputable def rdB (h : Hp) (v : V) : Option (List S) := match v with
  | .a (.s .nils) => some []
  | .a (.s (.sl b o k z)) => oif (Nat.beq z 1) (ob (h.tr.at b) fun x => ob (asCells x) fun c => rdL c.1 o k)
  | _ => none
noncomputable def eqB : List S → List Nat → Bool
  | [], [] => true
  | .i .u8 (.ofNat k) :: r, x :: m => Nat.beq k x && Nat.blt x 256 && eqB r m
  | _, _ => false
theorem eqB_ok : ∀ {l : List S} {m : List Nat}, eqB l m = true → l.length = m.length ∧ ∀ (j x : Nat), m[j]? = some x → x < 256 ∧ l[j]? = some (.i .u8 (.ofNat x))
  | [], [], _ => ⟨rfl, fun j x h => by simp at h⟩
  | s :: r, x :: m, h => by
    unfold eqB at h
    split at h
    · rename_i e _; cases e
    · rename_i k r' x' m' e1 e2
      cases e1; cases e2
      simp only [Bool.and_eq_true, Nat.beq_eq, blt_iff] at h
      obtain ⟨⟨rfl, h2⟩, h3⟩ := h
      obtain ⟨q1, q2⟩ := eqB_ok h3
      refine ⟨by simp [q1], fun j y hj => ?_⟩
      cases j with
      | zero => cases hj; exact ⟨h2, rfl⟩
      | succ j => exact q2 j y hj
    · cases h
  | [], _ :: _, h => by cases h
  | s :: _, [], h => by
    unfold eqB at h
    split at h
    · rename_i e _; cases e
    · rename_i e; cases e
    · cases h
theorem rdB_ok {U : UU} {w0 : World} {prot : PP} {m : M} {h : Hp} {w : World} (hr : Rel U w0 prot m h w) {v : V} {u : Value} {l : List S} {bs : List Nat} (hd : v.den U m = some u) (e : rdB h v = some l) (hb : eqB l bs = true) :
    ∃ wa wc, u = .slice wa bs.length wc ∧ BytesIn w wa bs ∧ (wa = none → bs.length = 0) := by
  obtain ⟨q1, q2⟩ := eqB_ok hb
  unfold rdB at e
  split at e
  · cases e
    cases hd
    have : bs.length = 0 := q1.symm
    exact ⟨none, 0, by rw [this], (fun k x hk => by have := (List.getElem?_eq_some_iff.1 hk).1; omega), fun _ => this⟩
  · rename_i b o k z
    simp only [oif_eq, ob_eq] at e
    obtain ⟨e1, x, f1, c, f2, e⟩ := e
    have e1 := Nat.eq_of_beq_eq_true e1
    subst e1
    have := asCells_ok f2; subst this
    obtain ⟨cb, cap, g1, g2, rfl⟩ := den_slE (U := U) (m := m) hd
    obtain ⟨cur, c1, c2, _, c3⟩ := hr.cells g1 f1
    obtain ⟨vs, r1, r2, r3⟩ := rdL_ok (fun i s hs => (c3 i s hs).2) _ _ e
    have hk : k = bs.length := by rw [← r2, denL_len r1, q1]
    subst hk
    refine ⟨_, _, rfl, fun j y hj => ?_, fun h => by cases h⟩
    obtain ⟨y1, y2⟩ := q2 j y hj
    obtain ⟨v, v1, v2⟩ := denL_get r1 y2
    cases v1
    refine ⟨y1, cb, o * 1, rfl, blk_lt c1, ?_⟩
    rw [blk_cell c1, Nat.mul_one]
    exact r3 j _ v2
  · cases e
noncomputable def hanQn (v : V) (n : Nat) : Bool := match v with
  | .a (.s (.i .u64 (.ofNat k))) => Nat.beq k n
  | _ => false
theorem hanQn_ok {v : V} {n : Nat} (h : hanQn v n = true) : v = .a (.s (.i .u64 (.ofNat n))) := by
  unfold hanQn at h
  split at h
  · rw [Nat.eq_of_beq_eq_true h]
  · cases h
noncomputable def hanQt (v : V) : Bool := match v with
  | .a (.s (.bo true)) => true
  | _ => false
theorem hanQt_ok {v : V} (h : hanQt v = true) : v = .a (.s (.bo true)) := by
  unfold hanQt at h
  split at h
  · rfl
  · cases h
noncomputable def hanG (i : Nat) : Option (E → Option V) := cx (KT 9 hanK hanOps.toList) (.tmp i)
noncomputable def hanChk (n : Nat) : Option Unit := ob (hanSt n) fun st => ob (hanG 0) fun g0 => ob (hanG 3) fun g3 => ob (hanG 101) fun g1 => ob (g0 st.env) fun v0 => ob (g3 st.env) fun v3 => ob (g1 st.env) fun v1 =>
  oif (hanQn v0 n) (oif (hanQt v1) (oif (List.isEmpty st.df) (ob (rdB st.hp v3) fun l => oif (eqB l (movL n 65 67 66)) (some ()))))
end Go.Proofs.YtgmmfjmdpbhjnaaGreat
