/-
  Texts joined: EvR EvS EvT RnA RnB.
-/
import Derived.Test.YtgmmfjmdpbhjnaaGreatJEc
import Derived.Test.YtgmmfjmdpbhjnaaGreatJMd
import Derived.Test.YtgmmfjmdpbhjnaaGreatJMc
/-
  Closures on the paper heap are read as trees; what they do is what the trees mean.
-/
namespace Go.Proofs.YtgmmfjmdpbhjnaaGreat
open Go Go.RowKit Go.XM

/-! ### reading -/
noncomputable def anyPa (X : List Pa) (b : Pa) : Bool := List.rec false (fun p _ ih => Bool.rec ih true (paEq p b)) X
theorem anyPa_iff {b : Pa} : ∀ {X : List Pa}, anyPa X b = true ↔ b ∈ X
  | [] => ⟨fun h => (by cases h), fun h => (by cases h)⟩
  | p :: X => by
    have ih := anyPa_iff (b := b) (X := X)
    show (Bool.rec (anyPa X b) true (paEq p b) : Bool) = true ↔ _
    cases h : paEq p b with
    | true => have := paEq_ok h; subst this; simp
    | false =>
      show anyPa X b = true ↔ _
      rw [ih]
      constructor
      · exact fun h => List.mem_cons_of_mem _ h
      · intro hm
        rcases List.mem_cons.1 hm with rfl | hm
        · exfalso
          have : ∀ p, paEq p p = true := fun p => by induction p with
            | e => rfl
            | l p ih => exact ih
            | r p ih => exact ih
          rw [this] at h; cases h
        · exact hm
/-- a cell of a block that does not turn -/
noncomputable def rdc (X : List Pa) (h : Hp) (b : Pa) (o : Nat) : Option S := oif (not (anyPa X b)) (ob (h.tr.at b) fun x => match x with | .cells c _ _ => c.at (paN o) | _ => none)
noncomputable def sel {α : Type} (f g : Nat) (x y : Option α) : Option α := Bool.rec y x (Nat.beq f g)
theorem sel_some {α : Type} {f g : Nat} {x y : Option α} {r : α} (h : sel f g x y = some r) : (f = g ∧ x = some r) ∨ y = some r := by
  unfold sel at h
  cases hb : Nat.beq f g with
  | true => rw [hb] at h; exact .inl ⟨Nat.eq_of_beq_eq_true hb, h⟩
  | false => rw [hb] at h; exact .inr h
noncomputable def cap0 (c : List (Pa × Nat)) : Bool := match c with | [] => true | _ => false
noncomputable def cap1 (c : List (Pa × Nat)) : Option Pa := match c with | [(a, 0)] => some a | _ => none
noncomputable def cap2 (c : List (Pa × Nat)) : Option (Pa × Pa) := match c with | [(a, 0), (b, 0)] => some (a, b) | _ => none
noncomputable def cap3 (c : List (Pa × Nat)) : Option (Pa × Pa × Pa) := match c with | [(a, 0), (b, 0), (d, 0)] => some (a, b, d) | _ => none
noncomputable def cap5 (c : List (Pa × Nat)) : Option (Pa × Pa × Pa × Pa × Pa) := match c with | [(a, 0), (b, 0), (d, 0), (k, 0), (f, 0)] => some (a, b, d, k, f) | _ => none
noncomputable def asFn (s : S) : Option (Nat × List (Pa × Nat)) := match s with | .fn f c => some (f, c) | _ => none
noncomputable def asN (k : IntKind) (s : S) : Option Nat := match s with | .i j (.ofNat n) => oif (keq j k) (some n) | _ => none
noncomputable def asPt (s : S) : Option (Pa × Nat) := match s with | .ptr p o => some (p, o) | _ => none
noncomputable def asB (s : S) : Option Bool := match s with | .bo b => some b | _ => none
noncomputable def okWb (n : Nat) : Bool := or (or (Nat.beq n 8) (Nat.beq n 16)) (or (Nat.beq n 32) (Nat.beq n 64))

/-- a row of all that is so long -/
noncomputable def nthN (l : List Nat) : Nat → Option Nat := List.rec (motive := fun _ => Nat → Option Nat) (fun _ => none) (fun x _ ih k => Nat.rec (some x) (fun k _ => ih k) k) l
theorem nthN_eq : ∀ (l : List Nat) (k : Nat), nthN l k = l[k]?
  | [], _ => rfl
  | x :: l, 0 => rfl
  | x :: l, k + 1 => by rw [List.getElem?_cons_succ, ← nthN_eq l k]; rfl
noncomputable def okRow (ns : List Nat) (k z : Nat) : Bool := match nthN ns k with | some n => Nat.ble z n | none => false
structure Rd where
  x : S → Option Ex
  s : S → Option Sm
  b : S → Option (List Sm)

section
variable (X : List Pa) (h : Hp)
noncomputable def rTy (p : Pa) : Option GTy := ob (rdc X h p 0) fun a => ob (asN .i64 a) fun n => ob (rdc X h p 1) fun b => ob (asB b) fun sg => oif (okWb n) (some ⟨n, sg⟩)
variable (ih : Rd)
noncomputable def rAs (s : S) : Option (Ex × GTy × GTy) := ob (asFn s) fun q => sel q.1 192 (ob (cap3 q.2) fun c => ob (rdc X h c.1 0) fun v => ob (ih.x v) fun e => ob (rTy X h c.2.1) fun a => ob (rTy X h c.2.2) fun b => some (e, a, b)) none
noncomputable def rAr (b : Pa) (n : Nat) : Nat → Option (List (Ex × GTy × GTy)) :=
  Nat.rec (motive := fun _ => Nat → Option (List (Ex × GTy × GTy))) (fun _ => some []) (fun _ go o => ob (rdc X h b o) fun v => ob (rAs X h ih v) fun r => ob (go (Nat.succ o)) fun l => some (r :: l)) n
/-- an array's place: how many there are, which one, its type -/
noncomputable def rPl (s : S) : Option (Nat × Ex × GTy) := ob (asFn s) fun q => sel q.1 205 (ob (cap2 q.2) fun c => ob (rdc X h c.1 0) fun v => ob (rAs X h ih v) fun r => ob (rdc X h c.2 0) fun u => ob (asN .i64 u) fun z =>
  oif (and (and (Nat.beq r.2.2.bits 16) (not r.2.2.sgn)) (Nat.ble z 1000000)) (some (z, r.1, r.2.1))) none
variable (ns : List Nat)
noncomputable def rIn (s : S) : Option Ex := ob (asFn s) fun q =>
  sel q.1 207 (ob (cap1 q.2) fun x => ob (rdc X h x 0) fun v => ob (asPt v) fun p => ob (rdc X h p.1 (Nat.succ p.2)) fun u => ob (asN .u64 u) fun n => oif (Nat.blt n 18446744073709551616) (some (.num n))) <|
  sel q.1 208 (ob (cap1 q.2) fun p => ob (rdc X h p 2) fun u => ob (asB u) fun b => oif b (ob (rdc X h p 3) fun u => ob (asN .i64 u) fun i => some (.loc i))) <|
  sel q.1 192 (ob (rAs X h ih s) fun r => some (.cast r.1 r.2.1 r.2.2)) <|
  sel q.1 219 (ob (cap5 q.2) fun c => ob (rdc X h c.1 0) fun v => ob (ih.x v) fun x => ob (rdc X h c.2.1 0) fun v => ob (ih.x v) fun y =>
    ob (rdc X h c.2.2.1 0) fun v => ob (asPt v) fun p => ob (rdc X h p.1 p.2) fun u => ob (asN .i64 u) fun k => oif (and (Nat.ble 9 k) (Nat.ble k 24)) (ob (rTy X h c.2.2.2.1) fun a => ob (rTy X h c.2.2.2.2) fun b => some (.bin k x y a b))) <|
  sel q.1 218 (ob (cap3 q.2) fun c => ob (rdc X h c.1 0) fun v => ob (ih.x v) fun x => ob (rdc X h c.2.2 0) fun v => ob (ih.x v) fun y => ob (rdc X h c.2.1 0) fun v => ob (asB v) fun o => some (.either o x y)) <|
  sel q.1 215 (ob (cap1 q.2) fun d => ob (rdc X h d 0) fun v => ob (rAs X h ih v) fun r => oif (and (Nat.beq r.2.2.bits 16) r.2.2.sgn) (some (.put r.1 r.2.1))) <|
  sel q.1 216 (oif (cap0 q.2) (some .get)) <|
  sel q.1 209 (ob (cap2 q.2) fun c => ob (rdc X h c.1 0) fun v => ob (rPl X h ih v) fun r => ob (rdc X h c.2 3) fun u => ob (asN .i64 u) fun k => oif (okRow ns k r.1) (some (.elt k r.1 r.2.1 r.2.2))) <|
  sel q.1 217 (ob (cap2 q.2) fun c => ob (rdc X h c.1 0) fun v => ob (rdc X h c.2 0) fun u => ob (asN .i64 u) fun k => match v with
    | .nils => some (.call k [])
    | .sl b o n z => oif (and (Nat.beq z 1) (Nat.ble n 1000)) (ob (rAr X h ih b n o) fun l => some (.call k l))
    | _ => none) <|
  sel q.1 211 (ob (cap3 q.2) fun c => ob (rdc X h c.1 0) fun v => ob (ih.x v) fun x => ob (rdc X h c.2.1 0) fun v => ob (asPt v) fun p => ob (rdc X h p.1 p.2) fun u => ob (asN .i64 u) fun k => oif (and (Nat.ble 6 k) (Nat.ble k 8)) (ob (rTy X h c.2.2) fun t => some (.un k x t))) none
noncomputable def rX (s : S) : Option Ex := ob (asFn s) fun q => sel q.1 206 (ob (cap1 q.2) fun d => ob (rdc X h d 0) fun v => rIn X h ih ns v) none
/-- what is stored: a number of the call (1), nothing (2), the result (3) -/
noncomputable def rSto (s : S) : Option (Nat × Nat) := ob (asFn s) fun q =>
  sel q.1 154 (ob (cap1 q.2) fun p => ob (rdc X h p 3) fun u => ob (asN .i64 u) fun i => some (1, i)) <|
  sel q.1 195 (ob (cap1 q.2) fun p => ob (rdc X h p 2) fun u => ob (asB u) fun b => oif b (ob (rdc X h p 3) fun u => ob (asN .i64 u) fun i => some (1, i))) <|
  sel q.1 157 (oif (cap0 q.2) (some (2, 0))) <|
  sel q.1 159 (oif (cap0 q.2) (some (3, 0))) none
noncomputable def rNo (s : S) : Option Unit := ob (asFn s) fun q => sel q.1 151 (oif (cap0 q.2) (some ())) none
/-- put$1: what is stored, and what is worked out -/
noncomputable def rPut (s : S) : Option ((Nat × Nat) × S) := ob (asFn s) fun q => sel q.1 193 (ob (cap2 q.2) fun c => ob (rdc X h c.2 0) fun v => ob (rSto X h v) fun st => ob (rdc X h c.1 0) fun u => some (st, u)) none
/-- a loop with a step -/
noncomputable def rLp (s : S) : Option (Ex × List Sm × List Sm) := ob (asFn s) fun q => sel q.1 201 (ob (cap3 q.2) fun c => ob (rdc X h c.1 0) fun v => ob (ih.x v) fun x => ob (rdc X h c.2.1 0) fun v => ob (ih.b v) fun l => ob (rdc X h c.2.2 0) fun v => ob (ih.b v) fun r => some (x, l, r)) none
noncomputable def rSt (s : S) : Option Sm := ob (asFn s) fun q =>
  sel q.1 193 (ob (rPut X h s) fun r =>
    sel r.1.1 1 (Option.rec (ob (rAs X h ih r.2) fun a => some (.setl r.1.2 a.1 a.2.1 a.2.2)) (fun _ => some (.setz r.1.2)) (rNo r.2)) <|
    sel r.1.1 2 (ob (ih.x r.2) fun x => some (.ex x)) none) <|
  sel q.1 158 (oif (cap0 q.2) (some .ret0)) <|
  sel q.1 160 (ob (cap1 q.2) fun d => ob (rdc X h d 0) fun v => ob (rPut X h v) fun r => sel r.1.1 3 (ob (rAs X h ih r.2) fun a => some (.ret a.1 a.2.1 a.2.2)) none) <|
  sel q.1 161 (oif (cap0 q.2) (some .brk)) <|
  sel q.1 162 (oif (cap0 q.2) (some .cont)) <|
  sel q.1 163 (ob (cap3 q.2) fun c => ob (rdc X h c.1 0) fun v => ob (ih.x v) fun x => ob (rdc X h c.2.1 0) fun v => ob (ih.b v) fun l => ob (rdc X h c.2.2 0) fun v => ob (ih.b v) fun r => some (.ite x l r)) <|
  sel q.1 201 (ob (cap3 q.2) fun c => ob (rdc X h c.1 0) fun v => ob (ih.x v) fun x => ob (rdc X h c.2.1 0) fun v => ob (ih.b v) fun l => ob (rdc X h c.2.2 0) fun v => match v with | .nilf => some (.whl x l) | _ => none) <|
  sel q.1 197 (ob (cap3 q.2) fun c => ob (rdc X h c.1 0) fun v => ob (rPl X h ih v) fun r => ob (rdc X h c.2.1 0) fun v => ob (rAs X h ih v) fun a => ob (rdc X h c.2.2 3) fun u => ob (asN .i64 u) fun k => oif (okRow ns k r.1) (some (.seta k r.1 r.2.1 r.2.2 a.1 a.2.1 a.2.2))) <|
  sel q.1 165 (ob (cap2 q.2) fun c => ob (rdc X h c.1 0) fun v => ob (ih.b v) fun i => ob (rdc X h c.2 0) fun v => ob (rLp X h ih v) fun l => some (.for i (some l.1) l.2.1 l.2.2)) <|
  sel q.1 81 (ob (ih.b s) fun l => some (.blk l)) <|
  sel q.1 166 (oif (cap0 q.2) (some (.blk []))) none
noncomputable def rS (s : S) : Option Sm := ob (asFn s) fun q => sel q.1 120 (ob (cap1 q.2) fun d => ob (rdc X h d 0) fun v => rSt X h ih ns v) none
noncomputable def rL (b : Pa) (n : Nat) : Nat → Option (List Sm) :=
  Nat.rec (motive := fun _ => Nat → Option (List Sm)) (fun _ => some []) (fun _ go o => ob (rdc X h b o) fun v => ob (ih.s v) fun x => ob (go (Nat.succ o)) fun l => some (x :: l)) n
noncomputable def rB (s : S) : Option (List Sm) := ob (asFn s) fun q => sel q.1 81 (ob (cap1 q.2) fun d => ob (rdc X h d 0) fun v => match v with
  | .nils => some []
  | .sl b o n z => oif (and (Nat.beq z 1) (Nat.ble n 1000000)) (rL X h ih b n o)
  | _ => none) none
noncomputable def rd (d : Nat) : Rd := Nat.rec (motive := fun _ => Rd) ⟨fun _ => none, fun _ => none, fun _ => none⟩ (fun _ ih => ⟨rX X h ih ns, rS X h ih ns, rB X h ih⟩) d
end
end Go.Proofs.YtgmmfjmdpbhjnaaGreat

/-
  What a closure on the paper heap does is what the tree means that was read.
-/
namespace Go.Proofs.YtgmmfjmdpbhjnaaGreat
open Go Go.RowKit Go.XM

/-- The blocks that do not turn, on paper and in the world. -/
def ZR (U : UU) (m : M) (h : Hp) (X : List Pa) (Z : Nat → Option Obj) : Prop := ∀ b c x o, m b = some (c, x) → h.tr.at b = some o → anyPa X b = false → ObR U m x o (Z c)

section
variable {U : UU} {m : M} {h : Hp} {X : List Pa} {Z : Nat → Option Obj} {A : Adr}
theorem rdc_zc (hz : ZR U m h X Z) {b : Pa} {c o : Nat} {x : Nat × Nat} {s : S} (hm : m b = some (c, x)) (e : rdc X h b o = some s) : ∃ v, s.den U m = some v ∧ Zc Z c o v := by
  obtain ⟨h1, e⟩ := oif_some e
  obtain ⟨y, h2, e⟩ := ob_some e
  have hx : anyPa X b = false := by simpa using h1
  have hr := hz b c x y hm h2 hx
  cases y with
  | map es => cases e
  | cells cc t k =>
    have e : cc.at (paN o) = some s := e
    cases hq : Z c with
    | none => rw [hq] at hr; exact hr.elim
    | some obj =>
      rw [hq] at hr
      cases obj <;> first | exact hr.elim | skip
      rename_i cur t' fz
      obtain ⟨_, _, _, _, h5, _⟩ := hr
      obtain ⟨_, v, h6, h7⟩ := h5 o s e
      exact ⟨v, h6, _, _, _, hq, h7⟩
theorem asFn_ok {s : S} {q : Nat × List (Pa × Nat)} {v : Value} (e : asFn s = some q) (hd : s.den U m = some v) : ∃ l, capsDen m q.2 = some l ∧ v = fnV q.1 l.toArray := by
  unfold asFn at e
  split at e
  · cases e
    obtain ⟨l, h1, hd⟩ := ob_some hd
    cases hd
    exact ⟨l, h1, rfl⟩
  · cases e
theorem caps_cons {a : Pa} {o : Nat} {r : List (Pa × Nat)} {l : List Value} (e : capsDen m ((a, o) :: r) = some l) : ∃ b x k, m a = some (b, x) ∧ capsDen m r = some k ∧ l = .pointer (some ⟨b, o, none⟩) :: k := by
  obtain ⟨x, h1, e⟩ := ob_some e
  obtain ⟨k, h2, e⟩ := ob_some e
  cases e; exact ⟨x.1, x.2, k, h1, h2, rfl⟩
theorem cap0_ok {c : List (Pa × Nat)} {l : List Value} (e : cap0 c = true) (hd : capsDen m c = some l) : l = [] := by
  unfold cap0 at e
  split at e
  · cases hd; rfl
  · cases e
theorem cap1_ok {c : List (Pa × Nat)} {a : Pa} {l : List Value} (e : cap1 c = some a) (hd : capsDen m c = some l) : ∃ b x, m a = some (b, x) ∧ l = [ptrV b] := by
  unfold cap1 at e
  split at e
  · cases e
    obtain ⟨b, x, k, h1, h2, rfl⟩ := caps_cons hd
    cases h2; exact ⟨b, x, h1, rfl⟩
  · cases e
theorem cap2_ok {c : List (Pa × Nat)} {a : Pa × Pa} {l : List Value} (e : cap2 c = some a) (hd : capsDen m c = some l) : ∃ b x b' x', m a.1 = some (b, x) ∧ m a.2 = some (b', x') ∧ l = [ptrV b, ptrV b'] := by
  unfold cap2 at e
  split at e
  · cases e
    obtain ⟨b, x, k, h1, q1, rfl⟩ := caps_cons hd
    obtain ⟨b', x', k, h3, q2, rfl⟩ := caps_cons q1
    cases q2; exact ⟨b, x, b', x', h1, h3, rfl⟩
  · cases e
theorem cap3_ok {c : List (Pa × Nat)} {a : Pa × Pa × Pa} {l : List Value} (e : cap3 c = some a) (hd : capsDen m c = some l) : ∃ b x b' x' b'' x'', m a.1 = some (b, x) ∧ m a.2.1 = some (b', x') ∧ m a.2.2 = some (b'', x'') ∧ l = [ptrV b, ptrV b', ptrV b''] := by
  unfold cap3 at e
  split at e
  · cases e
    obtain ⟨b, x, k, h1, q1, rfl⟩ := caps_cons hd
    obtain ⟨b', x', k, h3, q2, rfl⟩ := caps_cons q1
    obtain ⟨b'', x'', k, h4, q3, rfl⟩ := caps_cons q2
    cases q3; exact ⟨b, x, b', x', b'', x'', h1, h3, h4, rfl⟩
  · cases e
theorem cap5_ok {c : List (Pa × Nat)} {a : Pa × Pa × Pa × Pa × Pa} {l : List Value} (e : cap5 c = some a) (hd : capsDen m c = some l) : ∃ b x b' x' b'' x'' b3 x3 b4 x4, m a.1 = some (b, x) ∧ m a.2.1 = some (b', x') ∧ m a.2.2.1 = some (b'', x'') ∧ m a.2.2.2.1 = some (b3, x3) ∧ m a.2.2.2.2 = some (b4, x4) ∧ l = [ptrV b, ptrV b', ptrV b'', ptrV b3, ptrV b4] := by
  unfold cap5 at e
  split at e
  · cases e
    obtain ⟨b, x, k, h1, q1, rfl⟩ := caps_cons hd
    obtain ⟨b', x', k, h3, q2, rfl⟩ := caps_cons q1
    obtain ⟨b'', x'', k, h4, q3, rfl⟩ := caps_cons q2
    obtain ⟨b3, x3, k, h5, q4, rfl⟩ := caps_cons q3
    obtain ⟨b4, x4, k, h6, q5, rfl⟩ := caps_cons q4
    cases q5; exact ⟨b, x, b', x', b'', x'', b3, x3, b4, x4, h1, h3, h4, h5, h6, rfl⟩
  · cases e
theorem asN_ok {k : IntKind} {s : S} {n : Nat} {v : Value} (e : asN k s = some n) (hd : s.den U m = some v) : v = .int k n := by
  unfold asN at e
  split at e
  · obtain ⟨h1, e⟩ := oif_some e
    cases e; cases hd
    rw [keq_ok h1]; rfl
  · cases e
theorem asB_ok {s : S} {b : Bool} {v : Value} (e : asB s = some b) (hd : s.den U m = some v) : v = .bool b := by
  unfold asB at e
  split at e
  · cases e; cases hd; rfl
  · cases e
theorem asPt_ok {s : S} {p : Pa × Nat} {v : Value} (e : asPt s = some p) (hd : s.den U m = some v) : ∃ b x, m p.1 = some (b, x) ∧ v = .pointer (some ⟨b, p.2, none⟩) := by
  unfold asPt at e
  split at e
  · cases e
    obtain ⟨x, h1, hd⟩ := ob_some hd
    cases hd; exact ⟨x.1, x.2, h1, rfl⟩
  · cases e
theorem rTy_ok (hz : ZR U m h X Z) {p : Pa} {t : GTy} {b : Nat} {x : Nat × Nat} (hm : m p = some (b, x)) (e : rTy X h p = some t) : TyAt Z b t ∧ okT t := by
  simp only [rTy, ob_eq, oif_eq] at e
  obtain ⟨s1, e1, n, e2, s2, e3, sg, e4, e5, e⟩ := e
  cases e
  obtain ⟨v1, d1, z1⟩ := rdc_zc hz hm e1
  obtain ⟨v2, d2, z2⟩ := rdc_zc hz hm e3
  have := asN_ok e2 d1; subst this
  have := asB_ok e4 d2; subst this
  refine ⟨⟨z1, z2⟩, ?_⟩
  unfold okT okW
  simp only [okWb, Bool.or_eq_true, Nat.beq_eq] at e5
  show n = 8 ∨ n = 16 ∨ n = 32 ∨ n = 64
  omega

theorem BehX.ofRun {g : Nat} {c : Array Value} {run run' : Ms → List Nat → Option Rx} (hb : BehX A Z g c run) (hi : ∀ s f r, run' s f = some r → run s f = some r) : BehX A Z g c run' :=
  fun K w s f fb sb r hz hm hf hkf hks e => hb K w s f fb sb r hz hm hf hkf hks (hi _ _ _ e)
theorem BehS.ofRun {g : Nat} {c : Array Value} {run run' : Ms → Fr → Option Rs} (hb : BehS A Z g c run) (hi : ∀ s f r, run' s f = some r → run s f = some r) : BehS A Z g c run' :=
  fun K w s f fb sb r hz hm hf hkf hks e => hb K w s f fb sb r hz hm hf hkf hks (hi _ _ _ e)

variable {inp : List Nat} {bd : List (List Sm × Nat)} {n : Nat} {ns : List Nat}
/-- what was read is what the closures do -/
structure RdOK (U : UU) (m : M) (Z : Nat → Option Obj) (A : Adr) (inp : List Nat) (bd : List (List Sm × Nat)) (n : Nat) (r : Rd) : Prop where
  x : ∀ s e v, r.x s = some e → s.den U m = some v → ∃ g c, v = fnV g c ∧ isFn Tryz.prog g ∧ BehX A Z g c (ev inp bd n e)
  s : ∀ s x v, r.s s = some x → s.den U m = some v → ∃ g c, v = fnV g c ∧ isFn Tryz.prog g ∧ BehS A Z g c (exS inp bd n x)
  b : ∀ s l v, r.b s = some l → s.den U m = some v → ∃ g c, v = fnV g c ∧ isFn Tryz.prog g ∧ BehS A Z g c (seqS (l.map (exS inp bd n)))
  f : ∀ k, BehF A Z k (evF inp bd n k)

theorem rAs_ok (hz : ZR U m h X Z) {ih : Rd} (hr : RdOK U m Z A inp bd n ih) {s : S} {q : Ex × GTy × GTy} {v : Value} (e : rAs X h ih s = some q) (hd : s.den U m = some v) :
    okT q.2.1 ∧ okT q.2.2 ∧ ∃ c, v = fnV 192 c ∧ BehX A Z 192 c (fun s f => Rx.conv (ev inp bd n q.1 s f) q.2.1 q.2.2) := by
  obtain ⟨f, e1, e⟩ := ob_some e
  rcases sel_some e with ⟨hf, e⟩ | e
  · simp only [ob_eq] at e
    obtain ⟨c, e2, v1, e3, x, e4, a, e5, b, e6, e⟩ := e
    cases e
    obtain ⟨l, d1, rfl⟩ := asFn_ok e1 hd
    obtain ⟨b1, x1, b2, x2, b3, x3, m1, m2, m3, rfl⟩ := cap3_ok e2 d1
    obtain ⟨u1, d2, z1⟩ := rdc_zc hz m1 e3
    obtain ⟨g, cc, rfl, hg, hb⟩ := hr.x _ _ _ e4 d2
    obtain ⟨t1, t2⟩ := rTy_ok hz m2 e5
    obtain ⟨t3, t4⟩ := rTy_ok hz m3 e6
    exact ⟨t2, t4, _, by rw [hf], as_beh z1 t1 t3 t2 t4 hg hb⟩
  · cases e
theorem rAr_ok (hz : ZR U m h X Z) {ih : Rd} (hr : RdOK U m Z A inp bd n ih) {b : Pa} {c : Nat} {x : Nat × Nat} (hm : m b = some (c, x)) (hfn : Proofs.YtgmmfjmdpbhjnaaGreat.isFn Tryz.prog 192) : ∀ {k o : Nat} {l : List (Ex × GTy × GTy)}, rAr X h ih b k o = some l →
    l.length = k ∧ ∃ (G : Nat → Nat) (C : Nat → Array Value), (∀ i, i < k → Zc Z c (o + i) (fnV (G i) (C i)) ∧ Proofs.YtgmmfjmdpbhjnaaGreat.isFn Tryz.prog (G i)) ∧ ∀ i y, l[i]? = some y → BehX A Z (G i) (C i) (fun s f => Rx.conv (ev inp bd n y.1 s f) y.2.1 y.2.2)
  | 0, o, l, e => by cases e; exact ⟨rfl, fun _ => 0, fun _ => #[], fun i hi => by omega, fun i y e => by simp at e⟩
  | k + 1, o, l, e => by
    replace e : (ob (rdc X h b o) fun v => ob (rAs X h ih v) fun r => ob (rAr X h ih b k (Nat.succ o)) fun l => some (r :: l)) = some l := e
    simp only [ob_eq] at e
    obtain ⟨v, e1, y, e2, l', e3, e⟩ := e
    cases e
    obtain ⟨u, d1, z1⟩ := rdc_zc hz hm e1
    obtain ⟨_, _, cc, rfl, hb⟩ := rAs_ok hz hr e2 d1
    obtain ⟨h1, G, C, h2, h3⟩ := rAr_ok hz hr hm hfn e3
    refine ⟨by simp [h1], fun i => match i with | 0 => 192 | i + 1 => G i, fun i => match i with | 0 => cc | i + 1 => C i, fun i hi => ?_, fun i y' e => ?_⟩
    · cases i with
      | zero => exact ⟨z1, hfn⟩
      | succ i =>
        have := h2 i (by omega)
        rw [show o.succ + i = o + (i + 1) by omega] at this
        exact this
    · cases i with
      | zero => cases e; exact hb
      | succ i => exact h3 i y' (by simpa using e)
theorem fnOK {f : Nat} {fn : Func} (h : Tryz.prog.funcs[f]? = some fn) (h1 : (fn.name == "runtime.NumGoroutine") = false) (h2 : fn.body.isNone = false) : Proofs.YtgmmfjmdpbhjnaaGreat.isFn Tryz.prog f := ⟨fn, h, h1, h2⟩

theorem okRow_ok {k z : Nat} (e : okRow ns k z = true) : ∃ n, ns[k]? = some n ∧ z ≤ n := by
  unfold okRow at e
  rw [nthN_eq] at e
  split at e
  · rename_i n hn; exact ⟨n, hn, Nat.ble_eq ▸ e⟩
  · cases e
theorem rPl_ok (hz : ZR U m h X Z) {ih : Rd} (hr : RdOK U m Z A inp bd n ih) {s : S} {q : Nat × Ex × GTy} {v : Value} (e : rPl X h ih s = some q) (hd : s.den U m = some v) :
    ∃ g c, v = fnV g c ∧ Proofs.YtgmmfjmdpbhjnaaGreat.isFn Tryz.prog g ∧ BehX A Z g c (fun s f => Rx.place (Rx.conv (ev inp bd n q.2.1 s f) q.2.2 uintT) q.1) := by
  obtain ⟨p, e1, e⟩ := ob_some e
  obtain ⟨l, d1, rfl⟩ := asFn_ok e1 hd
  rcases sel_some e with ⟨hf, e⟩ | e
  · simp only [ob_eq, oif_eq] at e
    obtain ⟨c, e2, v1, e3, r, e4, u, e5, z, e6, e7, e⟩ := e
    cases e
    obtain ⟨b1, x1, b2, x2, m1, m2, rfl⟩ := cap2_ok e2 d1
    obtain ⟨w1, d2, z1⟩ := rdc_zc hz m1 e3
    obtain ⟨w2, d3, z2⟩ := rdc_zc hz m2 e5
    have := asN_ok e6 d3; subst this
    obtain ⟨t1, t2, c, rfl, hb⟩ := rAs_ok hz hr e4 d2
    simp only [Bool.and_eq_true, Nat.beq_eq, Nat.ble_eq] at e7
    have ht : r.2.2 = uintT := by
      obtain ⟨r1, r2, ⟨r3, r4⟩⟩ := r
      have h1 : r3 = 16 := e7.1.1
      have h2 : (!r4) = true := e7.1.2
      have h3 : r4 = false := by simpa using h2
      show (⟨r3, r4⟩ : GTy) = ⟨16, false⟩
      rw [h1, h3]
    rw [ht] at hb
    rw [hf]
    exact ⟨_, _, rfl, fnOK Tryz.func205 (by kernel_rfl) (by kernel_rfl), place_beh z1 z2 e7.2 (fnOK Tryz.func192 (by kernel_rfl) (by kernel_rfl)) hb⟩
  · cases e

/-- An expression's closure, but for its tick. -/
theorem rIn_ok (hz : ZR U m h X Z) (hi : InpAt A Z inp) (hro : RowsOK Z A ns) {ih : Rd} (hr : RdOK U m Z A inp bd n ih) {s : S} {x : Ex} {v : Value} (e : rIn X h ih ns s = some x) (hd : s.den U m = some v) :
    ∃ g c run, v = fnV g c ∧ isFn Tryz.prog g ∧ BehX A Z g c run ∧ ∀ s f, ev inp bd (n + 1) x s f = run s.tick f := by
  obtain ⟨q, e1, e⟩ := ob_some e
  obtain ⟨l, d1, rfl⟩ := asFn_ok e1 hd
  rcases sel_some e with ⟨hf, e⟩ | e
  · simp only [ob_eq, oif_eq] at e
    obtain ⟨p, e2, v1, e3, p1, e4, u, e5, k, e6, e7, e⟩ := e
    cases e
    obtain ⟨b1, x1, m1, rfl⟩ := cap1_ok e2 d1
    obtain ⟨u1, d2, z1⟩ := rdc_zc hz m1 e3
    obtain ⟨b2, x2, m2, rfl⟩ := asPt_ok e4 d2
    obtain ⟨u2, d3, z2⟩ := rdc_zc hz m2 e5
    have := asN_ok e6 d3; subst this
    rw [hf]
    exact ⟨_, _, _, rfl, fnOK Tryz.func207 (by kernel_rfl) (by kernel_rfl), num_beh z1 z2 (by unfold U64; exact blt_iff.1 e7), fun s f => rfl⟩
  rcases sel_some e with ⟨hf, e⟩ | e
  · simp only [ob_eq, oif_eq] at e
    obtain ⟨p, e2, u, e3, b, e4, e5, u', e6, i, e7, e⟩ := e
    cases e
    obtain ⟨b1, x1, m1, rfl⟩ := cap1_ok e2 d1
    obtain ⟨u1, d2, z1⟩ := rdc_zc hz m1 e3
    have := asB_ok e4 d2; subst this
    subst e5
    obtain ⟨u2, d3, z2⟩ := rdc_zc hz m1 e6
    have := asN_ok e7 d3; subst this
    rw [hf]
    exact ⟨_, _, _, rfl, fnOK Tryz.func208 (by kernel_rfl) (by kernel_rfl), loc_beh z1 z2, fun s f => rfl⟩
  rcases sel_some e with ⟨hf, e⟩ | e
  · simp only [ob_eq] at e
    obtain ⟨r, e2, e⟩ := e
    cases e
    obtain ⟨t1, t2, c, hv, hb⟩ := rAs_ok hz hr e2 hd
    exact ⟨_, c, _, hv, fnOK Tryz.func192 (by kernel_rfl) (by kernel_rfl), hb, fun s f => rfl⟩
  rcases sel_some e with ⟨hf, e⟩ | e
  · simp only [ob_eq, oif_eq] at e
    obtain ⟨c, e2, v1, e3, x1, e4, v2, e5, y1, e6, v3, e7, p, e8, u, e9, k, e10, e11, a, e12, b, e13, e⟩ := e
    cases e
    obtain ⟨b1, y1', b2, y2, b3, y3, b4, y4, b5, y5, m1, m2, m3, m4, m5, rfl⟩ := cap5_ok e2 d1
    obtain ⟨w1, d2, z1⟩ := rdc_zc hz m1 e3
    obtain ⟨g1, c1, rfl, hg1, hb1⟩ := hr.x _ _ _ e4 d2
    obtain ⟨w2, d3, z2⟩ := rdc_zc hz m2 e5
    obtain ⟨g2, c2, rfl, hg2, hb2⟩ := hr.x _ _ _ e6 d3
    obtain ⟨w3, d4, z3⟩ := rdc_zc hz m3 e7
    obtain ⟨b6, y6, m6, rfl⟩ := asPt_ok e8 d4
    obtain ⟨w4, d5, z4⟩ := rdc_zc hz m6 e9
    have := asN_ok e10 d5; subst this
    obtain ⟨t1, t2⟩ := rTy_ok hz m4 e12
    obtain ⟨t3, t4⟩ := rTy_ok hz m5 e13
    rw [hf]
    simp only [Bool.and_eq_true, Nat.ble_eq] at e11
    exact ⟨_, _, _, rfl, fnOK Tryz.func219 (by kernel_rfl) (by kernel_rfl), bin_beh z1 z2 z3 z4 e11 t1 t3 t2 t4 hg1 hg2 hb1 hb2 (ev_grows inp bd n y1), fun s f => rfl⟩
  rcases sel_some e with ⟨hf, e⟩ | e
  · simp only [ob_eq] at e
    obtain ⟨c, e2, v1, e3, x1, e4, v2, e5, y1, e6, v3, e7, o, e8, e⟩ := e
    cases e
    obtain ⟨b1, x1', b2, x2, b3, x3, m1, m2, m3, rfl⟩ := cap3_ok e2 d1
    obtain ⟨w1, d2, z1⟩ := rdc_zc hz m1 e3
    obtain ⟨g1, c1, rfl, hg1, hb1⟩ := hr.x _ _ _ e4 d2
    obtain ⟨w2, d3, z2⟩ := rdc_zc hz m3 e5
    obtain ⟨g2, c2, rfl, hg2, hb2⟩ := hr.x _ _ _ e6 d3
    obtain ⟨w3, d4, z3⟩ := rdc_zc hz m2 e7
    have := asB_ok e8 d4; subst this
    rw [hf]
    exact ⟨_, _, _, rfl, fnOK Tryz.func218 (by kernel_rfl) (by kernel_rfl), either_beh z1 z2 z3 hg1 hg2 hb1 hb2 (ev_grows inp bd n y1), fun s f => rfl⟩
  rcases sel_some e with ⟨hf, e⟩ | e
  · simp only [ob_eq, oif_eq] at e
    obtain ⟨d, e2, v1, e3, r, e4, e5, e⟩ := e
    cases e
    obtain ⟨b1, x1, m1, rfl⟩ := cap1_ok e2 d1
    obtain ⟨w1, d2, z1⟩ := rdc_zc hz m1 e3
    obtain ⟨t1, t2, c, rfl, hb⟩ := rAs_ok hz hr e4 d2
    have ht : r.2.2 = intT := by
      obtain ⟨r1, r2, ⟨r3, r4⟩⟩ := r
      simp only [Bool.and_eq_true, Nat.beq_eq] at e5
      show (⟨r3, r4⟩ : GTy) = ⟨16, true⟩
      rw [e5.1, e5.2]
    rw [ht] at hb
    rw [hf]
    exact ⟨_, _, _, rfl, fnOK Tryz.func215 (by kernel_rfl) (by kernel_rfl), putc_beh z1 (fnOK Tryz.func192 (by kernel_rfl) (by kernel_rfl)) hb, fun s f => rfl⟩
  rcases sel_some e with ⟨hf, e⟩ | e
  · simp only [oif_eq] at e
    obtain ⟨e2, e⟩ := e
    cases e
    have := cap0_ok e2 d1; subst this
    rw [hf]
    exact ⟨_, _, _, rfl, fnOK Tryz.func216 (by kernel_rfl) (by kernel_rfl), get_beh hi, fun s f => rfl⟩
  rcases sel_some e with ⟨hf, e⟩ | e
  · simp only [ob_eq, oif_eq] at e
    obtain ⟨c, e2, v1, e3, r, e4, u, e5, k, e6, e7, e⟩ := e
    cases e
    obtain ⟨b1, x1, b2, x2, m1, m2, rfl⟩ := cap2_ok e2 d1
    obtain ⟨w1, d2, z1⟩ := rdc_zc hz m1 e3
    obtain ⟨g, cc, rfl, hg, hb⟩ := rPl_ok hz hr e4 d2
    obtain ⟨w2, d3, z2⟩ := rdc_zc hz m2 e5
    have := asN_ok e6 d3; subst this
    obtain ⟨N, hN, _⟩ := okRow_ok e7
    rw [hf]
    exact ⟨_, _, _, rfl, fnOK Tryz.func209 (by kernel_rfl) (by kernel_rfl), elt_beh z1 z2 (hro k N hN) hg hb, fun s f => rfl⟩
  rcases sel_some e with ⟨hf, e⟩ | e
  · simp only [ob_eq] at e
    obtain ⟨c, e2, v1, e3, u, e4, k, e5, e⟩ := e
    obtain ⟨b1, x1, b2, x2, m1, m2, rfl⟩ := cap2_ok e2 d1
    obtain ⟨w1, d2, z1⟩ := rdc_zc hz m1 e3
    obtain ⟨w2, d3, z2⟩ := rdc_zc hz m2 e4
    have := asN_ok e5 d3; subst this
    rw [hf]
    have gF := (grows_all inp bd n).2.1 k
    split at e
    · cases e
      cases d2
      exact ⟨_, _, _, rfl, fnOK Tryz.func217 (by kernel_rfl) (by kernel_rfl), call_beh (runs := []) (G := fun _ => 0) (C := fun _ => #[]) z1 z2 (by simp) (fun i hi => by simp at hi) (fun i x e => by simp at e) (fun x hx => by simp at hx) (hr.f k) gF, fun s f => rfl⟩
    · rename_i b o N z
      rw [oif_eq, ob_eq] at e
      obtain ⟨e6, l1, e7, e⟩ := e
      cases e
      simp only [Bool.and_eq_true, Nat.beq_eq, Nat.ble_eq] at e6
      obtain ⟨hz1, hN⟩ := e6
      subst hz1
      obtain ⟨cb, x, hmb, _, rfl⟩ := den_slE (U := U) (m := m) d2
      obtain ⟨j1, G, C, j2, j3⟩ := rAr_ok hz hr hmb (fnOK Tryz.func192 (by kernel_rfl) (by kernel_rfl)) e7
      subst j1
      refine ⟨_, _, _, rfl, fnOK Tryz.func217 (by kernel_rfl) (by kernel_rfl), call_beh (runs := l1.map fun x s f => Rx.conv (ev inp bd n x.1 s f) x.2.1 x.2.2) (G := G) (C := C) (by rw [List.length_map]; exact z1) z2 (by rw [List.length_map]; exact hN) (fun i hi => ?_) (fun i x e => ?_) (fun x hx => ?_) (hr.f k) gF, fun s f => rfl⟩
      · rw [List.length_map] at hi
        obtain ⟨k1, k2⟩ := j2 i hi
        exact ⟨cb, o * 1, rfl, by rw [Nat.mul_one]; exact k1, k2⟩
      · rw [List.getElem?_map] at e
        cases hq : l1[i]? with
        | none => rw [hq] at e; cases e
        | some y => rw [hq] at e; cases e; exact j3 i y hq
      · obtain ⟨y, _, rfl⟩ := List.mem_map.1 hx
        exact fun s f r h => grow_conv h fun y' hy => ev_grows inp bd n y.1 s f y' hy
    · cases e
  rcases sel_some e with ⟨hf, e⟩ | e
  · simp only [ob_eq, oif_eq] at e
    obtain ⟨c, e2, v1, e3, x1, e4, v3, e7, p, e8, u, e9, k, e10, e11, t, e12, e⟩ := e
    cases e
    obtain ⟨b1, y1, b2, y2, b3, y3, m1, m2, m3, rfl⟩ := cap3_ok e2 d1
    obtain ⟨w1, d2, z1⟩ := rdc_zc hz m1 e3
    obtain ⟨g1, c1, rfl, hg1, hb1⟩ := hr.x _ _ _ e4 d2
    obtain ⟨w3, d4, z3⟩ := rdc_zc hz m2 e7
    obtain ⟨b6, y6, m6, rfl⟩ := asPt_ok e8 d4
    obtain ⟨w4, d5, z4⟩ := rdc_zc hz m6 e9
    have := asN_ok e10 d5; subst this
    obtain ⟨t1, t2⟩ := rTy_ok hz m3 e12
    rw [hf]
    simp only [Bool.and_eq_true, Nat.ble_eq] at e11
    exact ⟨_, _, _, rfl, fnOK Tryz.func211 (by kernel_rfl) (by kernel_rfl), un_beh z1 z3 z4 e11 t1 t2 hg1 hb1, fun s f => rfl⟩
  · cases e
end
end Go.Proofs.YtgmmfjmdpbhjnaaGreat

/-
  What a statement's closure on the paper heap does is what the tree means that was read; all of them, however deep.
-/
namespace Go.Proofs.YtgmmfjmdpbhjnaaGreat
open Go Go.RowKit Go.XM
section
variable {U : UU} {m : M} {h : Hp} {X : List Pa} {Z : Nat → Option Obj} {A : Adr}
variable {inp : List Nat} {bd : List (List Sm × Nat)} {n : Nat} {ns : List Nat}

theorem fnOKg {f : Nat} (h : (match Tryz.prog.funcs[f]? with | some fn => not (fn.name == "runtime.NumGoroutine") && fn.body.isSome | none => false) = true) : Proofs.YtgmmfjmdpbhjnaaGreat.isFn Tryz.prog f := by
  cases hf : Tryz.prog.funcs[f]? with
  | none => rw [hf] at h; cases h
  | some fn =>
    rw [hf] at h
    simp only [Bool.and_eq_true, Bool.not_eq_true'] at h
    exact ⟨fn, hf, h.1, by cases hb : fn.body with
      | none => rw [hb] at h; exact absurd h.2 (by decide)
      | some _ => rfl⟩

/-- a run, where it grows -/
def keepX (run : Ms → List Nat → Option Rx) (s : Ms) (f : List Nat) : Option Rx := (run s f).bind fun r => if s.tk ≤ r.ms.tk ∧ s.out.length ≤ r.ms.out.length then some r else none
theorem keepX_some {run : Ms → List Nat → Option Rx} {s : Ms} {f : List Nat} {r : Rx} (h : keepX run s f = some r) : run s f = some r ∧ Ms.le s r.ms := by
  unfold keepX at h
  cases hq : run s f with
  | none => rw [hq] at h; cases h
  | some r0 =>
    rw [hq] at h
    replace h : (if s.tk ≤ r0.ms.tk ∧ s.out.length ≤ r0.ms.out.length then some r0 else none) = some r := h
    split at h
    · cases h; exact ⟨rfl, by assumption⟩
    · cases h
theorem keepX_of {run : Ms → List Nat → Option Rx} {s : Ms} {f : List Nat} {r : Rx} (h : run s f = some r) (k : Ms.le s r.ms) : keepX run s f = some r := by
  unfold keepX
  rw [h]
  exact if_pos k
def keepS (run : Ms → Fr → Option Rs) (s : Ms) (f : Fr) : Option Rs := (run s f).bind fun r => if s.tk ≤ r.ms.tk ∧ s.out.length ≤ r.ms.out.length then some r else none
theorem keepS_some {run : Ms → Fr → Option Rs} {s : Ms} {f : Fr} {r : Rs} (h : keepS run s f = some r) : run s f = some r ∧ Ms.le s r.ms := by
  unfold keepS at h
  cases hq : run s f with
  | none => rw [hq] at h; cases h
  | some r0 =>
    rw [hq] at h
    replace h : (if s.tk ≤ r0.ms.tk ∧ s.out.length ≤ r0.ms.out.length then some r0 else none) = some r := h
    split at h
    · cases h; exact ⟨rfl, by assumption⟩
    · cases h
theorem keepS_of {run : Ms → Fr → Option Rs} {s : Ms} {f : Fr} {r : Rs} (h : run s f = some r) (k : Ms.le s r.ms) : keepS run s f = some r := by
  unfold keepS
  rw [h]
  exact if_pos k

theorem rX_ok (hz : ZR U m h X Z) (hi : InpAt A Z inp) (hro : RowsOK Z A ns) {ih : Rd} (hr : RdOK U m Z A inp bd n ih) {s : S} {x : Ex} {v : Value} (e : rX X h ih ns s = some x) (hd : s.den U m = some v) :
    ∃ g c, v = fnV g c ∧ Proofs.YtgmmfjmdpbhjnaaGreat.isFn Tryz.prog g ∧ BehX A Z g c (ev inp bd (n + 1) x) := by
  obtain ⟨q, e1, e⟩ := ob_some e
  obtain ⟨l, d1, rfl⟩ := asFn_ok e1 hd
  rcases sel_some e with ⟨hf, e⟩ | e
  · simp only [ob_eq] at e
    obtain ⟨d, e2, v1, e3, e⟩ := e
    obtain ⟨b1, x1, m1, rfl⟩ := cap1_ok e2 d1
    obtain ⟨u1, d2, z1⟩ := rdc_zc hz m1 e3
    obtain ⟨g, c, run, rfl, hg, hb, heq⟩ := rIn_ok hz hi hro hr e d2
    have gr := (grows_all inp bd (n + 1)).1 x
    rw [hf]
    refine ⟨_, _, rfl, fnOKg (by kernel_rfl), ?_⟩
    refine (counted_beh z1 hg (hb.ofRun fun s f r hh => (keepX_some hh).1) fun s f r hh => (keepX_some hh).2).ofRun fun s f r hh => ?_
    have k := gr s f r hh
    rw [heq] at hh
    exact keepX_of hh k
  · cases e

theorem rSto_ok (hz : ZR U m h X Z) {s : S} {q : Nat × Nat} {v : Value} (e : rSto X h s = some q) (hd : s.den U m = some v) :
    ∃ g c upd, v = fnV g c ∧ Proofs.YtgmmfjmdpbhjnaaGreat.isFn Tryz.prog g ∧ BehW A Z g c upd ∧ (∀ v s f r, upd v s f = some r → Ms.le s r.1) ∧
      ((q.1 = 1 ∧ ∀ v s f, (upd v s f : Option (Ms × Fr)) = if q.2 < f.sl.length then some (s, { f with sl := f.sl.set q.2 v }) else none) ∨ (q.1 = 2 ∧ ∀ v s f, upd v s f = some (s, f)) ∨ (q.1 = 3 ∧ ∀ v s f, upd v s f = some (s, { f with res := v }))) := by
  obtain ⟨p, e1, e⟩ := ob_some e
  obtain ⟨l, d1, rfl⟩ := asFn_ok e1 hd
  rcases sel_some e with ⟨hf, e⟩ | e
  · simp only [ob_eq] at e
    obtain ⟨d, e2, u, e3, i, e4, e⟩ := e
    cases e
    obtain ⟨b1, x1, m1, rfl⟩ := cap1_ok e2 d1
    obtain ⟨u1, d2, z1⟩ := rdc_zc hz m1 e3
    have := asN_ok e4 d2; subst this
    rw [hf]
    refine ⟨_, _, _, rfl, fnOKg (by kernel_rfl), setl_beh z1, fun v s f r hh => ?_, .inl ⟨rfl, fun v s f => rfl⟩⟩
    split at hh
    · cases hh; exact Ms.le_refl _
    · cases hh
  rcases sel_some e with ⟨hf, e⟩ | e
  · simp only [ob_eq, oif_eq] at e
    obtain ⟨d, e2, u', e3', b, e4', e5', u, e3, i, e4, e⟩ := e
    cases e
    obtain ⟨b1, x1, m1, rfl⟩ := cap1_ok e2 d1
    obtain ⟨u0, d0, z0⟩ := rdc_zc hz m1 e3'
    have := asB_ok e4' d0; subst this
    subst e5'
    obtain ⟨u1, d2, z1⟩ := rdc_zc hz m1 e3
    have := asN_ok e4 d2; subst this
    rw [hf]
    refine ⟨_, _, _, rfl, fnOKg (by kernel_rfl), setc_beh z0 z1, fun v s f r hh => ?_, .inl ⟨rfl, fun v s f => rfl⟩⟩
    split at hh
    · cases hh; exact Ms.le_refl _
    · cases hh
  rcases sel_some e with ⟨hf, e⟩ | e
  · obtain ⟨e2, e⟩ := oif_some e
    cases e
    have := cap0_ok e2 d1; subst this
    rw [hf]
    exact ⟨_, _, _, rfl, fnOKg (by kernel_rfl), setn_beh, fun v s f r hh => by cases hh; exact Ms.le_refl _, .inr (.inl ⟨rfl, fun v s f => rfl⟩)⟩
  rcases sel_some e with ⟨hf, e⟩ | e
  · obtain ⟨e2, e⟩ := oif_some e
    cases e
    have := cap0_ok e2 d1; subst this
    rw [hf]
    exact ⟨_, _, _, rfl, fnOKg (by kernel_rfl), setr_beh, fun v s f r hh => by cases hh; exact Ms.le_refl _, .inr (.inr ⟨rfl, fun v s f => rfl⟩)⟩
  · cases e
theorem rNo_ok {s : S} {q : Unit} {v : Value} (e : rNo s = some q) (hd : s.den U m = some v) : ∃ g c, v = fnV g c ∧ Proofs.YtgmmfjmdpbhjnaaGreat.isFn Tryz.prog g ∧ BehX A Z g c (fun s _ => some (.val 0 s)) := by
  obtain ⟨p, e1, e⟩ := ob_some e
  obtain ⟨l, d1, rfl⟩ := asFn_ok e1 hd
  rcases sel_some e with ⟨hf, e⟩ | e
  · obtain ⟨e2, e⟩ := oif_some e
    cases e
    have := cap0_ok e2 d1; subst this
    rw [hf]
    exact ⟨_, _, rfl, fnOKg (by kernel_rfl), nought_beh⟩
  · cases e
theorem rPut_ok (hz : ZR U m h X Z) {s : S} {q : (Nat × Nat) × S} {v : Value} (e : rPut X h s = some q) (hd : s.den U m = some v) :
    ∃ d1 d2 sv g2 c2 upd, v = fnV 193 #[ptrV d1, ptrV d2] ∧ Zc Z d1 0 sv ∧ q.2.den U m = some sv ∧ Zc Z d2 0 (fnV g2 c2) ∧ Proofs.YtgmmfjmdpbhjnaaGreat.isFn Tryz.prog g2 ∧ BehW A Z g2 c2 upd ∧ (∀ v s f r, upd v s f = some r → Ms.le s r.1) ∧
      ((q.1.1 = 1 ∧ ∀ v s f, (upd v s f : Option (Ms × Fr)) = if q.1.2 < f.sl.length then some (s, { f with sl := f.sl.set q.1.2 v }) else none) ∨ (q.1.1 = 2 ∧ ∀ v s f, upd v s f = some (s, f)) ∨ (q.1.1 = 3 ∧ ∀ v s f, upd v s f = some (s, { f with res := v }))) := by
  obtain ⟨p, e1, e⟩ := ob_some e
  obtain ⟨l, d1, rfl⟩ := asFn_ok e1 hd
  rcases sel_some e with ⟨hf, e⟩ | e
  · simp only [ob_eq] at e
    obtain ⟨c, e2, v1, e3, st, e4, u, e5, e⟩ := e
    cases e
    obtain ⟨b1, x1, b2, x2, m1, m2, rfl⟩ := cap2_ok e2 d1
    obtain ⟨u1, d2, z1⟩ := rdc_zc hz m2 e3
    obtain ⟨g, c', upd, rfl, hg, hb, hgr, ho⟩ := rSto_ok (A := A) hz e4 d2
    obtain ⟨u2, d3, z2⟩ := rdc_zc hz m1 e5
    exact ⟨b1, b2, u2, g, c', upd, by rw [hf], z2, d3, z1, hg, hb, hgr, ho⟩
  · cases e

theorem rLp_ok (hz : ZR U m h X Z) {ih : Rd} (hr : RdOK U m Z A inp bd n ih) {s : S} {q : Ex × List Sm × List Sm} {v : Value} (e : rLp X h ih s = some q) (hd : s.den U m = some v) (k : Nat) :
    ∃ g c, v = fnV g c ∧ Proofs.YtgmmfjmdpbhjnaaGreat.isFn Tryz.prog g ∧ BehS A Z g c (lpS (ev inp bd n q.1) (seqS (q.2.1.map (exS inp bd n))) (seqS (q.2.2.map (exS inp bd n))) k) := by
  obtain ⟨p, e1, e⟩ := ob_some e
  obtain ⟨l, d1, rfl⟩ := asFn_ok e1 hd
  rcases sel_some e with ⟨hf, e⟩ | e
  · simp only [ob_eq] at e
    obtain ⟨c, e2, v1, e3, x1, e4, v2, e5, l1, e6, v3, e7, l2, e8, e⟩ := e
    cases e
    obtain ⟨b1, x1', b2, x2, b3, x3, m1, m2, m3, rfl⟩ := cap3_ok e2 d1
    obtain ⟨w1, d2, z1⟩ := rdc_zc hz m1 e3
    obtain ⟨g1, c1, rfl, hg1, hb1⟩ := hr.x _ _ _ e4 d2
    obtain ⟨w2, d3, z2⟩ := rdc_zc hz m2 e5
    obtain ⟨g2, c2, rfl, hg2, hb2⟩ := hr.b _ _ _ e6 d3
    obtain ⟨w3, d4, z3⟩ := rdc_zc hz m3 e7
    obtain ⟨g3, c3, rfl, hg3, hb3⟩ := hr.b _ _ _ e8 d4
    rw [hf]
    exact ⟨_, _, rfl, fnOKg (by kernel_rfl), lps_beh z1 z2 z3 hg1 hg2 hg3 hb1 hb2 hb3 (ev_grows inp bd n x1) (exL_grows inp bd n l1) (exL_grows inp bd n l2) k⟩
  · cases e

/-- A statement's closure, but for its tick. -/
theorem rSt_ok (hz : ZR U m h X Z) (hro : RowsOK Z A ns) {ih : Rd} (hr : RdOK U m Z A inp bd n ih) {s : S} {x : Sm} {v : Value} (e : rSt X h ih ns s = some x) (hd : s.den U m = some v) :
    ∃ g c run, v = fnV g c ∧ Proofs.YtgmmfjmdpbhjnaaGreat.isFn Tryz.prog g ∧ BehS A Z g c run ∧ ∀ s f r, exS inp bd (n + 1) x s f = some r → run s.tick f = some r := by
  obtain ⟨q, e1, e⟩ := ob_some e
  obtain ⟨l, d1, hv⟩ := asFn_ok e1 hd
  rcases sel_some e with ⟨hf, e⟩ | e
  · obtain ⟨r, e2, e⟩ := ob_some e
    obtain ⟨b1, b2, sv, g2, c2, upd, hv', z1, d2, z2, hg2, hb2, hgr, ho⟩ := rPut_ok (A := A) hz e2 hd
    subst hv'
    rcases sel_some e with ⟨h1, e⟩ | e
    · have hu : ∀ v s f, (upd v s f : Option (Ms × Fr)) = if r.1.2 < f.sl.length then some (s, { f with sl := f.sl.set r.1.2 v }) else none := by
        rcases ho with ⟨_, k⟩ | ⟨k, _⟩ | ⟨k, _⟩
        · exact k
        · omega
        · omega
      cases hno : rNo r.2 with
      | some q' =>
        rw [hno] at e
        cases e
        obtain ⟨g1, c1, rfl, hg1, hb1⟩ := rNo_ok (A := A) (Z := Z) hno d2
        refine ⟨_, _, _, rfl, fnOKg (by kernel_rfl), put_beh z1 z2 hg1 hg2 hb1 hb2 hgr, fun s f r' hh => ?_⟩
        replace hh : (if r.1.2 < f.sl.length then some (Rs.go 0 s.tick { f with sl := f.sl.set r.1.2 0 }) else none) = some r' := hh
        show (match upd 0 s.tick f with | some r => some (Rs.go 0 r.1 r.2) | none => none) = some r'
        rw [hu]
        split at hh
        · rename_i hl; cases hh; rw [if_pos hl]
        · cases hh
      | none =>
        rw [hno] at e
        obtain ⟨a, e3, e⟩ := ob_some e
        cases e
        obtain ⟨t1, t2, c1, rfl, hb1⟩ := rAs_ok hz hr e3 d2
        refine ⟨_, _, _, rfl, fnOKg (by kernel_rfl), put_beh z1 z2 (fnOKg (by kernel_rfl)) hg2 hb1 hb2 hgr, fun s f r' hh => ?_⟩
        replace hh : Rx.onS (Rx.conv (ev inp bd n a.1 s.tick f.sl) a.2.1 a.2.2) (fun v s => if r.1.2 < f.sl.length then some (Rs.go 0 s { f with sl := f.sl.set r.1.2 v }) else none) = some r' := hh
        have : ∀ (o : Option Rx), Rx.onS o (fun v s => if r.1.2 < f.sl.length then some (Rs.go 0 s { f with sl := f.sl.set r.1.2 v }) else none) = some r' → Rx.onS o (fun v s => match upd v s f with | some r => some (Rs.go 0 r.1 r.2) | none => none) = some r' := fun o ho => by
          rw [← ho]
          congr 1
          funext v s
          rw [hu]
          by_cases hl : r.1.2 < f.sl.length
          · rw [if_pos hl, if_pos hl]
          · rw [if_neg hl, if_neg hl]
        exact this _ hh
    rcases sel_some e with ⟨h1, e⟩ | e
    · have hu : ∀ v s f, (upd v s f : Option (Ms × Fr)) = some (s, f) := by
        rcases ho with ⟨k, _⟩ | ⟨_, k⟩ | ⟨k, _⟩
        · omega
        · exact k
        · omega
      obtain ⟨a, e3, e⟩ := ob_some e
      cases e
      obtain ⟨g1, c1, rfl, hg1, hb1⟩ := hr.x _ _ _ e3 d2
      refine ⟨_, _, _, rfl, fnOKg (by kernel_rfl), put_beh z1 z2 hg1 hg2 hb1 hb2 hgr, fun s f r' hh => ?_⟩
      replace hh : Rx.onS (ev inp bd n a s.tick f.sl) (fun _ s => some (.go 0 s f)) = some r' := hh
      have : ∀ (o : Option Rx), Rx.onS o (fun _ s => some (Rs.go 0 s f)) = some r' → Rx.onS o (fun v s => match upd v s f with | some r => some (Rs.go 0 r.1 r.2) | none => none) = some r' := fun o ho => by
        rw [← ho]
        congr 1
        funext v s
        rw [hu]
      exact this _ hh
    · cases e
  rcases sel_some e with ⟨hf, e⟩ | e
  · obtain ⟨e2, e⟩ := oif_some e
    cases e
    have := cap0_ok e2 d1; subst this
    rw [hv, hf]
    exact ⟨_, _, _, rfl, fnOKg (by kernel_rfl), how1_beh, fun s f r hh => hh⟩
  rcases sel_some e with ⟨hf, e⟩ | e
  · simp only [ob_eq] at e
    obtain ⟨d, e2, v1, e3, r, e4, e⟩ := e
    obtain ⟨b0, x0, m0, rfl⟩ := cap1_ok e2 d1
    obtain ⟨w0, d0, z0⟩ := rdc_zc hz m0 e3
    obtain ⟨b1, b2, sv, g2, c2, upd, rfl, z1, d2, z2, hg2, hb2, hgr, ho⟩ := rPut_ok (A := A) hz e4 d0
    rcases sel_some e with ⟨h1, e⟩ | e
    · have hu : ∀ v s f, (upd v s f : Option (Ms × Fr)) = some (s, { f with res := v }) := by
        rcases ho with ⟨k, _⟩ | ⟨k, _⟩ | ⟨_, k⟩
        · omega
        · omega
        · exact k
      obtain ⟨a, e5, e⟩ := ob_some e
      cases e
      obtain ⟨t1, t2, c1, rfl, hb1⟩ := rAs_ok hz hr e5 d2
      rw [hv, hf]
      refine ⟨_, _, _, rfl, fnOKg (by kernel_rfl), ret_beh z0 (fnOKg (by kernel_rfl)) (put_beh z1 z2 (fnOKg (by kernel_rfl)) hg2 hb1 hb2 hgr), fun s f r' hh => ?_⟩
      replace hh : Rx.onS (Rx.conv (ev inp bd n a.1 s.tick f.sl) a.2.1 a.2.2) (fun v s => some (Rs.go 1 s { f with res := v })) = some r' := hh
      have : ∀ (o : Option Rx), Rx.onS o (fun v s => some (Rs.go 1 s { f with res := v })) = some r' → Rs.on (Rx.onS o (fun v s => match upd v s f with | some r => some (Rs.go 0 r.1 r.2) | none => none)) (fun h s f => some (.go (max h 1) s f)) = some r' := fun o ho => by
        rw [← ho]
        cases o with
        | none => rfl
        | some y =>
          cases y with
          | trap k s => rfl
          | val v s =>
            show Rs.on (match upd v s f with | some r => some (Rs.go 0 r.1 r.2) | none => none) _ = _
            rw [hu]; rfl
      exact this _ hh
    · cases e
  rcases sel_some e with ⟨hf, e⟩ | e
  · obtain ⟨e2, e⟩ := oif_some e
    cases e
    have := cap0_ok e2 d1; subst this
    rw [hv, hf]
    exact ⟨_, _, _, rfl, fnOKg (by kernel_rfl), how2_beh, fun s f r hh => hh⟩
  rcases sel_some e with ⟨hf, e⟩ | e
  · obtain ⟨e2, e⟩ := oif_some e
    cases e
    have := cap0_ok e2 d1; subst this
    rw [hv, hf]
    exact ⟨_, _, _, rfl, fnOKg (by kernel_rfl), how3_beh, fun s f r hh => hh⟩
  rcases sel_some e with ⟨hf, e⟩ | e
  · simp only [ob_eq] at e
    obtain ⟨c, e2, v1, e3, x1, e4, v2, e5, l1, e6, v3, e7, l2, e8, e⟩ := e
    cases e
    obtain ⟨b1, x1', b2, x2, b3, x3, m1, m2, m3, rfl⟩ := cap3_ok e2 d1
    obtain ⟨w1, d2, z1⟩ := rdc_zc hz m1 e3
    obtain ⟨g1, c1, rfl, hg1, hb1⟩ := hr.x _ _ _ e4 d2
    obtain ⟨w2, d3, z2⟩ := rdc_zc hz m2 e5
    obtain ⟨g2, c2, rfl, hg2, hb2⟩ := hr.b _ _ _ e6 d3
    obtain ⟨w3, d4, z3⟩ := rdc_zc hz m3 e7
    obtain ⟨g3, c3, rfl, hg3, hb3⟩ := hr.b _ _ _ e8 d4
    rw [hv, hf]
    exact ⟨_, _, _, rfl, fnOKg (by kernel_rfl), ite_beh z1 z2 z3 hg1 hg2 hg3 hb1 hb2 hb3 (exL_grows inp bd n l1) (exL_grows inp bd n l2), fun s f r hh => hh⟩
  rcases sel_some e with ⟨hf, e⟩ | e
  · simp only [ob_eq] at e
    obtain ⟨c, e2, v1, e3, x1, e4, v2, e5, l1, e6, v3, e7, e⟩ := e
    obtain ⟨b1, x1', b2, x2, b3, x3, m1, m2, m3, rfl⟩ := cap3_ok e2 d1
    obtain ⟨w1, d2, z1⟩ := rdc_zc hz m1 e3
    obtain ⟨g1, c1, rfl, hg1, hb1⟩ := hr.x _ _ _ e4 d2
    obtain ⟨w2, d3, z2⟩ := rdc_zc hz m2 e5
    obtain ⟨g2, c2, rfl, hg2, hb2⟩ := hr.b _ _ _ e6 d3
    obtain ⟨w3, d4, z3⟩ := rdc_zc hz m3 e7
    split at e
    · cases e
      cases d4
      rw [hv, hf]
      exact ⟨_, _, _, rfl, fnOKg (by kernel_rfl), while_beh z1 z2 z3 hg1 hg2 hb1 hb2 (ev_grows inp bd n x1) (exL_grows inp bd n l1) n, fun s f r hh => hh⟩
    · cases e
  rcases sel_some e with ⟨hf, e⟩ | e
  · simp only [ob_eq, oif_eq] at e
    obtain ⟨c, e2, v1, e3, r, e4, v2, e5, a, e6, u, e7, k, e8, e9, e⟩ := e
    cases e
    obtain ⟨b1, x1, b2, x2, b3, x3, m1, m2, m3, rfl⟩ := cap3_ok e2 d1
    obtain ⟨w1, d2, z1⟩ := rdc_zc hz m1 e3
    obtain ⟨g1, c1, rfl, hg1, hb1⟩ := rPl_ok hz hr e4 d2
    obtain ⟨w2, d3, z2⟩ := rdc_zc hz m2 e5
    obtain ⟨t1, t2, c2, rfl, hb2⟩ := rAs_ok hz hr e6 d3
    obtain ⟨w3, d4, z3⟩ := rdc_zc hz m3 e7
    have := asN_ok e8 d4; subst this
    obtain ⟨N, hN, hle⟩ := okRow_ok e9
    rw [hv, hf]
    refine ⟨_, _, _, rfl, fnOKg (by kernel_rfl), seta_beh z1 z2 z3 (hro k N hN) hg1 (fnOKg (by kernel_rfl)) (fnOKg (by kernel_rfl)) (fnOKg (by kernel_rfl)) hb1 hb2 (fun s f v s' hh => ?_) (fun s f r hh => grow_conv hh fun y hy => ev_grows inp bd n a.1 s f y hy), fun s f r hh => hh⟩
    obtain ⟨r0, h0, h1⟩ := Rx.on_some (k := fun v s => if v < r.1 then some (.val v s) else some (.trap 2 s)) hh
    cases r0 with
    | trap k s => cases h1
    | val y s =>
      replace h1 : (if y < r.1 then some (Rx.val y s) else some (.trap 2 s)) = some (.val v s') := h1
      split at h1
      · cases h1; omega
      · cases h1
  rcases sel_some e with ⟨hf, e⟩ | e
  · simp only [ob_eq] at e
    obtain ⟨c, e2, v1, e3, i1, e4, v2, e5, l1, e6, e⟩ := e
    cases e
    obtain ⟨b1, x1, b2, x2, m1, m2, rfl⟩ := cap2_ok e2 d1
    obtain ⟨w1, d2, z1⟩ := rdc_zc hz m1 e3
    obtain ⟨g1, c1, rfl, hg1, hb1⟩ := hr.b _ _ _ e4 d2
    obtain ⟨w2, d3, z2⟩ := rdc_zc hz m2 e5
    obtain ⟨g2, c2, rfl, hg2, hb2⟩ := rLp_ok hz hr e6 d3 n
    rw [hv, hf]
    exact ⟨_, _, _, rfl, fnOKg (by kernel_rfl), for_beh z1 z2 hg1 hg2 hb1 hb2 (fun s f r hh => Ms.le_trans (Ms.le_tick _) (lpS_le (ev_grows inp bd n l1.1) (exL_grows inp bd n l1.2.1) (exL_grows inp bd n l1.2.2) n hh)), fun s f r hh => hh⟩
  rcases sel_some e with ⟨hf, e⟩ | e
  · obtain ⟨l1, e2, e⟩ := ob_some e
    cases e
    obtain ⟨g1, c1, rfl, hg1, hb1⟩ := hr.b _ _ _ e2 hd
    exact ⟨_, _, _, rfl, hg1, hb1, fun s f r hh => hh⟩
  rcases sel_some e with ⟨hf, e⟩ | e
  · obtain ⟨e2, e⟩ := oif_some e
    cases e
    have := cap0_ok e2 d1; subst this
    rw [hv, hf]
    exact ⟨_, _, _, rfl, fnOKg (by kernel_rfl), how0_beh, fun s f r hh => hh⟩
  · cases e
theorem rS_ok (hz : ZR U m h X Z) (hro : RowsOK Z A ns) {ih : Rd} (hr : RdOK U m Z A inp bd n ih) {s : S} {x : Sm} {v : Value} (e : rS X h ih ns s = some x) (hd : s.den U m = some v) :
    ∃ g c, v = fnV g c ∧ Proofs.YtgmmfjmdpbhjnaaGreat.isFn Tryz.prog g ∧ BehS A Z g c (exS inp bd (n + 1) x) := by
  obtain ⟨q, e1, e⟩ := ob_some e
  obtain ⟨l, d1, rfl⟩ := asFn_ok e1 hd
  rcases sel_some e with ⟨hf, e⟩ | e
  · simp only [ob_eq] at e
    obtain ⟨d, e2, v1, e3, e⟩ := e
    obtain ⟨b1, x1, m1, rfl⟩ := cap1_ok e2 d1
    obtain ⟨u1, d2, z1⟩ := rdc_zc hz m1 e3
    obtain ⟨g, c, run, rfl, hg, hb, heq⟩ := rSt_ok hz hro hr e d2
    have gr := (grows_all inp bd (n + 1)).2.2 x
    rw [hf]
    refine ⟨_, _, rfl, fnOKg (by kernel_rfl), ?_⟩
    refine (stat_beh z1 hg (hb.ofRun fun s f r hh => (keepS_some hh).1) fun s f r hh => (keepS_some hh).2).ofRun fun s f r hh => ?_
    exact keepS_of (heq _ _ _ hh) (gr s f r hh)
  · cases e

theorem rL_ok (hz : ZR U m h X Z) {ih : Rd} (hr : RdOK U m Z A inp bd n ih) {b : Pa} {c : Nat} {x : Nat × Nat} (hm : m b = some (c, x)) : ∀ {k o : Nat} {l : List Sm}, rL X h ih b k o = some l →
    l.length = k ∧ ∃ (G : Nat → Nat) (C : Nat → Array Value), (∀ i, i < k → Zc Z c (o + i) (fnV (G i) (C i)) ∧ Proofs.YtgmmfjmdpbhjnaaGreat.isFn Tryz.prog (G i)) ∧ ∀ i y, l[i]? = some y → BehS A Z (G i) (C i) (exS inp bd n y)
  | 0, o, l, e => by cases e; exact ⟨rfl, fun _ => 0, fun _ => #[], fun i hi => by omega, fun i y e => by simp at e⟩
  | k + 1, o, l, e => by
    replace e : (ob (rdc X h b o) fun v => ob (ih.s v) fun x => ob (rL X h ih b k (Nat.succ o)) fun l => some (x :: l)) = some l := e
    simp only [ob_eq] at e
    obtain ⟨v, e1, y, e2, l', e3, e⟩ := e
    cases e
    obtain ⟨u, d1, z1⟩ := rdc_zc hz hm e1
    obtain ⟨g, cc, rfl, hg, hb⟩ := hr.s _ _ _ e2 d1
    obtain ⟨h1, G, C, h2, h3⟩ := rL_ok hz hr hm e3
    refine ⟨by simp [h1], fun i => match i with | 0 => g | i + 1 => G i, fun i => match i with | 0 => cc | i + 1 => C i, fun i hi => ?_, fun i y' e => ?_⟩
    · cases i with
      | zero => exact ⟨z1, hg⟩
      | succ i =>
        have := h2 i (by omega)
        rw [show o.succ + i = o + (i + 1) by omega] at this
        exact this
    · cases i with
      | zero => cases e; exact hb
      | succ i => exact h3 i y' (by simpa using e)

theorem rB_ok (hz : ZR U m h X Z) {ih : Rd} (hr : RdOK U m Z A inp bd n ih) {s : S} {l : List Sm} {v : Value} (e : rB X h ih s = some l) (hd : s.den U m = some v) :
    ∃ g c, v = fnV g c ∧ Proofs.YtgmmfjmdpbhjnaaGreat.isFn Tryz.prog g ∧ BehS A Z g c (seqS (l.map (exS inp bd n))) := by
  obtain ⟨q, e1, e⟩ := ob_some e
  obtain ⟨cl, d1, rfl⟩ := asFn_ok e1 hd
  rcases sel_some e with ⟨hf, e⟩ | e
  · simp only [ob_eq] at e
    obtain ⟨d, e2, v1, e3, e⟩ := e
    obtain ⟨b1, x1, m1, rfl⟩ := cap1_ok e2 d1
    obtain ⟨u1, d2, z1⟩ := rdc_zc hz m1 e3
    rw [hf]
    have gr : ∀ x ∈ l.map (exS inp bd n), ∀ s f r, x s f = some r → Ms.le s r.ms := fun x hx => by
      obtain ⟨y, _, rfl⟩ := List.mem_map.1 hx
      exact exS_grows inp bd n y
    split at e
    · cases e
      cases d2
      exact ⟨_, _, rfl, fnOKg (by kernel_rfl), block_beh (runs := []) (G := fun _ => 0) (C := fun _ => #[]) z1 (by simp) (fun i hi => by simp at hi) (fun i x e => by simp at e) (fun x hx => by simp at hx)⟩
    · rename_i b o k z
      obtain ⟨e4, e6⟩ := oif_some e
      simp only [Bool.and_eq_true, Nat.beq_eq, Nat.ble_eq] at e4
      obtain ⟨hk, hkl⟩ := e4
      subst hk
      obtain ⟨c, x, hmb, _, rfl⟩ := den_slE (U := U) (m := m) d2
      obtain ⟨h1, G, C, h2, h3⟩ := rL_ok hz hr hmb e6
      subst h1
      refine ⟨_, _, rfl, fnOKg (by kernel_rfl), block_beh (runs := l.map (exS inp bd n)) (G := G) (C := C) (by rw [List.length_map]; exact z1) (by rw [List.length_map]; exact hkl) (fun i hi => ?_) (fun i x e => ?_) gr⟩
      · rw [List.length_map] at hi
        obtain ⟨k1, k2⟩ := h2 i hi
        exact ⟨c, o * 1, rfl, by rw [Nat.mul_one]; exact k1, k2⟩
      · rw [List.getElem?_map] at e
        cases hq : l[i]? with
        | none => rw [hq] at e; cases e
        | some y => rw [hq] at e; cases e; exact h3 i y hq
    · cases e
  · cases e

/-- the functions' bodies lie where they were read -/
def BodOK (U : UU) (m : M) (h : Hp) (X : List Pa) (ns : List Nat) (Z : Nat → Option Obj) (A : Adr) (bd : List (List Sm × Nat)) : Prop :=
  ∀ k lb z, bd[k]? = some (lb, z) → z ≤ 1000000 ∧ ∃ d s v, s.den U m = some v ∧ (rd X h ns d).b s = some lb ∧ ∀ g c, v = fnV g c → BodyAt A Z k z g c
theorem BehF.ofRun {k : Nat} {run run' : List Nat → Ms → Option Rx} (hb : BehF A Z k run) (hi : ∀ l s r, run' l s = some r → run l s = some r) : BehF A Z k run' :=
  fun K w s l av r hz hm ha e => hb K w s l av r hz hm ha (hi _ _ _ e)
theorem f_ok (hbod : BodOK U m h X ns Z A bd) (hall : ∀ d, RdOK U m Z A inp bd n (rd X h ns d)) (k : Nat) : BehF A Z k (evF inp bd (n + 1) k) := by
  have hev : ∀ l s, evF inp bd (n + 1) k l s = match bd[k]? with
      | none => none
      | some (b, z) =>
        if s.cl = 60 then some (.trap 3 s)
        else match seqS (b.map (exS inp bd n)) { s with cl := s.cl + 1 } ⟨(l ++ List.replicate z 0).take z, 0⟩ with
        | some (.go _ s2 f) => if s2.cl = s.cl + 1 then some (.val f.res { s2 with cl := s.cl }) else none
        | some (.trap k s) => some (.trap k s)
        | none => none := fun l s => rfl
  cases hk : bd[k]? with
  | none =>
    intro K w s l av r _ _ _ e
    rw [hev, hk] at e
    cases e
  | some p =>
    obtain ⟨lb, z⟩ := p
    obtain ⟨hz, d, s, v, h1, h2, h3⟩ := hbod k lb z hk
    obtain ⟨g, c, rfl, hg, hb⟩ := (hall d).b s lb v h2 h1
    refine (run_beh (h3 g c rfl) hz hg hb).ofRun fun l s r e => ?_
    rw [hev, hk] at e
    exact e
theorem rd_ok (hz : ZR U m h X Z) (hi : InpAt A Z inp) (hro : RowsOK Z A ns) (hbod : BodOK U m h X ns Z A bd) : ∀ n d, RdOK U m Z A inp bd n (rd X h ns d)
  | 0, 0 => ⟨fun _ _ _ e => (by cases e), fun _ _ _ e => (by cases e), fun _ _ _ e => (by cases e), fun k K w s l av r _ _ _ e => (by cases e)⟩
  | n + 1, 0 => ⟨fun _ _ _ e => (by cases e), fun _ _ _ e => (by cases e), fun _ _ _ e => (by cases e), f_ok hbod fun d => rd_ok hz hi hro hbod n d⟩
  | 0, d + 1 => by
    have ih := rd_ok hz hi hro hbod 0 d
    refine ⟨fun s e v hh hd => ?_, fun s x v hh hd => ?_, fun s l v hh hd => rB_ok hz ih hh hd, ih.f⟩
    · obtain ⟨g, c, h1, h2, _⟩ := rX_ok (bd := bd) (n := 0) hz hi hro ih hh hd
      exact ⟨g, c, h1, h2, fun K w s f fb sb r _ _ _ _ _ e => by cases e⟩
    · obtain ⟨g, c, h1, h2, _⟩ := rS_ok (bd := bd) (n := 0) hz hro ih hh hd
      exact ⟨g, c, h1, h2, fun K w s f fb sb r _ _ _ _ _ e => by cases e⟩
  | n + 1, d + 1 => ⟨fun s e v hh hd => rX_ok hz hi hro (rd_ok hz hi hro hbod n d) hh hd, fun s x v hh hd => rS_ok hz hro (rd_ok hz hi hro hbod n d) hh hd, fun s l v hh hd => rB_ok hz (rd_ok hz hi hro hbod (n + 1) d) hh hd, f_ok hbod fun d => rd_ok hz hi hro hbod n d⟩
end
end Go.Proofs.YtgmmfjmdpbhjnaaGreat

/-
  eval.Wrong, where nothing is wrong: by what check.Program does.
-/
namespace Go.Proofs.YtgmmfjmdpbhjnaaGreat
open Go Go.RowKit Go.XM
section
variable {U : UU} {w0 : World} {prot : PP} {m : M} {h : Hp} {w w1 : World}
/-- Blocks that were laid by hand: nobody touches them. -/
theorem rel_nest (r : Rel U w0 prot m h w) (hb : Below w.heap.size w w1) : Rel U w1 ⟨fun c => prot.c c ∨ (w.heap.size ≤ c ∧ c < w1.heap.size), prot.p⟩ m h w1 :=
  ⟨rfl, rfl, rfl, Nat.le_refl _, fun c hc => by
    have r' := r.below hb
    rcases hc with hc | ⟨h1, h2⟩
    · exact ⟨(r'.keep c hc).1, rfl, (r'.keep c hc).2.2⟩
    · exact ⟨h2, rfl, fun b x e => by have := r.lt b c x e; omega⟩, (r.below hb).lt, r.new, r.inj, (r.below hb).obj, r.pend⟩
theorem rel_unnest {m' : M} {h' : Hp} {w2 : World} (r : Rel U w0 prot m h w) (hb : Below w.heap.size w w1) (r2 : Rel U w1 ⟨fun c => prot.c c ∨ (w.heap.size ≤ c ∧ c < w1.heap.size), prot.p⟩ m' h' w2) : Rel U w0 prot m' h' w2 := by
  have r' := r.below hb
  exact ⟨r2.os.trans r'.os, r2.tape.trans r'.tape, r2.output.trans r'.output, Nat.le_trans r'.size r2.size, fun c hc => ⟨(r2.keep c (.inl hc)).1, (r2.keep c (.inl hc)).2.1.trans (r'.keep c hc).2.1, (r2.keep c (.inl hc)).2.2⟩,
    r2.lt, r2.new, r2.inj, r2.obj, r2.pend⟩
end

/-- A block that paper does not know turns. -/
theorem rel_poke {U : UU} {w0 : World} {prot : PP} {m : M} {h : Hp} {w : World} (r : Rel U w0 prot m h w) {c o : Nat} {v : Value} (hm : ∀ b x, m b ≠ some (c, x)) (hp : ¬ prot.c c) : Rel U w0 prot m h (w.setCell ⟨c, o, none⟩ v) := by
  have he : ∀ b, b ≠ c → (w.setCell ⟨c, o, none⟩ v).heap[b]? = w.heap[b]? := fun b hb => Below.heap_setCell _ _ _ _ hb
  have hs : (w.setCell ⟨c, o, none⟩ v).heap.size = w.heap.size := by simp [World.setCell]
  exact ⟨r.os, r.tape, r.output, by rw [hs]; exact r.size, fun k hk => ⟨by rw [hs]; exact (r.keep k hk).1, (he k fun e => hp (e ▸ hk)).trans (r.keep k hk).2.1, (r.keep k hk).2.2⟩,
    fun b k x e => by rw [hs]; exact r.lt b k x e, r.new, r.inj, fun b k x o' e e' => by rw [he k fun q => hm b x (q ▸ e)]; exact r.obj b k x o' e e', r.pend⟩
theorem wrong_ok {call : CF} (hc : CallOK Tryz.prog call) {U : UU} {w0 : World} {prot : PP} {m : M} {h h' : Hp} {w : World} {p1 p2 t : S} {v1 v2 : Value} {lim : Nat} (hr : Rel U w0 prot m h w) (h1 : p1.den U m = some v1) (h2 : p2.den U m = some v2)
    (e : call false h 70 [.a (.ag [p1, p2])] = some (.tup [.s t, .ag [.i .i64 (.ofNat 0), .i .i64 (.ofNat 0)]], h')) (hl : lim ≤ 200000) :
    Calls Tryz.prog 44 #[.agg #[v1, v2], U.k 0, .int .i64 lim] w fun e w' => ∃ m' u, e = .returned u ∧ m.le m' ∧ Rel U w0 prot m' h' w' ∧ (V.tup [.s t, .ag [.i .i64 (.ofNat 0), .i .i64 (.ofNat 0)]]).den U m' = some u := by
  have hp : denVL U m [.a (.ag [p1, p2])] = some [.agg #[v1, v2]] := by
    show ob (ob (ob (p1.den U m) fun v => ob (ob (p2.den U m) fun v => ob (some []) fun l => some (v :: l)) fun l => some (v :: l)) fun vs => some (Value.agg vs.toArray)) (fun v => ob (some []) fun l => some (v :: l)) = _
    rw [h1, h2]; rfl
  have C : ∀ w1, Below w.heap.size w w1 → Calls Tryz.prog 70 #[.agg #[v1, v2]] w1 fun e w2 => ∃ (m' : M) (vt : Value), e = .returned (.tuple #[vt, .agg #[.int .i64 0, .int .i64 0]]) ∧ vt.oneCell' = true ∧ m.le m' ∧ Rel U w0 prot m' h' w2 ∧ t.den U m' = some vt ∧
      w1.heap.size ≤ w2.heap.size ∧ ∀ b, w.heap.size ≤ b → b < w1.heap.size → w2.heap[b]? = w1.heap[b]? ∧ ∀ p x, m' p ≠ some (b, x) := fun w1 hb => by
    refine (hc.run (rel_nest hr hb) hp e).2.mono fun e' w2 he => ?_
    obtain ⟨m', u, rfl, hle, hr2, hd⟩ := he
    obtain ⟨l, k1, hd⟩ := ob_some hd
    obtain ⟨vt, k2, k1⟩ := ob_some k1
    obtain ⟨l2, k3, k1⟩ := ob_some k1
    obtain ⟨va, k4, k3⟩ := ob_some k3
    have k4 : some (Value.agg #[.int .i64 0, .int .i64 0]) = some va := k4
    cases k4; cases k3; cases k1; cases hd
    exact ⟨m', vt, rfl, den_one k2, hle, rel_unnest hr hb hr2, k2, hr2.size, fun b hb1 hb2 => (hr2.keep b (.inr ⟨hb1, hb2⟩)).2⟩
  obtain ⟨ia, n, ic, hk, hn⟩ := U.hk
  rw [hk]
  have g1 : decide ((65536 : Int) < n) = false := decide_eq_false (by omega)
  have g2 : decide ((lim : Int) < 0) = false := decide_eq_false (by omega)
  have g3 : decide ((200000 : Int) < lim) = false := decide_eq_false (by omega)
  have o1 := den_one h1
  have o2 := den_one h2
  have HC := Lib.hid C
  clear C hp h1 h2 hk e hc
  have HR := Lib.hid hr
  clear hr
  go_enter Tryz.func44, Tryz.ntmps44
  go_wp2_with fail
  have hb : Below w.heap.size w ((w.alloc (.cells #[v1, v2] 49)).alloc (.cells #[.int .i64 0, .int .i64 0] 51)) :=
    ⟨rfl, rfl, rfl, by rw [alloc_sz, alloc_sz]; omega, fun b hb => by rw [Below.heap_alloc _ _ _ (by rw [alloc_sz]; omega), Below.heap_alloc _ _ _ hb]⟩
  have hnew := heap_alloc_new (w.alloc (.cells #[v1, v2] 49)) (.cells #[.int .i64 0, .int .i64 0] 51)
  have hsz : ((w.alloc (.cells #[v1, v2] 49)).alloc (.cells #[.int .i64 0, .int .i64 0] 51)).heap.size = w.heap.size + 2 := by rw [alloc_sz, alloc_sz]
  rw [alloc_sz] at hnew
  refine (HC.out _ hb).mono ?_
  generalize ((w.alloc (.cells #[v1, v2] 49)).alloc (.cells #[.int .i64 0, .int .i64 0] 51)) = w1 at *
  rintro e w2 ⟨m', vt, rfl, ovt, hle, hr2, dt, hsz2, hsame⟩
  have b7 : w2.heap[w.heap.size + 1]? = some (.cells #[.int .i64 0, .int .i64 0] 51) := (hsame _ (by omega) (by omega)).1.trans hnew
  have HUN := Lib.hid (hsame (w.heap.size + 1) (by omega) (by omega)).2
  have HNP := Lib.hid (show ¬ prot.c (w.heap.size + 1) from fun hp => by have := (HR.out.keep _ hp).1; omega)
  have c1 : w2.cell? ⟨w.heap.size + 1, 0, none⟩ = some (.int .i64 0) := blk_cell b7 0
  have c2 : w2.cell? ⟨w.heap.size + 1, 1, none⟩ = some (.int .i64 0) := blk_cell b7 1
  have f1 : w2.frozen? ⟨w.heap.size + 1, 0, none⟩ = false := blk_frozen b7 0
  have f2 : w2.frozen? ⟨w.heap.size + 1, 1, none⟩ = false := blk_frozen b7 1
  have hlt : w.heap.size + 1 < w2.heap.size := by omega
  have HB7 := Lib.hid b7
  have HQ := Lib.hid (And.intro hle (And.intro hr2 dt))
  clear hle hr2 dt hsame hnew b7 HC hb
  go_wp2_with fail
  have hnew2 := heap_alloc_new w2 (.cells #[.int .i64 0, .int .i64 0] 51)
  have d1 : (w2.alloc (.cells #[.int .i64 0, .int .i64 0] 51)).cell? ⟨w2.heap.size, 0, none⟩ = some (.int .i64 0) := blk_cell hnew2 0
  have d2 : (w2.alloc (.cells #[.int .i64 0, .int .i64 0] 51)).cell? ⟨w2.heap.size, 1, none⟩ = some (.int .i64 0) := blk_cell hnew2 1
  have hold := (Below.heap_alloc w2 (.cells #[.int .i64 0, .int .i64 0] 51) _ hlt).trans HB7.out
  have d3 : (w2.alloc (.cells #[.int .i64 0, .int .i64 0] 51)).cell? ⟨w.heap.size + 1, 0, none⟩ = some (.int .i64 0) := blk_cell hold 0
  have d4 : (w2.alloc (.cells #[.int .i64 0, .int .i64 0] 51)).cell? ⟨w.heap.size + 1, 1, none⟩ = some (.int .i64 0) := blk_cell hold 1
  have e3 : (w2.alloc (.cells #[.int .i64 0, .int .i64 0] 51)).frozen? ⟨w.heap.size + 1, 0, none⟩ = false := blk_frozen hold 0
  have e4 : (w2.alloc (.cells #[.int .i64 0, .int .i64 0] 51)).frozen? ⟨w.heap.size + 1, 1, none⟩ = false := blk_frozen hold 1
  have HR3 := Lib.hid (HQ.out.2.1.below ((Below.refl _ w2).alloc (Nat.le_refl _) (.cells #[.int .i64 0, .int .i64 0] 51)))
  have HBn := Lib.hid hnew2
  have HBk := Lib.hid hold
  clear hnew2 hold
  generalize (w2.alloc (.cells #[.int .i64 0, .int .i64 0] 51)) = w3 at *
  generalize w2.heap.size = nb at *
  generalize w.heap.size + 1 = kb at *
  have hS0 : (w3.drew.cell? ⟨nb, 0, none⟩ = some (.int .i64 0) ∧ w3.drew.cell? ⟨nb, 1, none⟩ = some (.int .i64 0) ∧ w3.drew.cell? ⟨kb, 0, none⟩ = some (.int .i64 0) ∧ w3.drew.cell? ⟨kb, 1, none⟩ = some (.int .i64 0) ∧ w3.drew.frozen? ⟨kb, 0, none⟩ = false ∧ w3.drew.frozen? ⟨kb, 1, none⟩ = false) := ⟨d1, d2, d3, d4, e3, e4⟩
  refine wp_region_G (D := []) (S := fun w' => w'.cell? ⟨nb, 0, none⟩ = some (.int .i64 0) ∧ w'.cell? ⟨nb, 1, none⟩ = some (.int .i64 0) ∧ w'.cell? ⟨kb, 0, none⟩ = some (.int .i64 0) ∧ w'.cell? ⟨kb, 1, none⟩ = some (.int .i64 0) ∧ w'.frozen? ⟨kb, 0, none⟩ = false ∧ w'.frozen? ⟨kb, 1, none⟩ = false) Tryz.checked.mixed hS0 (fun hS => ?_)
  refine wpAnyG_read (i := 0) (v := ?v0) rfl (by kernel_rfl) (by kernel_rfl) (by kernel_rfl) (by kernel_rfl) (by kernel_rfl) ?q0 ?g0 ?y0 hS ?_  -- move t8
  case y0 => intro w' h; obtain ⟨s1, s2, s3, s4, s5, s6⟩ := h; go_simp; exact rfl
  case g0 => rfl
  case q0 => exact fun _ _ _ h => h
  go_simp
  refine wpAnyG_read (i := 1) (v := ?v1) rfl (by kernel_rfl) (by kernel_rfl) (by kernel_rfl) (by kernel_rfl) (by kernel_rfl) ?q1 ?g1 ?y1 hS ?_  -- load 33 t9
  case y1 => intro w' h; obtain ⟨s1, s2, s3, s4, s5, s6⟩ := h; go_simp; exact rfl
  case g1 => rfl
  case q1 => exact fun _ _ _ h => h
  go_simp
  refine wpAnyG_one (i := 2) (by kernel_rfl) rfl rfl (fun K hK => ?_)
  go_wp2_with fail
  refine hK _ _ (fun _ => hS) ?_
  clear hK
  go_simp
  refine wpAnyG_one (i := 3) (by kernel_rfl) rfl rfl (fun K hK => ?_)
  have s1 : w3.cell? ⟨nb, 0, none⟩ = some (.int .i64 0) := hS.1
  have s2 : w3.cell? ⟨nb, 1, none⟩ = some (.int .i64 0) := hS.2.1
  have s3 : w3.cell? ⟨kb, 0, none⟩ = some (.int .i64 0) := hS.2.2.1
  have s4 : w3.cell? ⟨kb, 1, none⟩ = some (.int .i64 0) := hS.2.2.2.1
  have s5 : w3.frozen? ⟨kb, 0, none⟩ = false := hS.2.2.2.2.1
  have s6 : w3.frozen? ⟨kb, 1, none⟩ = false := hS.2.2.2.2.2
  clear hS hS0 c1 c2 f1 f2 d1 d2 d3 d4 e3 e4
  go_wp2_with fail
  refine hK _ _ (fun _ => ?_) ?_
  · have hne : nb ≠ kb := by omega
    have k1 := blk_set (blk_set (w := w3) HBk.out 0 (.int .i64 0)) 1 (.int .i64 0)
    have k2 := blk_other (blk_other (w := w3) HBn.out ⟨kb, 0, none⟩ (.int .i64 0) hne) ⟨kb, 1, none⟩ (.int .i64 0) hne
    exact ⟨blk_cell k2 0, blk_cell k2 1, blk_cell k1 0, blk_cell k1 1, blk_frozen k1 0, blk_frozen k1 1⟩
  clear hK
  go_simp
  refine wpAnyG_done (by kernel_rfl) ?_ _
  go_wp2_with fail
  have k1 := blk_set (blk_set (w := w3) HBk.out 0 (.int .i64 0)) 1 (.int .i64 0)
  have q1 : ((w3.setCell ⟨kb, 0, none⟩ (.int .i64 0)).setCell ⟨kb, 1, none⟩ (.int .i64 0)).cell? ⟨kb, 0, none⟩ = some (.int .i64 0) := blk_cell k1 0
  have q2 : ((w3.setCell ⟨kb, 0, none⟩ (.int .i64 0)).setCell ⟨kb, 1, none⟩ (.int .i64 0)).cell? ⟨kb, 1, none⟩ = some (.int .i64 0) := blk_cell k1 1
  refine bodyPost_ret (v := .tuple #[vt, .agg #[.int .i64 0, .int .i64 0]]) (by simp [results, Tryz.results44, go_sem, q1, q2]) rfl ⟨m', _, rfl, HQ.out.1, (rel_poke (rel_poke HR3.out HUN.out HNP.out) HUN.out HNP.out).drew, ?_⟩
  show (ob (ob (t.den U m') fun v => ob (some [Value.agg #[.int .i64 0, .int .i64 0]]) fun l => some (v :: l)) fun vs => some (Value.tuple vs.toArray)) = _
  rw [HQ.out.2.2]; rfl

noncomputable def iWrong (call : CF) (h : Hp) (l : List V) : Option (V × Hp) :=
  match l with
  | [.a (.ag [p1, p2]), .a (.s (.uk 0)), .a (.s (.i .i64 (.ofNat lim)))] => oif (Nat.ble lim 200000) (ob (call false h 70 [.a (.ag [p1, p2])]) fun r => match r.1 with
    | .tup [.s t, .ag [.i .i64 (.ofNat 0), .i .i64 (.ofNat 0)]] => some (.tup [.s t, .ag [.i .i64 (.ofNat 0), .i .i64 (.ofNat 0)]], r.2)
    | _ => none)
  | _ => none
noncomputable def intrW (off : Bool) (f : Nat) : Option (Hp → List V → Option (V × Hp)) :=
  Bool.rec (Bool.rec (intrC false f) (some (iWrong (runC 120))) (Nat.beq f 44)) (intrC true f) off
theorem intrW_ok : IntrOK Tryz.prog intrW := by
  intro off f g U w0 prot m h w args us r hI hr hd e
  unfold intrW at hI
  cases off with
  | true => exact intrC_ok hI hr hd e
  | false =>
    have hI : (Bool.rec (intrC false f) (some (iWrong (runC 120))) (Nat.beq f 44) : Option (Hp → List V → Option (V × Hp))) = some g := hI
    cases hb : Nat.beq f 44 with
    | false => rw [hb] at hI; exact intrC_ok hI hr hd e
    | true =>
      rw [hb] at hI
      cases hI
      have := Nat.eq_of_beq_eq_true hb; subst this
      unfold iWrong at e
      split at e
      · rename_i p1 p2 lim
        simp only [ob_eq, oif_eq] at e
        obtain ⟨e1, q, e2, e⟩ := e
        obtain ⟨q1, q2⟩ := q
        simp only at e
        split at e
        · rename_i t
          cases e
          obtain ⟨v, l1, d1, d2, rfl⟩ := denVL_cons hd
          obtain ⟨v', l2, d3, d4, rfl⟩ := denVL_cons d2
          obtain ⟨v'', l3, d5, d6, rfl⟩ := denVL_cons d4
          cases d6; cases d5; cases d3
          obtain ⟨vs, d7, rfl⟩ := den_agE d1
          obtain ⟨u1, d8, d7⟩ := ob_some d7
          obtain ⟨l4, d9, d7⟩ := ob_some d7
          obtain ⟨u2, d10, d9⟩ := ob_some d9
          cases d9; cases d7
          refine ⟨isFn_of Tryz.func44 (by kernel_rfl) (by kernel_rfl), (fun _ => ?_), fun h => by cases h⟩
          exact wrong_ok (runC_ok 120) hr d8 d10 e2 (by rwa [Nat.ble_eq] at e1)
        · cases e
      · cases e
/-- THE MACHINE ON PAPER, up to a run. -/
noncomputable def runW (k : Nat) : CF := xcall (xreg Tryz.prog) Tryz.prog TT ks intrW 100000 k
theorem runW_ok (k : Nat) : CallOK Tryz.prog (runW k) := xcall_ok (fun _ h => xreg_ok Tryz.checked.mixed h) (fun _ _ h => h) intrW_ok k
end Go.Proofs.YtgmmfjmdpbhjnaaGreat

/-
  A run on paper, up to machine.run, and what was made ready for it.
-/
namespace Go.Proofs.YtgmmfjmdpbhjnaaGreat
open Go Go.RowKit Go.XM

/-- what machine.run is given: the function, the functions' bodies and how many slots each has, the rows of all -/
structure Rdy where
  k : Nat
  bd : List (List Sm × Nat)
  gl : List (List Nat)

section
variable (X : List Pa) (h : Hp) (ns : List Nat) (d : Nat)
/-- the functions, one behind the other -/
noncomputable def rBd (b fb : Pa) (n : Nat) : Nat → Nat → Option (List (List Sm × Nat)) :=
  Nat.rec (motive := fun _ => Nat → Nat → Option (List (List Sm × Nat))) (fun _ _ => some []) (fun _ go o fo => ob (rdc X h b o) fun v => ob ((rd X h ns d).b v) fun l => ob (rdc X h fb fo) fun u => ob (asN .i64 u) fun z => oif (Nat.ble z 1000000) (ob (go (Nat.succ o) (Nat.succ fo)) fun r => some ((l, z) :: r))) n
end
noncomputable def isN (k : IntKind) (n : Nat) (s : S) : Bool := match s with | .i j (.ofNat m) => and (keq j k) (Nat.beq m n) | _ => false
noncomputable def isNils (s : S) : Bool := match s with | .nils => true | _ => false
noncomputable def isUk0 (s : S) : Bool := match s with | .uk 0 => true | _ => false
noncomputable def asSl1 (s : S) : Option (Pa × Nat × Nat) := match s with | .sl b o n z => oif (Nat.beq z 1) (some (b, o, n)) | _ => none
/-- a block whole: its cells -/
noncomputable def blkL (h : Hp) (p : Pa) (T k : Nat) : Option (List S) := ob (h.tr.at p) fun x => match x with
  | .cells c t n => oif (and (Nat.beq t (Nat.mul 2 T)) (Nat.beq n k)) (rdL c 0 k)
  | _ => none
/-- the machine, made ready: all is nought, what comes in is not known -/
noncomputable def rMach (h : Hp) (mp : Pa) : Option (((Pa × Nat × Nat) × (Pa × Nat × Nat)) × S) :=
  ob (h.tr.at mp) fun x => match x with
  | .cells c t k => oif (and (Nat.beq t (Nat.mul 2 95)) (Nat.beq k 12)) (
    ob (c.at (paN 0)) fun s0 => ob (c.at (paN 1)) fun s1 => ob (c.at (paN 2)) fun s2 => ob (c.at (paN 3)) fun s3 => ob (c.at (paN 4)) fun s4 => ob (c.at (paN 5)) fun s5 =>
    ob (c.at (paN 6)) fun s6 => ob (c.at (paN 7)) fun s7 => ob (c.at (paN 8)) fun s8 => ob (c.at (paN 9)) fun s9 => ob (c.at (paN 10)) fun s10 => ob (c.at (paN 11)) fun s11 =>
    oif (and (and (isN .i64 0 s0) (isN .i64 0 s1)) (and (and (isNils s2) (isN .i64 0 s3)) (and (and (isN .i64 0 s4) (isN .u64 0 s5)) (and (and (isN .i64 200000 s6) (isUk0 s7)) (isN .i64 0 s9)))))
      (ob (asSl1 s10) fun q => ob (asSl1 s11) fun r => oif (and (Nat.beq q.2.2 r.2.2) (Nat.ble q.2.2 1000000)) (some ((q, r), s8))))
  | _ => none
/-- the rows of all -/
noncomputable def u64L (l : List S) : Option (List Nat) := List.rec (motive := fun _ => Option (List Nat)) (some []) (fun s _ ih => ob (asN .u64 s) fun v => oif (Nat.blt v 18446744073709551616) (ob ih fun r => some (v :: r))) l
noncomputable def rRow (h : Hp) (s : S) : Option (Pa × List Nat) := ob (asSl1 s) fun q => oif (Nat.beq q.2.1 0) (ob (blkL h q.1 26 q.2.2) fun l => ob (u64L l) fun r => some (q.1, r))
noncomputable def rRows (h : Hp) (b : Pa) (n : Nat) : Nat → Option (List (Pa × List Nat)) :=
  Nat.rec (motive := fun _ => Nat → Option (List (Pa × List Nat))) (fun _ => some []) (fun _ go o => ob (rdc [] h b o) fun s => ob (rRow h s) fun r => ob (go (Nat.succ o)) fun l => some (r :: l)) n
noncomputable def rGl (h : Hp) (s : S) : Option (List (Pa × List Nat)) := match s with
  | .nils => some []
  | .sl b o n z => oif (and (Nat.beq z 1) (Nat.ble n 1000000)) (rRows h b n o)
  | _ => none
noncomputable def offX (X : List Pa) (s : S) : Bool := match s with | .nils => true | .sl b _ _ _ => not (anyPa X b) | _ => false
noncomputable def ndP (X : List Pa) : Bool := List.rec (motive := fun _ => Bool) true (fun p l ih => and (not (anyPa l p)) ih) X
def psL (rs : List (Pa × List Nat)) : List Pa := rs.map (·.1)
def nsL (rs : List (Pa × List Nat)) : List Nat := rs.map fun r => r.2.length
def vsL (rs : List (Pa × List Nat)) : List (List Nat) := rs.map (·.2)
/-- the machine's block, all blocks that turn, what is run -/
noncomputable def rRdy (d : Nat) (h : Hp) (vs : List V) : Option ((Pa × List Pa) × Rdy) :=
  match vs with
  | [.a (.s (.ptr mp 0)), .a (.s (.i .i64 (.ofNat k))), .a (.s .nils)] => ob (rMach h mp) fun q => ob (rGl h q.2) fun rs => oif (and (ndP (mp :: psL rs)) (offX (mp :: psL rs) q.2)) (ob (rBd (mp :: psL rs) h (nsL rs) d q.1.1.1 q.1.2.1 q.1.1.2.2 q.1.1.2.1 q.1.2.2.1) fun bd => some ((mp, mp :: psL rs), ⟨k, bd, vsL rs⟩))
  | _ => none

/-- eval.Run, up to its call of machine.run -/
def runK : Nat := 6
noncomputable def hRun : Option Hole := ob (TT 30) fun fn => holeAt fn runK 6
noncomputable def xRun (h : Hp) (p : V) : Option (St × Nat × List V) := ob hRun fun H => xhole (xreg Tryz.prog) Tryz.prog (ks 30) 100000 runK 6 H (runW 120) h [p, .a (.s (.uk 0)), .a (.s (.i .i64 (.ofNat 200000)))]
noncomputable def isSlS (s : S) : Bool := match s with | .nils => true | .sl _ _ _ _ => true | _ => false
/-- a text is read, and made ready -/
noncomputable def xText (n l : Nat) : Option (St × Nat × List V) := ob (runC 120 false ⟨.nil, 0⟩ 29 [.a (.s (.str n l))]) fun r => match r.1 with
  | .tup [.ag [p1, p2], .ag [.i .i64 (.ofNat 0), .i .i64 (.ofNat 0)]] => oif (and (isSlS p1) (isSlS p2)) (xRun r.2 (.a (.ag [p1, p2])))
  | _ => none
noncomputable def xReady (d n l : Nat) : Option Rdy := ob (xText n l) fun q => oif (Nat.beq q.2.1 50) (ob (rRdy d q.1.hp q.2.2) fun r => some r.2)
end Go.Proofs.YtgmmfjmdpbhjnaaGreat
