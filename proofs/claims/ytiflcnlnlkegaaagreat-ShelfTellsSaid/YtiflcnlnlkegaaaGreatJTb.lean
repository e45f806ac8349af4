/-
  Texts joined: TelK TelJ.
-/
import Derived.Test.YtiflcnlnlkegaaaGreatJMd
import Derived.Test.YtiflcnlnlkegaaaGreatJMc
/-
  Small things for runs on paper.
-/
namespace Go.Proofs.YtiflcnlnlkegaaaGreat
open Go Go.RowKit Go.XM
theorem rdL_len (c : Tr S) : ∀ (k i : Nat) {l : List S}, rdL c i k = some l → l.length = k
  | 0, i, l, e => by cases e; rfl
  | k + 1, i, l, e => by
    obtain ⟨s, h1, e⟩ := ob_some (show (ob (c.at (paN i)) fun s => ob (rdL c (Nat.succ i) k) fun l => some (s :: l)) = some l from e)
    obtain ⟨l', h2, e⟩ := ob_some e
    cases e
    simp [rdL_len c k _ h2]
theorem rdL_get (c : Tr S) : ∀ (k i : Nat) {l : List S}, rdL c i k = some l → ∀ j s, l[j]? = some s → c.at (paN (i + j)) = some s
  | 0, i, l, e, j, s, h => by cases e; simp at h
  | k + 1, i, l, e, j, s, h => by
    obtain ⟨x, h1, e⟩ := ob_some (show (ob (c.at (paN i)) fun s => ob (rdL c (Nat.succ i) k) fun l => some (s :: l)) = some l from e)
    obtain ⟨l', h2, e⟩ := ob_some e
    cases e
    cases j with
    | zero => cases h; exact h1
    | succ j =>
      have := rdL_get c k _ h2 j s (by simpa using h)
      rw [show i.succ + j = i + (j + 1) by omega] at this
      exact this
theorem KT_ks : ∀ (j : Nat) (K : SC) (l : List Oper), (KT j K l).ks = K.ks ∧ (KT j K l).n = K.n
  | 0, K, l => ⟨rfl, rfl⟩
  | j + 1, K, [] => ⟨rfl, rfl⟩
  | j + 1, K, o :: r => by
    have h := KT_ks j (K.tell o.dst) r
    show (KT j (K.tell o.dst) r).ks = _ ∧ (KT j (K.tell o.dst) r).n = _
    rw [h.1, h.2]
    cases o.dst with
    | none => exact ⟨rfl, rfl⟩
    | some d => rw [SC.tell_some]; exact ⟨rfl, rfl⟩
end Go.Proofs.YtiflcnlnlkegaaaGreat

/-
  Runs on paper in parts: from a state that is told, cut down to what is needed.
-/
namespace Go.Proofs.YtiflcnlnlkegaaaGreat
open Go Go.RowKit Go.XM

/-- blocks as rows of cells -/
noncomputable def keepL (h : Hp) (l : List Nat) : Option (List (Nat × List S × Nat)) := List.rec (motive := fun _ => Option (List (Nat × List S × Nat))) (some []) (fun k _ ih => ob (h.tr.at (paN k)) fun o => match o with | .cells c t n => ob (rdL c 0 n) fun r => ob ih fun q => some ((k, r, t) :: q) | _ => none) l
noncomputable def litT (L : List (Nat × List S × Nat)) : Option (Tr Ob) := List.rec (motive := fun _ => Option (Tr Ob)) (some .nil) (fun x _ ih => ob ih fun t => ob (trL x.2.1 0 .nil) fun c => t.put (.cells c x.2.2 x.2.1.length) (paN x.1)) L
theorem litT_at : ∀ {L : List (Nat × List S × Nat)} {t : Tr Ob}, litT L = some t → ∀ b o, t.at b = some o → ∃ k l y c, (k, l, y) ∈ L ∧ b = paN k ∧ o = .cells c y l.length ∧ ∀ j s, c.at (paN j) = some s → l[j]? = some s
  | [], t, e, b, o, h => by cases e; cases h
  | x :: L, t, e, b, o, h => by
    obtain ⟨t1, e1, e⟩ := ob_some (show (ob (litT L) fun t => ob (trL x.2.1 0 .nil) fun c => t.put (.cells c x.2.2 x.2.1.length) (paN x.1)) = some t from e)
    obtain ⟨c, e2, e⟩ := ob_some e
    by_cases hb : paN x.1 = b
    · subst hb
      rw [put_same _ _ _ _ e] at h
      cases h
      refine ⟨x.1, x.2.1, x.2.2, c, List.mem_cons_self, rfl, rfl, fun j s hs => ?_⟩
      rcases trL_ok e2 j s hs with ⟨_, q⟩ | q
      · simpa using q
      · cases q
    · rw [put_ne _ _ _ _ _ hb e] at h
      obtain ⟨k, l, y, c, h1, h2⟩ := litT_at e1 b o h
      exact ⟨k, l, y, c, List.mem_cons_of_mem _ h1, h2⟩
theorem keepL_at {h : Hp} : ∀ {l : List Nat} {L : List (Nat × List S × Nat)}, keepL h l = some L → ∀ k r y, (k, r, y) ∈ L → ∃ c, h.tr.at (paN k) = some (.cells c y r.length) ∧ ∀ j s, r[j]? = some s → c.at (paN j) = some s
  | [], L, e, k, r, y, hm => by cases e; cases hm
  | x :: l, L, e, k, r, y, hm => by
    obtain ⟨o, e1, e⟩ := ob_some (show (ob (h.tr.at (paN x)) fun o => match o with | .cells c t n => ob (rdL c 0 n) fun r => ob (keepL h l) fun q => some ((x, r, t) :: q) | _ => none) = some L from e)
    cases o with
    | map _ => cases e
    | cells c t n =>
      obtain ⟨r0, e2, e⟩ := ob_some e
      obtain ⟨q, e3, e⟩ := ob_some e
      cases e
      rcases List.mem_cons.1 hm with hm | hm
      · cases hm
        have hl := rdL_len _ _ _ e2
        refine ⟨c, by rw [hl]; exact e1, fun j s hs => ?_⟩
        have := rdL_get c _ _ e2 j s hs
        simpa using this
      · exact keepL_at e3 k r y hm
theorem Rel.lit {U : UU} {w w' : World} {C : Nat → Prop} {m : M} {h : Hp} (r : Rel U w ⟨C, fun _ _ => False⟩ m h w') {l : List Nat} {L : List (Nat × List S × Nat)} {t : Tr Ob} (e1 : keepL h l = some L) (e2 : litT L = some t) : Rel U w ⟨C, fun _ _ => False⟩ m ⟨t, h.next⟩ w' := by
  have at' : ∀ {b : Pa} {o : Ob}, t.at b = some o → ∃ c c' y n, o = .cells c' y n ∧ h.tr.at b = some (.cells c y n) ∧ ∀ j s, c'.at (paN j) = some s → c.at (paN j) = some s := fun {b o} ho => by
    obtain ⟨k, l', y, c', h1, h2, h3, h4⟩ := litT_at e2 b o ho
    obtain ⟨c, h5, h6⟩ := keepL_at e1 k l' y h1
    exact ⟨c, c', y, l'.length, h3, by rw [h2]; exact h5, fun j s hs => h6 j s (h4 j s hs)⟩
  refine ⟨r.os, r.tape, r.output, r.size, r.keep, r.lt, r.new, fun b b' c x x' o o' a1 a2 a3 a4 => ?_, fun b c x o a1 a2 => ?_, fun p o hp => hp.elim⟩
  · obtain ⟨_, _, _, _, _, k1, _⟩ := at' a3
    obtain ⟨_, _, _, _, _, k2, _⟩ := at' a4
    exact r.inj b b' c x x' _ _ a1 a2 k1 k2
  · obtain ⟨cc, c', y, n, rfl, k1, k2⟩ := at' a2
    have ho := r.obj b c x _ a1 k1
    cases hq : w'.heap[c]? with
    | none => rw [hq] at ho; exact ho.elim
    | some obj =>
      rw [hq] at ho
      cases obj <;> first | exact ho.elim | skip
      obtain ⟨g1, g2, g3, g4, g5, g6⟩ := ho
      exact ⟨g1, g2, g3, g4, fun i s hs => g5 i s (k2 i s hs), g6⟩

/-- a call's slots -/
noncomputable def keepE (e : E) (l : List Nat) : Option (List (Nat × V)) := List.rec (motive := fun _ => Option (List (Nat × V))) (some []) (fun k _ ih => ob (e.tr.at (paN k)) fun v => ob ih fun r => some ((k, v) :: r)) l
noncomputable def litE (l : List (Nat × V)) : Option (Tr V) := List.rec (motive := fun _ => Option (Tr V)) (some .nil) (fun x _ ih => ob ih fun t => t.put x.2 (paN x.1)) l
/-- a state that is told -/
structure Lit where
  L : List (Nat × List S × Nat)
  nx : Nat
  ev : List (Nat × V)
  df : List (Nat × List V)
noncomputable def cutSt (hl el : List Nat) (st : St) : Option Lit := ob (keepL st.hp hl) fun L => ob (keepE st.env el) fun ev => some ⟨L, st.hp.next, ev, st.df⟩
noncomputable def mkSt (x : Lit) : Option St := ob (litT x.L) fun t => ob (litE x.ev) fun e => some ⟨⟨[], e⟩, ⟨t, x.nx⟩, x.df⟩
theorem litE_at : ∀ {l : List (Nat × V)} {t : Tr V}, litE l = some t → ∀ p v, t.at p = some v → ∃ k, (k, v) ∈ l ∧ p = paN k
  | [], t, e, p, v, h => by cases e; cases h
  | x :: l, t, e, p, v, h => by
    obtain ⟨t1, e1, e⟩ := ob_some (show (ob (litE l) fun t => t.put x.2 (paN x.1)) = some t from e)
    by_cases hb : paN x.1 = p
    · subst hb
      rw [put_same _ _ _ _ e] at h
      cases h
      exact ⟨x.1, List.mem_cons_self, rfl⟩
    · rw [put_ne _ _ _ _ _ hb e] at h
      obtain ⟨k, h1, h2⟩ := litE_at e1 p v h
      exact ⟨k, List.mem_cons_of_mem _ h1, h2⟩
theorem keepE_at {env : E} : ∀ {l : List Nat} {r : List (Nat × V)}, keepE env l = some r → ∀ k v, (k, v) ∈ r → env.tr.at (paN k) = some v
  | [], r, e, k, v, hm => by cases e; cases hm
  | x :: l, r, e, k, v, hm => by
    obtain ⟨y, e1, e⟩ := ob_some (show (ob (env.tr.at (paN x)) fun v => ob (keepE env l) fun r => some ((x, v) :: r)) = some r from e)
    obtain ⟨q, e2, e⟩ := ob_some e
    cases e
    rcases List.mem_cons.1 hm with hm | hm
    · cases hm; exact e1
    · exact keepE_at e2 k v hm
/-! ### states out of a number -/
section
variable {α : Type}
/-- the next number: how many bits (eight; 255: sixteen more), the bits -/
noncomputable def pop (n : Nat) (k : Nat → Nat → α) : α := forceN (Nat.mod n 256) fun b => Bool.rec
  (forceN (Nat.mod (Nat.div n 256) (Nat.pow 2 b)) fun v => forceN (Nat.div n (Nat.pow 2 (Nat.add 8 b))) fun r => k v r)
  (forceN (Nat.mod (Nat.div n 256) 65536) fun b => forceN (Nat.mod (Nat.div n 16777216) (Nat.pow 2 b)) fun v => forceN (Nat.div n (Nat.pow 2 (Nat.add 24 b))) fun r => k v r) (Nat.beq b 255)
noncomputable def dPa (n : Nat) (k : Pa → Nat → α) : α := pop n fun x n => k (paN x) n
noncomputable def dMany {β : Type} (d : Nat → (β → Nat → α) → α) (c : Nat) : Nat → (List β → Nat → α) → α := Nat.rec (motive := fun _ => Nat → (List β → Nat → α) → α) (fun n k => k [] n) (fun _ ih n k => d n fun x n => ih n fun l n => k (x :: l) n) c
noncomputable def dKind (t : Nat) : IntKind := match t with | 0 => .i8 | 1 => .i16 | 2 => .i32 | 3 => .i64 | 4 => .u8 | 5 => .u16 | 6 => .u32 | _ => .u64
noncomputable def dS (n : Nat) (k : S → Nat → α) : α := pop n fun t n => Bool.rec
  (pop n fun v n => k (.i (dKind (Nat.sub t 16)) (.ofNat v)) n)
  (match t with
    | 0 => k (.bo false) n
    | 1 => k (.bo true) n
    | 2 => pop n fun a n => pop n fun b n => k (.str a b) n
    | 3 => k .ustr n
    | 4 => pop n fun j n => k (.uk j) n
    | 5 => k .nilp n
    | 6 => dPa n fun b n => pop n fun o n => k (.ptr b o) n
    | 7 => k .nils n
    | 8 => dPa n fun b n => pop n fun o n => pop n fun l n => pop n fun z n => k (.sl b o l z) n
    | 9 => dPa n fun b n => k (.emp b) n
    | 10 => k .nilm n
    | 11 => dPa n fun b n => k (.mp b) n
    | 12 => pop n fun f n => pop n fun c n => dMany (β := Pa × Nat) (fun n k => dPa n fun b n => pop n fun o n => k (b, o) n) c n fun l n => k (.fn f l) n
    | 13 => k .nilf n
    | 14 => k .nili n
    | _ => pop n fun i n => pop n fun v n => k (.i (dKind i) (.negSucc v)) n) (Nat.blt t 16)
noncomputable def dA (n : Nat) (k : A → Nat → α) : α := pop n fun t n => match t with
  | 0 => dS n fun x n => k (.s x) n
  | c + 1 => dMany dS c n fun l n => k (.ag l) n
noncomputable def dV (n : Nat) (k : V → Nat → α) : α := pop n fun t n => match t with
  | 0 => dA n fun x n => k (.a x) n
  | c + 1 => dMany dA c n fun l n => k (.tup l) n
noncomputable def dRow (n : Nat) (k : Nat × List S × Nat → Nat → α) : α := pop n fun b n => pop n fun t n => pop n fun c n => dMany dS c n fun l n => k (b, l, t) n
noncomputable def dRows (n : Nat) (k : List (Nat × List S × Nat) → Nat → α) : α := pop n fun c n => dMany dRow c n k
end
noncomputable def dLit (n : Nat) : Lit := dRows n fun L n => pop n fun nx n => pop n fun c n => dMany (β := Nat × V) (fun n k => pop n fun j n => dV n fun v n => k (j, v) n) c n fun ev n => pop n fun c n =>
  dMany (β := Nat × List V) (fun n k => pop n fun f n => pop n fun c n => dMany dV c n fun l n => k (f, l) n) c n fun df _ => ⟨L, nx, ev, df⟩
noncomputable def dVal (n : Nat) : V := dV n fun v _ => v
noncomputable def dBlks (n : Nat) : List (Nat × List S × Nat) := dRows n fun L _ => L
section
variable {U : UU} {w0 : World} {C : Nat → Prop} {m : M} {a : Act} {w : World}
theorem lit_cut {K K' : SC} {st st' : St} {hl el : List Nat} {x : Lit} (s : SR U w0 ⟨C, fun _ _ => False⟩ m K st a w) (h1 : K'.n = K.n) (h2 : K'.ks = K.ks) (h3 : K'.ds = []) (e1 : cutSt hl el st = some x) (e2 : mkSt x = some st') : SR U w0 ⟨C, fun _ _ => False⟩ m K' st' a w := by
  obtain ⟨L, e3, e1⟩ := ob_some e1
  obtain ⟨ev, e4, e1⟩ := ob_some e1
  cases e1
  obtain ⟨t, e5, e2⟩ := ob_some e2
  obtain ⟨te, e6, e2⟩ := ob_some e2
  cases e2
  refine ⟨Rel.lit s.rel e3 e5, ⟨s.env.size.trans h1.symm, fun t k v _ hk _ => ?_, fun t k v _ hk hv => ?_⟩, s.df⟩
  · rw [h3] at hk; cases hk
  · obtain ⟨k', h4, h5⟩ := litE_at e6 _ v hv
    rw [h2] at hk
    exact s.env.tr t k v trivial hk (by rw [h5]; exact keepE_at e4 k' v h4)

/-- how a call ends -/
def Ends (U : UU) (w0 : World) (C : Nat → Prop) (m0 : M) (v : V) (h : Hp) (e : Ending) (w' : World) : Prop :=
  ∃ m' u, e = .returned u ∧ m0.le m' ∧ Rel U w0 ⟨C, fun _ _ => False⟩ m' h w' ∧ v.den U m' = some u
/-- a function called in a heap on paper -/
def CallsAt (f : Nat) (args : List V) (h0 : Hp) (v : V) (h1 : Hp) : Prop :=
  ∀ (U : UU) (w0 : World) (C : Nat → Prop) (m : M) (w : World) (us : List Value), Rel U w0 ⟨C, fun _ _ => False⟩ m h0 w → denVL U m args = some us → Calls Tryz.prog f us.toArray w (Ends U w0 C m v h1)
theorem CallsAt.of_run {k f : Nat} {args : List V} {h0 h1 : Hp} {v : V} (e : runC k false h0 f args = some (v, h1)) : CallsAt f args h0 v h1 :=
  fun _ _ _ _ _ _ r hd => ((runC_ok k).run r hd e).2
theorem CallsAt.cut {f : Nat} {args : List V} {h0 h1 : Hp} {v : V} {l : List Nat} {L : List (Nat × List S × Nat)} {t : Tr Ob} (c : CallsAt f args h0 v h1) (e1 : keepL h1 l = some L) (e2 : litT L = some t) : CallsAt f args h0 v ⟨t, h1.next⟩ :=
  fun U w0 C m w us r hd => (c U w0 C m w us r hd).mono fun _ _ ⟨m', u, q1, q2, q3, q4⟩ => ⟨m', u, q1, q2, Rel.lit q3 e1 e2, q4⟩

/-- inside a loop -/
def loopwp (c : Code) (Q : Exit → Act → World → Prop) (a : Act) (w : World) : Prop := ∀ (b : Frame) (k : List Item) (cs : List Frame), ∃ e a' w', Q e a' w' ∧ Arrives Tryz.prog (lone (b.at a (.code c :: .inLoop c :: k)) cs w) b k cs e a' w'
theorem loopwp.wp {c : Code} {Q : Exit → Act → World → Prop} (h : loopwp c Q a w) : (Code.loop c).wp Tryz.prog Q a w := fun b k cs => by
  obtain ⟨e', a', w', hq, harr⟩ := h b k cs
  exact ⟨e', a', w', hq, .of_steps (.one step_loop) harr⟩
theorem loopwp.step {c : Code} {Q : Exit → Act → World → Prop} (h : c.wp Tryz.prog (fun e a' w' => e = .normal ∧ loopwp c Q a' w') a w) : loopwp c Q a w := fun b k cs => by
  obtain ⟨e, a1, w1, ⟨rfl, hq⟩, harr⟩ := h b (.inLoop c :: k) cs
  obtain ⟨e2, a2, w2, hq2, harr2⟩ := hq b k cs
  exact ⟨e2, a2, w2, hq2, .of_steps (Steps.trans harr (.one step_inLoop)) harr2⟩
theorem loopwp.mono {c : Code} {Q Q' : Exit → Act → World → Prop} (h : loopwp c Q a w) (hq : ∀ e a w, Q e a w → Q' e a w) : loopwp c Q' a w := fun b k cs =>
  let ⟨e, a', w', q, r⟩ := h b k cs; ⟨e, a', w', hq _ _ _ q, r⟩
end
/-- the loop ahead -/
def loopOf : Code → Option (Nat × Code)
  | .block i (.loop b) => some (i, b)
  | _ => none
theorem loopOf_eq {c b : Code} {i : Nat} (h : loopOf c = some (i, b)) : c = .block i (.loop b) := by
  unfold loopOf at h
  split at h
  · cases h; rfl
  · cases h
/-- code, one behind the other -/
def fl : Code → List Code
  | .seq x y => fl x ++ fl y
  | c => [c]
noncomputable def cwpL : List Code → (Exit → Act → World → Prop) → Act → World → Prop
  | [], Q, a, w => Q .normal a w
  | c :: r, Q, a, w => match loopOf c with
    | some (i, b) => loopwp b (Exit.inBlock i (Exit.then (cwpL r Q) Q)) a w
    | none => c.wp Tryz.prog (Exit.then (cwpL r Q) Q) a w
theorem then_mono {A A' : Act → World → Prop} {Q Q' : Exit → Act → World → Prop} (h1 : ∀ a w, A a w → A' a w) (h2 : ∀ e a w, Q e a w → Q' e a w) : ∀ e a w, Exit.then A Q e a w → Exit.then A' Q' e a w := fun e _ _ h => by
  cases e <;> first | exact h1 _ _ h | exact h2 _ _ _ h
theorem inBlock_mono {i : Nat} {Q Q' : Exit → Act → World → Prop} (h2 : ∀ e a w, Q e a w → Q' e a w) : ∀ e a w, Exit.inBlock i Q e a w → Exit.inBlock i Q' e a w := fun e a w h => by
  cases e with
  | exit j =>
    show (if j = i then _ else _)
    have h : (if j = i then Q .normal a w else Q (.exit j) a w) := h
    by_cases hj : j = i
    · rw [if_pos hj] at h ⊢; exact h2 _ _ _ h
    · rw [if_neg hj] at h ⊢; exact h2 _ _ _ h
  | _ => exact h2 _ _ _ h
theorem cwpL_mono : ∀ (l : List Code) {Q Q' : Exit → Act → World → Prop} {a : Act} {w : World}, cwpL l Q a w → (∀ e a w, Q e a w → Q' e a w) → cwpL l Q' a w
  | [], _, _, _, _, h, hq => hq _ _ _ h
  | c :: r, Q, Q', a, w, h, hq => by
    unfold cwpL at h ⊢
    split at h
    · exact h.mono (inBlock_mono (then_mono (fun a w h => cwpL_mono r h hq) hq))
    · exact wp_mono h (then_mono (fun a w h => cwpL_mono r h hq) hq)
theorem cwpL_app : ∀ (l k : List Code) {Q : Exit → Act → World → Prop} {a : Act} {w : World}, cwpL (l ++ k) Q a w → cwpL l (Exit.then (cwpL k Q) Q) a w
  | [], k, Q, a, w, h => h
  | c :: r, k, Q, a, w, h => by
    have key : ∀ e a w, Exit.then (cwpL (r ++ k) Q) Q e a w → Exit.then (cwpL r (Exit.then (cwpL k Q) Q)) (Exit.then (cwpL k Q) Q) e a w := fun e a w h => by
      cases e <;> first | exact cwpL_app r k h | exact h
    rw [List.cons_append] at h
    unfold cwpL at h ⊢
    split at h
    · exact h.mono (inBlock_mono key)
    · exact wp_mono h key
theorem cwpL_one {c : Code} {Q : Exit → Act → World → Prop} {a : Act} {w : World} (h : cwpL [c] Q a w) : c.wp Tryz.prog Q a w := by
  have key : ∀ e a w, Exit.then (cwpL [] Q) Q e a w → Q e a w := fun e a w h => by cases e <;> exact h
  unfold cwpL at h
  split at h
  · rename_i i b hl
    rw [loopOf_eq hl]
    exact wp_block (h.mono (inBlock_mono key)).wp
  · exact wp_mono h key
theorem cwpL_wp : ∀ (c : Code) {Q : Exit → Act → World → Prop} {a : Act} {w : World}, cwpL (fl c) Q a w → c.wp Tryz.prog Q a w
  | .seq x y, _, _, _, h => wp_seq (cwpL_wp x (cwpL_mono (fl x) (cwpL_app (fl x) (fl y) h) (then_mono (fun _ _ h => cwpL_wp y h) fun _ _ _ h => h)))
  | .skip, _, _, _, h => cwpL_one h
  | .region _ _ _, _, _, _, h => cwpL_one h
  | .cond _ _ _, _, _, _, h => cwpL_one h
  | .block _ _, _, _, _, h => cwpL_one h
  | .loop _, _, _, _, h => cwpL_one h
  | .exit _, _, _, _, h => cwpL_one h
  | .ret, _, _, _, h => cwpL_one h
  | .rangeFunc _ _ _ _, _, _, _, h => cwpL_one h
  | .scope _, _, _, _, h => cwpL_one h
  | .label _, _, _, _, h => cwpL_one h
  | .goto _, _, _, _, h => cwpL_one h
  | .refuse _, _, _, _, h => cwpL_one h

/-- from a state that is told the function ends so -/
def Lands (f k j : Nat) (x : Lit) (v : V) (h : Hp) : Prop := ∀ (fn : Func) (b : Code) (st : St), TT f = some fn → fn.body = some b → mkSt x = some st →
  ∀ (U : UU) (w0 : World) (C : Nat → Prop) (m0 m : M) (a : Act) (w : World), m0.le m → SR U w0 ⟨C, fun _ _ => False⟩ m ⟨fn.ntmps, ks f, []⟩ st a w → cwpL ((fl (behind k b)).drop j) (bodyPostD Tryz.prog fn (Ends U w0 C m0 v h)) a w

noncomputable def Kf (f : Nat) (fn : Func) : SC := ⟨fn.ntmps, ks f, []⟩
/-- code, one behind the other, on paper -/
noncomputable def xlist (K : SC) : List Code → Option (CF → St → Option (XM.Ex × St))
  | [] => some fun _ st => some (.nx, st)
  | c :: r => ob (xcode (xreg Tryz.prog K) Tryz.prog K 100000 c) fun ra => ob (xlist K r) fun rb => some fun call st => ob (ra call st) fun q => match q.1 with
    | .nx => rb call q.2
    | _ => some q
noncomputable def onNx (x : Option (XM.Ex × St)) : Option St := ob x fun r => match r.1 with | .nx => some r.2 | _ => none
noncomputable def iterN (f : St → Option (XM.Ex × St)) (n : Nat) : St → Option St := Nat.rec (motive := fun _ => St → Option St) (fun st => some st) (fun _ ih st => ob (onNx (f st)) ih) n
theorem xloop_lw {U : UU} {w0 : World} {prot : PP} {K : SC} {c : Code} {f : St → Option (XM.Ex × St)} {Q : Exit → Act → World → Prop}
    (hf : ∀ {Q : Exit → Act → World → Prop} {st : St} {r : XM.Ex × St} {m : M} {a : Act} {w : World}, f st = some r → SR U w0 prot m K st a w → (∀ m' a' w', m.le m' → SR U w0 prot m' K r.2 a' w' → Q r.1.e a' w') → c.wp Tryz.prog Q a w) :
    ∀ (k : Nat) {st : St} {r : XM.Ex × St} {m : M} {a : Act} {w : World}, xloop f k st = some r → SR U w0 prot m K st a w → (∀ m' a' w', m.le m' → SR U w0 prot m' K r.2 a' w' → Q r.1.e a' w') → loopwp c Q a w := by
  intro k
  induction k with
  | zero => intro st r m a w e; cases e
  | succ k ih =>
    intro st r m a w e s K1 b kk cs
    obtain ⟨q, e1, e2⟩ := ob_some e
    obtain ⟨qe, qs⟩ := q
    cases qe with
    | nx =>
      have hw := hf (Q := fun e a' w' => e = .normal ∧ ∃ m', m.le m' ∧ SR U w0 prot m' K qs a' w') e1 s (fun m' a' w' l1 s1 => ⟨rfl, m', l1, s1⟩)
      obtain ⟨e, a1, w1, ⟨rfl, m1, l1, s1⟩, harr⟩ := hw b (.inLoop c :: kk) cs
      obtain ⟨e2', a2, w2, hq, harr2⟩ := ih (st := qs) e2 s1 (fun m' a' w' l2 s2 => K1 m' a' w' (M.le_trans l1 l2) s2) b kk cs
      exact ⟨e2', a2, w2, hq, .of_steps (Steps.trans harr (.one step_inLoop)) harr2⟩
    | ex id =>
      cases e2
      obtain ⟨e, a1, w1, ⟨rfl, hq⟩, harr⟩ := hf (Q := fun e a' w' => e = .exit id ∧ Q (.exit id) a' w') e1 s (fun m' a' w' l1 s1 => ⟨rfl, K1 m' a' w' l1 s1⟩) b (.inLoop c :: kk) cs
      exact ⟨_, a1, w1, hq, .pass (x := .inLoop c) rfl (fun _ _ => .inl (by simp)) harr⟩
    | rt =>
      cases e2
      obtain ⟨e, a1, w1, ⟨rfl, hq⟩, harr⟩ := hf (Q := fun e a' w' => e = .ret ∧ Q .ret a' w') e1 s (fun m' a' w' l1 s1 => ⟨rfl, K1 m' a' w' l1 s1⟩) b (.inLoop c :: kk) cs
      exact ⟨_, a1, w1, hq, .pass (x := .inLoop c) rfl (fun _ _ => .inl (by simp)) harr⟩
theorem xcode_cwpL {U : UU} {w0 : World} {prot : PP} {K : SC} {c : Code} {l : List Code} {run : CF → St → Option (XM.Ex × St)} {Q : Exit → Act → World → Prop} {st : St} {r : XM.Ex × St} {m : M} {a : Act} {w : World} (hds : K.ds = []) (hx : xcode (xreg Tryz.prog K) Tryz.prog K 100000 c = some run) (e : run (runC 120) st = some r) (s : SR U w0 prot m K st a w)
    (K1 : ∀ m' a' w', m.le m' → SR U w0 prot m' K r.2 a' w' → Exit.then (cwpL l Q) Q r.1.e a' w') : cwpL (c :: l) Q a w := by
  have hreg : RegOK Tryz.prog K (xreg Tryz.prog K) := xreg_ok Tryz.checked.mixed hds
  unfold cwpL
  split
  · rename_i i b hl
    have := loopOf_eq hl
    subst this
    obtain ⟨rl, h3, hx⟩ := ob_some hx
    cases hx
    obtain ⟨rq, h4, h3⟩ := ob_some h3
    cases h3
    obtain ⟨p, e3, e4⟩ := ob_some e
    obtain ⟨pe, ps⟩ := p
    refine xloop_lw (f := rq (runC 120)) (fun e s K => xcode_ok hreg hds (runC_ok 120) h4 e s K) 100000 e3 s fun m1 a1 w1 l1 s1 => ?_
    cases pe with
    | nx => cases e4; exact K1 m1 a1 w1 l1 s1
    | rt => cases e4; exact K1 m1 a1 w1 l1 s1
    | ex j =>
      show (if j = i then _ else _)
      have e4 : (Bool.rec (some (XM.Ex.ex j, ps)) (some (XM.Ex.nx, ps)) (Nat.beq j i) : Option (XM.Ex × St)) = some r := e4
      by_cases hj : j = i
      · subst hj
        rw [if_pos rfl]
        rw [Nat.beq_refl] at e4
        cases e4
        exact K1 m1 a1 w1 l1 s1
      · rw [if_neg hj]
        rw [beq0 hj] at e4
        cases e4
        exact K1 m1 a1 w1 l1 s1
  · exact xcode_ok hreg hds (runC_ok 120) hx e s K1
theorem xlist_cwpL {U : UU} {w0 : World} {prot : PP} {K : SC} (hds : K.ds = []) {Q : Exit → Act → World → Prop} (k : List Code) : ∀ (l : List Code) {run : CF → St → Option (XM.Ex × St)} {st : St} {r : XM.Ex × St} {m : M} {a : Act} {w : World}, xlist K l = some run → run (runC 120) st = some r → SR U w0 prot m K st a w →
    (∀ m' a' w', m.le m' → SR U w0 prot m' K r.2 a' w' → Exit.then (cwpL k Q) Q r.1.e a' w') → cwpL (l ++ k) Q a w
  | [], run, st, r, m, a, w, hx, e, s, K1 => by cases hx; cases e; exact K1 m a w (M.le_refl m) s
  | c :: l, run, st, r, m, a, w, hx, e, s, K1 => by
    obtain ⟨ra, h1, hx⟩ := ob_some hx
    obtain ⟨rb, h2, hx⟩ := ob_some hx
    cases hx
    obtain ⟨⟨qe, qs⟩, e1, e2⟩ := ob_some e
    refine xcode_cwpL (l := l ++ k) hds h1 e1 s fun m1 a1 w1 l1 s1 => ?_
    cases qe with
    | nx => exact xlist_cwpL hds k l h2 e2 s1 fun m2 a2 w2 l2 s2 => K1 m2 a2 w2 (M.le_trans l1 l2) s2
    | ex id => cases e2; exact K1 m1 a1 w1 l1 s1
    | rt => cases e2; exact K1 m1 a1 w1 l1 s1
theorem onNx_some {x : Option (XM.Ex × St)} {st : St} (h : onNx x = some st) : x = some (.nx, st) := by
  obtain ⟨⟨qe, qs⟩, e1, e2⟩ := ob_some h
  cases qe with
  | nx => cases e2; exact e1
  | ex id => cases e2
  | rt => cases e2

section
variable {f k j n i : Nat} {args : List V} {h0 h : Hp} {hl el : List Nat} {x y : Lit} {v : V} {L : List (Nat × List S × Nat)} {nx : Nat} {t : Tr Ob}
noncomputable def runTo (f k j n : Nat) (fn : Func) (b : Code) : Option (CF → St → Option (XM.Ex × St)) := xlist (Kf f fn) (((fl (behind k b)).drop j).take n)
/-- entering a function, up to a place of its code -/
noncomputable def sPre (f n : Nat) (args : List V) (h : Hp) : Option St := ob (TT f) fun fn => ob fn.body fun b => oif (Nat.ble args.length fn.ntmps) (ob (runTo f 0 0 n fn b) fun run => ob (trV (ks f) args 0 .nil) fun tr => onNx (run (runC 120) ⟨⟨[], tr⟩, h, []⟩))
noncomputable def pPre (f n : Nat) (args : List V) (h : Hp) (hl el : List Nat) : Option Lit := ob (sPre f n args h) fun st => cutSt hl el st
/-- from place to place -/
noncomputable def sMid (f k j n : Nat) (x : Lit) : Option St := ob (TT f) fun fn => ob fn.body fun b => ob (runTo f k j n fn b) fun run => ob (mkSt x) fun st => onNx (run (runC 120) st)
noncomputable def pMid (f k j n : Nat) (x : Lit) (hl el : List Nat) : Option Lit := ob (sMid f k j n x) fun st => cutSt hl el st
/-- some rounds of a loop -/
noncomputable def sLoop (f k j n : Nat) (x : Lit) : Option St := ob (TT f) fun fn => ob fn.body fun b => match (fl (behind k b)).drop j with
  | c :: _ => ob (loopOf c) fun q => ob (xcode (xreg Tryz.prog (Kf f fn)) Tryz.prog (Kf f fn) 100000 q.2) fun run => ob (mkSt x) fun st => iterN (run (runC 120)) n st
  | [] => none
noncomputable def pLoop (f k j n : Nat) (x : Lit) (hl el : List Nat) : Option Lit := ob (sLoop f k j n x) fun st => cutSt hl el st
/-- to the end -/
noncomputable def sFin (f k j : Nat) (x : Lit) : Option (V × Hp) := ob (TT f) fun fn => ob fn.body fun b => ob (xlist (Kf f fn) ((fl (behind k b)).drop j)) fun run => ob (rsL Tryz.prog (Kf f fn) fn.results.toList) fun res => ob (mkSt x) fun st => ob (run (runC 120) st) fun r => match r.1 with
  | .ex _ => none
  | _ => ob (xdf (runC 120) r.2.df r.2.hp) fun h' => ob (res r.2.env h') fun xs => some (rsV xs, h')
noncomputable def pFin (f k j : Nat) (x : Lit) (hl : List Nat) : Option (V × List (Nat × List S × Nat) × Nat) := ob (sFin f k j x) fun q => ob (keepL q.2 hl) fun L => some (q.1, L, q.2.next)
/-- up to a call -/
noncomputable def sHole (f k j : Nat) (args : List V) (h : Hp) : Option (St × Nat × List V) := ob (TT f) fun fn => ob (holeAt fn k j) fun H => xhole (xreg Tryz.prog) Tryz.prog (ks f) 100000 k j H (runC 120) h args
noncomputable def pHole (f k j : Nat) (args : List V) (h : Hp) (hl el : List Nat) : Option (Lit × Nat × List V) := ob (sHole f k j args h) fun q => ob (cutSt hl el q.1) fun x => some (x, q.2.1, q.2.2)
/-- behind it, to the end of the region -/
noncomputable def sRest (f k j : Nat) (x : Lit) (v : V) (L : List (Nat × List S × Nat)) (nx : Nat) : Option St := ob (TT f) fun fn => ob (holeAt fn k j) fun H => ob (mkSt x) fun st => ob (litT L) fun t => ob (putD (Kf f fn) H.o.dst) fun g => ob (g v st.env) fun env => ob (xops Tryz.prog H.ops ((Kf f fn).tell H.o.dst) H.l) fun run => run (runC 120) ⟨env, ⟨t, nx⟩, st.df⟩
noncomputable def pRest (f k j : Nat) (x : Lit) (v : V) (L : List (Nat × List S × Nat)) (nx : Nat) (hl el : List Nat) : Option Lit := ob (sRest f k j x v L nx) fun st => cutSt hl el st

theorem lands_enter (e : pPre f n args h0 hl el = some x) (hx : Lands f 0 n x v h) (hs : (mkSt x).isSome = true) : CallsAt f args h0 v h := fun U w0 C m w us r hd => by
  obtain ⟨st, e, ec⟩ := ob_some e
  obtain ⟨fn, e1, e⟩ := ob_some e
  obtain ⟨b, e2, e⟩ := ob_some e
  obtain ⟨e3, e⟩ := oif_some e
  obtain ⟨run, e4, e⟩ := ob_some e
  obtain ⟨tr, e5, e⟩ := ob_some e
  have e6 := onNx_some e
  obtain ⟨st', e7⟩ := Option.isSome_iff_exists.1 hs
  refine calls_of_wp_defers e1 e2 (cwpL_wp b ?_)
  have hs0 : SR U w0 ⟨C, fun _ _ => False⟩ m (Kf f fn) ⟨⟨[], tr⟩, h0, []⟩ { tmps := us.toArray ++ Array.replicate (fn.ntmps - us.toArray.size) undef, defers := [] } w := ⟨r, enter_ok hd e5 e3 [], trivial⟩
  rw [← List.take_append_drop n (fl b)]
  exact xlist_cwpL rfl _ _ e4 e6 hs0 fun m' a' w' hle s => hx fn b st' e1 e2 e7 U w0 C m m' a' w' hle (lit_cut s rfl rfl rfl ec e7)
theorem enter_lit {t0 : Tr Ob} (h0 : litT L = some t0) (e : (ob (litT L) fun t => pPre f n args ⟨t, nx⟩ hl el) = some x) : pPre f n args ⟨t0, nx⟩ hl el = some x := by
  obtain ⟨t', h1, h2⟩ := ob_some e
  rw [h0] at h1
  cases h1
  exact h2
theorem lands_mid (e : pMid f k j n x hl el = some y) (hy : Lands f k (j + n) y v h) (hs : (mkSt y).isSome = true) : Lands f k j x v h := fun fn b st e1 e2 e3 U w0 C m0 m a w hle s => by
  obtain ⟨st1, e, ec⟩ := ob_some e
  obtain ⟨fn', f1, e⟩ := ob_some e
  rw [e1] at f1; cases f1
  obtain ⟨b', f2, e⟩ := ob_some e
  rw [e2] at f2; cases f2
  obtain ⟨run, e4, e⟩ := ob_some e
  obtain ⟨st0, f3, e⟩ := ob_some e
  rw [e3] at f3; cases f3
  have e5 := onNx_some e
  obtain ⟨st', e7⟩ := Option.isSome_iff_exists.1 hs
  rw [← List.take_append_drop n ((fl (behind k b)).drop j)]
  refine xlist_cwpL rfl _ _ e4 e5 s fun m' a' w' l s1 => ?_
  have := hy fn b st' e1 e2 e7 U w0 C m0 m' a' w' (M.le_trans hle l) (lit_cut s1 rfl rfl rfl ec e7)
  rw [← List.drop_drop] at this
  exact this
theorem iter_ok {call : CF} {U : UU} {w0 : World} {prot : PP} {K : SC} {c : Code} {run : CF → St → Option (XM.Ex × St)} {Q : Exit → Act → World → Prop} (hreg : RegOK Tryz.prog K (xreg Tryz.prog K)) (hds : K.ds = []) (hc : CallOK Tryz.prog call) (hx : xcode (xreg Tryz.prog K) Tryz.prog K 100000 c = some run) : ∀ (n : Nat) {st st' : St} {m : M} {a : Act} {w : World}, iterN (run call) n st = some st' → SR U w0 prot m K st a w →
    (∀ m' a' w', m.le m' → SR U w0 prot m' K st' a' w' → loopwp c Q a' w') → loopwp c Q a w
  | 0, st, st', m, a, w, e, s, K1 => by cases e; exact K1 m a w (M.le_refl m) s
  | n + 1, st, st', m, a, w, e, s, K1 => by
    obtain ⟨rs, e1, e⟩ := ob_some (show (ob (onNx (run call st)) (iterN (run call) n)) = some st' from e)
    refine loopwp.step (xcode_ok hreg hds hc hx (onNx_some e1) s fun m1 a1 w1 l1 s1 => ⟨rfl, ?_⟩)
    exact iter_ok hreg hds hc hx n e s1 fun m2 a2 w2 l2 s2 => K1 m2 a2 w2 (M.le_trans l1 l2) s2
theorem lands_loop (e : pLoop f k j n x hl el = some y) (hy : Lands f k j y v h) (hs : (mkSt y).isSome = true) : Lands f k j x v h := fun fn b st e1 e2 e3 U w0 C m0 m a w hle s => by
  obtain ⟨st1, e, ec⟩ := ob_some e
  obtain ⟨fn', f1, e⟩ := ob_some e
  rw [e1] at f1; cases f1
  obtain ⟨b', f2, e⟩ := ob_some e
  rw [e2] at f2; cases f2
  obtain ⟨st', e7⟩ := Option.isSome_iff_exists.1 hs
  split at e
  · rename_i c r hcr
    obtain ⟨⟨i, q⟩, e4, e⟩ := ob_some e
    obtain ⟨run, e5, e⟩ := ob_some e
    obtain ⟨st0, f3, e⟩ := ob_some e
    rw [e3] at f3; cases f3
    rw [hcr]
    unfold cwpL
    rw [e4]
    refine iter_ok (xreg_ok Tryz.checked.mixed rfl) rfl (runC_ok 120) e5 n e s fun m1 a1 w1 l1 s1 => ?_
    have := hy fn b st' e1 e2 e7 U w0 C m0 m1 a1 w1 (M.le_trans hle l1) (lit_cut s1 rfl rfl rfl ec e7)
    rw [hcr] at this
    unfold cwpL at this
    rw [e4] at this
    exact this
  · cases e
theorem lands_fin (e : pFin f k j x hl = some (v, L, nx)) (et : litT L = some t) : Lands f k j x v ⟨t, nx⟩ := fun fn b st e1 e2 e3 U w0 C m0 m a w hle s => by
  obtain ⟨⟨qv, qh⟩, eA, ec⟩ := ob_some e
  clear e
  obtain ⟨L', g3, ec⟩ := ob_some ec
  cases ec
  obtain ⟨fn', f1, e⟩ := ob_some eA
  rw [e1] at f1; cases f1
  obtain ⟨b', f2, e⟩ := ob_some e
  rw [e2] at f2; cases f2
  obtain ⟨run, e4, e⟩ := ob_some e
  obtain ⟨res, e5, e⟩ := ob_some e
  obtain ⟨st0, f3, e⟩ := ob_some e
  rw [e3] at f3; cases f3
  obtain ⟨⟨re, rs⟩, e6, e⟩ := ob_some e
  have hfin : (ob (xdf (runC 120) rs.df rs.hp) fun h' => ob (res rs.env h') fun xs => some (rsV xs, h')) = some (qv, qh) → ∀ m' a' w', m.le m' → SR U w0 ⟨C, fun _ _ => False⟩ m' (Kf f fn) rs a' w' → Leaves Tryz.prog fn a'.tmps (Ends U w0 C m0 qv ⟨t, qh.next⟩) a'.defers .returning w' := fun e m' a' w' l s' => by
    obtain ⟨h', g1, e⟩ := ob_some e
    obtain ⟨xs, g2, e⟩ := ob_some e
    cases e
    exact leaves_ok (runC_ok 120) g1 s'.rel s'.df fun m2 w2 l2 r2 => by
      obtain ⟨u, k1, k2⟩ := results_ok (P := Tryz.prog) (fn := fn) e5 r2 (s'.env.mono l2) g2
      exact ⟨u, k2, m2, u, rfl, M.le_trans hle (M.le_trans l l2), Rel.lit r2 g3 et, k1⟩
  rw [← List.append_nil ((fl (behind k b)).drop j)]
  cases re with
  | ex id => cases e
  | nx => exact xlist_cwpL rfl [] _ e4 e6 s fun m' a' w' l s' => hfin e m' a' w' l s'
  | rt => exact xlist_cwpL rfl [] _ e4 e6 s fun m' a' w' l s' => hfin e m' a' w' l s'
theorem behind_add : ∀ (j k : Nat) (c : Code), behind k (behind j c) = behind (j + k) c
  | 0, k, c => by rw [Nat.zero_add]; rfl
  | j + 1, k, c => by
    rw [show j + 1 + k = (j + k) + 1 by omega]
    cases c with
    | seq a b => exact behind_add j k b
    | _ => cases k <;> rfl
theorem lands_call {g : Nat} {gargs : List V} {v' : V} {L' : List (Nat × List S × Nat)} {nx' : Nat} {t' t0 : Tr Ob} {hl2 el2 : List Nat} (e : pHole f k j args h0 hl el = some (x, g, gargs)) (e0 : litT x.L = some t0) (hgf : isFn Tryz.prog g) (hg : CallsAt g gargs ⟨t0, x.nx⟩ v' ⟨t', nx'⟩) (et : litT L' = some t')
    (er : pRest f k j x v' L' nx' hl2 el2 = some y) (hs : (mkSt y).isSome = true) (hy : Lands f (k + 1) 0 y v h) : CallsAt f args h0 v h := fun U w0 C m w us r hd => by
  obtain ⟨q, eA, ec⟩ := ob_some e
  clear e
  obtain ⟨x', e4, ec⟩ := ob_some ec
  cases ec
  obtain ⟨fn, e1, eB⟩ := ob_some eA
  obtain ⟨H, e2, e3⟩ := ob_some eB
  obtain ⟨st1, eC, ec⟩ := ob_some er
  clear er
  obtain ⟨fn', f1, er⟩ := ob_some eC
  rw [e1] at f1; cases f1
  obtain ⟨H', f2, er⟩ := ob_some er
  rw [e2] at f2; cases f2
  obtain ⟨st, e5, er⟩ := ob_some er
  obtain ⟨t1, f3, er⟩ := ob_some er
  rw [et] at f3; cases f3
  obtain ⟨gp, e6, er⟩ := ob_some er
  obtain ⟨env, e7, er⟩ := ob_some er
  obtain ⟨run, e8, e9⟩ := ob_some er
  obtain ⟨st2, e10⟩ := Option.isSome_iff_exists.1 hs
  refine xhole_ok (fun _ h => xreg_ok Tryz.checked.mixed h) (runC_ok 120) e1 e2 e3 r hd fun m' a' w' vs hle s hvs => ⟨hgf, ?_⟩
  obtain ⟨q1, q2⟩ := KT_ks j ⟨fn.ntmps, ks f, []⟩ H.ops.toList
  have s1 := lit_cut (K' := Kf f fn) s q2.symm q1.symm rfl e4 e5
  have hx' : st.hp = ⟨t0, x.nx⟩ := by
    obtain ⟨tt, g1, e5⟩ := ob_some e5
    rw [e0] at g1; cases g1
    obtain ⟨te, g2, e5⟩ := ob_some e5
    cases e5; rfl
  refine (hg U w0 C m' w' vs (hx' ▸ s1.rel) hvs).mono ?_
  rintro e'' w'' ⟨m2, u, rfl, l2, r2, d2⟩
  have hb : H.fn = fn ∧ ∃ b, fn.body = some b ∧ behind (k + 1) b = H.rest := by
    unfold holeAt at e2
    obtain ⟨b, hb, e2⟩ := ob_some e2
    split at e2
    · rename_i id ops rest hbe
      split at e2
      · split at e2
        · cases e2
          refine ⟨rfl, b, hb, ?_⟩
          rw [← behind_add k 1 b, hbe]; rfl
        · cases e2
      · cases e2
    · cases e2
  obtain ⟨hfn, b, hb, hrest⟩ := hb
  have ar := putD_ok e6 e7 (s1.env.mono l2) d2
  refine xops_ok (runC_ok 120) (K0 := Kf f fn) (by cases H.o.dst <;> rfl) e8 e9 ⟨r2, ar, by rw [put_defers']; exact s1.df.mono l2⟩ fun m3 a3 w3 l3 s3 => ?_
  show H.rest.wp Tryz.prog (bodyPostD Tryz.prog fn (Ends U w0 C m v h)) a3 w3
  rw [← hrest]
  exact cwpL_wp _ (hy fn b st2 e1 hb e10 U w0 C m m3 a3 w3 (M.le_trans hle (M.le_trans l2 l3)) (lit_cut s3 rfl rfl rfl ec e10))
end
/-! a text is read, and right -/
noncomputable def cutRun (f : Nat) (args : List V) (x : Lit) (hl : List Nat) : Option (V × List (Nat × List S × Nat) × Nat) := ob (litT x.L) fun t => ob (runC 120 false ⟨t, x.nx⟩ f args) fun q => ob (keepL q.2 hl) fun L => some (q.1, L, q.2.next)
noncomputable def isSlT (s : S) : Bool := match s with
  | .nils => true
  | .sl _ _ _ _ => true
  | _ => false
noncomputable def chkL (f : Nat) (p1 p2 : S) (L : List (Nat × List S × Nat)) (nx : Nat) : Bool := match (ob (litT L) fun t => runC 120 false ⟨t, nx⟩ f [.a (.ag [p1, p2])]) with
  | some (.a (.ag [.i .i64 (.ofNat 0), .i .i64 (.ofNat 0)]), _) => true
  | _ => false
def okV : A := .ag [.i .i64 (.ofNat 0), .i .i64 (.ofNat 0)]
/-- a text (as a number, and its length) is read, and what is read is right -/
def ReadsOK (rd ck tn tl : Nat) : Prop := ∃ p1 p2 h1 h2, (isSlT p1 && isSlT p2) = true ∧ CallsAt rd [.a (.s (.str tn tl))] ⟨.nil, 0⟩ (.tup [.ag [p1, p2], okV]) h1 ∧ CallsAt ck [.a (.ag [p1, p2])] h1 (.a okV) h2
theorem tel_read {rd tok ck tn tl tnx nx k j : Nat} {X0 : Lit} {Tv : V} {TL L : List (Nat × List S × Nat)} {p1 p2 : S} {hl el hT h2 e2 h3 : List Nat} (hf : isFn Tryz.prog tok) (e : pHole rd k j [.a (.s (.str tn tl))] ⟨.nil, 0⟩ hl el = some (X0, tok, [.a (.s (.str tn tl))]))
    (eT : cutRun tok [.a (.s (.str tn tl))] X0 hT = some (Tv, TL, tnx)) (sT : (litT TL).isSome = true) (eR : (ob (pRest rd k j X0 Tv TL tnx h2 e2) fun y => pFin rd (k + 1) 0 y h3) = some (.tup [.ag [p1, p2], okV], L, nx)) (eC : chkL ck p1 p2 L nx = true) (hs : (isSlT p1 && isSlT p2) = true) : ReadsOK rd ck tn tl := by
  unfold cutRun at eT
  obtain ⟨t0, e0, eT⟩ := ob_some eT
  obtain ⟨q, e1, eT⟩ := ob_some eT
  obtain ⟨TL', e2', eT⟩ := ob_some eT
  cases eT
  obtain ⟨t', ht'⟩ := Option.isSome_iff_exists.1 sT
  obtain ⟨y, ey, eF⟩ := ob_some eR
  obtain ⟨qv, qh⟩ := q
  have c1 := (CallsAt.of_run e1).cut e2' ht'
  have hy : (mkSt y).isSome = true := by
    obtain ⟨q2, eA, _⟩ := ob_some eF
    obtain ⟨fn, _, eA⟩ := ob_some eA
    obtain ⟨b, _, eA⟩ := ob_some eA
    obtain ⟨run, _, eA⟩ := ob_some eA
    obtain ⟨res, _, eA⟩ := ob_some eA
    obtain ⟨st, e3, _⟩ := ob_some eA
    rw [e3]; rfl
  unfold chkL at eC
  split at eC
  · rename_i h2' hq
    obtain ⟨t, ht, eq⟩ := ob_some hq
    exact ⟨p1, p2, ⟨t, nx⟩, h2', hs, lands_call e e0 hf c1 ht' ey hy (lands_fin eF ht), CallsAt.of_run eq⟩
  · cases eC
set_option maxRecDepth 10000 in
theorem tel_read2 {rd tok ck tn tl tnx nx k j q : Nat} {X0 Ym : Lit} {Tv : V} {TL L : List (Nat × List S × Nat)} {p1 p2 : S} {hl el hT h2 e2 h4 e4 h5 e5 : List Nat} (hf : isFn Tryz.prog tok) (e : pHole rd k j [.a (.s (.str tn tl))] ⟨.nil, 0⟩ hl el = some (X0, tok, [.a (.s (.str tn tl))]))
    (eT : cutRun tok [.a (.s (.str tn tl))] X0 hT = some (Tv, TL, tnx)) (sT : (litT TL).isSome = true) (eR : (ob (ob (pRest rd k j X0 Tv TL tnx h2 e2) fun y => pMid rd (k + 1) 0 4 y h4 e4) fun z => pLoop rd (k + 1) 4 q z h5 e5) = some Ym) (sm : (mkSt Ym).isSome = true)
    (hY : ∀ t, litT L = some t → Lands rd (k + 1) 4 Ym (.tup [.ag [p1, p2], okV]) ⟨t, nx⟩) (eC : chkL ck p1 p2 L nx = true) (hs : (isSlT p1 && isSlT p2) = true) : ReadsOK rd ck tn tl := by
  unfold cutRun at eT
  obtain ⟨t0, e0, eT⟩ := ob_some eT
  obtain ⟨q', e1, eT⟩ := ob_some eT
  obtain ⟨TL', e2', eT⟩ := ob_some eT
  cases eT
  obtain ⟨t', ht'⟩ := Option.isSome_iff_exists.1 sT
  obtain ⟨z, ez, eF⟩ := ob_some eR
  obtain ⟨y, ey, ez2⟩ := ob_some ez
  obtain ⟨qv, qh⟩ := q'
  have c1 := (CallsAt.of_run e1).cut e2' ht'
  have hz : (mkSt z).isSome = true := by
    obtain ⟨st1, eA, _⟩ := ob_some (show ob (sLoop rd (k + 1) 4 q z) (fun st => cutSt h5 e5 st) = some Ym from eF)
    obtain ⟨fn, _, eA⟩ := ob_some eA
    obtain ⟨b, _, eA⟩ := ob_some eA
    split at eA
    · obtain ⟨c, _, eA⟩ := ob_some eA
      obtain ⟨run, _, eA⟩ := ob_some eA
      obtain ⟨st, e3, _⟩ := ob_some eA
      rw [e3]; rfl
    · cases eA
  have hy : (mkSt y).isSome = true := by
    obtain ⟨st1, eA, _⟩ := ob_some (show ob (sMid rd (k + 1) 0 4 y) (fun st => cutSt h4 e4 st) = some z from ez2)
    obtain ⟨fn, _, eA⟩ := ob_some eA
    obtain ⟨b, _, eA⟩ := ob_some eA
    obtain ⟨run, _, eA⟩ := ob_some eA
    obtain ⟨st, e3, _⟩ := ob_some eA
    rw [e3]; rfl
  unfold chkL at eC
  split at eC
  · rename_i h2' hq
    obtain ⟨t, ht, eq⟩ := ob_some hq
    exact ⟨p1, p2, ⟨t, nx⟩, h2', hs, lands_call e e0 hf c1 ht' ey hy (lands_mid (n := 4) ez2 (show Lands rd (k + 1) (0 + 4) z _ _ from lands_loop eF (hY t ht) sm) hz), CallsAt.of_run eq⟩
  · cases eC
end Go.Proofs.YtiflcnlnlkegaaaGreat
