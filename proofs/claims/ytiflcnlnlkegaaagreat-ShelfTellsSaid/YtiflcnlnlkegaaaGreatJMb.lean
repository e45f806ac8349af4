/-
  Texts joined: Xf Xg Xh Xi Xs.
-/
import Derived.Test.YtiflcnlnlkegaaaGreatJMa
import Derived.Laws.Tables
import Derived.Great.BuildSlice
import Derived.Laws.MakeOwn
import Derived.Laws.StructEq
/-
  The machine on paper: parts, what is built, what is looked up.
-/
namespace Go.XM
open Go Go.RowKit

section
variable {U : UU} {m : M}
theorem denL_len : ∀ {l : List S} {vs : List Value}, denL U m l = some vs → vs.length = l.length
  | [], vs, h => by cases h; rfl
  | x :: r, vs, h => by
    obtain ⟨v, h1, h⟩ := ob_some h
    obtain ⟨k, h2, h⟩ := ob_some h
    cases h; simp [denL_len h2]
theorem denL_cons {x : S} {r : List S} {v : Value} {vs : List Value} (h1 : x.den U m = some v) (h2 : denL U m r = some vs) : denL U m (x :: r) = some (v :: vs) := by
  show ob (x.den U m) _ = _
  rw [h1]; show ob (denL U m r) _ = _
  rw [h2]; rfl
theorem denL_app : ∀ {l k : List S} {vs us : List Value}, denL U m l = some vs → denL U m k = some us → denL U m (l ++ k) = some (vs ++ us)
  | [], k, vs, us, h, e => by cases h; exact e
  | x :: r, k, vs, us, h, e => by
    obtain ⟨v, h1, h⟩ := ob_some h
    obtain ⟨q, h2, h⟩ := ob_some h
    cases h
    exact denL_cons h1 (denL_app h2 e)
theorem denL_take : ∀ {l : List S} {vs : List Value} (n : Nat), denL U m l = some vs → denL U m (l.take n) = some (vs.take n)
  | _, _, 0, _ => by simp; rfl
  | [], vs, n + 1, h => by cases h; rfl
  | x :: r, vs, n + 1, h => by
    obtain ⟨v, h1, h⟩ := ob_some h
    obtain ⟨q, h2, h⟩ := ob_some h
    cases h
    exact denL_cons h1 (denL_take n h2)
theorem denL_drop : ∀ {l : List S} {vs : List Value} (n : Nat), denL U m l = some vs → denL U m (l.drop n) = some (vs.drop n)
  | _, _, 0, h => h
  | [], vs, n + 1, h => by cases h; rfl
  | x :: r, vs, n + 1, h => by
    obtain ⟨v, h1, h⟩ := ob_some h
    obtain ⟨q, h2, h⟩ := ob_some h
    cases h
    exact denL_drop n h2
theorem denL_get : ∀ {l : List S} {vs : List Value} {n : Nat} {x : S}, denL U m l = some vs → l[n]? = some x → ∃ v, x.den U m = some v ∧ vs[n]? = some v
  | [], _, _, _, _, e => by simp at e
  | x :: r, vs, 0, y, h, e => by
    obtain ⟨v, h1, h⟩ := ob_some h
    obtain ⟨q, h2, h⟩ := ob_some h
    cases h; simp at e; subst e; exact ⟨v, h1, rfl⟩
  | x :: r, vs, n + 1, y, h, e => by
    obtain ⟨v, h1, h⟩ := ob_some h
    obtain ⟨q, h2, h⟩ := ob_some h
    cases h
    obtain ⟨u, a, b⟩ := denL_get (n := n) h2 (by simpa using e)
    exact ⟨u, a, by simpa using b⟩
theorem denAL_get : ∀ {l : List A} {vs : List Value} {n : Nat} {x : A}, denAL U m l = some vs → l[n]? = some x → ∃ v, x.den U m = some v ∧ vs[n]? = some v
  | [], _, _, _, _, e => by simp at e
  | x :: r, vs, 0, y, h, e => by
    obtain ⟨v, h1, h⟩ := ob_some h
    obtain ⟨q, h2, h⟩ := ob_some h
    cases h; simp at e; subst e; exact ⟨v, h1, rfl⟩
  | x :: r, vs, n + 1, y, h, e => by
    obtain ⟨v, h1, h⟩ := ob_some h
    obtain ⟨q, h2, h⟩ := ob_some h
    cases h
    obtain ⟨u, a, b⟩ := denAL_get (n := n) h2 (by simpa using e)
    exact ⟨u, a, by simpa using b⟩
theorem den_agE {l : List S} {u : Value} (h : (A.ag l).den U m = some u) : ∃ vs, denL U m l = some vs ∧ u = .agg vs.toArray := by
  obtain ⟨vs, h1, h⟩ := ob_some h
  cases h; exact ⟨vs, h1, rfl⟩
theorem den_agI {l : List S} {vs : List Value} (h : denL U m l = some vs) : (A.ag l).den U m = some (.agg vs.toArray) := by
  show ob (denL U m l) _ = _
  rw [h]; rfl
/-- a cell's value is one cell -/
theorem den_one {x : S} {v : Value} (h : x.den U m = some v) : v.oneCell' = true := by
  cases x <;> first | (cases h; rfl) | skip
  case uk j => cases h; exact U.h1 j
  case str n l => obtain ⟨_, rfl⟩ := den_strE (U := U) (m := m) h; rfl
  case ptr b o => obtain ⟨_, _, _, rfl⟩ := den_ptrE (U := U) (m := m) h; rfl
  case sl b o n z => obtain ⟨_, _, _, _, rfl⟩ := den_slE (U := U) (m := m) h; rfl
  case emp b => obtain ⟨_, _, h⟩ := ob_some h; cases h; rfl
  case mp b => obtain ⟨_, _, h⟩ := ob_some h; cases h; rfl
  case fn f c => obtain ⟨_, _, h⟩ := ob_some h; cases h; rfl
theorem denL_one : ∀ {l : List S} {vs : List Value}, denL U m l = some vs → ∀ v ∈ vs, v.oneCell' = true
  | [], vs, h => by cases h; simp
  | x :: r, vs, h => by
    obtain ⟨v, h1, h⟩ := ob_some h
    obtain ⟨q, h2, h⟩ := ob_some h
    cases h
    intro u hu
    rcases List.mem_cons.1 hu with rfl | hu
    · exact den_one h1
    · exact denL_one h2 u hu
theorem cells_one {v : Value} (h : v.oneCell' = true) : v.cells = #[v] := by cases v <;> first | rfl | cases h
theorem A.list_ok {x : A} {u : Value} (h : x.den U m = some u) : denL U m x.list = some u.cells.toList := by
  cases x with
  | s x =>
    rw [cells_one (den_one h)]
    exact denL_cons h rfl
  | ag l =>
    obtain ⟨vs, h1, rfl⟩ := den_agE h
    exact h1
end

section
variable {P : Program} {K : SC} {o : Oper}
/-- a field of a value -/
theorem q_field {t f off ft : Nat} {x : Operand} {gx : E → Option V} {ti fi : TI} {fs : List (Nat × Nat)} (ho : o.op = .field t x f) (ht : tiOf P t = some ti) (hx : cx K x = some gx) (hk : ti.k = .struct fs) (hf : fs[f]? = some (off, ft)) (hfi : tiOf P ft = some fi) :
    QS P K o (fun env _ => ob (gx env) fun vx => ob (asAg vx) fun l => match fi.agg with
      | true => some (.a (.ag ((l.drop off).take fi.size)))
      | false => ob l[off]? fun s => some (.a (.s s))) := by
  intro U w0 prot m h w env a v hr r e
  simp only [ob_eq] at e
  obtain ⟨vx, h1, l, e1, e⟩ := e
  obtain ⟨ux, k1, k2⟩ := cx_ok hx r h1
  have := asAg_ok e1; subst this
  obtain ⟨vs, s1, rfl⟩ := den_agE (U := U) (m := m) k1
  obtain ⟨i, d, z, t1, t2, t3, t4, t5, t6, t7, t8⟩ := (tiOf_ok ht).ex
  obtain ⟨i', d', z', t1', t2', t3', t4', t5', t6', t7', t8'⟩ := (tiOf_ok hfi).ex
  rw [t5] at hk
  cases d <;> cases hk
  rename_i F
  rw [List.getElem?_map, Option.map_eq_some_iff] at hf
  obtain ⟨fl, f1, f2⟩ := hf
  rw [Array.getElem?_toList] at f1
  cases f2
  have hagg := run_isAgg t2' w
  cases hd : aggOf d' with
  | true =>
    rw [t6', hd] at e
    rw [hd] at hagg
    cases e
    refine ⟨_, den_agI (denL_take _ (denL_drop _ s1)), ?_⟩
    simp [execOp, ho, k2, Instr.field, run_underlying t2, f1, asAgg, part, hagg, sizeOf, typeInfo, t1', t7', List.extract_eq_take_drop]
  | false =>
    rw [t6', hd] at e
    rw [hd] at hagg
    obtain ⟨s, e2, e⟩ := ob_some e
    cases e
    obtain ⟨u, e3, e4⟩ := denL_get s1 e2
    refine ⟨u, e3, ?_⟩
    simp [execOp, ho, k2, Instr.field, run_underlying t2, f1, asAgg, part, hagg, e4]
noncomputable def asTup : V → Option (List A)
  | .tup l => some l
  | _ => none
theorem asTup_ok {v : V} {x : List A} (h : asTup v = some x) : v = .tup x := by
  unfold asTup at h; split at h <;> cases h; rfl
theorem q_extract {x : Operand} {j : Nat} {gx : E → Option V} (ho : o.op = .extract x j) (hx : cx K x = some gx) :
    QS P K o (fun env _ => ob (gx env) fun vx => ob (asTup vx) fun l => ob l[j]? fun y => some (.a y)) := by
  intro U w0 prot m h w env a v hr r e
  simp only [ob_eq] at e
  obtain ⟨vx, h1, l, e1, y, e2, e⟩ := e
  cases e
  obtain ⟨ux, k1, k2⟩ := cx_ok hx r h1
  have := asTup_ok e1; subst this
  obtain ⟨vs, s1, k1⟩ := ob_some k1
  cases k1
  obtain ⟨u, e3, e4⟩ := denAL_get s1 e2
  exact ⟨u, e3, by simp [execOp, ho, k2, Instr.extract, e4]⟩

/-- operands -/
noncomputable def cxs (K : SC) : List Operand → Option (E → Option (List V))
  | [] => some fun _ => some []
  | x :: r => ob (cx K x) fun g => ob (cxs K r) fun k => some fun env => ob (g env) fun v => ob (k env) fun l => some (v :: l)
theorem cxs_ok {U : UU} {m : M} {K : SC} {D : Nat → Prop} {env : E} {a : Act} (r : AR U m K D env a) : ∀ {xs : List Operand} {g : E → Option (List V)} {l : List V}, cxs K xs = some g → g env = some l → (∀ t, Operand.tmp t ∈ xs → D t) → denVL U m l = some (xs.map a.eval)
  | [], g, l, h, e, _ => by cases h; cases e; rfl
  | x :: xs, g, l, h, e, hm => by
    obtain ⟨g1, h1, h⟩ := ob_some h
    obtain ⟨g2, h2, h⟩ := ob_some h
    cases h
    simp only [ob_eq] at e
    obtain ⟨v, e1, l', e2, e⟩ := e
    cases e
    obtain ⟨u, k1, k2⟩ := cx_ok h1 r e1 (fun t ht => hm t (by rw [ht]; exact List.mem_cons_self))
    have := cxs_ok r h2 e2 (fun t ht => hm t (List.mem_cons_of_mem _ ht))
    show ob (v.den U m) _ = _
    rw [k1]; show ob (denVL U m l') _ = _
    rw [this, ← k2]; rfl
theorem denVL_len {U : UU} {m : M} : ∀ {l : List V} {vs : List Value}, denVL U m l = some vs → vs.length = l.length
  | [], vs, h => by cases h; rfl
  | x :: r, vs, h => by
    obtain ⟨v, h1, h⟩ := ob_some h
    obtain ⟨k, h2, h⟩ := ob_some h
    cases h; simp [denVL_len h2]
noncomputable def capL : List V → Option (List (Pa × Nat))
  | [] => some []
  | v :: r => ob (asPtr v) fun p => ob (capL r) fun l => some (p :: l)
theorem capL_ok {U : UU} {m : M} : ∀ {l : List V} {c : List (Pa × Nat)} {vs : List Value}, capL l = some c → denVL U m l = some vs → capsDen m c = some vs
  | [], c, vs, h, e => by cases h; cases e; rfl
  | v :: r, c, vs, h, e => by
    obtain ⟨p, h1, h⟩ := ob_some h
    obtain ⟨l, h2, h⟩ := ob_some h
    cases h
    obtain ⟨u, e1, e⟩ := ob_some e
    obtain ⟨us, e2, e⟩ := ob_some e
    cases e
    have := asPtr_ok h1; subst this
    obtain ⟨y, k1, k2⟩ := ob_some e1
    cases k2
    have ih := capL_ok h2 e2
    show ob (m p.1) _ = _
    rw [k1]; show ob (capsDen m l) _ = _
    rw [ih]; rfl
theorem q_makeFunc {f : Nat} {cs : Array Operand} {g : E → Option (List V)} (ho : o.op = .makeFunc (.func f) #[] cs) (hg : cxs K cs.toList = some g) :
    QS P K o (fun env _ => ob (g env) fun l => ob (capL l) fun c => some (.a (.s (.fn f c)))) := by
  intro U w0 prot m h w env a v hr r e
  simp only [ob_eq] at e
  obtain ⟨l, e1, c, e2, e⟩ := e
  cases e
  have k := cxs_ok r hg e1 (fun t ht => by simpa [opD, Op.operands, ho] using ht)
  have k2 := capL_ok e2 k
  refine ⟨.func (.func f) #[] (cs.toList.map a.eval).toArray, ?_, ?_⟩
  · show ob (capsDen m c) _ = _
    rw [k2]; rfl
  · have hc : (cs.toList.map a.eval).toArray = cs.map a.eval := by rw [← Array.toList_map]
    rw [hc]; simp [execOp, ho, Instr.makeFunc]

/-- how long -/
noncomputable def lenV (k : TK) (v : V) (_ : Hp) : Option V :=
  match k with
  | .string => ob (asStr v) fun y => some (.a (.s (.i .i64 (.ofNat y.2))))
  | .slice _ => ob (asSA v) fun y => match y with
    | .sl _ _ n _ => some (.a (.s (.i .i64 (.ofNat n))))
    | .emp _ => some (.a (.s (.i .i64 0)))
    | .nils => some (.a (.s (.i .i64 0)))
    | _ => none
  | .map _ _ => ob (asSA v) fun y => match y with
    | .nilm => some (.a (.s (.i .i64 0)))
    | _ => none
  | _ => none
theorem q_len {t : Nat} {x : Operand} {gx : E → Option V} {ti : TI} (ho : o.op = .call { callee := .builtin .len, args := #[x], argTypes := #[t] }) (ht : tiOf P t = some ti) (hx : cx K x = some gx) :
    QS P K o (fun env h => ob (gx env) fun vx => lenV ti.k vx h) := by
  intro U w0 prot m h w env a v hr r e
  simp only [ob_eq] at e
  obtain ⟨vx, h1, e⟩ := e
  obtain ⟨ux, k1, k2⟩ := cx_ok hx r h1
  obtain ⟨i, d, z, t1, t2, t3, t4, t5, t6, t7, t8⟩ := (tiOf_ok ht).ex
  unfold lenV at e
  split at e
  · rename_i q
    rw [t5] at q
    cases d <;> cases q
    obtain ⟨y, e1, e⟩ := ob_some e
    cases e
    have := asStr_ok e1; subst this
    obtain ⟨_, rfl⟩ := den_strE (U := U) (m := m) k1
    exact ⟨_, rfl, by simp [execOp, ho, resolve, invoke, builtin, k2, Builtin.len_, run_underlying t2, unB_size, goInt]⟩
  · rename_i q
    rw [t5] at q
    cases d <;> cases q
    rw [ob_eq] at e
    obtain ⟨y, e1, e⟩ := e
    have := asSA_ok e1
    clear e1
    subst this
    split at e
    · cases e
      obtain ⟨_, _, _, _, rfl⟩ := den_slE (U := U) (m := m) k1
      exact ⟨_, rfl, by simp [execOp, ho, resolve, invoke, builtin, k2, Builtin.len_, run_underlying t2, goInt]⟩
    · cases e
      obtain ⟨_, _, k1⟩ := ob_some k1
      cases k1
      exact ⟨_, rfl, by simp [execOp, ho, resolve, invoke, builtin, k2, Builtin.len_, run_underlying t2, goInt]⟩
    · cases e; cases k1
      exact ⟨_, rfl, by simp [execOp, ho, resolve, invoke, builtin, k2, Builtin.len_, run_underlying t2, goInt]⟩
    · cases e
  · rename_i q
    rw [t5] at q
    cases d <;> cases q
    rw [ob_eq] at e
    obtain ⟨y, e1, e⟩ := e
    have := asSA_ok e1
    clear e1
    subst this
    split at e
    · cases e; cases k1
      exact ⟨_, rfl, by simp [execOp, ho, resolve, invoke, builtin, k2, Builtin.len_, run_underlying t2, goInt]⟩
    · cases e
  · cases e
theorem q_max {t : Array Nat} {x y : Operand} {gx gy : E → Option V} (ho : o.op = .call { callee := .builtin .max, args := #[x, y], argTypes := t }) (hx : cx K x = some gx) (hy : cx K y = some gy) :
    QS P K o (fun env _ => ob (gx env) fun vx => ob (gy env) fun vy => ob (asI vx) fun a => ob (asI vy) fun b => some (.a (.s (.i a.1 (Bool.rec a.2 b.2 (ilt a.2 b.2)))))) := by
  intro U w0 prot m h w env a v hr r e
  simp only [ob_eq] at e
  obtain ⟨vx, h1, vy, h2, x', e1, y', e2, e⟩ := e
  cases e
  obtain ⟨ux, k1, k2⟩ := cx_ok hx r h1
  obtain ⟨uy, k3, k4⟩ := cx_ok hy r h2
  have := asI_ok e1; subst this
  have := asI_ok e2; subst this
  have := den_int k1; subst this
  have := den_int k3; subst this
  refine ⟨_, rfl, ?_⟩
  simp only [execOp, ho, resolve, invoke, builtin, List.map_toArray, List.map_cons, List.map_nil, k2, k4, Builtin.max_, Sem.run_bind, Sem.run_pure, Result.andThen_ok, List.foldlM, Builtin.max2]
  congr 3
  rw [ilt_ok]
  by_cases h : x'.2 < y'.2 <;> simp [h]

/-- what stands at a key -/
noncomputable def keyq (t : TK) (x y : S) : Option Bool :=
  match t, x, y with
  | .string, .str n l, .str n' l' => some (and (Nat.beq l l') (Nat.beq n n'))
  | .int _, .i k n, .i k' n' => oif (keq k k') (some (ieq n n'))
  | _, _, _ => none
theorem ba_beq (a b : ByteArray) : (a == b) = decide (a = b) := by
  cases a with
  | mk x => cases b with
    | mk y =>
      show (x == y) = _
      by_cases h : x = y
      · subst h; simp
      · rw [beq_eq_false_iff_ne.2 h]; symm; exact decide_eq_false fun k => h (ByteArray.mk.inj k)
theorem str_sameB {n l n' l' : Nat} (h : n < 256 ^ l) (h' : n' < 256 ^ l') : (Nat.beq l l' && Nat.beq n n') = (unB n l == unB n' l') := by
  rw [ba_beq]
  by_cases e : unB n l = unB n' l'
  · obtain ⟨rfl, rfl⟩ := unB_inj h h' e
    simp
  · rw [decide_eq_false e, Bool.and_eq_false_iff]
    by_cases e1 : l = l'
    · right; exact beq0 fun k => e (by rw [k, e1])
    · left; exact beq0 e1
theorem keyq_ok {U : UU} {m : M} {x y : S} {b : Bool} {d : TypeDesc} (h : keyq (tkOf d) x y = some b) {u v : Value} (hu : x.den U m = some u) (hv : y.den U m = some v) :
    Instr.sameNow d u v = some b := by
  unfold keyq at h
  split at h
  · rename_i q
    cases h
    obtain ⟨l1, rfl⟩ := den_strE hu
    obtain ⟨l2, rfl⟩ := den_strE hv
    cases d <;> cases q
    show some (_ == _) = _
    rw [str_sameB l1 l2]
  · rename_i q
    obtain ⟨h1, h⟩ := oif_some h
    cases h; cases hu; cases hv
    cases d <;> cases q
    have := keq_ok h1; subst this
    show (if _ = _ then some (_ == _) else none) = _
    rw [if_pos rfl, ieq_ok]
  · cases h
noncomputable def findS (t : TK) (k : S) : List (S × A) → Option (Option A)
  | [] => some none
  | (j, x) :: r => ob (keyq t k j) fun b => Bool.rec (findS t k r) (some (some x)) b
theorem findS_ok {U : UU} {m : M} {d : TypeDesc} {k : S} {u : Value} (hu : k.den U m = some u) : ∀ {l : List (S × A)} {es : List MapEntry} (i : Nat) {r : Option A}, EntR U m l es → findS (tkOf d) k l = some r →
    match r with
    | none => Instr.findNow d u es i = some none
    | some x => ∃ j v, x.den U m = some v ∧ Instr.findNow d u es i = some (some (j, v))
  | [], [], i, r, _, h => by cases h; rfl
  | (j, x) :: l, e :: es, i, r, ⟨h1, h2, h3⟩, h => by
    obtain ⟨b, h4, h⟩ := ob_some h
    have hs := keyq_ok h4 hu h1
    cases b with
    | true =>
      cases h
      exact ⟨i, e.val, h2, by show (match Instr.sameNow d u e.key with | some true => _ | some false => _ | none => _) = _; rw [hs]⟩
    | false =>
      have ih := findS_ok hu (i + 1) h3 h
      have he : Instr.findNow d u (e :: es) i = Instr.findNow d u es (i + 1) := by
        show (match Instr.sameNow d u e.key with | some true => _ | some false => _ | none => _) = _
        rw [hs]
      rw [he]; exact ih
  | [], _ :: _, _, _, h, _ => h.elim
  | _ :: _, [], _, _, h, _ => h.elim
theorem checkKey_ok {d : TypeDesc} {t : TypeId} (ht : P.underlying t = some d) {k : S} {b : Bool} {j : S} (hk : keyq (tkOf d) k j = some b ∨ (tkOf d matches .string) ∨ (tkOf d matches .int _)) (w : World) (u : Value) (em : Bool) : (Instr.checkKey em 10000 t u).run P w = .ok () w := by
  have key : ∀ n, (Instr.checkKey em (n + 1) t u).run P w = .ok () w := by
    intro n
    have hd : tkOf d matches .string ∨ tkOf d matches .int _ := by
      rcases hk with h | h | h
      · unfold keyq at h
        split at h
        · rename_i q; rw [q]; left; rfl
        · rename_i q; rw [q]; right; rfl
        · cases h
      · exact .inl h
      · exact .inr h
    cases d <;> simp [tkOf] at hd <;> simp [Instr.checkKey, run_underlying ht]
  exact key 9999
noncomputable def isKey : TK → Bool
  | .string => true
  | .int _ => true
  | _ => false
noncomputable def asMap : Ob → Option (List (S × A))
  | .map es => some es
  | _ => none
theorem asMap_ok {o : Ob} {x : List (S × A)} (h : asMap o = some x) : o = .map x := by
  unfold asMap at h; split at h <;> cases h; rfl
theorem Rel.map {U : UU} {w0 : World} {prot : PP} {m : M} {h : Hp} {w : World} (r : Rel U w0 prot m h w) {b : Pa} {c : Nat} {x : Nat × Nat} {es : List (S × A)} (hm : m b = some (c, x)) (hb : h.tr.at b = some (.map es)) :
    ∃ en clock, w.heap[c]? = some (.map en clock) ∧ EntR U m es en.toList := by
  have := r.obj b c x _ hm hb
  cases e : w.heap[c]? with
  | none => rw [e] at this; exact this.elim
  | some o =>
    rw [e] at this
    cases o <;> first | exact this.elim | skip
    exact ⟨_, _, rfl, this⟩
/-- the entries of a map -/
noncomputable def mapOf (v : V) (h : Hp) : Option (List (S × A)) :=
  ob (asSA v) fun y => match y with
    | .nilm => some []
    | .mp b => ob (h.tr.at b) fun o => asMap o
    | _ => none
theorem run_getMap {w : World} {c : Nat} {en : Array MapEntry} {clock : Nat} (h : w.heap[c]? = some (.map en clock)) : (getObj c).run P w = .ok (.map en clock) w := by
  simp [getObj, Sem.run, h]
theorem q_lookup {t kt et : Nat} {x ix : Operand} {ok : Bool} {gx gi : E → Option V} {ti ki ei : TI} (ho : o.op = .lookup t x ix ok) (ht : tiOf P t = some ti) (hx : cx K x = some gx) (hi : cx K ix = some gi) (hk : ti.k = .map kt et) (hki : tiOf P kt = some ki) (hei : tiOf P et = some ei) (hkk : isKey ki.k = true) :
    QS P K o (fun env h => ob (gx env) fun vx => ob (gi env) fun vi => ob (asSA vi) fun k => ob (mapOf vx h) fun es => ob (findS ki.k k es) fun f =>
      some (Bool.rec (.a (Option.rec ei.zero (fun y => y) f)) (.tup [Option.rec ei.zero (fun y => y) f, .s (.bo (Option.rec false (fun _ => true) f))]) ok)) := by
  intro U w0 prot m h w env a v hr r e
  simp only [ob_eq] at e
  obtain ⟨vx, h1, vi, h2, k, e1, es, e2, f, e3, e⟩ := e
  obtain ⟨ux, k1, k2⟩ := cx_ok hx r h1
  obtain ⟨ui, k3, k4⟩ := cx_ok hi r h2
  have := asSA_ok e1; subst this
  obtain ⟨i, d, z, t1, t2, t3, t4, t5, t6, t7, t8⟩ := (tiOf_ok ht).ex
  obtain ⟨i', d', z', t1', t2', t3', t4', t5', t6', t7', t8'⟩ := (tiOf_ok hki).ex
  obtain ⟨i2, d2, z2, u1, u2, u3, u4, u5, u6, u7, u8⟩ := (tiOf_ok hei).ex
  rw [t5] at hk
  cases d <;> cases hk
  rw [t5'] at e3 hkk
  have hck := checkKey_ok (P := P) (t := kt) (d := d') t2' (k := .nilp) (b := true) (j := .nilp) (by right; cases d' <;> simp [tkOf, isKey] at hkk ⊢) w ui
  have hz : (zeroValue et).run P w = .ok z2 w := by simp [zeroValue, typeInfo, u1, u3]
  have hzd : ei.zero.den U m = some z2 := cvA_ok u4
  -- the entries
  have hen : ∃ (en : Array MapEntry) (uu : Value → Sem Value), EntR U m es en.toList ∧ (Instr.lookup t ux ui ok).run P w = ((Instr.findKey kt ui en.toList).run P w).andThen fun f w' => (match f with
      | some (_, v) => (pure (if ok then .tuple #[v, .bool true] else v) : Sem Value).run P w'
      | none => ((zeroValue et).run P w').andThen fun z w'' => .ok (if ok then .tuple #[z, .bool false] else z) w'') := by
    unfold mapOf at e2
    rw [ob_eq] at e2
    obtain ⟨y, q1, e2⟩ := e2
    have := asSA_ok q1
    clear q1
    subst this
    split at e2
    · cases e2; cases k1
      refine ⟨#[], fun v => pure v, trivial, ?_⟩
      simp only [Instr.lookup, run_underlying t2, Sem.run_bind, Sem.run_pure, Result.andThen_ok, hck]
      congr 1; funext f w'
      cases f <;> simp
    · obtain ⟨o', q2, e2⟩ := ob_some e2
      have := asMap_ok e2; subst this
      obtain ⟨y, q3, k1⟩ := ob_some k1
      cases k1
      obtain ⟨en, clock, q4, q5⟩ := hr.map (x := y.2) q3 q2
      refine ⟨en, fun v => pure v, q5, ?_⟩
      simp only [Instr.lookup, run_underlying t2, Sem.run_bind, Sem.run_pure, Result.andThen_ok, run_getMap q4, hck]
      congr 1; funext f w'
      cases f <;> simp
    · cases e2
  obtain ⟨en, _, q1, q2⟩ := hen
  have hf := findS_ok (d := d') k3 0 q1 e3
  cases e
  cases f with
  | none =>
    have hf : Instr.findNow d' ui en.toList 0 = some none := hf
    have hrun : (Instr.findKey kt ui en.toList).run P w = .ok none w := by simp [Instr.findKey, run_underlying t2', hf]
    rw [hrun] at q2
    simp only [Result.andThen_ok, hz] at q2
    cases ok with
    | true =>
      refine ⟨.tuple #[z2, .bool false], ?_, by simp [execOp, ho, k2, k4, q2]⟩
      show ob (denAL U m [ei.zero, .s (.bo false)]) _ = _
      have : denAL U m [ei.zero, .s (.bo false)] = some [z2, .bool false] := by
        show ob (ei.zero.den U m) _ = _
        rw [hzd]; rfl
      rw [this]; rfl
    | false => exact ⟨z2, hzd, by simp [execOp, ho, k2, k4, q2]⟩
  | some y =>
    obtain ⟨j, vv, hy, hf⟩ := hf
    have hrun : (Instr.findKey kt ui en.toList).run P w = .ok (some (j, vv)) w := by simp [Instr.findKey, run_underlying t2', hf]
    rw [hrun] at q2
    simp only [Result.andThen_ok, Sem.run_pure] at q2
    cases ok with
    | true =>
      refine ⟨.tuple #[vv, .bool true], ?_, by simp [execOp, ho, k2, k4, q2]⟩
      show ob (denAL U m [y, .s (.bo true)]) _ = _
      have : denAL U m [y, .s (.bo true)] = some [vv, .bool true] := by
        show ob (y.den U m) _ = _
        rw [hy]; rfl
      rw [this]; rfl
    | false => exact ⟨vv, hy, by simp [execOp, ho, k2, k4, q2]⟩
end
end Go.XM

/-
  The machine on paper: what is built, and new blocks.
-/
namespace Go.XM
open Go Go.RowKit

/-- a part laid over -/
noncomputable def splice (l : List S) (off : Nat) (c : List S) : List S := l.take off ++ (c ++ l.drop (Nat.add off c.length))
/-- the fields' places and sizes -/
noncomputable def plc (P : Program) : List (Nat × Nat) → Option (List (Nat × Nat))
  | [] => some []
  | (off, t) :: r => ob (tiOf P t) fun ti => ob (plc P r) fun l => some ((off, ti.size) :: l)
/-- the parts' numbers, turned into places -/
noncomputable def pls (pl : List (Nat × Nat)) : List Nat → Option (List (Nat × Nat))
  | [] => some []
  | i :: r => ob pl[i]? fun p => ob (pls pl r) fun l => some (p :: l)
noncomputable def fillL (l : List S) : List (Nat × Nat) → List V → Option (List S)
  | [], [] => some l
  | p :: ps, v :: vs => ob (asA v) fun x => oif (and (Nat.beq x.list.length p.2) (Nat.ble (Nat.add p.1 p.2) l.length)) (fillL (splice l p.1 x.list) ps vs)
  | _, _ => none

theorem plc_ok {P : Program} : ∀ {F : List Field} {pl : List (Nat × Nat)}, plc P (F.map fun f => (f.offset, f.type)) = some pl → F.mapM (fun f => (P.info? f.type).map fun i => (f.offset, i.size)) = some pl
  | [], pl, h => by cases h; rfl
  | f :: F, pl, h => by
    simp only [List.map_cons] at h
    obtain ⟨ti, h1, h⟩ := ob_some h
    obtain ⟨l, h2, h⟩ := ob_some h
    cases h
    obtain ⟨i, d, z, t1, t2, t3, t4, t5, t6, t7, t8⟩ := (tiOf_ok h1).ex
    have ih := plc_ok h2
    simp [List.mapM_cons, t1, ih, t7]
theorem denL_splice {U : UU} {m : M} {l c : List S} {vs us : List Value} {off : Nat} (h : denL U m l = some vs) (k : denL U m c = some us) :
    denL U m (splice l off c) = some (vs.take off ++ (us ++ vs.drop (off + us.length))) := by
  unfold splice
  rw [denL_len k]
  exact denL_app (denL_take _ h) (denL_app k (denL_drop _ h))
theorem foldl_splice (off : Nat) (us : Array Value) (cs : Array Value) (h : off + us.size ≤ cs.size) :
    us.zipIdx.foldl (fun cs (x : Value × Nat) => cs.setIfInBounds (off + x.2) x.1) cs = (cs.toList.take off ++ (us.toList ++ cs.toList.drop (off + us.size))).toArray := by
  rw [← Array.foldl_toList, Array.toList_zipIdx]
  obtain ⟨g1, g2⟩ := Great.foldl_set off us.toList 0 cs
  apply Array.ext_getElem?
  intro k
  rw [g2 k]
  simp only [Nat.add_zero, Array.length_toList, List.getElem?_toArray]
  by_cases h1 : k < off
  · rw [if_neg (by omega), List.getElem?_append_left (by simp; omega), List.getElem?_take_of_lt h1]; simp
  · rw [List.getElem?_append_right (by simp; omega)]
    have ht : (cs.toList.take off).length = off := by simp; omega
    rw [ht]
    by_cases h2 : k < off + us.size
    · rw [if_pos (by omega), List.getElem?_append_left (by simp; omega)]
    · rw [if_neg (by omega), List.getElem?_append_right (by simp; omega), List.getElem?_drop]
      simp; congr 1; omega
theorem denVL_cons {U : UU} {m : M} {v : V} {r : List V} {us : List Value} (h : denVL U m (v :: r) = some us) : ∃ u q, v.den U m = some u ∧ denVL U m r = some q ∧ us = u :: q := by
  obtain ⟨u, h1, h⟩ := ob_some h
  obtain ⟨q, h2, h⟩ := ob_some h
  cases h; exact ⟨u, q, h1, h2, rfl⟩
theorem fillL_ok {U : UU} {m : M} {pl : List (Nat × Nat)} : ∀ {is : List Nat} {ps : List (Nat × Nat)} {vs : List V} {us : List Value} {l l' : List S} {cs : List Value}, pls pl is = some ps → fillL l ps vs = some l' → denL U m l = some cs → denVL U m vs = some us →
    ∃ cs', denL U m l' = some cs' ∧ Instr.fill (pl[·]?) cs.toArray (is.zip us) = some cs'.toArray
  | [], ps, vs, us, l, l', cs, hp, hf, hl, hv => by
    cases hp
    cases vs with
    | nil => cases hf; cases hv; exact ⟨cs, hl, rfl⟩
    | cons v vs => cases hf
  | i :: is, ps, vs, us, l, l', cs, hp, hf, hl, hv => by
    obtain ⟨p, h1, hp⟩ := ob_some hp
    obtain ⟨ps', h2, hp⟩ := ob_some hp
    cases hp
    cases vs with
    | nil => cases hf
    | cons v vs =>
      obtain ⟨x, h3, hf1⟩ := ob_some hf
      obtain ⟨h4, hf2⟩ := oif_some hf1
      simp only [Bool.and_eq_true, Nat.beq_eq, Nat.ble_eq] at h4
      have := asA_ok h3; subst this
      obtain ⟨u, q, k1, k2, rfl⟩ := denVL_cons hv
      have hx : denL U m x.list = some u.cells.toList := A.list_ok k1
      have hlen := denL_len hx
      have hcl := denL_len hl
      obtain ⟨cs', r1, r2⟩ := fillL_ok h2 hf2 (denL_splice (off := p.1) hl hx) k2
      refine ⟨cs', r1, ?_⟩
      have hsz : u.cells.size = p.2 := by rw [← h4.1, ← hlen]; simp
      have hb : p.1 + u.cells.size ≤ cs.toArray.size := by
        have : p.1 + p.2 ≤ l.length := h4.2
        rw [hsz]; simp [hcl]; exact this
      show Instr.fill (fun i => pl[i]?) cs.toArray ((i, u) :: is.zip q) = _
      rw [← r2]
      unfold Instr.fill
      simp only [h1]
      rw [if_neg (by simp [hsz]; have := h4.2; simp at hb; omega)]
      rw [foldl_splice p.1 u.cells cs.toArray hb]
      cases is.zip q <;> simp [Instr.fill]
section
variable {P : Program} {K : SC} {o : Oper}
theorem zip_eval (parts : Array (Nat × Operand)) (a : Act) : (parts.map fun (i, x) => (i, a.eval x)).toList = (parts.toList.map (·.1)).zip ((parts.toList.map (·.2)).map a.eval) := by
  rw [Array.toList_map]
  induction parts.toList with
  | nil => rfl
  | cons p r ih => simp [ih]
theorem q_build {t : Nat} {parts : Array (Nat × Operand)} {ti : TI} {fs : List (Nat × Nat)} {pl ps : List (Nat × Nat)} {g : E → Option (List V)} (ho : o.op = .build t parts) (ht : tiOf P t = some ti) (hk : ti.k = .struct fs) (hpl : plc P fs = some pl)
    (hps : pls pl (parts.toList.map (·.1)) = some ps) (hg : cxs K (parts.toList.map (·.2)) = some g) :
    QS P K o (fun env _ => ob (g env) fun vs => ob (fillL ti.zero.list ps vs) fun l => some (.a (.ag l))) := by
  intro U w0 prot m h w env a v hr r e
  simp only [ob_eq] at e
  obtain ⟨vs, e1, l, e2, e⟩ := e
  cases e
  have hv := cxs_ok r hg e1 (fun t ht => by simpa [opD, Op.operands, ho] using ht)
  obtain ⟨i, d, z, t1, t2, t3, t4, t5, t6, t7, t8⟩ := (tiOf_ok ht).ex
  rw [t5] at hk
  cases d <;> cases hk
  rename_i F
  have hz := A.list_ok (U := U) (m := m) (cvA_ok t4)
  obtain ⟨cs', r1, r2⟩ := fillL_ok hps e2 hz hv
  refine ⟨.agg cs'.toArray, den_agI r1, ?_⟩
  have hb : P.built t (parts.map fun (i, x) => (i, a.eval x)).toList = some cs'.toArray := by
    have hp := plc_ok hpl
    rw [zip_eval]
    unfold Program.built
    simp only [t1, t2, t3, hp]
    rw [← r2]
    simp
  simp [execOp, ho, run_build w t _ _ hb]

/-- a new block's value -/
inductive MK | ptr | sl (n z : Nat) | mp
noncomputable def MK.v : MK → Pa → V
  | .ptr, p => .a (.s (.ptr p 0))
  | .sl n z, p => .a (.s (.sl p 0 n z))
  | .mp, p => .a (.s (.mp p))
def MK.u : MK → Nat → Value
  | .ptr, c => .pointer (some ⟨c, 0, none⟩)
  | .sl n _, c => .slice (some ⟨c, 0, none⟩) n n
  | .mp, c => .map (some c)
def MK.x : MK → Nat × Nat → Prop
  | .sl n z, x => x = (n, z)
  | _, _ => True
theorem MK.den {U : UU} {m : M} {k : MK} {p : Pa} {c : Nat} {x : Nat × Nat} (hx : k.x x) (h : m p = some (c, x)) : (k.v p).den U m = some (k.u c) := by
  cases k with
  | ptr => exact den_ptrI (U := U) h
  | sl n z =>
    cases hx
    have := den_slI (U := U) (o := 0) (n := n) h (by omega)
    rw [Nat.zero_mul, Nat.sub_zero] at this
    exact this
  | mp => show ob (m p) _ = _; rw [h]; rfl
/-- a new block is laid -/
def AS (P : Program) (K : SC) (o : Oper) (f : E → Hp → Option (Ob × MK)) : Prop :=
  ∀ {U : UU} {w0 : World} {prot : PP} {m : M} {h : Hp} {w : World} {env : E} {a : Act} {r : Ob × MK}, Rel U w0 prot m h w → AR U m K (opD o) env a → f env h = some r →
    ∃ obj x, ObR U m x r.1 (some obj) ∧ r.2.x x ∧ (execOp a.eval o).run P w = .ok (.value (r.2.u w.heap.size)) (w.alloc obj)

/-- cells of a list -/
noncomputable def trL : List S → Nat → Tr S → Option (Tr S)
  | [], _, t => some t
  | x :: r, i, t => ob (t.put x (paN i)) fun t' => trL r (Nat.succ i) t'
theorem trL_ok : ∀ {l : List S} {i : Nat} {t t' : Tr S}, trL l i t = some t' → ∀ j s, t'.at (paN j) = some s → (i ≤ j ∧ l[j - i]? = some s) ∨ t.at (paN j) = some s
  | [], i, t, t', h, j, s, e => by cases h; exact .inr e
  | x :: r, i, t, t', h, j, s, e => by
    obtain ⟨t1, h1, h⟩ := ob_some h
    rcases trL_ok h j s e with ⟨q1, q2⟩ | q
    · left
      refine ⟨Nat.le_of_succ_le q1, ?_⟩
      have : j - i = (j - (i + 1)) + 1 := by have := q1; omega
      rw [this]; simpa using q2
    · by_cases hij : i = j
      · subst hij
        rw [put_same _ _ _ _ h1] at q
        left; exact ⟨Nat.le_refl _, by simpa using q⟩
      · rw [put_ne _ _ _ _ _ (paN_ne hij) h1] at q
        exact .inr q
/-- a block of a list's cells -/
theorem ObR_list {U : UU} {m : M} {l : List S} {vs : List Value} {t : Tr S} {ty cap z : Nat} (h : denL U m l = some vs) (ht : trL l 0 .nil = some t) (hs : vs.length = cap * z) (hc : cap ≤ maxLen) : ObR U m (cap, z) (.cells t (Nat.mul 2 ty) l.length) (some (.cells vs.toArray ty)) := by
  refine ⟨show ty = 2 * ty / 2 by omega, rfl, by simpa using hs, hc, fun i s e => ?_, fun _ => by have := denL_len h; simpa using this⟩
  rcases trL_ok ht i s e with ⟨_, q⟩ | q
  · obtain ⟨v, k1, k2⟩ := denL_get h q
    exact ⟨(List.getElem?_eq_some_iff.1 q).1, v, k1, by simpa using k2⟩
  · cases q
theorem a_alloc {t : Nat} {ti : TI} {tr : Tr S} (ho : o.op = .alloc t) (ht : tiOf P t = some ti) (htr : trL ti.zero.list 0 .nil = some tr) : AS P K o (fun _ _ => some (.cells tr (Nat.mul 2 t) ti.zero.list.length, .ptr)) := by
  intro U w0 prot m h w env a r hr _ e
  cases e
  obtain ⟨i, d, z, t1, t2, t3, t4, t5, t6, t7, t8⟩ := (tiOf_ok ht).ex
  have hz := A.list_ok (U := U) (m := m) (cvA_ok t4)
  refine ⟨.cells z.cells t, (1, z.cells.size), ?_, trivial, ?_⟩
  · have := ObR_list (ty := t) (cap := 1) (z := z.cells.size) hz htr (by simp) (by simp [maxLen])
    simpa using this
  · simp [execOp, ho, Instr.alloc, zeroValue, typeInfo, t1, t3, newVar, newRow, MK.u]
theorem a_box {t : Nat} {x : Operand} {gx : E → Option V} (ho : o.op = .box t x) (hx : cx K x = some gx) :
    AS P K o (fun env _ => ob (gx env) fun v => ob (asA v) fun y => ob (trL y.list 0 .nil) fun tr => some (.cells tr (Nat.mul 2 t) y.list.length, .ptr)) := by
  intro U w0 prot m h w env a r hr q e
  simp only [ob_eq] at e
  obtain ⟨v, e1, y, e2, tr, e3, e⟩ := e
  cases e
  have := asA_ok e2; subst this
  obtain ⟨u, k1, k2⟩ := cx_ok hx q e1
  have hz := A.list_ok (U := U) (m := m) k1
  refine ⟨.cells u.cells t, (1, u.cells.size), ?_, trivial, ?_⟩
  · have := ObR_list (ty := t) (cap := 1) (z := u.cells.size) hz e3 (by simp) (by simp [maxLen])
    simpa using this
  · simp [execOp, ho, k2, Instr.box, newVar, newRow, MK.u]
theorem a_makeMap {t : Nat} (ho : o.op = .makeMap t none) : AS P K o (fun _ _ => some (.map [], .mp)) := by
  intro U w0 prot m h w env a r hr q e
  cases e
  exact ⟨.map #[] 0, (0, 0), trivial, trivial, by simp [execOp, ho, run_makeMap, MK.u]⟩

/-- the parts' cells side by side, each of z cells -/
noncomputable def flatL (z : Nat) : List V → Option (List S)
  | [] => some []
  | v :: r => ob (asA v) fun x => oif (Nat.beq x.list.length z) (ob (flatL z r) fun l => some (x.list ++ l))
theorem flatL_ok {U : UU} {m : M} {z : Nat} : ∀ {vs : List V} {l : List S} {us : List Value}, flatL z vs = some l → denVL U m vs = some us → denL U m l = some (us.flatMap fun v => v.cells.toList) ∧ ∀ u ∈ us, u.cells.size = z
  | [], l, us, h, e => by cases h; cases e; exact ⟨rfl, by simp⟩
  | v :: r, l, us, h, e => by
    obtain ⟨x, h1, h⟩ := ob_some h
    obtain ⟨h2, h⟩ := oif_some h
    obtain ⟨k, h3, h⟩ := ob_some h
    cases h
    obtain ⟨u, q, k1, k2, rfl⟩ := denVL_cons e
    have := asA_ok h1; subst this
    obtain ⟨ih1, ih2⟩ := flatL_ok h3 k2
    have hx := A.list_ok (U := U) (m := m) (x := x) k1
    refine ⟨by rw [List.flatMap_cons]; exact denL_app hx ih1, fun w hw => ?_⟩
    rcases List.mem_cons.1 hw with rfl | hw
    · have := denL_len hx
      simp at this; rw [this]; exact Nat.eq_of_beq_eq_true h2
    · exact ih2 w hw
/-- are the numbers 0, 1, .. ? -/
noncomputable def upFrom (i : Nat) : List Nat → Bool
  | [] => true
  | j :: r => and (Nat.beq i j) (upFrom (Nat.succ i) r)
theorem upFrom_ok : ∀ {l : List Nat} {i : Nat} {us : List Value}, upFrom i l = true → l.length = us.length → l.zip us = (us.zipIdx i).map fun x => (x.2, x.1)
  | [], i, us, _, h => by cases us <;> simp at h ⊢
  | j :: l, i, us, h, hl => by
    cases us with
    | nil => simp at hl
    | cons u us =>
      have h' : (and (Nat.beq i j) (upFrom (Nat.succ i) l)) = true := h
      simp only [Bool.and_eq_true, Nat.beq_eq] at h'
      obtain ⟨rfl, h2⟩ := h'
      simp [upFrom_ok (i := i + 1) (us := us) h2 (by simpa using hl)]
theorem run_buildSlice_none (P : Program) (w : World) (t e : TypeId) (ie : TypeInfo) (hu : P.underlying t = some (.slice e)) (hie : P.info? e = some ie) :
    (Instr.buildSlice t 0 #[]).run P w = .ok (.slice (some ⟨w.heap.size, 0, none⟩) 0 0) (w.alloc (.cells #[] e)) := by
  simp [Instr.buildSlice, run_underlying hu, sizeOf, typeInfo, hie, newRow, Instr.fill]
  rw [show (Array.map (fun _ => (default : Value)) (Array.range 0)) = #[] from Array.eq_empty_of_size_eq_zero (by simp)]
theorem a_buildSlice {t el len : Nat} {parts : Array (Nat × Operand)} {ti ei : TI} {g : E → Option (List V)} (ho : o.op = .buildSlice t len parts) (ht : tiOf P t = some ti) (hk : ti.k = .slice el) (he : tiOf P el = some ei)
    (hu : upFrom 0 (parts.toList.map (·.1)) = true) (hn : Nat.beq (parts.toList.map (·.1)).length len = true) (hsm : and (and (Nat.ble (Nat.mul len ei.size) 1000000) (Nat.ble len 1000000)) (Nat.blt 0 ei.size) = true) (hg : cxs K (parts.toList.map (·.2)) = some g) :
    AS P K o (fun env _ => ob (g env) fun vs => ob (flatL ei.size vs) fun l => ob (trL l 0 .nil) fun tr => some (.cells tr (Nat.mul 2 el) l.length, .sl len ei.size)) := by
  intro U w0 prot m h w env a r hr q e
  simp only [ob_eq] at e
  obtain ⟨vs, e1, l, e2, tr, e3, e⟩ := e
  cases e
  have hv := cxs_ok q hg e1 (fun t ht => by simpa [opD, Op.operands, ho] using ht)
  obtain ⟨hd, hsz⟩ := flatL_ok e2 hv
  obtain ⟨i, d, z, t1, t2, t3, t4, t5, t6, t7, t8⟩ := (tiOf_ok ht).ex
  obtain ⟨i', d', z', u1, u2, u3, u4, u5, u6, u7, u8⟩ := (tiOf_ok he).ex
  rw [t5] at hk
  cases d <;> cases hk
  simp only [Bool.and_eq_true, Nat.ble_eq, blt_iff] at hsm
  have hlen := Nat.eq_of_beq_eq_true hn
  have hus : ((parts.toList.map (·.2)).map a.eval).length = len := by rw [← hlen]; simp
  have hmul : (Nat.mul len ei.size) = len * ei.size := rfl
  rw [hmul] at hsm
  by_cases hl0 : len = 0
  · subst hl0
    have hp0 : parts = #[] := by
      have : parts.toList.length = 0 := by simpa using hlen
      exact Array.toList_inj.1 (List.length_eq_zero_iff.1 this)
    subst hp0
    have hl : l = [] := by
      have := denL_len hd
      simp at this
      exact List.length_eq_zero_iff.1 this.symm
    subst hl
    have hrun := run_buildSlice_none P w t el i' t2 u1
    exact ⟨_, (0, ei.size), ObR_list hd e3 (by simp) (by simp [maxLen]), rfl, by simp [execOp, ho, hrun, MK.u]⟩
  have hpos : 0 < len * ei.size := Nat.mul_pos (by omega) hsm.2
  have hfill := Great.fill_whole (s := ei.size) hsm.2 ((parts.toList.map (·.2)).map a.eval) ((Array.range (len * i'.size)).map (z'.cells[· % z'.cells.size]!)) hsz (by rw [hus]; simp [← u7])
  have hrun := run_buildSlice (P := P) w t el len (parts.map fun (i, x) => (i, a.eval x)) _ i' z' t2 u1 u3 (by rw [← u7]; omega) (by rw [← u7]; omega) (by
    rw [zip_eval, upFrom_ok hu (by rw [hus, hlen]), ← u7]
    rw [← u7] at hfill
    exact hfill)
  refine ⟨_, (len, ei.size), ObR_list hd e3 ?_ (by simp only [maxLen]; omega), rfl, by simp [execOp, ho, hrun, MK.u]⟩
  have : ∀ us : List Value, (∀ u ∈ us, u.cells.size = ei.size) → (us.flatMap fun v => v.cells.toList).length = us.length * ei.size := by
    intro us
    induction us with
    | nil => intro _; simp
    | cons u us ih =>
      intro hh
      have h1 := hh u (by simp)
      have h2 := ih fun x hx => hh x (by simp [hx])
      simp only [List.flatMap_cons, List.length_append, Array.length_toList, h1, h2, List.length_cons, Nat.add_mul]
      omega
  rw [this _ hsz, hus]
end
end Go.XM

/-
  The machine on paper: operations that change the heap.
-/
namespace Go.XM
open Go Go.RowKit

/-- what an operation tells, and leaves behind -/
def ES (P : Program) (K : SC) (o : Oper) (f : E → Hp → Option (V × Hp)) : Prop :=
  ∀ {U : UU} {w0 : World} {prot : PP} {m : M} {h : Hp} {w : World} {env : E} {a : Act} {r : V × Hp}, Rel U w0 prot m h w → AR U m K (opD o) env a → f env h = some r →
    ∃ m' u w' nx, m.le m' ∧ Rel U w0 prot m' r.2 w' ∧ r.1.den U m' = some u ∧ (execOp a.eval o).run P w = .ok nx w' ∧ (nx = .value u ∨ (nx = .skip ∧ u = undef))

theorem trL_in : ∀ {l : List S} {i : Nat} {t t' : Tr S}, trL l i t = some t' → ∀ j, (i ≤ j → j < i + l.length → t'.at (paN j) = l[j - i]?) ∧ (j < i ∨ i + l.length ≤ j → t'.at (paN j) = t.at (paN j))
  | [], i, t, t', h, j => by cases h; exact ⟨fun h1 h2 => by simp at h2; omega, fun _ => rfl⟩
  | x :: r, i, t, t', h, j => by
    obtain ⟨t1, h1, h⟩ := ob_some h
    obtain ⟨q1, q2⟩ := trL_in h j
    have hs : (i + 1) = Nat.succ i := rfl
    refine ⟨fun a b => ?_, fun a => ?_⟩
    · by_cases hij : i = j
      · subst hij
        rw [q2 (.inl (by omega)), put_same _ _ _ _ h1]; simp
      · rw [q1 (by omega) (by simp at b; omega)]
        have : j - i = (j - Nat.succ i) + 1 := by omega
        rw [this]; simp
    · have hij : i ≠ j := by simp at a; omega
      rw [q2 (by simp at a; omega), put_ne _ _ _ _ _ (paN_ne hij) h1]

theorem setRow_size (w : World) (g : Nat) (cs : Array Value) : (w.setRow g cs).heap.size = w.heap.size := by simp [World.setRow]
theorem setRow_ne (w : World) (g k : Nat) (cs : Array Value) (h : k ≠ g) : (w.setRow g cs).heap[k]? = w.heap[k]? := setRow_other w g k cs h

/-- a store -/
noncomputable def stV (size : Nat) (va vx : V) (h : Hp) : Option (V × Hp) :=
  ob (asPtr va) fun p => ob (asA vx) fun x => ob (h.tr.at p.1) fun o => ob (asCells o) fun c =>
    oif (and (Nat.beq x.list.length size) (Nat.blt 0 size)) (ob (c.1.at (paN (Nat.add p.2 (Nat.pred size)))) fun _ => ob (trL x.list p.2 c.1) fun t => ob (h.turn p.1 (.cells t c.2.1 c.2.2)) fun h' => some (.tup [], h'))
section
variable {P : Program} {K : SC} {o : Oper}
theorem e_store {t : Nat} {x y : Operand} {gx gy : E → Option V} {ti : TI} (ho : o.op = .store t x y) (ht : tiOf P t = some ti) (hx : cx K x = some gx) (hy : cx K y = some gy) :
    ES P K o (fun env h => ob (gx env) fun va => ob (gy env) fun vx => stV ti.size va vx h) := by
  intro U w0 prot m h w env a r hr q e
  simp only [stV, ob_eq] at e
  obtain ⟨va, e1, vx, e2, p, e3, x', e4, ob', e5, c, e6, e⟩ := e
  obtain ⟨e7, e⟩ := oif_some e
  simp only [ob_eq] at e
  obtain ⟨last, e8, tr, e9, h', e10, e⟩ := e
  cases e
  have := asPtr_ok e3; subst this
  have := asA_ok e4; subst this
  have := asCells_ok e6; subst this
  obtain ⟨ua, k1, k2⟩ := cx_ok hx q e1
  obtain ⟨uy, k3, k4⟩ := cx_ok hy q e2
  obtain ⟨cb, xx, s1, rfl⟩ := den_ptrE (U := U) (m := m) k1
  obtain ⟨i, d, z, t1, t2, t3, t4, t5, t6, t7, t8⟩ := (tiOf_ok ht).ex
  obtain ⟨cur, c1, c2, c3, c4⟩ := hr.cells s1 e5
  simp only [Bool.and_eq_true, Nat.beq_eq, blt_iff] at e7
  have hl := A.list_ok (U := U) (m := m) (x := x') k3
  have hlen := denL_len hl
  have hsz : uy.cells.size = i.size := by rw [← t7, ← e7.1, ← hlen]; simp
  obtain ⟨hlt, lv, l1, l2⟩ := c4 _ _ e8
  have hlt' : p.2 + (ti.size - 1) < c.2.2 := hlt
  have hend : p.2 + (ti.size - 1) < cur.size := (Array.getElem?_eq_some_iff.1 l2).1
  have hls : uy.cells.toList.length = ti.size := by rw [hlen]; exact e7.1
  have hfit : p.2 + 0 + uy.cells.toList.length ≤ cur.size := by rw [hls]; omega
  have hst := run_storeCells_at P cb p.2 (c.2.1 / 2) uy.cells.toList 0 cur w c1 hfit (denL_one hl)
  simp only [Nat.add_zero] at hst
  have hT := turned e10
  refine ⟨m, undef, w.setRow cb (cur.toList.take p.2 ++ uy.cells.toList ++ cur.toList.drop (p.2 + uy.cells.toList.length)).toArray, .skip, M.le_refl m, hr.turn s1 e5 hT (fun k hk => setRow_ne w cb k _ hk) (setRow_size w cb _) rfl rfl rfl ?_, rfl, ?_, .inr ⟨rfl, rfl⟩⟩
  · rw [setRow_heap w cb cur _ _ _ c1]
    have hlen' : (cur.toList.take p.2 ++ uy.cells.toList ++ cur.toList.drop (p.2 + uy.cells.toList.length)).toArray.size = cur.size := by simp only [List.size_toArray, List.length_append, List.length_take, List.length_drop, Array.length_toList]; omega
    refine ⟨rfl, rfl, by rw [hlen']; exact c2, c3, fun j s hs => ?_, fun h => by rw [hlen']; exact hr.exact s1 e5 c1 h⟩
    · obtain ⟨q1, q2⟩ := trL_in e9 j
      by_cases hj : p.2 ≤ j ∧ j < p.2 + x'.list.length
      · rw [q1 hj.1 hj.2] at hs
        obtain ⟨v, v1, v2⟩ := denL_get hl hs
        have hj2 := hj.2
        rw [e7.1] at hj2
        refine ⟨by omega, v, v1, ?_⟩
        rw [List.getElem?_toArray, List.append_assoc, List.getElem?_append_right (by simp; omega), List.getElem?_append_left (by simp only [List.length_take, Array.length_toList]; omega)]
        rw [← v2]; congr 1; simp; omega
      · rw [q2 (by omega)] at hs
        obtain ⟨hk, v, v1, v2⟩ := c4 j s hs
        refine ⟨hk, v, v1, ?_⟩
        rw [List.getElem?_toArray, List.append_assoc]
        by_cases hjl : j < p.2
        · rw [List.getElem?_append_left (by simp; omega), List.getElem?_take_of_lt hjl]; simpa using v2
        · rw [List.getElem?_append_right (by simp; omega), List.getElem?_append_right (by simp; omega), List.getElem?_drop]
          rw [← v2]; simp; congr 1; omega
  · have : (storeCells ⟨cb, p.2, none⟩ uy.cells.toList).run P w = _ := hst
    simp [execOp, ho, k2, k4, Instr.storeAt, Instr.sureAddr, storeVar, hsz, sizeOf, typeInfo, t1, this]
end

/-- Rel where a block has died -/
theorem Rel.die {U : UU} {w0 : World} {prot : PP} {m : M} {h : Hp} {w : World} (r : Rel U w0 prot m h w) {b : Pa} {t : Tr Ob} (hb : m b ≠ none) (hd : h.tr.del b = some t) : Rel U w0 prot m ⟨t, h.next⟩ w := by
  have live : ∀ {q o}, t.at q = some o → h.tr.at q = some o := fun {q o} e => by
    by_cases hq : b = q
    · subst hq; rw [del_same _ _ _ hd] at e; cases e
    · rw [← del_ne _ _ _ _ hq hd]; exact e
  refine ⟨r.os, r.tape, r.output, r.size, r.keep, r.lt, r.new, fun b b' c x x' o o' e e' f f' => r.inj b b' c x x' o o' e e' (live f) (live f'), fun b c x o e f => r.obj b c x o e (live f), fun p o e => ?_⟩
  have ⟨h1, h2, h3⟩ := r.pend p o e
  have hp : b ≠ p := fun k => by rw [k] at hb; exact hb h1
  exact ⟨h1, by show t.at p = _; rw [del_ne _ _ _ _ hp hd]; exact h2, h3⟩

/-- a block that nobody on paper holds is turned in the world, and gets a name anew -/
theorem Rel.rename {U : UU} {w0 : World} {prot : PP} {m : M} {h : Hp} {w w' : World} (r : Rel U w0 prot m h w) {b : Pa} {c : Nat} {x : Nat × Nat} {t : Tr Ob} {o : Ob} {h' : Hp}
    (hb : m b = some (c, x)) (o0 : Ob) (hb0 : h.tr.at b = some o0) (hd : h.tr.del b = some t) (hn : Hp.new ⟨t, h.next⟩ o = some h')
    (hw : ∀ k, k ≠ c → w'.heap[k]? = w.heap[k]?) (hs : w'.heap.size = w.heap.size) (hos : w'.os = w.os) (htp : w'.tape = w.tape) (hou : w'.output = w.output)
    (hc : ObR U m x o w'.heap[c]?) : ∃ m' : M, m.le m' ∧ m' (paN h.next) = some (c, x) ∧ Rel U w0 prot m' h' w' := by
  have r1 := r.die (by rw [hb]; simp) hd
  obtain ⟨r2, n1, n2⟩ := r1.paper hn
  have hm := r.new h.next (Nat.le_refl _)
  have hle := M.le_upd (x := (c, x)) hm
  have hnb : paN h.next ≠ b := fun e => by rw [e, hb] at hm; cases hm
  have hdead : ∀ o', h'.tr.at b ≠ some o' := fun o' e => by
    obtain ⟨t', h1, h2⟩ := ob_some hn
    cases h2
    rw [put_ne _ _ _ _ _ hnb h1] at e
    rw [del_same _ _ _ hd] at e; cases e
  have live : ∀ {q o'}, q ≠ paN h.next → h'.tr.at q = some o' → q ≠ b ∧ h.tr.at q = some o' := fun {q o'} hq e => by
    have hqb : q ≠ b := fun k => by rw [k] at e; exact hdead _ e
    obtain ⟨t', h1, h2⟩ := ob_some hn
    cases h2
    rw [put_ne _ _ _ _ _ (Ne.symm hq) h1] at e
    have e' : t.at q = some o' := e
    rw [del_ne _ _ _ _ (Ne.symm hqb) hd] at e'
    exact ⟨hqb, e'⟩
  refine ⟨m.upd (paN h.next) (c, x), hle, M.upd_same _ _ _, ⟨hos.trans r.os, htp.trans r.tape, hou.trans r.output, by rw [hs]; exact r.size, fun k hk => ?_, fun p k y e => ?_, fun k hk => ?_, fun p q k y y' o₁ o₂ e e' f f' => ?_, fun p k y o₁ e f => ?_, fun p o' e => ?_⟩⟩
  · have ⟨h1, h2, h3⟩ := r.keep k hk
    have hkc : k ≠ c := fun e => h3 b x (by rw [e]; exact hb)
    refine ⟨by rw [hs]; exact h1, (hw k hkc).trans h2, fun p y e => ?_⟩
    by_cases hp : p = paN h.next
    · subst hp; rw [M.upd_same] at e; cases e; exact hkc rfl
    · rw [M.upd_ne _ _ hp] at e; exact h3 p y e
  · rw [hs]
    by_cases hp : p = paN h.next
    · subst hp; rw [M.upd_same] at e; cases e; exact r.lt _ _ _ hb
    · rw [M.upd_ne _ _ hp] at e; exact r.lt _ _ _ e
  · have : k ≠ h.next := by have : h'.next = h.next + 1 := n1; omega
    rw [M.upd_ne _ _ (paN_ne this)]; exact r.new k (by have : h'.next = h.next + 1 := n1; omega)
  · by_cases hp : p = paN h.next <;> by_cases hq : q = paN h.next
    · rw [hp, hq]
    · subst hp; rw [M.upd_same] at e; cases e
      rw [M.upd_ne _ _ hq] at e'
      obtain ⟨l1, l2⟩ := live hq f'
      exact absurd (r.inj q b _ _ _ _ _ e' hb l2 hb0) l1
    · subst hq; rw [M.upd_same] at e'; cases e'
      rw [M.upd_ne _ _ hp] at e
      obtain ⟨l1, l2⟩ := live hp f
      exact absurd (r.inj p b _ _ _ _ _ e hb l2 hb0) l1
    · rw [M.upd_ne _ _ hp] at e; rw [M.upd_ne _ _ hq] at e'
      exact r.inj p q k y y' _ _ e e' (live hp f).2 (live hq f').2
  · by_cases hp : p = paN h.next
    · subst hp; rw [M.upd_same] at e; cases e
      have : h'.tr.at (paN h.next) = some o := n2
      rw [this] at f; cases f
      exact ObR_mono hle hc
    · rw [M.upd_ne _ _ hp] at e
      obtain ⟨l1, l2⟩ := live hp f
      have hkc : k ≠ c := fun ek => by
        subst ek
        exact l1 (r.inj p b k y x _ _ e hb l2 hb0)
      rw [hw k hkc]
      exact ObR_mono hle (r.obj p k y o₁ e l2)
  · obtain ⟨h1, h2, k, hk, h3⟩ := r2.pend p o' e
    have hp : p ≠ paN h.next := by
      obtain ⟨_, _, k', hk', h3'⟩ := r.pend p o' e
      rw [h3']; exact paN_ne (by omega)
    exact ⟨by rw [M.upd_ne _ _ hp]; exact h1, h2, k, hk, h3⟩
/-- an append of something -/
noncomputable def appV1 (e esz bytes : Nat) (vs vx : V) (h : Hp) : Option (V × Hp) :=
  ob (asSl vx) fun y => oif (and (and (Nat.beq y.2.2.2 esz) (Nat.blt 0 y.2.2.1)) (Nat.ble y.2.2.1 1000000)) (
  ob (h.tr.at y.1) fun o2 => ob (asCells o2) fun c2 => ob (rdL c2.1 (Nat.mul y.2.1 esz) (Nat.mul y.2.2.1 esz)) fun news =>
  ob (asSA vs) fun s => match s with
  | .nils => oif (Nat.ble (Nat.mul y.2.2.1 bytes) 140737488355328) (ob (trL news 0 .nil) fun t => ob (h.new (.cells t (Nat.succ (Nat.mul 2 e)) news.length)) fun h' => some (.a (.s (.sl (paN h.next) 0 y.2.2.1 esz)), h'))
  | .sl b off n z => ob (h.tr.at b) fun o1 => ob (asCells o1) fun c =>
    oif (and (and (and (Nat.beq off 0) (Nat.beq z esz)) (Nat.beq (Nat.div c.2.1 2) e)) (and (Nat.ble n 1000000) (Nat.ble (Nat.mul (Nat.add n y.2.2.1) bytes) 140737488355328))) (
    ob (Bool.rec (ob (rdL c.1 0 (Nat.mul n esz)) fun l => trL (l ++ news) 0 .nil) (trL news (Nat.mul n esz) c.1) (Nat.beq (Nat.mul n esz) c.2.2) : Option (Tr S)) fun t =>
    ob (h.tr.del b) fun tr => forceN (Nat.add n y.2.2.1) fun k => forceN (Nat.mul k esz) fun kz => ob (Hp.new ⟨tr, h.next⟩ (.cells t (Nat.succ (Nat.mul 2 e)) kz)) fun h' => some (.a (.s (.sl (paN h.next) 0 k esz)), h'))
  | _ => none)
/-- an append of nothing -/
noncomputable def app0 (vs : V) (h : Hp) : Option (V × Hp) := ob (asSA vs) fun s => match s with
  | .nils => some (.a (.s .nils), h)
  | .sl b off n z => some (.a (.s (.sl b off n z)), h)
  | _ => none
noncomputable def isNils (v : V) : Bool := match v with
  | .a (.s .nils) => true
  | _ => false
theorem isNils_ok {v : V} (h : isNils v = true) : v = .a (.s .nils) := by
  unfold isNils at h
  split at h
  · rfl
  · cases h
/-- an append -/
noncomputable def appV (e esz bytes : Nat) (vs vx : V) (h : Hp) : Option (V × Hp) := Bool.rec (appV1 e esz bytes vs vx h) (app0 vs h) (isNils vx)
theorem run_append_nils (P : Program) (w : World) (t ty e : TypeId) (i : TypeInfo) (ht : P.underlying t = some (.slice e)) (hi : P.info? e = some i) (base : Option Addr) (sLen sCap : Nat) (hle : sLen ≤ sCap) :
    (Builtin.append_ #[t, t] ty #[.slice base sLen sCap, .slice none 0 0]).run P w = .ok (.slice base sLen sCap) w := by
  cases base <;> simp [Builtin.append_, run_underlying ht, sizeOf, typeInfo, hi, Builtin.lenOf, Builtin.firstCells, hle, storeCells]
/-- the cells behind an append: in one block or in another -/
theorem app_cells {U : UU} {m : M} {c : Tr S} {k : Nat} {cur : Array Value} {n esz : Nat} {news : List S} {vs : List Value} {t : Tr S}
    (hc : ∀ i s, c.at (paN i) = some s → i < k ∧ ∃ v, s.den U m = some v ∧ cur[i]? = some v) (hn : denL U m news = some vs) (hfit : n * esz ≤ cur.size)
    (ht : (Bool.rec (ob (rdL c 0 (Nat.mul n esz)) fun l => trL (l ++ news) 0 .nil) (trL news (Nat.mul n esz) c) (Nat.beq (Nat.mul n esz) k) : Option (Tr S)) = some t) :
    ∀ i s, t.at (paN i) = some s → i < n * esz + vs.length ∧ ∃ v, s.den U m = some v ∧ (cur.toList.take (n * esz) ++ vs)[i]? = some v := by
  have hlen := denL_len hn
  intro i s e
  cases hb : Nat.beq (Nat.mul n esz) k with
  | true =>
    rw [hb] at ht
    have hk : n * esz = k := Nat.eq_of_beq_eq_true hb
    obtain ⟨q1, q2⟩ := trL_in ht i
    have hmul : Nat.mul n esz = n * esz := rfl
    rw [hmul] at q1 q2
    by_cases hi : n * esz ≤ i ∧ i < n * esz + news.length
    · rw [q1 hi.1 hi.2] at e
      obtain ⟨v, v1, v2⟩ := denL_get hn e
      refine ⟨by omega, v, v1, ?_⟩
      rw [List.getElem?_append_right (by simp; omega)]
      rw [← v2]; congr 1; simp; omega
    · rw [q2 (by omega)] at e
      obtain ⟨h1, v, v1, v2⟩ := hc i s e
      refine ⟨by omega, v, v1, ?_⟩
      rw [List.getElem?_append_left (by simp; omega), List.getElem?_take_of_lt (by omega)]
      simpa using v2
  | false =>
    rw [hb] at ht
    obtain ⟨l, h1, h2⟩ := ob_some ht
    obtain ⟨us, k1, k2, k3⟩ := rdL_ok (fun i s hs => (hc i s hs).2) _ _ h1
    have hmul : Nat.mul n esz = n * esz := rfl
    rw [hmul] at k2
    have hus : us = cur.toList.take (n * esz) := by
      apply List.ext_getElem?
      intro j
      by_cases hj : j < n * esz
      · have : us[j]? = some us[j] := List.getElem?_eq_getElem (by omega)
        have h3 := k3 j _ this
        rw [this, List.getElem?_take_of_lt hj]
        rw [← h3]; simp
      · rw [List.getElem?_eq_none (by omega), List.getElem?_eq_none (by simp; omega)]
    rcases trL_ok h2 i s e with ⟨_, q⟩ | q
    · obtain ⟨v, v1, v2⟩ := denL_get (denL_app k1 hn) q
      have hlt := (List.getElem?_eq_some_iff.1 v2).1
      refine ⟨by simp at hlt; omega, v, v1, by rw [← hus]; simpa using v2⟩
    · cases q
section
variable {P : Program} {K : SC} {o : Oper}
theorem e_append {t el : Nat} {x y : Operand} {gx gy : E → Option V} {ti ei : TI} (ho : o.op = .call { callee := .builtin .append, args := #[x, y], argTypes := #[t, t] }) (ht : tiOf P t = some ti) (hk : ti.k = .slice el) (he : tiOf P el = some ei) (hx : cx K x = some gx) (hy : cx K y = some gy) :
    ES P K o (fun env h => ob (gx env) fun vs => ob (gy env) fun vx => appV el ei.size ei.bytes vs vx h) := by
  intro U w0 prot m h w env a r hr q e
  replace e : (ob (gx env) fun vs => ob (gy env) fun vx => appV el ei.size ei.bytes vs vx h) = some r := e
  rw [ob_eq] at e
  obtain ⟨vs, e1, e⟩ := e
  rw [ob_eq] at e
  obtain ⟨vx, e2, e⟩ := e
  cases hnn : isNils vx with
  | true =>
    have := isNils_ok hnn; subst this
    unfold appV at e
    rw [hnn] at e
    replace e : app0 vs h = some r := e
    unfold app0 at e
    rw [ob_eq] at e
    obtain ⟨s, e8, e⟩ := e
    have := asSA_ok e8; subst this
    obtain ⟨ux, j1, j2⟩ := cx_ok hx q e1
    obtain ⟨uy, j3, j4⟩ := cx_ok hy q e2
    cases j3
    obtain ⟨i, d, z, t1, t2, t3, t4, t5, t6, t7, t8⟩ := (tiOf_ok ht).ex
    obtain ⟨i', d', z', t1', t2', t3', t4', t5', t6', t7', t8'⟩ := (tiOf_ok he).ex
    rw [t5] at hk
    cases d <;> cases hk
    split at e
    · cases e
      cases j1
      have hrun := run_append_nils P w t o.type el i' t2 t1' none 0 0 (Nat.le_refl _)
      exact ⟨m, _, _, _, M.le_refl m, hr, rfl, by simp [execOp, ho, resolve, invoke, builtin, j2, j4, hrun], .inl rfl⟩
    · cases e
      obtain ⟨cb, cap, g1, g2, rfl⟩ := den_slE (U := U) (m := m) j1
      rename_i b off n' zz
      have hrun := run_append_nils P w t o.type el i' t2 t1' (some ⟨cb, off * zz, none⟩) n' (cap - off) (by omega)
      exact ⟨m, _, _, _, M.le_refl m, hr, j1, by simp [execOp, ho, resolve, invoke, builtin, j2, j4, hrun], .inl rfl⟩
    · cases e
  | false =>
  unfold appV at e
  rw [hnn] at e
  replace e : appV1 el ei.size ei.bytes vs vx h = some r := e
  simp only [appV1, ob_eq, oif_eq] at e
  obtain ⟨y', e3, e4, o2, e5, c2, e6, news, e7, s, e8, e⟩ := e
  have := asSl_ok e3; subst this
  have := asCells_ok e6; subst this
  have := asSA_ok e8; subst this
  obtain ⟨b2, p2, k2, z2⟩ := y'
  obtain ⟨ux, j1, j2⟩ := cx_ok hx q e1
  obtain ⟨uy, j3, j4⟩ := cx_ok hy q e2
  obtain ⟨cb2, cap2, s1, s2, rfl⟩ := den_slE (U := U) (m := m) j3
  obtain ⟨i, d, z, t1, t2, t3, t4, t5, t6, t7, t8⟩ := (tiOf_ok ht).ex
  obtain ⟨i', d', z', t1', t2', t3', t4', t5', t6', t7', t8'⟩ := (tiOf_ok he).ex
  rw [t5] at hk
  cases d <;> cases hk
  dsimp only at e4 e5 e7 s1 s2 j4 e
  simp only [Bool.and_eq_true, Nat.beq_eq, blt_iff, Nat.ble_eq] at e4
  obtain ⟨⟨ez, ek0⟩, ekm⟩ := e4
  subst ez
  obtain ⟨cur2, c21, c22, c23, c24⟩ := hr.cells s1 e5
  obtain ⟨us, n1, n2, n3⟩ := rdL_ok (fun i s hs => (c24 i s hs).2) _ _ e7
  have hm1 : Nat.mul p2 ei.size = p2 * ei.size := rfl
  have hm2 : Nat.mul k2 ei.size = k2 * ei.size := rfl
  rw [hm1] at n3
  rw [hm2] at n2
  have hnews : ∀ j v, us[j]? = some v → w.cell? ((⟨cb2, p2 * ei.size, none⟩ : Addr).add j) = some v := fun j v hj => by rw [add_lit, cell_lit c21]; exact n3 j v hj
  have hulen : us.length = k2 * i'.size := by rw [← t7']; exact n2
  have hzs : z'.cells.size = i'.size := by
    have hz := denL_len (A.list_ok (U := U) (m := m) (cvA_ok t4'))
    rw [(tiOf_ok he).zl, t7'] at hz; simpa using hz
  split at e
  · -- a new row
    cases j1
    simp only [oif_eq, ob_eq] at e
    obtain ⟨e9, tr, e10, h', e11, e⟩ := e
    have e9 : k2 * ei.bytes ≤ 140737488355328 := by rw [Nat.ble_eq] at e9; exact e9
    cases e
    rw [t8'] at e9
    have hrun := run_append_nil (P := P) w t o.type el i' z' t2 t1' t3' ⟨cb2, p2 * ei.size, none⟩ k2 (cap2 - p2) us hulen hnews ek0 (by omega) (by omega)
    have hge := grownCap_ge w k2 0 el
    have hcm := grownCap_le_maxLen w k2 0 el (by simp only [maxLen]; omega)
    have hobj : ObR U m (grownCap w k2 0 el, ei.size) (.cells tr (Nat.succ (Nat.mul 2 el)) news.length) (some (.cells (us.toArray ++ Builtin.zeroCells z'.cells (grownCap w k2 0 el - k2)) el)) := by
      refine ⟨show el = (2 * el + 1) / 2 by omega, rfl, ?_, hcm, fun j s hs => ?_, fun h => absurd (show (2 * el + 1) % 2 = 0 from h) (by omega)⟩
      · rw [Array.size_append, size_zeroCells, hzs, List.size_toArray, hulen, t7', ← Nat.add_mul]; congr 1; omega
      · rcases trL_ok e10 j s hs with ⟨_, qq⟩ | qq
        · obtain ⟨v, v1, v2⟩ := denL_get n1 qq
          refine ⟨(List.getElem?_eq_some_iff.1 qq).1, v, v1, ?_⟩
          rw [Array.getElem?_append_left (by simpa using (List.getElem?_eq_some_iff.1 v2).1)]
          simpa using v2
        · cases qq
    obtain ⟨m', l1, l2, l3⟩ := hr.drew.alloc e11 hobj
    refine ⟨m', _, _, _, l1, l3, den_slI (U := U) l2 (by omega), by simp [execOp, ho, resolve, invoke, builtin, j2, j4, hrun]; rfl, .inl (by simp)⟩
  · -- a row that is there
    rename_i b off n' zz
    simp only [oif_eq, ob_eq] at e
    obtain ⟨o1, f1, c, f2, f3, tr, f4, td, f5, e⟩ := e
    rw [forceN_eq, forceN_eq] at e
    simp only [ob_eq] at e
    obtain ⟨h', f6, e⟩ := e
    cases e
    have := asCells_ok f2; subst this
    obtain ⟨cb, cap, g1, g2, rfl⟩ := den_slE (U := U) (m := m) j1
    simp only [Bool.and_eq_true, Nat.beq_eq, Nat.ble_eq] at f3
    obtain ⟨⟨⟨r1, r2⟩, r3⟩, r4, r5⟩ := f3
    subst r1 r2
    obtain ⟨cur, c11, c12, c13, c14⟩ := hr.cells g1 f1
    dsimp only at c12 c13
    have r3 : c.2.1 / 2 = el := r3
    rw [r3] at c11
    have hmb : Nat.mul (Nat.add n' k2) ei.bytes = (n' + k2) * ei.bytes := rfl
    rw [hmb, t8'] at r5
    have hfit0 : n' * ei.size ≤ cur.size := by rw [c12]; exact Nat.mul_le_mul_right _ (by omega)
    have hcells := app_cells (m := m) c14 n1 hfit0 f4
    have hkz : Nat.mul (Nat.add n' k2) ei.size = n' * ei.size + us.length := by rw [n2, ← Nat.add_mul]; rfl
    have hsl : (.slice (some ⟨cb, 0 * ei.size, none⟩) n' (cap - 0) : Value) = .slice (some ⟨cb, 0, none⟩) n' cap := by rw [Nat.zero_mul, Nat.sub_zero]
    rw [hsl] at j2
    have hle : n' ≤ cap := by omega
    by_cases hroom : n' + k2 ≤ cap
    · have hfit : n' * i'.size + us.length ≤ cur.size := by rw [hulen, ← t7', c12, ← Nat.add_mul]; exact Nat.mul_le_mul_right _ hroom
      have hrun := run_append_room (P := P) w t o.type el i' t2 t1' cb n' cap cur c11 ⟨cb2, p2 * ei.size, none⟩ k2 (cap2 - p2) us hulen hnews (denL_one n1) hroom hfit
      rw [← t7'] at hrun hfit
      obtain ⟨m', l1, l2, l3⟩ := hr.rename (w' := w.setRow cb (cur.toList.take (n' * ei.size) ++ us ++ cur.toList.drop (n' * ei.size + us.length)).toArray) g1 _ f1 f5 f6 (fun k hk => setRow_ne w cb k _ hk) (setRow_size w cb _) rfl rfl rfl (by
        rw [setRow_heap w cb cur _ _ _ c11]
        refine ⟨show el = (2 * el + 1) / 2 by omega, rfl, ?_, c13, fun j s hs => ?_, fun h => absurd (show (2 * el + 1) % 2 = 0 from h) (by omega)⟩
        · simp only [List.size_toArray, List.length_append, List.length_take, List.length_drop, Array.length_toList]
          rw [← c12]; omega
        · obtain ⟨q1, v, v1, v2⟩ := hcells j s hs
          refine ⟨by rw [hkz]; exact q1, v, v1, ?_⟩
          rw [List.getElem?_toArray, List.getElem?_append_left (by simp; omega)]
          exact v2)
      refine ⟨m', _, _, _, l1, l3, den_slI (U := U) l2 (by show 0 + (n' + k2) ≤ cap; omega), by simp [execOp, ho, resolve, invoke, builtin, j2, j4, hrun]; rfl, .inl ?_⟩
      rw [Nat.zero_mul, Nat.sub_zero]; rfl
    · have holds : ∀ j v, (cur.toList.take (n' * ei.size))[j]? = some v → w.cell? ((⟨cb, 0, none⟩ : Addr).add j) = some v := fun j v hj => by
        rw [add_lit, Nat.zero_add, cell_lit c11]
        rw [List.getElem?_take] at hj
        split at hj
        · simpa using hj
        · cases hj
      have hol : (cur.toList.take (n' * ei.size)).length = n' * i'.size := by rw [← t7']; simp; omega
      have hrun := run_append_grow (P := P) w t o.type el i' z' t2 t1' t3' ⟨cb, 0, none⟩ n' cap _ hol holds ⟨cb2, p2 * ei.size, none⟩ k2 (cap2 - p2) us hulen hnews (by omega) (by omega) (growslice_fits (by omega) r5)
      have hge := grownCap_ge w (n' + k2) cap el
      have hcm := grownCap_le_maxLen w (n' + k2) cap el (by simp only [maxLen]; omega)
      have hobj : ObR U m (grownCap w (n' + k2) cap el, ei.size) (.cells tr (Nat.succ (Nat.mul 2 el)) (Nat.mul (Nat.add n' k2) ei.size)) (some (.cells ((cur.toList.take (n' * ei.size)).toArray ++ us.toArray ++ Builtin.zeroCells z'.cells (grownCap w (n' + k2) cap el - (n' + k2))) el)) := by
        refine ⟨show el = (2 * el + 1) / 2 by omega, rfl, ?_, hcm, fun j s hs => ?_, fun h => absurd (show (2 * el + 1) % 2 = 0 from h) (by omega)⟩
        · rw [Array.size_append, Array.size_append, size_zeroCells, hzs, List.size_toArray, List.size_toArray, hulen, hol, ← Nat.add_mul, ← Nat.add_mul, t7']; congr 1; omega
        · obtain ⟨q1, v, v1, v2⟩ := hcells j s hs
          refine ⟨by rw [hkz]; exact q1, v, v1, ?_⟩
          rw [Array.getElem?_append_left (by simp; omega)]
          simpa using v2
      obtain ⟨m', l1, l2, l3⟩ := (hr.die (by rw [g1]; simp) f5).drew.alloc f6 hobj
      refine ⟨m', _, _, _, l1, l3, den_slI (U := U) l2 (by show 0 + (n' + k2) ≤ _; omega), by simp [execOp, ho, resolve, invoke, builtin, j2, j4, hrun]; rfl, .inl ?_⟩
      rw [Nat.zero_mul, Nat.sub_zero]; rfl
  · cases e
end
end Go.XM

/-
  The machine on paper: maps that are written, parts that may be empty, rows that are made, copies.
-/
namespace Go.XM
open Go Go.RowKit

noncomputable def updS (t : TK) (k : S) (x : A) : List (S × A) → Option (List (S × A))
  | [] => some [(k, x)]
  | (j, y) :: r => ob (keyq t k j) fun b => Bool.rec (ob (updS t k x r) fun l => some ((j, y) :: l)) (some ((k, x) :: r)) b
theorem updS_ok {U : UU} {m : M} {d : TypeDesc} {k : S} {x : A} {u v : Value} (hu : k.den U m = some u) (hv : x.den U m = some v) : ∀ {l l' : List (S × A)} {es : List MapEntry} (i born : Nat), EntR U m l es → updS (tkOf d) k x l = some l' →
    (Instr.findNow d u es i = some none ∧ EntR U m l' (es ++ [{ key := u, val := v, born }])) ∨
    (∃ j w e, Instr.findNow d u es i = some (some (i + j, w)) ∧ es[j]? = some e ∧ Instr.sameNow d u e.key = some true ∧ EntR U m l' (es.modify j fun e => { e with key := u, val := v }))
  | [], l', [], i, born, _, h => by cases h; exact .inl ⟨rfl, hu, hv, trivial⟩
  | (j, y) :: l, l', e :: es, i, born, ⟨h1, h2, h3⟩, h => by
    obtain ⟨b, h4, h⟩ := ob_some h
    have hs := keyq_ok h4 hu h1
    cases b with
    | true =>
      cases h
      exact .inr ⟨0, e.val, e, by show (match Instr.sameNow d u e.key with | some true => _ | some false => _ | none => _) = _; rw [hs]; rfl, rfl, hs, hu, hv, h3⟩
    | false =>
      obtain ⟨l2, h5, h⟩ := ob_some h
      cases h
      have he : Instr.findNow d u (e :: es) i = Instr.findNow d u es (i + 1) := by
        show (match Instr.sameNow d u e.key with | some true => _ | some false => _ | none => _) = _
        rw [hs]
      rw [he]
      rcases updS_ok hu hv (i + 1) born h3 h5 with ⟨q1, q2⟩ | ⟨j', w, e', q1, q2, q3, q4⟩
      · exact .inl ⟨q1, h1, h2, q2⟩
      · refine .inr ⟨j' + 1, w, e', by rw [q1]; congr 3; omega, by simpa using q2, q3, ?_⟩
        rw [List.modify_succ_cons]
        exact ⟨h1, h2, q4⟩
  | [], _, _ :: _, _, _, h, _ => h.elim
  | _ :: _, _, [], _, _, h, _ => h.elim
theorem sameBits_ok {d : TypeDesc} {u v : Value} (h : Instr.sameNow d u v = some true) : Instr.sameBits 10000 v u = true := by
  have hs : ∀ (n : Nat) (a b : ByteArray), Instr.sameBits n (.string a) (.string b) = (a == b) := fun n a b => by cases n <;> rfl
  have hb : ∀ (n : Nat) (a b : Bool), Instr.sameBits n (.bool a) (.bool b) = (a == b) := fun n a b => by cases n <;> rfl
  have hi : ∀ (n : Nat) (j k : IntKind) (a b : Int), Instr.sameBits n (.int j a) (.int k b) = (j == k && a == b) := fun n j k a b => by cases n <;> rfl
  unfold Instr.sameNow at h
  split at h
  · rename_i k a k' b
    split at h
    · rename_i hk
      have hab := Option.some.inj h
      rw [hi, hk]
      rw [beq_iff_eq] at hab
      simp [hab]
    · cases h
  · rename_i a b
    have hab := Option.some.inj h
    rw [hs, ba_beq]
    rw [ba_beq] at hab
    exact decide_eq_true (of_decide_eq_true hab).symm
  · rename_i a b
    have hab := Option.some.inj h
    rw [hb]
    rw [beq_iff_eq] at hab ⊢
    exact hab.symm
  · cases h
noncomputable def asMp : V → Option Pa
  | .a (.s (.mp b)) => some b
  | _ => none
theorem asMp_ok {v : V} {x : Pa} (h : asMp v = some x) : v = .a (.s (.mp x)) := by
  unfold asMp at h; split at h <;> cases h; rfl
theorem run_setMap {P : Program} {w : World} {c : Nat} {en : Array MapEntry} {clock : Nat} (h : w.heap[c]? = some (.map en clock)) (o : Obj) : (setObj c o).run P w = .ok () { w with heap := w.heap.setIfInBounds c o } := by
  simp [setObj, Sem.run, h]
section
variable {P : Program} {K : SC} {o : Oper}
theorem e_mapUpdate {t kt et : Nat} {x ix y : Operand} {gx gi gy : E → Option V} {ti ki : TI} (ho : o.op = .mapUpdate t x ix y ∨ o.op = .insert t x ix y) (ht : tiOf P t = some ti) (hx : cx K x = some gx) (hi : cx K ix = some gi) (hy : cx K y = some gy) (hk : ti.k = .map kt et) (hki : tiOf P kt = some ki) (hkk : isKey ki.k = true) :
    ES P K o (fun env h => ob (gx env) fun vx => ob (gi env) fun vi => ob (gy env) fun vy => ob (asMp vx) fun b => ob (asSA vi) fun k => ob (asA vy) fun y => ob (h.tr.at b) fun o => ob (asMap o) fun es =>
      ob (updS ki.k k y es) fun es' => ob (h.turn b (.map es')) fun h' => some (.tup [], h')) := by
  intro U w0 prot m h w env a r hr q e
  simp only [ob_eq] at e
  obtain ⟨vx, h1, vi, h2, vy, h3, b, e1, k, e2, y', e3, o1, e4, es, e5, es', e6, h', e7, e⟩ := e
  cases e
  have := asMp_ok e1; subst this
  have := asSA_ok e2; subst this
  have := asA_ok e3; subst this
  have := asMap_ok e5; subst this
  obtain ⟨ux, k1, k2⟩ := cx_ok hx q h1 (by intro t ht; subst ht; rcases ho with ho | ho <;> simp [opD, Op.operands, ho])
  obtain ⟨ui, k3, k4⟩ := cx_ok hi q h2 (by intro t ht; subst ht; rcases ho with ho | ho <;> simp [opD, Op.operands, ho])
  obtain ⟨uy, k5, k6⟩ := cx_ok hy q h3 (by intro t ht; subst ht; rcases ho with ho | ho <;> simp [opD, Op.operands, ho])
  obtain ⟨i, d, z, t1, t2, t3, t4, t5, t6, t7, t8⟩ := (tiOf_ok ht).ex
  obtain ⟨i', d', z', t1', t2', t3', t4', t5', t6', t7', t8'⟩ := (tiOf_ok hki).ex
  rw [t5] at hk
  cases d <;> cases hk
  rw [t5'] at e6 hkk
  have hck := checkKey_ok (P := P) (t := kt) (d := d') t2' (k := .nilp) (b := true) (j := .nilp) (by right; cases d' <;> simp [tkOf, isKey] at hkk ⊢) w ui false
  obtain ⟨xx, s1, k1⟩ := ob_some k1
  cases k1
  obtain ⟨en, clock, s2, s3⟩ := hr.map (x := xx.2) s1 e4
  have hT := turned e7
  have hlt : xx.1 < w.heap.size := hr.lt _ _ xx.2 s1
  have hset : ∀ o', ({ w with heap := w.heap.setIfInBounds xx.1 o' } : World).heap[xx.1]? = some o' := fun o' => by
    show (w.heap.setIfInBounds xx.1 o')[xx.1]? = _
    rw [Array.getElem?_setIfInBounds]; simp [hlt]
  have hoth : ∀ o' k, k ≠ xx.1 → ({ w with heap := w.heap.setIfInBounds xx.1 o' } : World).heap[k]? = w.heap[k]? := fun o' k hk => by
    show (w.heap.setIfInBounds xx.1 o')[k]? = _
    rw [Array.getElem?_setIfInBounds_ne (Ne.symm hk)]
  have hsz : ∀ o', ({ w with heap := w.heap.setIfInBounds xx.1 o' } : World).heap.size = w.heap.size := fun o' => by simp
  rcases updS_ok (d := d') k3 k5 0 clock s3 e6 with ⟨f1, f2⟩ | ⟨j, vv, en', f1, f2, f3, f4⟩
  · have hrun : (Instr.findKey kt ui en.toList).run P w = .ok none w := by simp [Instr.findKey, run_underlying t2', f1]
    have hm : (Instr.mapUpdate t (.map (some xx.1)) ui uy).run P w = .ok () { w with heap := w.heap.setIfInBounds xx.1 (.map (en.push { key := ui, val := uy, born := clock }) (clock + 1)) } := by
      simp [Instr.mapUpdate, run_underlying t2, run_getMap s2, hck, hrun, run_setMap s2]
    refine ⟨m, undef, { w with heap := w.heap.setIfInBounds xx.1 (.map (en.push { key := ui, val := uy, born := clock }) (clock + 1)) }, .skip, M.le_refl m, hr.turn (x := xx.2) s1 e4 hT (hoth _) (hsz _) rfl rfl rfl ?_, rfl, ?_, .inr ⟨rfl, rfl⟩⟩
    · rw [hset]
      show EntR U m es' (en.push { key := ui, val := uy, born := clock }).toList
      simpa using f2
    · rcases ho with ho | ho <;> simp [execOp, ho, k2, k4, k6, hm]
  · rw [Nat.zero_add] at f1
    have hrun : (Instr.findKey kt ui en.toList).run P w = .ok (some (j, vv)) w := by simp [Instr.findKey, run_underlying t2', f1]
    have hej : en[j]? = some en' := by rw [← Array.getElem?_toList]; exact f2
    have hkt : (Instr.keyThatStays en'.key ui).run P w = .ok ui w := by simp [Instr.keyThatStays, sameBits_ok f3]
    have hm : (Instr.mapUpdate t (.map (some xx.1)) ui uy).run P w = .ok () { w with heap := w.heap.setIfInBounds xx.1 (.map (en.modify j fun e => { e with key := ui, val := uy }) clock) } := by
      simp [Instr.mapUpdate, run_underlying t2, run_getMap s2, hck, hrun, run_setMap s2, hej, hkt]
    refine ⟨m, undef, { w with heap := w.heap.setIfInBounds xx.1 (.map (en.modify j fun e => { e with key := ui, val := uy }) clock) }, .skip, M.le_refl m, hr.turn (x := xx.2) s1 e4 hT (hoth _) (hsz _) rfl rfl rfl ?_, rfl, ?_, .inr ⟨rfl, rfl⟩⟩
    · rw [hset]
      show EntR U m es' (en.modify j fun e => { e with key := ui, val := uy }).toList
      rw [Array.toList_modify]; exact f4
    · rcases ho with ho | ho <;> simp [execOp, ho, k2, k4, k6, hm]
/-- a part of a slice that may be empty -/
noncomputable def slE (esz : Nat) (vx : V) (lo hi : Option Nat) (h : Hp) : Option (V × Hp) :=
  ob (asSl vx) fun y => oif (Nat.beq y.2.2.2 esz) (Bool.rec (ob (slL y.1 y.2.1 y.2.2.1 y.2.2.2 lo hi) fun v => some (v, h))
    (oif (Nat.ble (hi.getD y.2.2.1) y.2.2.1) (Option.rec (some (.a (.s (.emp (paN h.next))), ⟨h.tr, Nat.succ h.next⟩)) (fun _ => none) (h.tr.at (paN h.next)))) (and (Nat.beq (lo.getD 0) (hi.getD y.2.2.1)) (Nat.blt 0 (lo.getD 0))))
theorem e_sliceL {t el : Nat} {x : Operand} {lo hi : Option Operand} {gx : E → Option V} {gl gh : E → Option (Option Nat)} {ti ei : TI} (ho : o.op = .slice t x lo hi none) (ht : tiOf P t = some ti) (hx : cx K x = some gx) (hlo : cbd K lo = some gl) (hhi : cbd K hi = some gh)
    (hk : ti.k = .slice el) (he : tiOf P el = some ei) : ES P K o (fun env h => ob (gx env) fun vx => ob (gl env) fun l => ob (gh env) fun k => slE ei.size vx l k h) := by
  intro U w0 prot m h w env a r hr q e
  simp only [slE, ob_eq, oif_eq] at e
  obtain ⟨vx, h1, vl, h2, vh, h3, y, e1, ez, e⟩ := e
  cases hb : (and (Nat.beq (vl.getD 0) (vh.getD y.2.2.1)) (Nat.blt 0 (vl.getD 0))) with
  | false =>
    rw [hb] at e
    rw [ob_eq] at e
    obtain ⟨v, e2, e⟩ := e
    cases e
    obtain ⟨u, k1, k2⟩ := q_sliceL ho ht hx hlo hhi hk he (v := v) hr q (by
      show ob (gx env) _ = _
      rw [h1]; show ob (gl env) _ = _
      rw [h2]; show ob (gh env) _ = _
      rw [h3]; show ob (asSl vx) _ = _
      rw [e1]; show oif (Nat.beq y.2.2.2 ei.size) _ = _
      rw [ez]; exact e2)
    exact ⟨m, u, w, _, M.le_refl m, hr, k1, k2, .inl rfl⟩
  | true =>
    rw [hb] at e
    rw [oif_eq] at e
    obtain ⟨e2, e⟩ := e
    cases hat : h.tr.at (paN h.next) with
    | some o' => rw [hat] at e; cases e
    | none =>
      rw [hat] at e
      cases e
      obtain ⟨ux, k1, k2⟩ := cx_ok hx q h1
      have hl := cbd_ok hlo q h2
      have hh := cbd_ok hhi q h3
      obtain ⟨i, d, z, t1, t2, t3, t4, t5, t6, t7, t8⟩ := (tiOf_ok ht).ex
      rw [t5] at hk
      have := asSl_ok e1; subst this
      obtain ⟨b, p, N, Z⟩ := y
      have ez := Nat.eq_of_beq_eq_true ez
      obtain ⟨c, cap, s1, s2, rfl⟩ := den_slE (U := U) (m := m) k1
      dsimp only at s1 s2 ez e2 hb k2
      simp only [Bool.and_eq_true, Nat.ble_eq, blt_iff, Nat.beq_eq] at e2 hb
      cases d <;> cases hk
      obtain ⟨i', d', z', t1', t2', t3', t4', t5', t6', t7', t8'⟩ := (tiOf_ok he).ex
      have hbd := bounds_ok (P := P) (w := w) (a := a) (isSlice := true) (len := N) (cap := cap - p) hl hh (by omega) e2 (by omega)
      have hm := hr.new h.next (Nat.le_refl _)
      have key : ∀ ad : Addr, ad.block = c → ad.spot = none → ∃ m' : M, m.le m' ∧ (S.emp (paN h.next)).den U m' = some (.slice (some ad) 0 (cap - p - vl.getD 0)) ∧ Rel U w0 prot m' ⟨h.tr, Nat.succ h.next⟩ w := by
        intro ad ha hsp
        refine ⟨m.upd (paN h.next) (c, ad.off, cap - p - vl.getD 0), M.le_upd hm, ?_, ⟨hr.os, hr.tape, hr.output, hr.size, fun k hk => ?_, fun q' k x e => ?_, fun k hk => ?_, fun p' q' k x x' o₁ o₂ e e' f f' => ?_, fun p' k x o₁ e f => ?_, fun p' o' e => ?_⟩⟩
        · show ob (m.upd (paN h.next) _ (paN h.next)) _ = _
          rw [M.upd_same]
          obtain ⟨ab, ao, asp⟩ := ad
          subst ha hsp
          rfl
        · have ⟨g1, g2, g3⟩ := hr.keep k hk
          refine ⟨g1, g2, fun q' x e => ?_⟩
          by_cases hp : q' = paN h.next
          · subst hp; rw [M.upd_same] at e; cases e; exact g3 b _ s1
          · rw [M.upd_ne _ _ hp] at e; exact g3 q' x e
        · by_cases hp : q' = paN h.next
          · subst hp; rw [M.upd_same] at e; cases e; exact hr.lt _ _ _ s1
          · rw [M.upd_ne _ _ hp] at e; exact hr.lt _ _ _ e
        · have : k ≠ h.next := by have : Nat.succ h.next ≤ k := hk; omega
          rw [M.upd_ne _ _ (paN_ne this)]; exact hr.new k (by have : Nat.succ h.next ≤ k := hk; omega)
        · have hp : p' ≠ paN h.next := fun k => by rw [k] at f; rw [hat] at f; cases f
          have hq : q' ≠ paN h.next := fun k => by rw [k] at f'; rw [hat] at f'; cases f'
          rw [M.upd_ne _ _ hp] at e; rw [M.upd_ne _ _ hq] at e'
          exact hr.inj p' q' k x x' _ _ e e' f f'
        · have hp : p' ≠ paN h.next := fun k => by rw [k] at f; rw [hat] at f; cases f
          rw [M.upd_ne _ _ hp] at e
          exact ObR_mono (M.le_upd hm) (hr.obj p' k x o₁ e f)
        · obtain ⟨q1, q2, k', q3, q4⟩ := hr.pend p' o' e
          have hp : p' ≠ paN h.next := by rw [q4]; exact paN_ne (by omega)
          exact ⟨by rw [M.upd_ne _ _ hp]; exact q1, q2, k', Nat.lt_succ_of_lt q3, q4⟩
      have h0 : vh.getD N - vl.getD 0 = 0 := by omega
      by_cases hcp : cap - p = vl.getD 0
      · obtain ⟨m', l1, l2, l3⟩ := key ⟨c, p * Z, none⟩ rfl rfl
        refine ⟨m', _, w, _, l1, l3, l2, ?_, .inl rfl⟩
        rw [hcp] at hbd
        simp [execOp, ho, k2, Instr.sliceAt, Instr.slice, run_underlying t2, hbd, sizeOf, typeInfo, t1', hcp, h0]
      · obtain ⟨m', l1, l2, l3⟩ := key ((⟨c, p * Z, none⟩ : Addr).add (vl.getD 0 * i'.size)) (by rw [add_lit]) (by rw [add_lit])
        refine ⟨m', _, w, _, l1, l3, l2, ?_, .inl rfl⟩
        simp [execOp, ho, k2, Instr.sliceAt, Instr.slice, run_underlying t2, hbd, sizeOf, typeInfo, t1', hcp, h0]
/-- a row is made, of elements of one cell -/
noncomputable def repS (x : S) (n : Nat) : List S := Nat.rec (motive := fun _ => List S) [] (fun _ ih => x :: ih) n
theorem repS_ok {U : UU} {m : M} {x : S} {v : Value} (h : x.den U m = some v) : ∀ n, denL U m (repS x n) = some (List.replicate n v) ∧ (repS x n).length = n
  | 0 => ⟨rfl, rfl⟩
  | n + 1 => by
    obtain ⟨h1, h2⟩ := repS_ok h n
    exact ⟨denL_cons h h1, by show (repS x n).length + 1 = _; rw [h2]⟩
theorem a_makeSlice {t el : Nat} {x y : Operand} {gx gy : E → Option V} {ti ei : TI} {z : S} (ho : o.op = .makeSlice t x y) (ht : tiOf P t = some ti) (hx : cx K x = some gx) (hy : cx K y = some gy) (hk : ti.k = .slice el) (he : tiOf P el = some ei) (hz : ei.zero = .s z) (hb : Nat.ble ei.bytes 8 = true) :
    AS P K o (fun env _ => ob (gx env) fun vx => ob (gy env) fun vy => ob (asI vx) fun a => ob (asI vy) fun b => match a.2 with
      | .ofNat n => oif (and (ieq a.2 b.2) (Nat.ble n 1000000)) (ob (trL (repS z n) 0 .nil) fun tr => some (.cells tr (Nat.mul 2 el) n, .sl n 1))
      | .negSucc _ => none) := by
  intro U w0 prot m h w env a r hr q e
  simp only [ob_eq] at e
  obtain ⟨vx, h1, vy, h2, a', e1, b', e2, e⟩ := e
  obtain ⟨ux, k1, k2⟩ := cx_ok hx q h1
  obtain ⟨uy, k3, k4⟩ := cx_ok hy q h2
  have := asI_ok e1; subst this
  have := asI_ok e2; subst this
  have := den_int k1; subst this
  have := den_int k3; subst this
  split at e
  · rename_i N hN
    simp only [oif_eq, ob_eq] at e
    obtain ⟨e3, tr, e4, e⟩ := e
    cases e
    simp only [Bool.and_eq_true, Nat.ble_eq, ieq_ok, beq_iff_eq] at e3
    obtain ⟨e3, e5⟩ := e3
    rw [hN] at k2 e3
    rw [← e3] at k4
    obtain ⟨i, d, z1, t1, t2, t3, t4, t5, t6, t7, t8⟩ := (tiOf_ok ht).ex
    obtain ⟨i', d', z', t1', t2', t3', t4', t5', t6', t7', t8'⟩ := (tiOf_ok he).ex
    rw [t5] at hk
    cases d <;> cases hk
    have hzl := (tiOf_ok he).zl
    rw [hz] at hzl t4'
    have hs1 : i'.size = 1 := by rw [← t7', ← hzl]; rfl
    have hzd : z.den U m = some z' := cvA_ok (U := U) (m := m) t4'
    obtain ⟨r1, r2⟩ := repS_ok hzd N
    have hz1 : z'.cells = #[z'] := cells_one (den_one hzd)
    have hby : i'.bytes ≤ 8 := by rw [← t8']; exact Nat.ble_eq ▸ hb
    have hrun := run_make (P := P) w t el i' z' t2 t1' t3' a'.1 b'.1 (N : Int) (N : Int) (by omega) (Int.le_refl _) (by
      have : ((i'.bytes : Int) * N) ≤ 8 * N := Int.mul_le_mul_of_nonneg_right (by omega) (by omega)
      omega) (by omega)
    have hmc : madeCells z'.cells (N * i'.size) = (List.replicate N z').toArray := by
      rw [hs1, Nat.mul_one, hz1]
      apply Array.ext_getElem?
      intro j
      unfold madeCells
      simp only [Array.getElem?_map, List.getElem?_toArray, List.getElem?_replicate]
      by_cases hj : j < N
      · simp [hj, Nat.mod_one]
      · simp [hj]
    simp only [Int.toNat_natCast, hmc] at hrun
    refine ⟨.cells (List.replicate N z').toArray el, (N, 1), ?_, rfl, ?_⟩
    · have := ObR_list (ty := el) (cap := N) (z := 1) r1 e4 (by simp) (by simp only [maxLen]; omega)
      rw [r2] at this; exact this
    · have k2' : a.eval x = .int a'.1 (N : Int) := k2
      have k4' : a.eval y = .int b'.1 (N : Int) := k4
      simp [execOp, ho, k2', k4', hrun, MK.u]
  · cases e
end
end Go.XM

/-
  The machine on paper: structs are compared.
-/
namespace Go.XM
open Go Go.RowKit

/-- the fields' places and kinds -/
noncomputable def eqFs (P : Program) : List Field → Option (List (Nat × TK))
  | [] => some []
  | f :: r => oif (not (f.name == "_")) (ob (tiOf P f.type) fun ti => match ti.k with
    | .int k => ob (eqFs P r) fun l => some ((f.offset, .int k) :: l)
    | .bool => ob (eqFs P r) fun l => some ((f.offset, .bool) :: l)
    | .string => ob (eqFs P r) fun l => some ((f.offset, .string) :: l)
    | _ => none)
noncomputable def eqS1 (k : TK) (a b : S) : Option Bool :=
  match k, a, b with
  | .int _, .i j x, .i j' y => oif (keq j j') (some (ieq x y))
  | .bool, .bo x, .bo y => some (Bool.rec (not y) y x)
  | .string, .str n l, .str n' l' => some (and (Nat.beq l l') (Nat.beq n n'))
  | _, _, _ => none
noncomputable def eqSL : List (Nat × TK) → List S → List S → Option Bool
  | [], _, _ => some true
  | p :: r, xs, ys => ob xs[p.1]? fun a => ob ys[p.1]? fun b => ob (eqS1 p.2 a b) fun e => Bool.rec (some false) (eqSL r xs ys) e
theorem eqS1_ok {P : Program} {w : World} {t : TypeId} {d : TypeDesc} (ht : P.underlying t = some d) {a b : S} {r : Bool} (h : eqS1 (tkOf d) a b = some r) {U : UU} {m : M} {u v : Value} (hu : a.den U m = some u) (hv : b.den U m = some v) (dp : Nat) :
    (Op.equalIn (dp + 1) t u v).run P w = .ok r w := by
  unfold eqS1 at h
  split at h
  · rename_i e
    obtain ⟨h1, h⟩ := oif_some h
    cases h; cases hu; cases hv
    rw [keq_ok h1, ieq_ok]
    cases d <;> cases e
    exact run_equalIn_int w dp t _ _ _ _ ht
  · rename_i x y e
    cases h; cases hu; cases hv
    cases d <;> cases e
    have := run_equalIn_bool' w dp t x y ht
    rw [this]
    cases x <;> cases y <;> rfl
  · rename_i e
    obtain ⟨l1, rfl⟩ := den_strE (U := U) (m := m) hu
    obtain ⟨l2, rfl⟩ := den_strE (U := U) (m := m) hv
    cases h
    cases d <;> cases e
    rw [run_equalIn_string w dp t _ _ ht, str_same l1 l2]
  · cases h
theorem eqSL_ok {P : Program} {w : World} {U : UU} {m : M} {xs ys : List S} {us vs : List Value} (hu : denL U m xs = some us) (hv : denL U m ys = some vs) (dp : Nat) : ∀ {fs : List Field} {l : List (Nat × TK)} {r : Bool}, eqFs P fs = some l → eqSL l xs ys = some r →
    (Op.eqFields (dp + 1) us.toArray vs.toArray fs).run P w = .ok r w
  | [], l, r, h, e => by cases h; cases e; simp [Op.eqFields]
  | f :: fs, l, r, h, e => by
    simp only [eqFs, oif_eq, ob_eq] at h
    obtain ⟨h1, ti, h2, h⟩ := h
    have hname : ¬ f.name = "_" := by simpa using h1
    obtain ⟨i, d, z, t1, t2, t3, t4, t5, t6, t7, t8⟩ := (tiOf_ok h2).ex
    have key : ∀ {k : TK} {l' : List (Nat × TK)}, tkOf d = k → aggOf d = false → eqFs P fs = some l' → l = (f.offset, k) :: l' → (Op.eqFields (dp + 1) us.toArray vs.toArray (f :: fs)).run P w = .ok r w := by
      intro k l' hk hagg hl' hl
      subst hl
      simp only [eqSL, ob_eq] at e
      obtain ⟨a, e1, b, e2, q, e3, e⟩ := e
      obtain ⟨u, k1, k2⟩ := denL_get hu e1
      obtain ⟨v, k3, k4⟩ := denL_get hv e2
      rw [← hk] at e3
      have hq := eqS1_ok (P := P) (w := w) t2 e3 k1 k3 dp
      have ha := run_isAgg t2 w
      rw [hagg] at ha
      have p1 : (part f.type us.toArray f.offset).run P w = .ok u w := by simp [part, ha, k2]
      have p2 : (part f.type vs.toArray f.offset).run P w = .ok v w := by simp [part, ha, k4]
      simp only [Op.eqFields]
      rw [if_pos hname]
      simp only [Sem.run_bind, p1, p2, hq, Result.andThen_ok, Sem.run_ite]
      cases q with
      | false => cases e; simp
      | true =>
        have ih := eqSL_ok (P := P) (w := w) hu hv dp hl' e
        simp [ih]
    split at h
    · rename_i k hk
      rw [ob_eq] at h
      obtain ⟨l', h3, h⟩ := h
      rw [t5] at hk
      refine key hk ?_ h3 (Option.some.inj h).symm
      cases d <;> cases hk; rfl
    · rename_i hk
      rw [ob_eq] at h
      obtain ⟨l', h3, h⟩ := h
      rw [t5] at hk
      refine key hk ?_ h3 (Option.some.inj h).symm
      cases d <;> cases hk; rfl
    · rename_i hk
      rw [ob_eq] at h
      obtain ⟨l', h3, h⟩ := h
      rw [t5] at hk
      refine key hk ?_ h3 (Option.some.inj h).symm
      cases d <;> cases hk; rfl
    · cases h
noncomputable def eqOp (op : BinOp) (r : Bool) : Option V :=
  match op with
  | .eql => some (.a (.s (.bo r)))
  | .neq => some (.a (.s (.bo (Bool.rec true false r))))
  | _ => none
/-- the program's own facts on a struct that is compared -/
noncomputable def eqT (P : Program) (t : Nat) : Option (List (Nat × TK)) :=
  match P.underlying t with
  | some (.struct fs) => oif (not (P.stoodInHeld t)) (oif (not (P.eqGuardType P.depth t)) (eqFs P fs.toList))
  | _ => none
theorem q_eqS {P : Program} {K : SC} {o : Oper} {op : BinOp} {t yt : Nat} {x y : Operand} {gx gy : E → Option V} {l : List (Nat × TK)} (ho : o.op = .binOp op t x y yt) (ht : eqT P t = some l) (hx : cx K x = some gx) (hy : cx K y = some gy) :
    QS P K o (fun env _ => ob (gx env) fun vx => ob (gy env) fun vy => ob (asAg vx) fun a => ob (asAg vy) fun b => ob (eqSL l a b) fun r => eqOp op r) := by
  intro U w0 prot m h w env a v hr r e
  simp only [ob_eq] at e
  obtain ⟨vx, h1, vy, h2, xa, e1, ya, e2, q, e3, e⟩ := e
  obtain ⟨ux, k1, k2⟩ := cx_ok hx r h1
  obtain ⟨uy, k3, k4⟩ := cx_ok hy r h2
  have := asAg_ok e1; subst this
  have := asAg_ok e2; subst this
  obtain ⟨us, d1, rfl⟩ := den_agE (U := U) (m := m) k1
  obtain ⟨vs, d2, rfl⟩ := den_agE (U := U) (m := m) k3
  unfold eqT at ht
  split at ht
  · rename_i fs hu
    simp only [oif_eq] at ht
    obtain ⟨t1, t2, t3⟩ := ht
    have hs : P.stoodInHeld t = false := by simpa using t1
    have hg : P.eqGuardType P.depth t = false := by simpa using t2
    have hf : P.fieldsOf t = fs := by unfold Program.fieldsOf; rw [hu]
    have hu' : P.underlying t = some (.struct (P.fieldsOf t)) := by rw [hf]; exact hu
    have hq := eqSL_ok (P := P) (w := w) d1 d2 9998 t3 e3
    have hrun : (Op.equalIn 10000 t (.agg us.toArray) (.agg vs.toArray)).run P w = .ok q w := by
      rw [run_equalIn_struct w 9999 t _ _ hu' hs, hf]; exact hq
    have heg := run_eqGuard_agg (P := P) w op t x y us.toArray vs.toArray hg
    unfold eqOp at e
    split at e
    · cases e
      refine ⟨_, rfl, ?_⟩
      have hb := run_eql_struct (P := P) w t us.toArray vs.toArray
      rw [hrun] at hb
      simp [execOp, ho, k2, k4, heg, hb]
    · cases e
      refine ⟨_, rfl, ?_⟩
      have hb := run_neq_struct (P := P) w t us.toArray vs.toArray
      rw [hrun] at hb
      cases q <;> simp [execOp, ho, k2, k4, heg, hb]
    · cases e
  · cases ht
end Go.XM
