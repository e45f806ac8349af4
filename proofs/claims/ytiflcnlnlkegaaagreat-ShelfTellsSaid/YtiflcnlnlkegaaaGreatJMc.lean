/-
  Texts joined: Xj Xk Xl Xm Xn Xo Xp Xw.
-/
import Derived.Test.YtiflcnlnlkegaaaGreatJMb
import Derived.Defers
import Derived.Orders
/-
  The machine on paper: every operation of a program.
-/
namespace Go.XM
open Go Go.RowKit

/-- an operation, made ready -/
inductive CO
  | p (f : E → Option V)
  | q (f : E → Hp → Option V)
  | al (f : E → Option (Ob × MK))
  | ef (f : E → Hp → Option (V × Hp))
  | call (f : E → Hp → Option (Nat × List V))
  | df (f : E → Hp → Option (Nat × List V))

def isFn (P : Program) (f : Nat) : Prop := ∃ fn, P.funcs[f]? = some fn ∧ (fn.name == "runtime.NumGoroutine") = false ∧ fn.body.isNone = false
/-- a function is called -/
def KS (P : Program) (K : SC) (o : Oper) (f : E → Hp → Option (Nat × List V)) : Prop :=
  ∀ {U : UU} {w0 : World} {prot : PP} {m : M} {h : Hp} {w : World} {env : E} {a : Act} {r : Nat × List V}, Rel U w0 prot m h w → AR U m K (opD o) env a → f env h = some r →
    ∃ us, denVL U m r.2 = some us ∧ (isFn P r.1 → (execOp a.eval o).run P w = .ok (.enter r.1 us.toArray) w)
/-- a call is put off -/
def DS (P : Program) (K : SC) (o : Oper) (f : E → Hp → Option (Nat × List V)) : Prop :=
  ∀ {U : UU} {w0 : World} {prot : PP} {m : M} {h : Hp} {w : World} {env : E} {a : Act} {r : Nat × List V}, Rel U w0 prot m h w → AR U m K (opD o) env a → f env h = some r →
    ∃ us cap args, denVL U m r.2 = some us ∧ us.toArray = args ++ cap ∧ (execOp a.eval o).run P w = .ok (.defer { target := .fn (.func r.1) cap, args := args }) w
def COk (P : Program) (K : SC) (o : Oper) : CO → Prop
  | .p f => QS P K o (fun env _ => f env)
  | .q f => QS P K o f
  | .al f => AS P K o (fun env _ => f env)
  | .ef f => ES P K o f
  | .call f => KS P K o f
  | .df f => DS P K o f

noncomputable def asFn : V → Option (Nat × List (Pa × Nat))
  | .a (.s (.fn f c)) => some (f, c)
  | _ => none
theorem asFn_ok {v : V} {x : Nat × List (Pa × Nat)} (h : asFn v = some x) : v = .a (.s (.fn x.1 x.2)) := by
  unfold asFn at h; split at h <;> cases h; rfl
noncomputable def capV : List (Pa × Nat) → List V
  | [] => []
  | p :: r => .a (.s (.ptr p.1 p.2)) :: capV r
section
variable {U : UU} {m : M}
theorem capV_ok : ∀ {c : List (Pa × Nat)} {us : List Value}, capsDen m c = some us → denVL U m (capV c) = some us
  | [], us, h => by cases h; rfl
  | (b, o) :: r, us, h => by
    obtain ⟨x, h1, h⟩ := ob_some h
    obtain ⟨l, h2, h⟩ := ob_some h
    cases h
    have ih := capV_ok h2
    show ob (ob (m b) _) _ = _
    rw [h1]; show ob (denVL U m (capV r)) _ = _
    rw [ih]; rfl
theorem denVL_app : ∀ {l k : List V} {vs us : List Value}, denVL U m l = some vs → denVL U m k = some us → denVL U m (l ++ k) = some (vs ++ us)
  | [], k, vs, us, h, e => by cases h; exact e
  | x :: r, k, vs, us, h, e => by
    obtain ⟨v, q, h1, h2, rfl⟩ := denVL_cons h
    have ih := denVL_app h2 e
    show ob (x.den U m) _ = _
    rw [h1]; show ob (denVL U m (r ++ k)) _ = _
    rw [ih]; rfl
end
section
variable {P : Program} {K : SC} {o : Oper}
/-- who is called, and with what -/
noncomputable def callF (gx : E → Option V) (g : E → Option (List V)) : E → Hp → Option (Nat × List V) :=
  fun env _ => ob (gx env) fun vx => ob (asFn vx) fun f => ob (g env) fun l => some (f.1, l ++ capV f.2)
theorem callF_ok {U : UU} {w0 : World} {prot : PP} {m : M} {h : Hp} {w : World} {D : Nat → Prop} {env : E} {a : Act} {x : Operand} {xs : Array Operand} {ts : Array TypeId} {ty : TypeId} {gx : E → Option V} {g : E → Option (List V)} {r : Nat × List V} (hx : cx K x = some gx) (hg : cxs K xs.toList = some g)
    (_ : Rel U w0 prot m h w) (q : AR U m K D env a) (e : callF gx g env h = some r) (hm : ∀ t, x = .tmp t ∨ Operand.tmp t ∈ xs.toList → D t) :
    ∃ us cap, denVL U m r.2 = some us ∧ us.toArray = xs.map a.eval ++ cap ∧ (resolve a.eval { callee := .value x, args := xs, argTypes := ts } ty).run P w = .ok { target := .fn (.func r.1) cap, args := xs.map a.eval } w := by
  simp only [callF, ob_eq] at e
  obtain ⟨vx, e1, f, e2, l, e3, e⟩ := e
  cases e
  have := asFn_ok e2; subst this
  obtain ⟨ux, k1, k2⟩ := cx_ok hx q e1 (fun t ht => hm t (.inl ht))
  obtain ⟨us, k3, k1⟩ := ob_some k1
  cases k1
  have hl := cxs_ok q hg e3 (fun t ht => hm t (.inr ht))
  refine ⟨xs.toList.map a.eval ++ us, us.toArray, denVL_app hl (capV_ok k3), ?_, ?_⟩
  · apply Array.ext'; simp
  · simp [resolve, k2, Deferred.ofValue]
theorem run_enter {f : Nat} {args cap : Array Value} (hf : isFn P f) (w : World) : (invoke (.fn (.func f) cap) args).run P w = .ok (.enter f (args ++ cap)) w := by
  obtain ⟨fn, h1, h2, h3⟩ := hf
  have h2' : ¬ fn.name = "runtime.NumGoroutine" := by simpa using h2
  have h3' : ¬ fn.body = none := fun e => by rw [e] at h3; cases h3
  simp [invoke, callFunc, h1, h2', h3']
theorem k_call {x : Operand} {xs : Array Operand} {ts : Array TypeId} {gx : E → Option V} {g : E → Option (List V)} (ho : o.op = .call { callee := .value x, args := xs, argTypes := ts }) (hx : cx K x = some gx) (hg : cxs K xs.toList = some g) : KS P K o (callF gx g) := by
  intro U w0 prot m h w env a r hr q e
  obtain ⟨us, cap, k1, k2, k3⟩ := callF_ok (P := P) (ts := ts) (ty := o.type) hx hg hr q e (fun t ht => by
    rcases ht with ht | ht
    · subst ht; simp [opD, Op.operands, Call.operands, ho]
    · simp only [opD, Op.operands, Call.operands, ho]; simp; right; simpa using ht)
  refine ⟨us, k1, fun hf => ?_⟩
  rw [k2]
  simp only [execOp, ho, Sem.run_bind, k3, Result.andThen_ok]
  exact run_enter hf w
theorem k_defer {x : Operand} {xs : Array Operand} {ts : Array TypeId} {gx : E → Option V} {g : E → Option (List V)} (ho : o.op = .defer { callee := .value x, args := xs, argTypes := ts }) (hx : cx K x = some gx) (hg : cxs K xs.toList = some g) : DS P K o (callF gx g) := by
  intro U w0 prot m h w env a r hr q e
  obtain ⟨us, cap, k1, k2, k3⟩ := callF_ok (P := P) (ts := ts) (ty := o.type) hx hg hr q e (fun t ht => by
    rcases ht with ht | ht
    · subst ht; simp [opD, Op.operands, Call.operands, ho]
    · simp only [opD, Op.operands, Call.operands, ho]; simp; right; simpa using ht)
  exact ⟨us, cap, _, k1, k2, by simp [execOp, ho, k3]⟩
theorem a_makeMapR {t : Nat} {r : Option Operand} {ti : TI} {kt et : Nat} {gr : E → Option (Option Nat)} (ho : o.op = .makeMap t r) (ht : tiOf P t = some ti) (hk : ti.k = .map kt et) (hr : cbd K r = some gr) : AS P K o (fun env _ => ob (gr env) fun _ => some (.map [], .mp)) := by
  intro U w0 prot m h w env a r' hrel q e
  simp only [ob_eq] at e
  obtain ⟨v, e1, e⟩ := e
  cases e
  obtain ⟨i, d, z, t1, t2, t3, t4, t5, t6, t7, t8⟩ := (tiOf_ok ht).ex
  rw [t5] at hk
  cases d <;> cases hk
  refine ⟨.map #[] 0, (0, 0), trivial, trivial, ?_⟩
  rcases cbd_ok hr q e1 with ⟨rfl, _⟩ | ⟨y, k, j, rfl, _, e2⟩
  · simp [execOp, ho, run_makeMap, MK.u]
  · simp [execOp, ho, Instr.makeMap, run_underlying t2, e2, asInt, asIntOf, MK.u]
end

/-- every operation, made ready -/
noncomputable def cop (P : Program) (K : SC) (o : Oper) : Option CO :=
  match o.op with
  | .move x => ob (cx K x) fun g => some (.p fun env => g env)
  | .assign x => ob (cx K x) fun g => some (.p fun env => g env)
  | .pick c x y => ob (cx K c) fun gc => ob (cx K x) fun gx => ob (cx K y) fun gy => some (.p fun env => ob (gc env) fun vc => ob (asBo vc) fun b => ob (gx env) fun vx => ob (gy env) fun vy => some (Bool.rec vy vx b))
  | .load t x => ob (tiOf P t) fun ti => ob (cx K x) fun g => some (.q fun env h => ob (g env) fun v => ldV ti.agg ti.size v h)
  | .nilCheck x => ob (cx K x) fun g => some (.p fun env => ob (g env) fun v => ob (asPtr v) fun _ => some v)
  | .binOp op t x y _ => ob (tiOf P t) fun ti => ob (cx K x) fun gx => ob (cx K y) fun gy => match ti.agg with
    | false => some (.p fun env => ob (gx env) fun vx => ob (gy env) fun vy => bV op ti.k vx vy)
    | true => ob (eqT P t) fun l => some (.p fun env => ob (gx env) fun vx => ob (gy env) fun vy => ob (asAg vx) fun a => ob (asAg vy) fun b => ob (eqSL l a b) fun r => eqOp op r)
  | .unOp op _ x => ob (cx K x) fun gx => some (.p fun env => ob (gx env) fun vx => uV op vx)
  | .convert s d x => ob (tiOf P s) fun si => ob (tiOf P d) fun di => ob (cx K x) fun gx => some (.p fun env => ob (gx env) fun vx => cvT si.k di.k vx)
  | .slice t x lo hi none => ob (tiOf P t) fun ti => ob (cx K x) fun gx => ob (cbd K lo) fun gl => ob (cbd K hi) fun gh => match ti.k with
    | .string => some (.p fun env => ob (gx env) fun vx => ob (gl env) fun l => ob (gh env) fun k => ob (asStr vx) fun y => slS y.1 y.2 l k)
    | .slice el => ob (tiOf P el) fun ei => match lo with
      | none => some (.p fun env => ob (gx env) fun vx => ob (gl env) fun l => ob (gh env) fun k => ob (asSl vx) fun y => oif (Nat.beq y.2.2.2 ei.size) (slL y.1 y.2.1 y.2.2.1 y.2.2.2 l k))
      | some _ => some (.ef fun env h => ob (gx env) fun vx => ob (gl env) fun l => ob (gh env) fun k => slE ei.size vx l k h)
    | _ => none
  | .fieldAddr t x f => ob (tiOf P t) fun ti => ob (cx K x) fun gx => match ti.k with
    | .struct fs => ob fs[f]? fun p => ob (tiOf P p.2) fun fi => oif (not (Nat.beq fi.size 0)) (some (.p fun env => ob (gx env) fun vx => ob (asPtr vx) fun y => forceN (Nat.add y.2 p.1) fun q => some (.a (.s (.ptr y.1 q)))))
    | _ => none
  | .indexAddr t x ix => ob (tiOf P t) fun ti => ob (cx K x) fun gx => ob (cx K ix) fun gi => match ti.k with
    | .slice el => ob (tiOf P el) fun ei => some (.p fun env => ob (gx env) fun vx => ob (gi env) fun vi => ob (asSl vx) fun y => ob (asI vi) fun j => match j.2 with
      | .ofNat j => oif (and (Nat.beq y.2.2.2 ei.size) (Nat.blt j y.2.2.1)) (forceN (Nat.mul (Nat.add y.2.1 j) y.2.2.2) fun q => some (.a (.s (.ptr y.1 q))))
      | .negSucc _ => none)
    | _ => match P.underlying t with
      | some (.array n el) => ob (tiOf P el) fun ei => some (.p fun env => ob (gx env) fun vx => ob (gi env) fun vi => ob (asPtr vx) fun y => ob (asI vi) fun j => match j.2 with
        | .ofNat j => oif (Nat.blt j n) (forceN (Nat.add y.2 (Nat.mul j ei.size)) fun q => some (.a (.s (.ptr y.1 q))))
        | .negSucc _ => none)
      | _ => none
  | .index t x ix => ob (tiOf P t) fun ti => ob (cx K x) fun gx => ob (cx K ix) fun gi => match ti.k with
    | .string => some (.p fun env => ob (gx env) fun vx => ob (gi env) fun vi => ob (asStr vx) fun y => ob (asI vi) fun j => match j.2 with
      | .ofNat j => oif (Nat.blt j y.2) (forceN (Nat.mod (Nat.div y.1 (Nat.pow 256 (Nat.sub (Nat.sub y.2 1) j))) 256) fun q => some (.a (.s (.i .u8 (.ofNat q)))))
      | .negSucc _ => none)
    | _ => none
  | .field t x f => ob (tiOf P t) fun ti => ob (cx K x) fun gx => match ti.k with
    | .struct fs => ob fs[f]? fun p => ob (tiOf P p.2) fun fi => some (.p fun env => ob (gx env) fun vx => ob (asAg vx) fun l => match fi.agg with
      | true => some (.a (.ag ((l.drop p.1).take fi.size)))
      | false => ob l[p.1]? fun s => some (.a (.s s)))
    | _ => none
  | .extract x j => ob (cx K x) fun gx => some (.p fun env => ob (gx env) fun vx => ob (asTup vx) fun l => ob l[j]? fun y => some (.a y))
  | .build t parts => ob (tiOf P t) fun ti => match ti.k with
    | .struct fs => ob (plc P fs) fun pl => ob (pls pl (parts.toList.map (·.1))) fun ps => ob (cxs K (parts.toList.map (·.2))) fun g => some (.p fun env => ob (g env) fun vs => ob (fillL ti.zero.list ps vs) fun l => some (.a (.ag l)))
    | _ => none
  | .makeFunc (.func f) ⟨[]⟩ cs => ob (cxs K cs.toList) fun g => some (.p fun env => ob (g env) fun l => ob (capL l) fun c => some (.a (.s (.fn f c))))
  | .lookup t x ix ok => ob (tiOf P t) fun ti => ob (cx K x) fun gx => ob (cx K ix) fun gi => match ti.k with
    | .map kt et => ob (tiOf P kt) fun ki => ob (tiOf P et) fun ei => oif (isKey ki.k) (some (.q fun env h => ob (gx env) fun vx => ob (gi env) fun vi => ob (asSA vi) fun k => ob (mapOf vx h) fun es => ob (findS ki.k k es) fun f =>
      some (Bool.rec (.a (Option.rec ei.zero (fun y => y) f)) (.tup [Option.rec ei.zero (fun y => y) f, .s (.bo (Option.rec false (fun _ => true) f))]) ok)))
    | _ => none
  | .alloc t => ob (tiOf P t) fun ti => ob (trL ti.zero.list 0 .nil) fun tr => some (.al fun _ => some (.cells tr (Nat.mul 2 t) ti.zero.list.length, .ptr))
  | .box t x => ob (cx K x) fun gx => some (.al fun env => ob (gx env) fun v => ob (asA v) fun y => ob (trL y.list 0 .nil) fun tr => some (.cells tr (Nat.mul 2 t) y.list.length, .ptr))
  | .makeMap t r => ob (tiOf P t) fun ti => ob (cbd K r) fun gr => match ti.k with
    | .map _ _ => some (.al fun env => ob (gr env) fun _ => some (.map [], .mp))
    | _ => none
  | .buildSlice t len parts => ob (tiOf P t) fun ti => match ti.k with
    | .slice el => ob (tiOf P el) fun ei => oif (upFrom 0 (parts.toList.map (·.1))) (oif (Nat.beq (parts.toList.map (·.1)).length len) (oif (and (and (Nat.ble (Nat.mul len ei.size) 1000000) (Nat.ble len 1000000)) (Nat.blt 0 ei.size)) (ob (cxs K (parts.toList.map (·.2))) fun g =>
      some (.al fun env => ob (g env) fun vs => ob (flatL ei.size vs) fun l => ob (trL l 0 .nil) fun tr => some (.cells tr (Nat.mul 2 el) l.length, .sl len ei.size)))))
    | _ => none
  | .makeSlice t x y => ob (tiOf P t) fun ti => ob (cx K x) fun gx => ob (cx K y) fun gy => match ti.k with
    | .slice el => ob (tiOf P el) fun ei => match ei.zero with
      | .s z => oif (Nat.ble ei.bytes 8) (some (.al fun env => ob (gx env) fun vx => ob (gy env) fun vy => ob (asI vx) fun a => ob (asI vy) fun b => match a.2 with
        | .ofNat n => oif (and (ieq a.2 b.2) (Nat.ble n 1000000)) (ob (trL (repS z n) 0 .nil) fun tr => some (.cells tr (Nat.mul 2 el) n, .sl n 1))
        | .negSucc _ => none))
      | _ => none
    | _ => none
  | .store t x y => ob (tiOf P t) fun ti => ob (cx K x) fun gx => ob (cx K y) fun gy => some (.ef fun env h => ob (gx env) fun va => ob (gy env) fun vx => stV ti.size va vx h)
  | .mapUpdate t x ix y => ob (tiOf P t) fun ti => ob (cx K x) fun gx => ob (cx K ix) fun gi => ob (cx K y) fun gy => match ti.k with
    | .map kt _ => ob (tiOf P kt) fun ki => oif (isKey ki.k) (some (.ef fun env h => ob (gx env) fun vx => ob (gi env) fun vi => ob (gy env) fun vy => ob (asMp vx) fun b => ob (asSA vi) fun k => ob (asA vy) fun y => ob (h.tr.at b) fun o => ob (asMap o) fun es =>
      ob (updS ki.k k y es) fun es' => ob (h.turn b (.map es')) fun h' => some (.tup [], h')))
    | _ => none
  | .insert t x ix y => ob (tiOf P t) fun ti => ob (cx K x) fun gx => ob (cx K ix) fun gi => ob (cx K y) fun gy => match ti.k with
    | .map kt _ => ob (tiOf P kt) fun ki => oif (isKey ki.k) (some (.ef fun env h => ob (gx env) fun vx => ob (gi env) fun vi => ob (gy env) fun vy => ob (asMp vx) fun b => ob (asSA vi) fun k => ob (asA vy) fun y => ob (h.tr.at b) fun o => ob (asMap o) fun es =>
      ob (updS ki.k k y es) fun es' => ob (h.turn b (.map es')) fun h' => some (.tup [], h')))
    | _ => none
  | .call c => match c.callee with
    | .value x => ob (cx K x) fun gx => ob (cxs K c.args.toList) fun g => some (.call (callF gx g))
    | .builtin .len => match c.args.toList, c.argTypes.toList with
      | [x], [t] => ob (tiOf P t) fun ti => ob (cx K x) fun gx => some (.q fun env h => ob (gx env) fun vx => lenV ti.k vx h)
      | _, _ => none
    | .builtin .max => match c.args.toList with
      | [x, y] => ob (cx K x) fun gx => ob (cx K y) fun gy => some (.p fun env => ob (gx env) fun vx => ob (gy env) fun vy => ob (asI vx) fun a => ob (asI vy) fun b => some (.a (.s (.i a.1 (Bool.rec a.2 b.2 (ilt a.2 b.2))))))
      | _ => none
    | .builtin .append => match c.args.toList, c.argTypes.toList with
      | [x, y], [t, t'] => oif (Nat.beq t t') (ob (tiOf P t) fun ti => ob (cx K x) fun gx => ob (cx K y) fun gy => match ti.k with
        | .slice el => ob (tiOf P el) fun ei => some (.ef fun env h => ob (gx env) fun vs => ob (gy env) fun vx => appV el ei.size ei.bytes vs vx h)
        | _ => none)
      | _, _ => none
    | _ => none
  | .defer c => match c.callee with
    | .value x => ob (cx K x) fun gx => ob (cxs K c.args.toList) fun g => some (.df (callF gx g))
    | _ => none
  | _ => none
theorem arr1 {α : Type} {a : Array α} {x : α} (h : a.toList = [x]) : a = #[x] := by apply Array.ext'; exact h
theorem arr2 {α : Type} {a : Array α} {x y : α} (h : a.toList = [x, y]) : a = #[x, y] := by apply Array.ext'; exact h
theorem cop_ok {P : Program} {K : SC} {o : Oper} {co : CO} (h : cop P K o = some co) : COk P K o co := by
  unfold cop at h
  split at h
  · rename_i x ho
    simp only [ob_eq] at h
    obtain ⟨g, h1, h⟩ := h
    cases h; exact q_move (.inl ho) h1
  · rename_i x ho
    simp only [ob_eq] at h
    obtain ⟨g, h1, h⟩ := h
    cases h; exact q_move (.inr ho) h1
  · rename_i ho
    simp only [ob_eq] at h
    obtain ⟨gc, h1, gx, h2, gy, h3, h⟩ := h
    cases h; exact q_pick ho h1 h2 h3
  · rename_i ho
    simp only [ob_eq] at h
    obtain ⟨ti, h1, g, h2, h⟩ := h
    cases h; exact q_load ho h1 h2
  · rename_i ho
    simp only [ob_eq] at h
    obtain ⟨g, h1, h⟩ := h
    cases h; exact q_nilCheck ho h1
  · rename_i ho
    simp only [ob_eq] at h
    obtain ⟨ti, h1, gx, h2, gy, h3, h⟩ := h
    split at h
    · cases h; exact q_bin ho h1 h2 h3
    · rw [ob_eq] at h
      obtain ⟨l, h4, h⟩ := h
      cases h; exact q_eqS ho h4 h2 h3
  · rename_i ho
    simp only [ob_eq] at h
    obtain ⟨gx, h1, h⟩ := h
    cases h; exact q_un ho h1
  · rename_i ho
    simp only [ob_eq] at h
    obtain ⟨si, h1, di, h2, gx, h3, h⟩ := h
    cases h; exact q_conv ho h1 h2 h3
  · rename_i t x lo hi ho
    simp only [ob_eq] at h
    obtain ⟨ti, h1, gx, h2, gl, h3, gh, h4, h⟩ := h
    split at h
    · rename_i hk
      cases h; exact q_sliceS ho h1 h2 h3 h4 hk
    · rename_i el hk
      rw [ob_eq] at h
      obtain ⟨ei, h5, h⟩ := h
      split at h
      · cases h; exact q_sliceL ho h1 h2 h3 h4 hk h5
      · cases h; exact e_sliceL ho h1 h2 h3 h4 hk h5
    · cases h
  · rename_i t x f ho
    simp only [ob_eq] at h
    obtain ⟨ti, h1, gx, h2, h⟩ := h
    split at h
    · rename_i fs hk
      simp only [ob_eq, oif_eq] at h
      obtain ⟨p, h3, fi, h4, h5, h⟩ := h
      cases h
      exact q_fieldAddr ho h1 h2 hk h3 h4 (by simpa using h5)
    · cases h
  · rename_i ho
    simp only [ob_eq] at h
    obtain ⟨ti, h1, gx, h2, gi, h3, h⟩ := h
    split at h
    · rename_i hk
      rw [ob_eq] at h
      obtain ⟨ei, h4, h⟩ := h
      cases h; exact q_indexAddr ho h1 h2 h3 hk h4
    · split at h
      · rename_i n el hu
        rw [ob_eq] at h
        obtain ⟨ei, h4, h⟩ := h
        cases h; exact q_indexAddrA ho hu h2 h3 h4
      · cases h
  · rename_i ho
    simp only [ob_eq] at h
    obtain ⟨ti, h1, gx, h2, gi, h3, h⟩ := h
    split at h
    · rename_i hk
      cases h; exact q_indexS ho h1 h2 h3 hk
    · cases h
  · rename_i ho
    simp only [ob_eq] at h
    obtain ⟨ti, h1, gx, h2, h⟩ := h
    split at h
    · rename_i hk
      simp only [ob_eq] at h
      obtain ⟨p, h3, fi, h4, h⟩ := h
      cases h
      exact q_field ho h1 h2 hk h3 h4
    · cases h
  · rename_i ho
    simp only [ob_eq] at h
    obtain ⟨gx, h1, h⟩ := h
    cases h; exact q_extract ho h1
  · rename_i ho
    rw [ob_eq] at h
    obtain ⟨ti, h1, h⟩ := h
    split at h
    · rename_i hk
      simp only [ob_eq] at h
      obtain ⟨pl, h2, ps, h3, g, h4, h⟩ := h
      cases h; exact q_build ho h1 hk h2 h3 h4
    · cases h
  · rename_i f cs ho
    rw [ob_eq] at h
    obtain ⟨g, h1, h⟩ := h
    cases h; exact q_makeFunc ho h1
  · rename_i ho
    simp only [ob_eq] at h
    obtain ⟨ti, h1, gx, h2, gi, h3, h⟩ := h
    split at h
    · rename_i hk
      simp only [ob_eq, oif_eq] at h
      obtain ⟨ki, h4, ei, h5, h6, h⟩ := h
      cases h; exact q_lookup ho h1 h2 h3 hk h4 h5 h6
    · cases h
  · rename_i ho
    simp only [ob_eq] at h
    obtain ⟨ti, h1, tr, h2, h⟩ := h
    cases h; exact a_alloc ho h1 h2
  · rename_i ho
    simp only [ob_eq] at h
    obtain ⟨gx, h1, h⟩ := h
    cases h; exact a_box ho h1
  · rename_i ho
    simp only [ob_eq] at h
    obtain ⟨ti, h1, gr, h2, h⟩ := h
    split at h
    · rename_i hk
      cases h; exact a_makeMapR ho h1 hk h2
    · cases h
  · rename_i ho
    rw [ob_eq] at h
    obtain ⟨ti, h1, h⟩ := h
    split at h
    · rename_i hk
      simp only [ob_eq, oif_eq] at h
      obtain ⟨ei, h2, h3, h4, h5, g, h6, h⟩ := h
      cases h; exact a_buildSlice ho h1 hk h2 h3 h4 h5 h6
    · cases h
  · rename_i ho
    simp only [ob_eq] at h
    obtain ⟨ti, h1, gx, h2, gy, h3, h⟩ := h
    split at h
    · rename_i hk
      rw [ob_eq] at h
      obtain ⟨ei, h4, h⟩ := h
      split at h
      · rename_i hz
        rw [oif_eq] at h
        obtain ⟨h5, h⟩ := h
        cases h; exact a_makeSlice ho h1 h2 h3 hk h4 hz h5
      · cases h
    · cases h
  · rename_i ho
    simp only [ob_eq] at h
    obtain ⟨ti, h1, gx, h2, gy, h3, h⟩ := h
    cases h; exact e_store ho h1 h2 h3
  · rename_i ho
    simp only [ob_eq] at h
    obtain ⟨ti, h1, gx, h2, gi, h3, gy, h4, h⟩ := h
    split at h
    · rename_i hk
      simp only [ob_eq, oif_eq] at h
      obtain ⟨ki, h5, h6, h⟩ := h
      cases h; exact e_mapUpdate (.inl ho) h1 h2 h3 h4 hk h5 h6
    · cases h
  · rename_i ho
    simp only [ob_eq] at h
    obtain ⟨ti, h1, gx, h2, gi, h3, gy, h4, h⟩ := h
    split at h
    · rename_i hk
      simp only [ob_eq, oif_eq] at h
      obtain ⟨ki, h5, h6, h⟩ := h
      cases h; exact e_mapUpdate (.inr ho) h1 h2 h3 h4 hk h5 h6
    · cases h
  · rename_i c ho
    obtain ⟨callee, args, argTypes⟩ := c
    dsimp only at h
    split at h
    · simp only [ob_eq] at h
      obtain ⟨gx, h1, g, h2, h⟩ := h
      cases h; exact k_call ho h1 h2
    · split at h
      · rename_i h1 h2
        have := arr1 h1; subst this
        have := arr1 h2; subst this
        simp only [ob_eq] at h
        obtain ⟨ti, h3, gx, h4, h⟩ := h
        cases h; show QS P K o _; intro U w0 prot m h w env a v hr q e; exact q_len ho h3 h4 hr q e
      · cases h
    · split at h
      · rename_i h1
        have := arr2 h1; subst this
        simp only [ob_eq] at h
        obtain ⟨gx, h3, gy, h4, h⟩ := h
        cases h; show QS P K o _; intro U w0 prot m h w env a v hr q e; exact q_max ho h3 h4 hr q e
      · cases h
    · split at h
      · rename_i h1 h2
        have := arr2 h1; subst this
        have := arr2 h2; subst this
        simp only [ob_eq, oif_eq] at h
        obtain ⟨h3, ti, h4, gx, h5, gy, h6, h⟩ := h
        have h3 := Nat.eq_of_beq_eq_true h3
        subst h3
        split at h
        · rename_i hk
          rw [ob_eq] at h
          obtain ⟨ei, h7, h⟩ := h
          cases h; show ES P K o _; intro U w0 prot m h w env a r hr q e; exact e_append ho h4 hk h7 h5 h6 hr q e
        · cases h
      · cases h
    · cases h
  · rename_i c ho
    obtain ⟨callee, args, argTypes⟩ := c
    dsimp only at h
    split at h
    · simp only [ob_eq] at h
      obtain ⟨gx, h1, g, h2, h⟩ := h
      cases h; exact k_defer ho h1 h2
    · cases h
  · cases h
end Go.XM

/-
  The machine on paper: it runs code whose order is not open, and calls.
-/
namespace Go.XM
open Go Go.RowKit

structure St where
  env : E
  hp : Hp
  df : List (Nat × List V)
/-- who calls: 'true' for a call that was put off -/
abbrev CF := Bool → Hp → Nat → List V → Option (V × Hp)

/-- calls that were put off -/
def DfR (U : UU) (m : M) : List (Nat × List V) → List Deferred → Prop
  | [], [] => True
  | x :: r, d :: ds => (∃ us cap args, denVL U m x.2 = some us ∧ us.toArray = args ++ cap ∧ d = { target := .fn (.func x.1) cap, args := args }) ∧ DfR U m r ds
  | _, _ => False
theorem DfR.mono {U : UU} {m m' : M} (h : m.le m') : ∀ {l : List (Nat × List V)} {ds : List Deferred}, DfR U m l ds → DfR U m' l ds
  | [], [], _ => trivial
  | _ :: _, _ :: _, ⟨⟨us, cap, args, h1, h2, h3⟩, h4⟩ => ⟨⟨us, cap, args, denVL_mono h h1, h2, h3⟩, DfR.mono h h4⟩
  | [], _ :: _, h => h.elim
  | _ :: _, [], h => h.elim

/-- state on paper and in the model -/
structure SD (U : UU) (w0 : World) (prot : PP) (m : M) (K : SC) (D : Nat → Prop) (st : St) (a : Act) (w : World) : Prop where
  rel : Rel U w0 prot m st.hp w
  env : AR U m K D st.env a
  df : DfR U m st.df a.defers

abbrev SR (U : UU) (w0 : World) (prot : PP) (m : M) (K : SC) (st : St) (a : Act) (w : World) : Prop := SD U w0 prot m K (fun _ => True) st a w

/-- what a call on paper says of the call -/
structure CallOK (P : Program) (call : CF) : Prop where
  run : ∀ {U : UU} {w0 : World} {prot : PP} {m : M} {h : Hp} {w : World} {f : Nat} {args : List V} {us : List Value} {r : V × Hp}, Rel U w0 prot m h w → denVL U m args = some us → call false h f args = some r →
    isFn P f ∧ Calls P f us.toArray w (fun e w' => ∃ m' u, e = .returned u ∧ m.le m' ∧ Rel U w0 prot m' r.2 w' ∧ r.1.den U m' = some u)
  off : ∀ {U : UU} {w0 : World} {prot : PP} {m : M} {h : Hp} {w : World} {f : Nat} {args : List V} {us : List Value} {r : V × Hp}, Rel U w0 prot m h w → denVL U m args = some us → call true h f args = some r →
    isFn P f ∧ CallsD P f us.toArray .returning w (fun e u' w' => u' = .returning ∧ ∃ m' u, e = .returned u ∧ m.le m' ∧ Rel U w0 prot m' r.2 w' ∧ r.1.den U m' = some u)

/-- what a region has told, one slot more -/
noncomputable def SC.tell (K : SC) (d : Option Nat) : SC :=
  Option.rec K (fun d => SC.rec (fun n ks ds => ⟨n, ks, d :: ds⟩) K) d
theorem SC.tell_some (K : SC) (d : Nat) : K.tell (some d) = { K with ds := d :: K.ds } := by cases K; rfl
noncomputable def putD (K : SC) (dst : Option Nat) : Option (V → E → Option E) :=
  match dst with
  | none => some fun _ env => some env
  | some d => pushC K d
theorem putD_ok {U : UU} {m : M} {K : SC} {D : Nat → Prop} {dst : Option Nat} {v : V} {u : Value} {env env' : E} {a : Act} {g : V → E → Option E} (hg : putD K dst = some g) (h : g v env = some env') (r : AR U m K D env a) (hv : v.den U m = some u) : AR U m (K.tell dst) D env' (a.put dst u) := by
  cases dst with
  | none => cases hg; cases h; exact r
  | some d => rw [SC.tell_some]; exact r.put hv hg h
theorem put_defers' (a : Act) (dst : Option Nat) (u : Value) : (a.put dst u).defers = a.defers := by cases dst <;> rfl

/-- an operation, its slot with it -/
noncomputable def xop (co : CO) (g : V → E → Option E) : CF → St → Option St :=
  match co with
  | .p f => fun _ st => St.rec (fun env hp df => ob (f env) fun v => ob (g v env) fun env => some ⟨env, hp, df⟩) st
  | .q f => fun _ st => St.rec (fun env hp df => ob (f env hp) fun v => ob (g v env) fun env => some ⟨env, hp, df⟩) st
  | .al f => fun _ st => St.rec (fun env hp df => ob (f env) fun r => ob (hp.new r.1) fun h => ob (g (r.2.v (paN hp.next)) env) fun env => some ⟨env, h, df⟩) st
  | .ef f => fun _ st => St.rec (fun env hp df => ob (f env hp) fun r => Prod.rec (fun v h => ob (g v env) fun env => some ⟨env, h, df⟩) r) st
  | .call f => fun call st => St.rec (fun env hp df => ob (f env hp) fun r => Prod.rec (fun fn args => ob (call false hp fn args) fun q => Prod.rec (fun v h => ob (g v env) fun env => some ⟨env, h, df⟩) q) r) st
  | .df f => fun _ st => St.rec (fun env hp df => ob (f env hp) fun r => ob (g (.tup []) env) fun env => some ⟨env, hp, r :: df⟩) st
section
variable {P : Program} {call : CF} {U : UU} {w0 : World} {prot : PP} {K : SC}
theorem xop_ok (hc : CallOK P call) {D : Nat → Prop} {o : Oper} {co : CO} (hk : COk P K o co) {g : V → E → Option E} (hg : putD K o.dst = some g) {st st' : St} {m : M} {a : Act} {w : World} {next : Act → World → Prop} {Q : Exit → Act → World → Prop}
    (e : xop co g call st = some st') (s : SD U w0 prot m K D st a w) (hD : ∀ t, opD o t → D t) (K1 : ∀ m' a' w', m.le m' → SD U w0 prot m' (K.tell o.dst) D st' a' w' → (∃ u ds, a' = { a.put o.dst u with defers := ds }) → next a' w') : o.wp P a w next Q := by
  have same : ∀ u, ∃ u' ds, a.put o.dst u = { a.put o.dst u' with defers := ds } := fun u => ⟨u, (a.put o.dst u).defers, rfl⟩
  unfold Oper.wp
  obtain ⟨env0, hp0, df0⟩ := st
  cases co with
  | p f =>
    simp only [xop, ob_eq] at e
    obtain ⟨v, e1, env, e2, e⟩ := e
    cases e
    obtain ⟨u, k1, k2⟩ := hk s.rel (s.env.weak hD) e1
    rw [k2]
    exact K1 m _ w (M.le_refl m) ⟨s.rel, putD_ok hg e2 s.env k1, by rw [put_defers']; exact s.df⟩ (same u)
  | q f =>
    simp only [xop, ob_eq] at e
    obtain ⟨v, e1, env, e2, e⟩ := e
    cases e
    obtain ⟨u, k1, k2⟩ := hk s.rel (s.env.weak hD) e1
    rw [k2]
    exact K1 m _ w (M.le_refl m) ⟨s.rel, putD_ok hg e2 s.env k1, by rw [put_defers']; exact s.df⟩ (same u)
  | al f =>
    simp only [xop, ob_eq] at e
    obtain ⟨r, e1, h', e2, env, e3, e⟩ := e
    cases e
    obtain ⟨obj, x, k1, k2, k3⟩ := hk s.rel (s.env.weak hD) e1
    obtain ⟨m', l1, l2, l3⟩ := s.rel.alloc e2 k1
    rw [k3]
    exact K1 m' _ _ l1 ⟨l3, putD_ok hg e3 (s.env.mono l1) (MK.den k2 l2), by rw [put_defers']; exact s.df.mono l1⟩ (same _)
  | ef f =>
    simp only [xop, ob_eq] at e
    obtain ⟨⟨rv, rh⟩, e1, env, e2, e⟩ := e
    cases e
    obtain ⟨m', u, w', nx, l1, l2, l3, l4, l5⟩ := hk s.rel (s.env.weak hD) e1
    rw [l4]
    rcases l5 with rfl | ⟨rfl, rfl⟩
    · exact K1 m' _ _ l1 ⟨l2, putD_ok hg e2 (s.env.mono l1) l3, by rw [put_defers']; exact s.df.mono l1⟩ (same _)
    · exact K1 m' _ _ l1 ⟨l2, putD_ok hg e2 (s.env.mono l1) l3, by rw [put_defers']; exact s.df.mono l1⟩ (same _)
  | call f =>
    simp only [xop, ob_eq] at e
    obtain ⟨⟨rf, ra⟩, e1, ⟨qv, qh⟩, e2, env, e3, e⟩ := e
    cases e
    obtain ⟨us, k1, k2⟩ := hk s.rel (s.env.weak hD) e1
    rw [k2 (hc.run s.rel k1 e2).1]
    refine (hc.run s.rel k1 e2).2.mono fun e' w' he => ?_
    obtain ⟨m', u, rfl, l1, l2, l3⟩ := he
    exact K1 m' _ _ l1 ⟨l2, putD_ok hg e3 (s.env.mono l1) l3, by rw [put_defers']; exact s.df.mono l1⟩ (same _)
  | df f =>
    simp only [xop, ob_eq] at e
    obtain ⟨r, e1, env, e2, e⟩ := e
    cases e
    obtain ⟨us, cap, args, k1, k2, k3⟩ := hk s.rel (s.env.weak hD) e1
    rw [k3]
    refine K1 m _ w (M.le_refl m) ⟨s.rel, putD_ok hg e2 (s.env.defers _) rfl, ?_⟩ ⟨undef, { target := .fn (.func r.1) cap, args := args } :: a.defers, by cases o.dst <;> rfl⟩
    rw [put_defers']
    exact ⟨⟨us, cap, args, k1, k2, rfl⟩, s.df⟩

noncomputable def xskip (g : V → E → Option E) (st : St) : Option St := St.rec (fun env hp df => ob (g (.tup []) env) fun env => some ⟨env, hp, df⟩) st
theorem xskip_ok {D : Nat → Prop} {dst : Option Nat} {g : V → E → Option E} (hg : putD K dst = some g) {st st' : St} {m : M} {a : Act} {w : World} (e : xskip g st = some st') (s : SD U w0 prot m K D st a w) : SD U w0 prot m (K.tell dst) D st' (a.put dst undef) w := by
  obtain ⟨env0, hp0, df0⟩ := st
  obtain ⟨env, e1, e⟩ := ob_some e
  cases e
  exact ⟨s.rel, putD_ok hg e1 s.env rfl, by rw [put_defers']; exact s.df⟩
noncomputable def beqB (a b : Bool) : Bool := Bool.rec (not b) b a
theorem beqB_ok (a b : Bool) : beqB a b = (a == b) := by cases a <;> cases b <;> rfl
/-- is an operation wanted? -/
noncomputable def wantV (v : V) (want : Bool) : Option Bool :=
  match v with
  | .a (.s (.bo b)) => some (beqB b want)
  | .tup [] => some false
  | _ => none
/-- an operation with its guard -/
noncomputable def xoper (P : Program) (K : SC) (ops : Array Oper) (o : Oper) : Option (CF → St → Option St) :=
  ob (cop P K o) fun co => ob (putD K o.dst) fun g => match o.guard with
  | none => some (xop co g)
  | some (j, want) => ob ops[j]? fun oj => ob oj.dst fun t => ob (cx K (.tmp t)) fun gt => some fun call st => ob (gt st.env) fun v => ob (wantV v want) fun b => Bool.rec (xskip g st) (xop co g call st) b
theorem wantV_ok {ops : Array Oper} {o oj : Oper} {j t : Nat} {want b : Bool} {D : Nat → Prop} {env : E} {m : M} {a : Act} {v : V} {gt : E → Option V} (hg : o.guard = some (j, want)) (hj : ops[j]? = some oj) (ht : oj.dst = some t) (hx : cx K (.tmp t) = some gt) (hD : D t) (s : AR U m K D env a) (hv : gt env = some v) (hw : wantV v want = some b) :
    Region.wanted o (yielded ops a.tmps) = b := by
  obtain ⟨u, k1, k2'⟩ := cx_ok hx s hv (fun t' ht => by cases ht; exact hD)
  have k2 : (a.tmps[t]?).getD undef = u := by rw [← k2']; simp [Act.eval]
  clear k2'
  unfold Region.wanted yielded
  simp only [hg, hj, Option.bind_some, ht]
  unfold wantV at hw
  split at hw
  · cases hw; cases k1
    rename_i x
    have : a.tmps[t]? = some (.bool x) := by
      cases h : a.tmps[t]? with
      | none => rw [h] at k2; cases k2
      | some y => rw [h] at k2; simpa using k2
    rw [beqB_ok, this]
    cases x <;> cases want <;> rfl
  · cases hw; cases k1
    cases h : a.tmps[t]? with
    | none => rfl
    | some y =>
      rw [h] at k2
      have : y = .tuple #[] := by simpa using k2
      rw [this]; rfl
  · cases hw
noncomputable def xops (P : Program) (ops : Array Oper) : SC → List Oper → Option (CF → St → Option St)
  | _, [] => some fun _ st => St.rec (fun env hp df => E.rec (fun _ tr => some ⟨⟨[], tr⟩, hp, df⟩) env) st
  | K, o :: r => ob (xoper P K ops o) fun f => ob (xops P ops (K.tell o.dst) r) fun g => some fun call st => ob (f call st) fun st' => g call st'
theorem xops_ok (hc : CallOK P call) {ops : Array Oper} {Q : Exit → Act → World → Prop} {K0 : SC} : ∀ {K : SC} {l : List Oper} {f : CF → St → Option St} {st st' : St} {m : M} {a : Act} {w : World}, { K with ds := [] } = K0 → xops P ops K l = some f → f call st = some st' → SR U w0 prot m K st a w →
    (∀ m' a' w', m.le m' → SR U w0 prot m' K0 st' a' w' → Q .normal a' w') → wpList P ops Q l a w
  | K, [], f, st, st', m, a, w, h0, hf, e, s, K1 => by
    cases hf
    obtain ⟨⟨loc0, tr0⟩, hp0, df0⟩ := st
    cases e
    exact wpList_nil (K1 m a w (M.le_refl m) ⟨s.rel, by rw [← h0]; exact s.env.fresh, s.df⟩)
  | K, o :: r, f, st, st', m, a, w, h0, hf, e, s, K1 => by
    obtain ⟨f1, h1, hf⟩ := ob_some hf
    obtain ⟨g, h2, hf⟩ := ob_some hf
    cases hf
    obtain ⟨st1, e1, e2⟩ := ob_some e
    obtain ⟨co, h3, h1⟩ := ob_some h1
    obtain ⟨gd, hgd, h1⟩ := ob_some h1
    have hk := cop_ok h3
    have h0' : { (K.tell o.dst) with ds := [] } = K0 := by rw [← h0]; cases K; cases o.dst <;> rfl
    have rest : ∀ m1 a1 w1, m.le m1 → SR U w0 prot m1 (K.tell o.dst) st1 a1 w1 → wpList P ops Q r a1 w1 := fun m1 a1 w1 l1 s1 =>
      xops_ok hc h0' h2 e2 s1 fun m' a' w' l2 s2 => K1 m' a' w' (M.le_trans l1 l2) s2
    cases hg : o.guard with
    | none =>
      rw [hg] at h1
      cases h1
      exact wpList_plain hg fun _ hK => xop_ok hc hk hgd e1 s (fun _ _ => trivial) fun m1 a1 w1 l1 s1 _ => hK a1 w1 (rest m1 a1 w1 l1 s1)
    | some gw =>
      obtain ⟨j, want⟩ := gw
      rw [hg] at h1
      simp only [ob_eq] at h1
      obtain ⟨oj, h4, t, h5, gt, h6, h1⟩ := h1
      cases h1
      simp only [ob_eq] at e1
      obtain ⟨v, e3, b, e4, e1⟩ := e1
      have hw := wantV_ok hg h4 h5 h6 trivial s.env e3 e4
      refine wpList_step fun _ hK => ?_
      rw [hw]
      cases b with
      | true =>
        rw [if_pos rfl]
        exact xop_ok hc hk hgd e1 s (fun _ _ => trivial) fun m1 a1 w1 l1 s1 _ => hK a1 w1 (rest m1 a1 w1 l1 s1)
      | false =>
        rw [if_neg (by simp)]
        exact hK _ _ (rest m _ _ (M.le_refl m) (xskip_ok hgd e1 s))
/-- how code goes on -/
inductive Ex | nx | ex (id : Nat) | rt
def Ex.e : Ex → Exit
  | .nx => .normal
  | .ex id => .exit id
  | .rt => .ret
noncomputable def xloop (f : St → Option (Ex × St)) (k : Nat) : St → Option (Ex × St) :=
  Nat.rec (motive := fun _ => St → Option (Ex × St)) (fun _ => none) (fun _ ih st => ob (f st) fun r => match r.1 with
    | .nx => ih r.2
    | _ => some r) k
/-- code whose regions go by `reg` -/
noncomputable def xcode (reg : Array Oper → Option (CF → St → Option St)) (P : Program) (K : SC) (lf : Nat) : Code → Option (CF → St → Option (Ex × St))
  | .skip => some fun _ st => some (.nx, st)
  | .region _ ops false => ob (xops P ops K ops.toList) fun f => some fun call st => ob (f call st) fun st' => some (.nx, st')
  | .region _ ops true => ob (reg ops) fun f => some fun call st => ob (f call st) fun st' => some (.nx, st')
  | .seq a b => ob (xcode reg P K lf a) fun ra => ob (xcode reg P K lf b) fun rb => some fun call st => ob (ra call st) fun r => match r.1 with
    | .nx => rb call r.2
    | _ => some r
  | .cond c a b => ob (cx K c) fun g => ob (xcode reg P K lf a) fun ra => ob (xcode reg P K lf b) fun rb => some fun call st => ob (g st.env) fun v => ob (asBo v) fun t => Bool.rec (rb call st) (ra call st) t
  | .block id b => ob (xcode reg P K lf b) fun rb => some fun call st => ob (rb call st) fun r => match r.1 with
    | .ex j => Bool.rec (some r) (some (.nx, r.2)) (Nat.beq j id)
    | _ => some r
  | .loop b => ob (xcode reg P K lf b) fun rb => some fun call st => xloop (rb call) lf st
  | .exit id => some fun _ st => some (.ex id, st)
  | .ret => some fun _ st => some (.rt, st)
  | _ => none
/-- regions whose order is open -/
def RegOK (P : Program) (K : SC) (reg : Array Oper → Option (CF → St → Option St)) : Prop :=
  ∀ {call : CF} {ops : Array Oper} {f : CF → St → Option St} {id : Nat} {Q : Exit → Act → World → Prop} {U : UU} {w0 : World} {prot : PP} {st st' : St} {m : M} {a : Act} {w : World}, CallOK P call → reg ops = some f → f call st = some st' → SR U w0 prot m K st a w →
    (∀ m' a' w', m.le m' → SR U w0 prot m' K st' a' w' → Q .normal a' w') → (Code.region id ops true).wp P Q a w
theorem xloop_ok {c : Code} {f : St → Option (Ex × St)} {Q : Exit → Act → World → Prop}
    (hf : ∀ {Q : Exit → Act → World → Prop} {st : St} {r : Ex × St} {m : M} {a : Act} {w : World}, f st = some r → SR U w0 prot m K st a w → (∀ m' a' w', m.le m' → SR U w0 prot m' K r.2 a' w' → Q r.1.e a' w') → c.wp P Q a w) :
    ∀ (k : Nat) {st : St} {r : Ex × St} {m : M} {a : Act} {w : World}, xloop f k st = some r → SR U w0 prot m K st a w → (∀ m' a' w', m.le m' → SR U w0 prot m' K r.2 a' w' → Q r.1.e a' w') → (Code.loop c).wp P Q a w := by
  intro k
  have key : ∀ (k : Nat) {st : St} {r : Ex × St} {m : M} {a : Act} {w : World}, xloop f k st = some r → SR U w0 prot m K st a w → (∀ m' a' w', m.le m' → SR U w0 prot m' K r.2 a' w' → Q r.1.e a' w') →
      ∀ (b : Frame) (kk : List Item) (cs : List Frame), ∃ e a' w', Q e a' w' ∧ Arrives P (lone (b.at a (.code c :: .inLoop c :: kk)) cs w) b kk cs e a' w' := by
    intro k
    induction k with
    | zero => intro st r m a w e; cases e
    | succ k ih =>
      intro st r m a w e s K1 b kk cs
      obtain ⟨q, e1, e2⟩ := ob_some e
      obtain ⟨qe, qs⟩ := q
      cases qe with
      | nx =>
        have hw := hf (Q := fun e a' w' => e = .normal ∧ ∃ m', m.le m' ∧ SR U w0 prot m' K qs a' w') e1 s (fun m' a' w' l1 s1 => ⟨rfl, m', l1, s1⟩)
        obtain ⟨e, a1, w1, ⟨rfl, m1, l1, s1⟩, harr⟩ := hw b (.inLoop c :: kk) cs
        obtain ⟨e2', a2, w2, hq, harr2⟩ := ih (st := qs) e2 s1 (fun m' a' w' l2 s2 => K1 m' a' w' (M.le_trans l1 l2) s2) b kk cs
        exact ⟨e2', a2, w2, hq, .of_steps (Steps.trans harr (.one step_inLoop)) harr2⟩
      | ex id =>
        cases e2
        obtain ⟨e, a1, w1, ⟨rfl, hq⟩, harr⟩ := hf (Q := fun e a' w' => e = .exit id ∧ Q (.exit id) a' w') e1 s (fun m' a' w' l1 s1 => ⟨rfl, K1 m' a' w' l1 s1⟩) b (.inLoop c :: kk) cs
        exact ⟨_, a1, w1, hq, .pass (x := .inLoop c) rfl (fun _ _ => .inl (by simp)) harr⟩
      | rt =>
        cases e2
        obtain ⟨e, a1, w1, ⟨rfl, hq⟩, harr⟩ := hf (Q := fun e a' w' => e = .ret ∧ Q .ret a' w') e1 s (fun m' a' w' l1 s1 => ⟨rfl, K1 m' a' w' l1 s1⟩) b (.inLoop c :: kk) cs
        exact ⟨_, a1, w1, hq, .pass (x := .inLoop c) rfl (fun _ _ => .inl (by simp)) harr⟩
  intro st r m a w e s K1 b kk cs
  obtain ⟨e', a', w', hq, harr⟩ := key k e s K1 b kk cs
  exact ⟨e', a', w', hq, .of_steps (.one step_loop) harr⟩
theorem xcode_ok {reg : Array Oper → Option (CF → St → Option St)} {lf : Nat} (hreg : RegOK P K reg) (hds : K.ds = []) (hc : CallOK P call) : ∀ {c : Code} {f : CF → St → Option (Ex × St)} {Q : Exit → Act → World → Prop} {st : St} {r : Ex × St} {m : M} {a : Act} {w : World},
    xcode reg P K lf c = some f → f call st = some r → SR U w0 prot m K st a w → (∀ m' a' w', m.le m' → SR U w0 prot m' K r.2 a' w' → Q r.1.e a' w') → c.wp P Q a w
  | .skip, f, Q, st, r, m, a, w, hf, e, s, K1 => by cases hf; cases e; exact wp_skip (K1 m a w (M.le_refl m) s)
  | .region id ops false, f, Q, st, r, m, a, w, hf, e, s, K1 => by
    obtain ⟨g, h1, hf⟩ := ob_some hf
    cases hf
    obtain ⟨st', e1, e⟩ := ob_some e
    cases e
    exact wp_region_list (xops_ok hc (K0 := K) (by cases K; cases hds; rfl) h1 e1 s K1)
  | .region id ops true, f, Q, st, r, m, a, w, hf, e, s, K1 => by
    obtain ⟨g, h1, hf⟩ := ob_some hf
    cases hf
    obtain ⟨st', e1, e⟩ := ob_some e
    cases e
    exact hreg hc h1 e1 s K1
  | .seq x y, f, Q, st, r, m, a, w, hf, e, s, K1 => by
    obtain ⟨ra, h1, hf⟩ := ob_some hf
    obtain ⟨rb, h2, hf⟩ := ob_some hf
    cases hf
    obtain ⟨q, e1, e2⟩ := ob_some e
    obtain ⟨qe, qs⟩ := q
    refine wp_seq (xcode_ok hreg hds hc h1 e1 s fun m1 a1 w1 l1 s1 => ?_)
    cases qe with
    | nx => exact xcode_ok hreg hds hc h2 e2 s1 fun m2 a2 w2 l2 s2 => K1 m2 a2 w2 (M.le_trans l1 l2) s2
    | ex id => cases e2; exact K1 m1 a1 w1 l1 s1
    | rt => cases e2; exact K1 m1 a1 w1 l1 s1
  | .cond c x y, f, Q, st, r, m, a, w, hf, e, s, K1 => by
    obtain ⟨g, h1, hf⟩ := ob_some hf
    obtain ⟨ra, h2, hf⟩ := ob_some hf
    obtain ⟨rb, h3, hf⟩ := ob_some hf
    cases hf
    simp only [ob_eq] at e
    obtain ⟨v, e1, t, e2, e⟩ := e
    have := asBo_ok e2; subst this
    obtain ⟨u, k1, k2⟩ := cx_ok h1 s.env e1 (fun _ _ => trivial)
    cases k1
    refine wp_cond k2 ?_
    cases t with
    | true => exact xcode_ok hreg hds hc h2 e s K1
    | false => exact xcode_ok hreg hds hc h3 e s K1
  | .block id b, f, Q, st, r, m, a, w, hf, e, s, K1 => by
    obtain ⟨rb, h1, hf⟩ := ob_some hf
    cases hf
    obtain ⟨q, e1, e2⟩ := ob_some e
    obtain ⟨qe, qs⟩ := q
    refine wp_block (xcode_ok hreg hds hc h1 e1 s fun m1 a1 w1 l1 s1 => ?_)
    cases qe with
    | nx => cases e2; exact K1 m1 a1 w1 l1 s1
    | rt => cases e2; exact K1 m1 a1 w1 l1 s1
    | ex j =>
      show (if j = id then _ else _)
      have e2 : (Bool.rec (some (Ex.ex j, qs)) (some (Ex.nx, qs)) (Nat.beq j id) : Option (Ex × St)) = some r := e2
      by_cases hj : j = id
      · subst hj
        rw [if_pos rfl]
        rw [Nat.beq_refl] at e2
        cases e2; exact K1 m1 a1 w1 l1 s1
      · rw [if_neg hj]
        rw [beq0 hj] at e2
        cases e2; exact K1 m1 a1 w1 l1 s1
  | .loop b, f, Q, st, r, m, a, w, hf, e, s, K1 => by
    obtain ⟨rb, h1, hf⟩ := ob_some hf
    cases hf
    exact xloop_ok (f := rb call) (fun e s K => xcode_ok hreg hds hc h1 e s K) lf e s K1
  | .exit id, f, Q, st, r, m, a, w, hf, e, s, K1 => by cases hf; cases e; exact wp_exit (K1 m a w (M.le_refl m) s)
  | .ret, f, Q, st, r, m, a, w, hf, e, s, K1 => by cases hf; cases e; exact wp_ret (K1 m a w (M.le_refl m) s)
  | .rangeFunc _ _ _ _, _, _, _, _, _, _, _, hf, _, _, _ => by cases hf
  | .scope _, _, _, _, _, _, _, _, hf, _, _, _ => by cases hf
  | .label _, _, _, _, _, _, _, _, hf, _, _, _ => by cases hf
  | .goto _, _, _, _, _, _, _, _, hf, _, _, _ => by cases hf
  | .refuse _, _, _, _, _, _, _, _, hf, _, _, _ => by cases hf
end
end Go.XM

/-
  The machine on paper: functions, what they tell, calls that were put off.
-/
namespace Go.XM
open Go Go.RowKit

/-- the arguments in their slots -/
noncomputable def trV (ks : List Nat) : List V → Nat → Tr V → Option (Tr V)
  | [], _, t => some t
  | x :: r, i, t => Option.rec (trV ks r (Nat.succ i) t) (fun j => ob (t.put x (paN j)) fun t' => trV ks r (Nat.succ i) t') (idx i ks)
theorem trV_ok {ks : List Nat} : ∀ {l : List V} {i : Nat} {t t' : Tr V}, trV ks l i t = some t' → ∀ j k s, idx j ks = some k → t'.at (paN k) = some s → (i ≤ j ∧ l[j - i]? = some s) ∨ t.at (paN k) = some s
  | [], i, t, t', h, j, k, s, _, e => by cases h; exact .inr e
  | x :: r, i, t, t', h, j, k, s, hk, e => by
    have h : (Option.rec (trV ks r (Nat.succ i) t) (fun j => ob (t.put x (paN j)) fun t' => trV ks r (Nat.succ i) t') (idx i ks) : Option (Tr V)) = some t' := h
    have up : (i + 1 ≤ j ∧ r[j - (i + 1)]? = some s) → (i ≤ j ∧ (x :: r)[j - i]? = some s) := fun ⟨q1, q2⟩ => by
      refine ⟨by omega, ?_⟩
      have : j - i = (j - (i + 1)) + 1 := by omega
      rw [this]; simpa using q2
    cases hi : idx i ks with
    | none =>
      rw [hi] at h
      rcases trV_ok h j k s hk e with q | q
      · exact .inl (up q)
      · exact .inr q
    | some p =>
      rw [hi] at h
      obtain ⟨t1, h1, h⟩ := ob_some h
      rcases trV_ok h j k s hk e with q | q
      · exact .inl (up q)
      · by_cases hpk : p = k
        · subst hpk
          have := idx_inj hk hi
          subst this
          rw [put_same _ _ _ _ h1] at q
          left; exact ⟨Nat.le_refl _, by simpa using q⟩
        · rw [put_ne _ _ _ _ _ (paN_ne hpk) h1] at q
          exact .inr q
theorem denVL_get {U : UU} {m : M} : ∀ {l : List V} {vs : List Value} {n : Nat} {x : V}, denVL U m l = some vs → l[n]? = some x → ∃ v, x.den U m = some v ∧ vs[n]? = some v
  | [], _, _, _, _, e => by simp at e
  | x :: r, vs, 0, y, h, e => by
    obtain ⟨v, q, h1, h2, rfl⟩ := denVL_cons h
    simp at e; subst e; exact ⟨v, h1, rfl⟩
  | x :: r, vs, n + 1, y, h, e => by
    obtain ⟨v, q, h1, h2, rfl⟩ := denVL_cons h
    obtain ⟨u, a, b⟩ := denVL_get (n := n) h2 (by simpa using e)
    exact ⟨u, a, by simpa using b⟩
theorem enter_ok {U : UU} {m : M} {args : List V} {us : List Value} {tr : Tr V} {n : Nat} {ks : List Nat} (h : denVL U m args = some us) (he : trV ks args 0 .nil = some tr) (hn : Nat.ble args.length n = true) (ds : List Deferred) :
    AR U m ⟨n, ks, []⟩ (fun _ => True) ⟨[], tr⟩ { tmps := us.toArray ++ Array.replicate (n - us.toArray.size) undef, defers := ds } := by
  have hlen := denVL_len h
  rw [Nat.ble_eq] at hn
  refine ⟨by simp; omega, (fun t k v _ e _ => by cases e), fun t k v _ e e' => ?_⟩
  rcases trV_ok he t k v e e' with ⟨_, q⟩ | q
  · obtain ⟨u, k1, k2⟩ := denVL_get h q
    refine ⟨u, k1, ?_⟩
    have hlt := (List.getElem?_eq_some_iff.1 k2).1
    show (us.toArray ++ Array.replicate (n - us.toArray.size) undef)[t]? = _
    rw [Array.getElem?_append_left (by simpa using hlt)]
    simpa using k2
  · cases q

/-- what a function tells -/
noncomputable def rs1 (P : Program) (K : SC) (rv : ResultVar) : Option (E → Hp → Option A) :=
  match rv with
  | .tmp t => ob (cx K (.tmp t)) fun g => some fun env _ => ob (g env) fun v => asA v
  | .cell t ty => ob (tiOf P ty) fun ti => ob (cx K (.tmp t)) fun g => some fun env h => ob (g env) fun v => ob (ldV ti.agg ti.size v h) fun r => asA r
noncomputable def rsL (P : Program) (K : SC) : List ResultVar → Option (E → Hp → Option (List A))
  | [] => some fun _ _ => some []
  | x :: r => ob (rs1 P K x) fun g => ob (rsL P K r) fun k => some fun env h => ob (g env h) fun y => ob (k env h) fun l => some (y :: l)
noncomputable def rsV (l : List A) : V :=
  match l with
  | [x] => .a x
  | l => .tup l
section
variable {P : Program} {U : UU} {w0 : World} {prot : PP} {m : M} {h : Hp} {w : World} {K : SC} {env : E} {a : Act}
/-- a load, by itself -/
theorem run_ld {t : Nat} {ti : TI} {v r : V} {u : Value} (ht : tiOf P t = some ti) (hr : Rel U w0 prot m h w) (e : ldV ti.agg ti.size v h = some r) (hv : v.den U m = some u) :
    ∃ ad z, u = .pointer (some ad) ∧ r.den U m = some z ∧ (loadVar t ad).run P w = .ok z w := by
  simp only [ldV, ob_eq] at e
  obtain ⟨p, h2, obj, h3, c, h4, e⟩ := e
  have := asPtr_ok h2; subst this
  have := asCells_ok h4; subst this
  obtain ⟨cb, cx', k3, rfl⟩ := den_ptrE (U := U) (m := m) hv
  obtain ⟨cur, c1, c2, _, c3⟩ := hr.cells k3 h3
  obtain ⟨i, d, z, t1, t2, t3, t4, t5, t6, t7, t8⟩ := (tiOf_ok ht).ex
  have hagg := run_isAgg t2 w
  rw [t6] at e
  cases hd : aggOf d with
  | false =>
    rw [hd] at e hagg
    simp only at e
    obtain ⟨s, e1, e⟩ := ob_some e
    cases e
    obtain ⟨_, u, e2, e3⟩ := c3 _ _ e1
    have hcell : w.cell? ⟨cb, p.2, none⟩ = some u := by rw [cell_lit c1, e3]
    exact ⟨_, u, rfl, e2, by simp [loadVar, hagg, hcell]⟩
  | true =>
    rw [hd] at e hagg
    simp only at e
    obtain ⟨l, e1, e⟩ := ob_some e
    cases e
    obtain ⟨vs, e2, e3, e4⟩ := rdL_ok (fun i s hs => (c3 i s hs).2) _ _ e1
    have hl := run_loadCells_list (P := P) w ⟨cb, p.2, none⟩ vs (fun j v hj => by rw [add_lit, cell_lit c1]; exact e4 j v hj)
    rw [e3, t7] at hl
    exact ⟨_, .agg vs.toArray, rfl, den_agI e2, by simp [loadVar, hagg, sizeOf, typeInfo, t1, hl]⟩
/-- one result, in the model -/
def rvS (tmps : Array Value) (rv : ResultVar) : Sem Value :=
  match rv with
  | .tmp t => pure (tmps.getD t undef)
  | .cell t ty => do loadVar ty (← asAddr (tmps.getD t undef))
theorem results_eq (fn : Func) (tmps : Array Value) : results fn tmps = (fn.results.mapM (rvS tmps) >>= fun vs => pure (if h : vs.size = 1 then vs[0] else .tuple vs)) := rfl
theorem rs1_ok {rv : ResultVar} {x : A} {g : E → Hp → Option A} (hg : rs1 P K rv = some g) (hr : Rel U w0 prot m h w) (q : AR U m K (fun _ => True) env a) (e : g env h = some x) :
    ∃ u, x.den U m = some u ∧ (rvS a.tmps rv).run P w = .ok u w := by
  have ev : ∀ {t : Nat} {u : Value}, a.eval (.tmp t) = u → a.tmps.getD t undef = u := fun h => h
  cases rv with
  | tmp t =>
    obtain ⟨gt, h1, hg⟩ := ob_some hg
    cases hg
    simp only [ob_eq] at e
    obtain ⟨v, e1, e⟩ := e
    have := asA_ok e; subst this
    obtain ⟨u, k1, k2⟩ := cx_ok h1 q e1 (fun _ _ => trivial)
    have k3 : (rvS a.tmps (.tmp t)).run P w = .ok (a.tmps.getD t undef) w := rfl
    exact ⟨u, k1, by rw [k3, ev k2]⟩
  | cell t ty =>
    simp only [rs1, ob_eq] at hg
    obtain ⟨ti, e1, gt, h1, hg⟩ := hg
    cases hg
    simp only [ob_eq] at e
    obtain ⟨v, e2, r, e3, e⟩ := e
    have := asA_ok e; subst this
    obtain ⟨u, k1, k2⟩ := cx_ok h1 q e2 (fun _ _ => trivial)
    obtain ⟨ad, z, rfl, l2, l3⟩ := run_ld (P := P) e1 hr e3 k1
    have k3 : (rvS a.tmps (.cell t ty)).run P w = (do loadVar ty (← asAddr (a.tmps.getD t undef)) : Sem Value).run P w := rfl
    exact ⟨z, l2, by rw [k3, ev k2]; simp [asAddr, l3]⟩
theorem rsL_ok (hr : Rel U w0 prot m h w) (q : AR U m K (fun _ => True) env a) : ∀ {l : List ResultVar} {xs : List A} {g : E → Hp → Option (List A)}, rsL P K l = some g → g env h = some xs → ∃ us, denAL U m xs = some us ∧ us.length = l.length ∧ (l.mapM (rvS a.tmps)).run P w = .ok us w
  | [], xs, g, hg, e => by cases hg; cases e; exact ⟨[], rfl, rfl, by simp⟩
  | x :: l, xs, g, hg, e => by
    obtain ⟨g1, h1, hg⟩ := ob_some hg
    obtain ⟨g2, h2, hg⟩ := ob_some hg
    cases hg
    simp only [ob_eq] at e
    obtain ⟨y, e1, ys, e2, e⟩ := e
    cases e
    obtain ⟨u, k1, k2⟩ := rs1_ok h1 hr q e1
    obtain ⟨us, k3, k4, k5⟩ := rsL_ok hr q h2 e2
    refine ⟨u :: us, ?_, by simp [k4], ?_⟩
    · show ob (y.den U m) _ = _
      rw [k1]; show ob (denAL U m ys) _ = _
      rw [k3]; rfl
    · rw [List.mapM_cons, Sem.run_bind, k2, Result.andThen_ok, Sem.run_bind, k5]; rfl
theorem results_ok {fn : Func} {xs : List A} {g : E → Hp → Option (List A)} (hg : rsL P K fn.results.toList = some g) (hr : Rel U w0 prot m h w) (q : AR U m K (fun _ => True) env a) (e : g env h = some xs) :
    ∃ u, (rsV xs).den U m = some u ∧ (results fn a.tmps).run P w = .ok u w := by
  obtain ⟨us, k1, k2, k3⟩ := rsL_ok hr q hg e
  have hlen : us.length = xs.length := by
    clear k2 k3 e
    induction xs generalizing us with
    | nil => cases k1; rfl
    | cons x r ih =>
      obtain ⟨v, h1, k1⟩ := ob_some k1
      obtain ⟨l, h2, k1⟩ := ob_some k1
      cases k1; simp [ih _ h2]
  have hrun : (results fn a.tmps).run P w = .ok (if h : us.toArray.size = 1 then us.toArray[0] else .tuple us.toArray) w := by
    rw [results_eq, Array.mapM_eq_mapM_toList]
    simp only [Sem.run_bind, Sem.run_map, k3, Result.andThen_ok, Sem.run_pure]
  rw [hrun]
  refine ⟨_, ?_, rfl⟩
  unfold rsV
  split
  · rename_i x
    obtain ⟨v, h1, k1⟩ := ob_some k1
    obtain ⟨l, h2, k1⟩ := ob_some k1
    cases h2; cases k1
    exact h1
  · rename_i hx
    have hne : ¬ us.toArray.size = 1 := by
      intro h1
      have h1 : us.length = 1 := by simpa using h1
      rw [hlen] at h1
      obtain ⟨x, hxs⟩ := List.length_eq_one_iff.1 h1
      exact hx x hxs
    rw [dif_neg hne]
    show ob (denAL U m xs) _ = _
    rw [k1]; rfl

/-- calls that were put off, one behind the other -/
noncomputable def xdf (call : CF) : List (Nat × List V) → Hp → Option Hp
  | [], h => some h
  | x :: r, h => ob (call true h x.1 x.2) fun q => xdf call r q.2
theorem leaves_ok {call : CF} (hc : CallOK P call) {fn : Func} {tmps : Array Value} {R : Ending → World → Prop} : ∀ {l : List (Nat × List V)} {ds : List Deferred} {h h' : Hp} {m : M} {w : World}, xdf call l h = some h' → Rel U w0 prot m h w → DfR U m l ds →
    (∀ m' w', m.le m' → Rel U w0 prot m' h' w' → ∃ v, (results fn tmps).run P w' = .ok v w' ∧ R (.returned v) w') → Leaves P fn tmps R ds .returning w
  | [], [], h, h', m, w, e, r, _, K1 => by
    cases e
    exact K1 m w (M.le_refl m) r
  | x :: l, d :: ds, h, h', m, w, e, r, ⟨⟨us, cap, args, h1, h2, h3⟩, h4⟩, K1 => by
    obtain ⟨q, e1, e2⟩ := ob_some e
    obtain ⟨hf, hcall⟩ := hc.off r h1 e1
    subst h3
    refine leaves_cons (f := x.1) (args := us.toArray) (by simp) (by rw [h2]; exact run_enter hf w) ?_
    refine hcall.mono fun e u' w' he => ?_
    obtain ⟨rfl, m', u, rfl, l1, l2, _⟩ := he
    exact leaves_ok hc e2 l2 (h4.mono l1) fun m2 w2 l3 r2 => K1 m2 w2 (M.le_trans l1 l3) r2
  | [], _ :: _, _, _, _, _, _, _, h, _ => h.elim
  | _ :: _, [], _, _, _, _, _, _, h, _ => h.elim
end

/-- contracts that stand in for a function's code -/
def IntrOK (P : Program) (I : Bool → Nat → Option (Hp → List V → Option (V × Hp))) : Prop :=
  ∀ {off : Bool} {f : Nat} {g : Hp → List V → Option (V × Hp)} {U : UU} {w0 : World} {prot : PP} {m : M} {h : Hp} {w : World} {args : List V} {us : List Value} {r : V × Hp}, I off f = some g → Rel U w0 prot m h w → denVL U m args = some us → g h args = some r →
    isFn P f ∧ (off = false → Calls P f us.toArray w (fun e w' => ∃ m' u, e = .returned u ∧ m.le m' ∧ Rel U w0 prot m' r.2 w' ∧ r.1.den U m' = some u)) ∧
    (off = true → CallsD P f us.toArray .returning w (fun e u' w' => u' = .returning ∧ ∃ m' u, e = .returned u ∧ m.le m' ∧ Rel U w0 prot m' r.2 w' ∧ r.1.den U m' = some u))
/-- a function by its code -/
noncomputable def xfun (reg : SC → Array Oper → Option (CF → St → Option St)) (P : Program) (ks : List Nat) (fn : Func) (lf : Nat) : Option (CF → Bool → Hp → List V → Option (V × Hp)) :=
  oif (not (fn.name == "runtime.NumGoroutine")) (ob fn.body fun b => ob (xcode (reg ⟨fn.ntmps, ks, []⟩) P ⟨fn.ntmps, ks, []⟩ lf b) fun run => ob (rsL P ⟨fn.ntmps, ks, []⟩ fn.results.toList) fun res => some fun call off h args =>
    oif (Nat.ble args.length fn.ntmps) (ob (trV ks args 0 .nil) fun tr => ob (run call ⟨⟨[], tr⟩, h, []⟩) fun r => match r.1 with
      | .ex _ => none
      | _ => Bool.rec (ob (xdf call r.2.df r.2.hp) fun h' => ob (res r.2.env h') fun xs => some (rsV xs, h'))
          (match r.2.df with | [] => ob (res r.2.env r.2.hp) fun xs => some (rsV xs, r.2.hp) | _ => none) off))
/-- a call, so many deep -/
noncomputable def xcall (reg : SC → Array Oper → Option (CF → St → Option St)) (P : Program) (T : Nat → Option Func) (kp : Nat → List Nat) (I : Bool → Nat → Option (Hp → List V → Option (V × Hp))) (lf : Nat) (k : Nat) : CF :=
  Nat.rec (motive := fun _ => CF) (fun _ _ _ _ => none) (fun _ ih off h f args => match I off f with
    | some g => g h args
    | none => ob (T f) fun fn => ob (xfun reg P (kp f) fn lf) fun run => run ih off h args) k
theorem xcall_ok {reg : SC → Array Oper → Option (CF → St → Option St)} {P : Program} {T : Nat → Option Func} {kp : Nat → List Nat} {I : Bool → Nat → Option (Hp → List V → Option (V × Hp))} {lf : Nat} (hreg : ∀ K : SC, K.ds = [] → RegOK P K (reg K)) (hT : ∀ f fn, T f = some fn → P.funcs[f]? = some fn) (hI : IntrOK P I) :
    ∀ k, CallOK P (xcall reg P T kp I lf k) := by
  intro k
  induction k with
  | zero => exact ⟨fun _ _ e => (by cases e), fun _ _ e => (by cases e)⟩
  | succ k ih =>
    have body : ∀ {off : Bool} {U : UU} {w0 : World} {prot : PP} {m : M} {h : Hp} {w : World} {fn : Func} {ks : List Nat} {args : List V} {us : List Value} {r : V × Hp} {run : CF → Bool → Hp → List V → Option (V × Hp)}, xfun reg P ks fn lf = some run → Rel U w0 prot m h w → denVL U m args = some us → run (xcall reg P T kp I lf k) off h args = some r →
        (fn.name == "runtime.NumGoroutine") = false ∧ ∃ b, fn.body = some b ∧ ∃ st' : St, ∃ xs res, r.1 = rsV xs ∧ (off = true → st'.df = [] ∧ r.2 = st'.hp) ∧ (off = false → xdf (xcall reg P T kp I lf k) st'.df st'.hp = some r.2) ∧ rsL P ⟨fn.ntmps, ks, []⟩ fn.results.toList = some res ∧ res st'.env r.2 = some xs ∧
        ∀ {Q : Exit → Act → World → Prop}, (∀ (x : Exit) m' a' w', x = .normal ∨ x = .ret → m.le m' → SR U w0 prot m' ⟨fn.ntmps, ks, []⟩ st' a' w' → Q x a' w') → b.wp P Q { tmps := us.toArray ++ Array.replicate (fn.ntmps - us.toArray.size) undef, defers := [] } w := by
      intro off U w0 prot m h w fn ks args us r run hf hr hd e
      obtain ⟨hname, hf⟩ := oif_some hf
      obtain ⟨b, hb, hf⟩ := ob_some hf
      obtain ⟨rc, hrc, hf⟩ := ob_some hf
      obtain ⟨res, hres, hf⟩ := ob_some hf
      cases hf
      simp only [oif_eq, ob_eq] at e
      obtain ⟨e1, tr, e2, q, e3, e⟩ := e
      obtain ⟨qe, qs⟩ := q
      have hs : SR U w0 prot m ⟨fn.ntmps, ks, []⟩ ⟨⟨[], tr⟩, h, []⟩ { tmps := us.toArray ++ Array.replicate (fn.ntmps - us.toArray.size) undef, defers := [] } w := ⟨hr, enter_ok hd e2 e1 [], trivial⟩
      refine ⟨by simpa using hname, b, hb, qs, ?_⟩
      have hrun : ∀ {Q : Exit → Act → World → Prop}, (∀ m' a' w', m.le m' → SR U w0 prot m' ⟨fn.ntmps, ks, []⟩ qs a' w' → Q qe.e a' w') → b.wp P Q { tmps := us.toArray ++ Array.replicate (fn.ntmps - us.toArray.size) undef, defers := [] } w := fun K => xcode_ok (hreg _ rfl) rfl ih hrc e3 hs K
      have fin : (Bool.rec (ob (xdf (xcall reg P T kp I lf k) qs.df qs.hp) fun h' => ob (res qs.env h') fun xs => some (rsV xs, h'))
          (match qs.df with | [] => ob (res qs.env qs.hp) fun xs => some (rsV xs, qs.hp) | _ => none) off : Option (V × Hp)) = some r → ∃ xs res', r.1 = rsV xs ∧ (off = true → qs.df = [] ∧ r.2 = qs.hp) ∧ (off = false → xdf (xcall reg P T kp I lf k) qs.df qs.hp = some r.2) ∧ rsL P ⟨fn.ntmps, ks, []⟩ fn.results.toList = some res' ∧ res' qs.env r.2 = some xs := by
        intro e
        cases off with
        | false =>
          simp only [ob_eq] at e
          obtain ⟨h', f1, xs, f2, e⟩ := e
          cases e
          exact ⟨xs, res, rfl, (fun h => by cases h), (fun _ => f1), hres, f2⟩
        | true =>
          simp only at e
          split at e
          · rename_i hdf
            rw [ob_eq] at e
            obtain ⟨xs, f2, e⟩ := e
            cases e
            exact ⟨xs, res, rfl, (fun _ => ⟨hdf, rfl⟩), (fun h => by cases h), hres, f2⟩
          · cases e
      cases qe with
      | ex id => cases e
      | nx =>
        obtain ⟨xs, res', g1, g2, g3, g4, g5⟩ := fin e
        exact ⟨xs, res', g1, g2, g3, g4, g5, fun K => hrun fun m' a' w' l s => K .normal m' a' w' (.inl rfl) l s⟩
      | rt =>
        obtain ⟨xs, res', g1, g2, g3, g4, g5⟩ := fin e
        exact ⟨xs, res', g1, g2, g3, g4, g5, fun K => hrun fun m' a' w' l s => K .ret m' a' w' (.inr rfl) l s⟩
    refine ⟨fun {U w0 prot m h w f args us r} hr hd e => ?_, fun {U w0 prot m h w f args us r} hr hd e => ?_⟩
    · have e : (match I false f with
        | some g => g h args
        | none => ob (T f) fun fn => ob (xfun reg P (kp f) fn lf) fun run => run (xcall reg P T kp I lf k) false h args) = some r := e
      cases hIf : I false f with
      | some g => rw [hIf] at e; exact ⟨(hI hIf hr hd e).1, (hI hIf hr hd e).2.1 rfl⟩
      | none =>
        rw [hIf] at e
        simp only [ob_eq] at e
        obtain ⟨fn, e1, run, e2, e⟩ := e
        obtain ⟨hname, b, hb, st', xs, res, g1, _, g3, g4, g5, hrun⟩ := body e2 hr hd e
        refine ⟨⟨fn, hT f fn e1, hname, by rw [hb]; rfl⟩, calls_of_wp_defers (hT f fn e1) hb (hrun fun x m' a' w' hx l s => ?_)⟩
        have hl : Leaves P fn a'.tmps (fun e w' => ∃ m' u, e = .returned u ∧ m.le m' ∧ Rel U w0 prot m' r.2 w' ∧ r.1.den U m' = some u) a'.defers .returning w' :=
          leaves_ok ih (g3 rfl) s.rel s.df fun m2 w2 l2 r2 => by
            obtain ⟨u, k1, k2⟩ := results_ok (P := P) (fn := fn) g4 r2 (s.env.mono l2) g5
            exact ⟨u, k2, m2, u, rfl, M.le_trans l l2, r2, by rw [g1]; exact k1⟩
        rcases hx with rfl | rfl <;> exact hl
    · have e : (match I true f with
        | some g => g h args
        | none => ob (T f) fun fn => ob (xfun reg P (kp f) fn lf) fun run => run (xcall reg P T kp I lf k) true h args) = some r := e
      cases hIf : I true f with
      | some g => rw [hIf] at e; exact ⟨(hI hIf hr hd e).1, (hI hIf hr hd e).2.2 rfl⟩
      | none =>
        rw [hIf] at e
        simp only [ob_eq] at e
        obtain ⟨fn, e1, run, e2, e⟩ := e
        obtain ⟨hname, b, hb, st', xs, res, g1, g2, _, g4, g6, hrun⟩ := body e2 hr hd e
        obtain ⟨g2, g5⟩ := g2 rfl
        refine ⟨⟨fn, hT f fn e1, hname, by rw [hb]; rfl⟩, callsD_of_wp (hT f fn e1) hb (hrun fun x m' a' w' hx l s => ?_)⟩
        have hdf : a'.defers = [] := by
          have := s.df
          rw [g2] at this
          cases hds : a'.defers with
          | nil => rfl
          | cons d ds => rw [hds] at this; exact this.elim
        obtain ⟨u, k1, k2⟩ := results_ok (P := P) (fn := fn) g4 (g5 ▸ s.rel) s.env g6
        have hl : a'.defers = [] ∧ ∃ v, (results fn a'.tmps).run P w' = .ok v w' ∧ ∃ m' u, Ending.returned v = .returned u ∧ m.le m' ∧ Rel U w0 prot m' r.2 w' ∧ r.1.den U m' = some u :=
          ⟨hdf, u, k2, m', u, rfl, l, g5 ▸ s.rel, by rw [g1]; exact k1⟩
        rcases hx with rfl | rfl <;> exact hl
end Go.XM

/-
  The machine on paper: regions whose order is open. They are run in one order, and it is looked whether each other order does the same.
-/
namespace Go.XM
open Go Go.RowKit

/-- j comes ahead of i in each order -/
inductive Bef (ops : Array Oper) : Nat → Nat → Prop
  | edge {i : Nat} {o : Oper} {e : Edge} : ops[i]? = some o → e ∈ o.after → Region.binds .any e = true → Bef ops e.on i
  | trans {i j k : Nat} : Bef ops i j → Bef ops j k → Bef ops i k
/-- is a bit set? -/
noncomputable def tb (b j : Nat) : Bool := Nat.beq (Nat.mod (Nat.div b (Nat.pow 2 j)) 2) 1
theorem tb_eq (b j : Nat) : tb b j = Nat.testBit b j := by
  rw [Nat.testBit_eq_decide_div_mod_eq]
  unfold tb
  by_cases h : b / 2 ^ j % 2 = 1
  · rw [decide_eq_true h]; exact Nat.beq_eq ▸ h
  · rw [decide_eq_false h]; exact beq0 h
noncomputable def edgeBits (acc : List Nat) : List Edge → Nat
  | [] => 0
  | e :: r => Bool.rec (edgeBits acc r) (Nat.lor (Nat.lor (Nat.pow 2 e.on) (Option.rec 0 (fun b => b) acc[e.on]?)) (edgeBits acc r)) (Region.binds .any e)
/-- what comes ahead of each -/
noncomputable def befs : List Oper → List Nat → List Nat
  | [], acc => acc
  | o :: r, acc => forceN (edgeBits acc o.after.toList) fun b => befs r (acc ++ [b])
theorem edgeBits_ok {ops : Array Oper} {acc : List Nat} {i : Nat} {o : Oper} (ho : ops[i]? = some o) (hacc : ∀ k b j, acc[k]? = some b → tb b j = true → Bef ops j k) : ∀ {es : List Edge} {j : Nat}, (∀ e ∈ es, e ∈ o.after) → tb (edgeBits acc es) j = true → Bef ops j i
  | [], j, _, h => by
    rw [tb_eq] at h
    have h : Nat.testBit 0 j = true := h
    simp at h
  | e :: r, j, hs, h => by
    have hr : ∀ x ∈ r, x ∈ o.after := fun x hx => hs x (List.mem_cons_of_mem _ hx)
    have h : tb (Bool.rec (edgeBits acc r) (Nat.lor (Nat.lor (Nat.pow 2 e.on) (Option.rec 0 (fun b => b) acc[e.on]?)) (edgeBits acc r)) (Region.binds .any e)) j = true := h
    cases hb : Region.binds .any e with
    | false => rw [hb] at h; exact edgeBits_ok ho hacc hr h
    | true =>
      rw [hb] at h
      have hedge : Bef ops e.on i := .edge ho (hs e List.mem_cons_self) hb
      rw [tb_eq] at h
      have h : Nat.testBit (((2 ^ e.on) ||| (Option.rec 0 (fun b => b) acc[e.on]? : Nat)) ||| (edgeBits acc r)) j = true := h
      rw [Nat.testBit_or, Nat.testBit_or, Nat.testBit_two_pow, Bool.or_eq_true, Bool.or_eq_true, decide_eq_true_iff] at h
      rcases h with (h | h) | h
      · rw [← h]; exact hedge
      · cases hq : acc[e.on]? with
        | none => rw [hq] at h; simp at h
        | some b =>
          rw [hq] at h
          exact .trans (hacc _ b j hq (by rw [tb_eq]; exact h)) hedge
      · exact edgeBits_ok ho hacc hr (by rw [tb_eq]; exact h)
theorem befs_ok {ops : Array Oper} : ∀ {l : List Oper} {acc : List Nat}, (∀ k o, l[k]? = some o → ops[acc.length + k]? = some o) → (∀ k b j, acc[k]? = some b → tb b j = true → Bef ops j k) → ∀ k b j, (befs l acc)[k]? = some b → tb b j = true → Bef ops j k
  | [], acc, _, hacc => hacc
  | o :: r, acc, hl, hacc => by
    have h0 : ops[acc.length]? = some o := by simpa using hl 0 o rfl
    have e : befs (o :: r) acc = befs r (acc ++ [edgeBits acc o.after.toList]) := forceN_eq _ _
    rw [e]
    refine befs_ok (fun k o' hk => ?_) fun k b j hk hj => ?_
    · have := hl (k + 1) o' (by simpa using hk)
      rw [← this]; simp; congr 1; omega
    · by_cases hlt : k < acc.length
      · rw [List.getElem?_append_left hlt] at hk
        exact hacc k b j hk hj
      · rw [List.getElem?_append_right (by omega)] at hk
        have hk0 : k - acc.length = 0 := by
          rcases Nat.eq_zero_or_pos (k - acc.length) with h | h
          · exact h
          · rw [List.getElem?_eq_none (by simp; omega)] at hk; cases hk
        have hk' : k = acc.length := by omega
        rw [hk0] at hk
        have hk : some (edgeBits acc o.after.toList) = some b := hk
        cases hk
        subst hk'
        exact edgeBits_ok h0 hacc (fun e he => by simpa using he) hj

/-- what is listed waits for nothing that is not -/
def Shut (ops : Array Oper) (L : Array Bool) : Prop := ∀ i o, ops[i]? = some o → L.getD i false = true → ∀ e ∈ o.after, Region.binds .any e = true → L.getD e.on false = true
theorem Bef.listed {ops : Array Oper} {L : Array Bool} (hs : Shut ops L) {i j : Nat} (h : Bef ops j i) : L.getD i false = true → L.getD j false = true := by
  induction h with
  | edge ho he hb => exact fun hl => hs _ _ ho hl _ he hb
  | trans _ _ ih1 ih2 => exact fun hl => ih1 (ih2 hl)
theorem Bef.ready {ops : Array Oper} {L : Array Bool} (hs : Shut ops L) {i j : Nat} (h : Bef ops j i) (hr : i ∈ Region.ready .any ops L) : L.getD j false = true := by
  have key : ∀ {i j : Nat}, Bef ops j i → (∀ o, ops[i]? = some o → ∀ e ∈ o.after, Region.binds .any e = true → L.getD e.on false = true) → L.getD j false = true := by
    intro i j h
    induction h with
    | edge ho he hb => exact fun hl => hl _ ho _ he hb
    | trans h1 _ _ ih2 => exact fun hl => h1.listed hs (ih2 hl)
  obtain ⟨_, o, ho, hall⟩ := mem_ready.1 hr
  exact key h fun o' ho' e he hb => by rw [ho] at ho'; cases ho'; exact hall e he hb
theorem Shut.step {ops : Array Oper} {L : Array Bool} (hs : Shut ops L) {i : Nat} (hr : i ∈ Region.ready .any ops L) : Shut ops (L.setIfInBounds i true) := by
  intro k o ho hl e he hb
  obtain ⟨_, o', ho', hall⟩ := mem_ready.1 hr
  by_cases hk : k = i
  · subst hk
    rw [ho] at ho'; cases ho'
    exact getD_set_true (hall e he hb)
  · rw [getD_set_ne false (Ne.symm hk)] at hl
    exact getD_set_true (hs k o ho hl e he hb)

/-- the slots that an operation names -/
noncomputable def tmpsOf : List Operand → List Nat
  | [] => []
  | .tmp t :: r => t :: tmpsOf r
  | _ :: r => tmpsOf r
theorem tmpsOf_ok {t : Nat} : ∀ {l : List Operand}, Operand.tmp t ∈ l → t ∈ tmpsOf l
  | .tmp u :: r, h => by
    rcases List.mem_cons.1 h with h | h
    · cases h; exact List.mem_cons_self
    · exact List.mem_cons_of_mem _ (tmpsOf_ok h)
  | .const _ :: r, h => by
    rcases List.mem_cons.1 h with h | h
    · cases h
    · exact tmpsOf_ok (l := r) h
  | .global _ :: r, h => by
    rcases List.mem_cons.1 h with h | h
    · cases h
    · exact tmpsOf_ok (l := r) h
  | .func _ :: r, h => by
    rcases List.mem_cons.1 h with h | h
    · cases h
    · exact tmpsOf_ok (l := r) h
noncomputable def guardT (ops : Array Oper) (o : Oper) : List Nat :=
  match o.guard with
  | some (j, _) => match ops[j]? with
    | some oj => oj.dst.toList
    | none => []
  | none => []
noncomputable def namesL (ops : Array Oper) (o : Oper) : List Nat := guardT ops o ++ (o.dst.toList ++ tmpsOf o.op.operands.toList)
theorem names_op {ops : Array Oper} {o : Oper} {t : Nat} (h : opD o t) : t ∈ namesL ops o :=
  List.mem_append_right _ (List.mem_append_right _ (tmpsOf_ok (by simpa [opD] using h)))
theorem names_dst {ops : Array Oper} {o : Oper} {t : Nat} (h : o.dst = some t) : t ∈ namesL ops o :=
  List.mem_append_right _ (List.mem_append_left _ (by rw [h]; simp))
theorem names_guard {ops : Array Oper} {o oj : Oper} {j t : Nat} {b : Bool} (h : o.guard = some (j, b)) (hj : ops[j]? = some oj) (ht : oj.dst = some t) : t ∈ namesL ops o := by
  refine List.mem_append_left _ ?_
  unfold guardT
  simp only [h, hj, ht]; simp

/-- does an operation change the heap, or call? -/
noncomputable def isEff (P : Program) : Op → Bool
  | .store .. | .mapUpdate .. | .insert .. | .defer _ => true
  | .call c => match c.callee with
    | .builtin .len | .builtin .max => false
    | _ => true
  | .slice t _ (some _) _ _ => match tiOf P t with
    | some ti => match ti.k with
      | .slice _ => true
      | _ => false
    | none => true
  | _ => false
noncomputable def CO.eff : CO → Bool
  | .p _ | .q _ | .al _ => false
  | _ => true

/-- are two values the same? -/
noncomputable def paEq : Pa → Pa → Bool
  | .e, .e => true
  | .l p, .l q => paEq p q
  | .r p, .r q => paEq p q
  | _, _ => false
theorem paEq_ok : ∀ {p q : Pa}, paEq p q = true → p = q
  | .e, .e, _ => rfl
  | .l p, .l q, h => by rw [paEq_ok (p := p) (q := q) h]
  | .r p, .r q, h => by rw [paEq_ok (p := p) (q := q) h]
  | .e, .l _, h => by cases h
  | .e, .r _, h => by cases h
  | .l _, .e, h => by cases h
  | .l _, .r _, h => by cases h
  | .r _, .e, h => by cases h
  | .r _, .l _, h => by cases h
noncomputable def capEq : List (Pa × Nat) → List (Pa × Nat) → Bool
  | [], [] => true
  | x :: r, y :: s => and (and (paEq x.1 y.1) (Nat.beq x.2 y.2)) (capEq r s)
  | _, _ => false
theorem capEq_ok : ∀ {p q : List (Pa × Nat)}, capEq p q = true → p = q
  | [], [], _ => rfl
  | (a, b) :: r, (c, d) :: s, h => by
    have h : (and (and (paEq a c) (Nat.beq b d)) (capEq r s)) = true := h
    simp only [Bool.and_eq_true, Nat.beq_eq] at h
    rw [paEq_ok h.1.1, h.1.2, capEq_ok h.2]
  | [], _ :: _, h => by cases h
  | _ :: _, [], h => by cases h
noncomputable def sEq : S → S → Bool
  | .bo a, .bo b => beqB a b
  | .i k a, .i k' b => and (keq k k') (ieq a b)
  | .str n l, .str n' l' => and (Nat.beq n n') (Nat.beq l l')
  | .ustr, .ustr => true
  | .uk a, .uk b => Nat.beq a b
  | .nilp, .nilp => true
  | .ptr b o, .ptr b' o' => and (paEq b b') (Nat.beq o o')
  | .nils, .nils => true
  | .sl b o n z, .sl b' o' n' z' => and (and (paEq b b') (Nat.beq o o')) (and (Nat.beq n n') (Nat.beq z z'))
  | .emp b, .emp b' => paEq b b'
  | .nilm, .nilm => true
  | .mp b, .mp b' => paEq b b'
  | .fn f c, .fn f' c' => and (Nat.beq f f') (capEq c c')
  | .nilf, .nilf => true
  | .nili, .nili => true
  | _, _ => false
theorem sEq_ok {x y : S} (h : sEq x y = true) : x = y := by
  unfold sEq at h
  split at h <;> first | rfl | (cases h; done) | skip
  · rename_i a b; rw [beqB_ok, beq_iff_eq] at h; rw [h]
  · simp only [Bool.and_eq_true, ieq_ok, beq_iff_eq] at h; rw [keq_ok h.1, h.2]
  · simp only [Bool.and_eq_true, Nat.beq_eq] at h; rw [h.1, h.2]
  · rw [Nat.eq_of_beq_eq_true h]
  · simp only [Bool.and_eq_true, Nat.beq_eq] at h; rw [paEq_ok h.1, h.2]
  · simp only [Bool.and_eq_true, Nat.beq_eq] at h; rw [paEq_ok h.1.1, h.1.2, h.2.1, h.2.2]
  · rw [paEq_ok h]
  · rw [paEq_ok h]
  · simp only [Bool.and_eq_true, Nat.beq_eq] at h; rw [h.1, capEq_ok h.2]
noncomputable def sLEq : List S → List S → Bool
  | [], [] => true
  | x :: r, y :: s => and (sEq x y) (sLEq r s)
  | _, _ => false
theorem sLEq_ok : ∀ {p q : List S}, sLEq p q = true → p = q
  | [], [], _ => rfl
  | a :: r, c :: s, h => by
    have h : (and (sEq a c) (sLEq r s)) = true := h
    simp only [Bool.and_eq_true] at h
    rw [sEq_ok h.1, sLEq_ok h.2]
  | [], _ :: _, h => by cases h
  | _ :: _, [], h => by cases h
noncomputable def aEq : A → A → Bool
  | .s x, .s y => sEq x y
  | .ag l, .ag k => sLEq l k
  | _, _ => false
theorem aEq_ok {x y : A} (h : aEq x y = true) : x = y := by
  unfold aEq at h
  split at h
  · rw [sEq_ok h]
  · rw [sLEq_ok h]
  · cases h
noncomputable def aLEq : List A → List A → Bool
  | [], [] => true
  | x :: r, y :: s => and (aEq x y) (aLEq r s)
  | _, _ => false
theorem aLEq_ok : ∀ {p q : List A}, aLEq p q = true → p = q
  | [], [], _ => rfl
  | a :: r, c :: s, h => by
    have h : (and (aEq a c) (aLEq r s)) = true := h
    simp only [Bool.and_eq_true] at h
    rw [aEq_ok h.1, aLEq_ok h.2]
  | [], _ :: _, h => by cases h
  | _ :: _, [], h => by cases h
noncomputable def vEq : V → V → Bool
  | .a x, .a y => aEq x y
  | .tup l, .tup k => aLEq l k
  | _, _ => false
theorem vEq_ok {x y : V} (h : vEq x y = true) : x = y := by
  unfold vEq at h
  split at h
  · rw [aEq_ok h]
  · rw [aLEq_ok h]
  · cases h

/-- an operation of a region, made ready -/
structure RS where
  K : SC
  i : Nat
  o : Oper
  co : CO
  g : V → E → Option E
  wt : Option (E → Option Bool)
noncomputable def wtOf (K : SC) (ops : Array Oper) : Option (Nat × Bool) → Option (Option (E → Option Bool))
  | none => some none
  | some x => ob ops[x.1]? fun oj => ob oj.dst fun t => ob (cx K (.tmp t)) fun gt => some (some fun env => ob (gt env) fun v => wantV v x.2)
structure RSok (P : Program) (ops : Array Oper) (r : RS) : Prop where
  o : ops[r.i]? = some r.o
  co : cop P r.K r.o = some r.co
  g : putD r.K r.o.dst = some r.g
  wt : wtOf r.K ops r.o.guard = some r.wt
noncomputable def crs (P : Program) (ops : Array Oper) : SC → List Nat → Option (List RS)
  | _, [] => some []
  | K, i :: r => ob ops[i]? fun o => ob (cop P K o) fun co => ob (putD K o.dst) fun g => ob (wtOf K ops o.guard) fun wt => ob (crs P ops (K.tell o.dst) r) fun l => some (⟨K, i, o, co, g, wt⟩ :: l)
/-- the slots told up to a place -/
noncomputable def KK (l : List RS) (K : SC) : Nat → SC
  | 0 => K
  | k + 1 => match l[k]? with
    | some r => (KK l K k).tell r.o.dst
    | none => KK l K k
theorem KK_cons (r : RS) (l : List RS) (K : SC) : ∀ k, KK (r :: l) K (k + 1) = KK l (K.tell r.o.dst) k
  | 0 => rfl
  | k + 1 => by
    have ih := KK_cons r l K k
    show (match (r :: l)[k + 1]? with | some r' => (KK (r :: l) K (k + 1)).tell r'.o.dst | none => KK (r :: l) K (k + 1)) = (match l[k]? with | some r' => (KK l (K.tell r.o.dst) k).tell r'.o.dst | none => KK l (K.tell r.o.dst) k)
    rw [ih]; simp
theorem crs_ok {P : Program} {ops : Array Oper} : ∀ {π : List Nat} {K : SC} {l : List RS}, crs P ops K π = some l → l.map (·.i) = π ∧ ∀ k r, l[k]? = some r → RSok P ops r ∧ r.K = KK l K k
  | [], K, l, h => by cases h; exact ⟨rfl, fun k r e => by simp at e⟩
  | i :: π, K, l, h => by
    simp only [crs, ob_eq] at h
    obtain ⟨o, h1, co, h2, g, h3, wt, h4, l', h5, h⟩ := h
    cases h
    obtain ⟨k1, k2⟩ := crs_ok h5
    refine ⟨by simp [k1], fun k r e => ?_⟩
    cases k with
    | zero => cases e; exact ⟨⟨h1, h2, h3, h4⟩, rfl⟩
    | succ k =>
      have e : l'[k]? = some r := by simpa using e
      obtain ⟨q1, q2⟩ := k2 k r e
      exact ⟨q1, by rw [KK_cons]; exact q2⟩
noncomputable def rrun (r : RS) (call : CF) (st : St) : Option St :=
  Option.rec (xop r.co r.g call st) (fun f => ob (f st.env) fun b => Bool.rec (xskip r.g st) (xop r.co r.g call st) b) r.wt
noncomputable def xtr : List RS → CF → St → Option (List St)
  | [], _, st => some [st]
  | r :: l, call, st => ob (rrun r call st) fun st' => ob (xtr l call st') fun t => some (st :: t)
theorem xtr_ok {call : CF} : ∀ {l : List RS} {st : St} {t : List St}, xtr l call st = some t → t[0]? = some st ∧ t.length = l.length + 1 ∧ ∀ k r, l[k]? = some r → ∃ s s', t[k]? = some s ∧ t[k + 1]? = some s' ∧ rrun r call s = some s'
  | [], st, t, h => by cases h; exact ⟨rfl, rfl, fun k r e => by simp at e⟩
  | r :: l, st, t, h => by
    obtain ⟨st', h1, h⟩ := ob_some h
    obtain ⟨t', h2, h⟩ := ob_some h
    cases h
    obtain ⟨k1, k2, k3⟩ := xtr_ok h2
    refine ⟨rfl, by simp [k2], fun k r' e => ?_⟩
    cases k with
    | zero => cases e; exact ⟨st, st', rfl, by simpa using k1, h1⟩
    | succ k =>
      obtain ⟨s, s', q1, q2, q3⟩ := k3 k r' (by simpa using e)
      exact ⟨s, s', by simpa using q1, by simpa using q2, q3⟩
/-- a slot on paper and in the model -/
def RT (U : UU) (m : M) (K : SC) (t : Nat) (e : E) (a : Act) : Prop :=
  (∀ k v, idx t K.ds = some k → nthL e.loc k = some v → ∃ u, v.den U m = some u ∧ a.tmps[t]? = some u) ∧
  (∀ k v, idx t K.ks = some k → e.tr.at (paN k) = some v → ∃ u, v.den U m = some u ∧ a.tmps[t]? = some u)
theorem AR.of {U : UU} {m : M} {K : SC} {D : Nat → Prop} {e : E} {a : Act} (h : a.tmps.size = K.n) (r : ∀ t, D t → RT U m K t e a) : AR U m K D e a := ⟨h, fun t k v d => (r t d).1 k v, fun t k v d => (r t d).2 k v⟩
theorem AR.rt {U : UU} {m : M} {K : SC} {D : Nat → Prop} {e : E} {a : Act} (h : AR U m K D e a) {t : Nat} (d : D t) : RT U m K t e a := ⟨fun k v => h.loc t k v d, fun k v => h.tr t k v d⟩
theorem RT.act {U : UU} {m m' : M} {K : SC} {t : Nat} {e : E} {a a' : Act} (h : RT U m K t e a) (hm : m.le m') (ha : a'.tmps[t]? = a.tmps[t]?) : RT U m' K t e a' :=
  ⟨fun k v p q => let ⟨u, h1, h2⟩ := h.1 k v p q; ⟨u, V.den_mono hm h1, by rw [ha]; exact h2⟩, fun k v p q => let ⟨u, h1, h2⟩ := h.2 k v p q; ⟨u, V.den_mono hm h1, by rw [ha]; exact h2⟩⟩
theorem RT.put {U : UU} {m : M} {K : SC} {t : Nat} {e e' : E} {a : Act} {dst : Option Nat} {v : V} {g : V → E → Option E} (h : RT U m K t e a) (hg : putD K dst = some g) (he : g v e = some e') (hne : dst ≠ some t) : RT U m (K.tell dst) t e' a := by
  cases dst with
  | none => cases hg; cases he; exact h
  | some d =>
    have hne : t ≠ d := fun k => hne (by rw [k])
    rw [SC.tell_some]
    obtain ⟨hd, hg⟩ := oif_some hg
    obtain ⟨eloc, etr⟩ := e
    have hl : ∀ k x, idx t (d :: K.ds) = some k → nthL (v :: eloc) k = some x → ∃ u, x.den U m = some u ∧ a.tmps[t]? = some u := fun k x p q => by
      rw [idx_cons_ne hne] at p
      obtain ⟨j, p1, p⟩ := ob_some p
      cases p
      exact h.1 j x p1 q
    cases hi : idx d K.ks with
    | none => rw [hi] at hg; cases hg; cases he; exact ⟨hl, h.2⟩
    | some j =>
      rw [hi] at hg
      cases hg
      obtain ⟨tr, h1, he⟩ := ob_some he
      cases he
      refine ⟨hl, fun k x p q => ?_⟩
      have p : idx t K.ks = some k := p
      have hjk : paN j ≠ paN k := paN_ne fun q => hne (idx_inj p (by rw [← q]; exact hi))
      have q : tr.at (paN k) = some x := q
      rw [put_ne _ _ _ _ _ hjk h1] at q
      exact h.2 k x p q
def wantk (r : RS) (s : St) : Prop := r.wt = none ∨ ∃ f, r.wt = some f ∧ f s.env = some true
/-- what a step of the region is -/
theorem rrun_split {r : RS} {call : CF} {s s' : St} (h : rrun r call s = some s') : (wantk r s ∧ xop r.co r.g call s = some s') ∨ ((∃ f, r.wt = some f ∧ f s.env = some false) ∧ xskip r.g s = some s') := by
  unfold rrun at h
  cases hw : r.wt with
  | none => rw [hw] at h; exact .inl ⟨.inl hw, h⟩
  | some f =>
    rw [hw] at h
    obtain ⟨b, h1, h⟩ := ob_some h
    cases b with
    | true => exact .inl ⟨.inr ⟨f, hw, h1⟩, h⟩
    | false => exact .inr ⟨⟨f, rfl, h1⟩, h⟩
theorem rrun_env {r : RS} {call : CF} {s s' : St} (h : rrun r call s = some s') : ∃ v, r.g v s.env = some s'.env := by
  obtain ⟨env0, hp0, df0⟩ := s
  rcases rrun_split h with ⟨_, h⟩ | ⟨_, h⟩
  · cases hc : r.co <;> rw [hc] at h <;> simp only [xop, ob_eq] at h
    · obtain ⟨v, _, env, e2, e⟩ := h; cases e; exact ⟨_, e2⟩
    · obtain ⟨v, _, env, e2, e⟩ := h; cases e; exact ⟨_, e2⟩
    · obtain ⟨v, _, _, _, env, e2, e⟩ := h; cases e; exact ⟨_, e2⟩
    · obtain ⟨⟨_, _⟩, _, env, e2, e⟩ := h; cases e; exact ⟨_, e2⟩
    · obtain ⟨⟨_, _⟩, _, ⟨_, _⟩, _, env, e2, e⟩ := h; cases e; exact ⟨_, e2⟩
    · obtain ⟨_, _, env, e2, e⟩ := h; cases e; exact ⟨_, e2⟩
  · obtain ⟨env, e2, e⟩ := ob_some h; cases e; exact ⟨_, e2⟩
/-- a quiet step -/
theorem rrun_quiet {r : RS} {call : CF} {s s' : St} (h : rrun r call s = some s') (hq : r.co.eff = false) : s'.df = s.df ∧ (s'.hp = s.hp ∨ ∃ f o mk, r.co = .al f ∧ wantk r s ∧ f s.env = some (o, mk) ∧ s.hp.new o = some s'.hp) := by
  obtain ⟨env0, hp0, df0⟩ := s
  rcases rrun_split h with ⟨hw, h⟩ | ⟨_, h⟩
  · cases hc : r.co <;> rw [hc] at h hq <;> simp only [xop, ob_eq] at h <;> first | (cases hq; done) | skip
    · obtain ⟨v, _, env, e2, e⟩ := h; cases e; exact ⟨rfl, .inl rfl⟩
    · obtain ⟨v, _, env, e2, e⟩ := h; cases e; exact ⟨rfl, .inl rfl⟩
    · obtain ⟨v, e1, h', e3, env, e2, e⟩ := h; cases e; exact ⟨rfl, .inr ⟨_, v.1, v.2, rfl, hw, e1, e3⟩⟩
  · obtain ⟨env, e2, e⟩ := ob_some h; cases e; exact ⟨rfl, .inl rfl⟩
end Go.XM

/-
  The machine on paper: each order of a region does the same.
-/
namespace Go.XM
open Go Go.RowKit

noncomputable def tbo (bs : List Nat) (i j : Nat) : Bool := Option.rec false (fun b => tb b j) bs[i]?
noncomputable def ltO : Option Nat → Option Nat → Bool
  | some a, some b => Nat.blt a b
  | _, _ => false
noncomputable def eqO : Option Nat → Nat → Bool
  | some a, b => Nat.beq a b
  | _, _ => false
noncomputable def dstIs (o : Oper) (t : Nat) : Bool := eqO o.dst t
/-- what is looked at once -/
noncomputable def okP (ops : Array Oper) (bs : List Nat) (π : List Nat) (l : List RS) : Bool :=
  and (and (and ((List.range ops.size).all fun i => (idx i π).isSome) (π.zipIdx.all fun x => eqO (idx x.1 π) x.2))
    (and (ops.toList.zipIdx.all fun x => x.1.after.toList.all fun e => or (not (Region.binds .any e)) (ltO (idx e.on π) (idx x.2 π)))
      (ops.toList.zipIdx.all fun x => (namesL ops x.1).all fun t => ops.toList.zipIdx.all fun y => or (not (dstIs y.1 t)) (or (Nat.beq y.2 x.2) (or (tbo bs x.2 y.2) (tbo bs y.2 x.2))))))
    (and (l.all fun r => l.all fun r' => or (not (and r.co.eff r'.co.eff)) (or (Nat.beq r.i r'.i) (or (tbo bs r.i r'.i) (tbo bs r'.i r.i))))
      (l.zipIdx.all fun x => l.zipIdx.all fun y => or x.1.co.eff (or (not y.1.co.eff) (or (Nat.ble x.2 y.2) (tbo bs x.1.i y.1.i)))))
structure Plan (ops : Array Oper) (bs : List Nat) (π : List Nat) (l : List RS) : Prop where
  all : ∀ i, i < ops.size → ∃ k, idx i π = some k
  pos : ∀ k i, π[k]? = some i → idx i π = some k
  edge : ∀ (i : Nat) (o : Oper) (e : Edge), ops[i]? = some o → e ∈ o.after → Region.binds .any e = true → ∃ j k, idx e.on π = some j ∧ idx i π = some k ∧ j < k
  names : ∀ (i : Nat) (o : Oper) (t j : Nat) (oj : Oper), ops[i]? = some o → t ∈ namesL ops o → ops[j]? = some oj → oj.dst = some t → j = i ∨ tbo bs i j = true ∨ tbo bs j i = true
  effs : ∀ (r r' : RS), r ∈ l → r' ∈ l → r.co.eff = true → r'.co.eff = true → r.i = r'.i ∨ tbo bs r.i r'.i = true ∨ tbo bs r'.i r.i = true
  quiet : ∀ (k k' : Nat) (r r' : RS), l[k]? = some r → l[k']? = some r' → r.co.eff = false → r'.co.eff = true → k' < k → tbo bs r.i r'.i = true
theorem mem_zip {α : Type} {l : List α} {k : Nat} {x : α} (h : l[k]? = some x) : (x, k) ∈ l.zipIdx := by
  rw [List.mem_zipIdx_iff_getElem?]; exact h
theorem okP_ok {ops : Array Oper} {bs π : List Nat} {l : List RS} (h : okP ops bs π l = true) : Plan ops bs π l := by
  unfold okP at h
  simp only [Bool.and_eq_true] at h
  obtain ⟨⟨⟨h1, h2⟩, h3, h4⟩, h5, h6⟩ := h
  refine ⟨fun i hi => ?_, fun k i hk => ?_, fun i o e ho he hb => ?_, fun i o t j oj ho ht hj hd => ?_, fun r r' hr hr' e e' => ?_, fun k k' r r' hk hk' e e' hlt => ?_⟩
  · have := List.all_eq_true.1 h1 i (List.mem_range.2 hi)
    exact Option.isSome_iff_exists.1 this
  · have := List.all_eq_true.1 h2 _ (mem_zip hk)
    dsimp only at this
    cases hq : idx i π with
    | none => rw [hq] at this; cases this
    | some a => rw [hq] at this; rw [Nat.eq_of_beq_eq_true this]
  · have := List.all_eq_true.1 (List.all_eq_true.1 h3 _ (mem_zip (by rw [← Array.getElem?_toList] at ho; exact ho))) e (by simpa using he)
    dsimp only at this
    rw [hb] at this
    have this : ltO (idx e.on π) (idx i π) = true := this
    cases hq : idx e.on π with
    | none => rw [hq] at this; cases this
    | some a =>
      rw [hq] at this
      cases hp : idx i π with
      | none => rw [hp] at this; cases this
      | some b => rw [hp] at this; exact ⟨a, b, rfl, rfl, blt_iff.1 this⟩
  · have h := List.all_eq_true.1 (List.all_eq_true.1 (List.all_eq_true.1 h4 _ (mem_zip (by rw [← Array.getElem?_toList] at ho; exact ho))) t ht) _ (mem_zip (by rw [← Array.getElem?_toList] at hj; exact hj))
    dsimp only at h
    have hdi : dstIs oj t = true := by unfold dstIs; rw [hd]; exact Nat.beq_refl t
    rw [hdi] at h
    simp only [Bool.not_true, Bool.false_or, Bool.or_eq_true, Nat.beq_eq] at h
    exact h
  · have := List.all_eq_true.1 (List.all_eq_true.1 h5 r hr) r' hr'
    rw [e, e'] at this
    simp only [Bool.and_self, Bool.not_true, Bool.false_or, Bool.or_eq_true, Nat.beq_eq] at this
    exact this
  · have := List.all_eq_true.1 (List.all_eq_true.1 h6 _ (mem_zip hk)) _ (mem_zip hk')
    dsimp only at this
    rw [e, e'] at this
    simp only [Bool.not_true, Bool.false_or, Bool.or_eq_true, Nat.ble_eq] at this
    rcases this with h | h
    · omega
    · exact h
theorem tbo_ok {ops : Array Oper} {i j : Nat} (h : tbo (befs ops.toList []) i j = true) : Bef ops j i := by
  unfold tbo at h
  cases hq : (befs ops.toList [])[i]? with
  | none => rw [hq] at h; cases h
  | some b =>
    rw [hq] at h
    exact befs_ok (l := ops.toList) (acc := []) (fun k o hk => by rw [← Array.getElem?_toList]; simpa using hk) (fun k b j hk => by simp at hk) i b j hq h
theorem Plan.bef {ops : Array Oper} {bs π : List Nat} {l : List RS} (p : Plan ops bs π l) {i j : Nat} (h : Bef ops j i) : ∃ a b, idx j π = some a ∧ idx i π = some b ∧ a < b := by
  induction h with
  | edge ho he hb => exact p.edge _ _ _ ho he hb
  | trans _ _ ih1 ih2 =>
    obtain ⟨a, b, h1, h2, h3⟩ := ih1
    obtain ⟨b', c, h4, h5, h6⟩ := ih2
    rw [h2] at h4; cases h4
    exact ⟨a, c, h1, h5, by omega⟩

/-- the order that is run: what is quiet as early as may be -/
noncomputable def effH (P : Program) : Op → Bool
  | .store .. | .mapUpdate .. | .insert .. | .defer _ => true
  | .call c => match c.callee with
    | .builtin .len | .builtin .max => false
    | _ => true
  | .slice t _ (some _) _ _ => match tiOf P t with
    | some ti => match ti.k with
      | .slice _ => true
      | _ => false
    | none => true
  | _ => false
noncomputable def stages (q : List (Nat × Nat)) (s : Nat) : List Nat → List Nat
  | [] => (q.filter fun x => Nat.beq x.2 s).map (·.1)
  | e :: r => (q.filter fun x => Nat.beq x.2 s).map (·.1) ++ e :: stages q (Nat.succ s) r
noncomputable def orderOf (P : Program) (ops : Array Oper) (bs : List Nat) : List Nat :=
  let es := (ops.toList.zipIdx.filter fun x => effH P x.1.op).map (·.2)
  let q := (ops.toList.zipIdx.filter fun x => not (effH P x.1.op)).map fun x => (x.2, (es.filter fun e => tbo bs x.2 e).length)
  stages q 0 es
/-- may the operation at place k come where the place c is next? -/
noncomputable def mayAt (bs : List Nat) (l : List RS) (i c : Nat) : Bool :=
  l.zipIdx.all fun y => or (not y.1.co.eff) (Bool.rec (not (tbo bs i y.1.i)) (not (tbo bs y.1.i i)) (Nat.blt y.2 c))
/-- reads the operation the same there? -/
noncomputable def chk1 (f : E → Hp → Option V) (k c : Nat) (t : List St) : Bool :=
  match t[k]?, t[c]? with
  | some s, some s' => match f s.env s.hp with
    | some v => match f s.env s'.hp with
      | some v' => vEq v v'
      | none => false
    | none => true
  | _, _ => false
noncomputable def bnds (l : List RS) : List Nat := (l.zipIdx.filter fun x => x.1.co.eff).map (·.2) ++ [l.length]
noncomputable def chksAt (bs : List Nat) (l : List RS) (r : RS) (k : Nat) : List (List St → Bool) :=
  match r.co with
  | .q f => ((bnds l).filter fun c => mayAt bs l r.i c).map fun c => chk1 f k c
  | _ => []
noncomputable def chks (bs : List Nat) (l : List RS) : List (List St → Bool) := l.zipIdx.flatMap fun x => chksAt bs l x.1 x.2
noncomputable def allB (t : List St) : List (List St → Bool) → Bool
  | [] => true
  | c :: r => Bool.rec false (allB t r) (c t)
theorem allB_ok {t : List St} : ∀ {l : List (List St → Bool)}, allB t l = true → ∀ c ∈ l, c t = true
  | [], _, c, h => by cases h
  | d :: r, h, c, hc => by
    have h : (Bool.rec false (allB t r) (d t) : Bool) = true := h
    cases hd : d t with
    | false => rw [hd] at h; cases h
    | true =>
      rw [hd] at h
      rcases List.mem_cons.1 hc with rfl | hc
      · exact hd
      · exact allB_ok h c hc
/-- a region whose order is open -/
noncomputable def xreg (P : Program) (K : SC) (ops : Array Oper) : Option (CF → St → Option St) :=
  ob (crs P ops K (orderOf P ops (befs ops.toList []))) fun l => oif (okP ops (befs ops.toList []) (orderOf P ops (befs ops.toList [])) l) (some fun call st =>
    ob (xtr l call st) fun t => oif (allB t (chks (befs ops.toList []) l)) (ob t[l.length]? fun s => St.rec (fun env hp df => E.rec (fun _ tr => some ⟨⟨[], tr⟩, hp, df⟩) env) s))

/-- A block on paper is not yet laid: it stays so. -/
theorem Rel.pends {U : UU} {w0 : World} {prot prot' : PP} {m : M} {h : Hp} {w : World} (r : Rel U w0 prot m h w) (hc : prot'.c = prot.c) (hp : ∀ p o, prot'.p p o → m p = none ∧ h.tr.at p = some o ∧ ∃ k, k < h.next ∧ p = paN k) : Rel U w0 prot' m h w :=
  ⟨r.os, r.tape, r.output, r.size, by rw [hc]; exact r.keep, r.lt, r.new, r.inj, r.obj, hp⟩
end Go.XM

/-
  The machine on paper: each order of a region does the same: the proof.
-/
namespace Go.XM
open Go Go.RowKit

/-- a region that was run -/
structure Ctx (P : Program) (ops : Array Oper) (K : SC) (l : List RS) (call : CF) (σ : Nat → St) : Prop where
  ok : ∀ (k : Nat) (r : RS), l[k]? = some r → RSok P ops r ∧ r.K = KK l K k
  plan : Plan ops (befs ops.toList []) (l.map (·.i)) l
  run : ∀ (k : Nat) (r : RS), l[k]? = some r → rrun r call (σ k) = some (σ (k + 1))
  chk : ∀ (k : Nat) (r : RS) (f : E → Hp → Option V) (c : Nat), l[k]? = some r → r.co = .q f → (c = l.length ∨ ∃ r', l[c]? = some r' ∧ r'.co.eff = true) → mayAt (befs ops.toList []) l r.i c = true → ∀ v, f (σ k).env (σ k).hp = some v → f (σ k).env (σ c).hp = some v

theorem new_next {h h' : Hp} {o : Ob} (e : h.new o = some h') : h'.next = h.next + 1 ∧ h'.tr.at (paN h.next) = some o := by
  obtain ⟨t, h1, e⟩ := ob_some e
  cases e; exact ⟨rfl, put_same _ _ _ _ h1⟩

section
variable {P : Program} {ops : Array Oper} {K : SC} {l : List RS} {call : CF} {σ : Nat → St} {U : UU} {w0 : World} {prot : PP}

theorem KK_n (l : List RS) (K : SC) : ∀ k, (KK l K k).n = K.n ∧ (KK l K k).ks = K.ks
  | 0 => ⟨rfl, rfl⟩
  | k + 1 => by
    have ih := KK_n l K k
    show (match l[k]? with | some r => (KK l K k).tell r.o.dst | none => KK l K k).n = _ ∧ (match l[k]? with | some r => (KK l K k).tell r.o.dst | none => KK l K k).ks = _
    cases l[k]? with
    | none => exact ih
    | some r =>
      show ((KK l K k).tell r.o.dst).n = _ ∧ ((KK l K k).tell r.o.dst).ks = _
      cases r.o.dst with
      | none => exact ih
      | some d => rw [SC.tell_some]; exact ih
theorem KK_succ {k : Nat} {r : RS} (h : l[k]? = some r) : KK l K (k + 1) = (KK l K k).tell r.o.dst := by
  show (match l[k]? with | some r => (KK l K k).tell r.o.dst | none => KK l K k) = _
  rw [h]
theorem Ctx.pos (cx : Ctx P ops K l call σ) {k : Nat} {r : RS} (h : l[k]? = some r) : idx r.i (l.map (·.i)) = some k := cx.plan.pos k r.i (by simp [h])
theorem Ctx.at (cx : Ctx P ops K l call σ) {i : Nat} {o : Oper} (h : ops[i]? = some o) : ∃ (k : Nat) (r : RS), l[k]? = some r ∧ r.i = i ∧ r.o = o := by
  obtain ⟨k, hk⟩ := cx.plan.all i (Array.getElem?_eq_some_iff.1 h).1
  have := idx_ok hk
  rw [List.getElem?_map, Option.map_eq_some_iff] at this
  obtain ⟨r, h1, h2⟩ := this
  refine ⟨k, r, h1, h2, ?_⟩
  have := (cx.ok k r h1).1.o
  rw [h2, h] at this; exact (Option.some.inj this).symm
theorem Ctx.lt (cx : Ctx P ops K l call σ) {i j a b : Nat} {r r' : RS} (h : Bef ops j i) (ha : l[a]? = some r) (hj : r.i = j) (hb : l[b]? = some r') (hi : r'.i = i) : a < b := by
  obtain ⟨x, y, h1, h2, h3⟩ := cx.plan.bef h
  have p1 := cx.pos ha
  have p2 := cx.pos hb
  rw [hj, h1] at p1; rw [hi, h2] at p2
  cases p1; cases p2; exact h3

/-- a new block that waits -/
def Pend (l : List RS) (σ : Nat → St) (k : Nat) (r : RS) (p : Pa) (o : Ob) : Prop :=
  l[k]? = some r ∧ (∃ f mk, r.co = .al f ∧ f (σ k).env = some (o, mk)) ∧ wantk r (σ k) ∧ p = paN (σ k).hp.next ∧ (σ k).hp.new o = some (σ (k + 1)).hp
def pp (prot : PP) (l : List RS) (σ : Nat → St) (L : Array Bool) (c : Nat) : PP :=
  ⟨prot.c, fun p o => prot.p p o ∨ ∃ k r, k < c ∧ L.getD r.i false = false ∧ Pend l σ k r p o⟩

/-- what waits has a name of its own -/
def FR (prot : PP) (l : List RS) (σ : Nat → St) (L : Array Bool) (c : Nat) : Prop :=
  ∀ (k : Nat) (r : RS) (p : Pa) (o : Ob), k < c → L.getD r.i false = false → Pend l σ k r p o → (∀ o', ¬ prot.p p o') ∧ ∀ (k' : Nat) (r' : RS) (o' : Ob), k' < k → L.getD r'.i false = false → ¬ Pend l σ k' r' p o'
theorem adv (cx : Ctx P ops K l call σ) {L : Array Bool} {m : M} {w : World} {ds : List Deferred} : ∀ d c, c + d ≤ l.length → (∀ j r, c ≤ j → j < c + d → l[j]? = some r → r.co.eff = false) →
    Rel U w0 (pp prot l σ L c) m (σ c).hp w → DfR U m (σ c).df ds → FR prot l σ L c → Rel U w0 (pp prot l σ L (c + d)) m (σ (c + d)).hp w ∧ DfR U m (σ (c + d)).df ds ∧ FR prot l σ L (c + d)
  | 0, c, _, _, r, df, fr => ⟨r, df, fr⟩
  | d + 1, c, hle, hq, r, df, fr => by
    have hlt : c < l.length := by omega
    have hr0 : l[c]? = some l[c] := List.getElem?_eq_getElem hlt
    have hq0 := hq c l[c] (Nat.le_refl _) (by omega) hr0
    obtain ⟨hdf, hhp⟩ := rrun_quiet (cx.run c l[c] hr0) hq0
    have hstep : Rel U w0 (pp prot l σ L (c + 1)) m (σ (c + 1)).hp w := by
      rcases hhp with hhp | ⟨f, o, mk, h1, h2, h3, h4⟩
      · rw [hhp]
        refine r.pends rfl fun p o hp => ?_
        rcases hp with hp | ⟨k, r', hk, hl', hpend⟩
        · exact r.pend p o (.inl hp)
        · by_cases hkc : k < c
          · exact r.pend p o (.inr ⟨k, r', hkc, hl', hpend⟩)
          · have : k = c := by omega
            subst this
            have hn := new_next hpend.2.2.2.2
            rw [hhp] at hn; omega
      · obtain ⟨r', n1, n2⟩ := r.paper h4
        refine r'.pends rfl fun p o' hp => ?_
        rcases hp with hp | ⟨k, r'', hk, hl', hpend⟩
        · exact r'.pend p o' (.inl hp)
        · by_cases hkc : k < c
          · exact r'.pend p o' (.inr ⟨k, r'', hkc, hl', hpend⟩)
          · have : k = c := by omega
            subst this
            obtain ⟨_, _, _, hp, hnew⟩ := hpend
            subst hp
            exact ⟨r.new _ (Nat.le_refl _), (new_next hnew).2, _, by rw [n1]; omega, rfl⟩
    have hfr : FR prot l σ L (c + 1) := by
      intro k r' p o hk hl' hpend
      by_cases hkc : k < c
      · exact fr k r' p o hkc hl' hpend
      · have hkc : k = c := by omega
        subst hkc
        have hp : p = paN (σ k).hp.next := hpend.2.2.2.1
        refine ⟨fun o' hpr => ?_, fun k' r'' o' hk' hl'' hpend' => ?_⟩
        · obtain ⟨_, _, n, h1, h2⟩ := r.pend p o' (.inl hpr)
          rw [hp] at h2; have := paN_inj h2; omega
        · obtain ⟨_, _, n, h1, h2⟩ := r.pend p o' (.inr ⟨k', r'', hk', hl'', hpend'⟩)
          rw [hp] at h2; have := paN_inj h2; omega
    have ih := adv cx d (c + 1) (by omega) (fun j r' h1 h2 => hq j r' (by omega) (by omega)) hstep (by rw [hdf]; exact df) hfr
    have e : c + 1 + d = c + (d + 1) := by omega
    rw [e] at ih; exact ih
theorem nextB (l : List RS) : ∀ e c, c + e = l.length → ∃ d, c + d ≤ l.length ∧ (c + d = l.length ∨ ∃ r, l[c + d]? = some r ∧ r.co.eff = true) ∧ ∀ j r, c ≤ j → j < c + d → l[j]? = some r → r.co.eff = false
  | 0, c, h => ⟨0, by omega, .inl (by omega), fun j r h1 h2 => by omega⟩
  | e + 1, c, h => by
    have hlt : c < l.length := by omega
    have hr0 : l[c]? = some l[c] := List.getElem?_eq_getElem hlt
    cases he : l[c].co.eff with
    | true => exact ⟨0, by omega, .inr ⟨l[c], hr0, he⟩, fun j r h1 h2 => by omega⟩
    | false =>
      obtain ⟨d, h1, h2, h3⟩ := nextB l e (c + 1) (by omega)
      have e' : c + 1 + d = c + (d + 1) := by omega
      rw [e'] at h1 h2
      refine ⟨d + 1, h1, h2, fun j r hj1 hj2 hj => ?_⟩
      by_cases hjc : j = c
      · subst hjc; rw [hr0] at hj; cases hj; exact he
      · exact h3 j r (by omega) (by omega) hj
/-- slots that nobody tells stay -/
theorem fwd (cx : Ctx P ops K l call σ) {m : M} {t : Nat} {a : Act} : ∀ d c, c + d ≤ l.length → (∀ j r, c ≤ j → j < c + d → l[j]? = some r → r.o.dst ≠ some t) → RT U m (KK l K c) t (σ c).env a → RT U m (KK l K (c + d)) t (σ (c + d)).env a
  | 0, _, _, _, h => h
  | d + 1, c, hle, hq, h => by
    have hlt : c < l.length := by omega
    have hr0 : l[c]? = some l[c] := List.getElem?_eq_getElem hlt
    obtain ⟨hok, hK⟩ := cx.ok c _ hr0
    obtain ⟨v, hv⟩ := rrun_env (cx.run c _ hr0)
    have h1 := h.put (by rw [← hK]; exact hok.g) hv (hq c _ (Nat.le_refl _) (by omega) hr0)
    rw [← KK_succ hr0] at h1
    have ih := fwd cx d (c + 1) (by omega) (fun j r' h1 h2 => hq j r' (by omega) (by omega)) h1
    have e : c + 1 + d = c + (d + 1) := by omega
    rw [e] at ih; exact ih

/-- how far a region is -/
structure Inv (prot : PP) (U : UU) (w0 : World) (ops : Array Oper) (K : SC) (l : List RS) (σ : Nat → St) (L : Array Bool) (c : Nat) (m : M) (a : Act) (w : World) : Prop where
  shut : Shut ops L
  size : L.size = ops.size
  le : c ≤ l.length
  cb : c = l.length ∨ ∃ r, l[c]? = some r ∧ r.co.eff = true
  eff : ∀ (k : Nat) (r : RS), l[k]? = some r → r.co.eff = true → (L.getD r.i false = true ↔ k < c)
  rel : Rel U w0 (pp prot l σ L c) m (σ c).hp w
  asz : a.tmps.size = K.n
  rt : ∀ k t, k ≤ l.length → (∀ (j : Nat) (r : RS), l[j]? = some r → r.o.dst = some t → (L.getD r.i false = true ↔ j < k)) → RT U m (KK l K k) t (σ k).env a
  df : DfR U m (σ c).df a.defers
  fr : FR prot l σ L c
theorem unset {L : Array Bool} {i j : Nat} (h : (L.setIfInBounds i true).getD j false = false) : L.getD j false = false := by
  cases hl : L.getD j false with
  | false => rfl
  | true => rw [getD_set_true hl] at h; cases h
theorem FR.step {L : Array Bool} {c : Nat} (h : FR prot l σ L c) (i : Nat) : FR prot l σ (L.setIfInBounds i true) c :=
  fun k r p o h1 h2 h3 => ⟨(h k r p o h1 (unset h2) h3).1, fun k' r' o' h4 h5 => (h k r p o h1 (unset h2) h3).2 k' r' o' h4 (unset h5)⟩

theorem rt_upd (cx : Ctx P ops K l call σ) {L : Array Bool} {c : Nat} {m m' : M} {a a' : Act} {w : World} (I : Inv prot U w0 ops K l σ L c m a w) {k : Nat} {r : RS} (hk : l[k]? = some r) (hr : r.i ∈ Region.ready .any ops L)
    (hm : m.le m') (ha : ∀ t, r.o.dst ≠ some t → a'.tmps[t]? = a.tmps[t]?) (hd : ∀ t, r.o.dst = some t → RT U m' (KK l K (k + 1)) t (σ (k + 1)).env a') :
    ∀ k' t, k' ≤ l.length → (∀ (j : Nat) (r' : RS), l[j]? = some r' → r'.o.dst = some t → ((L.setIfInBounds r.i true).getD r'.i false = true ↔ j < k')) → RT U m' (KK l K k') t (σ k').env a' := by
  intro k' t hle hc
  have hun : L.getD r.i false = false := by
    have h0 := (mem_ready.1 hr).1
    have hlt : r.i < L.size := by
      rcases Nat.lt_or_ge r.i L.size with h' | h'
      · exact h'
      · simp [Array.getElem?_eq_none h'] at h0
    simpa [hlt] using h0
  have hsz : r.i < L.size := by rw [I.size]; exact (Array.getElem?_eq_some_iff.1 (cx.ok k r hk).1.o).1
  have hself : (L.setIfInBounds r.i true).getD r.i false = true := by simp [hsz]
  by_cases hdt : r.o.dst = some t
  · have hlt : k < k' := (hc k r hk hdt).1 hself
    have key := fwd cx (U := U) (m := m') (t := t) (a := a') (k' - (k + 1)) (k + 1) (by omega) (fun j r' h1 h2 hj hd' => by
      have hl' := (hc j r' hj hd').2 (by omega)
      have hne : r'.i ≠ r.i := fun e => by
        have p1 := cx.pos hj
        rw [e, cx.pos hk] at p1; cases p1; omega
      rw [getD_set_ne false (Ne.symm hne)] at hl'
      rcases cx.plan.names r'.i r'.o t r.i r.o (cx.ok j r' hj).1.o (names_dst hd') (cx.ok k r hk).1.o hdt with h | h | h
      · exact hne h.symm
      · have := (tbo_ok h).listed I.shut hl'
        rw [hun] at this; cases this
      · have := cx.lt (tbo_ok h) hj rfl hk rfl
        omega) (hd t hdt)
    have e : k + 1 + (k' - (k + 1)) = k' := by omega
    rw [e] at key; exact key
  · refine (I.rt k' t hle fun j r' hj hd' => ?_).act hm (ha t hdt)
    have hne : r'.i ≠ r.i := fun e => by
      have p1 := cx.pos hj
      rw [e, cx.pos hk] at p1; cases p1
      rw [hk] at hj; cases hj; exact hdt hd'
    have := hc j r' hj hd'
    rw [getD_set_ne false (Ne.symm hne)] at this
    exact this
theorem unl {L : Array Bool} {i : Nat} (hr : i ∈ Region.ready .any ops L) : L.getD i false = false := by
  have h0 := (mem_ready.1 hr).1
  have hlt : i < L.size := by
    rcases Nat.lt_or_ge i L.size with h' | h'
    · exact h'
    · simp [Array.getElem?_eq_none h'] at h0
  simpa [hlt] using h0
/-- a quiet operation comes behind all that changes something and stands ahead of it -/
theorem quiet_lt (cx : Ctx P ops K l call σ) {L : Array Bool} {c : Nat} {m : M} {a : Act} {w : World} (I : Inv prot U w0 ops K l σ L c m a w) {k : Nat} {r : RS} (hk : l[k]? = some r) (hr : r.i ∈ Region.ready .any ops L) (hq : r.co.eff = false) : k < c := by
  have hlt := (List.getElem?_eq_some_iff.1 hk).1
  rcases I.cb with h | ⟨r', h1, h2⟩
  · omega
  · by_cases hkc : k < c
    · exact hkc
    · have hne : c ≠ k := fun e => by subst e; rw [h1] at hk; cases hk; rw [h2] at hq; cases hq
      have := (tbo_ok (cx.plan.quiet k c r r' hk h1 hq h2 (by omega))).ready I.shut hr
      have := (I.eff c r' h1 h2).1 this
      omega
/-- the slots that an operation names are as on paper -/
theorem names_ar (cx : Ctx P ops K l call σ) {L : Array Bool} {c : Nat} {m : M} {a : Act} {w : World} (I : Inv prot U w0 ops K l σ L c m a w) {k : Nat} {r : RS} (hk : l[k]? = some r) (hr : r.i ∈ Region.ready .any ops L) :
    AR U m r.K (fun t => t ∈ namesL ops r.o) (σ k).env a := by
  have hlt := (List.getElem?_eq_some_iff.1 hk).1
  rw [(cx.ok k r hk).2]
  refine AR.of (by rw [(KK_n l K k).1]; exact I.asz) fun t ht => I.rt k t (by omega) fun j r' hj hd => ?_
  by_cases hne : r'.i = r.i
  · have p1 := cx.pos hj
    rw [hne, cx.pos hk] at p1; cases p1
    rw [hk] at hj; cases hj
    rw [unl hr]; simp
  · rcases cx.plan.names r.i r.o t r'.i r'.o (cx.ok k r hk).1.o ht (cx.ok j r' hj).1.o hd with h | h | h
    · exact absurd h hne
    · have h1 := (tbo_ok h).ready I.shut hr
      have h2 := cx.lt (tbo_ok h) hj rfl hk rfl
      rw [h1]; simp [h2]
    · have h2 := cx.lt (tbo_ok h) hk rfl hj rfl
      have h1 : L.getD r'.i false = false := by
        cases hl : L.getD r'.i false with
        | false => rfl
        | true =>
          have := (tbo_ok h).listed I.shut hl
          rw [unl hr] at this; cases this
      rw [h1]; simp; omega
/-- is it wanted? as on paper -/
theorem wanted_eq (cx : Ctx P ops K l call σ) {L : Array Bool} {c : Nat} {m : M} {a : Act} {w : World} (I : Inv prot U w0 ops K l σ L c m a w) {k : Nat} {r : RS} (hk : l[k]? = some r) (hr : r.i ∈ Region.ready .any ops L) :
    (wantk r (σ k) → Region.wanted r.o (yielded ops a.tmps) = true) ∧ ((∃ f, r.wt = some f ∧ f (σ k).env = some false) → Region.wanted r.o (yielded ops a.tmps) = false) := by
  have har := names_ar cx I hk hr
  have hok := (cx.ok k r hk).1
  have hwt := hok.wt
  cases hg : r.o.guard with
  | none =>
    rw [hg] at hwt
    have hwt := Option.some.inj hwt
    refine ⟨fun _ => by simp [Region.wanted, hg], fun ⟨f, h1, _⟩ => by rw [h1] at hwt; cases hwt⟩
  | some x =>
    obtain ⟨j, want⟩ := x
    rw [hg] at hwt
    simp only [wtOf, ob_eq] at hwt
    obtain ⟨oj, h1, t, h2, gt, h3, hwt⟩ := hwt
    have hwt := Option.some.inj hwt
    have key : ∀ b, ob (gt (σ k).env) (fun v => wantV v want) = some b → Region.wanted r.o (yielded ops a.tmps) = b := fun b hb => by
      obtain ⟨v, e1, e2⟩ := ob_some hb
      exact wantV_ok hg h1 h2 h3 (names_guard hg h1 h2) har e1 e2
    refine ⟨fun h => ?_, fun ⟨f, e1, e2⟩ => ?_⟩
    · rcases h with h | ⟨f, e1, e2⟩
      · rw [h] at hwt; cases hwt
      · rw [e1] at hwt; cases hwt; exact key true e2
    · rw [e1] at hwt; cases hwt; exact key false e2
theorem mayAt_ok {L : Array Bool} {c : Nat} {m : M} {a : Act} {w : World} (I : Inv prot U w0 ops K l σ L c m a w) {k : Nat} {r : RS} (_ : l[k]? = some r) (hr : r.i ∈ Region.ready .any ops L) : mayAt (befs ops.toList []) l r.i c = true := by
  unfold mayAt
  refine List.all_eq_true.2 fun y hy => ?_
  obtain ⟨r', j⟩ := y
  have hj : l[j]? = some r' := List.mem_zipIdx_iff_getElem?.1 hy
  dsimp only
  cases he : r'.co.eff with
  | false => rfl
  | true =>
    simp only [Bool.not_true, Bool.false_or]
    cases hlt : Nat.blt j c with
    | true =>
      have h1 := (I.eff j r' hj he).2 (blt_iff.1 hlt)
      show (!tbo _ r'.i r.i) = true
      cases hb : tbo (befs ops.toList []) r'.i r.i with
      | false => rfl
      | true =>
        have := (tbo_ok hb).listed I.shut h1
        rw [unl hr] at this; cases this
    | false =>
      show (!tbo _ r.i r'.i) = true
      cases hb : tbo (befs ops.toList []) r.i r'.i with
      | false => rfl
      | true =>
        have h1 := (tbo_ok hb).ready I.shut hr
        have h2 := (I.eff j r' hj he).1 h1
        rw [blt_iff.2 h2] at hlt; cases hlt
/-- a quiet operation was done -/
theorem Inv.quiet (cx : Ctx P ops K l call σ) {L : Array Bool} {c : Nat} {m m' : M} {a a' : Act} {w w' : World} (I : Inv prot U w0 ops K l σ L c m a w) {k : Nat} {r : RS} (hk : l[k]? = some r) (hr : r.i ∈ Region.ready .any ops L) (hq : r.co.eff = false)
    (hm : m.le m') (u : Value) (ha : a' = a.put r.o.dst u) (hrel : Rel U w0 (pp prot l σ (L.setIfInBounds r.i true) c) m' (σ c).hp w')
    (hput : AR U m' (KK l K (k + 1)) (fun t => t ∈ namesL ops r.o) (σ (k + 1)).env a') : Inv prot U w0 ops K l σ (L.setIfInBounds r.i true) c m' a' w' where
  shut := I.shut.step hr
  size := by simp [I.size]
  le := I.le
  cb := I.cb
  eff := fun j r' hj he => by
    have hne : r'.i ≠ r.i := fun e => by
      have p1 := cx.pos hj
      rw [e, cx.pos hk] at p1; cases p1
      rw [hk] at hj; cases hj; rw [hq] at he; cases he
    rw [getD_set_ne false (Ne.symm hne)]; exact I.eff j r' hj he
  rel := hrel
  asz := by rw [ha]; cases r.o.dst <;> simp [Act.put, I.asz]
  rt := rt_upd cx I hk hr hm (fun t ht => by
    rw [ha]
    cases hd : r.o.dst with
    | none => rfl
    | some d =>
      have : d ≠ t := fun e => ht (by rw [hd, e])
      simp [Act.put, Array.getElem?_setIfInBounds_ne this]) (fun t ht => hput.rt (names_dst ht))
  df := by rw [ha, put_defers']; exact I.df.mono hm
  fr := I.fr.step _
theorem pp_step {L : Array Bool} {c i : Nat} {m : M} {h : Hp} {w : World} (hr : Rel U w0 (pp prot l σ L c) m h w) : Rel U w0 (pp prot l σ (L.setIfInBounds i true) c) m h w := by
  refine hr.pends rfl fun p o hp => ?_
  rcases hp with hp | ⟨k, r, h1, h2, h3⟩
  · exact hr.pend p o (.inl hp)
  · refine hr.pend p o (.inr ⟨k, r, h1, ?_, h3⟩)
    cases hl : L.getD r.i false with
    | false => rfl
    | true => rw [getD_set_true hl] at h2; cases h2
end
end Go.XM

/-
  The machine on paper: each order of a region does the same: one step, and the whole.
-/
namespace Go.XM
open Go Go.RowKit

section
variable {P : Program} {ops : Array Oper} {K : SC} {l : List RS} {call : CF} {σ : Nat → St} {U : UU} {w0 : World} {prot : PP}

/-- what changes something is the next one -/
theorem eff_at (cx : Ctx P ops K l call σ) {L : Array Bool} {c : Nat} {m : M} {a : Act} {w : World} (I : Inv prot U w0 ops K l σ L c m a w) {k : Nat} {r : RS} (hk : l[k]? = some r) (hi : r.i ∈ Region.ready .any ops L) (he : r.co.eff = true) : k = c := by
  have hun := unl hi
  have h1 : ¬ k < c := fun h => by
    have := (I.eff k r hk he).2 h
    rw [hun] at this; cases this
  rcases I.cb with h | ⟨r', h2, h3⟩
  · have := (List.getElem?_eq_some_iff.1 hk).1; omega
  · by_cases hne : r.i = r'.i
    · have p1 := cx.pos hk
      rw [hne, cx.pos h2] at p1; cases p1; rfl
    · rcases cx.plan.effs r r' (List.mem_of_getElem? hk) (List.mem_of_getElem? h2) he h3 with h | h | h
      · exact absurd h hne
      · have := (tbo_ok h).ready I.shut hi
        have := (I.eff c r' h2 h3).1 this
        omega
      · have := cx.lt (tbo_ok h) hk rfl h2 rfl
        omega
/-- something was changed -/
theorem Inv.effect (cx : Ctx P ops K l call σ) {L : Array Bool} {k : Nat} {m m1 : M} {a a1 : Act} {w w1 : World} (I : Inv prot U w0 ops K l σ L k m a w) {r : RS} (hk : l[k]? = some r) (hi : r.i ∈ Region.ready .any ops L) (he : r.co.eff = true) (hm : m.le m1)
    (s1 : SD U w0 (pp prot l σ L k) m1 (r.K.tell r.o.dst) (fun t => t ∈ namesL ops r.o) (σ (k + 1)) a1 w1) (ha : ∃ u ds, a1 = { a.put r.o.dst u with defers := ds }) : ∃ c', Inv prot U w0 ops K l σ (L.setIfInBounds r.i true) c' m1 a1 w1 := by
  have ho := (cx.ok k r hk).1.o
  have hKk := (cx.ok k r hk).2
  obtain ⟨u, ds, ha⟩ := ha
  have hlt := (List.getElem?_eq_some_iff.1 hk).1
  obtain ⟨d, hd1, hd2, hd3⟩ := nextB l (l.length - (k + 1)) (k + 1) (by omega)
  -- what waits, waits on
  have hrel1 : Rel U w0 (pp prot l σ (L.setIfInBounds r.i true) (k + 1)) m1 (σ (k + 1)).hp w1 := by
    refine s1.rel.pends rfl fun p o hp => ?_
    rcases hp with hp | ⟨k', r', h1, h2, h3⟩
    · exact s1.rel.pend p o (.inl hp)
    · have hk' : k' < k := by
        by_cases h : k' < k
        · exact h
        · have : k' = k := by omega
          subst this
          obtain ⟨q1, ⟨f, mk, q2, _⟩, _⟩ := h3
          rw [hk] at q1; cases q1
          rw [q2] at he; cases he
      refine s1.rel.pend p o (.inr ⟨k', r', hk', ?_, h3⟩)
      cases hl : L.getD r'.i false with
      | false => rfl
      | true => rw [getD_set_true hl] at h2; cases h2
  have hfr1 : FR prot l σ (L.setIfInBounds r.i true) (k + 1) := by
    intro k' r' p o h1 h2 h3
    by_cases h : k' < k
    · exact I.fr.step r.i k' r' p o h h2 h3
    · have : k' = k := by omega
      subst this
      obtain ⟨q1, ⟨f, mk, q2, _⟩, _⟩ := h3
      rw [hk] at q1; cases q1
      rw [q2] at he; cases he
  obtain ⟨hrel2, hdf2, hfr2⟩ := adv cx d (k + 1) hd1 hd3 hrel1 s1.df hfr1
  have hput : AR U m1 (KK l K (k + 1)) (fun t => t ∈ namesL ops r.o) (σ (k + 1)).env a1 := by
    rw [KK_succ hk, ← hKk]; exact s1.env
  refine ⟨k + 1 + d, ⟨I.shut.step hi, by simp [I.size], hd1, hd2, fun j r' hj he' => ?_, hrel2, ?_, ?_, hdf2, hfr2⟩⟩
  · by_cases hjk : j = k
    · subst hjk; rw [hk] at hj; cases hj
      have hsz : r.i < L.size := by rw [I.size]; exact (Array.getElem?_eq_some_iff.1 ho).1
      simp [hsz]; omega
    · have hne : r'.i ≠ r.i := fun e => by
        have p1 := cx.pos hj
        rw [e, cx.pos hk] at p1; cases p1; exact hjk rfl
      rw [getD_set_ne false (Ne.symm hne), I.eff j r' hj he']
      constructor
      · intro h; omega
      · intro h
        by_cases hjl : j < k
        · exact hjl
        · have := hd3 j r' (by omega) h hj
          rw [this] at he'; cases he'
  · rw [ha]
    show (a.put r.o.dst u).tmps.size = _
    cases r.o.dst <;> simp [Act.put, I.asz]
  · exact rt_upd cx I hk hi hm (fun t ht => by
      rw [ha]
      show (a.put r.o.dst u).tmps[t]? = _
      cases hdd : r.o.dst with
      | none => rfl
      | some dd =>
        have : dd ≠ t := fun e => ht (by rw [hdd, e])
        simp [Act.put, Array.getElem?_setIfInBounds_ne this]) (fun t ht => hput.rt (names_dst ht))
theorem step (cx : Ctx P ops K l call σ) (hc : CallOK P call) {L : Array Bool} {c : Nat} {m : M} {a : Act} {w : World} {Q : Exit → Act → World → Prop} (I : Inv prot U w0 ops K l σ L c m a w) {i : Nat} (hi : i ∈ Region.ready .any ops L) {N : Act → World → Prop}
    (hN : ∀ c' m' a' w', m.le m' → Inv prot U w0 ops K l σ (L.setIfInBounds i true) c' m' a' w' → N a' w') : wpOp P ops Q i N a w := by
  obtain ⟨_, o, ho, _⟩ := mem_ready.1 hi
  obtain ⟨k, r, hk, rfl, rfl⟩ := cx.at ho
  have hok := (cx.ok k r hk).1
  have hKk := (cx.ok k r hk).2
  have hrun := cx.run k r hk
  have har := names_ar cx I hk hi
  have hw := wanted_eq cx I hk hi
  have hcop := cop_ok hok.co
  have hun := unl hi
  unfold wpOp
  simp only [ho]
  rcases rrun_split hrun with ⟨hwk, hx⟩ | ⟨hwk, hx⟩
  · rw [if_pos (hw.1 hwk)]
    left
    cases he : r.co.eff with
    | true =>
      -- something changes: it is the next one
      have hkc := eff_at cx I hk hi he
      subst hkc
      have hs : SD U w0 (pp prot l σ L k) m r.K (fun t => t ∈ namesL ops r.o) (σ k) a w := ⟨I.rel, har, I.df⟩
      refine xop_ok hc hcop hok.g hx hs (fun t ht => names_op ht) fun m1 a1 w1 hm s1 ha => ?_
      obtain ⟨c', h'⟩ := I.effect cx hk hi he hm s1 ha
      exact hN c' m1 a1 w1 hm h'
    | false =>
      have hkc := quiet_lt cx I hk hi he
      have hdf := rrun_quiet hrun he
      have har' : AR U m r.K (opD r.o) (σ k).env a := har.weak fun t ht => names_op ht
      unfold Oper.wp
      have fin : ∀ {m' : M} {u : Value} {w' : World} {v : V}, m.le m' → v.den U m' = some u → r.g v (σ k).env = some (σ (k + 1)).env → Rel U w0 (pp prot l σ (L.setIfInBounds r.i true) c) m' (σ c).hp w' → N (a.put r.o.dst u) w' := fun {m' u w' v} hm hv hg hrel =>
        hN c m' _ w' hm (I.quiet cx hk hi he hm u rfl hrel (by
          rw [KK_succ hk, ← hKk]
          exact putD_ok hok.g hg (har.mono hm) hv))
      obtain ⟨env0, hp0, df0, hst⟩ : ∃ e h d, σ k = ⟨e, h, d⟩ := ⟨_, _, _, rfl⟩
      cases hco : r.co with
      | p f =>
        rw [hco] at hx hcop
        rw [hst] at hx har' fin
        simp only [xop, ob_eq] at hx
        obtain ⟨v, e1, env, e2, e⟩ := hx
        have e : σ (k + 1) = ⟨env, hp0, df0⟩ := (Option.some.inj e).symm
        rw [e] at fin
        obtain ⟨u, k1, k2⟩ := hcop I.rel har' e1
        rw [k2]
        exact fin (M.le_refl m) k1 e2 (pp_step I.rel)
      | q f =>
        have hchk := cx.chk k r f c hk hco I.cb (mayAt_ok I hk hi)
        rw [hco] at hx hcop
        rw [hst] at hx har' fin hchk
        simp only [xop, ob_eq] at hx
        obtain ⟨v, e1, env, e2, e⟩ := hx
        have e : σ (k + 1) = ⟨env, hp0, df0⟩ := (Option.some.inj e).symm
        rw [e] at fin
        obtain ⟨u, k1, k2⟩ := hcop I.rel har' (hchk v e1)
        rw [k2]
        exact fin (M.le_refl m) k1 e2 (pp_step I.rel)
      | al f =>
        rw [hco] at hx hcop
        have hpend : ∀ o h', f (σ k).env = some o → (σ k).hp.new o.1 = some h' → (σ (k + 1)).hp = h' → Pend l σ k r (paN (σ k).hp.next) o.1 := fun o h' q1 q2 q3 => ⟨hk, ⟨f, o.2, hco, q1⟩, hwk, rfl, by rw [q3]; exact q2⟩
        rw [hst] at hx har' fin hpend
        simp only [xop, ob_eq] at hx
        obtain ⟨v, e1, h', e3, env, e2, e⟩ := hx
        have e : σ (k + 1) = ⟨env, h', df0⟩ := (Option.some.inj e).symm
        rw [e] at fin hpend
        obtain ⟨obj, x, k1, k2, k3⟩ := hcop I.rel har' e1
        have hp := hpend v h' e1 e3 rfl
        have hpin : (pp prot l σ L c).p (paN hp0.next) v.1 := .inr ⟨k, r, hkc, hun, hp⟩
        obtain ⟨p1, p2, n, p3, p4⟩ := I.rel.pend _ _ hpin
        -- it is laid now
        have hrel : Rel U w0 (pp prot l σ (L.setIfInBounds r.i true) c) m (σ c).hp w := pp_step I.rel
        have hsz : r.i < L.size := by rw [I.size]; exact (Array.getElem?_eq_some_iff.1 ho).1
        have hnot : ∀ o', ¬ (pp prot l σ (L.setIfInBounds r.i true) c).p (paN hp0.next) o' := by
          intro o' hq
          obtain ⟨f1, f2⟩ := I.fr k r _ v.1 hkc hun hp
          rcases hq with hq | ⟨k', r', h1, h2, h3⟩
          · exact f1 o' hq
          · by_cases hlt : k' < k
            · exact f2 k' r' o' hlt (unset h2) h3
            · by_cases heq : k' = k
              · subst heq
                have := h3.1
                rw [hk] at this; cases this
                simp [hsz] at h2
              · exact (I.fr k' r' _ o' h1 (unset h2) h3).2 k r v.1 (by omega) hun hp
        have hreal := hrel.real (x := x) p4 p3 p1 p2 hnot (ObR_mono (M.le_upd p1) k1)
        rw [k3]
        exact fin (M.le_upd p1) (MK.den k2 (M.upd_same _ _ _)) e2 hreal
      | ef f => rw [hco] at he; cases he
      | call f => rw [hco] at he; cases he
      | df f => rw [hco] at he; cases he
  · rw [if_neg (by rw [hw.2 hwk]; simp)]
    cases he : r.co.eff with
    | true =>
      have hkc := eff_at cx I hk hi he
      subst hkc
      have hs : SD U w0 (pp prot l σ L k) m r.K (fun t => t ∈ namesL ops r.o) (σ k) a w := ⟨I.rel, har, I.df⟩
      obtain ⟨c', h'⟩ := I.effect cx hk hi he (M.le_refl m) (xskip_ok hok.g hx hs) ⟨undef, (a.put r.o.dst undef).defers, rfl⟩
      exact hN c' m _ w (M.le_refl m) h'
    | false =>
      refine hN c m _ w (M.le_refl m) (I.quiet cx hk hi he (M.le_refl m) undef rfl (pp_step I.rel) ?_)
      rw [KK_succ hk, ← hKk]
      obtain ⟨env0, hp0, df0, hst⟩ : ∃ e h d, σ k = ⟨e, h, d⟩ := ⟨_, _, _, rfl⟩
      rw [hst] at hx har
      obtain ⟨env, e2, e⟩ := ob_some hx
      have e : σ (k + 1) = ⟨env, hp0, df0⟩ := (Option.some.inj e).symm
      rw [e]
      exact putD_ok hok.g e2 har rfl
/-- how many are left -/
theorem left_lt {n : Nat} {p q : Nat → Bool} : ∀ {l : List Nat}, (∀ x ∈ l, q x = true → p x = true) → (∃ x ∈ l, p x = true ∧ q x = false) → (l.filter q).length < (l.filter p).length
  | [], _, ⟨x, h, _⟩ => by cases h
  | y :: l, h, ⟨x, hx, hp, hq⟩ => by
    have hle : ∀ {l : List Nat}, (∀ x ∈ l, q x = true → p x = true) → (l.filter q).length ≤ (l.filter p).length := by
      intro l
      induction l with
      | nil => intro _; exact Nat.le_refl _
      | cons z l ih =>
        intro h
        have ih := ih fun x hx => h x (List.mem_cons_of_mem _ hx)
        cases hz : q z with
        | false =>
          cases hpz : p z <;> simp [hz, hpz] <;> omega
        | true =>
          have := h z List.mem_cons_self hz
          simp [hz, this]; exact ih
    have hl : ∀ x ∈ l, q x = true → p x = true := fun x hx => h x (List.mem_cons_of_mem _ hx)
    rcases List.mem_cons.1 hx with rfl | hx
    · have := hle hl
      simp [hp, hq]; omega
    · have ih := left_lt (n := n) hl ⟨x, hx, hp, hq⟩
      cases hy : q y with
      | false => cases hpy : p y <;> simp [hy, hpy] <;> omega
      | true =>
        have := h y List.mem_cons_self hy
        simp [hy, this]; exact ih
def left (ops : Array Oper) (L : Array Bool) : Nat := ((List.range ops.size).filter fun i => !L.getD i false).length
theorem left_step {L : Array Bool} {i : Nat} (hr : i ∈ Region.ready .any ops L) (hs : L.size = ops.size) : left ops (L.setIfInBounds i true) < left ops L := by
  obtain ⟨_, o, ho, _⟩ := mem_ready.1 hr
  have hlt := (Array.getElem?_eq_some_iff.1 ho).1
  refine left_lt (n := 0) (fun x _ h => ?_) ⟨i, List.mem_range.2 hlt, by rw [unl hr]; rfl, by simp [hs, hlt]⟩
  have h : (L.setIfInBounds i true).getD x false = false := by simpa using h
  rw [unset h]; rfl
/-- as long as something is left something can be done -/
theorem more (cx : Ctx P ops K l call σ) {L : Array Bool} {c : Nat} {m : M} {a : Act} {w : World} (I : Inv prot U w0 ops K l σ L c m a w) (h : Region.ready .any ops L = []) : ∀ (k : Nat) (r : RS), l[k]? = some r → L.getD r.i false = true := by
  intro k
  induction k using Nat.strongRecOn with
  | _ k ih =>
    intro r hk
    cases hl : L.getD r.i false with
    | true => rfl
    | false =>
      exfalso
      have hok := (cx.ok k r hk).1.o
      have hlt : r.i < L.size := by rw [I.size]; exact (Array.getElem?_eq_some_iff.1 hok).1
      have hr : r.i ∈ Region.ready .any ops L := by
        refine mem_ready.2 ⟨by simp [hlt]; simpa [hlt] using hl, r.o, hok, fun e he hb => ?_⟩
        obtain ⟨x, y, h1, h2, h3⟩ := cx.plan.edge _ _ _ hok he hb
        rw [cx.pos hk] at h2; cases h2
        have := idx_ok h1
        rw [List.getElem?_map, Option.map_eq_some_iff] at this
        obtain ⟨r', q1, q2⟩ := this
        rw [← q2]; exact ih x h3 r' q1
      rw [h] at hr; cases hr
theorem all_orders (cx : Ctx P ops K l call σ) (hc : CallOK P call) {Q : Exit → Act → World → Prop} {m0 : M} (hQ : ∀ m' a' w', m0.le m' → SD U w0 prot m' (KK l K l.length) (fun _ => True) (σ l.length) a' w' → Q .normal a' w') : ∀ (n : Nat) (L : Array Bool) (c : Nat) (m : M) (a : Act) (w : World), left ops L ≤ n → m0.le m → Inv prot U w0 ops K l σ L c m a w → wpAny P .any ops Q n L a w := by
  intro n
  have fin : ∀ {L : Array Bool} {c : Nat} {m : M} {a : Act} {w : World}, m0.le m → Inv prot U w0 ops K l σ L c m a w → Region.ready .any ops L = [] → Q .normal a w := by
    intro L c m a w hm I h
    have hall := more cx I h
    have hcl : c = l.length := by
      rcases I.cb with h | ⟨r, h1, h2⟩
      · exact h
      · have := (I.eff c r h1 h2).1 (hall c r h1); omega
    subst hcl
    refine hQ m a w hm ⟨I.rel.pends rfl fun p o hp => I.rel.pend p o (.inl hp), AR.of (by rw [(KK_n l K _).1]; exact I.asz) fun t _ => I.rt _ t (Nat.le_refl _) fun j r hj _ => ?_, I.df⟩
    have := (List.getElem?_eq_some_iff.1 hj).1
    rw [hall j r hj]; simp [this]
  induction n with
  | zero =>
    intro L c m a w hn hm I
    have hr : Region.ready .any ops L = [] := by
      cases h : Region.ready .any ops L with
      | nil => rfl
      | cons i r =>
        have hi : i ∈ Region.ready .any ops L := by rw [h]; exact List.mem_cons_self
        have := left_step hi I.size
        omega
    exact ⟨hr, fin hm I hr⟩
  | succ n ih =>
    intro L c m a w hn hm I
    refine ⟨fun h => fin hm I h, fun i hi => step cx hc I hi fun c' m' a' w' hm' I' => ih _ c' m' a' w' ?_ (M.le_trans hm hm') I'⟩
    have := left_step hi I.size
    omega
end
/-- REGIONS WHOSE ORDER IS OPEN. -/
theorem xreg_ok {P : Program} (hmix : P.follows .mixedOrders = true) {K : SC} (hds : K.ds = []) : RegOK P K (xreg P K) := by
  intro call ops f id Q U w0 prot st st' m a w hc hf e s K1
  simp only [xreg, ob_eq, oif_eq] at hf
  obtain ⟨l, h1, h2, hf⟩ := hf
  cases hf
  simp only [ob_eq, oif_eq] at e
  obtain ⟨t, e1, e2, sl, e3, e⟩ := e
  obtain ⟨hπ, hcrs⟩ := crs_ok h1
  obtain ⟨t0, t1, t2⟩ := xtr_ok e1
  have hσ : ∀ k x, t[k]? = some x → t.getD k st = x := fun k x h => by simp [List.getD, h]
  have hplan := okP_ok h2
  rw [← hπ] at hplan
  have cx : Ctx P ops K l call (fun k => t.getD k st) := by
    refine ⟨hcrs, hplan, fun k r hk => ?_, fun k r g c hk hco hb hmay v hv => ?_⟩
    · obtain ⟨x, y, q1, q2, q3⟩ := t2 k r hk
      rw [hσ k x q1, hσ (k + 1) y q2]; exact q3
    · have hmem : chk1 g k c ∈ chks (befs ops.toList []) l := by
        refine List.mem_flatMap.2 ⟨(r, k), mem_zip hk, ?_⟩
        unfold chksAt
        simp only [hco]
        refine List.mem_map.2 ⟨c, List.mem_filter.2 ⟨?_, hmay⟩, rfl⟩
        unfold bnds
        rcases hb with rfl | ⟨r', hr', he'⟩
        · exact List.mem_append_right _ List.mem_cons_self
        · exact List.mem_append_left _ (List.mem_map.2 ⟨(r', c), List.mem_filter.2 ⟨mem_zip hr', he'⟩, rfl⟩)
      have hch := allB_ok e2 _ hmem
      unfold chk1 at hch
      split at hch
      · rename_i s1 s2 q1 q2
        rw [hσ k s1 q1] at hv
        rw [hσ k s1 q1, hσ c s2 q2]
        rw [hv] at hch
        dsimp only at hch
        cases hv' : g s1.env s2.hp with
        | none => rw [hv'] at hch; cases hch
        | some v' => rw [hv'] at hch; rw [vEq_ok hch]
      · cases hch
  have hst : (t.getD 0 st) = st := hσ 0 st t0
  obtain ⟨d, d1, d2, d3⟩ := nextB l l.length 0 (by omega)
  rw [Nat.zero_add] at d1 d2
  have hL : ∀ i, (Array.replicate ops.size false).getD i false = false := fun i => by
    simp [Array.getD_eq_getD_getElem?, Array.getElem?_replicate]; split <;> rfl
  have hpp0 : Rel U w0 (pp prot l (fun k => t.getD k st) (Array.replicate ops.size false) 0) m (t.getD 0 st).hp w.drew := by
    rw [hst]
    refine s.rel.drew.pends rfl fun p o hp => ?_
    rcases hp with hp | ⟨k, r, h, _⟩
    · exact s.rel.pend p o hp
    · omega
  obtain ⟨a1, a2, a3⟩ := adv (U := U) (w0 := w0) (prot := prot) cx (L := Array.replicate ops.size false) (ds := a.defers) d 0 (by omega) (fun j r h1 h2 => d3 j r h1 (by omega)) hpp0 (by show DfR U m (t.getD 0 st).df a.defers; rw [hst]; exact s.df) (fun k r p o hk => by omega)
  rw [Nat.zero_add] at a1 a2 a3
  have I : Inv prot U w0 ops K l (fun k => t.getD k st) (Array.replicate ops.size false) d m a w.drew := by
    refine ⟨(fun i o _ h => by rw [hL] at h; cases h), by simp, d1, d2, fun k r hk he => ?_, a1, s.env.size, fun k tt hk hcond => ?_, a2, a3⟩
    · rw [hL]
      constructor
      · intro h; cases h
      · intro h; have := d3 k r (Nat.zero_le _) (by omega) hk; rw [this] at he; cases he
    · have key := fwd cx (U := U) (m := m) (t := tt) (a := a) k 0 (by omega) (fun j r _ h2 hj hd => by
        have := (hcond j r hj hd).2 (by omega)
        rw [hL] at this; cases this) (by show RT U m K tt (t.getD 0 st).env a; rw [hst]; exact s.env.rt trivial)
      rw [Nat.zero_add] at key; exact key
  refine wp_region_any hmix (all_orders cx hc (m0 := m) (Q := Q) (fun m' a' w' hm s1 => ?_) _ _ d m a _ ?_ (M.le_refl m) I)
  · have hsl : t.getD l.length st = sl := hσ _ _ e3
    rw [hsl] at s1
    obtain ⟨⟨loc, tr⟩, hp, df⟩ := sl
    cases e
    refine K1 m' a' w' hm ⟨s1.rel, ?_, s1.df⟩
    have hf := s1.env.fresh
    have hK : ({ KK l K l.length with ds := [] } : SC) = K := by
      have := KK_n l K l.length
      obtain ⟨n, ks, ds⟩ := K
      cases hds
      generalize KK l ⟨n, ks, []⟩ l.length = K' at this
      obtain ⟨n', ks', ds'⟩ := K'
      obtain ⟨h1, h2⟩ := this
      cases h1; cases h2; rfl
    rw [hK] at hf; exact hf
  · have := List.length_filter_le (fun i => !(Array.replicate ops.size false).getD i false) (List.range ops.size)
    simpa [left] using this
end Go.XM

/-
  The machine on paper, up to a call, and behind it.
-/
namespace Go.XM
open Go Go.RowKit

/-- what comes first in a row of code -/
noncomputable def xpre (reg : Array Oper → Option (CF → St → Option St)) (P : Program) (K : SC) (lf : Nat) : Nat → Code → Option (CF → St → Option St)
  | 0, _ => some fun _ st => some st
  | k + 1, .seq a b => ob (xcode reg P K lf a) fun ra => ob (xpre reg P K lf k b) fun rb => some fun call st => ob (ra call st) fun r => match r.1 with
    | .nx => rb call r.2
    | _ => none
  | _ + 1, _ => none
/-- what is left behind it -/
def behind : Nat → Code → Code
  | 0, c => c
  | k + 1, .seq _ b => behind k b
  | _ + 1, c => c
section
variable {P : Program} {call : CF} {U : UU} {w0 : World} {prot : PP} {K : SC}
theorem xpre_ok {reg : Array Oper → Option (CF → St → Option St)} {lf : Nat} (hreg : RegOK P K reg) (hds : K.ds = []) (hc : CallOK P call) : ∀ {k : Nat} {c : Code} {f : CF → St → Option St} {Q : Exit → Act → World → Prop} {st st' : St} {m : M} {a : Act} {w : World},
    xpre reg P K lf k c = some f → f call st = some st' → SR U w0 prot m K st a w → (∀ m' a' w', m.le m' → SR U w0 prot m' K st' a' w' → (behind k c).wp P Q a' w') → c.wp P Q a w
  | 0, c, f, Q, st, st', m, a, w, hf, e, s, K1 => by cases hf; cases e; exact K1 m a w (M.le_refl m) s
  | k + 1, .seq x y, f, Q, st, st', m, a, w, hf, e, s, K1 => by
    obtain ⟨ra, h1, hf⟩ := ob_some hf
    obtain ⟨rb, h2, hf⟩ := ob_some hf
    cases hf
    obtain ⟨q, e1, e2⟩ := ob_some e
    obtain ⟨qe, qs⟩ := q
    refine wp_seq (xcode_ok hreg hds hc h1 e1 s fun m1 a1 w1 l1 s1 => ?_)
    cases qe with
    | nx => exact xpre_ok hreg hds hc h2 e2 s1 fun m2 a2 w2 l2 s2 => K1 m2 a2 w2 (M.le_trans l1 l2) s2
    | ex id => cases e2
    | rt => cases e2
  | k + 1, .skip, _, _, _, _, _, _, _, hf, _, _, _ => by cases hf
  | k + 1, .region _ _ _, _, _, _, _, _, _, _, hf, _, _, _ => by cases hf
  | k + 1, .cond _ _ _, _, _, _, _, _, _, _, hf, _, _, _ => by cases hf
  | k + 1, .block _ _, _, _, _, _, _, _, _, hf, _, _, _ => by cases hf
  | k + 1, .loop _, _, _, _, _, _, _, _, hf, _, _, _ => by cases hf
  | k + 1, .exit _, _, _, _, _, _, _, _, hf, _, _, _ => by cases hf
  | k + 1, .ret, _, _, _, _, _, _, _, hf, _, _, _ => by cases hf
  | k + 1, .rangeFunc _ _ _ _, _, _, _, _, _, _, _, hf, _, _, _ => by cases hf
  | k + 1, .scope _, _, _, _, _, _, _, _, hf, _, _, _ => by cases hf
  | k + 1, .label _, _, _, _, _, _, _, _, hf, _, _, _ => by cases hf
  | k + 1, .goto _, _, _, _, _, _, _, _, hf, _, _, _ => by cases hf
  | k + 1, .refuse _, _, _, _, _, _, _, _, hf, _, _, _ => by cases hf

/-- the first operations of a region -/
noncomputable def xopsN (P : Program) (ops : Array Oper) : Nat → SC → List Oper → Option (CF → St → Option St)
  | 0, _, _ => some fun _ st => some st
  | j + 1, K, o :: r => ob (xoper P K ops o) fun f => ob (xopsN P ops j (K.tell o.dst) r) fun g => some fun call st => ob (f call st) fun st' => g call st'
  | _ + 1, _, [] => none
noncomputable def KT : Nat → SC → List Oper → SC
  | 0, K, _ => K
  | j + 1, K, o :: r => KT j (K.tell o.dst) r
  | _ + 1, K, [] => K
theorem xopsN_ok (hc : CallOK P call) {ops : Array Oper} {Q : Exit → Act → World → Prop} : ∀ {j : Nat} {K : SC} {l : List Oper} {f : CF → St → Option St} {st st' : St} {m : M} {a : Act} {w : World}, xopsN P ops j K l = some f → f call st = some st' → SR U w0 prot m K st a w →
    (∀ m' a' w', m.le m' → SR U w0 prot m' (KT j K l) st' a' w' → wpList P ops Q (l.drop j) a' w') → wpList P ops Q l a w
  | 0, K, l, f, st, st', m, a, w, hf, e, s, K1 => by cases hf; cases e; exact K1 m a w (M.le_refl m) s
  | j + 1, K, [], f, st, st', m, a, w, hf, e, s, K1 => by cases hf
  | j + 1, K, o :: r, f, st, st', m, a, w, hf, e, s, K1 => by
    obtain ⟨f1, h1, hf⟩ := ob_some hf
    obtain ⟨g, h2, hf⟩ := ob_some hf
    cases hf
    obtain ⟨st1, e1, e2⟩ := ob_some e
    obtain ⟨co, h3, h1⟩ := ob_some h1
    obtain ⟨gd, hgd, h1⟩ := ob_some h1
    have hk := cop_ok h3
    have rest : ∀ m1 a1 w1, m.le m1 → SR U w0 prot m1 (K.tell o.dst) st1 a1 w1 → wpList P ops Q r a1 w1 := fun m1 a1 w1 l1 s1 =>
      xopsN_ok hc h2 e2 s1 fun m' a' w' l2 s2 => K1 m' a' w' (M.le_trans l1 l2) s2
    cases hg : o.guard with
    | none =>
      rw [hg] at h1
      cases h1
      exact wpList_plain hg fun _ hK => xop_ok hc hk hgd e1 s (fun _ _ => trivial) fun m1 a1 w1 l1 s1 _ => hK a1 w1 (rest m1 a1 w1 l1 s1)
    | some gw =>
      obtain ⟨jj, want⟩ := gw
      rw [hg] at h1
      simp only [ob_eq] at h1
      obtain ⟨oj, h4, t, h5, gt, h6, h1⟩ := h1
      cases h1
      simp only [ob_eq] at e1
      obtain ⟨v, e3, b, e4, e1⟩ := e1
      have hw := wantV_ok hg h4 h5 h6 trivial s.env e3 e4
      refine wpList_step fun _ hK => ?_
      rw [hw]
      cases b with
      | true =>
        rw [if_pos rfl]
        exact xop_ok hc hk hgd e1 s (fun _ _ => trivial) fun m1 a1 w1 l1 s1 _ => hK a1 w1 (rest m1 a1 w1 l1 s1)
      | false =>
        rw [if_neg (by simp)]
        exact hK _ _ (rest m _ _ (M.le_refl m) (xskip_ok hgd e1 s))

/-- where a function is left: its code up to a region, that region's operations up to a call -/
structure Hole where
  fn : Func
  b : Code
  ops : Array Oper
  rest : Code
  o : Oper
  l : List Oper
noncomputable def holeAt (fn : Func) (k j : Nat) : Option Hole := ob fn.body fun b => match behind k b with
  | .seq (.region _ ops false) rest => match ops.toList.drop j with
    | o :: l => match o.guard with
      | none => some ⟨fn, b, ops, rest, o, l⟩
      | some _ => none
    | [] => none
  | _ => none
/-- up to the call -/
noncomputable def xhole (reg : SC → Array Oper → Option (CF → St → Option St)) (P : Program) (ks : List Nat) (lf k j : Nat) (H : Hole) (call : CF) (h : Hp) (args : List V) : Option (St × Nat × List V) :=
  ob (xpre (reg ⟨H.fn.ntmps, ks, []⟩) P ⟨H.fn.ntmps, ks, []⟩ lf k H.b) fun pre => ob (xopsN P H.ops j ⟨H.fn.ntmps, ks, []⟩ H.ops.toList) fun g => ob (cop P (KT j ⟨H.fn.ntmps, ks, []⟩ H.ops.toList) H.o) fun co => match co with
    | .call c => oif (Nat.ble args.length H.fn.ntmps) (ob (trV ks args 0 .nil) fun tr => ob (pre call ⟨⟨[], tr⟩, h, []⟩) fun st => ob (g call st) fun st' => ob (c st'.env st'.hp) fun r => some (st', r.1, r.2))
    | _ => none
theorem xhole_ok {reg : SC → Array Oper → Option (CF → St → Option St)} {ks : List Nat} {lf k j f : Nat} {fn : Func} {H : Hole} {h : Hp} {args : List V} {us : List Value} {q : St × Nat × List V} {m : M} {w : World} {R : Ending → World → Prop}
    (hreg : ∀ K : SC, K.ds = [] → RegOK P K (reg K)) (hc : CallOK P call) (hf : P.funcs[f]? = some fn) (hH : holeAt fn k j = some H) (e : xhole reg P ks lf k j H call h args = some q) (hr : Rel U w0 prot m h w) (hd : denVL U m args = some us)
    (K1 : ∀ m' a' w' vs, m.le m' → SR U w0 prot m' (KT j ⟨fn.ntmps, ks, []⟩ H.ops.toList) q.1 a' w' → denVL U m' q.2.2 = some vs → isFn P q.2.1 ∧ Calls P q.2.1 vs.toArray w' fun
      | .returned v, w'' => wpList P H.ops (Exit.then (H.rest.wp P (bodyPostD P fn R)) (bodyPostD P fn R)) H.l (a'.put H.o.dst v) w''
      | _, _ => False) :
    Calls P f us.toArray w R := by
  unfold holeAt at hH
  obtain ⟨b, hb, hH⟩ := ob_some hH
  split at hH
  · rename_i id ops rest hbe
    split at hH
    · rename_i o l hl
      split at hH
      · rename_i hg
        cases hH
        unfold xhole at e
        simp only [ob_eq] at e
        obtain ⟨pre, e1, g, e2, co, e3, e⟩ := e
        split at e
        · rename_i c
          simp only [ob_eq, oif_eq] at e
          obtain ⟨e4, tr, e5, st, e6, st', e7, r, e8, e⟩ := e
          cases e
          have hs : SR U w0 prot m ⟨fn.ntmps, ks, []⟩ ⟨⟨[], tr⟩, h, []⟩ { tmps := us.toArray ++ Array.replicate (fn.ntmps - us.toArray.size) undef, defers := [] } w := ⟨hr, enter_ok hd e5 e4 [], trivial⟩
          refine calls_of_wp_defers hf hb (xpre_ok (hreg _ rfl) rfl hc e1 e6 hs fun m1 a1 w1 l1 s1 => ?_)
          rw [hbe]
          refine wp_seq (wp_region_list (xopsN_ok hc e2 e7 s1 fun m2 a2 w2 l2 s2 => ?_))
          rw [hl]
          obtain ⟨vs, k1, k2⟩ := cop_ok e3 s2.rel (s2.env.weak fun _ _ => trivial) e8
          obtain ⟨hfn, hcall⟩ := K1 m2 a2 w2 vs (M.le_trans l1 l2) s2 k1
          refine wpList_plain hg fun _ hK => ?_
          unfold Oper.wp
          rw [k2 hfn]
          refine hcall.mono fun e' w' he => ?_
          cases e' with
          | returned v => exact hK _ _ he
          | panicked _ => exact he.elim
          | outgrown => exact he.elim
        · cases e
      · cases hH
    · cases hH
  · cases hH

/-- behind the call -/
noncomputable def xtail (reg : SC → Array Oper → Option (CF → St → Option St)) (P : Program) (ks : List Nat) (lf : Nat) (H : Hole) (call : CF) (env : E) (h : Hp) : Option (V × Hp) :=
  ob (xops P H.ops ((⟨H.fn.ntmps, ks, []⟩ : SC).tell H.o.dst) H.l) fun g => ob (xcode (reg ⟨H.fn.ntmps, ks, []⟩) P ⟨H.fn.ntmps, ks, []⟩ lf H.rest) fun run => ob (rsL P ⟨H.fn.ntmps, ks, []⟩ H.fn.results.toList) fun res =>
    ob (g call ⟨env, h, []⟩) fun st => ob (run call st) fun r => match r.1 with
      | .ex _ => none
      | _ => match r.2.df with
        | [] => ob (res r.2.env r.2.hp) fun xs => some (rsV xs, r.2.hp)
        | _ => none
theorem xtail_ok {reg : SC → Array Oper → Option (CF → St → Option St)} {ks : List Nat} {lf : Nat} {H : Hole} {env : E} {h : Hp} {r : V × Hp} {m : M} {a : Act} {w : World} {R : Ending → World → Prop}
    (hreg : ∀ K : SC, K.ds = [] → RegOK P K (reg K)) (hc : CallOK P call) (e : xtail reg P ks lf H call env h = some r) (hs : SR U w0 prot m ((⟨H.fn.ntmps, ks, []⟩ : SC).tell H.o.dst) ⟨env, h, []⟩ a w)
    (K1 : ∀ m' w' u, m.le m' → Rel U w0 prot m' r.2 w' → r.1.den U m' = some u → R (.returned u) w') :
    wpList P H.ops (Exit.then (H.rest.wp P (bodyPostD P H.fn R)) (bodyPostD P H.fn R)) H.l a w := by
  unfold xtail at e
  simp only [ob_eq] at e
  obtain ⟨g, e1, run, e2, res, e3, st, e4, q, e5, e⟩ := e
  refine xops_ok hc (K0 := ⟨H.fn.ntmps, ks, []⟩) (by cases H.o.dst <;> rfl) e1 e4 hs fun m1 a1 w1 l1 s1 => ?_
  show H.rest.wp P (bodyPostD P H.fn R) a1 w1
  obtain ⟨qe, qs⟩ := q
  have fin : (match qs.df with
        | [] => ob (res qs.env qs.hp) fun xs => some (rsV xs, qs.hp)
        | _ => none) = some r → ∀ m' a' w', m1.le m' → SR U w0 prot m' ⟨H.fn.ntmps, ks, []⟩ qs a' w' → Leaves P H.fn a'.tmps R a'.defers .returning w' := by
    intro e m' a' w' l2 s2
    split at e
    · rename_i hdf
      obtain ⟨xs, e6, e⟩ := ob_some e
      cases e
      exact leaves_ok hc (l := qs.df) (h' := qs.hp) (by rw [hdf]; rfl) s2.rel s2.df fun m3 w3 l3 r3 => by
        obtain ⟨u, k1, k2⟩ := results_ok (P := P) (fn := H.fn) e3 r3 (s2.env.mono l3) e6
        exact ⟨u, k2, K1 m3 w3 u (M.le_trans l1 (M.le_trans l2 l3)) r3 k1⟩
    · cases e
  cases qe with
  | ex id => cases e
  | nx => exact xcode_ok (hreg _ rfl) rfl hc e2 e5 s1 fun m' a' w' l2 s2 => fin e m' a' w' l2 s2
  | rt => exact xcode_ok (hreg _ rfl) rfl hc e2 e5 s1 fun m' a' w' l2 s2 => fin e m' a' w' l2 s2
end
end Go.XM
