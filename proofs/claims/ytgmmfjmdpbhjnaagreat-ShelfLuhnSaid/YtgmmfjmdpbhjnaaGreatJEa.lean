/-
  Texts joined: EvP EvW EvC EvD.
-/
import Derived.Test.YtgmmfjmdpbhjnaaGreatJSa
import Derived.Test.YtgmmfjmdpbhjnaaGreatJSc
import Derived.Test.YtgmmfjmdpbhjnaaGreatJSb
import Derived.Deep.QuietTactic
import Derived.BigQuiet
/-
  What programs mean, plainly: trees of expressions and statements, worked out with no end of ticks and of output. A run that comes to its limit is told apart later.
-/
namespace Go.Proofs.YtgmmfjmdpbhjnaaGreat
open Go.RowKit

/-- an expression; each counts a tick -/
inductive Ex
  | num (n : Nat) | loc (i : Nat) | glob (g : Nat) | elt (g size : Nat) (i : Ex) (a : GTy)
  | cast (x : Ex) (a t : GTy) | un (k : Nat) (x : Ex) (t : GTy) | bin (k : Nat) (x y : Ex) (t u : GTy)
  | either (or : Bool) (x y : Ex) | put (x : Ex) (a : GTy) | get | call (n : Nat) (l : List (Ex × GTy × GTy))

/-- a statement; each counts a tick -/
inductive Sm
  | setz (i : Nat) | setl (i : Nat) (x : Ex) (a t : GTy) | setg (g : Nat) (x : Ex) (a t : GTy)
  | seta (g size : Nat) (i : Ex) (b : GTy) (x : Ex) (a t : GTy)
  | ex (x : Ex) | ret0 | ret (x : Ex) (a t : GTy) | brk | cont
  | ite (x : Ex) (l r : List Sm) | whl (x : Ex) (l : List Sm)
  | for (i : List Sm) (x : Option Ex) (l r : List Sm) | blk (l : List Sm)

/-- what a run works on, but for the numbers of a call -/
structure Ms where
  tk : Nat
  out : List Nat
  rd : Nat
  cl : Nat
  gl : List (List Nat)
/-- a call's numbers and its result -/
structure Fr where
  sl : List Nat
  res : Nat

/-- what comes of an expression; of arguments; of a statement -/
inductive Rx | val (v : Nat) (s : Ms) | trap (k : Nat) (s : Ms)
inductive Ra | val (l : List Nat) (s : Ms) | trap (k : Nat) (s : Ms)
inductive Rs | go (how : Nat) (s : Ms) (f : Fr) | trap (k : Nat) (s : Ms)

def Ms.tick (s : Ms) : Ms := { s with tk := s.tk + 1 }
def Ms.load (s : Ms) (g i : Nat) : Option Nat := s.gl[g]?.bind (·[i]?)
def Ms.store (s : Ms) (g i v : Nat) : Ms := { s with gl := s.gl.modify g (·.set i v) }

def Rx.on (r : Option Rx) (k : Nat → Ms → Option Rx) : Option Rx :=
  match r with | some (.val v s) => k v s | some (.trap n s) => some (.trap n s) | none => none
def Rx.onA (r : Option Rx) (k : Nat → Ms → Option Ra) : Option Ra :=
  match r with | some (.val v s) => k v s | some (.trap n s) => some (.trap n s) | none => none
def Ra.onX (r : Option Ra) (k : List Nat → Ms → Option Rx) : Option Rx :=
  match r with | some (.val v s) => k v s | some (.trap n s) => some (.trap n s) | none => none
def Rx.onS (r : Option Rx) (k : Nat → Ms → Option Rs) : Option Rs :=
  match r with | some (.val v s) => k v s | some (.trap n s) => some (.trap n s) | none => none
def Rs.on (r : Option Rs) (k : Nat → Ms → Fr → Option Rs) : Option Rs :=
  match r with | some (.go h s f) => k h s f | some (.trap n s) => some (.trap n s) | none => none
def Rx.ofO (r : Option Nat) (s : Ms) : Option Rx := match r with | some v => some (.val v s) | none => none
def Rx.conv (r : Option Rx) (a t : GTy) : Option Rx := Rx.on r fun v s => some (.val (convN v a t) s)
def Rx.place (r : Option Rx) (size : Nat) : Option Rx := Rx.on r fun v s => if v < size then some (.val v s) else some (.trap 2 s)

/-- round and round, so many times at most -/
def lpW (rc : Ms → List Nat → Option Rx) (rb : Ms → Fr → Option Rs) : Nat → Ms → Fr → Option Rs
  | 0, _, _ => none
  | m + 1, s, f => Rx.onS (rc s.tick f.sl) fun v s => if v = 0 then some (.go 0 s f) else
      Rs.on (rb s f) fun h s f => if h = 2 then some (.go 0 s f) else if h = 1 then some (.go 1 s f) else lpW rc rb m s f
/-- the same with a step behind each round -/
def lpS (rc : Ms → List Nat → Option Rx) (rb rs : Ms → Fr → Option Rs) : Nat → Ms → Fr → Option Rs
  | 0, _, _ => none
  | m + 1, s, f => Rx.onS (rc s.tick f.sl) fun v s => if v = 0 then some (.go 0 s f) else
      Rs.on (rb s f) fun h s f => if h = 2 then some (.go 0 s f) else if h = 1 then some (.go 1 s f) else
        Rs.on (rs s f) fun h s f => if h = 0 then lpS rc rb rs m s f else some (.go h s f)

/-- a row of statements, one behind the other -/
def seqS (runs : List (Ms → Fr → Option Rs)) (s : Ms) (f : Fr) : Option Rs :=
  match runs with
  | [] => some (.go 0 s f)
  | x :: l => Rs.on (x s f) fun h s f => if h = 0 then seqS l s f else some (.go h s f)
/-- a row of arguments -/
def seqA (runs : List (Ms → List Nat → Option Rx)) (r : List Nat) (s : Ms) (f : List Nat) : Option Ra :=
  match runs with
  | [] => some (.val r s)
  | x :: l => Rx.onA (x s f) fun v s => seqA l (r ++ [v]) s f

section
variable (inp : List Nat) (bd : List (List Sm × Nat))
mutual
def ev : Nat → Ex → Ms → List Nat → Option Rx
  | 0, _, _, _ => none
  | n + 1, e, s, f =>
    match e with
    | .num k => some (.val k s.tick)
    | .loc i => Rx.ofO f[i]? s.tick
    | .glob g => Rx.ofO (s.load g 0) s.tick
    | .elt g size i a => Rx.on (Rx.place (Rx.conv (ev n i s.tick f) a uintT) size) fun v s => Rx.ofO (s.load g v) s
    | .cast x a t => Rx.conv (ev n x s.tick f) a t
    | .un k x t => Rx.on (ev n x s.tick f) fun v s => some (.val (unN k v t).1 s)
    | .bin k x y t u => Rx.on (ev n x s.tick f) fun p s => Rx.on (ev n y s f) fun q s =>
        match binN k p q t u with | some r => some (.val r s) | none => some (.trap 1 s)
    | .either or x y => Rx.on (ev n x s.tick f) fun v s =>
        if decide (v = 0) = or then Rx.on (ev n y s f) fun v s => some (.val (truthN (decide (v ≠ 0))) s) else some (.val (truthN (decide (v ≠ 0))) s)
    | .put x a => Rx.on (Rx.conv (ev n x s.tick f) a intT) fun v s => some (.val 0 { s with out := s.out ++ [v % 256] })
    | .get => if s.rd = inp.length then some (.val 65535 s.tick) else Rx.ofO inp[s.rd]? { s.tick with rd := s.rd + 1 }
    | .call k l => Ra.onX (seqA (l.map fun x s f => Rx.conv (ev n x.1 s f) x.2.1 x.2.2) [] s.tick f) fun l s => evF n k l s
def evF : Nat → Nat → List Nat → Ms → Option Rx
  | 0, _, _, _ => none
  | n + 1, k, l, s =>
    match bd[k]? with
    | none => none
    | some (b, z) =>
      if s.cl = 60 then some (.trap 3 s)
      else match seqS (b.map (exS n)) { s with cl := s.cl + 1 } ⟨(l ++ List.replicate z 0).take z, 0⟩ with
      | some (.go _ s2 f) => if s2.cl = s.cl + 1 then some (.val f.res { s2 with cl := s.cl }) else none
      | some (.trap k s) => some (.trap k s)
      | none => none
def exS : Nat → Sm → Ms → Fr → Option Rs
  | 0, _, _, _ => none
  | n + 1, x, s, f =>
    match x with
    | .setz i => if i < f.sl.length then some (.go 0 s.tick { f with sl := f.sl.set i 0 }) else none
    | .setl i x a t => Rx.onS (Rx.conv (ev n x s.tick f.sl) a t) fun v s => if i < f.sl.length then some (.go 0 s { f with sl := f.sl.set i v }) else none
    | .setg g x a t => Rx.onS (Rx.conv (ev n x s.tick f.sl) a t) fun v s => some (.go 0 (s.store g 0 v) f)
    | .seta g size i b x a t => Rx.onS (Rx.place (Rx.conv (ev n i s.tick f.sl) b uintT) size) fun j s =>
        Rx.onS (Rx.conv (ev n x s f.sl) a t) fun v s => some (.go 0 (s.store g j v) f)
    | .ex x => Rx.onS (ev n x s.tick f.sl) fun _ s => some (.go 0 s f)
    | .ret0 => some (.go 1 s.tick f)
    | .ret x a t => Rx.onS (Rx.conv (ev n x s.tick f.sl) a t) fun v s => some (.go 1 s { f with res := v })
    | .brk => some (.go 2 s.tick f)
    | .cont => some (.go 3 s.tick f)
    | .ite x l r => Rx.onS (ev n x s.tick f.sl) fun v s => if v = 0 then seqS (r.map (exS n)) s f else seqS (l.map (exS n)) s f
    | .whl x l => lpW (ev n x) (seqS (l.map (exS n))) n s.tick f
    | .for i x l r => Rs.on (seqS (i.map (exS n)) s.tick f) fun h s f => if h = 0 then lpS (match x with | some x => ev n x | none => fun s _ => some (.val 1 s)) (seqS (l.map (exS n))) (seqS (r.map (exS n))) n s f else some (.go h s f)
    | .blk l => seqS (l.map (exS n)) s.tick f
end
end

end Go.Proofs.YtgmmfjmdpbhjnaaGreat

/-
  A run of a program in the world: where the machine and a call's frame lie; what is kept.
-/
namespace Go.Proofs.YtgmmfjmdpbhjnaaGreat
open Go.RowKit

/-- The blocks of K are as they were; so are the streams. -/
structure Keep (K : Nat → Prop) (w w' : World) : Prop where
  os : w'.os = w.os
  tape : w'.tape = w.tape
  output : w'.output = w.output
  size : w.heap.size ≤ w'.heap.size
  block : ∀ b, K b → w'.heap[b]? = w.heap[b]?

variable {K K' : Nat → Prop} {w w' w'' : World}
theorem Keep.refl (K : Nat → Prop) (w : World) : Keep K w w := ⟨rfl, rfl, rfl, Nat.le_refl _, fun _ _ => rfl⟩
theorem Keep.trans (h : Keep K w w') (k : Keep K w' w'') : Keep K w w'' :=
  ⟨k.os.trans h.os, k.tape.trans h.tape, k.output.trans h.output, Nat.le_trans h.size k.size, fun b hb => (k.block b hb).trans (h.block b hb)⟩
theorem Keep.mono (h : Keep K w w') (hk : ∀ b, K' b → K b) : Keep K' w w' := ⟨h.os, h.tape, h.output, h.size, fun b hb => h.block b (hk b hb)⟩
theorem Keep.drew (h : Keep K w w') : Keep K w w'.drew := ⟨h.os, h.tape, h.output, h.size, h.block⟩
theorem Keep.undrew (h : Keep K w.drew w') : Keep K w w' := ⟨h.os, h.tape, h.output, h.size, h.block⟩
theorem Keep.ofBelow (h : Below w.heap.size w w') (hk : ∀ b, K b → b < w.heap.size) : Keep K w w' := ⟨h.os, h.tape, h.output, h.size, fun b hb => h.block b (hk b hb)⟩
theorem Keep.setCell (h : Keep K w w') {p : Addr} (hp : ¬ K p.block) (u : Value) : Keep K w (w'.setCell p u) :=
  h.trans ⟨rfl, rfl, rfl, by simp [World.setCell], fun b hb => Below.heap_setCell _ _ _ _ (fun e => hp (e ▸ hb))⟩
theorem Keep.lt (h : Keep K w w') {b : Nat} {o : Obj} (hb : K b) (e : w.heap[b]? = some o) : w'.heap[b]? = some o := (h.block b hb).trans e

/-- Where the machine lies: its block, the limit, what does not turn, the blocks of the globals' rows and the rows' lengths. -/
structure Adr where
  mb : Nat
  lim : Nat
  inp : Value
  gs : Value
  bods : Value
  frs : Value
  gb : List Nat
  ns : List Nat

def mCells (A : Adr) (how trap : Int) (ov : Value) (rd tk cl : Int) : Array Value :=
  #[.int .i64 how, .int .i64 trap, ov, .int .i64 rd, .int .i64 tk, .int .u64 0, .int .i64 A.lim, A.inp, A.gs, .int .i64 cl, A.bods, A.frs]
def u64s (l : List Nat) : Array Value := (l.map fun (v : Nat) => Value.int .u64 v).toArray
def bytes (l : List Nat) : List Value := l.map fun (v : Nat) => Value.int .u8 v

/-- The machine goes on. -/
structure MachAt (A : Adr) (K : Nat → Prop) (w : World) (s : Ms) : Prop where
  out : ∃ ov, w.heap[A.mb]? = some (.cells (mCells A 0 0 ov s.rd s.tk s.cl) 95) ∧ w.ownsRow 0 5 1 ov s.out.length (bytes s.out) ∧
    ∀ k, ov.ownBlock = some k → ¬ K k ∧ k ≠ A.mb ∧ k ∉ A.gb
  mb : ¬ K A.mb ∧ A.mb ∉ A.gb
  nd : A.gb.Nodup
  len : A.gb.length = s.gl.length ∧ A.ns = s.gl.map List.length
  gl : ∀ (i b : Nat) (l : List Nat), A.gb[i]? = some b → s.gl[i]? = some l → ¬ K b ∧ w.heap[b]? = some (.cells (u64s l) 26) ∧ ∀ v ∈ l, U64 v
  tk : s.tk ≤ A.lim
  lim : A.lim ≤ 200000
  much : s.out.length ≤ 65536
  rd : s.rd ≤ 65536
  cl : s.cl ≤ 60
  ks : ∀ b, K b → b < w.heap.size

/-- The machine has ended. -/
def EndAt (A : Adr) (w : World) (how : Int) (trap : Int × Nat) : Prop :=
  ∃ sa sc rd tk cl, w.heap[A.mb]? = some (.cells (mCells A how trap.1 (.slice sa trap.2 sc) rd tk cl) 95)

/-- Behind the limit: of ticks, or of what is told. -/
def Over (A : Adr) (s : Ms) : Prop := A.lim < s.tk ∨ 65536 < s.out.length

def Rx.ms : Rx → Ms | .val _ s => s | .trap _ s => s
def Rx.wrong (r : Rx) (trap : Int × Nat) : Prop := match r with | .trap k s => trap.1 = k ∧ trap.2 = s.out.length | .val _ _ => False

def PostX (A : Adr) (K : Nat → Prop) (w : World) (r : Rx) (e : Ending) (w' : World) : Prop :=
  Keep K w w' ∧
  ((∃ v s, r = .val v s ∧ U64 v ∧ e = .returned (.tuple #[.int .u64 v, .bool true]) ∧ MachAt A K w' s) ∨
   (∃ (u : Nat) (how : Int) (trap : Int × Nat), U64 u ∧ e = .returned (.tuple #[.int .u64 u, .bool false]) ∧ EndAt A w' how trap ∧ (∀ b, K b → b < w'.heap.size) ∧ ¬ K A.mb ∧
     ((Over A r.ms ∧ (how = 3 ∨ how = 5)) ∨ (how = 2 ∧ r.wrong trap))))

/-- A call's frame. -/
structure FrAt (fb sb : Nat) (w : World) (f : Fr) : Prop where
  fr : w.heap[fb]? = some (.cells #[.slice (some ⟨sb, 0, none⟩) f.sl.length f.sl.length, .int .u64 f.res] 167)
  sl : w.heap[sb]? = some (.cells (u64s f.sl) 26)
  ne : fb ≠ sb
  u : ∀ v ∈ f.sl, U64 v
  r : U64 f.res
  z : f.sl.length ≤ 1000000

def ptrV (b : Nat) : Value := .pointer (some ⟨b, 0, none⟩)

theorem ownsRow_eq {base : Nat} {e : TypeId} {size : Nat} {v : Value} {n : Nat} {xs : List Value} (h : w.ownsRow base e size v n xs)
    (hb : ∀ k, v.ownBlock = some k → w'.heap[k]? = w.heap[k]?) : w'.ownsRow base e size v n xs := by
  refine ⟨h.1, ?_⟩
  rcases h.2 with h | ⟨g, cap, cur, rfl, h1, h2, h3⟩
  · exact .inl h
  · exact .inr ⟨g, cap, cur, rfl, h1, (hb g rfl).trans h2, h3⟩

theorem ownsRow_lt {base : Nat} {e : TypeId} {size : Nat} {v : Value} {n : Nat} {xs : List Value} (h : w.ownsRow base e size v n xs) {k : Nat} (hk : v.ownBlock = some k) : k < w.heap.size := by
  rcases h.2 with h | ⟨g, cap, cur, rfl, h1, h2, h3⟩
  · rw [h.1] at hk; cases hk
  · cases hk; exact blk_lt h2

theorem MachAt.below {A : Adr} {s : Ms} (h : MachAt A K w s) (hb : Below w.heap.size w w') : MachAt A K w' s := by
  obtain ⟨ov, h1, h2, h3⟩ := h.out
  refine ⟨⟨ov, (hb.block _ (blk_lt h1)).trans h1, ownsRow_eq h2 fun k hk => hb.block k (ownsRow_lt h2 hk), h3⟩, h.mb, h.nd, h.len, fun i b l e e' => ?_, h.tk, h.lim, h.much, h.rd, h.cl,
    fun b hk => Nat.lt_of_lt_of_le (h.ks b hk) hb.size⟩
  obtain ⟨k1, k2, k3⟩ := h.gl i b l e e'
  exact ⟨k1, (hb.block _ (blk_lt k2)).trans k2, k3⟩
theorem MachAt.drewN {A : Adr} {s : Ms} (h : MachAt A K w s) (n : Nat) : MachAt A K (w.drewN n) s := h.below ⟨rfl, rfl, rfl, Nat.le_refl _, fun _ _ => rfl⟩
theorem Keep.drewN (h : Keep K w w') (n : Nat) : Keep K w (w'.drewN n) := ⟨h.os, h.tape, h.output, h.size, h.block⟩

theorem MachAt.set {A : Adr} {s s' : Ms} (h : MachAt A K w s) (j : Nat) (v : Value)
    (hc : ∀ ov, (mCells A 0 0 ov s.rd s.tk s.cl).setIfInBounds j v = mCells A 0 0 ov s'.rd s'.tk s'.cl)
    (ho : s'.out = s.out) (hg : s'.gl = s.gl) (ht : s'.tk ≤ A.lim) (hr : s'.rd ≤ 65536) (hl : s'.cl ≤ 60) : MachAt A K (w.setCell ⟨A.mb, j, none⟩ v) s' := by
  obtain ⟨ov, h1, h2, h3⟩ := h.out
  refine ⟨⟨ov, ?_, ?_, h3⟩, h.mb, h.nd, by rw [hg]; exact h.len, fun i b l e e' => ?_, ht, h.lim, by rw [ho]; exact h.much, hr, hl, fun b hk => ?_⟩
  · rw [blk_set h1, hc]
  · rw [ho]; exact ownsRow_eq h2 fun k hk => Below.heap_setCell _ _ _ _ (h3 k hk).2.1
  · rw [hg] at e'
    obtain ⟨k1, k2, k3⟩ := h.gl i b l e e'
    refine ⟨k1, blk_other k2 _ _ ?_, k3⟩
    rintro rfl
    exact h.mb.2 (List.mem_of_getElem? e)
  · simpa [World.setCell] using h.ks b hk

theorem own_slice {w : World} {base : Nat} {e : TypeId} {size : Nat} {v : Value} {n : Nat} {xs : List Value} (h : w.ownsRow base e size v n xs) : ∃ a k c, v = .slice a k c := by
  rcases h.2 with ⟨h, h'⟩ | ⟨g, cap, cur, h, _⟩
  · exact ⟨none, 0, 0, h⟩
  · exact ⟨_, _, _, h⟩
theorem own_len {w : World} {base : Nat} {e : TypeId} {size : Nat} {v : Value} {n : Nat} {xs : List Value} (h : w.ownsRow base e size v n xs) : ∃ a c, v = .slice a n c := by
  rcases h.2 with ⟨h, h'⟩ | ⟨g, cap, cur, h, _⟩
  · exact ⟨none, 0, by rw [h, h']⟩
  · exact ⟨_, _, h⟩
theorem EndAt.set {A : Adr} {s : Ms} (h : MachAt A K w s) (j : Nat) (v : Value) (how trap : Int)
    (hc : ∀ ov, ∃ rd tk cl, (mCells A 0 0 ov s.rd s.tk s.cl).setIfInBounds j v = mCells A how trap ov rd tk cl) : EndAt A (w.setCell ⟨A.mb, j, none⟩ v) how (trap, s.out.length) := by
  obtain ⟨ov, h1, h2, h3⟩ := h.out
  obtain ⟨rd, tk, cl, e⟩ := hc ov
  obtain ⟨a, c, rfl⟩ := own_len h2
  exact ⟨a, c, rd, tk, cl, by rw [blk_set h1, e]⟩

/-- The machine counts. -/
theorem tick_ok (A : Adr) (s : Ms) (h : MachAt A K w s) :
    Calls Tryz.prog 121 #[ptrV A.mb] w fun e w' => Keep K w w' ∧
      ((s.tk < A.lim ∧ e = .returned (.bool true) ∧ MachAt A K w' s.tick) ∨ (A.lim ≤ s.tk ∧ e = .returned (.bool false) ∧ EndAt A w' 3 (0, s.out.length) ∧ ∀ b, K b → b < w'.heap.size)) := by
  obtain ⟨ov, h1, h2, h3⟩ := h.out
  have H := Lib.hid h
  have c4 : w.cell? ⟨A.mb, 4, none⟩ = some (.int .i64 s.tk) := blk_cell h1 4
  have c6 : w.cell? ⟨A.mb, 6, none⟩ = some (.int .i64 A.lim) := blk_cell h1 6
  have hl := h.lim
  have htk := h.tk
  by_cases ht : s.tk = A.lim
  · have HT := Lib.hid ht
    have hq : ((s.tk : Int) == (A.lim : Int)) = true := t_eq (by omega)
    have c0 : w.cell? ⟨A.mb, 0, none⟩ = some (.int .i64 0) := blk_cell h1 0
    have f0 : w.frozen? ⟨A.mb, 0, none⟩ = false := blk_frozen h1 0
    clear h h1 h2 h3 ht hl htk
    unfold ptrV
    go_enter Tryz.func121, Tryz.ntmps121
    go_wp2_with fail
    go_quiet (fail)
    go_wp2_with fail
    refine bodyPost_ret (v := .bool false) (by simp [results, Tryz.results121, go_sem]) rfl ⟨((Keep.refl K w).drewN _).setCell H.out.mb.1 _, .inr ⟨?_, rfl, EndAt.set (H.out.drewN _) _ _ _ _ fun ov => ⟨s.rd, s.tk, s.cl, rfl⟩, ?_⟩⟩
    · have := HT.out; omega
    · intro b hb; simpa [World.setCell] using H.out.ks b hb
  · have hq : ((s.tk : Int) == (A.lim : Int)) = false := t_ne (by omega)
    have HL := Lib.hid (show s.tk < A.lim by omega)
    have f4 : w.frozen? ⟨A.mb, 4, none⟩ = false := blk_frozen h1 4
    clear h h1 h2 h3 ht 
    unfold ptrV
    go_enter Tryz.func121, Tryz.ntmps121
    go_wp2_with fail
    go_quiet (fail)
    go_wp2_with fail
    refine bodyPost_ret (v := .bool true) (by simp [results, Tryz.results121, go_sem]) rfl ⟨((Keep.refl K w).drewN _).setCell H.out.mb.1 _, .inl ⟨HL.out, rfl, (H.out.drewN _).set (s' := s.tick) _ _ (fun ov => ?_) rfl rfl HL.out H.out.rd H.out.cl⟩⟩
    simp [mCells, Ms.tick]

end Go.Proofs.YtgmmfjmdpbhjnaaGreat

/-
  The closures of eval: what each does, of what those do that it has captured.
-/
namespace Go.Proofs.YtgmmfjmdpbhjnaaGreat
open Go.RowKit

/-- A cell of a block that does not turn. -/
def Zc (Z : Nat → Option Obj) (b o : Nat) (v : Value) : Prop := ∃ cur t fz, Z b = some (.cells cur t fz) ∧ cur[o]? = some v
/-- The blocks that do not turn. -/
def Has (Z : Nat → Option Obj) (K : Nat → Prop) (w : World) : Prop := ∀ b o, Z b = some o → K b ∧ w.heap[b]? = some o
def fnV (g : Nat) (c : Array Value) : Value := .func (.func g) #[] c

variable {Z : Nat → Option Obj} {K K' : Nat → Prop} {w w' : World}
theorem Has.cell (h : Has Z K w) {b o : Nat} {v : Value} (hz : Zc Z b o v) : w.cell? ⟨b, o, none⟩ = some v := by
  obtain ⟨cur, t, fz, e, e'⟩ := hz
  have := (h _ _ e).2
  simp [World.cell?, this, e']
theorem Has.keep (h : Has Z K w) (k : Keep K w w') : Has Z K w' := fun b o e => ⟨(h b o e).1, (k.block b (h b o e).1).trans (h b o e).2⟩
theorem Has.mono (h : Has Z K w) (hk : ∀ b, K b → K' b) : Has Z K' w := fun b o e => ⟨hk _ (h b o e).1, (h b o e).2⟩
theorem FrAt.keep {fb sb : Nat} {f : Fr} (h : FrAt fb sb w f) (k : Keep K w w') (h1 : K fb) (h2 : K sb) : FrAt fb sb w' f :=
  ⟨(k.block _ h1).trans h.fr, (k.block _ h2).trans h.sl, h.ne, h.u, h.r, h.z⟩

/-- a function of the program, with a text -/
def isFn (P : Program) (f : Nat) : Prop := ∃ fn, P.funcs[f]? = some fn ∧ (fn.name == "runtime.NumGoroutine") = false ∧ fn.body.isNone = false
theorem run_enter {P : Program} {f : Nat} {args cap : Array Value} (hf : isFn P f) (w : World) : (invoke (.fn (.func f) cap) args).run P w = .ok (.enter f (args ++ cap)) w := by
  obtain ⟨fn, h1, h2, h3⟩ := hf
  have h2' : ¬ fn.name = "runtime.NumGoroutine" := by simpa using h2
  have h3' : ¬ fn.body = none := fun e => by rw [e] at h3; cases h3
  simp [invoke, callFunc, h1, h2', h3']

/-- A function value is called. -/
theorem wpList_dyn {P : Program} {ops : Array Oper} {rest : List Oper} {o : Oper} {a : Act} {Q : Exit → Act → World → Prop} {x : Operand} {xs : Array Operand} {ts : Array TypeId} {g : Nat} {c : Array Value}
    (hgd : o.guard = none) (ho : o.op = .call { callee := .value x, args := xs, argTypes := ts }) (hx : a.eval x = fnV g c) (hf : isFn P g)
    (hK : Calls P g (xs.map a.eval ++ c) w fun
      | .returned v, w'' => wpList P ops Q rest (a.put o.dst v) w''
      | .panicked chain, w'' => Q (.panic chain) a w''
      | .outgrown, _ => LetsOut Q) : wpList P ops Q (o :: rest) a w := by
  have e : (execOp a.eval o).run P w = .ok (.enter g (xs.map a.eval ++ c)) w := by
    have := run_enter (args := xs.map a.eval) (cap := c) hf w
    simp [execOp, ho, resolve, hx, fnV, Deferred.ofValue, this]
  refine wpList_of_wp (by simp [Region.wanted, hgd]) ?_
  unfold Oper.wp
  rw [e]
  exact hK

/-- Stands still where a function value is called. -/
theorem dyn_at {P : Program} {ops : Array Oper} {rest : List Oper} {a : Act} {w : World} {Q : Exit → Act → World → Prop} {t : Nat} {xs : Array Operand} {ts : Array TypeId} {d : Option Tmp} {ty : TypeId} {pos : String} {after : Array Edge} {g : Option (Nat × Bool)}
    (h : wpList P ops Q (⟨d, .call ⟨.value (.tmp t), xs, ts⟩, ty, pos, after, g⟩ :: rest) a w) : wpList P ops Q (⟨d, .call ⟨.value (.tmp t), xs, ts⟩, ty, pos, after, g⟩ :: rest) a w := h

/-- What an expression's closure does. -/
def BehX (A : Adr) (Z : Nat → Option Obj) (g : Nat) (c : Array Value) (run : Ms → List Nat → Option Rx) : Prop :=
  ∀ (K : Nat → Prop) (w : World) (s : Ms) (f : Fr) (fb sb : Nat) (r : Rx), Has Z K w → MachAt A K w s → FrAt fb sb w f → K fb → K sb → run s f.sl = some r →
    Calls Tryz.prog g (#[ptrV A.mb, ptrV fb] ++ c) w (PostX A K w r)

theorem PostX.ret {A : Adr} {r : Rx} {e : Ending} (h : PostX A K w r e w') : ∃ (v : Nat) (b : Bool), e = .returned (.tuple #[.int .u64 v, .bool b]) ∧ U64 v := by
  rcases h with ⟨_, ⟨v, s, _, hv, rfl, _⟩ | ⟨u, how, trap, hu, rfl, _⟩⟩
  · exact ⟨v, true, rfl, hv⟩
  · exact ⟨u, false, rfl, hu⟩
theorem PostX.after {A : Adr} {r : Rx} {e : Ending} {w0 : World} (h : PostX A K w r e w') (k : Keep K w0 w) : PostX A K w0 r e w' := ⟨k.trans h.1, h.2⟩

def Ms.le (s t : Ms) : Prop := s.tk ≤ t.tk ∧ s.out.length ≤ t.out.length
theorem Over.le {A : Adr} {s t : Ms} (h : Over A s) (k : Ms.le s t) : Over A t := by
  unfold Over Ms.le at *; omega
theorem EndAt.below {A : Adr} {how : Int} {trap : Int × Nat} (h : EndAt A w how trap) (hb : Below w.heap.size w w') : EndAt A w' how trap := by
  obtain ⟨sa, sc, rd, tk, cl, e⟩ := h
  exact ⟨sa, sc, rd, tk, cl, (hb.block _ (blk_lt e)).trans e⟩
theorem Keep.below (h : Keep K w w') (hk : ∀ b, K b → b < w'.heap.size) {w2 : World} (hb : Below w'.heap.size w' w2) : Keep K w w2 := h.trans (Keep.ofBelow hb hk)

/-- The first of two expressions: it goes on, or all is at its end. -/
theorem PostX.on {A : Adr} {r0 r : Rx} {e : Ending} {k : Nat → Ms → Option Rx} {w1 : World} (h : PostX A K w r0 e w1) (hr : Rx.on (some r0) k = some r)
    (hk : ∀ v s r, k v s = some r → Ms.le s r.ms) :
    (∃ v s, U64 v ∧ e = .returned (.tuple #[.int .u64 (v : Nat), .bool true]) ∧ Keep K w w1 ∧ MachAt A K w1 s ∧ k v s = some r) ∨
    (∃ u, U64 u ∧ e = .returned (.tuple #[.int .u64 (u : Nat), .bool false]) ∧
      ∀ z w2, U64 z → Below w1.heap.size w1 w2 → PostX A K w r (.returned (.tuple #[.int .u64 (z : Nat), .bool false])) w2) := by
  obtain ⟨hkp, h⟩ := h
  rcases h with ⟨v, s, rfl, hv, rfl, hm⟩ | ⟨u, how, trap, hu, rfl, he, hlt, hmb, hov⟩
  · exact .inl ⟨v, s, hv, rfl, hkp, hm, hr⟩
  · refine .inr ⟨u, hu, rfl, fun z w2 hz hb => ⟨hkp.below hlt hb, .inr ⟨z, how, trap, hz, rfl, he.below hb, fun b hb' => Nat.lt_of_lt_of_le (hlt b hb') hb.size, hmb, ?_⟩⟩⟩
    cases r0 with
    | trap k' s' => cases hr; exact hov
    | val v s' =>
      rcases hov with ⟨ho, hh⟩ | ⟨_, hw⟩
      · exact .inl ⟨ho.le (hk v s' r hr), hh⟩
      · exact hw.elim

/-- A number that came of it, turned. -/
def Rx.map (F : Nat → Nat) : Rx → Rx | .val v s => .val (F v) s | .trap k s => .trap k s
theorem Rx.map_ms (F : Nat → Nat) (r : Rx) : (r.map F).ms = r.ms := by cases r <;> rfl
theorem Rx.conv_map (r : Rx) (a t : GTy) : Rx.conv (some r) a t = some (r.map fun v => convN v a t) := by cases r <;> rfl
theorem PostX.map {A : Adr} {r : Rx} {v : Nat} {b : Bool} {w1 w2 : World} (h : PostX A K w r (.returned (.tuple #[.int .u64 v, .bool b])) w1) (F : Nat → Nat) (hF : ∀ v, U64 (F v))
    (hb : Below w1.heap.size w1 w2) : PostX A K w (r.map F) (.returned (.tuple #[.int .u64 (F v : Nat), .bool b])) w2 := by
  obtain ⟨hkp, h⟩ := h
  rcases h with ⟨v', s, rfl, hv, e, hm⟩ | ⟨u, how, trap, hu, e, he, hlt, hmb, hov⟩
  · simp at e
    obtain ⟨e1, rfl⟩ := e
    have e1 : v = v' := by omega
    subst e1
    exact ⟨hkp.below hm.ks hb, .inl ⟨F v, s, rfl, hF v, rfl, hm.below hb⟩⟩
  · simp at e
    obtain ⟨e1, rfl⟩ := e
    refine ⟨hkp.below hlt hb, .inr ⟨F v, how, trap, hF v, rfl, he.below hb, fun b hb' => Nat.lt_of_lt_of_le (hlt b hb') hb.size, hmb, ?_⟩⟩
    rw [Rx.map_ms]
    rcases hov with h | ⟨h1, h2⟩
    · exact .inl h
    · refine .inr ⟨h1, ?_⟩
      cases r with
      | val _ _ => exact h2.elim
      | trap _ _ => exact h2

def TyAt (Z : Nat → Option Obj) (b : Nat) (t : GTy) : Prop := Zc Z b 0 (.int .i64 t.bits) ∧ Zc Z b 1 (.bool t.sgn)

theorem conv_u64 (v : Nat) {a t : GTy} (ht : okT t) : U64 (convN v a t) := by
  unfold convN U64
  unfold okT okW at ht
  have h := Nat.mod_lt (if a.sgn then ((sgnN v a.bits) % 18446744073709551616).toNat else v % 2 ^ a.bits) (show 0 < 2 ^ t.bits by exact Nat.two_pow_pos _)
  have : 2 ^ t.bits ≤ 2 ^ 64 := Nat.pow_le_pow_right (by decide) (by omega)
  omega

variable {A : Adr}
theorem num_beh {x p o n : Nat} (h1 : Zc Z x 0 (.pointer (some ⟨p, o, none⟩))) (h2 : Zc Z p (o + 1) (.int .u64 n)) (hn : U64 n) :
    BehX A Z 207 #[ptrV x] (fun s _ => some (.val n s)) := by
  intro K w s f fb sb r hz hm hf hkf hks e
  cases e
  have c1 := hz.cell h1
  have c2 := hz.cell h2
  have H := Lib.hid hm
  clear hz hm hf hkf hks h1 h2
  show Calls _ _ #[ptrV A.mb, ptrV fb, ptrV x] _ _
  unfold ptrV
  go_enter Tryz.func207, Tryz.ntmps207
  go_wp2_with fail
  refine bodyPost_ret (v := .tuple #[.int .u64 n, .bool true]) (by simp [results, Tryz.results207, go_sem]) rfl ⟨Keep.refl K w, .inl ⟨n, s, rfl, hn, rfl, H.out⟩⟩

theorem counted_beh {d g : Nat} {c : Array Value} {run : Ms → List Nat → Option Rx} (h1 : Zc Z d 0 (fnV g c)) (hg : isFn Tryz.prog g) (hb : BehX A Z g c run)
    (hgrow : ∀ s f r, run s f = some r → Ms.le s r.ms) :
    BehX A Z 206 #[ptrV d] (fun s f => run s.tick f) := by
  intro K w s f fb sb r hz hm hf hkf hks e
  have T := tick_ok A s hm
  have H1 := Lib.hid h1
  have HZ := Lib.hid hz
  have HM := Lib.hid hm
  have HF := Lib.hid hf
  have HE := Lib.hid e
  have HB := Lib.hid hb
  have HG := Lib.hid hgrow
  have HG0 := Lib.hid hg
  have Hfb := Lib.hid hkf
  have Hsb := Lib.hid hks
  clear hz hm hf hkf hks h1 hb hgrow e hg
  show Calls _ _ #[ptrV A.mb, ptrV fb, ptrV d] _ _
  unfold ptrV at *
  go_enter Tryz.func206, Tryz.ntmps206
  go_wp2_with fail
  refine T.mono ?_
  rintro e w1 ⟨hk, ⟨ht, rfl, hm1⟩ | ⟨ht, rfl, he, hlt⟩⟩
  · have c1 := (HZ.out.keep hk).cell H1.out
    have HK := Lib.hid hk
    have HM1 := Lib.hid hm1
    clear hk hm1 T
    go_wp2_with (with_reducible refine dyn_at ?_; refine wpList_dyn rfl rfl rfl HG0.out ?_)
    refine (HB.out K w1 s.tick f fb sb r (HZ.out.keep HK.out) HM1.out (HF.out.keep HK.out Hfb.out Hsb.out) Hfb.out Hsb.out HE.out).mono ?_
    intro e w2 hp
    obtain ⟨v, b, rfl, hv⟩ := hp.ret
    have HP := Lib.hid (hp.after HK.out)
    clear hp hv c1
    go_wp2_with fail
    refine bodyPost_ret (v := .tuple #[.int .u64 v, .bool b]) (by simp [results, Tryz.results206, go_sem]) rfl HP.out
  · have HHE := Lib.hid he
    have HK := Lib.hid hk
    have HT := Lib.hid ht
    have HL := Lib.hid hlt
    clear he hk T ht hlt
    go_wp2_with fail
    refine bodyPost_ret (v := .tuple #[.int .u64 (0 : Nat), .bool false]) (by simp [results, Tryz.results206, go_sem]) rfl ⟨HK.out, .inr ⟨0, 3, (0, _), by unfold U64; decide, rfl, HHE.out, HL.out, HM.out.mb.1, .inl ⟨.inl ?_, .inl rfl⟩⟩⟩
    have h1 := (HG.out _ _ _ HE.out).1
    have h2 := HT.out
    have h3 : s.tick.tk = s.tk + 1 := rfl
    omega

theorem as_beh {d tb ub g : Nat} {c : Array Value} {a t : GTy} {run : Ms → List Nat → Option Rx} (h1 : Zc Z d 0 (fnV g c)) (h2 : TyAt Z tb a) (h3 : TyAt Z ub t) (ha : okT a) (ht : okT t)
    (hg : isFn Tryz.prog g) (hb : BehX A Z g c run) : BehX A Z 192 #[ptrV d, ptrV tb, ptrV ub] (fun s f => Rx.conv (run s f) a t) := by
  intro K w s f fb sb r hz hm hf hkf hks e
  replace e : Rx.conv (run s f.sl) a t = some r := e
  obtain ⟨r0, e0, e1⟩ : ∃ r0, run s f.sl = some r0 ∧ r = r0.map fun v => convN v a t := by
    cases hq : run s f.sl with
    | none => rw [hq] at e; cases e
    | some r0 => rw [hq, Rx.conv_map] at e; cases e; exact ⟨r0, rfl, rfl⟩
  subst e1
  have C := hb K w s f fb sb r0 hz hm hf hkf hks e0
  have c1 := hz.cell h1
  have HZ := Lib.hid hz
  have H2 := Lib.hid h2
  have H3 := Lib.hid h3
  have HG0 := Lib.hid hg
  have HA := Lib.hid ha
  have HT := Lib.hid ht
  clear hz hm hf hkf hks h1 hb e hg e0 h2 h3 ha ht
  show Calls _ _ #[ptrV A.mb, ptrV fb, ptrV d, ptrV tb, ptrV ub] _ _
  unfold ptrV at *
  go_enter Tryz.func192, Tryz.ntmps192
  go_wp2_with (with_reducible refine dyn_at ?_; refine wpList_dyn rfl rfl rfl HG0.out ?_)
  refine C.mono ?_
  intro e w2 hp
  obtain ⟨v, b, rfl, hv⟩ := hp.ret
  have CV := fun W => conv_ok v a t HA.out HT.out hv W
  have HP := Lib.hid hp
  have hz2 := HZ.out.keep hp.1
  have c2 := hz2.cell H2.out.1
  have c3 := hz2.cell H2.out.2
  have c4 := hz2.cell H3.out.1
  have c5 := hz2.cell H3.out.2
  have HV := Lib.hid hv
  clear hp c1 C hz2 hv
  unfold tyV at CV
  generalize hn : convN v a t = n at CV
  have HN := Lib.hid hn
  clear hn
  go_wp2_with fail
  refine (CV w2).mono ?_
  rintro e w3 ⟨rfl, hb⟩
  have HB := Lib.hid hb
  clear CV hb c2 c3 c4 c5
  go_wp2_with fail
  refine bodyPost_ret (v := .tuple #[.int .u64 n, .bool b]) (by simp [results, Tryz.results192, go_sem]) rfl ?_
  have := HP.out.map (fun v => convN v a t) (fun v => conv_u64 v HT.out) HB.out
  have e := HN.out
  simp only [e] at this
  exact this

end Go.Proofs.YtgmmfjmdpbhjnaaGreat

/-
  The closures of eval: of one expression, of two.
-/
namespace Go.Proofs.YtgmmfjmdpbhjnaaGreat
open Go.RowKit
variable {Z : Nat → Option Obj} {K K' : Nat → Prop} {w w' : World} {A : Adr}

theorem Rx.on_some {r : Option Rx} {k : Nat → Ms → Option Rx} {x : Rx} (h : Rx.on r k = some x) : ∃ r0, r = some r0 ∧ Rx.on (some r0) k = some x := by
  cases r with
  | none => cases h
  | some r0 => exact ⟨r0, rfl, h⟩

/-- growing of what is worked out -/
def Grows (run : Ms → List Nat → Option Rx) : Prop := ∀ s f r, run s f = some r → Ms.le s r.ms

/-- The machine ends by a trap. -/
theorem trap_ok (A : Adr) (s : Ms) (n : Nat) (h : MachAt A K w s) :
    Calls Tryz.prog 82 #[ptrV A.mb, .int .i64 n] w fun e w' => e = .returned (.tuple #[.int .u64 (0 : Nat), .bool false]) ∧ Keep K w w' ∧ EndAt A w' 2 (n, s.out.length) ∧ (∀ b, K b → b < w'.heap.size) := by
  obtain ⟨ov, h1, h2, h3⟩ := h.out
  have H := Lib.hid h
  have c0 : w.cell? ⟨A.mb, 0, none⟩ = some (.int .i64 0) := blk_cell h1 0
  have f0 : w.frozen? ⟨A.mb, 0, none⟩ = false := blk_frozen h1 0
  have c1 : w.cell? ⟨A.mb, 1, none⟩ = some (.int .i64 0) := blk_cell h1 1
  have f1 : w.frozen? ⟨A.mb, 1, none⟩ = false := blk_frozen h1 1
  obtain ⟨sa, sc, rfl⟩ := own_len h2
  have H1 := Lib.hid h1
  clear h h1 h2 h3
  unfold ptrV
  go_enter Tryz.func82, Tryz.ntmps82
  go_wp2_with fail
  refine bodyPost_ret (v := .tuple #[.int .u64 (0 : Nat), .bool false]) (by simp [results, Tryz.results82, go_sem]) rfl ⟨rfl, ((Keep.refl K w).setCell H.out.mb.1 _).setCell H.out.mb.1 _, ?_, ?_⟩
  · refine ⟨sa, sc, s.rd, s.tk, s.cl, ?_⟩
    rw [blk_set (blk_set H1.out 0 _) 1]
    rfl
  · intro b hb; simpa [World.setCell] using H.out.ks b hb

theorem PostX.val {r : Rx} {v : Nat} {s : Ms} {w0 w1 : World} (hr : r = .val v s) (hv : U64 v) (hk : Keep K w0 w) (hm : MachAt A K w s) (hb : Below w.heap.size w w1) :
    PostX A K w0 r (.returned (.tuple #[.int .u64 (v : Nat), .bool true])) w1 := ⟨hk.below hm.ks hb, .inl ⟨v, s, hr, hv, rfl, hm.below hb⟩⟩
theorem PostX.trap {r : Rx} {n : Nat} {s : Ms} {w0 w1 : World} (hr : r = .trap n s) (hk : Keep K w0 w1) (hm : ¬ K A.mb) (he : EndAt A w1 2 (n, s.out.length)) (hl : ∀ b, K b → b < w1.heap.size) :
    PostX A K w0 r (.returned (.tuple #[.int .u64 (0 : Nat), .bool false])) w1 := by
  refine ⟨hk, .inr ⟨0, 2, (n, s.out.length), by unfold U64; decide, rfl, he, hl, hm, .inr ⟨rfl, ?_⟩⟩⟩
  rw [hr]; exact ⟨rfl, rfl⟩
theorem cell_below {w w' : World} (hb : Below w.heap.size w w') {b o : Nat} {v : Value} (h : w.cell? ⟨b, o, none⟩ = some v) : w'.cell? ⟨b, o, none⟩ = some v := by
  rw [hb.cell (p := ⟨b, o, none⟩) (World.block_lt_of_cell? w ⟨b, o, none⟩ h)]; exact h

theorem commT_okT {a b : GTy} (ha : okT a) (hb : okT b) : okT (commT a b) := by
  have h1 := promT_ok ha
  have h2 := promT_ok hb
  unfold commT
  split
  · exact h1
  · split
    · exact h2
    · exact h1
theorem truthN_u64 (b : Bool) : U64 (truthN b) := by cases b <;> (unfold U64; decide)
theorem shrN_u64 (a n w : Nat) (sg : Bool) (hw : okW w) : U64 (shrN a n w sg) := by
  unfold shrN
  split
  · exact okW_lt hw _
  · exact Nat.lt_of_le_of_lt (Nat.div_le_self _ _) (okW_lt hw _)
theorem parts_u64 (a b w : Nat) (sg : Bool) (hw : okW w) : U64 (partsN a b w sg).1 ∧ U64 (partsN a b w sg).2 := by
  unfold partsN
  split
  · exact ⟨okW_lt hw _, okW_lt hw _⟩
  · exact ⟨Nat.lt_of_le_of_lt (Nat.div_le_self _ _) (okW_lt hw _), Nat.lt_of_le_of_lt (Nat.mod_le _ _) (okW_lt hw _)⟩

theorem un_u64 (k a : Nat) (x : GTy) (hx : okT x) : U64 (unN k a x).1 := by
  unfold unN
  have := promT_ok hx
  split
  · exact okW_lt this _
  · split
    · exact okW_lt this _
    · exact truthN_u64 _
theorem bin_u64 (k a b : Nat) (x y : GTy) (r : Nat) (hx : okT x) (hy : okT y) (h : binN k a b x y = some r) : U64 r := by
  have h1 := promT_ok hx
  have h2 := commT_okT hx hy
  have hp : U64 (convN a x (commT x y)) := conv_u64 _ h2
  have hq : U64 (convN b y (commT x y)) := conv_u64 _ h2
  unfold binN at h
  simp only at h
  generalize convN a x (commT x y) = p at *
  generalize convN b y (commT x y) = q at *
  unfold U64 at hp hq ⊢
  split at h
  · cases h; exact okW_lt h1 _
  · split at h
    · cases h; exact shrN_u64 _ _ _ _ h1
    · split at h
      · cases h; exact okW_lt h2 _
      · split at h
        · split at h
          · cases h
          · cases h; exact (parts_u64 _ _ _ _ h2).1
        · split at h
          · split at h
            · cases h
            · cases h; exact (parts_u64 _ _ _ _ h2).2
          · split at h
            · cases h; exact okW_lt h2 _
            · split at h
              · cases h; exact okW_lt h2 _
              · split at h
                · cases h; exact Nat.lt_of_le_of_lt Nat.and_le_left hp
                · split at h
                  · cases h; exact Nat.xor_lt_two_pow (n := 64) hp hq
                  · split at h
                    · cases h; exact Nat.or_lt_two_pow (n := 64) hp hq
                    · cases h; exact truthN_u64 _

theorem bin_beh {d1 d2 xb px o tb ub g1 g2 k : Nat} {c1 c2 : Array Value} {t u : GTy} {run1 run2 : Ms → List Nat → Option Rx} (h1 : Zc Z d1 0 (fnV g1 c1)) (h2 : Zc Z d2 0 (fnV g2 c2))
    (hx : Zc Z xb 0 (.pointer (some ⟨px, o, none⟩))) (hk : Zc Z px o (.int .i64 k))
    (hkk : 9 ≤ k ∧ k ≤ 24) (ht : TyAt Z tb t) (hu : TyAt Z ub u) (ot : okT t) (ou : okT u)
    (hg1 : isFn Tryz.prog g1) (hg2 : isFn Tryz.prog g2) (hb1 : BehX A Z g1 c1 run1) (hb2 : BehX A Z g2 c2 run2) (hgr : Grows run2) :
    BehX A Z 219 #[ptrV d1, ptrV d2, ptrV xb, ptrV tb, ptrV ub] (fun s f => Rx.on (run1 s f) fun p s => Rx.on (run2 s f) fun q s =>
      match binN k p q t u with | some r => some (.val r s) | none => some (.trap 1 s)) := by
  intro K w s f fb sb r hz hm hf hkf hks e
  obtain ⟨r0, e0, e1⟩ := Rx.on_some e
  have C := hb1 K w s f fb sb r0 hz hm hf hkf hks e0
  have z1 := hz.cell h1
  have HZ := Lib.hid hz
  have H := Lib.hid (And.intro h2 (And.intro hx (And.intro hk (And.intro ht hu))))
  have HO := Lib.hid (And.intro hkk (And.intro ot ou))
  have HG1 := Lib.hid hg1
  have HG2 := Lib.hid hg2
  have HE := Lib.hid e1
  have HB := Lib.hid hb2
  have HGR := Lib.hid hgr
  have HF := Lib.hid (And.intro hf (And.intro hkf hks))
  clear hz hm hf hkf hks h1 hb1 hb2 e hg1 hg2 e0 h2 ht hu hx hkk hk e1 ot ou hgr
  show Calls _ _ #[ptrV A.mb, ptrV fb, ptrV d1, ptrV d2, ptrV xb, ptrV tb, ptrV ub] _ _
  unfold ptrV at *
  go_enter Tryz.func219, Tryz.ntmps219
  go_wp2_with (with_reducible refine dyn_at ?_; refine wpList_dyn rfl rfl rfl HG1.out ?_)
  refine C.mono ?_
  intro e w2 hp
  have hon := hp.on HE.out (by
    intro v s r h
    obtain ⟨r1, h1, h2⟩ := Rx.on_some h
    have := HGR.out _ _ _ h1
    cases r1 with
    | trap k s' => cases h2; exact this
    | val q s' =>
      simp only [Rx.on] at h2
      split at h2 <;> cases h2 <;> exact this)
  rcases hon with ⟨p, s2, hv, rfl, hkp, hm2, hr⟩ | ⟨u, hu, rfl, hend⟩
  · obtain ⟨r1, e0, e1⟩ := Rx.on_some hr
    have C2 := HB.out K w2 s2 f fb sb r1 (HZ.out.keep hkp) hm2 (HF.out.1.keep hkp HF.out.2.1 HF.out.2.2) HF.out.2.1 HF.out.2.2 e0
    have z2 := (HZ.out.keep hkp).cell H.out.1
    have HE1 := Lib.hid e1
    have HKP := Lib.hid hkp
    have HU := Lib.hid hv
    clear hp hr hkp hm2 hv e0 e1 C z1
    go_wp2_with (with_reducible refine dyn_at ?_; refine wpList_dyn rfl rfl rfl HG2.out ?_)
    refine C2.mono ?_
    intro e w3 hp
    have hon := hp.on HE1.out (by
      intro v s r h
      split at h <;> cases h <;> exact ⟨Nat.le_refl _, Nat.le_refl _⟩)
    rcases hon with ⟨q, s3, hv, rfl, hkp, hm3, hr⟩ | ⟨u, hu, rfl, hend⟩
    · 
      have HM3 := Lib.hid hm3
      have HK3 := Lib.hid (HKP.out.trans hkp)
      have HR := Lib.hid hr
      have HUQ := Lib.hid hv
      have hz3 := HZ.out.keep HK3.out
      have CV := fun W => bin_ok k p q t u HO.out.1 HO.out.2.1 HO.out.2.2 HU.out HUQ.out W
      have hS0 : (w3.drew.cell? ⟨xb, 0, none⟩ = some (.pointer (some ⟨px, o, none⟩)) ∧ w3.drew.cell? ⟨px, o, none⟩ = some (.int .i64 k) ∧ w3.drew.cell? ⟨tb, 0, none⟩ = some (.int .i64 t.bits) ∧
          w3.drew.cell? ⟨tb, 1, none⟩ = some (.bool t.sgn) ∧ w3.drew.cell? ⟨ub, 0, none⟩ = some (.int .i64 u.bits) ∧ w3.drew.cell? ⟨ub, 1, none⟩ = some (.bool u.sgn)) :=
        ⟨hz3.cell H.out.2.1, hz3.cell H.out.2.2.1, hz3.cell H.out.2.2.2.1.1, hz3.cell H.out.2.2.2.1.2, hz3.cell H.out.2.2.2.2.1, hz3.cell H.out.2.2.2.2.2⟩
      clear hz3 hp hkp hm3 hr hv C2 z2
      unfold tyV at CV
      cases hbn : binN k p q t u with
      | some n =>
        rw [hbn] at CV
        simp only [binV] at CV
        have HBN := Lib.hid hbn
        clear hbn
        go_wp2_with fail
        refine wp_region_G (D := []) (S := fun w' => w'.cell? ⟨xb, 0, none⟩ = some (.pointer (some ⟨px, o, none⟩)) ∧ w'.cell? ⟨px, o, none⟩ = some (.int .i64 k) ∧ w'.cell? ⟨tb, 0, none⟩ = some (.int .i64 t.bits) ∧
          w'.cell? ⟨tb, 1, none⟩ = some (.bool t.sgn) ∧ w'.cell? ⟨ub, 0, none⟩ = some (.int .i64 u.bits) ∧ w'.cell? ⟨ub, 1, none⟩ = some (.bool u.sgn)) Tryz.checked.mixed hS0 (fun hS => ?_)
        refine wpAnyG_read (i := 0) (v := ?vb0) rfl (by kernel_rfl) (by kernel_rfl) (by kernel_rfl) (by kernel_rfl) (by kernel_rfl) ?qb0 ?gb0 ?yb0 hS ?_  -- load 144 t4
        case yb0 => intro w' h; obtain ⟨s1, s2, s3, s4, s5, s6⟩ := h; go_simp; exact rfl
        case gb0 => rfl
        case qb0 => exact fun _ _ _ h => h
        go_simp
        refine wpAnyG_read (i := 1) (v := ?vb1) rfl (by kernel_rfl) (by kernel_rfl) (by kernel_rfl) (by kernel_rfl) (by kernel_rfl) ?qb1 ?gb1 ?yb1 hS ?_  -- nilCheck t35
        case yb1 => intro w' h; obtain ⟨s1, s2, s3, s4, s5, s6⟩ := h; go_simp; exact rfl
        case gb1 => rfl
        case qb1 => exact fun _ _ _ h => h
        go_simp
        refine wpAnyG_read (i := 2) (v := ?vb2) rfl (by kernel_rfl) (by kernel_rfl) (by kernel_rfl) (by kernel_rfl) (by kernel_rfl) ?qb2 ?gb2 ?yb2 hS ?_  -- fieldAddr 97 t36 0
        case yb2 => intro w' h; obtain ⟨s1, s2, s3, s4, s5, s6⟩ := h; go_simp; exact rfl
        case gb2 => rfl
        case qb2 => exact fun _ _ _ h => h
        go_simp
        refine wpAnyG_read (i := 3) (v := ?vb3) rfl (by kernel_rfl) (by kernel_rfl) (by kernel_rfl) (by kernel_rfl) (by kernel_rfl) ?qb3 ?gb3 ?yb3 hS ?_  -- load 3 t37
        case yb3 => intro w' h; obtain ⟨s1, s2, s3, s4, s5, s6⟩ := h; go_simp; exact rfl
        case gb3 => rfl
        case qb3 => exact fun _ _ _ h => h
        go_simp
        refine wpAnyG_read (i := 4) (v := ?vb4) rfl (by kernel_rfl) (by kernel_rfl) (by kernel_rfl) (by kernel_rfl) (by kernel_rfl) ?qb4 ?gb4 ?yb4 hS ?_  -- move t11
        case yb4 => intro w' h; obtain ⟨s1, s2, s3, s4, s5, s6⟩ := h; go_simp; exact rfl
        case gb4 => rfl
        case qb4 => exact fun _ _ _ h => h
        go_simp
        refine wpAnyG_read (i := 5) (v := ?vb5) rfl (by kernel_rfl) (by kernel_rfl) (by kernel_rfl) (by kernel_rfl) (by kernel_rfl) ?qb5 ?gb5 ?yb5 hS ?_  -- move t13
        case yb5 => intro w' h; obtain ⟨s1, s2, s3, s4, s5, s6⟩ := h; go_simp; exact rfl
        case gb5 => rfl
        case qb5 => exact fun _ _ _ h => h
        go_simp
        refine wpAnyG_read (i := 6) (v := ?vb6) rfl (by kernel_rfl) (by kernel_rfl) (by kernel_rfl) (by kernel_rfl) (by kernel_rfl) ?qb6 ?gb6 ?yb6 hS ?_  -- load 57 t5
        case yb6 => intro w' h; obtain ⟨s1, s2, s3, s4, s5, s6⟩ := h; go_simp; exact rfl
        case gb6 => rfl
        case qb6 => exact fun _ _ _ h => h
        go_simp
        refine wpAnyG_read (i := 7) (v := ?vb7) rfl (by kernel_rfl) (by kernel_rfl) (by kernel_rfl) (by kernel_rfl) (by kernel_rfl) ?qb7 ?gb7 ?yb7 hS ?_  -- load 57 t6
        case yb7 => intro w' h; obtain ⟨s1, s2, s3, s4, s5, s6⟩ := h; go_simp; exact rfl
        case gb7 => rfl
        case qb7 => exact fun _ _ _ h => h
        go_simp
        refine wpAnyG_one (i := 8) (by kernel_rfl) rfl rfl (fun K hK => ?_)
        go_wp2_with fail
        refine (CV _).mono ?_
        rintro e w4 ⟨rfl, hbel⟩
        clear CV
        obtain ⟨s1, s2, s3, s4, s5, s6⟩ := hS
        have hS := (⟨cell_below hbel s1, cell_below hbel s2, cell_below hbel s3, cell_below hbel s4, cell_below hbel s5, cell_below hbel s6⟩ : _ ∧ _ ∧ _ ∧ _ ∧ _ ∧ _)
        have HB4 := Lib.hid hbel
        clear hbel s1 s2 s3 s4 s5 s6
        refine hK _ _ (fun _ => hS) ?_
        clear hK
        go_simp
        refine wpAnyG_read (i := 9) (v := ?vb9) rfl (by kernel_rfl) (by kernel_rfl) (by kernel_rfl) (by kernel_rfl) (by kernel_rfl) ?qb9 ?gb9 ?yb9 hS ?_  -- move t43
        case yb9 => intro w' h; obtain ⟨s1, s2, s3, s4, s5, s6⟩ := h; go_simp; exact rfl
        case gb9 => rfl
        case qb9 => exact fun _ _ _ h => h
        go_simp
        refine wpAnyG_read (i := 10) (v := ?vb10) rfl (by kernel_rfl) (by kernel_rfl) (by kernel_rfl) (by kernel_rfl) (by kernel_rfl) ?qb10 ?gb10 ?yb10 hS ?_  -- extract t34 0
        case yb10 => intro w' h; obtain ⟨s1, s2, s3, s4, s5, s6⟩ := h; go_simp; exact rfl
        case gb10 => rfl
        case qb10 => exact fun _ _ _ h => h
        go_simp
        refine wpAnyG_read (i := 11) (v := ?vb11) rfl (by kernel_rfl) (by kernel_rfl) (by kernel_rfl) (by kernel_rfl) (by kernel_rfl) ?qb11 ?gb11 ?yb11 hS ?_  -- extract t34 1
        case yb11 => intro w' h; obtain ⟨s1, s2, s3, s4, s5, s6⟩ := h; go_simp; exact rfl
        case gb11 => rfl
        case qb11 => exact fun _ _ _ h => h
        go_simp
        refine wpAnyG_one (i := 12) (by kernel_rfl) rfl rfl (fun K hK => ?_)
        -- LOUD assign t44
        go_wp2_with fail
        refine hK _ _ (fun _ => hS) ?_
        clear hK
        go_simp
        refine wpAnyG_one (i := 13) (by kernel_rfl) rfl rfl (fun K hK => ?_)
        -- LOUD assign t45
        go_wp2_with fail
        refine hK _ _ (fun _ => hS) ?_
        clear hK
        go_simp
        refine wpAnyG_done (by kernel_rfl) ?_ _
    
        go_wp2_with fail
        have hr := HR.out
        rw [HBN.out] at hr
        refine bodyPost_ret (v := .tuple #[.int .u64 (n : Nat), .bool true]) (by simp [results, Tryz.results219, go_sem]) rfl
          (PostX.val (s := s3) (by cases hr; rfl) (bin_u64 k p q t u n HO.out.2.1 HO.out.2.2 HBN.out) HK3.out HM3.out ?_)
        exact (Below.refl _ _).drew.trans HB4.out
      | none =>
        rw [hbn] at CV
        simp only [binV] at CV
        have HBN := Lib.hid hbn
        clear hbn
        go_wp2_with fail
        refine wp_region_G (D := []) (S := fun w' => w'.cell? ⟨xb, 0, none⟩ = some (.pointer (some ⟨px, o, none⟩)) ∧ w'.cell? ⟨px, o, none⟩ = some (.int .i64 k) ∧ w'.cell? ⟨tb, 0, none⟩ = some (.int .i64 t.bits) ∧
          w'.cell? ⟨tb, 1, none⟩ = some (.bool t.sgn) ∧ w'.cell? ⟨ub, 0, none⟩ = some (.int .i64 u.bits) ∧ w'.cell? ⟨ub, 1, none⟩ = some (.bool u.sgn)) Tryz.checked.mixed hS0 (fun hS => ?_)
        refine wpAnyG_read (i := 0) (v := ?vc0) rfl (by kernel_rfl) (by kernel_rfl) (by kernel_rfl) (by kernel_rfl) (by kernel_rfl) ?qc0 ?gc0 ?yc0 hS ?_  -- load 144 t4
        case yc0 => intro w' h; obtain ⟨s1, s2, s3, s4, s5, s6⟩ := h; go_simp; exact rfl
        case gc0 => rfl
        case qc0 => exact fun _ _ _ h => h
        go_simp
        refine wpAnyG_read (i := 1) (v := ?vc1) rfl (by kernel_rfl) (by kernel_rfl) (by kernel_rfl) (by kernel_rfl) (by kernel_rfl) ?qc1 ?gc1 ?yc1 hS ?_  -- nilCheck t35
        case yc1 => intro w' h; obtain ⟨s1, s2, s3, s4, s5, s6⟩ := h; go_simp; exact rfl
        case gc1 => rfl
        case qc1 => exact fun _ _ _ h => h
        go_simp
        refine wpAnyG_read (i := 2) (v := ?vc2) rfl (by kernel_rfl) (by kernel_rfl) (by kernel_rfl) (by kernel_rfl) (by kernel_rfl) ?qc2 ?gc2 ?yc2 hS ?_  -- fieldAddr 97 t36 0
        case yc2 => intro w' h; obtain ⟨s1, s2, s3, s4, s5, s6⟩ := h; go_simp; exact rfl
        case gc2 => rfl
        case qc2 => exact fun _ _ _ h => h
        go_simp
        refine wpAnyG_read (i := 3) (v := ?vc3) rfl (by kernel_rfl) (by kernel_rfl) (by kernel_rfl) (by kernel_rfl) (by kernel_rfl) ?qc3 ?gc3 ?yc3 hS ?_  -- load 3 t37
        case yc3 => intro w' h; obtain ⟨s1, s2, s3, s4, s5, s6⟩ := h; go_simp; exact rfl
        case gc3 => rfl
        case qc3 => exact fun _ _ _ h => h
        go_simp
        refine wpAnyG_read (i := 4) (v := ?vc4) rfl (by kernel_rfl) (by kernel_rfl) (by kernel_rfl) (by kernel_rfl) (by kernel_rfl) ?qc4 ?gc4 ?yc4 hS ?_  -- move t11
        case yc4 => intro w' h; obtain ⟨s1, s2, s3, s4, s5, s6⟩ := h; go_simp; exact rfl
        case gc4 => rfl
        case qc4 => exact fun _ _ _ h => h
        go_simp
        refine wpAnyG_read (i := 5) (v := ?vc5) rfl (by kernel_rfl) (by kernel_rfl) (by kernel_rfl) (by kernel_rfl) (by kernel_rfl) ?qc5 ?gc5 ?yc5 hS ?_  -- move t13
        case yc5 => intro w' h; obtain ⟨s1, s2, s3, s4, s5, s6⟩ := h; go_simp; exact rfl
        case gc5 => rfl
        case qc5 => exact fun _ _ _ h => h
        go_simp
        refine wpAnyG_read (i := 6) (v := ?vc6) rfl (by kernel_rfl) (by kernel_rfl) (by kernel_rfl) (by kernel_rfl) (by kernel_rfl) ?qc6 ?gc6 ?yc6 hS ?_  -- load 57 t5
        case yc6 => intro w' h; obtain ⟨s1, s2, s3, s4, s5, s6⟩ := h; go_simp; exact rfl
        case gc6 => rfl
        case qc6 => exact fun _ _ _ h => h
        go_simp
        refine wpAnyG_read (i := 7) (v := ?vc7) rfl (by kernel_rfl) (by kernel_rfl) (by kernel_rfl) (by kernel_rfl) (by kernel_rfl) ?qc7 ?gc7 ?yc7 hS ?_  -- load 57 t6
        case yc7 => intro w' h; obtain ⟨s1, s2, s3, s4, s5, s6⟩ := h; go_simp; exact rfl
        case gc7 => rfl
        case qc7 => exact fun _ _ _ h => h
        go_simp
        refine wpAnyG_one (i := 8) (by kernel_rfl) rfl rfl (fun K hK => ?_)
        go_wp2_with fail
        refine (CV _).mono ?_
        rintro e w4 ⟨rfl, hbel⟩
        clear CV
        obtain ⟨s1, s2, s3, s4, s5, s6⟩ := hS
        have hS := (⟨cell_below hbel s1, cell_below hbel s2, cell_below hbel s3, cell_below hbel s4, cell_below hbel s5, cell_below hbel s6⟩ : _ ∧ _ ∧ _ ∧ _ ∧ _ ∧ _)
        have HB4 := Lib.hid hbel
        clear hbel s1 s2 s3 s4 s5 s6
        refine hK _ _ (fun _ => hS) ?_
        clear hK
        go_simp
        refine wpAnyG_read (i := 9) (v := ?vc9) rfl (by kernel_rfl) (by kernel_rfl) (by kernel_rfl) (by kernel_rfl) (by kernel_rfl) ?qc9 ?gc9 ?yc9 hS ?_  -- move t43
        case yc9 => intro w' h; obtain ⟨s1, s2, s3, s4, s5, s6⟩ := h; go_simp; exact rfl
        case gc9 => rfl
        case qc9 => exact fun _ _ _ h => h
        go_simp
        refine wpAnyG_read (i := 10) (v := ?vc10) rfl (by kernel_rfl) (by kernel_rfl) (by kernel_rfl) (by kernel_rfl) (by kernel_rfl) ?qc10 ?gc10 ?yc10 hS ?_  -- extract t34 0
        case yc10 => intro w' h; obtain ⟨s1, s2, s3, s4, s5, s6⟩ := h; go_simp; exact rfl
        case gc10 => rfl
        case qc10 => exact fun _ _ _ h => h
        go_simp
        refine wpAnyG_read (i := 11) (v := ?vc11) rfl (by kernel_rfl) (by kernel_rfl) (by kernel_rfl) (by kernel_rfl) (by kernel_rfl) ?qc11 ?gc11 ?yc11 hS ?_  -- extract t34 1
        case yc11 => intro w' h; obtain ⟨s1, s2, s3, s4, s5, s6⟩ := h; go_simp; exact rfl
        case gc11 => rfl
        case qc11 => exact fun _ _ _ h => h
        go_simp
        refine wpAnyG_one (i := 12) (by kernel_rfl) rfl rfl (fun K hK => ?_)
        -- LOUD assign t44
        go_wp2_with fail
        refine hK _ _ (fun _ => hS) ?_
        clear hK
        go_simp
        refine wpAnyG_one (i := 13) (by kernel_rfl) rfl rfl (fun K hK => ?_)
        -- LOUD assign t45
        go_wp2_with fail
        refine hK _ _ (fun _ => hS) ?_
        clear hK
        go_simp
        refine wpAnyG_done (by kernel_rfl) ?_ _
    
        have TR := trap_ok A s3 1 (HM3.out.below ((Below.refl _ _).drew.trans HB4.out))
        unfold ptrV at TR
        go_wp2_with fail
        refine TR.mono ?_
        rintro e w5 ⟨rfl, hk5, he5, hl5⟩
        have HE5 := Lib.hid (And.intro hk5 (And.intro he5 hl5))
        clear hk5 he5 hl5 TR
        go_wp2_with fail
        have hr := HR.out
        rw [HBN.out] at hr
        refine bodyPost_ret (v := .tuple #[.int .u64 (0 : Nat), .bool false]) (by simp [results, Tryz.results219, go_sem]) rfl
          (PostX.trap (s := s3) (n := 1) (by cases hr; rfl) ?_ HM3.out.mb.1 HE5.out.2.1 HE5.out.2.2)
        exact (HK3.out.below HM3.out.ks ((Below.refl _ _).drew.trans HB4.out)).trans HE5.out.1
    · have HEND := Lib.hid hend
      clear hp hend C2 z2
      go_wp2_with fail
      refine bodyPost_ret (v := .tuple #[.int .u64 (0 : Nat), .bool false]) (by simp [results, Tryz.results219, go_sem]) rfl ((HEND.out 0 _ (by unfold U64; decide) (Below.refl _ _)).after HKP.out)
  · have HEND := Lib.hid hend
    clear hp hend C z1
    go_wp2_with fail
    refine bodyPost_ret (v := .tuple #[.int .u64 (0 : Nat), .bool false]) (by simp [results, Tryz.results219, go_sem]) rfl (HEND.out 0 _ (by unfold U64; decide) (Below.refl _ _))

end Go.Proofs.YtgmmfjmdpbhjnaaGreat
