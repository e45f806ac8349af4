/-
  Texts joined: ShBase ShWord ShWorQ ShReg ShTyp ShTyq ShBin0.
-/
import Derived.WalkKit
import Derived.WalkSpells
import Derived.WalkLawsBesides
import Derived.Lib.Hide
import Derived.Deep.RegionHeld3
import Derived.Lib.AppendStr
import Derived.Test.YtgmmfjmdpbhjnaaGreatRows
import Derived.Laws.BitsAllLaws
import Derived.RegionTactic
import Derived.Deep.QuietTactic
import Derived.BigQuiet
/-
  Laws of slices that grow, for a walk: a slice that may be appended to is the call's own row, or a full row that is only read (its first append makes a new one).
-/
namespace Go.Proofs.YtgmmfjmdpbhjnaaGreat
open Go.RowKit

/-- The n cells from a on hold E 0, E 1 and so on. -/
def Cells (w : World) (a : Option Addr) (n : Nat) (E : Nat → Value) : Prop :=
  n = 0 ∨ ∃ b off, a = some ⟨b, off, none⟩ ∧ ∀ k, k < n → w.cell? ⟨b, off + k, none⟩ = some (E k)

theorem Cells.at {w : World} {a : Option Addr} {n k : Nat} {E : Nat → Value} (h : Cells w a n E) (hk : k < n) :
    ∃ b off, a = some ⟨b, off, none⟩ ∧ w.cell? ⟨b, off + k, none⟩ = some (E k) := by
  rcases h with h | ⟨b, off, ha, h⟩
  · omega
  · exact ⟨b, off, ha, h k hk⟩

theorem Cells.below {B : Nat} {w w' : World} {a : Option Addr} {n : Nat} {E : Nat → Value} (h : Cells w a n E) (hb : Below B w w')
    (ha : 0 < n → ∀ b o s, a = some ⟨b, o, s⟩ → b < B) : Cells w' a n E := by
  rcases h with h | ⟨b, off, rfl, h⟩
  · exact .inl h
  · exact .inr ⟨b, off, rfl, fun k hk => by rw [hb.cell (p := ⟨b, off + k, none⟩) (ha (by omega) b off none rfl)]; exact h k hk⟩

theorem Cells.lt {w : World} {a : Option Addr} {n : Nat} {E : Nat → Value} (h : Cells w a n E) : 0 < n → ∀ b o s, a = some ⟨b, o, s⟩ → b < w.heap.size := by
  intro hn b o s ha
  rcases h with h | ⟨b', off, rfl, h⟩
  · omega
  · cases ha
    exact World.block_lt_of_cell? w ⟨b, o + 0, none⟩ (h 0 hn)

theorem Cells.grow {w w' : World} {a : Option Addr} {n : Nat} {E : Nat → Value} (h : Cells w a n E) (hb : Below w.heap.size w w') : Cells w' a n E := by
  rcases h with h | ⟨b, off, rfl, h⟩
  · exact .inl h
  · by_cases hn : n = 0
    · exact .inl hn
    · have hlt : b < w.heap.size := World.block_lt_of_cell? w ⟨b, off + 0, none⟩ (h 0 (by omega))
      exact .inr ⟨b, off, rfl, fun k hk => by rw [hb.cell (p := ⟨b, off + k, none⟩) hlt]; exact h k hk⟩

theorem Cells.congr {w : World} {a : Option Addr} {n : Nat} {E F : Nat → Value} (h : Cells w a n E) (he : ∀ k, k < n → E k = F k) : Cells w a n F := by
  rcases h with h | ⟨b, off, rfl, h⟩
  · exact .inl h
  · exact .inr ⟨b, off, rfl, fun k hk => by rw [h k hk, he k hk]⟩

theorem ret_int {k : IntKind} {a b : Int} (h : a = b) : Ending.returned (.int k a) = .returned (.int k b) := by rw [h]
theorem ret_bool {a b : Bool} (h : a = b) : Ending.returned (.bool a) = .returned (.bool b) := by rw [h]
theorem val_u16 {a b : Int} (h : a = b) : Value.int .u16 a = .int .u16 b := by rw [h]
theorem val_int {k : IntKind} {a b : Int} (h : a = b) : Value.int k a = .int k b := by rw [h]
theorem t_ne {c d : Int} (h : ¬ c = d) : (c == d) = false := beq_eq_false_iff_ne.2 h
theorem t_eq {c d : Int} (h : c = d) : (c == d) = true := beq_iff_eq.2 h

/-- A slice to which may be appended: the call's own row; or a full row, of which the cells are known. -/
def App (base : Nat) (e : TypeId) (size : Nat) (w : World) (v : Value) (n : Nat) (xs : List Value) : Prop :=
  w.ownsRow base e size v n xs ∨
  (xs.length = n * size ∧ ∃ g, v = .slice (some ⟨g, 0, none⟩) n n ∧ base ≤ g ∧ g < w.heap.size ∧ ∀ j u, xs[j]? = some u → w.cell? ⟨g, j, none⟩ = some u)

theorem App.lt {base : Nat} {e : TypeId} {size : Nat} {w : World} {v : Value} {n : Nat} {xs : List Value} (h : App base e size w v n xs) :
    ∀ k, v.ownBlock = some k → base ≤ k ∧ k < w.heap.size := by
  rcases h with h | ⟨_, g, rfl, h1, h2, _⟩
  · exact h.lt
  · intro k hk
    simp [Value.ownBlock] at hk
    subst hk
    exact ⟨h1, h2⟩

theorem App.alloc {base : Nat} {e : TypeId} {size : Nat} {w : World} {v : Value} {n : Nat} {xs : List Value} (h : App base e size w v n xs) (o : Obj) :
    App base e size (w.alloc o) v n xs := by
  rcases h with h | ⟨h0, g, rfl, h1, h2, h3⟩
  · exact .inl (h.alloc o)
  · exact .inr ⟨h0, g, rfl, h1, by simp; omega, fun j u hu => by rw [World.cell?_alloc_past _ _ _ h2]; exact h3 j u hu⟩

theorem App.drew {base : Nat} {e : TypeId} {size : Nat} {w : World} {v : Value} {n : Nat} {xs : List Value} (h : App base e size w v n xs) :
    App base e size w.drew v n xs := by
  rcases h with h | ⟨h0, g, rfl, h1, h2, h3⟩
  · exact .inl h
  · exact .inr ⟨h0, g, rfl, h1, h2, h3⟩

theorem App.read {base : Nat} {e : TypeId} {size : Nat} {w : World} {v : Value} {n : Nat} {xs : List Value} (h : App base e size w v n xs) :
    ∃ a cap, v = .slice a n cap ∧ Cells w a (n * size) (fun k => xs.getD k undef) ∧ ∀ b o s, a = some ⟨b, o, s⟩ → base ≤ b := by
  rcases h with ⟨h0, ⟨rfl, rfl⟩ | ⟨g, cap, cur, rfl, hb, hg, hn, _, hs, ht⟩⟩ | ⟨h0, g, rfl, h1, h2, h3⟩
  · exact ⟨none, 0, rfl, .inl (by simp), fun _ _ _ h => by cases h⟩
  · refine ⟨_, _, rfl, .inr ⟨g, 0, rfl, fun k hk => ?_⟩, fun b o s h => by cases h; exact hb⟩
    have hk' : k < xs.length := by rw [h0]; exact hk
    have := World.ownsRow.cells (w := w) (base := base) (e := e) (size := size) (v := .slice (some ⟨g, 0, none⟩) n cap) (n := n) (xs := xs) ⟨h0, .inr ⟨g, cap, cur, rfl, hb, hg, hn, by assumption, hs, ht⟩⟩ (g := g) rfl k _ (List.getElem?_eq_getElem hk')
    rw [Nat.zero_add]
    have hadd : (⟨g, 0, none⟩ : Addr).add k = ⟨g, k, none⟩ := by unfold Addr.add; split <;> simp_all
    rw [hadd] at this
    rw [this]
    simp [List.getD, hk']
  · refine ⟨_, _, rfl, .inr ⟨g, 0, rfl, fun k hk => ?_⟩, fun b o s h => by cases h; exact h1⟩
    have hk' : k < xs.length := by rw [h0]; exact hk
    rw [Nat.zero_add, h3 k _ (List.getElem?_eq_getElem hk')]
    simp [List.getD, hk']

theorem grownBy_weaken {w w' : World} {row : Option Nat} (h : w.grownBy w' none) : w.grownBy w' row :=
  ⟨h.os, h.tape, h.output, h.size, fun k hk _ => h.block k hk (by simp)⟩

theorem App.ofOwns {base : Nat} {e : TypeId} {size : Nat} {w : World} {v : Value} {n : Nat} {xs : List Value} (h : w.ownsRow base e size v n xs) : App base e size w v n xs := .inl h

theorem ownsRow_base {base base' : Nat} {e : TypeId} {size : Nat} {w : World} {v : Value} {n : Nat} {xs : List Value} (h : w.ownsRow base e size v n xs) (hb : base' ≤ base) :
    w.ownsRow base' e size v n xs := by
  refine ⟨h.1, ?_⟩
  rcases h.2 with h | ⟨g, cap, cur, h1, h2, h3⟩
  · exact .inl h
  · exact .inr ⟨g, cap, cur, h1, by omega, h3⟩

theorem App.base {base base' : Nat} {e : TypeId} {size : Nat} {w : World} {v : Value} {n : Nat} {xs : List Value} (h : App base e size w v n xs) (hb : base' ≤ base) :
    App base' e size w v n xs := by
  rcases h with h | ⟨h0, g, rfl, h1, h2, h3⟩
  · exact .inl (ownsRow_base h hb)
  · exact .inr ⟨h0, g, rfl, by omega, h2, h3⟩

/-- 'append(s, x...)' where s may be appended to and x is a row of which the cells are known. -/
theorem wpList_append_app {P : Program} {w : World} {ops : Array Oper} {rest : List Oper} {o : Oper} {a : Act} {Q : Exit → Act → World → Prop}
    (hgd : o.guard = none) (s x : Operand) (t : TypeId)
    (ho : o.op = .call { callee := .builtin .append, args := #[s, x], argTypes := #[t, t] })
    (base : Nat) (e : TypeId) (i : TypeInfo) (z : Value) (size bytes : Nat) (ht : P.underlying t = some (.slice e)) (hi : P.info? e = some i) (hz : i.zero = some z)
    (hsize : i.size = size) (hby : i.bytes = bytes) (hzs : z.cells.size = size) (hsz : 0 < size)
    (v : Value) (n : Nat) (xs : List Value) (hs : a.eval s = v) (hown : App base e size w v n xs)
    (ad : Addr) (m c : Nat) (news : List Value) (hm : 0 < m) (hx : a.eval x = .slice (some ad) m c) (hl : news.length = m * size) (hnews : ∀ j u, news[j]? = some u → w.cell? (ad.add j) = some u) (h1 : ∀ u ∈ news, u.oneCell' = true)
    (h63 : n + m ≤ maxLen) (hbytes : (n + m) * bytes ≤ 140737488355328) (hbase : base ≤ w.heap.size)
    (h : ∀ v' w', w'.ownsRow base e size v' (n + m) (xs ++ news) → w.grownBy w' v.ownBlock → wpList P ops Q rest (a.put o.dst v') w') : wpList P ops Q (o :: rest) a w := by
  rcases hown with hown | ⟨h0, g, rfl, hg1, hg2, hg3⟩
  · exact wpList_append_own w hgd s x t ho base e i z size bytes ht hi hz hsize hby hzs hsz v n xs hs hown ad m c news hx hl hnews h1 h63 hbytes hbase
      fun v' w' h2 h3 _ => h v' w' h2 h3
  · refine wpList_append_grows w hgd s x t ho e i z size bytes ht hi hz hsize hby hzs hsz (some ⟨g, 0, none⟩) n n xs hs (by simp) h0 ?_ ad m c news hx hl hnews h1 (by omega) h63 hbytes
      fun v' w' h2 h3 => h v' w' (ownsRow_base h2 hbase) (grownBy_weaken h3)
    intro b hb j u hu
    cases hb
    have hadd : (⟨g, 0, none⟩ : Addr).add j = ⟨g, j, none⟩ := by unfold Addr.add; split <;> simp_all
    rw [hadd]
    exact hg3 j u hu

section
variable {P : Program} {ops : Array Oper} {Q : Exit → Act → World → Prop} {md : Region.Mode} {S : World → Prop}

/-- Only one operation may come up next. -/
theorem wpAnyH_one {i : Nat} {o : Oper} {fuel : Nat} {listed : Array Bool} {a : Act} {w : World} (hr : Region.ready md ops listed = [i]) (ho : ops[i]? = some o) (hg : o.guard = none)
    (h : ∀ K : Act → World → Prop, (∀ a' w', S w' → (S w' → wpAnyH P md ops Q S fuel (listed.setIfInBounds i true) a' w') → K a' w') → o.wp P a w K Q) :
    wpAnyH P md ops Q S (fuel + 1) listed a w := by
  refine wpAnyH_all hr (by simp) fun j hj => ?_
  obtain rfl : j = i := by simpa using hj
  unfold Go.wpOp
  simp only [ho]
  rw [if_pos (by simp [Region.wanted, hg])]
  exact .inl (h _ fun a' w' hS hW => ⟨hS, hW hS⟩)

/-- An operation that only computes, or reads what S tells, is taken first. -/
theorem wpAnyH_read {i : Nat} {oi : Oper} {v : Value} {fuel : Nat} {listed : Array Bool} {a : Act} {w : World} (hi : ops[i]? = some oi)
    (hs : Region.noSelect ops = true) (hf : Region.free md ops listed i = true) (hr : (Region.ready md ops listed).contains i = true)
    (hQ : ∀ c a w, Q (.panic c) (a.put oi.dst v) w → Q (.panic c) a w) (hg : oi.guard = none) (hy : ∀ w, S w → (execOp a.eval oi).run P w = .ok (.value v) w) (hS : S w)
    (h : wpAnyH P md ops Q S fuel (listed.setIfInBounds i true) (a.put oi.dst v) w) : wpAnyH P md ops Q S (fuel + 1) listed a w :=
  wpAnyH_take hi hs hf hr hQ (.inl ⟨by simp [Region.wanted, hg], hy⟩) hS h
end

/-- 'append(b, s...)' of a string, at a single operation. -/
theorem wp_append_own_string {P : Program} {w : World} {o : Oper} {a : Act} {K : Act → World → Prop} {Q : Exit → Act → World → Prop} (sl x : Operand) (t u : TypeId)
    (ho : o.op = .call { callee := .builtin .append, args := #[sl, x], argTypes := #[t, u] })
    (base : Nat) (e : TypeId) (i : TypeInfo) (ht : P.underlying t = some (.slice e)) (hu : P.underlying u = some .string) (hi : P.info? e = some i) (hz : i.zero = some (.int .u8 0))
    (hsize : i.size = 1) (hby : i.bytes = 1)
    (v : Value) (n : Nat) (xs : List Value) (hs : a.eval sl = v) (hown : w.ownsRow base e 1 v n xs) (s : ByteArray) (hx : a.eval x = .string s)
    (h63 : n + s.size ≤ maxLen) (hbytes : n + s.size ≤ 140737488355328) (hbase : base ≤ w.heap.size)
    (h : ∀ v' w', w'.ownsRow base e 1 v' (n + s.size) (xs ++ Lib.strCells s) → w.grownBy w' v.ownBlock → K (a.put o.dst v') w') : o.wp P a w K Q := by
  obtain ⟨v', w', hr, h2, h3, _⟩ := Lib.run_append_own_string (P := P) w base t u o.type e i ht hu hi hz hsize hby v n xs hown s h63 hbytes hbase
  unfold Oper.wp execOp
  simp only [ho, resolve, invoke, builtin, Sem.run_bind, Sem.run_pure, Result.andThen_ok, List.map_toArray, List.map_cons, List.map_nil, hs, hx, hr]
  exact h v' w' h2 h3

section
variable {P : Program} {ops : Array Oper} {Q : Exit → Act → World → Prop} {md : Region.Mode} {S : World → Prop}
/-- Two operations may come up next. -/
theorem wpAnyH_two {i k : Nat} {o p : Oper} {fuel : Nat} {listed : Array Bool} {a : Act} {w : World} (hr : Region.ready md ops listed = [i, k]) (ho : ops[i]? = some o) (hp : ops[k]? = some p) (hg : o.guard = none) (hg2 : p.guard = none)
    (h1 : ∀ K : Act → World → Prop, (∀ a' w', S w' → (S w' → wpAnyH P md ops Q S fuel (listed.setIfInBounds i true) a' w') → K a' w') → o.wp P a w K Q)
    (h2 : ∀ K : Act → World → Prop, (∀ a' w', S w' → (S w' → wpAnyH P md ops Q S fuel (listed.setIfInBounds k true) a' w') → K a' w') → p.wp P a w K Q) :
    wpAnyH P md ops Q S (fuel + 1) listed a w := by
  refine wpAnyH_all hr (by simp) fun j hj => ?_
  unfold Go.wpOp
  rcases List.mem_cons.1 hj with rfl | hj
  · simp only [ho]
    rw [if_pos (by simp [Region.wanted, hg])]
    exact .inl (h1 _ fun a' w' hS hW => ⟨hS, hW hS⟩)
  · obtain rfl : j = k := by simpa using hj
    simp only [hp]
    rw [if_pos (by simp [Region.wanted, hg2])]
    exact .inl (h2 _ fun a' w' hS hW => ⟨hS, hW hS⟩)
end

theorem grownBy_refl (w : World) (row : Option Nat) : w.grownBy w row := ⟨rfl, rfl, rfl, Nat.le_refl _, fun _ _ _ => rfl⟩
theorem grownBy_trans {w w1 w2 : World} {row : Option Nat} (h : w.grownBy w1 row) (h' : w1.grownBy w2 row) : w.grownBy w2 row :=
  ⟨h'.os.trans h.os, h'.tape.trans h.tape, h'.output.trans h.output, Nat.le_trans h.size h'.size, fun k hk hn => (h'.block k (Nat.lt_of_lt_of_le hk h.size) hn).trans (h.block k hk hn)⟩
theorem grownBy_setCell {w w1 : World} {B o : Nat} (h : w.grownBy w1 (some B)) (v : Value) : w.grownBy (w1.setCell ⟨B, o, none⟩ v) (some B) :=
  grownBy_trans h ⟨rfl, rfl, rfl, by simp [World.setCell], fun k _ hn => Below.heap_setCell _ _ _ _ (fun e => hn (by rw [e]))⟩
theorem grownBy_alloc' {w w1 : World} {row : Option Nat} (h : w.grownBy w1 row) (o : Obj) : w.grownBy (w1.alloc o) row := grownBy_trans h (World.grownBy_alloc _ _ _)
theorem grownBy_drew {w w1 : World} {row : Option Nat} (h : w.grownBy w1 row) : w.grownBy w1.drew row := ⟨h.os, h.tape, h.output, h.size, h.block⟩

theorem Cells.kept {w w' : World} {row : Option Nat} {a : Option Addr} {n : Nat} {E : Nat → Value} (h : Cells w a n E) (hg : w.grownBy w' row)
    (ha : 0 < n → ∀ b o s, a = some ⟨b, o, s⟩ → some b ≠ row) : Cells w' a n E := by
  rcases h with h | ⟨b, off, rfl, h⟩
  · exact .inl h
  · exact .inr ⟨b, off, rfl, fun k hk => hg.cell (h k hk) (ha (by omega) b off none rfl)⟩

theorem blk_cell {w : World} {b : Nat} {c : Array Value} {t : TypeId} (h : w.heap[b]? = some (.cells c t (0, 0))) (j : Nat) : w.cell? ⟨b, j, none⟩ = c[j]? := by
  simp [World.cell?, h]
theorem blk_frozen {w : World} {b : Nat} {c : Array Value} {t : TypeId} (h : w.heap[b]? = some (.cells c t (0, 0))) (j : Nat) : w.frozen? ⟨b, j, none⟩ = false := by
  simp [World.frozen?, h]
theorem blk_lt {w : World} {b : Nat} {o : Obj} (h : w.heap[b]? = some o) : b < w.heap.size := (Array.getElem?_eq_some_iff.1 h).1
theorem blk_new (w : World) (o : Obj) : (w.alloc o).heap[w.heap.size]? = some o := heap_alloc_new w o
theorem blk_alloc {w : World} {b : Nat} {o : Obj} (h : w.heap[b]? = some o) (o' : Obj) : (w.alloc o').heap[b]? = some o := by
  rw [Below.heap_alloc w o' b (blk_lt h)]; exact h
theorem blk_grown {w w' : World} {b : Nat} {o : Obj} {row : Option Nat} (h : w.heap[b]? = some o) (hg : w.grownBy w' row) (hr : some b ≠ row) : w'.heap[b]? = some o := by
  rw [hg.block b (blk_lt h) hr]; exact h
theorem blk_set {w : World} {b : Nat} {c : Array Value} {t : TypeId} (h : w.heap[b]? = some (.cells c t (0, 0))) (j : Nat) (v : Value) :
    (w.setCell ⟨b, j, none⟩ v).heap[b]? = some (.cells (c.setIfInBounds j v) t (0, 0)) := by
  simp [World.setCell, Array.getElem?_modify, h]
theorem blk_other {w : World} {b : Nat} {o : Obj} (h : w.heap[b]? = some o) (a : Addr) (v : Value) (hne : b ≠ a.block) : (w.setCell a v).heap[b]? = some o := by
  rw [Below.heap_setCell _ _ _ _ hne]; exact h

theorem Below.grownNone {w w' : World} (h : Below w.heap.size w w') : w.grownBy w' none := ⟨h.os, h.tape, h.output, h.size, fun k hk _ => h.block k hk⟩

theorem ownsRow_grow {w w' : World} {base : Nat} {e : TypeId} {size : Nat} {v : Value} {n : Nat} {xs : List Value} (h : w.ownsRow base e size v n xs) (hb : Below w.heap.size w w') : w'.ownsRow base e size v n xs :=
  h.kept (Below.grownNone hb) (by cases v.ownBlock <;> simp)

theorem own_kind {w : World} {base : Nat} {e : TypeId} {size : Nat} {v : Value} {n : Nat} {xs : List Value} (h : w.ownsRow base e size v n xs) {k : Nat} (hk : v.ownBlock = some k) : ∃ c, w.heap[k]? = some (.cells c e (0, 0)) := by
  rcases h.2 with ⟨rfl, _⟩ | ⟨g', cap, cur, rfl, _, hgg, _⟩
  · simp [Value.ownBlock] at hk
  · simp [Value.ownBlock] at hk
    subst hk
    exact ⟨cur, hgg⟩

theorem own_none {w : World} {base : Nat} {e : TypeId} {size : Nat} {a : Option Addr} {m c n : Nat} {xs : List Value} (h : w.ownsRow base e size (.slice a m c) n xs) : a = none → m = 0 ∧ c = 0 := by
  rintro rfl
  rcases h.2 with ⟨h1, _⟩ | ⟨g', cap, cur, h1, _⟩
  · cases h1; exact ⟨rfl, rfl⟩
  · cases h1

theorem wpList_of_wp {P : Program} {w : World} {ops : Array Oper} {rest : List Oper} {o : Oper} {a : Act} {Q : Exit → Act → World → Prop}
    (hw : Region.wanted o (yielded ops a.tmps) = true) (h : o.wp P a w (wpList P ops Q rest) Q) : wpList P ops Q (o :: rest) a w := by
  unfold wpList
  rw [if_pos hw]
  exact .inl h

theorem wp_append_own_none {P : Program} {w : World} {o : Oper} {a : Act} {K : Act → World → Prop} {Q : Exit → Act → World → Prop} (s x : Operand) (t : TypeId)
    (ho : o.op = .call { callee := .builtin .append, args := #[s, x], argTypes := #[t, t] })
    (base : Nat) (e : TypeId) (i : TypeInfo) (size : Nat) (ht : P.underlying t = some (.slice e)) (hi : P.info? e = some i)
    (v : Value) (n : Nat) (xs : List Value) (hs : a.eval s = v) (hown : w.ownsRow base e size v n xs) (hx : a.eval x = .slice none 0 0)
    (h : K (a.put o.dst v) w) : o.wp P a w K Q := by
  have hrun := run_append_owned_none (P := P) (w := w) base t o.type e i size ht hi v n xs hown
  unfold Oper.wp
  simp [execOp, ho, resolve, invoke, builtin, hs, hx, hrun, Result.andThen]
  exact h


theorem addr_add (b o k : Nat) : (⟨b, o, none⟩ : Addr).add k = ⟨b, o + k, none⟩ := by unfold Addr.add; split <;> simp_all
theorem own_kept {w w' : World} {base : Nat} {e : TypeId} {size : Nat} {v : Value} {n : Nat} {xs : List Value} {row : Option Nat} (h : w.ownsRow base e size v n xs) (hg : w.grownBy w' row)
    (hr : ∀ k, v.ownBlock = some k → some k ≠ row) : w'.ownsRow base e size v n xs :=
  World.ownsRow.kept h hg (by
    cases hv : v.ownBlock with
    | none => exact .inl rfl
    | some b => right; exact hr b hv)
theorem owns_form {w : World} {base : Nat} {e : TypeId} {size : Nat} {v : Value} {n : Nat} {xs : List Value} (h : w.ownsRow base e size v n xs) : ∃ a cap, v = .slice a n cap := by
  rcases h.2 with ⟨rfl, rfl⟩ | ⟨g, cap, _, rfl, _⟩
  · exact ⟨none, 0, rfl⟩
  · exact ⟨_, cap, rfl⟩

end Go.Proofs.YtgmmfjmdpbhjnaaGreat

/- contracts of package word -/
namespace Go.Proofs.YtgmmfjmdpbhjnaaGreat
open Go.RowKit

def okW (w : Nat) : Prop := w = 8 ∨ w = 16 ∨ w = 32 ∨ w = 64
/-- what bits mean with a sign -/
def sgnN (x w : Nat) : Int := if 2 * (x % 2 ^ w) < 2 ^ w then ((x % 2 ^ w : Nat) : Int) else ((x % 2 ^ w : Nat) : Int) - (2 ^ w : Nat)
def U64 (x : Nat) : Prop := x < 18446744073709551616
def addN (a b w : Nat) : Nat := (a % 2 ^ w + b % 2 ^ w) % 18446744073709551616 % 2 ^ w
def subN (a b w : Nat) : Nat := (a % 2 ^ w + (18446744073709551616 - b % 2 ^ w)) % 18446744073709551616 % 2 ^ w
def mulN (a b w : Nat) : Nat := (a % 2 ^ w * (b % 2 ^ w)) % 18446744073709551616 % 2 ^ w
def shlN (a n w : Nat) : Nat := (a % 2 ^ w * 2 ^ min n 64) % 18446744073709551616 % 2 ^ w
def shrN (a n w : Nat) (sg : Bool) : Nat := if sg then ((sgnN a w / 2 ^ min n 64) % 18446744073709551616).toNat % 2 ^ w else a % 2 ^ w / 2 ^ min n 64
def negN (x : Nat) : Nat := (18446744073709551616 - x) % 18446744073709551616
/-- a number's size, and whether it has a sign -/
def sizeN (x w : Nat) : Nat × Bool := if x / 2 ^ (w - 1) % 2 = 1 then (negN x % 2 ^ w, true) else (x, false)
def partsN (a b w : Nat) (sg : Bool) : Nat × Nat :=
  if sg then
    let x := sizeN (a % 2 ^ w) w
    let y := sizeN (b % 2 ^ w) w
    ((if x.2 ≠ y.2 then negN (x.1 / y.1) else x.1 / y.1) % 2 ^ w, (if x.2 then negN (x.1 % y.1) else x.1 % y.1) % 2 ^ w)
  else (a % 2 ^ w / (b % 2 ^ w), a % 2 ^ w % (b % 2 ^ w))
def lessN (a b w : Nat) (sg : Bool) : Bool := if sg then decide (sgnN a w < sgnN b w) else decide (a % 2 ^ w < b % 2 ^ w)

theorem rt_ii {k j : IntKind} {a a' b b' : Int} (h : a = a') (h2 : b = b') : Ending.returned (.tuple #[.int k a, .int j b]) = .returned (.tuple #[.int k a', .int j b']) := by rw [h, h2]
theorem rt_bi {j : IntKind} {a a' : Bool} {b b' : Int} (h : a = a') (h2 : b = b') : Ending.returned (.tuple #[.bool a, .int j b]) = .returned (.tuple #[.bool a', .int j b']) := by rw [h, h2]

theorem okW_pow {w : Nat} (hw : okW w) : 2 ^ w ≤ 18446744073709551616 := by rcases hw with rfl | rfl | rfl | rfl <;> decide
theorem okW_lt {w : Nat} (hw : okW w) (x : Nat) : x % 2 ^ w < 18446744073709551616 := by
  have := okW_pow hw
  have h0 : 0 < 2 ^ w := Nat.two_pow_pos w
  have := Nat.mod_lt x h0
  omega
theorem U64.mod {w : Nat} (hw : okW w) (x : Nat) : U64 (x % 2 ^ w) := okW_lt hw x

theorem width_ok (w : Nat) (hw : okW w) (W : World) : Calls Tryz.prog 117 #[.int .i64 w] W fun e W' => e = .returned (.bool true) ∧ W = W' := by
  rcases hw with rfl | rfl | rfl | rfl <;>
  · go_enter Tryz.func117, Tryz.ntmps117
    go_wp2_with fail
    go_ret
    exact ⟨rfl, rfl⟩

theorem mask_ok (w : Nat) (hw : okW w) (W : World) : Calls Tryz.prog 118 #[.int .i64 w] W fun e W' => e = .returned (.int .u64 (2 ^ w - 1 : Nat)) ∧ W = W' := by
  rcases hw with rfl | rfl | rfl | rfl <;>
  · go_enter Tryz.func118, Tryz.ntmps118
    go_wp2_with fail
    go_ret
    exact ⟨rfl, rfl⟩

theorem and_mask (x w : Nat) (hw : okW w) (hx : U64 x) : bits .and .u64 (x : Int) ((2 ^ w - 1 : Nat) : Int) = ((x % 2 ^ w : Nat) : Int) := by
  unfold U64 at hx
  rw [u64_and_nat x _ hx (by rcases hw with rfl | rfl | rfl | rfl <;> decide), Nat.and_two_pow_sub_one_eq_mod]

theorem cut_ok (x w : Nat) (hw : okW w) (hx : U64 x) (W : World) : Calls Tryz.prog 76 #[.int .u64 x, .int .i64 w] W fun e W' => e = .returned (.tuple #[.int .u64 (x % 2 ^ w : Nat), .int .i64 0]) ∧ W = W' := by
  have h1 := and_mask x w hw hx
  have H1 := width_ok w hw W
  have H2 := mask_ok w hw W
  clear hw hx
  generalize 2 ^ w - 1 = m at *
  generalize x % 2 ^ w = y at *
  go_enter Tryz.func76, Tryz.ntmps76
  go_wp2_with fail
  refine H1.mono ?_
  rintro e w' ⟨rfl, rfl⟩
  go_wp2_with fail
  refine H2.mono ?_
  rintro e w' ⟨rfl, rfl⟩
  go_wp2_with fail
  go_ret2
  exact ⟨rfl, rfl⟩

theorem sgn_eq8 (x : Nat) : wrap64 (IntKind.u64.wrap (x * 72057594037927936)) / 72057594037927936 = sgnN x 8 := by
  rw [IntKind.wrap_u64]; unfold wrap64 sgnN; split <;> omega
theorem sgn_eq16 (x : Nat) : wrap64 (IntKind.u64.wrap (x * 281474976710656)) / 281474976710656 = sgnN x 16 := by
  rw [IntKind.wrap_u64]; unfold wrap64 sgnN; split <;> omega
theorem sgn_eq32 (x : Nat) : wrap64 (IntKind.u64.wrap (x * 4294967296)) / 4294967296 = sgnN x 32 := by
  rw [IntKind.wrap_u64]; unfold wrap64 sgnN; split <;> omega
theorem sgn_eq64 (x : Nat) : wrap64 (IntKind.u64.wrap (x : Int)) = sgnN x 64 := by
  rw [IntKind.wrap_u64]; unfold wrap64 sgnN; split <;> omega

theorem signed_ok (x w : Nat) (hw : okW w) (W : World) : Calls Tryz.prog 75 #[.int .u64 x, .int .i64 w] W fun e W' => e = .returned (.tuple #[.int .i64 (sgnN x w), .int .i64 0]) ∧ W = W' := by
  have H1 := width_ok w hw W
  rcases hw with rfl | rfl | rfl | rfl
  · have h := Lib.hid (sgn_eq8 x)
    go_enter Tryz.func75, Tryz.ntmps75
    go_wp2_with fail
    refine H1.mono ?_
    rintro e w' ⟨rfl, rfl⟩
    go_wp2_with fail
    go_ret2
    exact ⟨rt_ii h.out rfl, rfl⟩
  · have h := Lib.hid (sgn_eq16 x)
    go_enter Tryz.func75, Tryz.ntmps75
    go_wp2_with fail
    refine H1.mono ?_
    rintro e w' ⟨rfl, rfl⟩
    go_wp2_with fail
    go_ret2
    exact ⟨rt_ii h.out rfl, rfl⟩
  · have h := Lib.hid (sgn_eq32 x)
    go_enter Tryz.func75, Tryz.ntmps75
    go_wp2_with fail
    refine H1.mono ?_
    rintro e w' ⟨rfl, rfl⟩
    go_wp2_with fail
    go_ret2
    exact ⟨rt_ii h.out rfl, rfl⟩
  · have h := Lib.hid (sgn_eq64 x)
    go_enter Tryz.func75, Tryz.ntmps75
    go_wp2_with fail
    refine H1.mono ?_
    rintro e w' ⟨rfl, rfl⟩
    go_wp2_with fail
    go_ret2
    exact ⟨rt_ii h.out rfl, rfl⟩

theorem add1_ok (a b : Nat) (W : World) : Calls Tryz.prog 149 #[.int .u64 a, .int .u64 b] W fun e W' => e = .returned (.int .u64 ((a + b) % 18446744073709551616 : Nat)) ∧ W = W' := by
  have h : Hid (IntKind.u64.wrap ((a : Int) + b) = (((a + b) % 18446744073709551616 : Nat) : Int)) := by
    show _ = _
    rw [IntKind.wrap_u64]; omega
  go_enter Tryz.func149, Tryz.ntmps149
  go_wp2_with fail
  go_ret
  exact ⟨ret_int h.out, rfl⟩

theorem add_both (a b w : Nat) (hw : okW w) (ha : U64 a) (hb : U64 b) (W : World) :
    Calls Tryz.prog 144 #[.int .u64 a, .int .u64 b, .int .i64 w, .func (.func 149) #[] #[]] W fun e W' => e = .returned (.tuple #[.int .u64 (addN a b w : Nat), .int .i64 0]) ∧ W = W' := by
  have h1 := and_mask a w hw ha
  have h2 := and_mask b w hw hb
  have h3 := and_mask ((a % 2 ^ w + b % 2 ^ w) % 18446744073709551616) w hw (Nat.mod_lt _ (by decide))
  have H1 := width_ok w hw W
  have H2 := mask_ok w hw W
  have H3 := add1_ok (a % 2 ^ w) (b % 2 ^ w) W
  have H := Lib.hid (show addN a b w = ((a % 2 ^ w + b % 2 ^ w) % 18446744073709551616) % 2 ^ w from rfl)
  clear hw ha hb
  generalize ((a % 2 ^ w + b % 2 ^ w) % 18446744073709551616) % 2 ^ w = r at *
  generalize (a % 2 ^ w + b % 2 ^ w) % 18446744073709551616 = q at *
  generalize 2 ^ w - 1 = m at *
  generalize a % 2 ^ w = y at *
  generalize b % 2 ^ w = z at *
  go_enter Tryz.func144, Tryz.ntmps144
  go_wp2_with fail
  refine H1.mono ?_
  rintro e w' ⟨rfl, rfl⟩
  go_wp2_with fail
  refine H2.mono ?_
  rintro e w' ⟨rfl, rfl⟩
  go_wp2_with fail
  refine H2.mono ?_
  rintro e w' ⟨rfl, rfl⟩
  go_wp2_with fail
  refine H3.mono ?_
  rintro e w' ⟨rfl, rfl⟩
  go_wp2_with fail
  refine H2.mono ?_
  rintro e w' ⟨rfl, rfl⟩
  go_wp2_with fail
  go_ret2
  exact ⟨rt_ii (by rw [H.out]) rfl, rfl⟩

theorem add_ok (a b w : Nat) (hw : okW w) (ha : U64 a) (hb : U64 b) (W : World) :
    Calls Tryz.prog 115 #[.int .u64 a, .int .u64 b, .int .i64 w] W fun e W' => e = .returned (.tuple #[.int .u64 (addN a b w : Nat), .int .i64 0]) ∧ W = W' := by
  have H1 := add_both a b w hw ha hb W
  clear hw ha hb
  generalize addN a b w = r at *
  go_enter Tryz.func115, Tryz.ntmps115
  go_wp2_with fail
  refine H1.mono ?_
  rintro e w' ⟨rfl, rfl⟩
  go_wp2_with fail
  go_ret2
  exact ⟨rfl, rfl⟩

theorem sub1_ok (a b : Nat) (hb : U64 b) (W : World) : Calls Tryz.prog 145 #[.int .u64 a, .int .u64 b] W fun e W' => e = .returned (.int .u64 ((a + (18446744073709551616 - b)) % 18446744073709551616 : Nat)) ∧ W = W' := by
  have h : Hid (IntKind.u64.wrap ((a : Int) - b) = (((a + (18446744073709551616 - b)) % 18446744073709551616 : Nat) : Int)) := by
    show _ = _
    unfold U64 at hb
    rw [IntKind.wrap_u64]; omega
  clear hb
  go_enter Tryz.func145, Tryz.ntmps145
  go_wp2_with fail
  go_ret
  exact ⟨ret_int h.out, rfl⟩

theorem sub_both (a b w : Nat) (hw : okW w) (ha : U64 a) (hb : U64 b) (W : World) :
    Calls Tryz.prog 144 #[.int .u64 a, .int .u64 b, .int .i64 w, .func (.func 145) #[] #[]] W fun e W' => e = .returned (.tuple #[.int .u64 (subN a b w : Nat), .int .i64 0]) ∧ W = W' := by
  have h1 := and_mask a w hw ha
  have h2 := and_mask b w hw hb
  have h3 := and_mask ((a % 2 ^ w + (18446744073709551616 - b % 2 ^ w)) % 18446744073709551616) w hw (Nat.mod_lt _ (by decide))
  have H1 := width_ok w hw W
  have H2 := mask_ok w hw W
  have H3 := sub1_ok (a % 2 ^ w) (b % 2 ^ w) (okW_lt hw b) W
  have H := Lib.hid (show subN a b w = ((a % 2 ^ w + (18446744073709551616 - b % 2 ^ w)) % 18446744073709551616) % 2 ^ w from rfl)
  clear hw ha hb
  generalize ((a % 2 ^ w + (18446744073709551616 - b % 2 ^ w)) % 18446744073709551616) % 2 ^ w = r at *
  generalize (a % 2 ^ w + (18446744073709551616 - b % 2 ^ w)) % 18446744073709551616 = q at *
  generalize 2 ^ w - 1 = m at *
  generalize a % 2 ^ w = y at *
  generalize b % 2 ^ w = z at *
  go_enter Tryz.func144, Tryz.ntmps144
  go_wp2_with fail
  refine H1.mono ?_
  rintro e w' ⟨rfl, rfl⟩
  go_wp2_with fail
  refine H2.mono ?_
  rintro e w' ⟨rfl, rfl⟩
  go_wp2_with fail
  refine H2.mono ?_
  rintro e w' ⟨rfl, rfl⟩
  go_wp2_with fail
  refine H3.mono ?_
  rintro e w' ⟨rfl, rfl⟩
  go_wp2_with fail
  refine H2.mono ?_
  rintro e w' ⟨rfl, rfl⟩
  go_wp2_with fail
  go_ret2
  exact ⟨rt_ii (by rw [H.out]) rfl, rfl⟩

theorem sub_ok (a b w : Nat) (hw : okW w) (ha : U64 a) (hb : U64 b) (W : World) :
    Calls Tryz.prog 106 #[.int .u64 a, .int .u64 b, .int .i64 w] W fun e W' => e = .returned (.tuple #[.int .u64 (subN a b w : Nat), .int .i64 0]) ∧ W = W' := by
  have H1 := sub_both a b w hw ha hb W
  clear hw ha hb
  generalize subN a b w = r at *
  go_enter Tryz.func106, Tryz.ntmps106
  go_wp2_with fail
  refine H1.mono ?_
  rintro e w' ⟨rfl, rfl⟩
  go_wp2_with fail
  go_ret2
  exact ⟨rfl, rfl⟩

theorem mul1_ok (a b : Nat) (W : World) : Calls Tryz.prog 147 #[.int .u64 a, .int .u64 b] W fun e W' => e = .returned (.int .u64 ((a * b) % 18446744073709551616 : Nat)) ∧ W = W' := by
  have h : Hid (IntKind.u64.wrap ((a : Int) * b) = (((a * b) % 18446744073709551616 : Nat) : Int)) := by
    show _ = _
    rw [IntKind.wrap_u64, Int.natCast_emod, Int.natCast_mul]; rfl
  go_enter Tryz.func147, Tryz.ntmps147
  go_wp2_with fail
  go_ret
  exact ⟨ret_int h.out, rfl⟩

theorem mul_both (a b w : Nat) (hw : okW w) (ha : U64 a) (hb : U64 b) (W : World) :
    Calls Tryz.prog 144 #[.int .u64 a, .int .u64 b, .int .i64 w, .func (.func 147) #[] #[]] W fun e W' => e = .returned (.tuple #[.int .u64 (mulN a b w : Nat), .int .i64 0]) ∧ W = W' := by
  have h1 := and_mask a w hw ha
  have h2 := and_mask b w hw hb
  have h3 := and_mask ((a % 2 ^ w * (b % 2 ^ w)) % 18446744073709551616) w hw (Nat.mod_lt _ (by decide))
  have H1 := width_ok w hw W
  have H2 := mask_ok w hw W
  have H3 := mul1_ok (a % 2 ^ w) (b % 2 ^ w) W
  have H := Lib.hid (show mulN a b w = ((a % 2 ^ w * (b % 2 ^ w)) % 18446744073709551616) % 2 ^ w from rfl)
  clear hw ha hb
  generalize ((a % 2 ^ w * (b % 2 ^ w)) % 18446744073709551616) % 2 ^ w = r at *
  generalize (a % 2 ^ w * (b % 2 ^ w)) % 18446744073709551616 = q at *
  generalize 2 ^ w - 1 = m at *
  generalize a % 2 ^ w = y at *
  generalize b % 2 ^ w = z at *
  go_enter Tryz.func144, Tryz.ntmps144
  go_wp2_with fail
  refine H1.mono ?_
  rintro e w' ⟨rfl, rfl⟩
  go_wp2_with fail
  refine H2.mono ?_
  rintro e w' ⟨rfl, rfl⟩
  go_wp2_with fail
  refine H2.mono ?_
  rintro e w' ⟨rfl, rfl⟩
  go_wp2_with fail
  refine H3.mono ?_
  rintro e w' ⟨rfl, rfl⟩
  go_wp2_with fail
  refine H2.mono ?_
  rintro e w' ⟨rfl, rfl⟩
  go_wp2_with fail
  go_ret2
  exact ⟨rt_ii (by rw [H.out]) rfl, rfl⟩

theorem mul_ok (a b w : Nat) (hw : okW w) (ha : U64 a) (hb : U64 b) (W : World) :
    Calls Tryz.prog 112 #[.int .u64 a, .int .u64 b, .int .i64 w] W fun e W' => e = .returned (.tuple #[.int .u64 (mulN a b w : Nat), .int .i64 0]) ∧ W = W' := by
  have H1 := mul_both a b w hw ha hb W
  clear hw ha hb
  generalize mulN a b w = r at *
  go_enter Tryz.func112, Tryz.ntmps112
  go_wp2_with fail
  refine H1.mono ?_
  rintro e w' ⟨rfl, rfl⟩
  go_wp2_with fail
  go_ret2
  exact ⟨rfl, rfl⟩

theorem shl1_ok (a c n : Nat) (W : World) (b : Nat) (hc : W.cell? ⟨b, 0, none⟩ = some (.int .u64 n)) :
    Calls Tryz.prog 146 #[.int .u64 a, .int .u64 c, .pointer (some ⟨b, 0, none⟩)] W fun e W' => e = .returned (.int .u64 ((a * 2 ^ min n 64) % 18446744073709551616 : Nat)) ∧ W = W' := by
  have h : Hid (IntKind.u64.wrap ((a : Int) * 2 ^ min n 64) = ((a * 2 ^ min n 64 % 18446744073709551616 : Nat) : Int)) := by
    show _ = _
    rw [IntKind.wrap_u64, Int.natCast_emod, Int.natCast_mul, Int.natCast_pow]
    rfl
  go_enter Tryz.func146, Tryz.ntmps146
  go_wp2_with fail
  go_ret
  exact ⟨ret_int h.out, rfl⟩

theorem shl_both (a n w : Nat) (hw : okW w) (ha : U64 a) (W : World) (b : Nat) (hc : W.cell? ⟨b, 0, none⟩ = some (.int .u64 n)) :
    Calls Tryz.prog 144 #[.int .u64 a, .int .u64 a, .int .i64 w, .func (.func 146) #[] #[.pointer (some ⟨b, 0, none⟩)]] W fun e W' => e = .returned (.tuple #[.int .u64 (shlN a n w : Nat), .int .i64 0]) ∧ W = W' := by
  have h1 := and_mask a w hw ha
  have h3 := and_mask ((a % 2 ^ w * 2 ^ min n 64) % 18446744073709551616) w hw (Nat.mod_lt _ (by decide))
  have H1 := width_ok w hw W
  have H2 := mask_ok w hw W
  have H3 := shl1_ok (a % 2 ^ w) (a % 2 ^ w) n W b hc
  have H := Lib.hid (show shlN a n w = ((a % 2 ^ w * 2 ^ min n 64) % 18446744073709551616) % 2 ^ w from rfl)
  clear hw ha hc
  generalize ((a % 2 ^ w * 2 ^ min n 64) % 18446744073709551616) % 2 ^ w = r at *
  generalize (a % 2 ^ w * 2 ^ min n 64) % 18446744073709551616 = q at *
  generalize 2 ^ w - 1 = m at *
  generalize a % 2 ^ w = y at *
  go_enter Tryz.func144, Tryz.ntmps144
  go_wp2_with fail
  refine H1.mono ?_
  rintro e w' ⟨rfl, rfl⟩
  go_wp2_with fail
  refine H2.mono ?_
  rintro e w' ⟨rfl, rfl⟩
  go_wp2_with fail
  refine H2.mono ?_
  rintro e w' ⟨rfl, rfl⟩
  go_wp2_with fail
  refine H3.mono ?_
  rintro e w' ⟨rfl, rfl⟩
  go_wp2_with fail
  refine H2.mono ?_
  rintro e w' ⟨rfl, rfl⟩
  go_wp2_with fail
  go_ret2
  exact ⟨rt_ii (by rw [H.out]) rfl, rfl⟩

/-- what only makes memory -/
def GrowsTo (v : Value) (w : World) (e : Ending) (w' : World) : Prop := e = .returned v ∧ Below w.heap.size w w'

theorem shl_ok (a n w : Nat) (hw : okW w) (ha : U64 a) (W : World) :
    Calls Tryz.prog 109 #[.int .u64 a, .int .u64 n, .int .i64 w] W (GrowsTo (.tuple #[.int .u64 (shlN a n w : Nat), .int .i64 0]) W) := by
  have H1 := shl_both a n w hw ha (W.alloc (.cells #[.int .u64 n] 26)) W.heap.size (blk_cell (blk_new W _) 0)
  clear hw ha
  generalize shlN a n w = r at *
  go_enter Tryz.func109, Tryz.ntmps109
  go_wp2_with fail
  refine H1.mono ?_
  rintro e w' ⟨rfl, rfl⟩
  go_wp2_with fail
  go_ret2
  exact ⟨rfl, (Below.refl _ _).alloc (Nat.le_refl _) _⟩

theorem shr_ok (a n w : Nat) (sg : Bool) (hw : okW w) (ha : U64 a) (W : World) :
    Calls Tryz.prog 110 #[.int .u64 a, .int .u64 n, .int .i64 w, .bool sg] W fun e W' => e = .returned (.tuple #[.int .u64 (shrN a n w sg : Nat), .int .i64 0]) ∧ W = W' := by
  have h1 := and_mask a w hw ha
  have H1 := signed_ok a w hw W
  have H2 := mask_ok w hw W
  cases sg
  · have H := Lib.hid (show ((shrN a n w false : Nat) : Int) = ((a % 2 ^ w : Nat) : Int) / 2 ^ min n 64 from by unfold shrN; simp)
    clear hw ha
    generalize shrN a n w false = r at *
    generalize 2 ^ w - 1 = m at *
    generalize a % 2 ^ w = y at *
    generalize sgnN a w = s at *
    go_enter Tryz.func110, Tryz.ntmps110
    go_wp2_with fail
    refine H1.mono ?_
    rintro e w' ⟨rfl, rfl⟩
    go_wp2_with fail
    refine H2.mono ?_
    rintro e w' ⟨rfl, rfl⟩
    go_wp2_with fail
    go_ret2
    exact ⟨rt_ii (by rw [H.out]) rfl, rfl⟩
  · have hs : (((sgnN a w / 2 ^ min n 64) % 18446744073709551616).toNat : Int) = (sgnN a w / 2 ^ min n 64) % 18446744073709551616 := Int.toNat_of_nonneg (Int.emod_nonneg _ (by decide))
    have h2 := and_mask (((sgnN a w / 2 ^ min n 64) % 18446744073709551616).toNat) w hw (by unfold U64; have := Int.emod_lt_of_pos (sgnN a w / 2 ^ min n 64) (show (0 : Int) < 18446744073709551616 by decide); omega)
    have H := Lib.hid (show shrN a n w true = ((sgnN a w / 2 ^ min n 64) % 18446744073709551616).toNat % 2 ^ w from rfl)
    generalize ((sgnN a w / 2 ^ min n 64) % 18446744073709551616).toNat % 2 ^ w = r at *
    rw [hs, ← IntKind.wrap_u64] at h2
    clear hw ha h1 hs
    generalize 2 ^ w - 1 = m at *
    generalize sgnN a w = s at *
    have h3 := Lib.hid h2
    clear h2
    go_enter Tryz.func110, Tryz.ntmps110
    go_wp2_with fail
    refine H1.mono ?_
    rintro e w' ⟨rfl, rfl⟩
    go_wp2_with fail
    refine H2.mono ?_
    rintro e w' ⟨rfl, rfl⟩
    go_wp2_with fail
    go_ret2
    exact ⟨rt_ii (by rw [H.out]; exact h3.out) rfl, rfl⟩

theorem less_ok (a b w : Nat) (sg : Bool) (hw : okW w) (ha : U64 a) (hb : U64 b) (W : World) :
    Calls Tryz.prog 150 #[.int .u64 a, .int .u64 b, .int .i64 w, .bool sg] W fun e W' => e = .returned (.tuple #[.bool (lessN a b w sg), .int .i64 0]) ∧ W = W' := by
  have h1 := and_mask a w hw ha
  have h2 := and_mask b w hw hb
  have H1 := signed_ok a w hw W
  have H1' := signed_ok b w hw W
  have H2 := mask_ok w hw W
  cases sg
  · have H := Lib.hid (show lessN a b w false = decide (((a % 2 ^ w : Nat) : Int) < ((b % 2 ^ w : Nat) : Int)) from by unfold lessN; simp only [Bool.false_eq_true, if_false]; exact decide_eq_decide.2 (by omega))
    clear hw ha hb
    generalize lessN a b w false = r at *
    generalize 2 ^ w - 1 = m at *
    generalize a % 2 ^ w = y at *
    generalize b % 2 ^ w = z at *
    generalize sgnN a w = s at *
    generalize sgnN b w = s' at *
    go_enter Tryz.func150, Tryz.ntmps150
    go_wp2_with fail
    refine H1.mono ?_
    rintro e w' ⟨rfl, rfl⟩
    go_wp2_with fail
    refine H1'.mono ?_
    rintro e w' ⟨rfl, rfl⟩
    go_wp2_with fail
    refine H2.mono ?_
    rintro e w' ⟨rfl, rfl⟩
    go_wp2_with fail
    refine H2.mono ?_
    rintro e w' ⟨rfl, rfl⟩
    go_wp2_with fail
    go_ret2
    exact ⟨rt_bi (by rw [H.out]; simp) rfl, rfl⟩
  · have H := Lib.hid (show lessN a b w true = decide (sgnN a w < sgnN b w) from rfl)
    clear hw ha hb
    generalize lessN a b w true = r at *
    generalize sgnN a w = s at *
    generalize sgnN b w = s' at *
    go_enter Tryz.func150, Tryz.ntmps150
    go_wp2_with fail
    refine H1.mono ?_
    rintro e w' ⟨rfl, rfl⟩
    go_wp2_with fail
    refine H1'.mono ?_
    rintro e w' ⟨rfl, rfl⟩
    go_wp2_with fail
    go_ret2
    exact ⟨rt_bi (by rw [H.out]) rfl, rfl⟩
end Go.Proofs.YtgmmfjmdpbhjnaaGreat

/- contracts of package word: quotients and rests -/
namespace Go.Proofs.YtgmmfjmdpbhjnaaGreat
open Go.RowKit

theorem and_one (x : Nat) (hx : U64 x) : bits .and .u64 (x : Int) 1 = ((x % 2 : Nat) : Int) := by
  unfold U64 at hx
  have := u64_and_nat x 1 hx (by decide)
  rw [Nat.and_one_is_mod] at this
  exact this

theorem neg_wrap (x : Nat) (hx : U64 x) : IntKind.u64.wrap (-(x : Int)) = ((negN x : Nat) : Int) := by
  unfold U64 at hx
  rw [IntKind.wrap_u64]; unfold negN; omega
theorem negN_lt (x : Nat) : U64 (negN x) := Nat.mod_lt _ (by decide)

theorem size_ok (x w : Nat) (hw : okW w) (hx : U64 x) (W : World) : Calls Tryz.prog 191 #[.int .u64 x, .int .i64 w] W fun e W' => e = .returned (.tuple #[.int .u64 ((sizeN x w).1 : Nat), .bool (sizeN x w).2]) ∧ W = W' := by
  have H2 := mask_ok w hw W
  have h3 := and_mask (negN x) w hw (negN_lt x)
  have h4 := neg_wrap x hx
  have hs : sizeN x w = if x / 2 ^ (w - 1) % 2 = 1 then (negN x % 2 ^ w, true) else (x, false) := rfl
  have hq : U64 (x / 2 ^ (w - 1)) := Nat.lt_of_le_of_lt (Nat.div_le_self _ _) hx
  have h5 := and_one _ hq
  rw [Int.natCast_ediv] at h5
  by_cases hb : x / 2 ^ (w - 1) % 2 = 1
  · rw [if_pos hb] at hs
    rw [hb] at h5
    have Hs := Lib.hid hs
    clear hs hb hq hx
    generalize sizeN x w = r at *
    rcases hw with rfl | rfl | rfl | rfl
    · have h6 : bits .and .u64 ((x : Int) / 128) 1 = 1 := h5
      clear h5
      have h7 := h3
      clear h3
      generalize negN x % 2 ^ 8 = y at *
      generalize negN x = z at *
      have H2' : Calls Tryz.prog 118 #[.int .i64 8] W fun e W' => e = .returned (.int .u64 (2 ^ 8 - 1 : Nat)) ∧ W = W' := H2
      clear H2
      generalize 2 ^ 8 - 1 = m at *
      go_enter Tryz.func191, Tryz.ntmps191
      go_wp2_with fail
      refine H2'.mono ?_
      rintro e w' ⟨rfl, rfl⟩
      go_wp2_with fail
      go_ret2
      exact ⟨by rw [Hs.out]; rfl, rfl⟩
    · have h6 : bits .and .u64 ((x : Int) / 32768) 1 = 1 := h5
      clear h5
      have h7 := h3
      clear h3
      generalize negN x % 2 ^ 16 = y at *
      generalize negN x = z at *
      have H2' : Calls Tryz.prog 118 #[.int .i64 16] W fun e W' => e = .returned (.int .u64 (2 ^ 16 - 1 : Nat)) ∧ W = W' := H2
      clear H2
      generalize 2 ^ 16 - 1 = m at *
      go_enter Tryz.func191, Tryz.ntmps191
      go_wp2_with fail
      refine H2'.mono ?_
      rintro e w' ⟨rfl, rfl⟩
      go_wp2_with fail
      go_ret2
      exact ⟨by rw [Hs.out]; rfl, rfl⟩
    · have h6 : bits .and .u64 ((x : Int) / 2147483648) 1 = 1 := h5
      clear h5
      have h7 := h3
      clear h3
      generalize negN x % 2 ^ 32 = y at *
      generalize negN x = z at *
      have H2' : Calls Tryz.prog 118 #[.int .i64 32] W fun e W' => e = .returned (.int .u64 (2 ^ 32 - 1 : Nat)) ∧ W = W' := H2
      clear H2
      generalize 2 ^ 32 - 1 = m at *
      go_enter Tryz.func191, Tryz.ntmps191
      go_wp2_with fail
      refine H2'.mono ?_
      rintro e w' ⟨rfl, rfl⟩
      go_wp2_with fail
      go_ret2
      exact ⟨by rw [Hs.out]; rfl, rfl⟩
    · have h6 : bits .and .u64 ((x : Int) / 9223372036854775808) 1 = 1 := h5
      clear h5
      have h7 := h3
      clear h3
      generalize negN x % 2 ^ 64 = y at *
      generalize negN x = z at *
      have H2' : Calls Tryz.prog 118 #[.int .i64 64] W fun e W' => e = .returned (.int .u64 (2 ^ 64 - 1 : Nat)) ∧ W = W' := H2
      clear H2
      generalize 2 ^ 64 - 1 = m at *
      go_enter Tryz.func191, Tryz.ntmps191
      go_wp2_with fail
      refine H2'.mono ?_
      rintro e w' ⟨rfl, rfl⟩
      go_wp2_with fail
      go_ret2
      exact ⟨by rw [Hs.out]; rfl, rfl⟩
  · rw [if_neg hb] at hs
    have h0 : x / 2 ^ (w - 1) % 2 = 0 := by omega
    rw [h0] at h5
    have Hs := Lib.hid hs
    clear hs hb hq hx h3 h4 H2 h0
    generalize sizeN x w = r at *
    rcases hw with rfl | rfl | rfl | rfl
    · have h6 : bits .and .u64 ((x : Int) / 128) 1 = 0 := h5
      clear h5
      go_enter Tryz.func191, Tryz.ntmps191
      go_wp2_with fail
      go_ret2
      exact ⟨by rw [Hs.out]; rfl, rfl⟩
    · have h6 : bits .and .u64 ((x : Int) / 32768) 1 = 0 := h5
      clear h5
      go_enter Tryz.func191, Tryz.ntmps191
      go_wp2_with fail
      go_ret2
      exact ⟨by rw [Hs.out]; rfl, rfl⟩
    · have h6 : bits .and .u64 ((x : Int) / 2147483648) 1 = 0 := h5
      clear h5
      go_enter Tryz.func191, Tryz.ntmps191
      go_wp2_with fail
      go_ret2
      exact ⟨by rw [Hs.out]; rfl, rfl⟩
    · have h6 : bits .and .u64 ((x : Int) / 9223372036854775808) 1 = 0 := h5
      clear h5
      go_enter Tryz.func191, Tryz.ntmps191
      go_wp2_with fail
      go_ret2
      exact ⟨by rw [Hs.out]; rfl, rfl⟩

theorem rt_iib {a a' b b' c c' : Int} (h : a = a') (h2 : b = b') (h3 : c = c') : Ending.returned (.tuple #[.int .u64 a, .int .u64 b, .int .i64 c]) = .returned (.tuple #[.int .u64 a', .int .u64 b', .int .i64 c']) := by rw [h, h2, h3]

def SomeDrew (v : Value) (w : World) (e : Ending) (w' : World) : Prop := e = .returned v ∧ Below w.heap.size w w'

/-- nothing is divided by nought -/
theorem parts_zero (a b w : Nat) (sg : Bool) (hw : okW w) (ha : U64 a) (hb : U64 b) (h0 : b % 2 ^ w = 0) (W : World) :
    Calls Tryz.prog 148 #[.int .u64 a, .int .u64 b, .int .i64 w, .bool sg] W (SomeDrew (.tuple #[.int .u64 0, .int .u64 0, .int .i64 10]) W) := by
  have h1 := and_mask a w hw ha
  have h2 := and_mask b w hw hb
  have H1 := width_ok w hw W
  have H2 := mask_ok w hw W
  rw [h0] at h2
  clear hw ha hb h0
  generalize 2 ^ w - 1 = m at *
  generalize a % 2 ^ w = y at *
  go_enter Tryz.func148, Tryz.ntmps148
  go_wp2_with fail
  refine H1.mono ?_
  rintro e w' ⟨rfl, rfl⟩
  go_wp2_with fail
  refine H2.mono ?_
  rintro e w' ⟨rfl, rfl⟩
  go_wp2_with fail
  refine H2.mono ?_
  rintro e w' ⟨rfl, rfl⟩
  go_wp2_with fail
  go_ret3
  exact ⟨rfl, Below.refl _ _⟩

theorem quo_wrap (y z : Nat) (hy : y < 18446744073709551616) : IntKind.u64.wrap ((y : Int) / (z : Int)) = ((y / z : Nat) : Int) := by
  have : y / z ≤ y := Nat.div_le_self _ _
  rw [← Int.natCast_ediv, IntKind.wrap_u64]
  generalize y / z = q at *
  omega

set_option maxHeartbeats 1000000 in
theorem parts_un (a b w : Nat) (hw : okW w) (ha : U64 a) (hb : U64 b) (h0 : b % 2 ^ w ≠ 0) (W : World) :
    Calls Tryz.prog 148 #[.int .u64 a, .int .u64 b, .int .i64 w, .bool false] W (SomeDrew (.tuple #[.int .u64 ((partsN a b w false).1 : Nat), .int .u64 ((partsN a b w false).2 : Nat), .int .i64 0]) W) := by
  have h1 := and_mask a w hw ha
  have h2 := and_mask b w hw hb
  have H1 := width_ok w hw W
  have H2 := mask_ok w hw W
  have H := Lib.hid (show partsN a b w false = (a % 2 ^ w / (b % 2 ^ w), a % 2 ^ w % (b % 2 ^ w)) from rfl)
  have H0 := Lib.hid (quo_wrap _ (b % 2 ^ w) (okW_lt hw a))
  clear hw ha hb
  generalize partsN a b w false = r at *
  generalize 2 ^ w - 1 = m at *
  generalize a % 2 ^ w = y at *
  generalize b % 2 ^ w = z at *
  have g0 : ((z : Int) == 0) = false := t_ne (by omega)
  have g1 : ¬ ((z : Int) = 0) := by omega
  go_enter Tryz.func148, Tryz.ntmps148
  go_wp2_with fail
  refine H1.mono ?_
  rintro e w' ⟨rfl, rfl⟩
  go_wp2_with fail
  refine H2.mono ?_
  rintro e w' ⟨rfl, rfl⟩
  go_wp2_with fail
  refine H2.mono ?_
  rintro e w' ⟨rfl, rfl⟩
  go_wp2_with fail
  go_region
  all_goals
    go_wp2_with fail
    go_ret3
    refine ⟨rt_iib ?_ ?_ rfl, (Below.refl _ _).drew⟩
    · rw [H.out]; exact H0.out
    · rw [H.out]; simp
theorem sizeN_lt (x w : Nat) (hw : okW w) (hx : U64 x) : U64 (sizeN x w).1 := by
  unfold sizeN
  split
  · exact okW_lt hw _
  · exact hx

theorem sizeN_pos (x w : Nat) (hw : okW w) (h : x % 2 ^ w ≠ 0) (hx : x < 2 ^ w) : (sizeN x w).1 ≠ 0 := by
  unfold sizeN negN
  split
  · rcases hw with rfl | rfl | rfl | rfl <;> simp only [] at * <;> omega
  · rcases hw with rfl | rfl | rfl | rfl <;> simp only [] at * <;> omega

set_option maxHeartbeats 2000000 in
theorem parts_si (a b w : Nat) (hw : okW w) (ha : U64 a) (hb : U64 b) (h0 : b % 2 ^ w ≠ 0) (W : World) :
    Calls Tryz.prog 148 #[.int .u64 a, .int .u64 b, .int .i64 w, .bool true] W (SomeDrew (.tuple #[.int .u64 ((partsN a b w true).1 : Nat), .int .u64 ((partsN a b w true).2 : Nat), .int .i64 0]) W) := by
  have h1 := and_mask a w hw ha
  have h2 := and_mask b w hw hb
  have H1 := width_ok w hw W
  have H2 := mask_ok w hw W
  have H3 := fun W => mask_ok w hw W
  have HS1 := size_ok (a % 2 ^ w) w hw (okW_lt hw a) W
  have HS2 := size_ok (b % 2 ^ w) w hw (okW_lt hw b) W
  have hx := sizeN_lt (a % 2 ^ w) w hw (okW_lt hw a)
  have hy := sizeN_pos (b % 2 ^ w) w hw (by simpa using h0) (Nat.mod_lt _ (Nat.two_pow_pos w))
  have hyl := sizeN_lt (b % 2 ^ w) w hw (okW_lt hw b)
  have H := Lib.hid (show partsN a b w true = ((if (sizeN (a % 2 ^ w) w).2 ≠ (sizeN (b % 2 ^ w) w).2 then negN ((sizeN (a % 2 ^ w) w).1 / (sizeN (b % 2 ^ w) w).1) else (sizeN (a % 2 ^ w) w).1 / (sizeN (b % 2 ^ w) w).1) % 2 ^ w,
    (if (sizeN (a % 2 ^ w) w).2 then negN ((sizeN (a % 2 ^ w) w).1 % (sizeN (b % 2 ^ w) w).1) else (sizeN (a % 2 ^ w) w).1 % (sizeN (b % 2 ^ w) w).1) % 2 ^ w) from rfl)
  have hA := fun x (hx : U64 x) => and_mask x w hw hx
  clear ha hb
  generalize partsN a b w true = r at *
  generalize sizeN (a % 2 ^ w) w = X at *
  generalize sizeN (b % 2 ^ w) w = Y at *
  have g0 : (((b % 2 ^ w : Nat) : Int) == 0) = false := t_ne (by omega)
  generalize a % 2 ^ w = y at *
  generalize b % 2 ^ w = z at *
  obtain ⟨x1, s1⟩ := X
  obtain ⟨y1, s2⟩ := Y
  simp only at hx hy hyl HS1 HS2 H
  have hq : U64 (x1 / y1) := Nat.lt_of_le_of_lt (Nat.div_le_self _ _) hx
  have hr : U64 (x1 % y1) := Nat.lt_of_le_of_lt (Nat.mod_le _ _) hx
  have Hq := Lib.hid (quo_wrap x1 y1 hx)
  have G := Lib.hid (show (∀ n, U64 n → IntKind.u64.wrap (-(n : Int)) = ((negN n : Nat) : Int)) ∧ ∀ n, U64 n → bits .and .u64 (n : Int) ((2 ^ w - 1 : Nat) : Int) = ((n % 2 ^ w : Nat) : Int) from ⟨neg_wrap, hA⟩)
  have HM := Lib.hid H3
  have Hqr := Lib.hid (And.intro hq hr)
  have g1 : ¬ ((y1 : Int) = 0) := by omega
  clear hw hA H3 hq hr hx hyl h0 hy
  generalize 2 ^ w - 1 = m at *
  go_enter Tryz.func148, Tryz.ntmps148
  go_wp2_with fail
  refine H1.mono ?_
  rintro e w' ⟨rfl, rfl⟩
  go_wp2_with fail
  refine H2.mono ?_
  rintro e w' ⟨rfl, rfl⟩
  go_wp2_with fail
  refine H2.mono ?_
  rintro e w' ⟨rfl, rfl⟩
  go_wp2_with fail
  clear h1 h2 H2
  refine HS1.mono ?_
  rintro e w' ⟨rfl, rfl⟩
  go_wp2_with fail
  refine HS2.mono ?_
  rintro e w' ⟨rfl, rfl⟩
  clear H1 HS1 HS2
  go_wp2_with fail
  cases s1 <;> cases s2
  all_goals
    go_region
    all_goals
      go_wp2_with fail
      refine (HM.out _).mono ?_
      rintro e w' ⟨rfl, rfl⟩
      go_wp2_with fail
      refine (HM.out _).mono ?_
      rintro e w' ⟨rfl, rfl⟩
      go_wp2_with fail
      go_ret3
      refine ⟨rt_iib ?_ ?_ rfl, (Below.refl _ _).drew⟩
      · rw [H.out]
        first
          | (show bits .and .u64 (IntKind.u64.wrap ((x1 : Int) / y1)) m = ((x1 / y1 % 2 ^ w : Nat) : Int); rw [Hq.out]; exact G.out.2 _ Hqr.out.1)
          | (show bits .and .u64 (IntKind.u64.wrap (-(IntKind.u64.wrap ((x1 : Int) / y1)))) m = ((negN (x1 / y1) % 2 ^ w : Nat) : Int); rw [Hq.out, G.out.1 _ Hqr.out.1]; exact G.out.2 _ (negN_lt _))
      · rw [H.out]
        first
          | (show bits .and .u64 ((x1 : Int) % y1) m = ((x1 % y1 % 2 ^ w : Nat) : Int); rw [← Int.natCast_emod]; exact G.out.2 _ Hqr.out.2)
          | (show bits .and .u64 (IntKind.u64.wrap (-((x1 : Int) % y1))) m = ((negN (x1 % y1) % 2 ^ w : Nat) : Int); rw [← Int.natCast_emod, G.out.1 _ Hqr.out.2]; exact G.out.2 _ (negN_lt _))

theorem div_ok (a b w : Nat) (sg : Bool) (hw : okW w) (ha : U64 a) (hb : U64 b) (W : World) :
    Calls Tryz.prog 113 #[.int .u64 a, .int .u64 b, .int .i64 w, .bool sg] W (SomeDrew (if b % 2 ^ w = 0 then .tuple #[.int .u64 0, .int .i64 10] else .tuple #[.int .u64 ((partsN a b w sg).1 : Nat), .int .i64 0]) W) := by
  by_cases h0 : b % 2 ^ w = 0
  · rw [if_pos h0]
    have H := parts_zero a b w sg hw ha hb h0 W
    clear hw ha hb h0
    go_enter Tryz.func113, Tryz.ntmps113
    go_wp2_with fail
    refine H.mono ?_
    rintro e w' ⟨rfl, hb⟩
    go_wp2_with fail
    go_ret2
    exact ⟨rfl, hb⟩
  · rw [if_neg h0]
    have H : Calls Tryz.prog 148 #[.int .u64 a, .int .u64 b, .int .i64 w, .bool sg] W (SomeDrew (.tuple #[.int .u64 ((partsN a b w sg).1 : Nat), .int .u64 ((partsN a b w sg).2 : Nat), .int .i64 0]) W) := by
      cases sg
      · exact parts_un a b w hw ha hb h0 W
      · exact parts_si a b w hw ha hb h0 W
    clear hw ha hb h0
    generalize partsN a b w sg = r at *
    go_enter Tryz.func113, Tryz.ntmps113
    go_wp2_with fail
    refine H.mono ?_
    rintro e w' ⟨rfl, hb⟩
    go_wp2_with fail
    go_ret2
    exact ⟨rfl, hb⟩

theorem rem_ok (a b w : Nat) (sg : Bool) (hw : okW w) (ha : U64 a) (hb : U64 b) (W : World) :
    Calls Tryz.prog 114 #[.int .u64 a, .int .u64 b, .int .i64 w, .bool sg] W (SomeDrew (if b % 2 ^ w = 0 then .tuple #[.int .u64 0, .int .i64 10] else .tuple #[.int .u64 ((partsN a b w sg).2 : Nat), .int .i64 0]) W) := by
  by_cases h0 : b % 2 ^ w = 0
  · rw [if_pos h0]
    have H := parts_zero a b w sg hw ha hb h0 W
    clear hw ha hb h0
    go_enter Tryz.func114, Tryz.ntmps114
    go_wp2_with fail
    refine H.mono ?_
    rintro e w' ⟨rfl, hb⟩
    go_wp2_with fail
    go_ret2
    exact ⟨rfl, hb⟩
  · rw [if_neg h0]
    have H : Calls Tryz.prog 148 #[.int .u64 a, .int .u64 b, .int .i64 w, .bool sg] W (SomeDrew (.tuple #[.int .u64 ((partsN a b w sg).1 : Nat), .int .u64 ((partsN a b w sg).2 : Nat), .int .i64 0]) W) := by
      cases sg
      · exact parts_un a b w hw ha hb h0 W
      · exact parts_si a b w hw ha hb h0 W
    clear hw ha hb h0
    generalize partsN a b w sg = r at *
    go_enter Tryz.func114, Tryz.ntmps114
    go_wp2_with fail
    refine H.mono ?_
    rintro e w' ⟨rfl, hb⟩
    go_wp2_with fail
    go_ret2
    exact ⟨rfl, hb⟩
end Go.Proofs.YtgmmfjmdpbhjnaaGreat

/- A region that draws its order, in which what only reads is taken first, although the last operations write what it reads: they wait for it. -/
namespace Go.Proofs.YtgmmfjmdpbhjnaaGreat
open Go.RowKit

section
variable {P : Program} {ops : Array Oper} {Q : Exit → Act → World → Prop} {md : Region.Mode} {D : List Nat} {S : World → Prop}

/-- Whatever order is picked; behind each operation that is not in D the condition S is to hold. -/
def wpAnyG (P : Program) (md : Region.Mode) (ops : Array Oper) (Q : Exit → Act → World → Prop) (D : List Nat) (S : World → Prop) : Nat → Array Bool → Act → World → Prop
  | 0, l, a, w => Region.ready md ops l = [] ∧ Q .normal a w
  | n + 1, l, a, w => (Region.ready md ops l = [] → Q .normal a w) ∧
      ∀ i ∈ Region.ready md ops l, wpOp P ops Q i (fun a' w' => (D.contains i = false → S w') ∧ wpAnyG P md ops Q D S n (l.setIfInBounds i true) a' w') a w

theorem wpAnyG_any : ∀ (n : Nat) (l : Array Bool) (a : Act) (w : World), wpAnyG P md ops Q D S n l a w → wpAny P md ops Q n l a w
  | 0, _, _, _, h => h
  | n + 1, _, _, _, h => ⟨h.1, fun i hi => wpOp_mono (fun a' w' h' => wpAnyG_any n _ a' w' h'.2) (h.2 i hi)⟩

/-- what is listed waits for nothing that is not -/
def shutL (md : Region.Mode) (ops : Array Oper) (l : Array Bool) : Bool :=
  (List.range ops.size).all fun j => !l.getD j false || ((ops[j]?).map (·.after.all fun e => !Region.binds md e || l.getD e.on false)).getD true

/-- j waits for i, perhaps by others -/
def waitsFor (md : Region.Mode) (ops : Array Oper) (i : Nat) : Nat → Nat → Bool
  | 0, _ => false
  | n + 1, j => ((ops[j]?).map (·.after.any fun e => Region.binds md e && (e.on == i || waitsFor md ops i n e.on))).getD false

theorem shutL_at {l : Array Bool} (h : shutL md ops l = true) {j : Nat} {o : Oper} (ho : ops[j]? = some o) (hl : l.getD j false = true) : ∀ e ∈ o.after, Region.binds md e = true → l.getD e.on false = true := by
  intro e he hb
  have hlt : j < ops.size := (Array.getElem?_eq_some_iff.1 ho).1
  have h1 := List.all_eq_true.1 h j (List.mem_range.2 hlt)
  rw [hl, ho] at h1
  simp only [Bool.not_true, Bool.false_or, Option.map_some, Option.getD_some] at h1
  have h2 := (Array.all_eq_true_iff_forall_mem.1 h1) e he
  simpa [hb] using h2

theorem waits_unlisted {l : Array Bool} (h : shutL md ops l = true) {i : Nat} (hi : l.getD i false = false) : ∀ n j, waitsFor md ops i n j = true → l.getD j false = false
  | 0, _, hw => by cases hw
  | n + 1, j, hw => by
    by_cases hl : l.getD j false = true
    · exfalso
      unfold waitsFor at hw
      cases ho : ops[j]? with
      | none => rw [ho] at hw; cases hw
      | some o =>
        rw [ho] at hw
        simp only [Option.map_some, Option.getD_some] at hw
        obtain ⟨k, hk, hb⟩ := Array.any_eq_true.1 hw
        have he := Array.getElem_mem hk
        generalize o.after[k] = e at he hb
        simp only [Bool.and_eq_true, Bool.or_eq_true, beq_iff_eq] at hb
        have h1 := shutL_at h ho hl e he hb.1
        rcases hb.2 with h2 | h2
        · rw [h2, hi] at h1; cases h1
        · rw [waits_unlisted h hi n _ h2] at h1; cases h1
    · simpa using hl

theorem shutL_ready {l : Array Bool} (h : shutL md ops l = true) {j : Nat} (hj : j ∈ Region.ready md ops l) : shutL md ops (l.setIfInBounds j true) = true := by
  refine List.all_eq_true.2 fun k hk => ?_
  have hk' := List.mem_range.1 hk
  have hset : ∀ m, l.getD m false = true → (l.setIfInBounds j true).getD m false = true := fun m hm => getD_set_true hm
  by_cases hkj : k = j
  · subst hkj
    obtain ⟨_, o, ho, hall⟩ := mem_ready.1 hj
    rw [ho]
    simp only [Option.map_some, Option.getD_some, Bool.or_eq_true]
    right
    refine Array.all_eq_true_iff_forall_mem.2 fun e he => ?_
    by_cases hb : Region.binds md e = true
    · simp [hset _ (hall e he hb)]
    · simp [hb]
  · by_cases hl : (l.setIfInBounds j true).getD k false = true
    · rw [getD_set_ne false (Ne.symm hkj)] at hl
      cases ho : ops[k]? with
      | none => simp
      | some o =>
        simp only [Option.map_some, Option.getD_some, Bool.or_eq_true]
        right
        refine Array.all_eq_true_iff_forall_mem.2 fun e he => ?_
        by_cases hb : Region.binds md e = true
        · simp [hset _ (shutL_at h ho hl e he hb)]
        · simp [hb]
    · simp only [Bool.not_eq_true] at hl
      simp [hl]

theorem wpAnyG_first {i : Nat} {oi : Oper} {v : Value} {m : Nat} (hi : ops[i]? = some oi) (hsel : ∀ (j : Nat) (o : Oper) cs b, ops[j]? = some o → o.op ≠ .select cs b)
    (hQ : ∀ c a w, Q (.panic c) (a.put oi.dst v) w → Q (.panic c) a w) (hD : ∀ j, D.contains j = true → waitsFor md ops i m j = true) :
    ∀ (n : Nat) (l : Array Bool) (a : Act) (w : World), shutL md ops l = true →
      (∀ j oj, ops[j]? = some oj → j ≠ i → l.getD j true = false → (∀ e ∈ oj.after, Region.binds md e = true → e.on ≠ i) → oi.apart ops oj = true) →
      i ∈ Region.ready md ops l → YieldsIf P ops S oi v a → S w →
      wpAnyG P md ops Q D S n (l.setIfInBounds i true) (a.put oi.dst v) w → wpAnyG P md ops Q D S (n + 1) l a w := by
  intro n
  induction n with
  | zero =>
    intro l a w _ _ hr hy hS H
    refine ⟨fun h => (by rw [h] at hr; cases hr), fun j hj => ?_⟩
    by_cases hji : j = i
    · subst hji; exact hy.wpOp hi hS ⟨fun _ => hS, H⟩
    · have := ready_mono hj hji
      rw [H.1] at this
      cases this
  | succ n ih =>
    intro l a w hsh hfree hr hy hS H
    refine ⟨fun h => (by rw [h] at hr; cases hr), fun j hj => ?_⟩
    by_cases hji : j = i
    · subst hji; exact hy.wpOp hi hS ⟨fun _ => hS, H⟩
    · obtain ⟨hiu, _⟩ := mem_ready.1 hr
      have hilt : i < l.size := by
        rcases Nat.lt_or_ge i l.size with h' | h'
        · exact h'
        · simp [Array.getElem?_eq_none h'] at hiu
      have hiu' : l.getD i false = false := by simpa [hilt] using hiu
      have h1 := H.2 j (ready_mono hj hji)
      obtain ⟨hjun, oj, hoj, hall⟩ := mem_ready.1 hj
      have hnot : ∀ e ∈ oj.after, Region.binds md e = true → e.on ≠ i := fun e he hb heq => by
        have := hall e he hb
        rw [heq, hiu'] at this
        cases this
      have hDj : D.contains j = false := by
        by_cases hd : D.contains j = true
        · have hw := hD j hd
          exfalso
          cases m with
          | zero => cases hw
          | succ m =>
            unfold waitsFor at hw
            rw [hoj] at hw
            simp only [Option.map_some, Option.getD_some] at hw
            obtain ⟨k, hk, hb⟩ := Array.any_eq_true.1 hw
            have he := Array.getElem_mem hk
            generalize oj.after[k] = e at he hb
            simp only [Bool.and_eq_true, Bool.or_eq_true, beq_iff_eq] at hb
            have h2 := hall e he hb.1
            rcases hb.2 with h3 | h3
            · exact hnot e he hb.1 h3
            · rw [waits_unlisted hsh hiu' m _ h3] at h2; cases h2
        · simpa using hd
      have h2 := wpOp_putIf hoj (hfree j oj hoj hji hjun hnot) (fun cs b => hsel i oi cs b hi) (fun cs b => hsel j oj cs b hoj) hQ hy h1
      refine wpOp_mono (fun a' w' h3 => ⟨h3.2.1, ih _ a' w' (shutL_ready hsh hj) (fun k ok hk hki hun hno => hfree k ok hk hki ?_ hno) (ready_mono hr (Ne.symm hji)) h3.1 (h3.2.1 hDj) ?_⟩) h2
      · by_cases hjk : j = k
        · subst hjk; exact hjun
        · rw [getD_set_ne true hjk] at hun; exact hun
      · rw [Array.setIfInBounds_comm _ _ hji]
        exact h3.2.2

/-- An operation that only computes, or reads what S tells, is taken first. -/
theorem wpAnyG_read {i : Nat} {oi : Oper} {v : Value} {n : Nat} {l : Array Bool} {a : Act} {w : World} (hi : ops[i]? = some oi)
    (hs : Region.noSelect ops = true) (hf : Region.free md ops l i = true) (hr : (Region.ready md ops l).contains i = true) (hsh : shutL md ops l = true) (hD : D.all (waitsFor md ops i ops.size) = true)
    (hQ : ∀ c a w, Q (.panic c) (a.put oi.dst v) w → Q (.panic c) a w) (hg : Region.wanted oi (yielded ops a.tmps) = true) (hy : ∀ w, S w → (execOp a.eval oi).run P w = .ok (.value v) w) (hS : S w)
    (h : wpAnyG P md ops Q D S n (l.setIfInBounds i true) (a.put oi.dst v) w) : wpAnyG P md ops Q D S (n + 1) l a w :=
  wpAnyG_first (m := ops.size) hi (Region.noSelect_spec hs) hQ (fun j hj => List.all_eq_true.1 hD j (by simpa using hj)) n l a w hsh (Region.free_spec hi hf) (by simpa using hr) (.inl ⟨hg, hy⟩) hS h

/-- An operation that is not wanted is taken first. -/
theorem wpAnyG_skip {i : Nat} {oi : Oper} {n : Nat} {l : Array Bool} {a : Act} {w : World} (hi : ops[i]? = some oi)
    (hs : Region.noSelect ops = true) (hf : Region.free md ops l i = true) (hr : (Region.ready md ops l).contains i = true) (hsh : shutL md ops l = true) (hD : D.all (waitsFor md ops i ops.size) = true)
    (hQ : ∀ c a w, Q (.panic c) (a.put oi.dst undef) w → Q (.panic c) a w) (hg : Region.wanted oi (yielded ops a.tmps) = false) (hS : S w)
    (h : wpAnyG P md ops Q D S n (l.setIfInBounds i true) (a.put oi.dst undef) w) : wpAnyG P md ops Q D S (n + 1) l a w :=
  wpAnyG_first (m := ops.size) hi (Region.noSelect_spec hs) hQ (fun j hj => List.all_eq_true.1 hD j (by simpa using hj)) n l a w hsh (Region.free_spec hi hf) (by simpa using hr) (.inr ⟨hg, rfl⟩) hS h

/-- Only one operation may come up next. -/
theorem wpAnyG_one {i : Nat} {o : Oper} {n : Nat} {l : Array Bool} {a : Act} {w : World} (hr : Region.ready md ops l = [i]) (ho : ops[i]? = some o) (hg : Region.wanted o (yielded ops a.tmps) = true)
    (h : ∀ K : Act → World → Prop, (∀ a' w', (D.contains i = false → S w') → wpAnyG P md ops Q D S n (l.setIfInBounds i true) a' w' → K a' w') → o.wp P a w K Q) :
    wpAnyG P md ops Q D S (n + 1) l a w := by
  refine ⟨fun h0 => (by rw [hr] at h0; cases h0), fun j hj => ?_⟩
  rw [hr] at hj
  obtain rfl : j = i := by simpa using hj
  unfold Go.wpOp
  simp only [ho]
  rw [if_pos hg]
  exact .inl (h _ fun a' w' hS hW => ⟨hS, hW⟩)

theorem wpAnyG_done {l : Array Bool} {a : Act} {w : World} (hr : Region.ready md ops l = []) (h : Q .normal a w) : ∀ n, wpAnyG P md ops Q D S n l a w
  | 0 => ⟨hr, h⟩
  | _ + 1 => ⟨fun _ => h, by rw [hr]; simp⟩

theorem wp_region_G {id : Nat} {a : Act} {w : World} (hm : P.follows .mixedOrders = true) (hS : S w.drew)
    (h : S w.drew → wpAnyG P .any ops Q D S ops.size (Array.replicate ops.size false) a w.drew) : (Code.region id ops true).wp P Q a w :=
  wp_region_any hm (wpAnyG_any _ _ _ _ (h hS))
end
end Go.Proofs.YtgmmfjmdpbhjnaaGreat

/- contracts of package types (printed by mktyp.py) -/
namespace Go.Proofs.YtgmmfjmdpbhjnaaGreat
open Go.RowKit

/-- a type of numbers -/
structure GTy where
  bits : Nat
  sgn : Bool
  deriving DecidableEq
def tyV (t : GTy) : Value := .agg #[.int .i64 t.bits, .bool t.sgn]
def tyC (t : GTy) : Array Value := #[.int .i64 t.bits, .bool t.sgn]
def okT (t : GTy) : Prop := okW t.bits
def intT : GTy := ⟨16, true⟩
def uintT : GTy := ⟨16, false⟩
def promT (t : GTy) : GTy := if t.bits < 16 then intT else t
def commT (a b : GTy) : GTy :=
  if (promT b).bits < (promT a).bits then promT a else if (promT a).bits < (promT b).bits then promT b else ⟨(promT a).bits, (promT a).sgn && (promT b).sgn⟩
def convN (x : Nat) (f t : GTy) : Nat := (if f.sgn then ((sgnN x f.bits) % 18446744073709551616).toNat else x % 2 ^ f.bits) % 2 ^ t.bits

theorem GrowsTo.mk {v : Value} {w w' : World} (h : Below w.heap.size w w') : GrowsTo v w (.returned v) w' := ⟨rfl, h⟩

theorem int_ok (w : World) : Calls Tryz.prog 72 #[] w (GrowsTo (tyV intT) w) := by
  go_enter Tryz.func72, Tryz.ntmps72
  go_wp2_with fail
  exact bodyPost_ret (v := tyV intT) (by simp [results, Tryz.results72, go_sem, tyV, intT]) rfl ⟨rfl, (Below.refl _ _).alloc (Nat.le_refl _) _⟩

theorem uint_ok (w : World) : Calls Tryz.prog 108 #[] w (GrowsTo (tyV uintT) w) := by
  go_enter Tryz.func108, Tryz.ntmps108
  go_wp2_with fail
  exact bodyPost_ret (v := tyV uintT) (by simp [results, Tryz.results108, go_sem, tyV, uintT]) rfl ⟨rfl, (Below.refl _ _).alloc (Nat.le_refl _) _⟩

theorem valid_ok (t : GTy) (ht : okT t) (w : World) : Calls Tryz.prog 98 #[tyV t] w (GrowsTo (.bool true) w) := by
  have H := fun W => width_ok t.bits ht W
  clear ht
  obtain ⟨b, s⟩ := t
  simp only at H
  unfold tyV
  go_enter Tryz.func98, Tryz.ntmps98
  go_wp2_with fail
  refine (H _).mono ?_
  rintro e w' ⟨rfl, rfl⟩
  go_wp2_with fail
  go_ret
  exact ⟨rfl, (Below.refl _ _).alloc (Nat.le_refl _) _⟩

theorem prom_ok (t : GTy) (w : World) : Calls Tryz.prog 105 #[tyV t] w (GrowsTo (tyV (promT t)) w) := by
  have HI : ∀ w, Calls Tryz.prog 72 #[] w (GrowsTo (.agg #[.int .i64 16, .bool true]) w) := int_ok
  obtain ⟨b, s⟩ := t
  unfold promT
  by_cases h : b < 16
  · rw [if_pos h]
    show Calls Tryz.prog 105 #[.agg #[.int .i64 b, .bool s]] w (GrowsTo (.agg #[.int .i64 16, .bool true]) w)
    have h' : decide ((b : Int) < 16) = true := decide_eq_true (by omega)
    go_enter Tryz.func105, Tryz.ntmps105
    go_wp2_with fail
    refine (HI _).mono ?_
    rintro e w' ⟨rfl, hb⟩
    have hbox := blk_grown (blk_new (w.alloc (.cells #[.int .i64 b, .bool s] 72)) (.cells #[.int .i64 0, .bool false] 72)) (Below.grownNone hb) (by simp)
    simp only [World.size_alloc] at hbox
    have c0 := blk_cell hbox 0
    have c1 := blk_cell hbox 1
    have z0 := blk_frozen hbox 0
    have z1 := blk_frozen hbox 1
    have hbl : Below w.heap.size w w' := (((Below.refl _ _).alloc (Nat.le_refl _) _).alloc (by simp) _).trans (hb.mono (by simp; omega))
    have hbl2 : Hid (Below w.heap.size w ((w'.setCell ⟨w.heap.size + 1, 0, none⟩ (.int .i64 16)).setCell ⟨w.heap.size + 1, 1, none⟩ (.bool true))) := (hbl.setCell (Nat.le_succ _) _).setCell (Nat.le_succ _) _
    have hbox2 := blk_set (blk_set hbox 0 (.int .i64 16)) 1 (.bool true)
    have d0 := blk_cell hbox2 0
    have d1 := blk_cell hbox2 1
    clear hbox hbox2 hb hbl
    go_wp2_with fail
    exact bodyPost_ret (v := .agg #[.int .i64 16, .bool true]) (by simp [results, Tryz.results105, go_sem, d0, d1]) rfl ⟨rfl, hbl2.out⟩
  · rw [if_neg h]
    unfold tyV
    have h' : decide ((b : Int) < 16) = false := decide_eq_false (by omega)
    go_enter Tryz.func105, Tryz.ntmps105
    go_wp2_with fail
    exact bodyPost_ret (v := .agg #[.int .i64 b, .bool s]) (by simp [results, Tryz.results105, go_sem]) rfl ⟨rfl, ((Below.refl _ _).alloc (Nat.le_refl _) _).alloc (by simp) _⟩

/-- two boxes of types, one behind the other -/
def TwoTys (B : Nat) (a b : GTy) (w : World) : Prop :=
  w.heap[B]? = some (.cells (tyC a) 72) ∧ w.heap[B + 1]? = some (.cells (tyC b) 72)
theorem TwoTys.grow {B : Nat} {a b : GTy} {w w' : World} (h : TwoTys B a b w) (hb : Below w.heap.size w w') : TwoTys B a b w' :=
  ⟨blk_grown h.1 (Below.grownNone hb) (by simp), blk_grown h.2 (Below.grownNone hb) (by simp)⟩
theorem TwoTys.cells {B : Nat} {a b : GTy} {w : World} (h : TwoTys B a b w) :
    w.cell? ⟨B, 0, none⟩ = some (.int .i64 a.bits) ∧ w.cell? ⟨B, 1, none⟩ = some (.bool a.sgn) ∧ w.cell? ⟨B + 1, 0, none⟩ = some (.int .i64 b.bits) ∧ w.cell? ⟨B + 1, 1, none⟩ = some (.bool b.sgn) :=
  ⟨blk_cell h.1 0, blk_cell h.1 1, blk_cell h.2 0, blk_cell h.2 1⟩
theorem TwoTys.frozen {B : Nat} {a b : GTy} {w : World} (h : TwoTys B a b w) :
    w.frozen? ⟨B, 0, none⟩ = false ∧ w.frozen? ⟨B, 1, none⟩ = false ∧ w.frozen? ⟨B + 1, 0, none⟩ = false ∧ w.frozen? ⟨B + 1, 1, none⟩ = false :=
  ⟨blk_frozen h.1 0, blk_frozen h.1 1, blk_frozen h.2 0, blk_frozen h.2 1⟩

theorem two_set {w : World} {B : Nat} {t : TypeId} {x y : Value} (h : w.heap[B]? = some (.cells #[x, y] t (0, 0))) (b : Int) (s : Bool) :
    ((w.setCell ⟨B, 0, none⟩ (.int .i64 b)).setCell ⟨B, 1, none⟩ (.bool s)).cell? ⟨B, 0, none⟩ = some (.int .i64 b) ∧
    ((w.setCell ⟨B, 0, none⟩ (.int .i64 b)).setCell ⟨B, 1, none⟩ (.bool s)).cell? ⟨B, 1, none⟩ = some (.bool s) := by
  have h1 := blk_set (blk_set h 0 (.int .i64 b)) 1 (.bool s)
  exact ⟨blk_cell h1 0, blk_cell h1 1⟩

set_option maxHeartbeats 1000000 in
theorem comm_ok (a b : GTy) (w : World) : Calls Tryz.prog 111 #[tyV a, tyV b] w (GrowsTo (tyV (commT a b)) w) := by
  have HP1 := prom_ok a
  have HP2 := prom_ok b
  have HC := Lib.hid (show commT a b = if (promT b).bits < (promT a).bits then promT a else if (promT a).bits < (promT b).bits then promT b else ⟨(promT a).bits, (promT a).sgn && (promT b).sgn⟩ from rfl)
  generalize commT a b = r at *
  generalize promT a = p at *
  generalize promT b = q at *
  obtain ⟨xb, xs⟩ := a
  obtain ⟨yb, ys⟩ := b
  obtain ⟨pb, ps⟩ := p
  obtain ⟨qb, qs⟩ := q
  have HCs := Lib.hid (fun (v : GTy) (h : r = v) => congrArg tyV h)
  simp only [tyV] at HP1 HP2
  show Calls Tryz.prog 111 #[.agg #[.int .i64 xb, .bool xs], .agg #[.int .i64 yb, .bool ys]] w (GrowsTo (tyV r) w)
  go_enter Tryz.func111, Tryz.ntmps111
  go_wp2_with fail
  have hT : TwoTys w.heap.size ⟨xb, xs⟩ ⟨yb, ys⟩ (((w.alloc (.cells #[.int .i64 xb, .bool xs] 72)).alloc (.cells #[.int .i64 yb, .bool ys] 72)).alloc (.cells #[.int .i64 0, .bool false] 72)) := by
    refine ⟨blk_alloc (blk_alloc (blk_new _ _) _) _, blk_alloc ?_ _⟩
    have := blk_new (w.alloc (.cells #[.int .i64 xb, .bool xs] 72)) (.cells #[.int .i64 yb, .bool ys] 72)
    simpa [tyC] using this
  have hR : (((w.alloc (.cells #[.int .i64 xb, .bool xs] 72)).alloc (.cells #[.int .i64 yb, .bool ys] 72)).alloc (.cells #[.int .i64 0, .bool false] 72)).heap[w.heap.size + 1 + 1]? = some (.cells #[.int .i64 0, .bool false] 72 (0, 0)) := by
    have := blk_new ((w.alloc (.cells #[.int .i64 xb, .bool xs] 72)).alloc (.cells #[.int .i64 yb, .bool ys] 72)) (.cells #[.int .i64 0, .bool false] 72)
    simpa using this
  have hW : Below w.heap.size w (((w.alloc (.cells #[.int .i64 xb, .bool xs] 72)).alloc (.cells #[.int .i64 yb, .bool ys] 72)).alloc (.cells #[.int .i64 0, .bool false] 72)) :=
    (((Below.refl _ _).alloc (Nat.le_refl _) _).alloc (by simp) _).alloc (by simp; omega) _
  have hsz : (((w.alloc (.cells #[.int .i64 xb, .bool xs] 72)).alloc (.cells #[.int .i64 yb, .bool ys] 72)).alloc (.cells #[.int .i64 0, .bool false] 72)).heap.size = w.heap.size + 3 := by simp
  generalize ((w.alloc (.cells #[.int .i64 xb, .bool xs] 72)).alloc (.cells #[.int .i64 yb, .bool ys] 72)).alloc (.cells #[.int .i64 0, .bool false] 72) = wo at *
  refine wp_region_G (D := [4, 5]) (S := TwoTys w.heap.size ⟨xb, xs⟩ ⟨yb, ys⟩) Tryz.checked.mixed (by exact hT) (fun hS => ?_)
  refine wpAnyG_read (i := 0) (v := ?v0) rfl (by kernel_rfl) (by kernel_rfl) (by kernel_rfl) (by kernel_rfl) (by kernel_rfl) ?q0 ?g0 ?y0 hS ?_  -- load 57 t2
  case y0 => intro w' h; have h1 := h.cells; obtain ⟨h2, h3, h4, h5⟩ := h1; go_simp; exact rfl
  case g0 => rfl
  case q0 => exact fun _ _ _ h => h
  go_simp
  refine wpAnyG_read (i := 2) (v := ?v2) rfl (by kernel_rfl) (by kernel_rfl) (by kernel_rfl) (by kernel_rfl) (by kernel_rfl) ?q2 ?g2 ?y2 hS ?_  -- load 57 t3
  case y2 => intro w' h; have h1 := h.cells; obtain ⟨h2, h3, h4, h5⟩ := h1; go_simp; exact rfl
  case g2 => rfl
  case q2 => exact fun _ _ _ h => h
  go_simp
  refine wpAnyG_one (i := 1) (by kernel_rfl) rfl rfl (fun K hK => ?_)
  go_wp2_with fail
  refine (HP1 _).mono ?_
  rintro e w1 ⟨rfl, hb1⟩
  have hS1 := hS.grow hb1
  have hR1 := blk_grown (w := wo.drew) hR (Below.grownNone hb1) (by simp)
  have hB1 : Below w.heap.size w w1 := hW.drew.trans (hb1.mono (by show _ ≤ wo.heap.size; omega))
  refine hK _ _ (fun _ => hS1) ?_
  clear hK
  go_simp
  refine wpAnyG_one (i := 3) (by kernel_rfl) rfl rfl (fun K hK => ?_)
  go_wp2_with fail
  refine (HP2 _).mono ?_
  rintro e w2 ⟨rfl, hb2⟩
  have hS2 := hS1.grow hb2
  have hR2 := blk_grown hR1 (Below.grownNone hb2) (by simp)
  have hB2 : Below w.heap.size w w2 := hB1.trans (hb2.mono (by have := hB1.size; omega))
  refine hK _ _ (fun _ => hS2) ?_
  clear hK hS1 hR1 hb1 hb2 hB1
  go_simp
  obtain ⟨k1, k2, k3, k4⟩ := hS2.cells
  obtain ⟨z1, z2, z3, z4⟩ := hS2.frozen
  refine wpAnyG_one (i := 4) (by kernel_rfl) rfl rfl (fun K hK => ?_)
  go_wp2_with fail
  refine hK _ _ (fun h => absurd h (by decide)) ?_
  clear hK
  go_simp
  refine wpAnyG_one (i := 5) (by kernel_rfl) rfl rfl (fun K hK => ?_)
  go_wp2_with fail
  refine hK _ _ (fun h => absurd h (by decide)) ?_
  clear hK
  go_simp
  refine wpAnyG_done (by kernel_rfl) ?_ _
  have hS3 : TwoTys w.heap.size ⟨pb, ps⟩ ⟨qb, qs⟩ ((((w2.setCell ⟨w.heap.size, 0, none⟩ (.int .i64 pb)).setCell ⟨w.heap.size, 1, none⟩ (.bool ps)).setCell ⟨w.heap.size + 1, 0, none⟩ (.int .i64 qb)).setCell ⟨w.heap.size + 1, 1, none⟩ (.bool qs)) :=
    ⟨blk_other (blk_other (blk_set (blk_set hS2.1 0 (.int .i64 pb)) 1 (.bool ps)) _ _ (by simp)) _ _ (by simp), blk_set (blk_set (blk_other (blk_other hS2.2 _ _ (by simp)) _ _ (by simp)) 0 (.int .i64 qb)) 1 (.bool qs)⟩
  have hR3 : ((((w2.setCell ⟨w.heap.size, 0, none⟩ (.int .i64 pb)).setCell ⟨w.heap.size, 1, none⟩ (.bool ps)).setCell ⟨w.heap.size + 1, 0, none⟩ (.int .i64 qb)).setCell ⟨w.heap.size + 1, 1, none⟩ (.bool qs)).heap[w.heap.size + 1 + 1]? = some (.cells #[.int .i64 0, .bool false] 72 (0, 0)) :=
    blk_other (blk_other (blk_other (blk_other hR2 _ _ (by simp; omega)) _ _ (by simp; omega)) _ _ (by simp)) _ _ (by simp)
  have hB3 : Below w.heap.size w ((((w2.setCell ⟨w.heap.size, 0, none⟩ (.int .i64 pb)).setCell ⟨w.heap.size, 1, none⟩ (.bool ps)).setCell ⟨w.heap.size + 1, 0, none⟩ (.int .i64 qb)).setCell ⟨w.heap.size + 1, 1, none⟩ (.bool qs)) :=
    (((hB2.setCell (Nat.le_refl _) _).setCell (Nat.le_refl _) _).setCell (Nat.le_succ _) _).setCell (Nat.le_succ _) _
  clear k1 k2 k3 k4 z1 z2 z3 z4 hS2 hR2 hB2 hS hT hR hW hsz HP1 HP2
  generalize (((w2.setCell ⟨w.heap.size, 0, none⟩ (.int .i64 pb)).setCell ⟨w.heap.size, 1, none⟩ (.bool ps)).setCell ⟨w.heap.size + 1, 0, none⟩ (.int .i64 qb)).setCell ⟨w.heap.size + 1, 1, none⟩ (.bool qs) = w3 at *
  obtain ⟨k1, k2, k3, k4⟩ := hS3.cells
  have r0 := blk_cell hR3 0
  have r1 := blk_cell hR3 1
  have y0 := blk_frozen hR3 0
  have y1 := blk_frozen hR3 1
  simp only at k1 k2 k3 k4
  by_cases h1 : qb < pb
  · have g1 : decide ((qb : Int) < pb) = true := decide_eq_true (by omega)
    have hr := HCs.out ⟨pb, ps⟩ (HC.out.trans (if_pos h1))
    have Hr := Lib.hid hr
    clear hr hS3
    have Hfin := Lib.hid (two_set hR3 (pb : Int) ps)
    have Hbel := Lib.hid ((hB3.setCell (p := ⟨w.heap.size + 1 + 1, 0, none⟩) (by simp; omega) (.int .i64 (pb : Int))).setCell (p := ⟨w.heap.size + 1 + 1, 1, none⟩) (by simp; omega) (.bool ps))
    clear hR3 hB3
    go_wp2_with fail
    obtain ⟨e0, e1⟩ := Hfin.out
    exact bodyPost_ret (v := .agg #[.int .i64 pb, .bool ps]) (by simp [results, Tryz.results111, go_sem, e0, e1]) rfl ⟨by rw [Hr.out]; rfl, Hbel.out⟩
  · have g1 : decide ((qb : Int) < pb) = false := decide_eq_false (by omega)
    by_cases h2 : pb < qb
    · have g2 : decide ((pb : Int) < qb) = true := decide_eq_true (by omega)
      have hr := HCs.out ⟨qb, qs⟩ (HC.out.trans ((if_neg h1).trans (if_pos h2)))
      have Hr := Lib.hid hr
      clear hr hS3
      have Hfin := Lib.hid (two_set hR3 (qb : Int) qs)
      have Hbel := Lib.hid ((hB3.setCell (p := ⟨w.heap.size + 1 + 1, 0, none⟩) (by simp; omega) (.int .i64 (qb : Int))).setCell (p := ⟨w.heap.size + 1 + 1, 1, none⟩) (by simp; omega) (.bool qs))
      clear hR3 hB3
      go_wp2_with fail
      obtain ⟨e0, e1⟩ := Hfin.out
      exact bodyPost_ret (v := .agg #[.int .i64 qb, .bool qs]) (by simp [results, Tryz.results111, go_sem, e0, e1]) rfl ⟨by rw [Hr.out]; rfl, Hbel.out⟩
    · have g2 : decide ((pb : Int) < qb) = false := decide_eq_false (by omega)
      have hr := HCs.out ⟨pb, ps && qs⟩ (HC.out.trans ((if_neg h1).trans (if_neg h2)))
      have Hr := Lib.hid hr
      clear hr hS3
      have Hfin := Lib.hid (two_set hR3 (pb : Int) (ps && qs))
      have Hbel := Lib.hid ((hB3.setCell (p := ⟨w.heap.size + 1 + 1, 0, none⟩) (by simp; omega) (.int .i64 (pb : Int))).setCell (p := ⟨w.heap.size + 1 + 1, 1, none⟩) (by simp; omega) (.bool (ps && qs)))
      clear hR3 hB3
      cases ps <;>
      · go_wp2_with fail
        obtain ⟨e0, e1⟩ := Hfin.out
        simp only [Bool.false_and, Bool.true_and] at e0 e1
        exact bodyPost_ret (v := .agg #[.int .i64 pb, .bool _]) (by simp [results, Tryz.results111, go_sem, e0, e1]; rfl) rfl ⟨by rw [Hr.out]; rfl, Hbel.out⟩
end Go.Proofs.YtgmmfjmdpbhjnaaGreat

/- contracts of package types: numbers -/
namespace Go.Proofs.YtgmmfjmdpbhjnaaGreat
open Go.RowKit

theorem convN_lt (x : Nat) (f t : GTy) (ht : okT t) : U64 (convN x f t) := okW_lt ht _

theorem conv_ok (x : Nat) (f t : GTy) (hf : okT f) (ht : okT t) (hx : U64 x) (w : World) : Calls Tryz.prog 46 #[.int .u64 x, tyV f, tyV t] w (GrowsTo (.int .u64 (convN x f t : Nat)) w) := by
  have H1 := fun W => signed_ok x f.bits hf W
  have H2 := fun W => cut_ok x f.bits hf hx W
  obtain ⟨fb, fs⟩ := f
  obtain ⟨tb, ts⟩ := t
  simp only at H1 H2
  cases fs
  · have H3 := fun W => cut_ok (x % 2 ^ fb) tb ht (okW_lt hf x) W
    have HC := Lib.hid (show convN x ⟨fb, false⟩ ⟨tb, ts⟩ = (x % 2 ^ fb) % 2 ^ tb from rfl)
    clear hf ht hx H1
    generalize convN x ⟨fb, false⟩ ⟨tb, ts⟩ = r at *
    generalize (x % 2 ^ fb) % 2 ^ tb = z at *
    generalize x % 2 ^ fb = y at *
    show Calls Tryz.prog 46 #[.int .u64 x, .agg #[.int .i64 fb, .bool false], .agg #[.int .i64 tb, .bool ts]] w (GrowsTo (.int .u64 r) w)
    go_enter Tryz.func46, Tryz.ntmps46
    go_wp2_with fail
    refine (H2 _).mono ?_
    rintro e w' ⟨rfl, rfl⟩
    go_wp2_with fail
    refine (H3 _).mono ?_
    rintro e w' ⟨rfl, rfl⟩
    go_wp2_with fail
    go_ret
    exact ⟨ret_int (by rw [HC.out]), ((Below.refl _ _).alloc (Nat.le_refl _) _).alloc (by simp) _⟩
  · have hs : (((sgnN x fb) % 18446744073709551616).toNat : Int) = (sgnN x fb) % 18446744073709551616 := Int.toNat_of_nonneg (Int.emod_nonneg _ (by decide))
    have hu : U64 ((sgnN x fb) % 18446744073709551616).toNat := by unfold U64; have := Int.emod_lt_of_pos (sgnN x fb) (show (0 : Int) < 18446744073709551616 by decide); omega
    have H3 := fun W => cut_ok ((sgnN x fb) % 18446744073709551616).toNat tb ht hu W
    have HC := Lib.hid (show convN x ⟨fb, true⟩ ⟨tb, ts⟩ = ((sgnN x fb) % 18446744073709551616).toNat % 2 ^ tb from rfl)
    have hw : IntKind.u64.wrap (sgnN x fb) = ((((sgnN x fb) % 18446744073709551616).toNat : Nat) : Int) := by rw [hs, IntKind.wrap_u64]
    clear hf ht hx H2 hs hu
    generalize convN x ⟨fb, true⟩ ⟨tb, ts⟩ = r at *
    generalize ((sgnN x fb) % 18446744073709551616).toNat % 2 ^ tb = z at *
    generalize ((sgnN x fb) % 18446744073709551616).toNat = y at *
    generalize sgnN x fb = s at *
    show Calls Tryz.prog 46 #[.int .u64 x, .agg #[.int .i64 fb, .bool true], .agg #[.int .i64 tb, .bool ts]] w (GrowsTo (.int .u64 r) w)
    go_enter Tryz.func46, Tryz.ntmps46
    go_wp2_with fail
    refine (H1 _).mono ?_
    rintro e w' ⟨rfl, rfl⟩
    go_wp2_with fail
    refine (H3 _).mono ?_
    rintro e w' ⟨rfl, rfl⟩
    go_wp2_with fail
    go_ret
    exact ⟨ret_int (by rw [HC.out]), ((Below.refl _ _).alloc (Nat.le_refl _) _).alloc (by simp) _⟩

def truthN (b : Bool) : Nat := if b then 1 else 0
theorem truth_ok (b : Bool) (w : World) : Calls Tryz.prog 107 #[.bool b] w fun e W' => e = .returned (.int .u64 (truthN b : Nat)) ∧ w = W' := by
  cases b <;>
  · go_enter Tryz.func107, Tryz.ntmps107
    go_wp2_with fail
    go_ret
    exact ⟨rfl, rfl⟩

/-- comparisons: kinds 16 to 21 -/
def cmpN (k : Nat) (a b : Nat) (t : GTy) : Bool :=
  if k = 16 then lessN a b t.bits t.sgn else if k = 17 then !lessN b a t.bits t.sgn else if k = 18 then lessN b a t.bits t.sgn else if k = 19 then !lessN a b t.bits t.sgn
  else if k = 20 then !lessN a b t.bits t.sgn && !lessN b a t.bits t.sgn else lessN a b t.bits t.sgn || lessN b a t.bits t.sgn

set_option maxHeartbeats 1000000 in
theorem cmp_ok (k a b : Nat) (t : GTy) (hk : 16 ≤ k ∧ k ≤ 21) (ht : okT t) (ha : U64 a) (hb : U64 b) (w : World) :
    Calls Tryz.prog 116 #[.int .i64 k, .int .u64 a, .int .u64 b, tyV t] w (GrowsTo (.bool (cmpN k a b t)) w) := by
  have H1 := fun W => less_ok a b t.bits t.sgn ht ha hb W
  have H2 := fun W => less_ok b a t.bits t.sgn ht hb ha W
  have HC := Lib.hid (show cmpN k a b t = if k = 16 then lessN a b t.bits t.sgn else if k = 17 then !lessN b a t.bits t.sgn else if k = 18 then lessN b a t.bits t.sgn else if k = 19 then !lessN a b t.bits t.sgn
    else if k = 20 then !lessN a b t.bits t.sgn && !lessN b a t.bits t.sgn else lessN a b t.bits t.sgn || lessN b a t.bits t.sgn from rfl)
  clear ht ha hb
  generalize lessN a b t.bits t.sgn = l at *
  generalize lessN b a t.bits t.sgn = m at *
  generalize cmpN k a b t = r at *
  obtain ⟨tb, ts⟩ := t
  simp only at H1 H2
  have hk' : k = 16 ∨ k = 17 ∨ k = 18 ∨ k = 19 ∨ k = 20 ∨ k = 21 := by omega
  clear hk
  show Calls Tryz.prog 116 #[.int .i64 k, .int .u64 a, .int .u64 b, .agg #[.int .i64 tb, .bool ts]] w (GrowsTo (.bool r) w)
  rcases hk' with rfl | rfl | rfl | rfl | rfl | rfl <;> cases l <;> cases m
  all_goals
    go_enter Tryz.func116, Tryz.ntmps116
    go_wp2_with fail
    refine (H1 _).mono ?_
    rintro e w' ⟨rfl, rfl⟩
    go_wp2_with fail
    refine (H2 _).mono ?_
    rintro e w' ⟨rfl, rfl⟩
    go_wp2_with fail
    go_ret
    exact ⟨ret_bool (by rw [HC.out]; rfl), (Below.refl _ _).alloc (Nat.le_refl _) _⟩

/-- what an operator's result is -/
def resT (k : Nat) (a b : GTy) : GTy := if k = 14 ∨ k = 15 then promT a else if 16 ≤ k ∧ k ≤ 21 then intT else commT a b

theorem promT_ok {t : GTy} (h : okT t) : okT (promT t) := by
  unfold promT okT at *
  split
  · exact .inr (.inl rfl)
  · exact h
theorem promT_wide {t : GTy} (h : okT t) : (promT t).bits = 16 ∨ (promT t).bits = 32 ∨ (promT t).bits = 64 := by
  unfold promT okT okW at *
  split
  · exact .inl rfl
  · omega
theorem commT_ok {a b : GTy} (ha : okT a) (hb : okT b) : okT (commT a b) := by
  unfold commT
  split
  · exact promT_ok ha
  · split
    · exact promT_ok hb
    · exact promT_ok ha
end Go.Proofs.YtgmmfjmdpbhjnaaGreat

/- contracts of types.Result, types.Binary (printed by mkbin.py) -/
namespace Go.Proofs.YtgmmfjmdpbhjnaaGreat
open Go.RowKit

def ThreeTys (B Bt : Nat) (x y t : GTy) (w : World) : Prop := TwoTys B x y w ∧ w.heap[Bt]? = some (.cells (tyC t) 72)
theorem ThreeTys.grow {B Bt : Nat} {x y t : GTy} {w w' : World} (h : ThreeTys B Bt x y t w) (hb : Below w.heap.size w w') : ThreeTys B Bt x y t w' :=
  ⟨h.1.grow hb, blk_grown h.2 (Below.grownNone hb) (by simp)⟩

theorem ThreeTys.tc {B Bt : Nat} {x y t : GTy} {w : World} (h : ThreeTys B Bt x y t w) : w.cell? ⟨Bt, 0, none⟩ = some (.int .i64 t.bits) ∧ w.cell? ⟨Bt, 1, none⟩ = some (.bool t.sgn) := ⟨blk_cell h.2 0, blk_cell h.2 1⟩

/-- what an operator makes of two numbers; none: it divides by nought -/
def binN (k a b : Nat) (x y : GTy) : Option Nat :=
  if k = 14 then some (shlN (convN a x (promT x)) (convN b y uintT) (promT x).bits)
  else if k = 15 then some (shrN (convN a x (promT x)) (convN b y uintT) (promT x).bits (promT x).sgn)
  else
    let t := commT x y
    let p := convN a x t
    let q := convN b y t
    if k = 9 then some (mulN p q t.bits)
    else if k = 10 then (if q % 2 ^ t.bits = 0 then none else some (partsN p q t.bits t.sgn).1)
    else if k = 11 then (if q % 2 ^ t.bits = 0 then none else some (partsN p q t.bits t.sgn).2)
    else if k = 12 then some (addN p q t.bits)
    else if k = 13 then some (subN p q t.bits)
    else if k = 22 then some (p &&& q)
    else if k = 23 then some (p ^^^ q)
    else if k = 24 then some (p ||| q)
    else some (truthN (cmpN k p q t))
def binV (r : Option Nat) : Value := match r with | some n => .tuple #[.int .u64 n, .int .i64 0] | none => .tuple #[.int .u64 0, .int .i64 10]

theorem box_new (w : World) (t : GTy) : (w.alloc (.cells #[.int .i64 t.bits, .bool t.sgn] 72)).heap[w.heap.size]? = some (.cells (tyC t) 72) := blk_new _ _

theorem twoTys_new (w : World) (x y : GTy) : TwoTys w.heap.size x y ((w.alloc (.cells #[.int .i64 x.bits, .bool x.sgn] 72)).alloc (.cells #[.int .i64 y.bits, .bool y.sgn] 72)) := by
  refine ⟨blk_alloc (box_new w x) _, ?_⟩
  have := box_new (w.alloc (.cells #[.int .i64 x.bits, .bool x.sgn] 72)) y
  simpa using this
theorem two_below (w : World) (x y : GTy) : Below w.heap.size w ((w.alloc (.cells #[.int .i64 x.bits, .bool x.sgn] 72)).alloc (.cells #[.int .i64 y.bits, .bool y.sgn] 72)) :=
  ((Below.refl _ _).alloc (Nat.le_refl _) _).alloc (by simp) _

end Go.Proofs.YtgmmfjmdpbhjnaaGreat
