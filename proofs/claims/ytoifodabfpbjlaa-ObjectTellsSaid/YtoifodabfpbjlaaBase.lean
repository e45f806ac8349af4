/-
  Laws of slices that grow, for a walk: a slice that may be appended to is the call's own row, or a full row that is only read (its first append makes a new one).
-/
import Derived.WalkKit
import Derived.WalkSpells
import Derived.WalkLawsBesides
import Derived.Lib.Hide
namespace Go.Proofs.Ytoifodabfpbjlaa
open Go.RowKit

/-- The n cells from a on hold E 0, E 1 and so on. -/
def Cells (w : World) (a : Option Addr) (n : Nat) (E : Nat → Value) : Prop :=
  n = 0 ∨ ∃ b off, a = some ⟨b, off, none⟩ ∧ ∀ k, k < n → w.cell? ⟨b, off + k, none⟩ = some (E k)

theorem Cells.at {w : World} {a : Option Addr} {n k : Nat} {E : Nat → Value} (h : Cells w a n E) (hk : k < n) :
    ∃ b off, a = some ⟨b, off, none⟩ ∧ w.cell? ⟨b, off + k, none⟩ = some (E k) := by
  rcases h with h | ⟨b, off, ha, h⟩
  · omega
  · exact ⟨b, off, ha, h k hk⟩

theorem Cells.below {B : Nat} {w w' : World} {a : Option Addr} {n : Nat} {E : Nat → Value} (h : Cells w a n E) (hb : Below B w w')
    (ha : 0 < n → ∀ b o s, a = some ⟨b, o, s⟩ → b < B) : Cells w' a n E := by
  rcases h with h | ⟨b, off, rfl, h⟩
  · exact .inl h
  · exact .inr ⟨b, off, rfl, fun k hk => by rw [hb.cell (p := ⟨b, off + k, none⟩) (ha (by omega) b off none rfl)]; exact h k hk⟩

theorem Cells.lt {w : World} {a : Option Addr} {n : Nat} {E : Nat → Value} (h : Cells w a n E) : 0 < n → ∀ b o s, a = some ⟨b, o, s⟩ → b < w.heap.size := by
  intro hn b o s ha
  rcases h with h | ⟨b', off, rfl, h⟩
  · omega
  · cases ha
    exact World.block_lt_of_cell? w ⟨b, o + 0, none⟩ (h 0 hn)

theorem Cells.grow {w w' : World} {a : Option Addr} {n : Nat} {E : Nat → Value} (h : Cells w a n E) (hb : Below w.heap.size w w') : Cells w' a n E := by
  rcases h with h | ⟨b, off, rfl, h⟩
  · exact .inl h
  · by_cases hn : n = 0
    · exact .inl hn
    · have hlt : b < w.heap.size := World.block_lt_of_cell? w ⟨b, off + 0, none⟩ (h 0 (by omega))
      exact .inr ⟨b, off, rfl, fun k hk => by rw [hb.cell (p := ⟨b, off + k, none⟩) hlt]; exact h k hk⟩

theorem Cells.congr {w : World} {a : Option Addr} {n : Nat} {E F : Nat → Value} (h : Cells w a n E) (he : ∀ k, k < n → E k = F k) : Cells w a n F := by
  rcases h with h | ⟨b, off, rfl, h⟩
  · exact .inl h
  · exact .inr ⟨b, off, rfl, fun k hk => by rw [h k hk, he k hk]⟩

theorem ret_int {k : IntKind} {a b : Int} (h : a = b) : Ending.returned (.int k a) = .returned (.int k b) := by rw [h]
theorem ret_bool {a b : Bool} (h : a = b) : Ending.returned (.bool a) = .returned (.bool b) := by rw [h]
theorem val_u16 {a b : Int} (h : a = b) : Value.int .u16 a = .int .u16 b := by rw [h]
theorem val_int {k : IntKind} {a b : Int} (h : a = b) : Value.int k a = .int k b := by rw [h]
theorem t_ne {c d : Int} (h : ¬ c = d) : (c == d) = false := beq_eq_false_iff_ne.2 h
theorem t_eq {c d : Int} (h : c = d) : (c == d) = true := beq_iff_eq.2 h

/-- A slice to which may be appended: the call's own row; or a full row, of which the cells are known. -/
def App (base : Nat) (e : TypeId) (size : Nat) (w : World) (v : Value) (n : Nat) (xs : List Value) : Prop :=
  w.ownsRow base e size v n xs ∨
  (xs.length = n * size ∧ ∃ g, v = .slice (some ⟨g, 0, none⟩) n n ∧ base ≤ g ∧ g < w.heap.size ∧ ∀ j u, xs[j]? = some u → w.cell? ⟨g, j, none⟩ = some u)

theorem App.lt {base : Nat} {e : TypeId} {size : Nat} {w : World} {v : Value} {n : Nat} {xs : List Value} (h : App base e size w v n xs) :
    ∀ k, v.ownBlock = some k → base ≤ k ∧ k < w.heap.size := by
  rcases h with h | ⟨_, g, rfl, h1, h2, _⟩
  · exact h.lt
  · intro k hk
    simp [Value.ownBlock] at hk
    subst hk
    exact ⟨h1, h2⟩

theorem App.alloc {base : Nat} {e : TypeId} {size : Nat} {w : World} {v : Value} {n : Nat} {xs : List Value} (h : App base e size w v n xs) (o : Obj) :
    App base e size (w.alloc o) v n xs := by
  rcases h with h | ⟨h0, g, rfl, h1, h2, h3⟩
  · exact .inl (h.alloc o)
  · exact .inr ⟨h0, g, rfl, h1, by simp; omega, fun j u hu => by rw [World.cell?_alloc_past _ _ _ h2]; exact h3 j u hu⟩

theorem App.drew {base : Nat} {e : TypeId} {size : Nat} {w : World} {v : Value} {n : Nat} {xs : List Value} (h : App base e size w v n xs) :
    App base e size w.drew v n xs := by
  rcases h with h | ⟨h0, g, rfl, h1, h2, h3⟩
  · exact .inl h
  · exact .inr ⟨h0, g, rfl, h1, h2, h3⟩

theorem App.read {base : Nat} {e : TypeId} {size : Nat} {w : World} {v : Value} {n : Nat} {xs : List Value} (h : App base e size w v n xs) :
    ∃ a cap, v = .slice a n cap ∧ Cells w a (n * size) (fun k => xs.getD k undef) ∧ ∀ b o s, a = some ⟨b, o, s⟩ → base ≤ b := by
  rcases h with ⟨h0, ⟨rfl, rfl⟩ | ⟨g, cap, cur, rfl, hb, hg, hn, _, hs, ht⟩⟩ | ⟨h0, g, rfl, h1, h2, h3⟩
  · exact ⟨none, 0, rfl, .inl (by simp), fun _ _ _ h => by cases h⟩
  · refine ⟨_, _, rfl, .inr ⟨g, 0, rfl, fun k hk => ?_⟩, fun b o s h => by cases h; exact hb⟩
    have hk' : k < xs.length := by rw [h0]; exact hk
    have := World.ownsRow.cells (w := w) (base := base) (e := e) (size := size) (v := .slice (some ⟨g, 0, none⟩) n cap) (n := n) (xs := xs) ⟨h0, .inr ⟨g, cap, cur, rfl, hb, hg, hn, by assumption, hs, ht⟩⟩ (g := g) rfl k _ (List.getElem?_eq_getElem hk')
    rw [Nat.zero_add]
    have hadd : (⟨g, 0, none⟩ : Addr).add k = ⟨g, k, none⟩ := by unfold Addr.add; split <;> simp_all
    rw [hadd] at this
    rw [this]
    simp [List.getD, hk']
  · refine ⟨_, _, rfl, .inr ⟨g, 0, rfl, fun k hk => ?_⟩, fun b o s h => by cases h; exact h1⟩
    have hk' : k < xs.length := by rw [h0]; exact hk
    rw [Nat.zero_add, h3 k _ (List.getElem?_eq_getElem hk')]
    simp [List.getD, hk']

theorem grownBy_weaken {w w' : World} {row : Option Nat} (h : w.grownBy w' none) : w.grownBy w' row :=
  ⟨h.os, h.tape, h.output, h.size, fun k hk _ => h.block k hk (by simp)⟩

theorem App.ofOwns {base : Nat} {e : TypeId} {size : Nat} {w : World} {v : Value} {n : Nat} {xs : List Value} (h : w.ownsRow base e size v n xs) : App base e size w v n xs := .inl h

theorem ownsRow_base {base base' : Nat} {e : TypeId} {size : Nat} {w : World} {v : Value} {n : Nat} {xs : List Value} (h : w.ownsRow base e size v n xs) (hb : base' ≤ base) :
    w.ownsRow base' e size v n xs := by
  refine ⟨h.1, ?_⟩
  rcases h.2 with h | ⟨g, cap, cur, h1, h2, h3⟩
  · exact .inl h
  · exact .inr ⟨g, cap, cur, h1, by omega, h3⟩

theorem App.base {base base' : Nat} {e : TypeId} {size : Nat} {w : World} {v : Value} {n : Nat} {xs : List Value} (h : App base e size w v n xs) (hb : base' ≤ base) :
    App base' e size w v n xs := by
  rcases h with h | ⟨h0, g, rfl, h1, h2, h3⟩
  · exact .inl (ownsRow_base h hb)
  · exact .inr ⟨h0, g, rfl, by omega, h2, h3⟩

/-- 'append(s, x...)' where s may be appended to and x is a row of which the cells are known. -/
theorem wpList_append_app {P : Program} {w : World} {ops : Array Oper} {rest : List Oper} {o : Oper} {a : Act} {Q : Exit → Act → World → Prop}
    (hgd : o.guard = none) (s x : Operand) (t : TypeId)
    (ho : o.op = .call { callee := .builtin .append, args := #[s, x], argTypes := #[t, t] })
    (base : Nat) (e : TypeId) (i : TypeInfo) (z : Value) (size bytes : Nat) (ht : P.underlying t = some (.slice e)) (hi : P.info? e = some i) (hz : i.zero = some z)
    (hsize : i.size = size) (hby : i.bytes = bytes) (hzs : z.cells.size = size) (hsz : 0 < size)
    (v : Value) (n : Nat) (xs : List Value) (hs : a.eval s = v) (hown : App base e size w v n xs)
    (ad : Addr) (m c : Nat) (news : List Value) (hm : 0 < m) (hx : a.eval x = .slice (some ad) m c) (hl : news.length = m * size) (hnews : ∀ j u, news[j]? = some u → w.cell? (ad.add j) = some u) (h1 : ∀ u ∈ news, u.oneCell' = true)
    (h63 : n + m ≤ maxLen) (hbytes : (n + m) * bytes ≤ 140737488355328) (hbase : base ≤ w.heap.size)
    (h : ∀ v' w', w'.ownsRow base e size v' (n + m) (xs ++ news) → w.grownBy w' v.ownBlock → wpList P ops Q rest (a.put o.dst v') w') : wpList P ops Q (o :: rest) a w := by
  rcases hown with hown | ⟨h0, g, rfl, hg1, hg2, hg3⟩
  · exact wpList_append_own w hgd s x t ho base e i z size bytes ht hi hz hsize hby hzs hsz v n xs hs hown ad m c news hx hl hnews h1 h63 hbytes hbase
      fun v' w' h2 h3 _ => h v' w' h2 h3
  · refine wpList_append_grows w hgd s x t ho e i z size bytes ht hi hz hsize hby hzs hsz (some ⟨g, 0, none⟩) n n xs hs (by simp) h0 ?_ ad m c news hx hl hnews h1 (by omega) h63 hbytes
      fun v' w' h2 h3 => h v' w' (ownsRow_base h2 hbase) (grownBy_weaken h3)
    intro b hb j u hu
    cases hb
    have hadd : (⟨g, 0, none⟩ : Addr).add j = ⟨g, j, none⟩ := by unfold Addr.add; split <;> simp_all
    rw [hadd]
    exact hg3 j u hu

end Go.Proofs.Ytoifodabfpbjlaa
