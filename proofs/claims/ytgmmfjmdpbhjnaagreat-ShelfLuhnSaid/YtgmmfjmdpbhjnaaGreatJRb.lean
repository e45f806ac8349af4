/-
  Texts joined: RnC RnD RnE RnF RnJ.
-/
import Derived.Test.YtgmmfjmdpbhjnaaGreatJRa
/-
  What was made ready on paper, in the world: what machine.run does.
-/
namespace Go.Proofs.YtgmmfjmdpbhjnaaGreat
open Go Go.RowKit Go.XM

/-- the blocks that do not turn while a program runs -/
def Kof (prot : PP) (m : M) (h : Hp) (X : List Pa) (c : Nat) : Prop := prot.c c ∨ ∃ p x o, m p = some (c, x) ∧ h.tr.at p = some o ∧ anyPa X p = false
noncomputable def Zof (w : World) (prot : PP) (m : M) (h : Hp) (X : List Pa) : Nat → Option Obj := fun c => open Classical in if Kof prot m h X c then w.heap[c]? else none
/-- what comes in -/
def InpW (prot : PP) (w0 : World) (U : UU) (inp : List Nat) : Prop :=
  inp.length ≤ 65536 ∧ ∃ a c, U.k 0 = .slice a inp.length c ∧ ∀ (k v : Nat), inp[k]? = some v → v < 256 ∧ ∃ b off cur t fz, a = some ⟨b, off, none⟩ ∧ prot.c b ∧ w0.heap[b]? = some (.cells cur t fz) ∧ cur[off + k]? = some (.int .u8 v)

section
variable {U : UU} {w0 : World} {prot : PP} {m : M} {h : Hp} {w : World} {X : List Pa}
theorem zof_of {c : Nat} (hk : Kof prot m h X c) : Zof w prot m h X c = w.heap[c]? := by unfold Zof; rw [if_pos hk]
theorem zof_has : Has (Zof w prot m h X) (Kof prot m h X) w := by
  intro b o e
  unfold Zof at e
  split at e
  · exact ⟨by assumption, e⟩
  · cases e
theorem zof_zr (r : Rel U w0 prot m h w) : ZR U m h X (Zof w prot m h X) := fun b c x o h1 h2 h3 => by
  rw [zof_of (.inr ⟨b, x, o, h1, h2, h3⟩)]; exact r.obj b c x o h1 h2
theorem kof_lt (r : Rel U w0 prot m h w) : ∀ b, Kof prot m h X b → b < w.heap.size
  | b, .inl hb => (r.keep b hb).1
  | b, .inr ⟨p, x, _, h1, _, _⟩ => r.lt p b x h1
theorem inp_at (r : Rel U w0 prot m h w) {inp : List Nat} (hi : InpW prot w0 U inp) {A : Adr} (hA : A.inp = U.k 0) : InpAt A (Zof w prot m h X) inp := by
  obtain ⟨h1, a, c, h2, h3⟩ := hi
  refine ⟨h1, a, c, hA.trans h2, fun k v hk => ?_⟩
  obtain ⟨h4, b, off, cur, t, fz, h5, h6, h7, h8⟩ := h3 k v hk
  exact ⟨h4, b, off, h5, cur, t, fz, by rw [zof_of (.inl h6), (r.keep b h6).2.1]; exact h7, h8⟩

theorem isN_ok {k : IntKind} {n : Nat} {s : S} {v : Value} (e : isN k n s = true) (hd : s.den U m = some v) : v = .int k n := by
  unfold isN at e
  split at e
  · simp only [Bool.and_eq_true, Nat.beq_eq] at e
    cases hd
    rw [keq_ok e.1, e.2]; rfl
  · cases e
theorem isNils_ok {s : S} {v : Value} (e : isNils s = true) (hd : s.den U m = some v) : v = .slice none 0 0 := by
  unfold isNils at e
  split at e
  · cases hd; rfl
  · cases e
theorem isUk0_ok {s : S} {v : Value} (e : isUk0 s = true) (hd : s.den U m = some v) : v = U.k 0 := by
  unfold isUk0 at e
  split at e
  · cases hd; rfl
  · cases e
theorem asSl1_ok {s : S} {q : Pa × Nat × Nat} {v : Value} (e : asSl1 s = some q) (hd : s.den U m = some v) : ∃ b x c, m q.1 = some (b, x) ∧ v = .slice (some ⟨b, q.2.1, none⟩) q.2.2 c := by
  unfold asSl1 at e
  split at e
  · obtain ⟨h1, e⟩ := oif_some e
    cases e
    have := Nat.eq_of_beq_eq_true h1; subst this
    obtain ⟨c, x, h2, _, rfl⟩ := den_slE (U := U) (m := m) hd
    exact ⟨c, _, _, h2, by rw [Nat.mul_one]⟩
  · cases e

/-- a block whole, in the world -/
theorem blkL_ok (r : Rel U w0 prot m h w) {p : Pa} {T k c : Nat} {x : Nat × Nat} {l : List S} (e : blkL h p T k = some l) (hm : m p = some (c, x)) : ∃ vs, denL U m l = some vs ∧ w.heap[c]? = some (.cells vs.toArray T (0, 0)) ∧ ∃ o, h.tr.at p = some o := by
  obtain ⟨o, h1, e⟩ := ob_some e
  cases o with
  | map _ => cases e
  | cells cc t n =>
    rw [oif_eq] at e
    obtain ⟨h2, e⟩ := e
    simp only [Bool.and_eq_true, Nat.beq_eq] at h2
    obtain ⟨rfl, rfl⟩ := h2
    obtain ⟨cur, k1, k2, k3, k4⟩ := r.cells hm h1
    have hsz := r.exact hm h1 k1 (show 2 * T % 2 = 0 by omega)
    obtain ⟨vs, j1, j2, j3⟩ := rdL_ok (fun i s hs => (k4 i s hs).2) _ _ e
    refine ⟨vs, j1, ?_, _, h1⟩
    rw [k1]
    have e1 : Nat.mul 2 T / 2 = T := show 2 * T / 2 = T by omega
    rw [e1]
    have hcur : cur = vs.toArray := by
      apply Array.ext_getElem?
      intro i
      have e2 : vs.toArray[i]? = vs[i]? := by simp
      rw [e2]
      by_cases hi : i < vs.length
      · have := j3 i _ (List.getElem?_eq_getElem hi)
        rw [Nat.zero_add] at this
        rw [this, List.getElem?_eq_getElem hi]
      · have hj : vs.length = n := j2
        rw [List.getElem?_eq_none (by omega), Array.getElem?_eq_none (by omega)]
    rw [hcur]
theorem u64L_ok : ∀ {l : List S} {r : List Nat} {vs : List Value}, u64L l = some r → denL U m l = some vs → vs = r.map (fun (v : Nat) => Value.int .u64 v) ∧ ∀ v ∈ r, U64 v
  | [], r, vs, e, hd => by cases e; cases hd; exact ⟨rfl, fun v hv => (by cases hv)⟩
  | s :: l, r, vs, e, hd => by
    obtain ⟨v, e1, e⟩ := ob_some (show (ob (asN .u64 s) fun v => oif (Nat.blt v 18446744073709551616) (ob (u64L l) fun r => some (v :: r))) = some r from e)
    obtain ⟨e2, e⟩ := oif_some e
    obtain ⟨r', e3, e⟩ := ob_some e
    cases e
    obtain ⟨u, d1, hd⟩ := ob_some hd
    obtain ⟨us, d2, hd⟩ := ob_some hd
    cases hd
    have := asN_ok e1 d1; subst this
    obtain ⟨h1, h2⟩ := u64L_ok e3 d2
    subst h1
    refine ⟨rfl, fun x hx => ?_⟩
    rcases List.mem_cons.1 hx with rfl | hx
    · unfold U64; exact blt_iff.1 e2
    · exact h2 x hx
theorem u64L_len : ∀ {l : List S} {r : List Nat}, u64L l = some r → r.length = l.length
  | [], r, e => by cases e; rfl
  | s :: l, r, e => by
    obtain ⟨v, e1, e⟩ := ob_some (show (ob (asN .u64 s) fun v => oif (Nat.blt v 18446744073709551616) (ob (u64L l) fun r => some (v :: r))) = some r from e)
    obtain ⟨e2, e⟩ := oif_some e
    obtain ⟨r', e3, e⟩ := ob_some e
    cases e
    simp [u64L_len e3]
theorem rdL_len (c : Tr S) : ∀ (k i : Nat) {l : List S}, rdL c i k = some l → l.length = k
  | 0, i, l, e => by cases e; rfl
  | k + 1, i, l, e => by
    obtain ⟨s, h1, e⟩ := ob_some (show (ob (c.at (paN i)) fun s => ob (rdL c (Nat.succ i) k) fun l => some (s :: l)) = some l from e)
    obtain ⟨l', h2, e⟩ := ob_some e
    cases e
    simp [rdL_len c k _ h2]
theorem rdL_get (c : Tr S) : ∀ (k i : Nat) {l : List S}, rdL c i k = some l → ∀ j s, l[j]? = some s → c.at (paN (i + j)) = some s
  | 0, i, l, e, j, s, h => by cases e; simp at h
  | k + 1, i, l, e, j, s, h => by
    obtain ⟨x, h1, e⟩ := ob_some (show (ob (c.at (paN i)) fun s => ob (rdL c (Nat.succ i) k) fun l => some (s :: l)) = some l from e)
    obtain ⟨l', h2, e⟩ := ob_some e
    cases e
    cases j with
    | zero => cases h; exact h1
    | succ j =>
      have := rdL_get c k _ h2 j s (by simpa using h)
      rw [show i.succ + j = i + (j + 1) by omega] at this
      exact this
theorem blkL_len {p : Pa} {T k : Nat} {l : List S} (e : blkL h p T k = some l) : l.length = k := by
  obtain ⟨o, h1, e⟩ := ob_some e
  cases o with
  | map _ => cases e
  | cells cc t n =>
    obtain ⟨h2, e⟩ := oif_some e
    exact rdL_len _ _ _ e
theorem rRow_ok (r : Rel U w0 prot m h w) {s : S} {q : Pa × List Nat} {v : Value} (e : rRow h s = some q) (hd : s.den U m = some v) :
    ∃ b x c o, m q.1 = some (b, x) ∧ v = .slice (some ⟨b, 0, none⟩) q.2.length c ∧ w.heap[b]? = some (.cells (u64s q.2) 26 (0, 0)) ∧ (∀ v ∈ q.2, U64 v) ∧ h.tr.at q.1 = some o := by
  obtain ⟨p, e1, e⟩ := ob_some e
  obtain ⟨e2, e⟩ := oif_some e
  obtain ⟨l, e3, e⟩ := ob_some e
  obtain ⟨r', e4, e⟩ := ob_some e
  cases e
  obtain ⟨b, x, c, h1, rfl⟩ := asSl1_ok e1 hd
  obtain ⟨vs, h2, h3, o, h4⟩ := blkL_ok r e3 h1
  obtain ⟨h5, h6⟩ := u64L_ok e4 h2
  have e2 := Nat.eq_of_beq_eq_true e2
  have hlen : p.2.2 = r'.length := by
    have h7 := blkL_len e3
    have h8 := u64L_len e4
    omega
  refine ⟨b, x, c, o, h1, by rw [e2, hlen], by rw [h3, h5]; rfl, h6, h4⟩
theorem rdc_no {X : List Pa} {b : Pa} (hb : anyPa X b = false) (o : Nat) : rdc [] h b o = rdc X h b o := by
  unfold rdc
  rw [hb]; rfl
theorem rRows_ok (r : Rel U w0 prot m h w) {X : List Pa} {Z : Nat → Option Obj} (hz : ZR U m h X Z) {b : Pa} {cb : Nat} {xb : Nat × Nat} (h1 : m b = some (cb, xb)) (hb : anyPa X b = false) : ∀ {n o : Nat} {l : List (Pa × List Nat)}, rRows h b n o = some l →
    l.length = n ∧ ∀ (i : Nat) (p : Pa) (y : List Nat), l[i]? = some (p, y) → ∃ bi xi ci oi, m p = some (bi, xi) ∧ Zc Z cb (o + i) (.slice (some ⟨bi, 0, none⟩) y.length ci) ∧ w.heap[bi]? = some (.cells (u64s y) 26 (0, 0)) ∧ (∀ v ∈ y, U64 v) ∧ h.tr.at p = some oi
  | 0, o, l, e => by cases e; exact ⟨rfl, fun i p y e => by simp at e⟩
  | n + 1, o, l, e => by
    replace e : (ob (rdc [] h b o) fun s => ob (rRow h s) fun r => ob (rRows h b n (Nat.succ o)) fun l => some (r :: l)) = some l := e
    obtain ⟨s, e1, e⟩ := ob_some e
    obtain ⟨q, e2, e⟩ := ob_some e
    obtain ⟨l', e3, e⟩ := ob_some e
    cases e
    rw [rdc_no hb] at e1
    obtain ⟨v, d1, z1⟩ := rdc_zc hz h1 e1
    obtain ⟨bi, xi, ci, oi, k1, rfl, k3, k4, k5⟩ := rRow_ok r e2 d1
    obtain ⟨j1, j2⟩ := rRows_ok r hz h1 hb e3
    refine ⟨by simp [j1], fun i p y e => ?_⟩
    cases i with
    | zero => cases e; exact ⟨bi, xi, ci, oi, k1, z1, k3, k4, k5⟩
    | succ i =>
      have := j2 i p y (by simpa using e)
      rw [show o.succ + i = o + (i + 1) by omega] at this
      exact this
/-- the rows' blocks in the world -/
def gbL (m : M) (rs : List (Pa × List Nat)) : List Nat := rs.map fun q => match m q.1 with | some y => y.1 | none => 0
theorem gbL_get {rs : List (Pa × List Nat)} {i : Nat} {p : Pa} {y : List Nat} {b : Nat} {x : Nat × Nat} (h1 : rs[i]? = some (p, y)) (h2 : m p = some (b, x)) : (gbL m rs)[i]? = some b := by
  unfold gbL
  rw [List.getElem?_map, h1]
  show some (match m p with | some y => y.1 | none => 0) = _
  rw [h2]
theorem gbL_get' {rs : List (Pa × List Nat)} {i b : Nat} (h1 : (gbL m rs)[i]? = some b) : ∃ p y, rs[i]? = some (p, y) ∧ b = (match m p with | some y => y.1 | none => 0) := by
  unfold gbL at h1
  rw [List.getElem?_map] at h1
  cases hq : rs[i]? with
  | none => rw [hq] at h1; cases h1
  | some q => rw [hq] at h1; cases h1; exact ⟨q.1, q.2, rfl, rfl⟩
theorem ndP_cons {p : Pa} {X : List Pa} (e : ndP (p :: X) = true) : anyPa X p = false ∧ ndP X = true := by
  have e : and (not (anyPa X p)) (ndP X) = true := e
  simp only [Bool.and_eq_true, Bool.not_eq_true'] at e
  exact e
theorem gbL_nodup (r : Rel U w0 prot m h w) : ∀ {rs : List (Pa × List Nat)}, ndP (psL rs) = true → (∀ (i : Nat) (p : Pa) (y : List Nat), rs[i]? = some (p, y) → ∃ b x o, m p = some (b, x) ∧ h.tr.at p = some o) → (gbL m rs).Nodup
  | [], _, _ => List.nodup_nil
  | q :: rs, e, hr => by
    obtain ⟨e1, e2⟩ := ndP_cons (p := q.1) (X := psL rs) e
    have ih := gbL_nodup r e2 fun i p y h => hr (i + 1) p y (by simpa using h)
    obtain ⟨b, x, o, h1, h2⟩ := hr 0 q.1 q.2 rfl
    show ((match m q.1 with | some y => y.1 | none => 0) :: gbL m rs).Nodup
    rw [h1]
    refine List.nodup_cons.2 ⟨fun hm => ?_, ih⟩
    obtain ⟨i, hi⟩ := List.getElem?_of_mem hm
    obtain ⟨p, y, h3, h4⟩ := gbL_get' hi
    obtain ⟨b', x', o', h5, h6⟩ := hr (i + 1) p y (by simpa using h3)
    rw [h5] at h4
    have h4 : b = b' := h4
    subst h4
    have := r.inj _ _ _ _ _ _ _ h1 h5 h2 h6
    have hmem : q.1 ∈ psL rs := by
      rw [this]
      exact List.mem_map.2 ⟨(p, y), List.mem_of_getElem? h3, rfl⟩
    rw [anyPa_iff.2 hmem] at e1
    cases e1

/-- The machine, made ready. -/
theorem rMach_ok (r : Rel U w0 prot m h w) {mp : Pa} {mb : Nat} {x : Nat × Nat} (hm : m mp = some (mb, x)) {q : ((Pa × Nat × Nat) × (Pa × Nat × Nat)) × S} (e : rMach h mp = some q) {rs : List (Pa × List Nat)} (eg : rGl h q.2 = some rs) (en : ndP (mp :: psL rs) = true) (eo : offX (mp :: psL rs) q.2 = true) :
    ∃ bb xb cb fb xf cf gv, m q.1.1.1 = some (bb, xb) ∧ m q.1.2.1 = some (fb, xf) ∧ q.1.1.2.2 = q.1.2.2.2 ∧ q.1.1.2.2 ≤ 1000000 ∧ gv.oneCell' = true ∧
      (∀ A : Adr, A.gs = gv → A.gb = gbL m rs → A.ns = nsL rs → RowsOK (Zof w prot m h (mp :: psL rs)) A (nsL rs)) ∧
      MachAt ⟨mb, 200000, U.k 0, gv, .slice (some ⟨bb, q.1.1.2.1, none⟩) q.1.1.2.2 cb, .slice (some ⟨fb, q.1.2.2.1, none⟩) q.1.2.2.2 cf, gbL m rs, nsL rs⟩ (Kof prot m h (mp :: psL rs)) w ⟨0, [], 0, 0, vsL rs⟩ := by
  obtain ⟨o, h1, e⟩ := ob_some e
  cases o with
  | map _ => cases e
  | cells c t k =>
    obtain ⟨h2, e⟩ := oif_some e
    simp only [Bool.and_eq_true, Nat.beq_eq] at h2
    obtain ⟨rfl, rfl⟩ := h2
    simp only [ob_eq, oif_eq] at e
    obtain ⟨_, s0, e0, s1, e1, s2, e2, s3, e3, s4, e4, s5, e5, s6, e6, s7, e7, s8, e8, s9, e9, s10, e10, s11, e11, g, q1, f1, q2, f2, f3, e⟩ := e
    cases e
    simp only [Bool.and_eq_true] at g
    obtain ⟨⟨g0, g1⟩, ⟨g2, g3⟩, ⟨g4, g5⟩, ⟨g6, g7⟩, g9⟩ := g
    obtain ⟨cur, k1, k2, k3, k4⟩ := r.cells hm h1
    have hsz := r.exact hm h1 k1 (show 2 * _ % 2 = 0 by omega)
    have ty : (Nat.mul 2 95) / 2 = 95 := by decide
    rw [ty] at k1
    obtain ⟨_, v0, d0, c0⟩ := k4 0 _ e0
    obtain ⟨_, v1, d1, c1⟩ := k4 1 _ e1
    obtain ⟨_, v2, d2, c2⟩ := k4 2 _ e2
    obtain ⟨_, v3, d3, c3⟩ := k4 3 _ e3
    obtain ⟨_, v4, d4, c4⟩ := k4 4 _ e4
    obtain ⟨_, v5, d5, c5⟩ := k4 5 _ e5
    obtain ⟨_, v6, d6, c6⟩ := k4 6 _ e6
    obtain ⟨_, v7, d7, c7⟩ := k4 7 _ e7
    obtain ⟨_, gv, d8, c8⟩ := k4 8 _ e8
    obtain ⟨_, v9, d9, c9⟩ := k4 9 _ e9
    obtain ⟨_, v10, d10, c10⟩ := k4 10 _ e10
    obtain ⟨_, v11, d11, c11⟩ := k4 11 _ e11
    have := isN_ok g0 d0; subst this
    have := isN_ok g1 d1; subst this
    have := isNils_ok g2 d2; subst this
    have := isN_ok g3 d3; subst this
    have := isN_ok g4 d4; subst this
    have := isN_ok g5 d5; subst this
    have := isN_ok g6 d6; subst this
    have := isUk0_ok g7 d7; subst this
    have := isN_ok g9 d9; subst this
    obtain ⟨bb, xb, cb, m1, rfl⟩ := asSl1_ok f1 d10
    obtain ⟨fb, xf, cf, m2, rfl⟩ := asSl1_ok f2 d11
    simp only [Bool.and_eq_true, Nat.beq_eq, Nat.ble_eq] at f3
    have hzr := zof_zr (X := mp :: psL rs) r
    obtain ⟨en1, en2⟩ := ndP_cons en
    -- the rows
    have hrows : (∀ (i : Nat) (p : Pa) (y : List Nat), rs[i]? = some (p, y) → ∃ bi xi oi, m p = some (bi, xi) ∧ w.heap[bi]? = some (.cells (u64s y) 26 (0, 0)) ∧ (∀ v ∈ y, U64 v) ∧ h.tr.at p = some oi) ∧ gv.oneCell' = true ∧
        (∀ A : Adr, A.gs = gv → A.gb = gbL m rs → A.ns = nsL rs → RowsOK (Zof w prot m h (mp :: psL rs)) A (nsL rs)) := by
      replace eg : rGl h s8 = some rs := eg
      replace eo : offX (mp :: psL rs) s8 = true := eo
      unfold rGl at eg
      split at eg
      · cases eg
        cases d8
        exact ⟨fun i p y e => by simp at e, rfl, fun A _ _ _ k n e => by simp [nsL] at e⟩
      · rename_i b o n z _
        rw [oif_eq] at eg
        obtain ⟨eg1, eg⟩ := eg
        simp only [Bool.and_eq_true, Nat.beq_eq, Nat.ble_eq] at eg1
        obtain ⟨hz1, hn⟩ := eg1
        subst hz1
        obtain ⟨cg, x, hmg, _, rfl⟩ := den_slE (U := U) (m := m) d8
        have hoff : anyPa (mp :: psL rs) b = false := by
          have eo : (!(anyPa (mp :: psL rs) b)) = true := eo
          simpa using eo
        obtain ⟨j1, j2⟩ := rRows_ok r hzr hmg hoff eg
        refine ⟨fun i p y e => (let ⟨bi, xi, ci, oi, q1, q2, q3, q4, q5⟩ := j2 i p y e; ⟨bi, xi, oi, q1, q3, q4, q5⟩), rfl, fun A a1 a2 a3 k n e => ?_⟩
        have e' := e
        unfold nsL at e
        rw [List.getElem?_map] at e
        cases hq : rs[k]? with
        | none => rw [hq] at e; cases e
        | some py =>
          rw [hq] at e
          cases e
          obtain ⟨bi, xi, ci, oi, q1, q2, q3, q4, q5⟩ := j2 k py.1 py.2 hq
          have hlt : k < rs.length := (List.getElem?_eq_some_iff.1 hq).1
          exact ⟨cg, o, n, _, bi, ci, by rw [a1, Nat.mul_one], by omega, hn, q2, by rw [a2]; exact gbL_get hq q1, by rw [a3]; exact e'⟩
      · cases eg
    obtain ⟨hr1, hgv, hro⟩ := hrows
    refine ⟨bb, xb, cb, fb, xf, cf, gv, m1, m2, f3.1, f3.2, hgv, hro, ?_⟩
    have hcur : cur = mCells ⟨mb, 200000, U.k 0, gv, .slice (some ⟨bb, q1.2.1, none⟩) q1.2.2 cb, .slice (some ⟨fb, q2.2.1, none⟩) q2.2.2 cf, gbL m rs, nsL rs⟩ 0 0 (.slice none 0 0) 0 0 0 := by
      apply Array.ext_getElem?
      intro i
      match i with
      | 0 => exact c0
      | 1 => exact c1
      | 2 => exact c2
      | 3 => exact c3
      | 4 => exact c4
      | 5 => exact c5
      | 6 => exact c6
      | 7 => exact c7
      | 8 => exact c8
      | 9 => exact c9
      | 10 => exact c10
      | 11 => exact c11
      | i + 12 => rw [Array.getElem?_eq_none (by omega), Array.getElem?_eq_none (by simp [mCells])]
    rw [hcur] at k1
    have notK : ∀ {p : Pa} {b : Nat} {y : Nat × Nat} {o : Ob}, m p = some (b, y) → h.tr.at p = some o → p ∈ mp :: psL rs → ¬ Kof prot m h (mp :: psL rs) b := fun {p b y o} a1 a2 a3 hk => by
      rcases hk with hk | ⟨p', y', o', j1, j2, j3⟩
      · exact (r.keep b hk).2.2 p y a1
      · have := r.inj p' p b y' y _ _ j1 a1 j2 a2
        subst this
        rw [anyPa_iff.2 a3] at j3
        cases j3
    have hmem : ∀ {i : Nat} {p : Pa} {y : List Nat}, rs[i]? = some (p, y) → p ∈ psL rs := fun {i p y} e => List.mem_map.2 ⟨(p, y), List.mem_of_getElem? e, rfl⟩
    refine ⟨⟨.slice none 0 0, k1, ⟨rfl, .inl ⟨rfl, rfl⟩⟩, fun k e => by cases e⟩, ⟨notK hm h1 List.mem_cons_self, fun hq => ?_⟩, gbL_nodup r en2 fun i p y e => (let ⟨b, x, o, q1, _, _, q4⟩ := hr1 i p y e; ⟨b, x, o, q1, q4⟩), ⟨by simp [gbL, vsL], ?_⟩, fun i b l e e' => ?_, Nat.zero_le _, Nat.le_refl _, Nat.zero_le _, Nat.zero_le _, Nat.zero_le _, kof_lt r⟩
    · obtain ⟨i, hi⟩ := List.getElem?_of_mem hq
      obtain ⟨p, y, h3, h4⟩ := gbL_get' hi
      obtain ⟨b, x', o, q1, _, _, q4⟩ := hr1 i p y h3
      rw [q1] at h4
      have h4 : mb = b := h4
      subst h4
      have := r.inj _ _ _ _ _ _ _ hm q1 h1 q4
      rw [anyPa_iff.2 (this ▸ hmem h3)] at en1
      cases en1
    · show nsL rs = (vsL rs).map List.length
      unfold nsL vsL
      rw [List.map_map]; rfl
    · obtain ⟨p, y, h3, h4⟩ := gbL_get' e
      obtain ⟨b', x', o, q1, q2, q3, q4⟩ := hr1 i p y h3
      rw [q1] at h4
      have h4 : b = b' := h4
      subst h4
      have e' : (vsL rs)[i]? = some l := e'
      unfold vsL at e'
      rw [List.getElem?_map, h3] at e'
      cases e'
      exact ⟨notK q1 q4 (List.mem_cons_of_mem _ (hmem h3)), q2, q3⟩

variable {Z : Nat → Option Obj} {A : Adr} {inp : List Nat}
theorem rBd_ok (hz : ZR U m h X Z) {ns : List Nat} {d : Nat} {b fb : Pa} {cb cf : Nat} {xb xf : Nat × Nat} (h1 : m b = some (cb, xb)) (h2 : m fb = some (cf, xf)) : ∀ {n o fo : Nat} {l : List (List Sm × Nat)}, rBd X h ns d b fb n o fo = some l →
    l.length = n ∧ ∀ i lb z, l[i]? = some (lb, z) → z ≤ 1000000 ∧ (∃ s v, s.den U m = some v ∧ (rd X h ns d).b s = some lb ∧ Zc Z cb (o + i) v) ∧ Zc Z cf (fo + i) (.int .i64 z)
  | 0, o, fo, l, e => by cases e; exact ⟨rfl, fun i lb z e => by simp at e⟩
  | n + 1, o, fo, l, e => by
    replace e : (ob (rdc X h b o) fun v => ob ((rd X h ns d).b v) fun l => ob (rdc X h fb fo) fun u => ob (asN .i64 u) fun z => oif (Nat.ble z 1000000) (ob (rBd X h ns d b fb n (Nat.succ o) (Nat.succ fo)) fun r => some ((l, z) :: r))) = some l := e
    simp only [ob_eq, oif_eq] at e
    obtain ⟨v, e1, lb, e2, u, e3, z, e4, e5, r, e6, e⟩ := e
    cases e
    obtain ⟨v1, d1, z1⟩ := rdc_zc hz h1 e1
    obtain ⟨v2, d2, z2⟩ := rdc_zc hz h2 e3
    have := asN_ok e4 d2; subst this
    obtain ⟨k1, k2⟩ := rBd_ok hz h1 h2 e6
    refine ⟨by simp [k1], fun i lb' z' e => ?_⟩
    cases i with
    | zero => cases e; exact ⟨Nat.ble_eq ▸ e5, ⟨v, v1, d1, e2, z1⟩, z2⟩
    | succ i =>
      obtain ⟨q1, ⟨s, v3, q2, q3, q4⟩, q5⟩ := k2 i lb' z' (by simpa using e)
      rw [show o.succ + i = o + (i + 1) by omega] at q4
      rw [show fo.succ + i = fo + (i + 1) by omega] at q5
      exact ⟨q1, ⟨s, v3, q2, q3, q4⟩, q5⟩

/-- What was made ready is run. -/
theorem ready_ok (r : Rel U w0 prot m h w) (hi : InpW prot w0 U inp) {d : Nat} {vs : List V} {us : List Value} {q : (Pa × List Pa) × Rdy} (e : rRdy d h vs = some q) (hd : denVL U m vs = some us) :
    ∃ A : Adr, ∃ x, m q.1.1 = some (A.mb, x) ∧ A.lim = 200000 ∧ A.inp = U.k 0 ∧ A.gs.oneCell' = true ∧ A.bods.oneCell' = true ∧ A.frs.oneCell' = true ∧ (∃ o, h.tr.at q.1.1 = some o) ∧ q.1.1 ∈ q.1.2 ∧ ∀ n rx, evF inp q.2.bd n q.2.k [] ⟨0, [], 0, 0, q.2.gl⟩ = some rx →
      Calls Tryz.prog 50 us.toArray w (PostX A (Kof prot m h q.1.2) w rx) := by
  unfold rRdy at e
  split at e
  · rename_i mp k
    simp only [ob_eq, oif_eq] at e
    obtain ⟨q', e1, rs, eg, en, bd, e2, e⟩ := e
    cases e
    simp only [Bool.and_eq_true] at en
    obtain ⟨v1, l1, d1, d2, rfl⟩ := denVL_cons hd
    obtain ⟨v2, l2, d3, d4, rfl⟩ := denVL_cons d2
    obtain ⟨v3, l3, d5, d6, rfl⟩ := denVL_cons d4
    cases d6; cases d5; cases d3
    obtain ⟨mb, x, hm, rfl⟩ := den_ptrE (U := U) (m := m) d1
    obtain ⟨bb, xb, cb, fb, xf, cf, gv, m1, m2, hn, hle, hgv, hro, hM⟩ := rMach_ok r hm e1 eg en.1 en.2
    have hzr := zof_zr (X := mp :: psL rs) r
    obtain ⟨A, hA⟩ : ∃ A : Adr, A = ⟨mb, 200000, U.k 0, gv, .slice (some ⟨bb, q'.1.1.2.1, none⟩) q'.1.1.2.2 cb, .slice (some ⟨fb, q'.1.2.2.1, none⟩) q'.1.2.2.2 cf, gbL m rs, nsL rs⟩ := ⟨_, rfl⟩
    rw [← hA] at hM
    have hro' := hro A (by rw [hA]) (by rw [hA]) (by rw [hA])
    refine ⟨A, x, by rw [hA]; exact hm, by rw [hA], by rw [hA], by rw [hA]; exact hgv, by rw [hA]; rfl, by rw [hA]; rfl, (let ⟨o, h1, _⟩ := ob_some e1; ⟨o, h1⟩), List.mem_cons_self, fun n rx he => ?_⟩
    obtain ⟨k1, k2⟩ := rBd_ok hzr m1 m2 e2
    have hbod : BodOK U m h (mp :: psL rs) (nsL rs) (Zof w prot m h (mp :: psL rs)) A bd := fun k lb z hk => by
      obtain ⟨j1, ⟨s, v, j2, j3, j4⟩, j5⟩ := k2 k lb z hk
      have hlt : k < bd.length := (List.getElem?_eq_some_iff.1 hk).1
      exact ⟨j1, d, s, v, j2, j3, fun g c hv => ⟨fb, _, _, _, bb, _, _, _, by rw [hA], by rw [hA], by omega, by omega, by omega, by omega, j5, by rw [← hv]; exact j4⟩⟩
    have hmb : A.mb = mb := by rw [hA]
    have := (rd_ok hzr (inp_at r hi (A := A) (by rw [hA])) hro' hbod n 0).f k _ w _ [] _ rx zof_has hM ⟨by simp, by simp, none, 0, rfl, fun h => by simp at h⟩ he
    rw [hmb] at this
    exact this
  · cases e
end
end Go.Proofs.YtgmmfjmdpbhjnaaGreat

/-
  eval.Run, behind machine.run: what it tells.
-/
namespace Go.Proofs.YtgmmfjmdpbhjnaaGreat
open Go Go.RowKit Go.XM

/-- a block of the world is laid on paper -/
noncomputable def layB (l : List S) (T : Nat) (h : Hp) : Option Hp := ob (trL l 0 .nil) fun t => h.new (.cells t (Nat.mul 2 T) l.length)
section
variable {U : UU} {w0 : World} {prot : PP} {m : M} {h h' : Hp} {w : World}
theorem adopt (r : Rel U w0 prot m h w) {o : Ob} {c : Nat} {x : Nat × Nat} (e : h.new o = some h') (hc : c < w.heap.size) (hp : ¬ prot.c c) (hm : ∀ b x, m b ≠ some (c, x)) (ho : ObR U m x o w.heap[c]?) :
    Rel U w0 prot (m.upd (paN h.next) (c, x)) h' w := by
  obtain ⟨r', hn, hat⟩ := r.paper e
  have hnew := r.new h.next (Nat.le_refl _)
  have hle : m.le (m.upd (paN h.next) (c, x)) := M.le_upd hnew
  refine ⟨r.os, r.tape, r.output, r.size, fun k hk => ⟨(r.keep k hk).1, (r.keep k hk).2.1, fun b y e => ?_⟩, fun b k y e => ?_, fun n hn' => ?_, fun b b' k y y' o₁ o₂ e e' f f' => ?_, fun b k y o₁ e f => ?_, fun p o' e => ?_⟩
  · by_cases hb : b = paN h.next
    · subst hb; rw [M.upd_same] at e; cases e; exact hp hk
    · rw [M.upd_ne _ _ hb] at e; exact (r.keep k hk).2.2 b y e
  · by_cases hb : b = paN h.next
    · subst hb; rw [M.upd_same] at e; cases e; exact hc
    · rw [M.upd_ne _ _ hb] at e; exact r.lt b k y e
  · have : paN n ≠ paN h.next := paN_ne (by omega)
    rw [M.upd_ne _ _ this]; exact r.new n (by omega)
  · by_cases hb : b = paN h.next <;> by_cases hb' : b' = paN h.next
    · rw [hb, hb']
    · subst hb; rw [M.upd_same] at e; cases e
      rw [M.upd_ne _ _ hb'] at e'; exact absurd e' (hm _ _)
    · subst hb'; rw [M.upd_same] at e'; cases e'
      rw [M.upd_ne _ _ hb] at e; exact absurd e (hm _ _)
    · rw [M.upd_ne _ _ hb] at e; rw [M.upd_ne _ _ hb'] at e'
      exact r'.inj b b' k y y' o₁ o₂ e e' f f'
  · by_cases hb : b = paN h.next
    · subst hb; rw [M.upd_same] at e; cases e
      rw [hat] at f; cases f
      exact ObR_mono hle ho
    · rw [M.upd_ne _ _ hb] at e
      exact ObR_mono hle (r'.obj b k y o₁ e f)
  · have ⟨h1, h2, k, hk, h3⟩ := r'.pend p o' e
    have ⟨_, _, k', hk', h3'⟩ := r.pend p o' e
    have : p ≠ paN h.next := by rw [h3']; exact paN_ne (by omega)
    exact ⟨by rw [M.upd_ne _ _ this]; exact h1, h2, k, hk, h3⟩
theorem adoptL (r : Rel U w0 prot m h w) {l : List S} {T c : Nat} {vs : List Value} (e : layB l T h = some h') (hp : ¬ prot.c c) (hm : ∀ b x, m b ≠ some (c, x)) (hd : denL U m l = some vs) (hc : w.heap[c]? = some (.cells vs.toArray T (0, 0))) :
    Rel U w0 prot (m.upd (paN h.next) (c, (1, vs.length))) h' w ∧ h'.next = h.next + 1 := by
  obtain ⟨t, h1, e⟩ := ob_some e
  refine ⟨adopt r e (blk_lt hc) hp hm ?_, (r.paper e).2.1⟩
  rw [hc]
  exact ObR_list hd h1 (by simp) (by simp [maxLen])
/-- nothing on paper yet -/
theorem rel_none (U : UU) (w : World) (C : Nat → Prop) (hC : ∀ c, C c → c < w.heap.size) : Rel U w ⟨C, fun _ _ => False⟩ (fun _ => none) ⟨.nil, 0⟩ w :=
  ⟨rfl, rfl, rfl, Nat.le_refl _, fun c hc => ⟨hC c hc, rfl, fun _ _ e => (by cases e)⟩, fun _ _ _ e => (by cases e), fun _ _ => rfl, fun _ _ _ _ _ _ _ e => (by cases e), fun _ _ _ _ e => (by cases e), fun _ _ e => e.elim⟩
end

/-- a call's slots that are known -/
noncomputable def trS (ks : List Nat) : List (Nat × V) → Option (Tr V)
  | [] => some .nil
  | x :: r => ob (trS ks r) fun t => ob (idx x.1 ks) fun j => t.put x.2 (paN j)
theorem trS_ok {ks : List Nat} : ∀ {l : List (Nat × V)} {t : Tr V}, trS ks l = some t → ∀ s k v, idx s ks = some k → t.at (paN k) = some v → (s, v) ∈ l
  | [], t, e, s, k, v, hk, hv => by cases e; cases hv
  | x :: r, t, e, s, k, v, hk, hv => by
    obtain ⟨t1, e1, e⟩ := ob_some e
    obtain ⟨j, e2, e⟩ := ob_some e
    by_cases hs : s = x.1
    · subst hs
      rw [e2] at hk; cases hk
      rw [put_same _ _ _ _ e] at hv
      cases hv
      exact List.mem_cons_self
    · have : paN j ≠ paN k := paN_ne fun q => hs (idx_inj hk (by rw [← q]; exact e2))
      rw [put_ne _ _ _ _ _ this e] at hv
      exact List.mem_cons_of_mem _ (trS_ok e1 s k v hk hv)
end Go.Proofs.YtgmmfjmdpbhjnaaGreat

/-
  eval.Run, whole.
-/
namespace Go.Proofs.YtgmmfjmdpbhjnaaGreat
open Go Go.RowKit Go.XM

noncomputable def slotP (st : St) (t : Nat) : Option Pa := ob (idx t (ks 30)) fun k => ob (st.env.tr.at (paN k)) fun v => match v with | .a (.s (.ptr p 0)) => some p | _ => none
noncomputable def isTold0 (l : List S) : Bool := match l with | [a, b, c, d, e', f] => and (and (isN .i64 0 a) (isN .i64 0 b)) (and (isNils c) (and (isN .i64 0 d) (and (isN .i64 0 e') (isN .u64 0 f)))) | _ => false
noncomputable def isOK0 (l : List S) : Bool := match l with | [a, b] => and (isN .i64 0 a) (isN .i64 0 b) | _ => false
/-- what stands on paper where eval.Run calls machine.run -/
noncomputable def chkRun (st : St) (mp : Pa) (X : List Pa) : Option (Pa × Pa × Pa) :=
  oif (match st.df with | [] => true | _ => false) <| ob (slotP st 10) fun p10 => oif (paEq p10 mp) (ob (slotP st 6) fun p6 => ob (slotP st 7) fun p7 => ob (slotP st 9) fun p9 =>
    oif (and (and (not (anyPa [mp, p7, p9] p6)) (not (anyPa [mp, p9] p7))) (not (anyPa [mp] p9)))
    (oif (and (and (not (anyPa X p6)) (not (anyPa X p7))) (not (anyPa X p9))) (ob (blkL st.hp p6 33 6) fun l6 => ob (blkL st.hp p7 51 2) fun l7 => ob (blkL st.hp p9 51 2) fun l9 => oif (and (isTold0 l6) (and (isOK0 l7) (isOK0 l9))) (some (p6, p7, p9)))))

noncomputable def told0 : List S := [.i .i64 0, .i .i64 0, .nils, .i .i64 0, .i .i64 0, .i .u64 0]
noncomputable def okF0 : List S := [.i .i64 0, .i .i64 0]
noncomputable def lmT (ok : Bool) : List S := Bool.rec [.uk 8, .uk 9, .uk 1, .uk 2, .uk 3, .i .u64 0, .i .i64 200000, .uk 0, .uk 4, .uk 5, .uk 6, .uk 7] [.i .i64 0, .i .i64 0, .uk 1, .uk 2, .uk 3, .i .u64 0, .i .i64 200000, .uk 0, .uk 4, .uk 5, .uk 6, .uk 7] ok
noncomputable def tailH (ok : Bool) : Option Hp := ob (layB (lmT ok) 95 ⟨.nil, 0⟩) fun h => ob (layB told0 33 h) fun h => ob (layB okF0 51 h) fun h => layB okF0 51 h
noncomputable def tailS : List (Nat × V) := [(10, .a (.s (.ptr (paN 0) 0))), (6, .a (.s (.ptr (paN 1) 0))), (7, .a (.s (.ptr (paN 2) 0))), (9, .a (.s (.ptr (paN 3) 0)))]
noncomputable def tailE (H : Hole) (ok : Bool) : Option E := ob (trS (ks 30) tailS) fun tr => ob (putD ⟨H.fn.ntmps, ks 30, []⟩ H.o.dst) fun g => g (.tup [.s (.uk 10), .s (.bo ok)]) ⟨[], tr⟩
noncomputable def xTail (ok : Bool) : Option (List S × List S) := ob hRun fun H => ob (tailH ok) fun h => ob (tailE H ok) fun env => ob (xtail (xreg Tryz.prog) Tryz.prog (ks 30) 100000 H (runW 120) env h) fun r => match r.1 with
  | .tup [.ag l, .ag f] => some (l, f)
  | _ => none
theorem xTail_true : xTail true = some ([.i .i64 1, .i .i64 0, .uk 1, .uk 2, .uk 3, .uk 10], [.i .i64 0, .i .i64 0]) := by kernel_rfl
theorem xTail_false : xTail false = some ([.uk 8, .uk 9, .uk 1, .uk 2, .uk 3, .i .u64 0], [.i .i64 0, .i .i64 0]) := by kernel_rfl

theorem upd_no {m : M} {p : Pa} {c c' : Nat} {y : Nat × Nat} (h : ∀ b x, m b ≠ some (c, x)) (hc : c' ≠ c) : ∀ b x, (m.upd p (c', y)) b ≠ some (c, x) := fun b x e => by
  by_cases hb : b = p
  · subst hb; rw [M.upd_same] at e; cases e; exact hc rfl
  · rw [M.upd_ne _ _ hb] at e; exact h b x e
set_option maxRecDepth 100000 in
/-- Behind machine.run. -/
theorem runTail {H : Hole} (hH : hRun = some H) {a : Act} {w1 : World} {ok : Bool} {vv : Nat} {c10 c6 c7 c9 : Nat} {U : UU} (hsz : a.tmps.size = H.fn.ntmps) (hds : a.defers = [])
    (t10 : a.tmps[10]? = some (ptrV c10)) (t6 : a.tmps[6]? = some (ptrV c6)) (t7 : a.tmps[7]? = some (ptrV c7)) (t9 : a.tmps[9]? = some (ptrV c9)) (k10 : U.k 10 = .int .u64 vv)
    {vm : List Value} (d10 : ∀ m : M, denL U m (lmT ok) = some vm) (b10 : w1.heap[c10]? = some (.cells vm.toArray 95 (0, 0)))
    (b6 : w1.heap[c6]? = some (.cells #[.int .i64 0, .int .i64 0, .slice none 0 0, .int .i64 0, .int .i64 0, .int .u64 0] 33 (0, 0)))
    (b7 : w1.heap[c7]? = some (.cells #[.int .i64 0, .int .i64 0] 51 (0, 0))) (b9 : w1.heap[c9]? = some (.cells #[.int .i64 0, .int .i64 0] 51 (0, 0)))
    (n1 : c10 ≠ c6) (n2 : c10 ≠ c7) (n3 : c10 ≠ c9) (n4 : c6 ≠ c7) (n5 : c6 ≠ c9) (n6 : c7 ≠ c9) {l : List S} (hx : xTail ok = some (l, [.i .i64 0, .i .i64 0])) {R : Ending → World → Prop}
    (K1 : ∀ (m3 : M) w3 vs, denL U m3 l = some vs → Keep (fun c => c < w1.heap.size ∧ c ≠ c10 ∧ c ≠ c6 ∧ c ≠ c7 ∧ c ≠ c9) w1 w3 → R (.returned (.tuple #[.agg vs.toArray, .agg #[.int .i64 0, .int .i64 0]])) w3) :
    wpList Tryz.prog H.ops (Exit.then (H.rest.wp Tryz.prog (bodyPostD Tryz.prog H.fn R)) (bodyPostD Tryz.prog H.fn R)) H.l (a.put H.o.dst (.tuple #[.int .u64 vv, .bool ok])) w1 := by
  unfold xTail at hx
  rw [hH] at hx
  obtain ⟨H', e0, hx⟩ := ob_some hx
  cases e0
  obtain ⟨h4, e1, hx⟩ := ob_some hx
  obtain ⟨env, e2, hx⟩ := ob_some hx
  obtain ⟨r, e3, hx⟩ := ob_some hx
  obtain ⟨h1, f1, e1⟩ := ob_some e1
  obtain ⟨h2, f2, e1⟩ := ob_some e1
  obtain ⟨h3, f3, f4⟩ := ob_some e1
  have r0 := rel_none U w1 (fun c => c < w1.heap.size ∧ c ≠ c10 ∧ c ≠ c6 ∧ c ≠ c7 ∧ c ≠ c9) fun c h => h.1
  obtain ⟨r1, x1⟩ := adoptL r0 f1 (fun h => h.2.1 rfl) (fun _ _ e => by cases e) (d10 _) b10
  have m1 := upd_no (m := fun _ => none) (p := paN 0) (c := c6) (c' := c10) (y := (1, vm.length)) (fun _ _ e => by cases e) n1
  obtain ⟨r2, x2⟩ := adoptL r1 f2 (c := c6) (vs := [.int .i64 0, .int .i64 0, .slice none 0 0, .int .i64 0, .int .i64 0, .int .u64 0]) (fun h => h.2.2.1 rfl) m1 rfl b6
  have x1 : h1.next = 1 := x1
  rw [x1] at r2 x2
  have m2 := upd_no (p := paN 1) (c := c7) (c' := c6) (y := (1, 6)) (upd_no (m := fun _ => none) (p := paN 0) (c := c7) (c' := c10) (y := (1, vm.length)) (fun _ _ e => by cases e) n2) n4
  obtain ⟨r3, x3⟩ := adoptL r2 f3 (c := c7) (vs := [.int .i64 0, .int .i64 0]) (fun h => h.2.2.2.1 rfl) m2 rfl b7
  rw [x2] at r3 x3
  have m3 := upd_no (p := paN 2) (c := c9) (c' := c7) (y := (1, 2)) (upd_no (p := paN 1) (c := c9) (c' := c6) (y := (1, 6)) (upd_no (m := fun _ => none) (p := paN 0) (c := c9) (c' := c10) (y := (1, vm.length)) (fun _ _ e => by cases e) n3) n5) n6
  obtain ⟨r4, x4⟩ := adoptL r3 f4 (c := c9) (vs := [.int .i64 0, .int .i64 0]) (fun h => h.2.2.2.2 rfl) m3 rfl b9
  rw [x3] at r4 x4
  simp only [Nat.reduceAdd, List.length_cons, List.length_nil] at r4
  have p0 : paN 0 ≠ paN 1 := paN_ne (by decide)
  have p1 : paN 0 ≠ paN 2 := paN_ne (by decide)
  have p2 : paN 0 ≠ paN 3 := paN_ne (by decide)
  have p3 : paN 1 ≠ paN 2 := paN_ne (by decide)
  have p4 : paN 1 ≠ paN 3 := paN_ne (by decide)
  have p5 : paN 2 ≠ paN 3 := paN_ne (by decide)
  obtain ⟨tr, g1, e2⟩ := ob_some e2
  obtain ⟨g, g2, g3⟩ := ob_some e2
  obtain ⟨mm, hM⟩ : ∃ mm : M, mm = M.upd (M.upd (M.upd (M.upd (fun _ => none) (paN 0) (c10, (1, vm.length))) (paN 1) (c6, (1, 6))) (paN 2) (c7, (1, 2))) (paN 3) (c9, (1, 2)) := ⟨_, rfl⟩
  have r4 : Rel U w1 ⟨fun c => c < w1.heap.size ∧ c ≠ c10 ∧ c ≠ c6 ∧ c ≠ c7 ∧ c ≠ c9, fun _ _ => False⟩ mm h4 w1 := by rw [hM]; exact r4
  have q0 : mm (paN 0) = some (c10, (1, vm.length)) := by rw [hM, M.upd_ne _ _ p2, M.upd_ne _ _ p1, M.upd_ne _ _ p0, M.upd_same]
  have q1 : mm (paN 1) = some (c6, (1, 6)) := by rw [hM, M.upd_ne _ _ p4, M.upd_ne _ _ p3, M.upd_same]
  have q2 : mm (paN 2) = some (c7, (1, 2)) := by rw [hM, M.upd_ne _ _ p5, M.upd_same]
  have q3 : mm (paN 3) = some (c9, (1, 2)) := by rw [hM, M.upd_same]
  clear hM r0 r1 r2 r3 m1 m2 m3
  have dp : ∀ {p : Pa} {c : Nat} {x : Nat × Nat}, mm p = some (c, x) → (V.a (.s (.ptr p 0))).den U mm = some (ptrV c) := fun {p c x} e => by
    show ob (mm p) _ = _
    rw [e]; rfl
  have ar : AR U mm ⟨H.fn.ntmps, ks 30, []⟩ (fun _ => True) ⟨[], tr⟩ a := by
    refine ⟨hsz, fun t k v _ e _ => (by cases e), fun t k v _ hk hv => ?_⟩
    have hmem := trS_ok g1 t k v hk hv
    simp only [tailS, List.mem_cons, List.not_mem_nil, or_false, Prod.mk.injEq] at hmem
    rcases hmem with ⟨rfl, rfl⟩ | ⟨rfl, rfl⟩ | ⟨rfl, rfl⟩ | ⟨rfl, rfl⟩
    · exact ⟨_, dp q0, t10⟩
    · exact ⟨_, dp q1, t6⟩
    · exact ⟨_, dp q2, t7⟩
    · exact ⟨_, dp q3, t9⟩
  have hv : (V.tup [.s (.uk 10), .s (.bo ok)]).den U mm = some (.tuple #[.int .u64 vv, .bool ok]) := by
    show some (Value.tuple #[U.k 10, .bool ok]) = _
    rw [k10]
  have ar2 := putD_ok g2 g3 ar hv
  refine xtail_ok (fun _ h => xreg_ok Tryz.checked.mixed h) (runW_ok 120) e3 ⟨r4, ar2, by rw [put_defers', hds]; trivial⟩ fun m' w' u hle hr hd => ?_
  split at hx
  · rename_i l' f' hq
    cases hx
    rw [hq] at hd
    obtain ⟨us, j1, hd⟩ := ob_some hd
    obtain ⟨ua, j2, j1⟩ := ob_some j1
    obtain ⟨ub, j3, j1⟩ := ob_some j1
    obtain ⟨vs, j4, rfl⟩ := den_agE (U := U) (m := m') j2
    have j3 : some [Value.agg #[.int .i64 0, .int .i64 0]] = some ub := j3
    cases j3; cases j1; cases hd
    exact K1 m' w' vs j4 ⟨hr.os, hr.tape, hr.output, hr.size, fun b hb => (hr.keep b hb).2.1⟩
  · cases hx
end Go.Proofs.YtgmmfjmdpbhjnaaGreat

/-
  eval.Run, whole: what it tells is what the tree means, or the end of ticks or of output.
-/
namespace Go.Proofs.YtgmmfjmdpbhjnaaGreat
open Go Go.RowKit Go.XM

/-- what a run tells -/
def ToldAt (C : Nat → Prop) (w : World) (rx : Rx) (u : Value) : Prop :=
  ∃ (how trap rd tk : Int) (res : Nat) (sa : Option Addr) (sn sc : Nat), u = .tuple #[.agg #[.int .i64 how, .int .i64 trap, .slice sa sn sc, .int .i64 rd, .int .i64 tk, .int .u64 res], .agg #[.int .i64 0, .int .i64 0]] ∧
    ((∃ v s, rx = .val v s ∧ how = 1 ∧ w.ownsRow 0 5 1 (.slice sa sn sc) s.out.length (bytes s.out) ∧ ∀ k, (Value.slice sa sn sc).ownBlock = some k → ¬ C k) ∨ ((200000 < rx.ms.tk ∨ 65536 < rx.ms.out.length) ∧ (how = 3 ∨ how = 5)) ∨ (how = 2 ∧ rx.wrong (trap, sn)))

section
variable {U : UU} {m : M}
theorem isTold0_ok {l : List S} {vs : List Value} (e : isTold0 l = true) (hd : denL U m l = some vs) : vs = [.int .i64 0, .int .i64 0, .slice none 0 0, .int .i64 0, .int .i64 0, .int .u64 0] := by
  unfold isTold0 at e
  split at e
  · simp only [Bool.and_eq_true] at e
    obtain ⟨⟨e1, e2⟩, e3, e4, e5, e6⟩ := e
    obtain ⟨v1, h1, hd⟩ := ob_some hd
    obtain ⟨k1, hd, q1⟩ := ob_some hd
    obtain ⟨v2, h2, hd⟩ := ob_some hd
    obtain ⟨k2, hd, q2⟩ := ob_some hd
    obtain ⟨v3, h3, hd⟩ := ob_some hd
    obtain ⟨k3, hd, q3⟩ := ob_some hd
    obtain ⟨v4, h4, hd⟩ := ob_some hd
    obtain ⟨k4, hd, q4⟩ := ob_some hd
    obtain ⟨v5, h5, hd⟩ := ob_some hd
    obtain ⟨k5, hd, q5⟩ := ob_some hd
    obtain ⟨v6, h6, hd⟩ := ob_some hd
    obtain ⟨k6, hd, q6⟩ := ob_some hd
    cases hd; cases q6; cases q5; cases q4; cases q3; cases q2; cases q1
    rw [isN_ok e1 h1, isN_ok e2 h2, isNils_ok e3 h3, isN_ok e4 h4, isN_ok e5 h5, isN_ok e6 h6]; rfl
  · cases e
theorem isOK0_ok {l : List S} {vs : List Value} (e : isOK0 l = true) (hd : denL U m l = some vs) : vs = [.int .i64 0, .int .i64 0] := by
  unfold isOK0 at e
  split at e
  · simp only [Bool.and_eq_true] at e
    obtain ⟨v1, h1, hd⟩ := ob_some hd
    obtain ⟨k1, hd, q1⟩ := ob_some hd
    obtain ⟨v2, h2, hd⟩ := ob_some hd
    obtain ⟨k2, hd, q2⟩ := ob_some hd
    cases hd; cases q2; cases q1
    rw [isN_ok e.1 h1, isN_ok e.2 h2]; rfl
  · cases e
theorem slotP_ok {K : SC} {st : St} {a : Act} {w w0 : World} {prot : PP} (s : SR U w0 prot m K st a w) (hk : K.ks = ks 30) {t : Nat} {p : Pa} (e : slotP st t = some p) : ∃ c x, m p = some (c, x) ∧ a.tmps[t]? = some (ptrV c) := by
  obtain ⟨k, e1, e⟩ := ob_some e
  obtain ⟨v, e2, e⟩ := ob_some e
  split at e
  · cases e
    obtain ⟨u, d1, d2⟩ := s.env.tr t k _ trivial (by rw [hk]; exact e1) e2
    obtain ⟨c, x, h1, rfl⟩ := den_ptrE (U := U) (m := m) d1
    exact ⟨c, x, h1, d2⟩
  · cases e
end
theorem KT_ks : ∀ (j : Nat) (K : SC) (l : List Oper), (KT j K l).ks = K.ks ∧ (KT j K l).n = K.n
  | 0, K, l => ⟨rfl, rfl⟩
  | j + 1, K, [] => ⟨rfl, rfl⟩
  | j + 1, K, o :: r => by
    have h := KT_ks j (K.tell o.dst) r
    show (KT j (K.tell o.dst) r).ks = _ ∧ (KT j (K.tell o.dst) r).n = _
    rw [h.1, h.2]
    cases o.dst with
    | none => exact ⟨rfl, rfl⟩
    | some d => rw [SC.tell_some]; exact ⟨rfl, rfl⟩
theorem lmT_true {U : UU} {m : M} : denL U m (lmT true) = some [.int .i64 0, .int .i64 0, U.k 1, U.k 2, U.k 3, .int .u64 0, .int .i64 200000, U.k 0, U.k 4, U.k 5, U.k 6, U.k 7] := rfl
theorem lmT_false {U : UU} {m : M} : denL U m (lmT false) = some [U.k 8, U.k 9, U.k 1, U.k 2, U.k 3, .int .u64 0, .int .i64 200000, U.k 0, U.k 4, U.k 5, U.k 6, U.k 7] := rfl

def kF (U : UU) (A : Adr) (sa : Option Addr) (sn sc : Nat) (rd tk cl how trap : Int) (vv : Nat) : Nat → Value
  | 0 => U.k 0 | 1 => .slice sa sn sc | 2 => .int .i64 rd | 3 => .int .i64 tk | 4 => A.gs | 5 => .int .i64 cl | 6 => A.bods | 7 => A.frs | 8 => .int .i64 how | 9 => .int .i64 trap | 10 => .int .u64 vv | _ => .bool true
theorem kF_one {U : UU} {A : Adr} {sa : Option Addr} {sn sc : Nat} {rd tk cl how trap : Int} {vv : Nat} (h1 : A.gs.oneCell' = true) (h2 : A.bods.oneCell' = true) (h3 : A.frs.oneCell' = true) : ∀ j, (kF U A sa sn sc rd tk cl how trap vv j).oneCell' = true
  | 0 => U.h1 0
  | 1 => rfl
  | 2 => rfl
  | 3 => rfl
  | 4 => h1
  | 5 => rfl
  | 6 => h2
  | 7 => h3
  | 8 => rfl
  | 9 => rfl
  | 10 => rfl
  | _ + 11 => rfl

set_option maxRecDepth 100000 in
theorem run_ok {U : UU} {prot : PP} {m : M} {h : Hp} {w : World} (r : Rel U w prot m h w) {inp : List Nat} (hi : InpW prot w U inp) {p1 p2 : S} {v1 v2 : Value} (h1 : p1.den U m = some v1) (h2 : p2.den U m = some v2)
    {q : St × Nat × List V} (e : xRun h (.a (.ag [p1, p2])) = some q) (ef : q.2.1 = 50) {d : Nat} {rq : (Pa × List Pa) × Rdy} (er : rRdy d q.1.hp q.2.2 = some rq) (ec : (chkRun q.1 rq.1.1 rq.1.2).isSome = true) {n : Nat} {rx : Rx} (he : evF inp rq.2.bd n rq.2.k [] ⟨0, [], 0, 0, rq.2.gl⟩ = some rx) :
    Calls Tryz.prog 30 #[.agg #[v1, v2], U.k 0, .int .i64 200000] w fun e w' => ∃ u, e = .returned u ∧ Keep prot.c w w' ∧ ToldAt prot.c w' rx u := by
  obtain ⟨H, hH, e⟩ := ob_some e
  have hH' := hH
  obtain ⟨fn, hfn, hH'⟩ := ob_some hH'
  have hHf : H.fn = fn := by
    unfold holeAt at hH'
    obtain ⟨b, hb, hH'⟩ := ob_some hH'
    split at hH'
    · split at hH'
      · split at hH'
        · cases hH'; rfl
        · cases hH'
      · cases hH'
    · cases hH'
  subst hHf
  have hd : denVL U m [.a (.ag [p1, p2]), .a (.s (.uk 0)), .a (.s (.i .i64 (.ofNat 200000)))] = some [.agg #[v1, v2], U.k 0, .int .i64 200000] := by
    show ob (ob (ob (p1.den U m) fun v => ob (ob (p2.den U m) fun v => ob (some []) fun l => some (v :: l)) fun l => some (v :: l)) fun vs => some (Value.agg vs.toArray)) (fun v => ob (some [U.k 0, .int .i64 200000]) fun l => some (v :: l)) = _
    rw [h1, h2]; rfl
  have hc := xhole_ok (R := fun e w' => ∃ u, e = .returned u ∧ Keep prot.c w w' ∧ ToldAt prot.c w' rx u) (fun _ h => xreg_ok Tryz.checked.mixed h) (runW_ok 120) hfn hH' e r hd
  refine hc fun m' a' w' us hle s hus => ?_
  rw [ef]
  refine ⟨isFn_of Tryz.func50 (by kernel_rfl) (by kernel_rfl), ?_⟩
  obtain ⟨A, x, hm, hlim, hinp, og, ob', of, ⟨omp, hlive⟩, hmX, hrun⟩ := ready_ok s.rel hi er hus
  obtain ⟨⟨p6, p7, p9⟩, hc3⟩ := Option.isSome_iff_exists.1 ec
  simp only [chkRun, ob_eq, oif_eq] at hc3
  obtain ⟨c0, p10, c1, c2, p6', c3, p7', c4, p9', c5, c6, cX, l6, c7, l7, c8, l9, c9, c10, hc3⟩ := hc3
  cases hc3
  have := paEq_ok c2; subst this
  have hks : (KT 6 ⟨H.fn.ntmps, ks 30, []⟩ H.ops.toList).ks = ks 30 := (KT_ks _ _ _).1
  obtain ⟨k10, x10, y10, t10⟩ := slotP_ok s hks c1
  obtain ⟨k6, x6, y6, t6⟩ := slotP_ok s hks c3
  obtain ⟨k7, x7, y7, t7⟩ := slotP_ok s hks c4
  obtain ⟨k9, x9, y9, t9⟩ := slotP_ok s hks c5
  rw [hm] at y10
  cases y10
  simp only [Bool.and_eq_true, Bool.not_eq_true'] at c6 c10
  obtain ⟨vs6, d6, b6, o6, g6⟩ := blkL_ok s.rel c7 y6
  obtain ⟨vs7, d7, b7, o7, g7⟩ := blkL_ok s.rel c8 y7
  obtain ⟨vs9, d9, b9, o9, g9⟩ := blkL_ok s.rel c9 y9
  have := isTold0_ok c10.1 d6; subst this
  have := isOK0_ok c10.2.1 d7; subst this
  have := isOK0_ok c10.2.2 d9; subst this
  have nm : ∀ {X : List Pa} {p r : Pa}, anyPa X p = false → r ∈ X → p ≠ r := fun {X p r} h hr e => by
    subst e; rw [anyPa_iff.2 hr] at h; cases h
  have ne : ∀ {p r : Pa} {c c' : Nat} {x x' : Nat × Nat} {o o' : Ob}, m' p = some (c, x) → m' r = some (c', x') → q.1.hp.tr.at p = some o → q.1.hp.tr.at r = some o' → p ≠ r → c ≠ c' := fun {p r c c' x x' o o'} a b f g hn e => by
    subst e; exact hn (s.rel.inj _ _ _ _ _ _ _ a b f g)
  have n1 : A.mb ≠ k6 := ne hm y6 hlive g6 (Ne.symm (nm c6.1.1 (by simp)))
  have n2 : A.mb ≠ k7 := ne hm y7 hlive g7 (Ne.symm (nm c6.1.2 (by simp)))
  have n3 : A.mb ≠ k9 := ne hm y9 hlive g9 (Ne.symm (nm c6.2 (by simp)))
  have n4 : k6 ≠ k7 := ne y6 y7 g6 g7 (nm c6.1.1 (by simp))
  have n5 : k6 ≠ k9 := ne y6 y9 g6 g9 (nm c6.1.1 (by simp))
  have n6 : k7 ≠ k9 := ne y7 y9 g7 g9 (nm c6.1.2 (by simp))
  simp only [Bool.and_eq_true, Bool.not_eq_true'] at cX
  have K6 : Kof prot m' q.1.hp rq.1.2 k6 := .inr ⟨_, _, _, y6, g6, cX.1.1⟩
  have K7 : Kof prot m' q.1.hp rq.1.2 k7 := .inr ⟨_, _, _, y7, g7, cX.1.2⟩
  have K9 : Kof prot m' q.1.hp rq.1.2 k9 := .inr ⟨_, _, _, y9, g9, cX.2⟩
  refine (hrun n rx he).mono ?_
  intro e1 w1 hp
  -- what is behind, in both ways
  have fin : ∀ (ok : Bool) (vv : Nat) (how trap : Int) (sa : Option Addr) (sn sc : Nat) (rd tk cl : Int) (l : List S) (vs : List Value), w1.heap[A.mb]? = some (.cells (mCells A how trap (.slice sa sn sc) rd tk cl) 95) → (ok = true → how = 0 ∧ trap = 0) →
      Keep (Kof prot m' q.1.hp rq.1.2) w' w1 → xTail ok = some (l, [.i .i64 0, .i .i64 0]) →
      (∀ (U' : UU), U'.k 1 = .slice sa sn sc → U'.k 2 = .int .i64 rd → U'.k 3 = .int .i64 tk → U'.k 8 = .int .i64 how → U'.k 9 = .int .i64 trap → U'.k 10 = .int .u64 vv → ∀ m3 vs', denL U' m3 l = some vs' → vs' = vs) →
      (∀ w3, (∀ c, c < w1.heap.size → c ≠ A.mb → ¬ Kof prot m' q.1.hp rq.1.2 c → w3.heap[c]? = w1.heap[c]?) → ToldAt prot.c w3 rx (.tuple #[.agg vs.toArray, .agg #[.int .i64 0, .int .i64 0]])) →
      wpList Tryz.prog H.ops (Exit.then (H.rest.wp Tryz.prog (bodyPostD Tryz.prog H.fn fun e w' => ∃ u, e = .returned u ∧ Keep prot.c w w' ∧ ToldAt prot.c w' rx u)) (bodyPostD Tryz.prog H.fn fun e w' => ∃ u, e = .returned u ∧ Keep prot.c w w' ∧ ToldAt prot.c w' rx u)) H.l (a'.put H.o.dst (.tuple #[.int .u64 vv, .bool ok])) w1 := by
    intro ok vv how trap sa sn sc rd tk cl l vs hb hok hkp hx hden hfin
    obtain ⟨U', hU'⟩ : ∃ U' : UU, U'.k = kF U A sa sn sc rd tk cl how trap vv := ⟨⟨U.t, kF U A sa sn sc rd tk cl how trap vv, U.hk, kF_one og ob' of⟩, rfl⟩
    have hsz : a'.tmps.size = H.fn.ntmps := by rw [s.env.size]; exact (KT_ks _ _ _).2
    have hds : a'.defers = [] := by
      have := s.df
      split at c0
      · rename_i hdf
        rw [hdf] at this
        cases hq : a'.defers with
        | nil => rfl
        | cons d ds => rw [hq] at this; exact this.elim
      · cases c0
    have hcells : mCells A how trap (.slice sa sn sc) rd tk cl = ([.int .i64 how, .int .i64 trap, .slice sa sn sc, .int .i64 rd, .int .i64 tk, .int .u64 0, .int .i64 200000, U.k 0, A.gs, .int .i64 cl, A.bods, A.frs] : List Value).toArray := by
      unfold mCells; rw [hlim, hinp]; rfl
    rw [hcells] at hb
    refine runTail hH (U := U') hsz hds t10 t6 t7 t9 (by rw [hU']; rfl) (fun mm => ?_) hb ((hkp.block _ K6).trans b6) ((hkp.block _ K7).trans b7) ((hkp.block _ K9).trans b9) n1 n2 n3 n4 n5 n6 hx fun m3 w3 vs' hvs hk3 => ?_
    · cases ok with
      | false => rw [lmT_false, hU']; rfl
      | true =>
        obtain ⟨rfl, rfl⟩ := hok rfl
        rw [lmT_true, hU']; rfl
    · have := hden U' (by rw [hU']; rfl) (by rw [hU']; rfl) (by rw [hU']; rfl) (by rw [hU']; rfl) (by rw [hU']; rfl) (by rw [hU']; rfl) m3 vs' hvs
      subst this
      have kk : ∀ c, prot.c c → c < w1.heap.size ∧ c ≠ A.mb ∧ c ≠ k6 ∧ c ≠ k7 ∧ c ≠ k9 := fun c hc => by
        have h3 := (s.rel.keep c hc)
        have hs := hkp.size
        exact ⟨by omega, fun e => h3.2.2 _ _ (e ▸ hm), fun e => h3.2.2 _ _ (e ▸ y6), fun e => h3.2.2 _ _ (e ▸ y7), fun e => h3.2.2 _ _ (e ▸ y9)⟩
      have hk0 : Keep prot.c w w' := ⟨s.rel.os, s.rel.tape, s.rel.output, s.rel.size, fun b hb => (s.rel.keep b hb).2.1⟩
      exact ⟨_, rfl, (hk0.trans (hkp.mono fun b hb => .inl hb)).trans (hk3.mono kk), hfin w3 fun c hc hne hK => hk3.block c ⟨hc, hne, fun e => hK (e ▸ K6), fun e => hK (e ▸ K7), fun e => hK (e ▸ K9)⟩⟩
  obtain ⟨hkp, ⟨v, s', rfl, hv, rfl, hma⟩ | ⟨u, how, trap, hu, rfl, hend, hlt, hmb, hov⟩⟩ := hp
  · obtain ⟨ov, j1, j2, j3⟩ := hma.out
    obtain ⟨sa, sn, sc, rfl⟩ := own_slice j2
    refine fin true v 0 0 sa sn sc _ _ _ _ [.int .i64 1, .int .i64 0, .slice sa sn sc, .int .i64 s'.rd, .int .i64 s'.tk, .int .u64 v] j1 (fun _ => ⟨rfl, rfl⟩) hkp xTail_true (fun U' q1 q2 q3 q8 q9 q10 m3 vs' hd => ?_) fun w3 hw3 => ?_
    · have hd : some [Value.int .i64 1, .int .i64 0, U'.k 1, U'.k 2, U'.k 3, U'.k 10] = some vs' := hd
      rw [q1, q2, q3, q10] at hd
      cases hd; rfl
    · refine ⟨1, 0, s'.rd, s'.tk, v, sa, sn, sc, rfl, .inl ⟨v, s', rfl, rfl, ownsRow_eq j2 fun k hk => ?_, fun k hk hc => (j3 k hk).1 (.inl hc)⟩⟩
      exact hw3 k (ownsRow_lt j2 hk) (j3 k hk).2.1 (j3 k hk).1
  · obtain ⟨trap, sn⟩ := trap
    obtain ⟨sa, sc, rd, tk, cl, j1⟩ := hend
    refine fin false u how trap sa sn sc rd tk cl _ [.int .i64 how, .int .i64 trap, .slice sa sn sc, .int .i64 rd, .int .i64 tk, .int .u64 (0 : Nat)] j1 (fun h => by cases h) hkp xTail_false (fun U' q1 q2 q3 q8 q9 q10 m3 vs' hd => ?_) fun w3 hw3 => ?_
    · have hd : some [U'.k 8, U'.k 9, U'.k 1, U'.k 2, U'.k 3, Value.int .u64 0] = some vs' := hd
      rw [q1, q2, q3, q8, q9] at hd
      cases hd; rfl
    · refine ⟨how, trap, rd, tk, 0, sa, sn, sc, rfl, ?_⟩
      rcases hov with ⟨ho, hh⟩ | ⟨hh, hw⟩
      · unfold Over at ho
        rw [hlim] at ho
        exact .inr (.inl ⟨ho, hh⟩)
      · exact .inr (.inr ⟨hh, hw⟩)
end Go.Proofs.YtgmmfjmdpbhjnaaGreat

/-
  Runs on paper in parts: from a state that is told, cut down to what is needed.
-/
namespace Go.Proofs.YtgmmfjmdpbhjnaaGreat
open Go Go.RowKit Go.XM

/-- blocks as rows of cells -/
noncomputable def keepL (h : Hp) (l : List Nat) : Option (List (Nat × List S × Nat)) := List.rec (motive := fun _ => Option (List (Nat × List S × Nat))) (some []) (fun k _ ih => ob (h.tr.at (paN k)) fun o => match o with | .cells c t n => ob (rdL c 0 n) fun r => ob ih fun q => some ((k, r, t) :: q) | _ => none) l
noncomputable def litT (L : List (Nat × List S × Nat)) : Option (Tr Ob) := List.rec (motive := fun _ => Option (Tr Ob)) (some .nil) (fun x _ ih => ob ih fun t => ob (trL x.2.1 0 .nil) fun c => t.put (.cells c x.2.2 x.2.1.length) (paN x.1)) L
theorem litT_at : ∀ {L : List (Nat × List S × Nat)} {t : Tr Ob}, litT L = some t → ∀ b o, t.at b = some o → ∃ k l y c, (k, l, y) ∈ L ∧ b = paN k ∧ o = .cells c y l.length ∧ ∀ j s, c.at (paN j) = some s → l[j]? = some s
  | [], t, e, b, o, h => by cases e; cases h
  | x :: L, t, e, b, o, h => by
    obtain ⟨t1, e1, e⟩ := ob_some (show (ob (litT L) fun t => ob (trL x.2.1 0 .nil) fun c => t.put (.cells c x.2.2 x.2.1.length) (paN x.1)) = some t from e)
    obtain ⟨c, e2, e⟩ := ob_some e
    by_cases hb : paN x.1 = b
    · subst hb
      rw [put_same _ _ _ _ e] at h
      cases h
      refine ⟨x.1, x.2.1, x.2.2, c, List.mem_cons_self, rfl, rfl, fun j s hs => ?_⟩
      rcases trL_ok e2 j s hs with ⟨_, q⟩ | q
      · simpa using q
      · cases q
    · rw [put_ne _ _ _ _ _ hb e] at h
      obtain ⟨k, l, y, c, h1, h2⟩ := litT_at e1 b o h
      exact ⟨k, l, y, c, List.mem_cons_of_mem _ h1, h2⟩
theorem keepL_at {h : Hp} : ∀ {l : List Nat} {L : List (Nat × List S × Nat)}, keepL h l = some L → ∀ k r y, (k, r, y) ∈ L → ∃ c, h.tr.at (paN k) = some (.cells c y r.length) ∧ ∀ j s, r[j]? = some s → c.at (paN j) = some s
  | [], L, e, k, r, y, hm => by cases e; cases hm
  | x :: l, L, e, k, r, y, hm => by
    obtain ⟨o, e1, e⟩ := ob_some (show (ob (h.tr.at (paN x)) fun o => match o with | .cells c t n => ob (rdL c 0 n) fun r => ob (keepL h l) fun q => some ((x, r, t) :: q) | _ => none) = some L from e)
    cases o with
    | map _ => cases e
    | cells c t n =>
      obtain ⟨r0, e2, e⟩ := ob_some e
      obtain ⟨q, e3, e⟩ := ob_some e
      cases e
      rcases List.mem_cons.1 hm with hm | hm
      · cases hm
        have hl := rdL_len _ _ _ e2
        refine ⟨c, by rw [hl]; exact e1, fun j s hs => ?_⟩
        have := rdL_get c _ _ e2 j s hs
        simpa using this
      · exact keepL_at e3 k r y hm
theorem Rel.lit {U : UU} {w w' : World} {C : Nat → Prop} {m : M} {h : Hp} (r : Rel U w ⟨C, fun _ _ => False⟩ m h w') {l : List Nat} {L : List (Nat × List S × Nat)} {t : Tr Ob} (e1 : keepL h l = some L) (e2 : litT L = some t) : Rel U w ⟨C, fun _ _ => False⟩ m ⟨t, h.next⟩ w' := by
  have at' : ∀ {b : Pa} {o : Ob}, t.at b = some o → ∃ c c' y n, o = .cells c' y n ∧ h.tr.at b = some (.cells c y n) ∧ ∀ j s, c'.at (paN j) = some s → c.at (paN j) = some s := fun {b o} ho => by
    obtain ⟨k, l', y, c', h1, h2, h3, h4⟩ := litT_at e2 b o ho
    obtain ⟨c, h5, h6⟩ := keepL_at e1 k l' y h1
    exact ⟨c, c', y, l'.length, h3, by rw [h2]; exact h5, fun j s hs => h6 j s (h4 j s hs)⟩
  refine ⟨r.os, r.tape, r.output, r.size, r.keep, r.lt, r.new, fun b b' c x x' o o' a1 a2 a3 a4 => ?_, fun b c x o a1 a2 => ?_, fun p o hp => hp.elim⟩
  · obtain ⟨_, _, _, _, _, k1, _⟩ := at' a3
    obtain ⟨_, _, _, _, _, k2, _⟩ := at' a4
    exact r.inj b b' c x x' _ _ a1 a2 k1 k2
  · obtain ⟨cc, c', y, n, rfl, k1, k2⟩ := at' a2
    have ho := r.obj b c x _ a1 k1
    cases hq : w'.heap[c]? with
    | none => rw [hq] at ho; exact ho.elim
    | some obj =>
      rw [hq] at ho
      cases obj <;> first | exact ho.elim | skip
      obtain ⟨g1, g2, g3, g4, g5, g6⟩ := ho
      exact ⟨g1, g2, g3, g4, fun i s hs => g5 i s (k2 i s hs), g6⟩

/-- a call's slots -/
noncomputable def keepE (e : E) (l : List Nat) : Option (List (Nat × V)) := List.rec (motive := fun _ => Option (List (Nat × V))) (some []) (fun k _ ih => ob (e.tr.at (paN k)) fun v => ob ih fun r => some ((k, v) :: r)) l
noncomputable def litE (l : List (Nat × V)) : Option (Tr V) := List.rec (motive := fun _ => Option (Tr V)) (some .nil) (fun x _ ih => ob ih fun t => t.put x.2 (paN x.1)) l
/-- a state that is told -/
structure Lit where
  L : List (Nat × List S × Nat)
  nx : Nat
  ev : List (Nat × V)
  df : List (Nat × List V)
noncomputable def cutSt (hl el : List Nat) (st : St) : Option Lit := ob (keepL st.hp hl) fun L => ob (keepE st.env el) fun ev => some ⟨L, st.hp.next, ev, st.df⟩
noncomputable def mkSt (x : Lit) : Option St := ob (litT x.L) fun t => ob (litE x.ev) fun e => some ⟨⟨[], e⟩, ⟨t, x.nx⟩, x.df⟩
theorem litE_at : ∀ {l : List (Nat × V)} {t : Tr V}, litE l = some t → ∀ p v, t.at p = some v → ∃ k, (k, v) ∈ l ∧ p = paN k
  | [], t, e, p, v, h => by cases e; cases h
  | x :: l, t, e, p, v, h => by
    obtain ⟨t1, e1, e⟩ := ob_some (show (ob (litE l) fun t => t.put x.2 (paN x.1)) = some t from e)
    by_cases hb : paN x.1 = p
    · subst hb
      rw [put_same _ _ _ _ e] at h
      cases h
      exact ⟨x.1, List.mem_cons_self, rfl⟩
    · rw [put_ne _ _ _ _ _ hb e] at h
      obtain ⟨k, h1, h2⟩ := litE_at e1 p v h
      exact ⟨k, List.mem_cons_of_mem _ h1, h2⟩
theorem keepE_at {env : E} : ∀ {l : List Nat} {r : List (Nat × V)}, keepE env l = some r → ∀ k v, (k, v) ∈ r → env.tr.at (paN k) = some v
  | [], r, e, k, v, hm => by cases e; cases hm
  | x :: l, r, e, k, v, hm => by
    obtain ⟨y, e1, e⟩ := ob_some (show (ob (env.tr.at (paN x)) fun v => ob (keepE env l) fun r => some ((x, v) :: r)) = some r from e)
    obtain ⟨q, e2, e⟩ := ob_some e
    cases e
    rcases List.mem_cons.1 hm with hm | hm
    · cases hm; exact e1
    · exact keepE_at e2 k v hm
/-! ### states out of a number -/
section
variable {α : Type}
/-- the next number: how many bits (eight; 255: sixteen more), the bits -/
noncomputable def pop (n : Nat) (k : Nat → Nat → α) : α := forceN (Nat.mod n 256) fun b => Bool.rec
  (forceN (Nat.mod (Nat.div n 256) (Nat.pow 2 b)) fun v => forceN (Nat.div n (Nat.pow 2 (Nat.add 8 b))) fun r => k v r)
  (forceN (Nat.mod (Nat.div n 256) 65536) fun b => forceN (Nat.mod (Nat.div n 16777216) (Nat.pow 2 b)) fun v => forceN (Nat.div n (Nat.pow 2 (Nat.add 24 b))) fun r => k v r) (Nat.beq b 255)
noncomputable def dPa (n : Nat) (k : Pa → Nat → α) : α := pop n fun x n => k (paN x) n
noncomputable def dMany {β : Type} (d : Nat → (β → Nat → α) → α) (c : Nat) : Nat → (List β → Nat → α) → α := Nat.rec (motive := fun _ => Nat → (List β → Nat → α) → α) (fun n k => k [] n) (fun _ ih n k => d n fun x n => ih n fun l n => k (x :: l) n) c
noncomputable def dKind (t : Nat) : IntKind := match t with | 0 => .i8 | 1 => .i16 | 2 => .i32 | 3 => .i64 | 4 => .u8 | 5 => .u16 | 6 => .u32 | _ => .u64
noncomputable def dS (n : Nat) (k : S → Nat → α) : α := pop n fun t n => Bool.rec
  (pop n fun v n => k (.i (dKind (Nat.sub t 16)) (.ofNat v)) n)
  (match t with
    | 0 => k (.bo false) n
    | 1 => k (.bo true) n
    | 2 => pop n fun a n => pop n fun b n => k (.str a b) n
    | 3 => k .ustr n
    | 4 => pop n fun j n => k (.uk j) n
    | 5 => k .nilp n
    | 6 => dPa n fun b n => pop n fun o n => k (.ptr b o) n
    | 7 => k .nils n
    | 8 => dPa n fun b n => pop n fun o n => pop n fun l n => pop n fun z n => k (.sl b o l z) n
    | 9 => dPa n fun b n => k (.emp b) n
    | 10 => k .nilm n
    | 11 => dPa n fun b n => k (.mp b) n
    | 12 => pop n fun f n => pop n fun c n => dMany (β := Pa × Nat) (fun n k => dPa n fun b n => pop n fun o n => k (b, o) n) c n fun l n => k (.fn f l) n
    | 13 => k .nilf n
    | 14 => k .nili n
    | _ => pop n fun i n => pop n fun v n => k (.i (dKind i) (.negSucc v)) n) (Nat.blt t 16)
noncomputable def dA (n : Nat) (k : A → Nat → α) : α := pop n fun t n => match t with
  | 0 => dS n fun x n => k (.s x) n
  | c + 1 => dMany dS c n fun l n => k (.ag l) n
noncomputable def dV (n : Nat) (k : V → Nat → α) : α := pop n fun t n => match t with
  | 0 => dA n fun x n => k (.a x) n
  | c + 1 => dMany dA c n fun l n => k (.tup l) n
noncomputable def dRow (n : Nat) (k : Nat × List S × Nat → Nat → α) : α := pop n fun b n => pop n fun t n => pop n fun c n => dMany dS c n fun l n => k (b, l, t) n
noncomputable def dRows (n : Nat) (k : List (Nat × List S × Nat) → Nat → α) : α := pop n fun c n => dMany dRow c n k
end
noncomputable def dLit (n : Nat) : Lit := dRows n fun L n => pop n fun nx n => pop n fun c n => dMany (β := Nat × V) (fun n k => pop n fun j n => dV n fun v n => k (j, v) n) c n fun ev n => pop n fun c n =>
  dMany (β := Nat × List V) (fun n k => pop n fun f n => pop n fun c n => dMany dV c n fun l n => k (f, l) n) c n fun df _ => ⟨L, nx, ev, df⟩
noncomputable def dVal (n : Nat) : V := dV n fun v _ => v
noncomputable def dBlks (n : Nat) : List (Nat × List S × Nat) := dRows n fun L _ => L
section
variable {U : UU} {w0 : World} {C : Nat → Prop} {m : M} {a : Act} {w : World}
theorem lit_cut {K K' : SC} {st st' : St} {hl el : List Nat} {x : Lit} (s : SR U w0 ⟨C, fun _ _ => False⟩ m K st a w) (h1 : K'.n = K.n) (h2 : K'.ks = K.ks) (h3 : K'.ds = []) (e1 : cutSt hl el st = some x) (e2 : mkSt x = some st') : SR U w0 ⟨C, fun _ _ => False⟩ m K' st' a w := by
  obtain ⟨L, e3, e1⟩ := ob_some e1
  obtain ⟨ev, e4, e1⟩ := ob_some e1
  cases e1
  obtain ⟨t, e5, e2⟩ := ob_some e2
  obtain ⟨te, e6, e2⟩ := ob_some e2
  cases e2
  refine ⟨Rel.lit s.rel e3 e5, ⟨s.env.size.trans h1.symm, fun t k v _ hk _ => ?_, fun t k v _ hk hv => ?_⟩, s.df⟩
  · rw [h3] at hk; cases hk
  · obtain ⟨k', h4, h5⟩ := litE_at e6 _ v hv
    rw [h2] at hk
    exact s.env.tr t k v trivial hk (by rw [h5]; exact keepE_at e4 k' v h4)

/-- how a call ends -/
def Ends (U : UU) (w0 : World) (C : Nat → Prop) (m0 : M) (v : V) (h : Hp) (e : Ending) (w' : World) : Prop :=
  ∃ m' u, e = .returned u ∧ m0.le m' ∧ Rel U w0 ⟨C, fun _ _ => False⟩ m' h w' ∧ v.den U m' = some u
/-- a function called in a heap on paper -/
def CallsAt (f : Nat) (args : List V) (h0 : Hp) (v : V) (h1 : Hp) : Prop :=
  ∀ (U : UU) (w0 : World) (C : Nat → Prop) (m : M) (w : World) (us : List Value), Rel U w0 ⟨C, fun _ _ => False⟩ m h0 w → denVL U m args = some us → Calls Tryz.prog f us.toArray w (Ends U w0 C m v h1)
theorem CallsAt.of_run {k f : Nat} {args : List V} {h0 h1 : Hp} {v : V} (e : runC k false h0 f args = some (v, h1)) : CallsAt f args h0 v h1 :=
  fun _ _ _ _ _ _ r hd => ((runC_ok k).run r hd e).2
theorem CallsAt.cut {f : Nat} {args : List V} {h0 h1 : Hp} {v : V} {l : List Nat} {L : List (Nat × List S × Nat)} {t : Tr Ob} (c : CallsAt f args h0 v h1) (e1 : keepL h1 l = some L) (e2 : litT L = some t) : CallsAt f args h0 v ⟨t, h1.next⟩ :=
  fun U w0 C m w us r hd => (c U w0 C m w us r hd).mono fun _ _ ⟨m', u, q1, q2, q3, q4⟩ => ⟨m', u, q1, q2, Rel.lit q3 e1 e2, q4⟩

/-- inside a loop -/
def loopwp (c : Code) (Q : Exit → Act → World → Prop) (a : Act) (w : World) : Prop := ∀ (b : Frame) (k : List Item) (cs : List Frame), ∃ e a' w', Q e a' w' ∧ Arrives Tryz.prog (lone (b.at a (.code c :: .inLoop c :: k)) cs w) b k cs e a' w'
theorem loopwp.wp {c : Code} {Q : Exit → Act → World → Prop} (h : loopwp c Q a w) : (Code.loop c).wp Tryz.prog Q a w := fun b k cs => by
  obtain ⟨e', a', w', hq, harr⟩ := h b k cs
  exact ⟨e', a', w', hq, .of_steps (.one step_loop) harr⟩
theorem loopwp.step {c : Code} {Q : Exit → Act → World → Prop} (h : c.wp Tryz.prog (fun e a' w' => e = .normal ∧ loopwp c Q a' w') a w) : loopwp c Q a w := fun b k cs => by
  obtain ⟨e, a1, w1, ⟨rfl, hq⟩, harr⟩ := h b (.inLoop c :: k) cs
  obtain ⟨e2, a2, w2, hq2, harr2⟩ := hq b k cs
  exact ⟨e2, a2, w2, hq2, .of_steps (Steps.trans harr (.one step_inLoop)) harr2⟩
theorem loopwp.mono {c : Code} {Q Q' : Exit → Act → World → Prop} (h : loopwp c Q a w) (hq : ∀ e a w, Q e a w → Q' e a w) : loopwp c Q' a w := fun b k cs =>
  let ⟨e, a', w', q, r⟩ := h b k cs; ⟨e, a', w', hq _ _ _ q, r⟩
end
/-- the loop ahead -/
def loopOf : Code → Option (Nat × Code)
  | .block i (.loop b) => some (i, b)
  | _ => none
theorem loopOf_eq {c b : Code} {i : Nat} (h : loopOf c = some (i, b)) : c = .block i (.loop b) := by
  unfold loopOf at h
  split at h
  · cases h; rfl
  · cases h
/-- code, one behind the other -/
def fl : Code → List Code
  | .seq x y => fl x ++ fl y
  | c => [c]
noncomputable def cwpL : List Code → (Exit → Act → World → Prop) → Act → World → Prop
  | [], Q, a, w => Q .normal a w
  | c :: r, Q, a, w => match loopOf c with
    | some (i, b) => loopwp b (Exit.inBlock i (Exit.then (cwpL r Q) Q)) a w
    | none => c.wp Tryz.prog (Exit.then (cwpL r Q) Q) a w
theorem then_mono {A A' : Act → World → Prop} {Q Q' : Exit → Act → World → Prop} (h1 : ∀ a w, A a w → A' a w) (h2 : ∀ e a w, Q e a w → Q' e a w) : ∀ e a w, Exit.then A Q e a w → Exit.then A' Q' e a w := fun e _ _ h => by
  cases e <;> first | exact h1 _ _ h | exact h2 _ _ _ h
theorem inBlock_mono {i : Nat} {Q Q' : Exit → Act → World → Prop} (h2 : ∀ e a w, Q e a w → Q' e a w) : ∀ e a w, Exit.inBlock i Q e a w → Exit.inBlock i Q' e a w := fun e a w h => by
  cases e with
  | exit j =>
    show (if j = i then _ else _)
    have h : (if j = i then Q .normal a w else Q (.exit j) a w) := h
    by_cases hj : j = i
    · rw [if_pos hj] at h ⊢; exact h2 _ _ _ h
    · rw [if_neg hj] at h ⊢; exact h2 _ _ _ h
  | _ => exact h2 _ _ _ h
theorem cwpL_mono : ∀ (l : List Code) {Q Q' : Exit → Act → World → Prop} {a : Act} {w : World}, cwpL l Q a w → (∀ e a w, Q e a w → Q' e a w) → cwpL l Q' a w
  | [], _, _, _, _, h, hq => hq _ _ _ h
  | c :: r, Q, Q', a, w, h, hq => by
    unfold cwpL at h ⊢
    split at h
    · exact h.mono (inBlock_mono (then_mono (fun a w h => cwpL_mono r h hq) hq))
    · exact wp_mono h (then_mono (fun a w h => cwpL_mono r h hq) hq)
theorem cwpL_app : ∀ (l k : List Code) {Q : Exit → Act → World → Prop} {a : Act} {w : World}, cwpL (l ++ k) Q a w → cwpL l (Exit.then (cwpL k Q) Q) a w
  | [], k, Q, a, w, h => h
  | c :: r, k, Q, a, w, h => by
    have key : ∀ e a w, Exit.then (cwpL (r ++ k) Q) Q e a w → Exit.then (cwpL r (Exit.then (cwpL k Q) Q)) (Exit.then (cwpL k Q) Q) e a w := fun e a w h => by
      cases e <;> first | exact cwpL_app r k h | exact h
    rw [List.cons_append] at h
    unfold cwpL at h ⊢
    split at h
    · exact h.mono (inBlock_mono key)
    · exact wp_mono h key
theorem cwpL_one {c : Code} {Q : Exit → Act → World → Prop} {a : Act} {w : World} (h : cwpL [c] Q a w) : c.wp Tryz.prog Q a w := by
  have key : ∀ e a w, Exit.then (cwpL [] Q) Q e a w → Q e a w := fun e a w h => by cases e <;> exact h
  unfold cwpL at h
  split at h
  · rename_i i b hl
    rw [loopOf_eq hl]
    exact wp_block (h.mono (inBlock_mono key)).wp
  · exact wp_mono h key
theorem cwpL_wp : ∀ (c : Code) {Q : Exit → Act → World → Prop} {a : Act} {w : World}, cwpL (fl c) Q a w → c.wp Tryz.prog Q a w
  | .seq x y, _, _, _, h => wp_seq (cwpL_wp x (cwpL_mono (fl x) (cwpL_app (fl x) (fl y) h) (then_mono (fun _ _ h => cwpL_wp y h) fun _ _ _ h => h)))
  | .skip, _, _, _, h => cwpL_one h
  | .region _ _ _, _, _, _, h => cwpL_one h
  | .cond _ _ _, _, _, _, h => cwpL_one h
  | .block _ _, _, _, _, h => cwpL_one h
  | .loop _, _, _, _, h => cwpL_one h
  | .exit _, _, _, _, h => cwpL_one h
  | .ret, _, _, _, h => cwpL_one h
  | .rangeFunc _ _ _ _, _, _, _, h => cwpL_one h
  | .scope _, _, _, _, h => cwpL_one h
  | .label _, _, _, _, h => cwpL_one h
  | .goto _, _, _, _, h => cwpL_one h
  | .refuse _, _, _, _, h => cwpL_one h

/-- from a state that is told the function ends so -/
def Lands (f k j : Nat) (x : Lit) (v : V) (h : Hp) : Prop := ∀ (fn : Func) (b : Code) (st : St), TT f = some fn → fn.body = some b → mkSt x = some st →
  ∀ (U : UU) (w0 : World) (C : Nat → Prop) (m0 m : M) (a : Act) (w : World), m0.le m → SR U w0 ⟨C, fun _ _ => False⟩ m ⟨fn.ntmps, ks f, []⟩ st a w → cwpL ((fl (behind k b)).drop j) (bodyPostD Tryz.prog fn (Ends U w0 C m0 v h)) a w

noncomputable def Kf (f : Nat) (fn : Func) : SC := ⟨fn.ntmps, ks f, []⟩
/-- code, one behind the other, on paper -/
noncomputable def xlist (K : SC) : List Code → Option (CF → St → Option (XM.Ex × St))
  | [] => some fun _ st => some (.nx, st)
  | c :: r => ob (xcode (xreg Tryz.prog K) Tryz.prog K 100000 c) fun ra => ob (xlist K r) fun rb => some fun call st => ob (ra call st) fun q => match q.1 with
    | .nx => rb call q.2
    | _ => some q
noncomputable def onNx (x : Option (XM.Ex × St)) : Option St := ob x fun r => match r.1 with | .nx => some r.2 | _ => none
noncomputable def iterN (f : St → Option (XM.Ex × St)) (n : Nat) : St → Option St := Nat.rec (motive := fun _ => St → Option St) (fun st => some st) (fun _ ih st => ob (onNx (f st)) ih) n
theorem xloop_lw {U : UU} {w0 : World} {prot : PP} {K : SC} {c : Code} {f : St → Option (XM.Ex × St)} {Q : Exit → Act → World → Prop}
    (hf : ∀ {Q : Exit → Act → World → Prop} {st : St} {r : XM.Ex × St} {m : M} {a : Act} {w : World}, f st = some r → SR U w0 prot m K st a w → (∀ m' a' w', m.le m' → SR U w0 prot m' K r.2 a' w' → Q r.1.e a' w') → c.wp Tryz.prog Q a w) :
    ∀ (k : Nat) {st : St} {r : XM.Ex × St} {m : M} {a : Act} {w : World}, xloop f k st = some r → SR U w0 prot m K st a w → (∀ m' a' w', m.le m' → SR U w0 prot m' K r.2 a' w' → Q r.1.e a' w') → loopwp c Q a w := by
  intro k
  induction k with
  | zero => intro st r m a w e; cases e
  | succ k ih =>
    intro st r m a w e s K1 b kk cs
    obtain ⟨q, e1, e2⟩ := ob_some e
    obtain ⟨qe, qs⟩ := q
    cases qe with
    | nx =>
      have hw := hf (Q := fun e a' w' => e = .normal ∧ ∃ m', m.le m' ∧ SR U w0 prot m' K qs a' w') e1 s (fun m' a' w' l1 s1 => ⟨rfl, m', l1, s1⟩)
      obtain ⟨e, a1, w1, ⟨rfl, m1, l1, s1⟩, harr⟩ := hw b (.inLoop c :: kk) cs
      obtain ⟨e2', a2, w2, hq, harr2⟩ := ih (st := qs) e2 s1 (fun m' a' w' l2 s2 => K1 m' a' w' (M.le_trans l1 l2) s2) b kk cs
      exact ⟨e2', a2, w2, hq, .of_steps (Steps.trans harr (.one step_inLoop)) harr2⟩
    | ex id =>
      cases e2
      obtain ⟨e, a1, w1, ⟨rfl, hq⟩, harr⟩ := hf (Q := fun e a' w' => e = .exit id ∧ Q (.exit id) a' w') e1 s (fun m' a' w' l1 s1 => ⟨rfl, K1 m' a' w' l1 s1⟩) b (.inLoop c :: kk) cs
      exact ⟨_, a1, w1, hq, .pass (x := .inLoop c) rfl (fun _ _ => .inl (by simp)) harr⟩
    | rt =>
      cases e2
      obtain ⟨e, a1, w1, ⟨rfl, hq⟩, harr⟩ := hf (Q := fun e a' w' => e = .ret ∧ Q .ret a' w') e1 s (fun m' a' w' l1 s1 => ⟨rfl, K1 m' a' w' l1 s1⟩) b (.inLoop c :: kk) cs
      exact ⟨_, a1, w1, hq, .pass (x := .inLoop c) rfl (fun _ _ => .inl (by simp)) harr⟩
theorem xcode_cwpL {U : UU} {w0 : World} {prot : PP} {K : SC} {c : Code} {l : List Code} {run : CF → St → Option (XM.Ex × St)} {Q : Exit → Act → World → Prop} {st : St} {r : XM.Ex × St} {m : M} {a : Act} {w : World} (hds : K.ds = []) (hx : xcode (xreg Tryz.prog K) Tryz.prog K 100000 c = some run) (e : run (runC 120) st = some r) (s : SR U w0 prot m K st a w)
    (K1 : ∀ m' a' w', m.le m' → SR U w0 prot m' K r.2 a' w' → Exit.then (cwpL l Q) Q r.1.e a' w') : cwpL (c :: l) Q a w := by
  have hreg : RegOK Tryz.prog K (xreg Tryz.prog K) := xreg_ok Tryz.checked.mixed hds
  unfold cwpL
  split
  · rename_i i b hl
    have := loopOf_eq hl
    subst this
    obtain ⟨rl, h3, hx⟩ := ob_some hx
    cases hx
    obtain ⟨rq, h4, h3⟩ := ob_some h3
    cases h3
    obtain ⟨p, e3, e4⟩ := ob_some e
    obtain ⟨pe, ps⟩ := p
    refine xloop_lw (f := rq (runC 120)) (fun e s K => xcode_ok hreg hds (runC_ok 120) h4 e s K) 100000 e3 s fun m1 a1 w1 l1 s1 => ?_
    cases pe with
    | nx => cases e4; exact K1 m1 a1 w1 l1 s1
    | rt => cases e4; exact K1 m1 a1 w1 l1 s1
    | ex j =>
      show (if j = i then _ else _)
      have e4 : (Bool.rec (some (XM.Ex.ex j, ps)) (some (XM.Ex.nx, ps)) (Nat.beq j i) : Option (XM.Ex × St)) = some r := e4
      by_cases hj : j = i
      · subst hj
        rw [if_pos rfl]
        rw [Nat.beq_refl] at e4
        cases e4
        exact K1 m1 a1 w1 l1 s1
      · rw [if_neg hj]
        rw [beq0 hj] at e4
        cases e4
        exact K1 m1 a1 w1 l1 s1
  · exact xcode_ok hreg hds (runC_ok 120) hx e s K1
theorem xlist_cwpL {U : UU} {w0 : World} {prot : PP} {K : SC} (hds : K.ds = []) {Q : Exit → Act → World → Prop} (k : List Code) : ∀ (l : List Code) {run : CF → St → Option (XM.Ex × St)} {st : St} {r : XM.Ex × St} {m : M} {a : Act} {w : World}, xlist K l = some run → run (runC 120) st = some r → SR U w0 prot m K st a w →
    (∀ m' a' w', m.le m' → SR U w0 prot m' K r.2 a' w' → Exit.then (cwpL k Q) Q r.1.e a' w') → cwpL (l ++ k) Q a w
  | [], run, st, r, m, a, w, hx, e, s, K1 => by cases hx; cases e; exact K1 m a w (M.le_refl m) s
  | c :: l, run, st, r, m, a, w, hx, e, s, K1 => by
    obtain ⟨ra, h1, hx⟩ := ob_some hx
    obtain ⟨rb, h2, hx⟩ := ob_some hx
    cases hx
    obtain ⟨⟨qe, qs⟩, e1, e2⟩ := ob_some e
    refine xcode_cwpL (l := l ++ k) hds h1 e1 s fun m1 a1 w1 l1 s1 => ?_
    cases qe with
    | nx => exact xlist_cwpL hds k l h2 e2 s1 fun m2 a2 w2 l2 s2 => K1 m2 a2 w2 (M.le_trans l1 l2) s2
    | ex id => cases e2; exact K1 m1 a1 w1 l1 s1
    | rt => cases e2; exact K1 m1 a1 w1 l1 s1
theorem onNx_some {x : Option (XM.Ex × St)} {st : St} (h : onNx x = some st) : x = some (.nx, st) := by
  obtain ⟨⟨qe, qs⟩, e1, e2⟩ := ob_some h
  cases qe with
  | nx => cases e2; exact e1
  | ex id => cases e2
  | rt => cases e2

section
variable {f k j n i : Nat} {args : List V} {h0 h : Hp} {hl el : List Nat} {x y : Lit} {v : V} {L : List (Nat × List S × Nat)} {nx : Nat} {t : Tr Ob}
noncomputable def runTo (f k j n : Nat) (fn : Func) (b : Code) : Option (CF → St → Option (XM.Ex × St)) := xlist (Kf f fn) (((fl (behind k b)).drop j).take n)
/-- entering a function, up to a place of its code -/
noncomputable def sPre (f n : Nat) (args : List V) (h : Hp) : Option St := ob (TT f) fun fn => ob fn.body fun b => oif (Nat.ble args.length fn.ntmps) (ob (runTo f 0 0 n fn b) fun run => ob (trV (ks f) args 0 .nil) fun tr => onNx (run (runC 120) ⟨⟨[], tr⟩, h, []⟩))
noncomputable def pPre (f n : Nat) (args : List V) (h : Hp) (hl el : List Nat) : Option Lit := ob (sPre f n args h) fun st => cutSt hl el st
/-- from place to place -/
noncomputable def sMid (f k j n : Nat) (x : Lit) : Option St := ob (TT f) fun fn => ob fn.body fun b => ob (runTo f k j n fn b) fun run => ob (mkSt x) fun st => onNx (run (runC 120) st)
noncomputable def pMid (f k j n : Nat) (x : Lit) (hl el : List Nat) : Option Lit := ob (sMid f k j n x) fun st => cutSt hl el st
/-- some rounds of a loop -/
noncomputable def sLoop (f k j n : Nat) (x : Lit) : Option St := ob (TT f) fun fn => ob fn.body fun b => match (fl (behind k b)).drop j with
  | c :: _ => ob (loopOf c) fun q => ob (xcode (xreg Tryz.prog (Kf f fn)) Tryz.prog (Kf f fn) 100000 q.2) fun run => ob (mkSt x) fun st => iterN (run (runC 120)) n st
  | [] => none
noncomputable def pLoop (f k j n : Nat) (x : Lit) (hl el : List Nat) : Option Lit := ob (sLoop f k j n x) fun st => cutSt hl el st
/-- to the end -/
noncomputable def sFin (f k j : Nat) (x : Lit) : Option (V × Hp) := ob (TT f) fun fn => ob fn.body fun b => ob (xlist (Kf f fn) ((fl (behind k b)).drop j)) fun run => ob (rsL Tryz.prog (Kf f fn) fn.results.toList) fun res => ob (mkSt x) fun st => ob (run (runC 120) st) fun r => match r.1 with
  | .ex _ => none
  | _ => ob (xdf (runC 120) r.2.df r.2.hp) fun h' => ob (res r.2.env h') fun xs => some (rsV xs, h')
noncomputable def pFin (f k j : Nat) (x : Lit) (hl : List Nat) : Option (V × List (Nat × List S × Nat) × Nat) := ob (sFin f k j x) fun q => ob (keepL q.2 hl) fun L => some (q.1, L, q.2.next)
/-- up to a call -/
noncomputable def sHole (f k j : Nat) (args : List V) (h : Hp) : Option (St × Nat × List V) := ob (TT f) fun fn => ob (holeAt fn k j) fun H => xhole (xreg Tryz.prog) Tryz.prog (ks f) 100000 k j H (runC 120) h args
noncomputable def pHole (f k j : Nat) (args : List V) (h : Hp) (hl el : List Nat) : Option (Lit × Nat × List V) := ob (sHole f k j args h) fun q => ob (cutSt hl el q.1) fun x => some (x, q.2.1, q.2.2)
/-- behind it, to the end of the region -/
noncomputable def sRest (f k j : Nat) (x : Lit) (v : V) (L : List (Nat × List S × Nat)) (nx : Nat) : Option St := ob (TT f) fun fn => ob (holeAt fn k j) fun H => ob (mkSt x) fun st => ob (litT L) fun t => ob (putD (Kf f fn) H.o.dst) fun g => ob (g v st.env) fun env => ob (xops Tryz.prog H.ops ((Kf f fn).tell H.o.dst) H.l) fun run => run (runC 120) ⟨env, ⟨t, nx⟩, st.df⟩
noncomputable def pRest (f k j : Nat) (x : Lit) (v : V) (L : List (Nat × List S × Nat)) (nx : Nat) (hl el : List Nat) : Option Lit := ob (sRest f k j x v L nx) fun st => cutSt hl el st

theorem lands_enter (e : pPre f n args h0 hl el = some x) (hx : Lands f 0 n x v h) (hs : (mkSt x).isSome = true) : CallsAt f args h0 v h := fun U w0 C m w us r hd => by
  obtain ⟨st, e, ec⟩ := ob_some e
  obtain ⟨fn, e1, e⟩ := ob_some e
  obtain ⟨b, e2, e⟩ := ob_some e
  obtain ⟨e3, e⟩ := oif_some e
  obtain ⟨run, e4, e⟩ := ob_some e
  obtain ⟨tr, e5, e⟩ := ob_some e
  have e6 := onNx_some e
  obtain ⟨st', e7⟩ := Option.isSome_iff_exists.1 hs
  refine calls_of_wp_defers e1 e2 (cwpL_wp b ?_)
  have hs0 : SR U w0 ⟨C, fun _ _ => False⟩ m (Kf f fn) ⟨⟨[], tr⟩, h0, []⟩ { tmps := us.toArray ++ Array.replicate (fn.ntmps - us.toArray.size) undef, defers := [] } w := ⟨r, enter_ok hd e5 e3 [], trivial⟩
  rw [← List.take_append_drop n (fl b)]
  exact xlist_cwpL rfl _ _ e4 e6 hs0 fun m' a' w' hle s => hx fn b st' e1 e2 e7 U w0 C m m' a' w' hle (lit_cut s rfl rfl rfl ec e7)
theorem enter_lit {t0 : Tr Ob} (h0 : litT L = some t0) (e : (ob (litT L) fun t => pPre f n args ⟨t, nx⟩ hl el) = some x) : pPre f n args ⟨t0, nx⟩ hl el = some x := by
  obtain ⟨t', h1, h2⟩ := ob_some e
  rw [h0] at h1
  cases h1
  exact h2
theorem lands_mid (e : pMid f k j n x hl el = some y) (hy : Lands f k (j + n) y v h) (hs : (mkSt y).isSome = true) : Lands f k j x v h := fun fn b st e1 e2 e3 U w0 C m0 m a w hle s => by
  obtain ⟨st1, e, ec⟩ := ob_some e
  obtain ⟨fn', f1, e⟩ := ob_some e
  rw [e1] at f1; cases f1
  obtain ⟨b', f2, e⟩ := ob_some e
  rw [e2] at f2; cases f2
  obtain ⟨run, e4, e⟩ := ob_some e
  obtain ⟨st0, f3, e⟩ := ob_some e
  rw [e3] at f3; cases f3
  have e5 := onNx_some e
  obtain ⟨st', e7⟩ := Option.isSome_iff_exists.1 hs
  rw [← List.take_append_drop n ((fl (behind k b)).drop j)]
  refine xlist_cwpL rfl _ _ e4 e5 s fun m' a' w' l s1 => ?_
  have := hy fn b st' e1 e2 e7 U w0 C m0 m' a' w' (M.le_trans hle l) (lit_cut s1 rfl rfl rfl ec e7)
  rw [← List.drop_drop] at this
  exact this
theorem iter_ok {call : CF} {U : UU} {w0 : World} {prot : PP} {K : SC} {c : Code} {run : CF → St → Option (XM.Ex × St)} {Q : Exit → Act → World → Prop} (hreg : RegOK Tryz.prog K (xreg Tryz.prog K)) (hds : K.ds = []) (hc : CallOK Tryz.prog call) (hx : xcode (xreg Tryz.prog K) Tryz.prog K 100000 c = some run) : ∀ (n : Nat) {st st' : St} {m : M} {a : Act} {w : World}, iterN (run call) n st = some st' → SR U w0 prot m K st a w →
    (∀ m' a' w', m.le m' → SR U w0 prot m' K st' a' w' → loopwp c Q a' w') → loopwp c Q a w
  | 0, st, st', m, a, w, e, s, K1 => by cases e; exact K1 m a w (M.le_refl m) s
  | n + 1, st, st', m, a, w, e, s, K1 => by
    obtain ⟨rs, e1, e⟩ := ob_some (show (ob (onNx (run call st)) (iterN (run call) n)) = some st' from e)
    refine loopwp.step (xcode_ok hreg hds hc hx (onNx_some e1) s fun m1 a1 w1 l1 s1 => ⟨rfl, ?_⟩)
    exact iter_ok hreg hds hc hx n e s1 fun m2 a2 w2 l2 s2 => K1 m2 a2 w2 (M.le_trans l1 l2) s2
theorem lands_loop (e : pLoop f k j n x hl el = some y) (hy : Lands f k j y v h) (hs : (mkSt y).isSome = true) : Lands f k j x v h := fun fn b st e1 e2 e3 U w0 C m0 m a w hle s => by
  obtain ⟨st1, e, ec⟩ := ob_some e
  obtain ⟨fn', f1, e⟩ := ob_some e
  rw [e1] at f1; cases f1
  obtain ⟨b', f2, e⟩ := ob_some e
  rw [e2] at f2; cases f2
  obtain ⟨st', e7⟩ := Option.isSome_iff_exists.1 hs
  split at e
  · rename_i c r hcr
    obtain ⟨⟨i, q⟩, e4, e⟩ := ob_some e
    obtain ⟨run, e5, e⟩ := ob_some e
    obtain ⟨st0, f3, e⟩ := ob_some e
    rw [e3] at f3; cases f3
    rw [hcr]
    unfold cwpL
    rw [e4]
    refine iter_ok (xreg_ok Tryz.checked.mixed rfl) rfl (runC_ok 120) e5 n e s fun m1 a1 w1 l1 s1 => ?_
    have := hy fn b st' e1 e2 e7 U w0 C m0 m1 a1 w1 (M.le_trans hle l1) (lit_cut s1 rfl rfl rfl ec e7)
    rw [hcr] at this
    unfold cwpL at this
    rw [e4] at this
    exact this
  · cases e
theorem lands_fin (e : pFin f k j x hl = some (v, L, nx)) (et : litT L = some t) : Lands f k j x v ⟨t, nx⟩ := fun fn b st e1 e2 e3 U w0 C m0 m a w hle s => by
  obtain ⟨⟨qv, qh⟩, eA, ec⟩ := ob_some e
  clear e
  obtain ⟨L', g3, ec⟩ := ob_some ec
  cases ec
  obtain ⟨fn', f1, e⟩ := ob_some eA
  rw [e1] at f1; cases f1
  obtain ⟨b', f2, e⟩ := ob_some e
  rw [e2] at f2; cases f2
  obtain ⟨run, e4, e⟩ := ob_some e
  obtain ⟨res, e5, e⟩ := ob_some e
  obtain ⟨st0, f3, e⟩ := ob_some e
  rw [e3] at f3; cases f3
  obtain ⟨⟨re, rs⟩, e6, e⟩ := ob_some e
  have hfin : (ob (xdf (runC 120) rs.df rs.hp) fun h' => ob (res rs.env h') fun xs => some (rsV xs, h')) = some (qv, qh) → ∀ m' a' w', m.le m' → SR U w0 ⟨C, fun _ _ => False⟩ m' (Kf f fn) rs a' w' → Leaves Tryz.prog fn a'.tmps (Ends U w0 C m0 qv ⟨t, qh.next⟩) a'.defers .returning w' := fun e m' a' w' l s' => by
    obtain ⟨h', g1, e⟩ := ob_some e
    obtain ⟨xs, g2, e⟩ := ob_some e
    cases e
    exact leaves_ok (runC_ok 120) g1 s'.rel s'.df fun m2 w2 l2 r2 => by
      obtain ⟨u, k1, k2⟩ := results_ok (P := Tryz.prog) (fn := fn) e5 r2 (s'.env.mono l2) g2
      exact ⟨u, k2, m2, u, rfl, M.le_trans hle (M.le_trans l l2), Rel.lit r2 g3 et, k1⟩
  rw [← List.append_nil ((fl (behind k b)).drop j)]
  cases re with
  | ex id => cases e
  | nx => exact xlist_cwpL rfl [] _ e4 e6 s fun m' a' w' l s' => hfin e m' a' w' l s'
  | rt => exact xlist_cwpL rfl [] _ e4 e6 s fun m' a' w' l s' => hfin e m' a' w' l s'
theorem behind_add : ∀ (j k : Nat) (c : Code), behind k (behind j c) = behind (j + k) c
  | 0, k, c => by rw [Nat.zero_add]; rfl
  | j + 1, k, c => by
    rw [show j + 1 + k = (j + k) + 1 by omega]
    cases c with
    | seq a b => exact behind_add j k b
    | _ => cases k <;> rfl
theorem lands_call {g : Nat} {gargs : List V} {v' : V} {L' : List (Nat × List S × Nat)} {nx' : Nat} {t' t0 : Tr Ob} {hl2 el2 : List Nat} (e : pHole f k j args h0 hl el = some (x, g, gargs)) (e0 : litT x.L = some t0) (hgf : isFn Tryz.prog g) (hg : CallsAt g gargs ⟨t0, x.nx⟩ v' ⟨t', nx'⟩) (et : litT L' = some t')
    (er : pRest f k j x v' L' nx' hl2 el2 = some y) (hs : (mkSt y).isSome = true) (hy : Lands f (k + 1) 0 y v h) : CallsAt f args h0 v h := fun U w0 C m w us r hd => by
  obtain ⟨q, eA, ec⟩ := ob_some e
  clear e
  obtain ⟨x', e4, ec⟩ := ob_some ec
  cases ec
  obtain ⟨fn, e1, eB⟩ := ob_some eA
  obtain ⟨H, e2, e3⟩ := ob_some eB
  obtain ⟨st1, eC, ec⟩ := ob_some er
  clear er
  obtain ⟨fn', f1, er⟩ := ob_some eC
  rw [e1] at f1; cases f1
  obtain ⟨H', f2, er⟩ := ob_some er
  rw [e2] at f2; cases f2
  obtain ⟨st, e5, er⟩ := ob_some er
  obtain ⟨t1, f3, er⟩ := ob_some er
  rw [et] at f3; cases f3
  obtain ⟨gp, e6, er⟩ := ob_some er
  obtain ⟨env, e7, er⟩ := ob_some er
  obtain ⟨run, e8, e9⟩ := ob_some er
  obtain ⟨st2, e10⟩ := Option.isSome_iff_exists.1 hs
  refine xhole_ok (fun _ h => xreg_ok Tryz.checked.mixed h) (runC_ok 120) e1 e2 e3 r hd fun m' a' w' vs hle s hvs => ⟨hgf, ?_⟩
  obtain ⟨q1, q2⟩ := KT_ks j ⟨fn.ntmps, ks f, []⟩ H.ops.toList
  have s1 := lit_cut (K' := Kf f fn) s q2.symm q1.symm rfl e4 e5
  have hx' : st.hp = ⟨t0, x.nx⟩ := by
    obtain ⟨tt, g1, e5⟩ := ob_some e5
    rw [e0] at g1; cases g1
    obtain ⟨te, g2, e5⟩ := ob_some e5
    cases e5; rfl
  refine (hg U w0 C m' w' vs (hx' ▸ s1.rel) hvs).mono ?_
  rintro e'' w'' ⟨m2, u, rfl, l2, r2, d2⟩
  have hb : H.fn = fn ∧ ∃ b, fn.body = some b ∧ behind (k + 1) b = H.rest := by
    unfold holeAt at e2
    obtain ⟨b, hb, e2⟩ := ob_some e2
    split at e2
    · rename_i id ops rest hbe
      split at e2
      · split at e2
        · cases e2
          refine ⟨rfl, b, hb, ?_⟩
          rw [← behind_add k 1 b, hbe]; rfl
        · cases e2
      · cases e2
    · cases e2
  obtain ⟨hfn, b, hb, hrest⟩ := hb
  have ar := putD_ok e6 e7 (s1.env.mono l2) d2
  refine xops_ok (runC_ok 120) (K0 := Kf f fn) (by cases H.o.dst <;> rfl) e8 e9 ⟨r2, ar, by rw [put_defers']; exact s1.df.mono l2⟩ fun m3 a3 w3 l3 s3 => ?_
  show H.rest.wp Tryz.prog (bodyPostD Tryz.prog fn (Ends U w0 C m v h)) a3 w3
  rw [← hrest]
  exact cwpL_wp _ (hy fn b st2 e1 hb e10 U w0 C m m3 a3 w3 (M.le_trans hle (M.le_trans l2 l3)) (lit_cut s3 rfl rfl rfl ec e10))
end
end Go.Proofs.YtgmmfjmdpbhjnaaGreat
