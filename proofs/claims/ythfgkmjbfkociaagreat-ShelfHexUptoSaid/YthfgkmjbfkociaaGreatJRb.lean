/-
  Texts joined: RnC RnD RnE RnF.
-/
import Derived.Test.YthfgkmjbfkociaaGreatJRa
/-
  What was made ready on paper, in the world: what machine.run does.
-/
namespace Go.Proofs.YthfgkmjbfkociaaGreat
open Go Go.RowKit Go.XM

/-- the blocks that do not turn while a program runs -/
def Kof (prot : PP) (m : M) (h : Hp) (X : List Pa) (c : Nat) : Prop := prot.c c ∨ ∃ p x o, m p = some (c, x) ∧ h.tr.at p = some o ∧ anyPa X p = false
noncomputable def Zof (w : World) (prot : PP) (m : M) (h : Hp) (X : List Pa) : Nat → Option Obj := fun c => open Classical in if Kof prot m h X c then w.heap[c]? else none
/-- what comes in -/
def InpW (prot : PP) (w0 : World) (U : UU) (inp : List Nat) : Prop :=
  inp.length ≤ 65536 ∧ ∃ a c, U.k 0 = .slice a inp.length c ∧ ∀ (k v : Nat), inp[k]? = some v → v < 256 ∧ ∃ b off cur t fz, a = some ⟨b, off, none⟩ ∧ prot.c b ∧ w0.heap[b]? = some (.cells cur t fz) ∧ cur[off + k]? = some (.int .u8 v)

section
variable {U : UU} {w0 : World} {prot : PP} {m : M} {h : Hp} {w : World} {X : List Pa}
theorem zof_of {c : Nat} (hk : Kof prot m h X c) : Zof w prot m h X c = w.heap[c]? := by unfold Zof; rw [if_pos hk]
theorem zof_has : Has (Zof w prot m h X) (Kof prot m h X) w := by
  intro b o e
  unfold Zof at e
  split at e
  · exact ⟨by assumption, e⟩
  · cases e
theorem zof_zr (r : Rel U w0 prot m h w) : ZR U m h X (Zof w prot m h X) := fun b c x o h1 h2 h3 => by
  rw [zof_of (.inr ⟨b, x, o, h1, h2, h3⟩)]; exact r.obj b c x o h1 h2
theorem kof_lt (r : Rel U w0 prot m h w) : ∀ b, Kof prot m h X b → b < w.heap.size
  | b, .inl hb => (r.keep b hb).1
  | b, .inr ⟨p, x, _, h1, _, _⟩ => r.lt p b x h1
theorem inp_at (r : Rel U w0 prot m h w) {inp : List Nat} (hi : InpW prot w0 U inp) {A : Adr} (hA : A.inp = U.k 0) : InpAt A (Zof w prot m h X) inp := by
  obtain ⟨h1, a, c, h2, h3⟩ := hi
  refine ⟨h1, a, c, hA.trans h2, fun k v hk => ?_⟩
  obtain ⟨h4, b, off, cur, t, fz, h5, h6, h7, h8⟩ := h3 k v hk
  exact ⟨h4, b, off, h5, cur, t, fz, by rw [zof_of (.inl h6), (r.keep b h6).2.1]; exact h7, h8⟩

theorem isN_ok {k : IntKind} {n : Nat} {s : S} {v : Value} (e : isN k n s = true) (hd : s.den U m = some v) : v = .int k n := by
  unfold isN at e
  split at e
  · simp only [Bool.and_eq_true, Nat.beq_eq] at e
    cases hd
    rw [keq_ok e.1, e.2]; rfl
  · cases e
theorem isNils_ok {s : S} {v : Value} (e : isNils s = true) (hd : s.den U m = some v) : v = .slice none 0 0 := by
  unfold isNils at e
  split at e
  · cases hd; rfl
  · cases e
theorem isUk0_ok {s : S} {v : Value} (e : isUk0 s = true) (hd : s.den U m = some v) : v = U.k 0 := by
  unfold isUk0 at e
  split at e
  · cases hd; rfl
  · cases e
theorem asSl1_ok {s : S} {q : Pa × Nat × Nat} {v : Value} (e : asSl1 s = some q) (hd : s.den U m = some v) : ∃ b x c, m q.1 = some (b, x) ∧ v = .slice (some ⟨b, q.2.1, none⟩) q.2.2 c := by
  unfold asSl1 at e
  split at e
  · obtain ⟨h1, e⟩ := oif_some e
    cases e
    have := Nat.eq_of_beq_eq_true h1; subst this
    obtain ⟨c, x, h2, _, rfl⟩ := den_slE (U := U) (m := m) hd
    exact ⟨c, _, _, h2, by rw [Nat.mul_one]⟩
  · cases e

/-- The machine, made ready. -/
theorem rMach_ok (r : Rel U w0 prot m h w) {mp : Pa} {mb : Nat} {x : Nat × Nat} (hm : m mp = some (mb, x)) {q : (Pa × Nat × Nat) × (Pa × Nat × Nat)} (e : rMach h mp = some q) :
    ∃ bb xb cb fb xf cf, m q.1.1 = some (bb, xb) ∧ m q.2.1 = some (fb, xf) ∧ q.1.2.2 = q.2.2.2 ∧ q.1.2.2 ≤ 1000000 ∧
      MachAt ⟨mb, 200000, U.k 0, .slice none 0 0, .slice (some ⟨bb, q.1.2.1, none⟩) q.1.2.2 cb, .slice (some ⟨fb, q.2.2.1, none⟩) q.2.2.2 cf, []⟩ (Kof prot m h [mp]) w ⟨0, [], 0, 0, []⟩ := by
  obtain ⟨o, h1, e⟩ := ob_some e
  cases o with
  | map _ => cases e
  | cells c t k =>
    obtain ⟨h2, e⟩ := oif_some e
    simp only [Bool.and_eq_true, Nat.beq_eq] at h2
    obtain ⟨rfl, rfl⟩ := h2
    simp only [ob_eq, oif_eq] at e
    obtain ⟨_, s0, e0, s1, e1, s2, e2, s3, e3, s4, e4, s5, e5, s6, e6, s7, e7, s8, e8, s9, e9, s10, e10, s11, e11, g, q1, f1, q2, f2, f3, e⟩ := e
    cases e
    simp only [Bool.and_eq_true] at g
    obtain ⟨⟨g0, g1⟩, ⟨g2, g3⟩, ⟨g4, g5⟩, ⟨g6, g7⟩, g8, g9⟩ := g
    obtain ⟨cur, k1, k2, k3, k4⟩ := r.cells hm h1
    have hsz := r.exact hm h1 k1 (show 2 * _ % 2 = 0 by omega)
    have ty : (Nat.mul 2 83) / 2 = 83 := by decide
    rw [ty] at k1
    obtain ⟨_, v0, d0, c0⟩ := k4 0 _ e0
    obtain ⟨_, v1, d1, c1⟩ := k4 1 _ e1
    obtain ⟨_, v2, d2, c2⟩ := k4 2 _ e2
    obtain ⟨_, v3, d3, c3⟩ := k4 3 _ e3
    obtain ⟨_, v4, d4, c4⟩ := k4 4 _ e4
    obtain ⟨_, v5, d5, c5⟩ := k4 5 _ e5
    obtain ⟨_, v6, d6, c6⟩ := k4 6 _ e6
    obtain ⟨_, v7, d7, c7⟩ := k4 7 _ e7
    obtain ⟨_, v8, d8, c8⟩ := k4 8 _ e8
    obtain ⟨_, v9, d9, c9⟩ := k4 9 _ e9
    obtain ⟨_, v10, d10, c10⟩ := k4 10 _ e10
    obtain ⟨_, v11, d11, c11⟩ := k4 11 _ e11
    have := isN_ok g0 d0; subst this
    have := isN_ok g1 d1; subst this
    have := isNils_ok g2 d2; subst this
    have := isN_ok g3 d3; subst this
    have := isN_ok g4 d4; subst this
    have := isN_ok g5 d5; subst this
    have := isN_ok g6 d6; subst this
    have := isUk0_ok g7 d7; subst this
    have := isNils_ok g8 d8; subst this
    have := isN_ok g9 d9; subst this
    obtain ⟨bb, xb, cb, m1, rfl⟩ := asSl1_ok f1 d10
    obtain ⟨fb, xf, cf, m2, rfl⟩ := asSl1_ok f2 d11
    simp only [Bool.and_eq_true, Nat.beq_eq, Nat.ble_eq] at f3
    refine ⟨bb, xb, cb, fb, xf, cf, m1, m2, f3.1, f3.2, ?_⟩
    have hcur : cur = mCells ⟨mb, 200000, U.k 0, .slice none 0 0, .slice (some ⟨bb, q1.2.1, none⟩) q1.2.2 cb, .slice (some ⟨fb, q2.2.1, none⟩) q2.2.2 cf, []⟩ 0 0 (.slice none 0 0) 0 0 0 := by
      apply Array.ext_getElem?
      intro i
      match i with
      | 0 => exact c0
      | 1 => exact c1
      | 2 => exact c2
      | 3 => exact c3
      | 4 => exact c4
      | 5 => exact c5
      | 6 => exact c6
      | 7 => exact c7
      | 8 => exact c8
      | 9 => exact c9
      | 10 => exact c10
      | 11 => exact c11
      | i + 12 => rw [Array.getElem?_eq_none (by omega), Array.getElem?_eq_none (by simp [mCells])]
    rw [hcur] at k1
    have hkm : ¬ Kof prot m h [mp] mb := by
      rintro (hk | ⟨p, y, o, j1, j2, j3⟩)
      · exact (r.keep mb hk).2.2 mp x hm
      · have := r.inj p mp mb y x _ _ j1 hm j2 h1
        subst this
        rw [anyPa_iff.2 (List.mem_singleton.2 rfl)] at j3
        cases j3
    exact ⟨⟨.slice none 0 0, k1, ⟨rfl, .inl ⟨rfl, rfl⟩⟩, fun k e => by cases e⟩, ⟨hkm, by simp⟩, List.nodup_nil, rfl, fun i b l e _ => by simp at e, Nat.zero_le _, Nat.le_refl _, Nat.zero_le _, Nat.zero_le _, Nat.zero_le _, kof_lt r⟩

variable {Z : Nat → Option Obj} {A : Adr} {inp : List Nat}
theorem rBd_ok (hz : ZR U m h X Z) {d : Nat} {b fb : Pa} {cb cf : Nat} {xb xf : Nat × Nat} (h1 : m b = some (cb, xb)) (h2 : m fb = some (cf, xf)) : ∀ {n o fo : Nat} {l : List (List Sm × Nat)}, rBd X h d b fb n o fo = some l →
    l.length = n ∧ ∀ i lb z, l[i]? = some (lb, z) → z ≤ 1000000 ∧ (∃ s v, s.den U m = some v ∧ (rd X h d).b s = some lb ∧ Zc Z cb (o + i) v) ∧ Zc Z cf (fo + i) (.int .i64 z)
  | 0, o, fo, l, e => by cases e; exact ⟨rfl, fun i lb z e => by simp at e⟩
  | n + 1, o, fo, l, e => by
    replace e : (ob (rdc X h b o) fun v => ob ((rd X h d).b v) fun l => ob (rdc X h fb fo) fun u => ob (asN .i64 u) fun z => oif (Nat.ble z 1000000) (ob (rBd X h d b fb n (Nat.succ o) (Nat.succ fo)) fun r => some ((l, z) :: r))) = some l := e
    simp only [ob_eq, oif_eq] at e
    obtain ⟨v, e1, lb, e2, u, e3, z, e4, e5, r, e6, e⟩ := e
    cases e
    obtain ⟨v1, d1, z1⟩ := rdc_zc hz h1 e1
    obtain ⟨v2, d2, z2⟩ := rdc_zc hz h2 e3
    have := asN_ok e4 d2; subst this
    obtain ⟨k1, k2⟩ := rBd_ok hz h1 h2 e6
    refine ⟨by simp [k1], fun i lb' z' e => ?_⟩
    cases i with
    | zero => cases e; exact ⟨Nat.ble_eq ▸ e5, ⟨v, v1, d1, e2, z1⟩, z2⟩
    | succ i =>
      obtain ⟨q1, ⟨s, v3, q2, q3, q4⟩, q5⟩ := k2 i lb' z' (by simpa using e)
      rw [show o.succ + i = o + (i + 1) by omega] at q4
      rw [show fo.succ + i = fo + (i + 1) by omega] at q5
      exact ⟨q1, ⟨s, v3, q2, q3, q4⟩, q5⟩

/-- What was made ready is run. -/
theorem ready_ok (r : Rel U w0 prot m h w) (hi : InpW prot w0 U inp) {d : Nat} {vs : List V} {us : List Value} {q : Pa × Rdy} (e : rRdy d h vs = some q) (hd : denVL U m vs = some us) :
    ∃ A : Adr, ∃ x, m q.1 = some (A.mb, x) ∧ A.lim = 200000 ∧ A.inp = U.k 0 ∧ A.gs.oneCell' = true ∧ A.bods.oneCell' = true ∧ A.frs.oneCell' = true ∧ (∃ o, h.tr.at q.1 = some o) ∧ ∀ n rx, evF inp q.2.bd n q.2.k [] ⟨0, [], 0, 0, []⟩ = some rx →
      Calls Tryz.prog 30 us.toArray w (PostX A (Kof prot m h [q.1]) w rx) := by
  unfold rRdy at e
  split at e
  · rename_i mp k
    simp only [ob_eq] at e
    obtain ⟨q', e1, bd, e2, e⟩ := e
    cases e
    obtain ⟨v1, l1, d1, d2, rfl⟩ := denVL_cons hd
    obtain ⟨v2, l2, d3, d4, rfl⟩ := denVL_cons d2
    obtain ⟨v3, l3, d5, d6, rfl⟩ := denVL_cons d4
    cases d6; cases d5; cases d3
    obtain ⟨mb, x, hm, rfl⟩ := den_ptrE (U := U) (m := m) d1
    obtain ⟨bb, xb, cb, fb, xf, cf, m1, m2, hn, hle, hM⟩ := rMach_ok r hm e1
    have hzr := zof_zr (X := [mp]) r
    refine ⟨⟨mb, 200000, U.k 0, .slice none 0 0, .slice (some ⟨bb, q'.1.2.1, none⟩) q'.1.2.2 cb, .slice (some ⟨fb, q'.2.2.1, none⟩) q'.2.2.2 cf, []⟩, x, hm, rfl, rfl, rfl, rfl, rfl, (let ⟨o, h1, _⟩ := ob_some e1; ⟨o, h1⟩), fun n rx he => ?_⟩
    obtain ⟨k1, k2⟩ := rBd_ok hzr m1 m2 e2
    have hbod : BodOK U m h [mp] (Zof w prot m h [mp]) ⟨mb, 200000, U.k 0, .slice none 0 0, .slice (some ⟨bb, q'.1.2.1, none⟩) q'.1.2.2 cb, .slice (some ⟨fb, q'.2.2.1, none⟩) q'.2.2.2 cf, []⟩ bd := fun k lb z hk => by
      obtain ⟨j1, ⟨s, v, j2, j3, j4⟩, j5⟩ := k2 k lb z hk
      have hlt : k < bd.length := (List.getElem?_eq_some_iff.1 hk).1
      exact ⟨j1, d, s, v, j2, j3, fun g c hv => ⟨fb, _, _, _, bb, _, _, _, rfl, rfl, by omega, by omega, by omega, by omega, j5, by rw [← hv]; exact j4⟩⟩
    exact (rd_ok hzr (inp_at r hi (A := ⟨mb, 200000, U.k 0, .slice none 0 0, .slice (some ⟨bb, q'.1.2.1, none⟩) q'.1.2.2 cb, .slice (some ⟨fb, q'.2.2.1, none⟩) q'.2.2.2 cf, []⟩) rfl) hbod n 0).f k _ w _ [] _ rx zof_has hM ⟨by simp, by simp, none, 0, rfl, fun h => by simp at h⟩ he
  · cases e
end
end Go.Proofs.YthfgkmjbfkociaaGreat

/-
  eval.Run, behind machine.run: what it tells.
-/
namespace Go.Proofs.YthfgkmjbfkociaaGreat
open Go Go.RowKit Go.XM

/-- a block of the world is laid on paper -/
noncomputable def layB (l : List S) (T : Nat) (h : Hp) : Option Hp := ob (trL l 0 .nil) fun t => h.new (.cells t (Nat.mul 2 T) l.length)
section
variable {U : UU} {w0 : World} {prot : PP} {m : M} {h h' : Hp} {w : World}
theorem adopt (r : Rel U w0 prot m h w) {o : Ob} {c : Nat} {x : Nat × Nat} (e : h.new o = some h') (hc : c < w.heap.size) (hp : ¬ prot.c c) (hm : ∀ b x, m b ≠ some (c, x)) (ho : ObR U m x o w.heap[c]?) :
    Rel U w0 prot (m.upd (paN h.next) (c, x)) h' w := by
  obtain ⟨r', hn, hat⟩ := r.paper e
  have hnew := r.new h.next (Nat.le_refl _)
  have hle : m.le (m.upd (paN h.next) (c, x)) := M.le_upd hnew
  refine ⟨r.os, r.tape, r.output, r.size, fun k hk => ⟨(r.keep k hk).1, (r.keep k hk).2.1, fun b y e => ?_⟩, fun b k y e => ?_, fun n hn' => ?_, fun b b' k y y' o₁ o₂ e e' f f' => ?_, fun b k y o₁ e f => ?_, fun p o' e => ?_⟩
  · by_cases hb : b = paN h.next
    · subst hb; rw [M.upd_same] at e; cases e; exact hp hk
    · rw [M.upd_ne _ _ hb] at e; exact (r.keep k hk).2.2 b y e
  · by_cases hb : b = paN h.next
    · subst hb; rw [M.upd_same] at e; cases e; exact hc
    · rw [M.upd_ne _ _ hb] at e; exact r.lt b k y e
  · have : paN n ≠ paN h.next := paN_ne (by omega)
    rw [M.upd_ne _ _ this]; exact r.new n (by omega)
  · by_cases hb : b = paN h.next <;> by_cases hb' : b' = paN h.next
    · rw [hb, hb']
    · subst hb; rw [M.upd_same] at e; cases e
      rw [M.upd_ne _ _ hb'] at e'; exact absurd e' (hm _ _)
    · subst hb'; rw [M.upd_same] at e'; cases e'
      rw [M.upd_ne _ _ hb] at e; exact absurd e (hm _ _)
    · rw [M.upd_ne _ _ hb] at e; rw [M.upd_ne _ _ hb'] at e'
      exact r'.inj b b' k y y' o₁ o₂ e e' f f'
  · by_cases hb : b = paN h.next
    · subst hb; rw [M.upd_same] at e; cases e
      rw [hat] at f; cases f
      exact ObR_mono hle ho
    · rw [M.upd_ne _ _ hb] at e
      exact ObR_mono hle (r'.obj b k y o₁ e f)
  · have ⟨h1, h2, k, hk, h3⟩ := r'.pend p o' e
    have ⟨_, _, k', hk', h3'⟩ := r.pend p o' e
    have : p ≠ paN h.next := by rw [h3']; exact paN_ne (by omega)
    exact ⟨by rw [M.upd_ne _ _ this]; exact h1, h2, k, hk, h3⟩
theorem adoptL (r : Rel U w0 prot m h w) {l : List S} {T c : Nat} {vs : List Value} (e : layB l T h = some h') (hp : ¬ prot.c c) (hm : ∀ b x, m b ≠ some (c, x)) (hd : denL U m l = some vs) (hc : w.heap[c]? = some (.cells vs.toArray T (0, 0))) :
    Rel U w0 prot (m.upd (paN h.next) (c, (1, vs.length))) h' w ∧ h'.next = h.next + 1 := by
  obtain ⟨t, h1, e⟩ := ob_some e
  refine ⟨adopt r e (blk_lt hc) hp hm ?_, (r.paper e).2.1⟩
  rw [hc]
  exact ObR_list hd h1 (by simp) (by simp [maxLen])
/-- nothing on paper yet -/
theorem rel_none (U : UU) (w : World) (C : Nat → Prop) (hC : ∀ c, C c → c < w.heap.size) : Rel U w ⟨C, fun _ _ => False⟩ (fun _ => none) ⟨.nil, 0⟩ w :=
  ⟨rfl, rfl, rfl, Nat.le_refl _, fun c hc => ⟨hC c hc, rfl, fun _ _ e => (by cases e)⟩, fun _ _ _ e => (by cases e), fun _ _ => rfl, fun _ _ _ _ _ _ _ e => (by cases e), fun _ _ _ _ e => (by cases e), fun _ _ e => e.elim⟩
/-- a block whole: its cells -/
noncomputable def blkL (h : Hp) (p : Pa) (T k : Nat) : Option (List S) := ob (h.tr.at p) fun x => match x with
  | .cells c t n => oif (and (Nat.beq t (Nat.mul 2 T)) (Nat.beq n k)) (rdL c 0 k)
  | _ => none
theorem blkL_ok (r : Rel U w0 prot m h w) {p : Pa} {T k c : Nat} {x : Nat × Nat} {l : List S} (e : blkL h p T k = some l) (hm : m p = some (c, x)) : ∃ vs, denL U m l = some vs ∧ w.heap[c]? = some (.cells vs.toArray T (0, 0)) ∧ ∃ o, h.tr.at p = some o := by
  obtain ⟨o, h1, e⟩ := ob_some e
  cases o with
  | map _ => cases e
  | cells cc t n =>
    rw [oif_eq] at e
    obtain ⟨h2, e⟩ := e
    simp only [Bool.and_eq_true, Nat.beq_eq] at h2
    obtain ⟨rfl, rfl⟩ := h2
    obtain ⟨cur, k1, k2, k3, k4⟩ := r.cells hm h1
    have hsz := r.exact hm h1 k1 (show 2 * T % 2 = 0 by omega)
    obtain ⟨vs, j1, j2, j3⟩ := rdL_ok (fun i s hs => (k4 i s hs).2) _ _ e
    refine ⟨vs, j1, ?_, _, h1⟩
    rw [k1]
    have e1 : Nat.mul 2 T / 2 = T := show 2 * T / 2 = T by omega
    rw [e1]
    have hcur : cur = vs.toArray := by
      apply Array.ext_getElem?
      intro i
      have e2 : vs.toArray[i]? = vs[i]? := by simp
      rw [e2]
      by_cases hi : i < vs.length
      · have := j3 i _ (List.getElem?_eq_getElem hi)
        rw [Nat.zero_add] at this
        rw [this, List.getElem?_eq_getElem hi]
      · have hj : vs.length = n := j2
        rw [List.getElem?_eq_none (by omega), Array.getElem?_eq_none (by omega)]
    rw [hcur]
end

/-- a call's slots that are known -/
noncomputable def trS (ks : List Nat) : List (Nat × V) → Option (Tr V)
  | [] => some .nil
  | x :: r => ob (trS ks r) fun t => ob (idx x.1 ks) fun j => t.put x.2 (paN j)
theorem trS_ok {ks : List Nat} : ∀ {l : List (Nat × V)} {t : Tr V}, trS ks l = some t → ∀ s k v, idx s ks = some k → t.at (paN k) = some v → (s, v) ∈ l
  | [], t, e, s, k, v, hk, hv => by cases e; cases hv
  | x :: r, t, e, s, k, v, hk, hv => by
    obtain ⟨t1, e1, e⟩ := ob_some e
    obtain ⟨j, e2, e⟩ := ob_some e
    by_cases hs : s = x.1
    · subst hs
      rw [e2] at hk; cases hk
      rw [put_same _ _ _ _ e] at hv
      cases hv
      exact List.mem_cons_self
    · have : paN j ≠ paN k := paN_ne fun q => hs (idx_inj hk (by rw [← q]; exact e2))
      rw [put_ne _ _ _ _ _ this e] at hv
      exact List.mem_cons_of_mem _ (trS_ok e1 s k v hk hv)
end Go.Proofs.YthfgkmjbfkociaaGreat

/-
  eval.Run, whole.
-/
namespace Go.Proofs.YthfgkmjbfkociaaGreat
open Go Go.RowKit Go.XM

noncomputable def slotP (st : St) (t : Nat) : Option Pa := ob (idx t (ks 10)) fun k => ob (st.env.tr.at (paN k)) fun v => match v with | .a (.s (.ptr p 0)) => some p | _ => none
noncomputable def isTold0 (l : List S) : Bool := match l with | [a, b, c, d, e', f] => and (and (isN .i64 0 a) (isN .i64 0 b)) (and (isNils c) (and (isN .i64 0 d) (and (isN .i64 0 e') (isN .u64 0 f)))) | _ => false
noncomputable def isOK0 (l : List S) : Bool := match l with | [a, b] => and (isN .i64 0 a) (isN .i64 0 b) | _ => false
/-- what stands on paper where eval.Run calls machine.run -/
noncomputable def chkRun (st : St) (mp : Pa) : Option (Pa × Pa × Pa) :=
  oif (match st.df with | [] => true | _ => false) <| ob (slotP st 10) fun p10 => oif (paEq p10 mp) (ob (slotP st 6) fun p6 => ob (slotP st 7) fun p7 => ob (slotP st 9) fun p9 =>
    oif (and (and (not (anyPa [mp, p7, p9] p6)) (not (anyPa [mp, p9] p7))) (not (anyPa [mp] p9)))
    (ob (blkL st.hp p6 27 6) fun l6 => ob (blkL st.hp p7 38 2) fun l7 => ob (blkL st.hp p9 38 2) fun l9 => oif (and (isTold0 l6) (and (isOK0 l7) (isOK0 l9))) (some (p6, p7, p9))))

noncomputable def told0 : List S := [.i .i64 0, .i .i64 0, .nils, .i .i64 0, .i .i64 0, .i .u64 0]
noncomputable def okF0 : List S := [.i .i64 0, .i .i64 0]
noncomputable def lmT (ok : Bool) : List S := Bool.rec [.uk 8, .uk 9, .uk 1, .uk 2, .uk 3, .i .u64 0, .i .i64 200000, .uk 0, .uk 4, .uk 5, .uk 6, .uk 7] [.i .i64 0, .i .i64 0, .uk 1, .uk 2, .uk 3, .i .u64 0, .i .i64 200000, .uk 0, .uk 4, .uk 5, .uk 6, .uk 7] ok
noncomputable def tailH (ok : Bool) : Option Hp := ob (layB (lmT ok) 83 ⟨.nil, 0⟩) fun h => ob (layB told0 27 h) fun h => ob (layB okF0 38 h) fun h => layB okF0 38 h
noncomputable def tailS : List (Nat × V) := [(10, .a (.s (.ptr (paN 0) 0))), (6, .a (.s (.ptr (paN 1) 0))), (7, .a (.s (.ptr (paN 2) 0))), (9, .a (.s (.ptr (paN 3) 0)))]
noncomputable def tailE (H : Hole) (ok : Bool) : Option E := ob (trS (ks 10) tailS) fun tr => ob (putD ⟨H.fn.ntmps, ks 10, []⟩ H.o.dst) fun g => g (.tup [.s (.uk 10), .s (.bo ok)]) ⟨[], tr⟩
noncomputable def xTail (ok : Bool) : Option (List S × List S) := ob hRun fun H => ob (tailH ok) fun h => ob (tailE H ok) fun env => ob (xtail (xreg Tryz.prog) Tryz.prog (ks 10) 100000 H (runW 60) env h) fun r => match r.1 with
  | .tup [.ag l, .ag f] => some (l, f)
  | _ => none
theorem xTail_true : xTail true = some ([.i .i64 1, .i .i64 0, .uk 1, .uk 2, .uk 3, .uk 10], [.i .i64 0, .i .i64 0]) := by kernel_rfl
theorem xTail_false : xTail false = some ([.uk 8, .uk 9, .uk 1, .uk 2, .uk 3, .i .u64 0], [.i .i64 0, .i .i64 0]) := by kernel_rfl

theorem upd_no {m : M} {p : Pa} {c c' : Nat} {y : Nat × Nat} (h : ∀ b x, m b ≠ some (c, x)) (hc : c' ≠ c) : ∀ b x, (m.upd p (c', y)) b ≠ some (c, x) := fun b x e => by
  by_cases hb : b = p
  · subst hb; rw [M.upd_same] at e; cases e; exact hc rfl
  · rw [M.upd_ne _ _ hb] at e; exact h b x e
set_option maxRecDepth 100000 in
/-- Behind machine.run. -/
theorem runTail {H : Hole} (hH : hRun = some H) {a : Act} {w1 : World} {ok : Bool} {vv : Nat} {c10 c6 c7 c9 : Nat} {U : UU} (hsz : a.tmps.size = H.fn.ntmps) (hds : a.defers = [])
    (t10 : a.tmps[10]? = some (ptrV c10)) (t6 : a.tmps[6]? = some (ptrV c6)) (t7 : a.tmps[7]? = some (ptrV c7)) (t9 : a.tmps[9]? = some (ptrV c9)) (k10 : U.k 10 = .int .u64 vv)
    {vm : List Value} (d10 : ∀ m : M, denL U m (lmT ok) = some vm) (b10 : w1.heap[c10]? = some (.cells vm.toArray 83 (0, 0)))
    (b6 : w1.heap[c6]? = some (.cells #[.int .i64 0, .int .i64 0, .slice none 0 0, .int .i64 0, .int .i64 0, .int .u64 0] 27 (0, 0)))
    (b7 : w1.heap[c7]? = some (.cells #[.int .i64 0, .int .i64 0] 38 (0, 0))) (b9 : w1.heap[c9]? = some (.cells #[.int .i64 0, .int .i64 0] 38 (0, 0)))
    (n1 : c10 ≠ c6) (n2 : c10 ≠ c7) (n3 : c10 ≠ c9) (n4 : c6 ≠ c7) (n5 : c6 ≠ c9) (n6 : c7 ≠ c9) {l : List S} (hx : xTail ok = some (l, [.i .i64 0, .i .i64 0])) {R : Ending → World → Prop}
    (K1 : ∀ (m3 : M) w3 vs, denL U m3 l = some vs → Keep (fun c => c < w1.heap.size ∧ c ≠ c10 ∧ c ≠ c6 ∧ c ≠ c7 ∧ c ≠ c9) w1 w3 → R (.returned (.tuple #[.agg vs.toArray, .agg #[.int .i64 0, .int .i64 0]])) w3) :
    wpList Tryz.prog H.ops (Exit.then (H.rest.wp Tryz.prog (bodyPostD Tryz.prog H.fn R)) (bodyPostD Tryz.prog H.fn R)) H.l (a.put H.o.dst (.tuple #[.int .u64 vv, .bool ok])) w1 := by
  unfold xTail at hx
  rw [hH] at hx
  obtain ⟨H', e0, hx⟩ := ob_some hx
  cases e0
  obtain ⟨h4, e1, hx⟩ := ob_some hx
  obtain ⟨env, e2, hx⟩ := ob_some hx
  obtain ⟨r, e3, hx⟩ := ob_some hx
  obtain ⟨h1, f1, e1⟩ := ob_some e1
  obtain ⟨h2, f2, e1⟩ := ob_some e1
  obtain ⟨h3, f3, f4⟩ := ob_some e1
  have r0 := rel_none U w1 (fun c => c < w1.heap.size ∧ c ≠ c10 ∧ c ≠ c6 ∧ c ≠ c7 ∧ c ≠ c9) fun c h => h.1
  obtain ⟨r1, x1⟩ := adoptL r0 f1 (fun h => h.2.1 rfl) (fun _ _ e => by cases e) (d10 _) b10
  have m1 := upd_no (m := fun _ => none) (p := paN 0) (c := c6) (c' := c10) (y := (1, vm.length)) (fun _ _ e => by cases e) n1
  obtain ⟨r2, x2⟩ := adoptL r1 f2 (c := c6) (vs := [.int .i64 0, .int .i64 0, .slice none 0 0, .int .i64 0, .int .i64 0, .int .u64 0]) (fun h => h.2.2.1 rfl) m1 rfl b6
  have x1 : h1.next = 1 := x1
  rw [x1] at r2 x2
  have m2 := upd_no (p := paN 1) (c := c7) (c' := c6) (y := (1, 6)) (upd_no (m := fun _ => none) (p := paN 0) (c := c7) (c' := c10) (y := (1, vm.length)) (fun _ _ e => by cases e) n2) n4
  obtain ⟨r3, x3⟩ := adoptL r2 f3 (c := c7) (vs := [.int .i64 0, .int .i64 0]) (fun h => h.2.2.2.1 rfl) m2 rfl b7
  rw [x2] at r3 x3
  have m3 := upd_no (p := paN 2) (c := c9) (c' := c7) (y := (1, 2)) (upd_no (p := paN 1) (c := c9) (c' := c6) (y := (1, 6)) (upd_no (m := fun _ => none) (p := paN 0) (c := c9) (c' := c10) (y := (1, vm.length)) (fun _ _ e => by cases e) n3) n5) n6
  obtain ⟨r4, x4⟩ := adoptL r3 f4 (c := c9) (vs := [.int .i64 0, .int .i64 0]) (fun h => h.2.2.2.2 rfl) m3 rfl b9
  rw [x3] at r4 x4
  simp only [Nat.reduceAdd, List.length_cons, List.length_nil] at r4
  have p0 : paN 0 ≠ paN 1 := paN_ne (by decide)
  have p1 : paN 0 ≠ paN 2 := paN_ne (by decide)
  have p2 : paN 0 ≠ paN 3 := paN_ne (by decide)
  have p3 : paN 1 ≠ paN 2 := paN_ne (by decide)
  have p4 : paN 1 ≠ paN 3 := paN_ne (by decide)
  have p5 : paN 2 ≠ paN 3 := paN_ne (by decide)
  obtain ⟨tr, g1, e2⟩ := ob_some e2
  obtain ⟨g, g2, g3⟩ := ob_some e2
  obtain ⟨mm, hM⟩ : ∃ mm : M, mm = M.upd (M.upd (M.upd (M.upd (fun _ => none) (paN 0) (c10, (1, vm.length))) (paN 1) (c6, (1, 6))) (paN 2) (c7, (1, 2))) (paN 3) (c9, (1, 2)) := ⟨_, rfl⟩
  have r4 : Rel U w1 ⟨fun c => c < w1.heap.size ∧ c ≠ c10 ∧ c ≠ c6 ∧ c ≠ c7 ∧ c ≠ c9, fun _ _ => False⟩ mm h4 w1 := by rw [hM]; exact r4
  have q0 : mm (paN 0) = some (c10, (1, vm.length)) := by rw [hM, M.upd_ne _ _ p2, M.upd_ne _ _ p1, M.upd_ne _ _ p0, M.upd_same]
  have q1 : mm (paN 1) = some (c6, (1, 6)) := by rw [hM, M.upd_ne _ _ p4, M.upd_ne _ _ p3, M.upd_same]
  have q2 : mm (paN 2) = some (c7, (1, 2)) := by rw [hM, M.upd_ne _ _ p5, M.upd_same]
  have q3 : mm (paN 3) = some (c9, (1, 2)) := by rw [hM, M.upd_same]
  clear hM r0 r1 r2 r3 m1 m2 m3
  have dp : ∀ {p : Pa} {c : Nat} {x : Nat × Nat}, mm p = some (c, x) → (V.a (.s (.ptr p 0))).den U mm = some (ptrV c) := fun {p c x} e => by
    show ob (mm p) _ = _
    rw [e]; rfl
  have ar : AR U mm ⟨H.fn.ntmps, ks 10, []⟩ (fun _ => True) ⟨[], tr⟩ a := by
    refine ⟨hsz, fun t k v _ e _ => (by cases e), fun t k v _ hk hv => ?_⟩
    have hmem := trS_ok g1 t k v hk hv
    simp only [tailS, List.mem_cons, List.not_mem_nil, or_false, Prod.mk.injEq] at hmem
    rcases hmem with ⟨rfl, rfl⟩ | ⟨rfl, rfl⟩ | ⟨rfl, rfl⟩ | ⟨rfl, rfl⟩
    · exact ⟨_, dp q0, t10⟩
    · exact ⟨_, dp q1, t6⟩
    · exact ⟨_, dp q2, t7⟩
    · exact ⟨_, dp q3, t9⟩
  have hv : (V.tup [.s (.uk 10), .s (.bo ok)]).den U mm = some (.tuple #[.int .u64 vv, .bool ok]) := by
    show some (Value.tuple #[U.k 10, .bool ok]) = _
    rw [k10]
  have ar2 := putD_ok g2 g3 ar hv
  refine xtail_ok (fun _ h => xreg_ok Tryz.checked.mixed h) (runW_ok 60) e3 ⟨r4, ar2, by rw [put_defers', hds]; trivial⟩ fun m' w' u hle hr hd => ?_
  split at hx
  · rename_i l' f' hq
    cases hx
    rw [hq] at hd
    obtain ⟨us, j1, hd⟩ := ob_some hd
    obtain ⟨ua, j2, j1⟩ := ob_some j1
    obtain ⟨ub, j3, j1⟩ := ob_some j1
    obtain ⟨vs, j4, rfl⟩ := den_agE (U := U) (m := m') j2
    have j3 : some [Value.agg #[.int .i64 0, .int .i64 0]] = some ub := j3
    cases j3; cases j1; cases hd
    exact K1 m' w' vs j4 ⟨hr.os, hr.tape, hr.output, hr.size, fun b hb => (hr.keep b hb).2.1⟩
  · cases hx
end Go.Proofs.YthfgkmjbfkociaaGreat

/-
  eval.Run, whole: what it tells is what the tree means, or the end of ticks or of output.
-/
namespace Go.Proofs.YthfgkmjbfkociaaGreat
open Go Go.RowKit Go.XM

/-- what a run tells -/
def ToldAt (C : Nat → Prop) (w : World) (rx : Rx) (u : Value) : Prop :=
  ∃ (how trap rd tk : Int) (res : Nat) (sa : Option Addr) (sn sc : Nat), u = .tuple #[.agg #[.int .i64 how, .int .i64 trap, .slice sa sn sc, .int .i64 rd, .int .i64 tk, .int .u64 res], .agg #[.int .i64 0, .int .i64 0]] ∧
    ((∃ v s, rx = .val v s ∧ how = 1 ∧ w.ownsRow 0 5 1 (.slice sa sn sc) s.out.length (bytes s.out) ∧ ∀ k, (Value.slice sa sn sc).ownBlock = some k → ¬ C k) ∨ ((200000 < rx.ms.tk ∨ 65536 < rx.ms.out.length) ∧ (how = 3 ∨ how = 5)) ∨ (how = 2 ∧ rx.wrong trap))

section
variable {U : UU} {m : M}
theorem isTold0_ok {l : List S} {vs : List Value} (e : isTold0 l = true) (hd : denL U m l = some vs) : vs = [.int .i64 0, .int .i64 0, .slice none 0 0, .int .i64 0, .int .i64 0, .int .u64 0] := by
  unfold isTold0 at e
  split at e
  · simp only [Bool.and_eq_true] at e
    obtain ⟨⟨e1, e2⟩, e3, e4, e5, e6⟩ := e
    obtain ⟨v1, h1, hd⟩ := ob_some hd
    obtain ⟨k1, hd, q1⟩ := ob_some hd
    obtain ⟨v2, h2, hd⟩ := ob_some hd
    obtain ⟨k2, hd, q2⟩ := ob_some hd
    obtain ⟨v3, h3, hd⟩ := ob_some hd
    obtain ⟨k3, hd, q3⟩ := ob_some hd
    obtain ⟨v4, h4, hd⟩ := ob_some hd
    obtain ⟨k4, hd, q4⟩ := ob_some hd
    obtain ⟨v5, h5, hd⟩ := ob_some hd
    obtain ⟨k5, hd, q5⟩ := ob_some hd
    obtain ⟨v6, h6, hd⟩ := ob_some hd
    obtain ⟨k6, hd, q6⟩ := ob_some hd
    cases hd; cases q6; cases q5; cases q4; cases q3; cases q2; cases q1
    rw [isN_ok e1 h1, isN_ok e2 h2, isNils_ok e3 h3, isN_ok e4 h4, isN_ok e5 h5, isN_ok e6 h6]; rfl
  · cases e
theorem isOK0_ok {l : List S} {vs : List Value} (e : isOK0 l = true) (hd : denL U m l = some vs) : vs = [.int .i64 0, .int .i64 0] := by
  unfold isOK0 at e
  split at e
  · simp only [Bool.and_eq_true] at e
    obtain ⟨v1, h1, hd⟩ := ob_some hd
    obtain ⟨k1, hd, q1⟩ := ob_some hd
    obtain ⟨v2, h2, hd⟩ := ob_some hd
    obtain ⟨k2, hd, q2⟩ := ob_some hd
    cases hd; cases q2; cases q1
    rw [isN_ok e.1 h1, isN_ok e.2 h2]; rfl
  · cases e
theorem slotP_ok {K : SC} {st : St} {a : Act} {w w0 : World} {prot : PP} (s : SR U w0 prot m K st a w) (hk : K.ks = ks 10) {t : Nat} {p : Pa} (e : slotP st t = some p) : ∃ c x, m p = some (c, x) ∧ a.tmps[t]? = some (ptrV c) := by
  obtain ⟨k, e1, e⟩ := ob_some e
  obtain ⟨v, e2, e⟩ := ob_some e
  split at e
  · cases e
    obtain ⟨u, d1, d2⟩ := s.env.tr t k _ trivial (by rw [hk]; exact e1) e2
    obtain ⟨c, x, h1, rfl⟩ := den_ptrE (U := U) (m := m) d1
    exact ⟨c, x, h1, d2⟩
  · cases e
end
theorem KT_ks : ∀ (j : Nat) (K : SC) (l : List Oper), (KT j K l).ks = K.ks ∧ (KT j K l).n = K.n
  | 0, K, l => ⟨rfl, rfl⟩
  | j + 1, K, [] => ⟨rfl, rfl⟩
  | j + 1, K, o :: r => by
    have h := KT_ks j (K.tell o.dst) r
    show (KT j (K.tell o.dst) r).ks = _ ∧ (KT j (K.tell o.dst) r).n = _
    rw [h.1, h.2]
    cases o.dst with
    | none => exact ⟨rfl, rfl⟩
    | some d => rw [SC.tell_some]; exact ⟨rfl, rfl⟩
theorem lmT_true {U : UU} {m : M} : denL U m (lmT true) = some [.int .i64 0, .int .i64 0, U.k 1, U.k 2, U.k 3, .int .u64 0, .int .i64 200000, U.k 0, U.k 4, U.k 5, U.k 6, U.k 7] := rfl
theorem lmT_false {U : UU} {m : M} : denL U m (lmT false) = some [U.k 8, U.k 9, U.k 1, U.k 2, U.k 3, .int .u64 0, .int .i64 200000, U.k 0, U.k 4, U.k 5, U.k 6, U.k 7] := rfl

def kF (U : UU) (A : Adr) (sa : Option Addr) (sn sc : Nat) (rd tk cl how trap : Int) (vv : Nat) : Nat → Value
  | 0 => U.k 0 | 1 => .slice sa sn sc | 2 => .int .i64 rd | 3 => .int .i64 tk | 4 => A.gs | 5 => .int .i64 cl | 6 => A.bods | 7 => A.frs | 8 => .int .i64 how | 9 => .int .i64 trap | 10 => .int .u64 vv | _ => .bool true
theorem kF_one {U : UU} {A : Adr} {sa : Option Addr} {sn sc : Nat} {rd tk cl how trap : Int} {vv : Nat} (h1 : A.gs.oneCell' = true) (h2 : A.bods.oneCell' = true) (h3 : A.frs.oneCell' = true) : ∀ j, (kF U A sa sn sc rd tk cl how trap vv j).oneCell' = true
  | 0 => U.h1 0
  | 1 => rfl
  | 2 => rfl
  | 3 => rfl
  | 4 => h1
  | 5 => rfl
  | 6 => h2
  | 7 => h3
  | 8 => rfl
  | 9 => rfl
  | 10 => rfl
  | _ + 11 => rfl

set_option maxRecDepth 100000 in
theorem run_ok {U : UU} {prot : PP} {m : M} {h : Hp} {w : World} (r : Rel U w prot m h w) {inp : List Nat} (hi : InpW prot w U inp) {p1 p2 : S} {v1 v2 : Value} (h1 : p1.den U m = some v1) (h2 : p2.den U m = some v2)
    {q : St × Nat × List V} (e : xRun h (.a (.ag [p1, p2])) = some q) (ef : q.2.1 = 30) {d : Nat} {rq : Pa × Rdy} (er : rRdy d q.1.hp q.2.2 = some rq) (ec : (chkRun q.1 rq.1).isSome = true) {n : Nat} {rx : Rx} (he : evF inp rq.2.bd n rq.2.k [] ⟨0, [], 0, 0, []⟩ = some rx) :
    Calls Tryz.prog 10 #[.agg #[v1, v2], U.k 0, .int .i64 200000] w fun e w' => ∃ u, e = .returned u ∧ Keep prot.c w w' ∧ ToldAt prot.c w' rx u := by
  obtain ⟨H, hH, e⟩ := ob_some e
  have hH' := hH
  obtain ⟨fn, hfn, hH'⟩ := ob_some hH'
  have hHf : H.fn = fn := by
    unfold holeAt at hH'
    obtain ⟨b, hb, hH'⟩ := ob_some hH'
    split at hH'
    · split at hH'
      · split at hH'
        · cases hH'; rfl
        · cases hH'
      · cases hH'
    · cases hH'
  subst hHf
  have hd : denVL U m [.a (.ag [p1, p2]), .a (.s (.uk 0)), .a (.s (.i .i64 (.ofNat 200000)))] = some [.agg #[v1, v2], U.k 0, .int .i64 200000] := by
    show ob (ob (ob (p1.den U m) fun v => ob (ob (p2.den U m) fun v => ob (some []) fun l => some (v :: l)) fun l => some (v :: l)) fun vs => some (Value.agg vs.toArray)) (fun v => ob (some [U.k 0, .int .i64 200000]) fun l => some (v :: l)) = _
    rw [h1, h2]; rfl
  have hc := xhole_ok (R := fun e w' => ∃ u, e = .returned u ∧ Keep prot.c w w' ∧ ToldAt prot.c w' rx u) (fun _ h => xreg_ok Tryz.checked.mixed h) (runW_ok 60) hfn hH' e r hd
  refine hc fun m' a' w' us hle s hus => ?_
  rw [ef]
  refine ⟨isFn_of Tryz.func30 (by kernel_rfl) (by kernel_rfl), ?_⟩
  obtain ⟨A, x, hm, hlim, hinp, og, ob', of, ⟨omp, hlive⟩, hrun⟩ := ready_ok s.rel hi er hus
  obtain ⟨⟨p6, p7, p9⟩, hc3⟩ := Option.isSome_iff_exists.1 ec
  simp only [chkRun, ob_eq, oif_eq] at hc3
  obtain ⟨c0, p10, c1, c2, p6', c3, p7', c4, p9', c5, c6, l6, c7, l7, c8, l9, c9, c10, hc3⟩ := hc3
  cases hc3
  have := paEq_ok c2; subst this
  have hks : (KT 6 ⟨H.fn.ntmps, ks 10, []⟩ H.ops.toList).ks = ks 10 := (KT_ks _ _ _).1
  obtain ⟨k10, x10, y10, t10⟩ := slotP_ok s hks c1
  obtain ⟨k6, x6, y6, t6⟩ := slotP_ok s hks c3
  obtain ⟨k7, x7, y7, t7⟩ := slotP_ok s hks c4
  obtain ⟨k9, x9, y9, t9⟩ := slotP_ok s hks c5
  rw [hm] at y10
  cases y10
  simp only [Bool.and_eq_true, Bool.not_eq_true'] at c6 c10
  obtain ⟨vs6, d6, b6, o6, g6⟩ := blkL_ok s.rel c7 y6
  obtain ⟨vs7, d7, b7, o7, g7⟩ := blkL_ok s.rel c8 y7
  obtain ⟨vs9, d9, b9, o9, g9⟩ := blkL_ok s.rel c9 y9
  have := isTold0_ok c10.1 d6; subst this
  have := isOK0_ok c10.2.1 d7; subst this
  have := isOK0_ok c10.2.2 d9; subst this
  have nm : ∀ {X : List Pa} {p r : Pa}, anyPa X p = false → r ∈ X → p ≠ r := fun {X p r} h hr e => by
    subst e; rw [anyPa_iff.2 hr] at h; cases h
  have ne : ∀ {p r : Pa} {c c' : Nat} {x x' : Nat × Nat} {o o' : Ob}, m' p = some (c, x) → m' r = some (c', x') → q.1.hp.tr.at p = some o → q.1.hp.tr.at r = some o' → p ≠ r → c ≠ c' := fun {p r c c' x x' o o'} a b f g hn e => by
    subst e; exact hn (s.rel.inj _ _ _ _ _ _ _ a b f g)
  have n1 : A.mb ≠ k6 := ne hm y6 hlive g6 (Ne.symm (nm c6.1.1 (by simp)))
  have n2 : A.mb ≠ k7 := ne hm y7 hlive g7 (Ne.symm (nm c6.1.2 (by simp)))
  have n3 : A.mb ≠ k9 := ne hm y9 hlive g9 (Ne.symm (nm c6.2 (by simp)))
  have n4 : k6 ≠ k7 := ne y6 y7 g6 g7 (nm c6.1.1 (by simp))
  have n5 : k6 ≠ k9 := ne y6 y9 g6 g9 (nm c6.1.1 (by simp))
  have n6 : k7 ≠ k9 := ne y7 y9 g7 g9 (nm c6.1.2 (by simp))
  have an : ∀ {X : List Pa} {p r : Pa}, anyPa X p = false → r ∈ X → anyPa [r] p = false := fun {X p r} h hr => by
    cases hq : anyPa [r] p with
    | false => rfl
    | true => have := List.mem_singleton.1 (anyPa_iff.1 hq); subst this; rw [anyPa_iff.2 hr] at h; cases h
  have K6 : Kof prot m' q.1.hp [rq.1] k6 := .inr ⟨_, _, _, y6, g6, an c6.1.1 (by simp)⟩
  have K7 : Kof prot m' q.1.hp [rq.1] k7 := .inr ⟨_, _, _, y7, g7, an c6.1.2 (by simp)⟩
  have K9 : Kof prot m' q.1.hp [rq.1] k9 := .inr ⟨_, _, _, y9, g9, c6.2⟩
  refine (hrun n rx he).mono ?_
  intro e1 w1 hp
  -- what is behind, in both ways
  have fin : ∀ (ok : Bool) (vv : Nat) (how trap : Int) (sa : Option Addr) (sn sc : Nat) (rd tk cl : Int) (l : List S) (vs : List Value), w1.heap[A.mb]? = some (.cells (mCells A how trap (.slice sa sn sc) rd tk cl) 83) → (ok = true → how = 0 ∧ trap = 0) →
      Keep (Kof prot m' q.1.hp [rq.1]) w' w1 → xTail ok = some (l, [.i .i64 0, .i .i64 0]) →
      (∀ (U' : UU), U'.k 1 = .slice sa sn sc → U'.k 2 = .int .i64 rd → U'.k 3 = .int .i64 tk → U'.k 8 = .int .i64 how → U'.k 9 = .int .i64 trap → U'.k 10 = .int .u64 vv → ∀ m3 vs', denL U' m3 l = some vs' → vs' = vs) →
      (∀ w3, (∀ c, c < w1.heap.size → c ≠ A.mb → ¬ Kof prot m' q.1.hp [rq.1] c → w3.heap[c]? = w1.heap[c]?) → ToldAt prot.c w3 rx (.tuple #[.agg vs.toArray, .agg #[.int .i64 0, .int .i64 0]])) →
      wpList Tryz.prog H.ops (Exit.then (H.rest.wp Tryz.prog (bodyPostD Tryz.prog H.fn fun e w' => ∃ u, e = .returned u ∧ Keep prot.c w w' ∧ ToldAt prot.c w' rx u)) (bodyPostD Tryz.prog H.fn fun e w' => ∃ u, e = .returned u ∧ Keep prot.c w w' ∧ ToldAt prot.c w' rx u)) H.l (a'.put H.o.dst (.tuple #[.int .u64 vv, .bool ok])) w1 := by
    intro ok vv how trap sa sn sc rd tk cl l vs hb hok hkp hx hden hfin
    obtain ⟨U', hU'⟩ : ∃ U' : UU, U'.k = kF U A sa sn sc rd tk cl how trap vv := ⟨⟨U.t, kF U A sa sn sc rd tk cl how trap vv, U.hk, kF_one og ob' of⟩, rfl⟩
    have hsz : a'.tmps.size = H.fn.ntmps := by rw [s.env.size]; exact (KT_ks _ _ _).2
    have hds : a'.defers = [] := by
      have := s.df
      split at c0
      · rename_i hdf
        rw [hdf] at this
        cases hq : a'.defers with
        | nil => rfl
        | cons d ds => rw [hq] at this; exact this.elim
      · cases c0
    have hcells : mCells A how trap (.slice sa sn sc) rd tk cl = ([.int .i64 how, .int .i64 trap, .slice sa sn sc, .int .i64 rd, .int .i64 tk, .int .u64 0, .int .i64 200000, U.k 0, A.gs, .int .i64 cl, A.bods, A.frs] : List Value).toArray := by
      unfold mCells; rw [hlim, hinp]; rfl
    rw [hcells] at hb
    refine runTail hH (U := U') hsz hds t10 t6 t7 t9 (by rw [hU']; rfl) (fun mm => ?_) hb ((hkp.block _ K6).trans b6) ((hkp.block _ K7).trans b7) ((hkp.block _ K9).trans b9) n1 n2 n3 n4 n5 n6 hx fun m3 w3 vs' hvs hk3 => ?_
    · cases ok with
      | false => rw [lmT_false, hU']; rfl
      | true =>
        obtain ⟨rfl, rfl⟩ := hok rfl
        rw [lmT_true, hU']; rfl
    · have := hden U' (by rw [hU']; rfl) (by rw [hU']; rfl) (by rw [hU']; rfl) (by rw [hU']; rfl) (by rw [hU']; rfl) (by rw [hU']; rfl) m3 vs' hvs
      subst this
      have kk : ∀ c, prot.c c → c < w1.heap.size ∧ c ≠ A.mb ∧ c ≠ k6 ∧ c ≠ k7 ∧ c ≠ k9 := fun c hc => by
        have h3 := (s.rel.keep c hc)
        have hs := hkp.size
        exact ⟨by omega, fun e => h3.2.2 _ _ (e ▸ hm), fun e => h3.2.2 _ _ (e ▸ y6), fun e => h3.2.2 _ _ (e ▸ y7), fun e => h3.2.2 _ _ (e ▸ y9)⟩
      have hk0 : Keep prot.c w w' := ⟨s.rel.os, s.rel.tape, s.rel.output, s.rel.size, fun b hb => (s.rel.keep b hb).2.1⟩
      exact ⟨_, rfl, (hk0.trans (hkp.mono fun b hb => .inl hb)).trans (hk3.mono kk), hfin w3 fun c hc hne hK => hk3.block c ⟨hc, hne, fun e => hK (e ▸ K6), fun e => hK (e ▸ K7), fun e => hK (e ▸ K9)⟩⟩
  obtain ⟨hkp, ⟨v, s', rfl, hv, rfl, hma⟩ | ⟨u, how, trap, hu, rfl, hend, hlt, hmb, hov⟩⟩ := hp
  · obtain ⟨ov, j1, j2, j3⟩ := hma.out
    obtain ⟨sa, sn, sc, rfl⟩ := own_slice j2
    refine fin true v 0 0 sa sn sc _ _ _ _ [.int .i64 1, .int .i64 0, .slice sa sn sc, .int .i64 s'.rd, .int .i64 s'.tk, .int .u64 v] j1 (fun _ => ⟨rfl, rfl⟩) hkp xTail_true (fun U' q1 q2 q3 q8 q9 q10 m3 vs' hd => ?_) fun w3 hw3 => ?_
    · have hd : some [Value.int .i64 1, .int .i64 0, U'.k 1, U'.k 2, U'.k 3, U'.k 10] = some vs' := hd
      rw [q1, q2, q3, q10] at hd
      cases hd; rfl
    · refine ⟨1, 0, s'.rd, s'.tk, v, sa, sn, sc, rfl, .inl ⟨v, s', rfl, rfl, ownsRow_eq j2 fun k hk => ?_, fun k hk hc => (j3 k hk).1 (.inl hc)⟩⟩
      exact hw3 k (ownsRow_lt j2 hk) (j3 k hk).2.1 (j3 k hk).1
  · obtain ⟨sa, sn, sc, rd, tk, cl, j1⟩ := hend
    refine fin false u how trap sa sn sc rd tk cl _ [.int .i64 how, .int .i64 trap, .slice sa sn sc, .int .i64 rd, .int .i64 tk, .int .u64 (0 : Nat)] j1 (fun h => by cases h) hkp xTail_false (fun U' q1 q2 q3 q8 q9 q10 m3 vs' hd => ?_) fun w3 hw3 => ?_
    · have hd : some [U'.k 8, U'.k 9, U'.k 1, U'.k 2, U'.k 3, Value.int .u64 0] = some vs' := hd
      rw [q1, q2, q3, q8, q9] at hd
      cases hd; rfl
    · refine ⟨how, trap, rd, tk, 0, sa, sn, sc, rfl, ?_⟩
      rcases hov with ⟨ho, hh⟩ | ⟨hh, hw⟩
      · unfold Over at ho
        rw [hlim] at ho
        exact .inr (.inl ⟨ho, hh⟩)
      · exact .inr (.inr ⟨hh, hw⟩)
end Go.Proofs.YthfgkmjbfkociaaGreat
