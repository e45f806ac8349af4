/-
  Texts joined: HoP CatP HoQ HoB.
-/
import Derived.Test.YtgmmfjmdpbhjnaaGreatJEa
import Derived.KernelRfl
/-
  Rules for what programs mean: runs with as much fuel as they need.
-/
namespace Go.Proofs.YtgmmfjmdpbhjnaaGreat

/-! ### more fuel tells the same -/
def OLe {α : Type} (a b : Option α) : Prop := ∀ r, a = some r → b = some r
theorem OLe.refl {α : Type} (a : Option α) : OLe a a := fun _ h => h
theorem OLe.trans {α : Type} {a b c : Option α} (h : OLe a b) (k : OLe b c) : OLe a c := fun r e => k r (h r e)
theorem ole_on {a b : Option Rx} {k k' : Nat → Ms → Option Rx} (h : OLe a b) (hk : ∀ v s, OLe (k v s) (k' v s)) : OLe (Rx.on a k) (Rx.on b k') := fun r e => by
  cases a with
  | none => cases e
  | some x =>
    rw [h x rfl]
    cases x with
    | val v s => exact hk v s r e
    | trap n s => exact e
theorem ole_onA {a b : Option Rx} {k k' : Nat → Ms → Option Ra} (h : OLe a b) (hk : ∀ v s, OLe (k v s) (k' v s)) : OLe (Rx.onA a k) (Rx.onA b k') := fun r e => by
  cases a with
  | none => cases e
  | some x =>
    rw [h x rfl]
    cases x with
    | val v s => exact hk v s r e
    | trap n s => exact e
theorem ole_onX {a b : Option Ra} {k k' : List Nat → Ms → Option Rx} (h : OLe a b) (hk : ∀ v s, OLe (k v s) (k' v s)) : OLe (Ra.onX a k) (Ra.onX b k') := fun r e => by
  cases a with
  | none => cases e
  | some x =>
    rw [h x rfl]
    cases x with
    | val v s => exact hk v s r e
    | trap n s => exact e
theorem ole_onS {a b : Option Rx} {k k' : Nat → Ms → Option Rs} (h : OLe a b) (hk : ∀ v s, OLe (k v s) (k' v s)) : OLe (Rx.onS a k) (Rx.onS b k') := fun r e => by
  cases a with
  | none => cases e
  | some x =>
    rw [h x rfl]
    cases x with
    | val v s => exact hk v s r e
    | trap n s => exact e
theorem ole_ons {a b : Option Rs} {k k' : Nat → Ms → Fr → Option Rs} (h : OLe a b) (hk : ∀ v s f, OLe (k v s f) (k' v s f)) : OLe (Rs.on a k) (Rs.on b k') := fun r e => by
  cases a with
  | none => cases e
  | some x =>
    rw [h x rfl]
    cases x with
    | go v s f => exact hk v s f r e
    | trap n s => exact e
theorem ole_conv {a b : Option Rx} (h : OLe a b) (t u : GTy) : OLe (Rx.conv a t u) (Rx.conv b t u) := ole_on h fun _ _ => OLe.refl _
theorem ole_place {a b : Option Rx} (h : OLe a b) (z : Nat) : OLe (Rx.place a z) (Rx.place b z) := ole_on h fun _ _ => OLe.refl _
theorem ole_ite {α : Type} {p : Prop} [Decidable p] {a b a' b' : Option α} (h : OLe a a') (k : OLe b b') : OLe (if p then a else b) (if p then a' else b') := by
  split
  · exact h
  · exact k
theorem ole_lpW {rc rc' : Ms → List Nat → Option Rx} {rb rb' : Ms → Fr → Option Rs} (hc : ∀ s f, OLe (rc s f) (rc' s f)) (hb : ∀ s f, OLe (rb s f) (rb' s f)) : ∀ (m : Nat) (s : Ms) (f : Fr), OLe (lpW rc rb m s f) (lpW rc' rb' (m + 1) s f)
  | 0, _, _ => fun r e => by cases e
  | m + 1, s, f => ole_onS (hc _ _) fun v s => ole_ite (OLe.refl _) (ole_ons (hb _ _) fun h s f => ole_ite (OLe.refl _) (ole_ite (OLe.refl _) (ole_lpW hc hb m s f)))
theorem ole_lpS {rc rc' : Ms → List Nat → Option Rx} {rb rb' rs rs' : Ms → Fr → Option Rs} (hc : ∀ s f, OLe (rc s f) (rc' s f)) (hb : ∀ s f, OLe (rb s f) (rb' s f)) (hs : ∀ s f, OLe (rs s f) (rs' s f)) : ∀ (m : Nat) (s : Ms) (f : Fr), OLe (lpS rc rb rs m s f) (lpS rc' rb' rs' (m + 1) s f)
  | 0, _, _ => fun r e => by cases e
  | m + 1, s, f => ole_onS (hc _ _) fun v s => ole_ite (OLe.refl _) (ole_ons (hb _ _) fun h s f => ole_ite (OLe.refl _) (ole_ite (OLe.refl _) (ole_ons (hs _ _) fun h s f => ole_ite (ole_lpS hc hb hs m s f) (OLe.refl _))))
theorem ole_seqS {α : Type} {F F' : α → Ms → Fr → Option Rs} (h : ∀ x s f, OLe (F x s f) (F' x s f)) : ∀ (l : List α) (s : Ms) (f : Fr), OLe (seqS (l.map F) s f) (seqS (l.map F') s f)
  | [], _, _ => OLe.refl _
  | x :: l, s, f => ole_ons (h x s f) fun _ s f => ole_ite (ole_seqS h l s f) (OLe.refl _)
theorem ole_seqA {α : Type} {F F' : α → Ms → List Nat → Option Rx} (h : ∀ x s f, OLe (F x s f) (F' x s f)) : ∀ (l : List α) (r : List Nat) (s : Ms) (f : List Nat), OLe (seqA (l.map F) r s f) (seqA (l.map F') r s f)
  | [], _, _, _ => OLe.refl _
  | x :: l, r, s, f => ole_onA (h x s f) fun v s => ole_seqA h l (r ++ [v]) s f

section
variable (inp : List Nat) (bd : List (List Sm × Nat))
theorem ole_all : ∀ n, (∀ e s f, OLe (ev inp bd n e s f) (ev inp bd (n + 1) e s f)) ∧ (∀ k l s, OLe (evF inp bd n k l s) (evF inp bd (n + 1) k l s)) ∧ (∀ x s f, OLe (exS inp bd n x s f) (exS inp bd (n + 1) x s f))
  | 0 => ⟨fun _ _ _ r e => (by cases e), fun _ _ _ r e => (by cases e), fun _ _ _ r e => (by cases e)⟩
  | n + 1 => by
    obtain ⟨hx, hf, hs⟩ := ole_all n
    refine ⟨fun e s f => ?_, fun k l s => ?_, fun x s f => ?_⟩
    · cases e with
      | num k => exact OLe.refl _
      | loc i => exact OLe.refl _
      | glob g => exact OLe.refl _
      | elt g z i a => exact ole_on (ole_place (ole_conv (hx _ _ _) _ _) _) fun _ _ => OLe.refl _
      | cast x a t => exact ole_conv (hx _ _ _) _ _
      | un k x t => exact ole_on (hx _ _ _) fun _ _ => OLe.refl _
      | bin k x y t u => exact ole_on (hx _ _ _) fun _ _ => ole_on (hx _ _ _) fun _ _ => OLe.refl _
      | either o x y => exact ole_on (hx _ _ _) fun _ _ => ole_ite (ole_on (hx _ _ _) fun _ _ => OLe.refl _) (OLe.refl _)
      | put x a => exact ole_on (ole_conv (hx _ _ _) _ _) fun _ _ => OLe.refl _
      | get => exact OLe.refl _
      | call k l => exact ole_onX (ole_seqA (fun x s f => ole_conv (hx _ _ _) _ _) l _ _ _) fun l s => hf k l s
    · show OLe (match bd[k]? with
        | none => none
        | some (b, z) =>
          if s.cl = 60 then some (Rx.trap 3 s)
          else match seqS (b.map (exS inp bd n)) { s with cl := s.cl + 1 } ⟨(l ++ List.replicate z 0).take z, 0⟩ with
          | some (.go _ s2 f) => if s2.cl = s.cl + 1 then some (Rx.val f.res { s2 with cl := s.cl }) else none
          | some (.trap k s) => some (Rx.trap k s)
          | none => none) (match bd[k]? with
        | none => none
        | some (b, z) =>
          if s.cl = 60 then some (Rx.trap 3 s)
          else match seqS (b.map (exS inp bd (n + 1))) { s with cl := s.cl + 1 } ⟨(l ++ List.replicate z 0).take z, 0⟩ with
          | some (.go _ s2 f) => if s2.cl = s.cl + 1 then some (Rx.val f.res { s2 with cl := s.cl }) else none
          | some (.trap k s) => some (Rx.trap k s)
          | none => none)
      cases bd[k]? with
      | none => exact OLe.refl _
      | some p =>
        obtain ⟨b, z⟩ := p
        refine ole_ite (OLe.refl _) fun r e => ?_
        have hq := ole_seqS (F := exS inp bd n) (F' := exS inp bd (n + 1)) hs b { s with cl := s.cl + 1 } ⟨(l ++ List.replicate z 0).take z, 0⟩
        cases ho : seqS (b.map (exS inp bd n)) { s with cl := s.cl + 1 } ⟨(l ++ List.replicate z 0).take z, 0⟩ with
        | none => rw [ho] at e; cases e
        | some x =>
          rw [ho] at e
          rw [hq x ho]
          exact e
    · have hq := ole_seqS (F := exS inp bd n) (F' := exS inp bd (n + 1)) hs
      cases x with
      | setz i => exact OLe.refl _
      | setl i x a t => exact ole_onS (ole_conv (hx _ _ _) _ _) fun _ _ => OLe.refl _
      | setg g x a t => exact ole_onS (ole_conv (hx _ _ _) _ _) fun _ _ => OLe.refl _
      | seta g z i b x a t => exact ole_onS (ole_place (ole_conv (hx _ _ _) _ _) _) fun _ _ => ole_onS (ole_conv (hx _ _ _) _ _) fun _ _ => OLe.refl _
      | ex x => exact ole_onS (hx _ _ _) fun _ _ => OLe.refl _
      | ret0 => exact OLe.refl _
      | ret x a t => exact ole_onS (ole_conv (hx _ _ _) _ _) fun _ _ => OLe.refl _
      | brk => exact OLe.refl _
      | cont => exact OLe.refl _
      | ite x l r => exact ole_onS (hx _ _ _) fun _ _ => ole_ite (hq r _ _) (hq l _ _)
      | whl x l => exact ole_lpW (fun s f => hx x s f) (fun s f => hq l s f) n _ _
      | «for» i x l r =>
        refine ole_ons (hq i _ _) fun _ _ _ => ole_ite (ole_lpS (fun s f => ?_) (fun s f => hq l s f) (fun s f => hq r s f) n _ _) (OLe.refl _)
        cases x with
        | none => exact OLe.refl _
        | some x => exact hx x s f
      | blk l => exact hq l _ _
theorem ev_le {n m : Nat} (h : n ≤ m) (e : Ex) (s : Ms) (f : List Nat) : OLe (ev inp bd n e s f) (ev inp bd m e s f) := by
  induction h with
  | refl => exact OLe.refl _
  | step _ ih => exact ih.trans ((ole_all inp bd _).1 e s f)
theorem evF_le {n m : Nat} (h : n ≤ m) (k : Nat) (l : List Nat) (s : Ms) : OLe (evF inp bd n k l s) (evF inp bd m k l s) := by
  induction h with
  | refl => exact OLe.refl _
  | step _ ih => exact ih.trans ((ole_all inp bd _).2.1 k l s)
theorem exS_le {n m : Nat} (h : n ≤ m) (x : Sm) (s : Ms) (f : Fr) : OLe (exS inp bd n x s f) (exS inp bd m x s f) := by
  induction h with
  | refl => exact OLe.refl _
  | step _ ih => exact ih.trans ((ole_all inp bd _).2.2 x s f)
theorem seq_le {n m : Nat} (h : n ≤ m) (l : List Sm) (s : Ms) (f : Fr) : OLe (seqS (l.map (exS inp bd n)) s f) (seqS (l.map (exS inp bd m)) s f) := ole_seqS (fun x s f => exS_le inp bd h x s f) l s f
theorem lpW_up {rc : Ms → List Nat → Option Rx} {rb : Ms → Fr → Option Rs} {m k : Nat} (h : m ≤ k) (s : Ms) (f : Fr) : OLe (lpW rc rb m s f) (lpW rc rb k s f) := by
  induction h with
  | refl => exact OLe.refl _
  | step _ ih => exact ih.trans (ole_lpW (fun _ _ => OLe.refl _) (fun _ _ => OLe.refl _) _ s f)
theorem lpS_up {rc : Ms → List Nat → Option Rx} {rb rs : Ms → Fr → Option Rs} {m k : Nat} (h : m ≤ k) (s : Ms) (f : Fr) : OLe (lpS rc rb rs m s f) (lpS rc rb rs k s f) := by
  induction h with
  | refl => exact OLe.refl _
  | step _ ih => exact ih.trans (ole_lpS (fun _ _ => OLe.refl _) (fun _ _ => OLe.refl _) (fun _ _ => OLe.refl _) _ s f)
theorem lpW_le2 {n n' m m' : Nat} (h : n ≤ n') (k : m ≤ m') (c : Ex) (l : List Sm) (s : Ms) (f : Fr) : OLe (lpW (ev inp bd n c) (seqS (l.map (exS inp bd n))) m s f) (lpW (ev inp bd n' c) (seqS (l.map (exS inp bd n'))) (m' + 1) s f) :=
  (lpW_up k s f).trans (ole_lpW (fun s f => ev_le inp bd h c s f) (fun s f => seq_le inp bd h l s f) m' s f)
theorem lpS_le2 {n n' m m' : Nat} (h : n ≤ n') (k : m ≤ m') (c : Ex) (l r : List Sm) (s : Ms) (f : Fr) : OLe (lpS (ev inp bd n c) (seqS (l.map (exS inp bd n))) (seqS (r.map (exS inp bd n))) m s f) (lpS (ev inp bd n' c) (seqS (l.map (exS inp bd n'))) (seqS (r.map (exS inp bd n'))) (m' + 1) s f) :=
  (lpS_up k s f).trans (ole_lpS (fun s f => ev_le inp bd h c s f) (fun s f => seq_le inp bd h l s f) (fun s f => seq_le inp bd h r s f) m' s f)

/-! ### runs -/
def X (e : Ex) (s : Ms) (f : List Nat) (r : Rx) : Prop := ∃ n, ev inp bd n e s f = some r
def XA (l : List (Ex × GTy × GTy)) (a : List Nat) (s : Ms) (f : List Nat) (r : Ra) : Prop := ∃ n, seqA (l.map fun x s f => Rx.conv (ev inp bd n x.1 s f) x.2.1 x.2.2) a s f = some r
def XF (k : Nat) (l : List Nat) (s : Ms) (r : Rx) : Prop := ∃ n, evF inp bd n k l s = some r
def XS (x : Sm) (s : Ms) (f : Fr) (r : Rs) : Prop := ∃ n, exS inp bd n x s f = some r
def XQ (l : List Sm) (s : Ms) (f : Fr) (r : Rs) : Prop := ∃ n, seqS (l.map (exS inp bd n)) s f = some r
def XW (c : Ex) (l : List Sm) (s : Ms) (f : Fr) (r : Rs) : Prop := ∃ n, lpW (ev inp bd n c) (seqS (l.map (exS inp bd n))) n s f = some r
def XL (c : Ex) (l r : List Sm) (s : Ms) (f : Fr) (y : Rs) : Prop := ∃ n, lpS (ev inp bd n c) (seqS (l.map (exS inp bd n))) (seqS (r.map (exS inp bd n))) n s f = some y
end

section
variable {inp : List Nat} {bd : List (List Sm × Nat)} {s s1 s2 : Ms} {f : List Nat} {F F1 F2 : Fr}
theorem X.num (k : Nat) : X inp bd (.num k) s f (.val k s.tick) := ⟨1, rfl⟩
theorem X.loc {i v : Nat} (h : f[i]? = some v) : X inp bd (.loc i) s f (.val v s.tick) := ⟨1, by show Rx.ofO f[i]? s.tick = _; rw [h]; rfl⟩
theorem X.elt {g z i v : Nat} {x : Ex} {a : GTy} {v0 : Nat} (h : X inp bd x s.tick f (.val v0 s1)) (hc : convN v0 a uintT = i) (hi : i < z) (hl : s1.load g i = some v) : X inp bd (.elt g z x a) s f (.val v s1) := by
  obtain ⟨n, h⟩ := h
  refine ⟨n + 1, ?_⟩
  show Rx.on (Rx.place (Rx.conv (ev inp bd n x s.tick f) a uintT) z) (fun v s => Rx.ofO (s.load g v) s) = _
  rw [h]
  show Rx.on (if convN v0 a uintT < z then some (.val (convN v0 a uintT) s1) else some (.trap 2 s1)) (fun v s => Rx.ofO (s.load g v) s) = _
  rw [hc, if_pos hi]
  show Rx.ofO (s1.load g i) s1 = _
  rw [hl]; rfl
theorem X.cast {x : Ex} {a t : GTy} {v : Nat} (h : X inp bd x s.tick f (.val v s1)) : X inp bd (.cast x a t) s f (.val (convN v a t) s1) := by
  obtain ⟨n, h⟩ := h
  exact ⟨n + 1, by show Rx.conv (ev inp bd n x s.tick f) a t = _; rw [h]; rfl⟩
theorem X.un {k : Nat} {x : Ex} {t : GTy} {v : Nat} (h : X inp bd x s.tick f (.val v s1)) : X inp bd (.un k x t) s f (.val (unN k v t).1 s1) := by
  obtain ⟨n, h⟩ := h
  exact ⟨n + 1, by show Rx.on (ev inp bd n x s.tick f) _ = _; rw [h]; rfl⟩
theorem X.bin {k p q r : Nat} {x y : Ex} {t u : GTy} (h1 : X inp bd x s.tick f (.val p s1)) (h2 : X inp bd y s1 f (.val q s2)) (hb : binN k p q t u = some r) : X inp bd (.bin k x y t u) s f (.val r s2) := by
  obtain ⟨n, h1⟩ := h1
  obtain ⟨m, h2⟩ := h2
  refine ⟨max n m + 1, ?_⟩
  show Rx.on (ev inp bd (max n m) x s.tick f) (fun p s => Rx.on (ev inp bd (max n m) y s f) fun q s => match binN k p q t u with | some r => some (.val r s) | none => some (.trap 1 s)) = _
  rw [ev_le inp bd (Nat.le_max_left n m) _ _ _ _ h1]
  show Rx.on (ev inp bd (max n m) y s1 f) (fun q s => match binN k p q t u with | some r => some (.val r s) | none => some (.trap 1 s)) = _
  rw [ev_le inp bd (Nat.le_max_right n m) _ _ _ _ h2]
  show (match binN k p q t u with | some r => some (Rx.val r s2) | none => some (.trap 1 s2)) = _
  rw [hb]
theorem X.binT {k p q : Nat} {x y : Ex} {t u : GTy} (h1 : X inp bd x s.tick f (.val p s1)) (h2 : X inp bd y s1 f (.val q s2)) (hb : binN k p q t u = none) : X inp bd (.bin k x y t u) s f (.trap 1 s2) := by
  obtain ⟨n, h1⟩ := h1
  obtain ⟨m, h2⟩ := h2
  refine ⟨max n m + 1, ?_⟩
  show Rx.on (ev inp bd (max n m) x s.tick f) (fun p s => Rx.on (ev inp bd (max n m) y s f) fun q s => match binN k p q t u with | some r => some (.val r s) | none => some (.trap 1 s)) = _
  rw [ev_le inp bd (Nat.le_max_left n m) _ _ _ _ h1]
  show Rx.on (ev inp bd (max n m) y s1 f) (fun q s => match binN k p q t u with | some r => some (.val r s) | none => some (.trap 1 s)) = _
  rw [ev_le inp bd (Nat.le_max_right n m) _ _ _ _ h2]
  show (match binN k p q t u with | some r => some (Rx.val r s2) | none => some (.trap 1 s2)) = _
  rw [hb]
theorem X.stop {o : Bool} {v : Nat} {x y : Ex} (h1 : X inp bd x s.tick f (.val v s1)) (h : decide (v = 0) ≠ o) : X inp bd (.either o x y) s f (.val (truthN (decide (v ≠ 0))) s1) := by
  obtain ⟨n, h1⟩ := h1
  refine ⟨n + 1, ?_⟩
  show Rx.on (ev inp bd n x s.tick f) (fun v s => if decide (v = 0) = o then Rx.on (ev inp bd n y s f) fun v s => some (.val (truthN (decide (v ≠ 0))) s) else some (.val (truthN (decide (v ≠ 0))) s)) = _
  rw [h1]
  show (if decide (v = 0) = o then _ else _) = _
  rw [if_neg h]
theorem X.both {o : Bool} {v v2 : Nat} {x y : Ex} (h1 : X inp bd x s.tick f (.val v s1)) (h : decide (v = 0) = o) (h2 : X inp bd y s1 f (.val v2 s2)) : X inp bd (.either o x y) s f (.val (truthN (decide (v2 ≠ 0))) s2) := by
  obtain ⟨n, h1⟩ := h1
  obtain ⟨m, h2⟩ := h2
  refine ⟨max n m + 1, ?_⟩
  show Rx.on (ev inp bd (max n m) x s.tick f) (fun v s => if decide (v = 0) = o then Rx.on (ev inp bd (max n m) y s f) fun v s => some (.val (truthN (decide (v ≠ 0))) s) else some (.val (truthN (decide (v ≠ 0))) s)) = _
  rw [ev_le inp bd (Nat.le_max_left n m) _ _ _ _ h1]
  show (if decide (v = 0) = o then Rx.on (ev inp bd (max n m) y s1 f) fun v s => some (.val (truthN (decide (v ≠ 0))) s) else _) = _
  rw [if_pos h, ev_le inp bd (Nat.le_max_right n m) _ _ _ _ h2]; rfl
theorem X.put {x : Ex} {a : GTy} {v : Nat} (h : X inp bd x s.tick f (.val v s1)) : X inp bd (.put x a) s f (.val 0 { s1 with out := s1.out ++ [convN v a intT % 256] }) := by
  obtain ⟨n, h⟩ := h
  exact ⟨n + 1, by show Rx.on (Rx.conv (ev inp bd n x s.tick f) a intT) _ = _; rw [h]; rfl⟩
theorem X.getE (h : s.rd = inp.length) : X inp bd .get s f (.val 65535 s.tick) := ⟨1, by show (if s.rd = inp.length then _ else _) = _; rw [if_pos h]⟩
theorem X.get {v : Nat} (h : inp[s.rd]? = some v) : X inp bd .get s f (.val v { s.tick with rd := s.rd + 1 }) := by
  refine ⟨1, ?_⟩
  show (if s.rd = inp.length then _ else Rx.ofO inp[s.rd]? { s.tick with rd := s.rd + 1 }) = _
  rw [if_neg (fun e => by rw [e] at h; simp at h), h]; rfl
theorem XA.nil (a : List Nat) : XA inp bd [] a s f (.val a s) := ⟨0, rfl⟩
theorem XA.cons {x : Ex} {b t : GTy} {v : Nat} {l : List (Ex × GTy × GTy)} {a : List Nat} {r : Ra} (h1 : X inp bd x s f (.val v s1)) (h2 : XA inp bd l (a ++ [convN v b t]) s1 f r) : XA inp bd ((x, b, t) :: l) a s f r := by
  obtain ⟨n, h1⟩ := h1
  obtain ⟨m, h2⟩ := h2
  refine ⟨max n m, ?_⟩
  show Rx.onA (Rx.conv (ev inp bd (max n m) x s f) b t) (fun v s => seqA (l.map fun x s f => Rx.conv (ev inp bd (max n m) x.1 s f) x.2.1 x.2.2) (a ++ [v]) s f) = _
  rw [ev_le inp bd (Nat.le_max_left n m) _ _ _ _ h1]
  exact ole_seqA (fun x s f => ole_conv (ev_le inp bd (Nat.le_max_right n m) x.1 s f) _ _) l _ _ _ _ h2
theorem XA.trap {x : Ex} {b t : GTy} {v : Nat} {l : List (Ex × GTy × GTy)} {a : List Nat} (h1 : X inp bd x s f (.trap v s1)) : XA inp bd ((x, b, t) :: l) a s f (.trap v s1) := by
  obtain ⟨n, h1⟩ := h1
  refine ⟨n, ?_⟩
  show Rx.onA (Rx.conv (ev inp bd n x s f) b t) _ = _
  rw [h1]; rfl
theorem X.call {k : Nat} {l : List (Ex × GTy × GTy)} {a : List Nat} {r : Rx} (h1 : XA inp bd l [] s.tick f (.val a s1)) (h2 : XF inp bd k a s1 r) : X inp bd (.call k l) s f r := by
  obtain ⟨n, h1⟩ := h1
  obtain ⟨m, h2⟩ := h2
  refine ⟨max n m + 1, ?_⟩
  show Ra.onX (seqA (l.map fun x s f => Rx.conv (ev inp bd (max n m) x.1 s f) x.2.1 x.2.2) [] s.tick f) (fun l s => evF inp bd (max n m) k l s) = _
  rw [ole_seqA (fun x s f => ole_conv (ev_le inp bd (Nat.le_max_left n m) x.1 s f) _ _) l _ _ _ _ h1]
  exact evF_le inp bd (Nat.le_max_right n m) _ _ _ _ h2
theorem X.callT {k v : Nat} {l : List (Ex × GTy × GTy)} (h1 : XA inp bd l [] s.tick f (.trap v s1)) : X inp bd (.call k l) s f (.trap v s1) := by
  obtain ⟨n, h1⟩ := h1
  refine ⟨n + 1, ?_⟩
  show Ra.onX (seqA (l.map fun x s f => Rx.conv (ev inp bd n x.1 s f) x.2.1 x.2.2) [] s.tick f) (fun l s => evF inp bd n k l s) = _
  rw [h1]; rfl
theorem XF.run {k z h : Nat} {b : List Sm} {l : List Nat} (hk : bd[k]? = some (b, z)) (hc : s.cl ≠ 60) (hq : XQ inp bd b { s with cl := s.cl + 1 } ⟨(l ++ List.replicate z 0).take z, 0⟩ (.go h s2 F)) (hcl : s2.cl = s.cl + 1) : XF inp bd k l s (.val F.res { s2 with cl := s.cl }) := by
  obtain ⟨n, hq⟩ := hq
  refine ⟨n + 1, ?_⟩
  show (match bd[k]? with
    | none => none
    | some (b, z) =>
      if s.cl = 60 then some (Rx.trap 3 s)
      else match seqS (b.map (exS inp bd n)) { s with cl := s.cl + 1 } ⟨(l ++ List.replicate z 0).take z, 0⟩ with
      | some (.go _ s2 f) => if s2.cl = s.cl + 1 then some (.val f.res { s2 with cl := s.cl }) else none
      | some (.trap k s) => some (.trap k s)
      | none => none) = _
  rw [hk]
  simp only
  rw [if_neg hc, hq]
  simp only
  rw [if_pos hcl]
theorem XF.trap {k z v : Nat} {b : List Sm} {l : List Nat} (hk : bd[k]? = some (b, z)) (hc : s.cl ≠ 60) (hq : XQ inp bd b { s with cl := s.cl + 1 } ⟨(l ++ List.replicate z 0).take z, 0⟩ (.trap v s2)) : XF inp bd k l s (.trap v s2) := by
  obtain ⟨n, hq⟩ := hq
  refine ⟨n + 1, ?_⟩
  show (match bd[k]? with
    | none => none
    | some (b, z) =>
      if s.cl = 60 then some (Rx.trap 3 s)
      else match seqS (b.map (exS inp bd n)) { s with cl := s.cl + 1 } ⟨(l ++ List.replicate z 0).take z, 0⟩ with
      | some (.go _ s2 f) => if s2.cl = s.cl + 1 then some (.val f.res { s2 with cl := s.cl }) else none
      | some (.trap k s) => some (.trap k s)
      | none => none) = _
  rw [hk]
  simp only
  rw [if_neg hc, hq]
theorem XF.deep {k z : Nat} {b : List Sm} {l : List Nat} (hk : bd[k]? = some (b, z)) (hc : s.cl = 60) : XF inp bd k l s (.trap 3 s) := by
  refine ⟨1, ?_⟩
  show (match bd[k]? with
    | none => none
    | some (b, z) =>
      if s.cl = 60 then some (Rx.trap 3 s)
      else match seqS (b.map (exS inp bd 0)) { s with cl := s.cl + 1 } ⟨(l ++ List.replicate z 0).take z, 0⟩ with
      | some (.go _ s2 f) => if s2.cl = s.cl + 1 then some (.val f.res { s2 with cl := s.cl }) else none
      | some (.trap k s) => some (.trap k s)
      | none => none) = _
  rw [hk]
  simp only
  rw [if_pos hc]
theorem XQ.nil : XQ inp bd [] s F (.go 0 s F) := ⟨0, rfl⟩
theorem XQ.cons {x : Sm} {l : List Sm} {r : Rs} (h1 : XS inp bd x s F (.go 0 s1 F1)) (h2 : XQ inp bd l s1 F1 r) : XQ inp bd (x :: l) s F r := by
  obtain ⟨n, h1⟩ := h1
  obtain ⟨m, h2⟩ := h2
  refine ⟨max n m, ?_⟩
  show Rs.on (exS inp bd (max n m) x s F) (fun h s f => if h = 0 then seqS (l.map (exS inp bd (max n m))) s f else some (.go h s f)) = _
  rw [exS_le inp bd (Nat.le_max_left n m) _ _ _ _ h1]
  exact seq_le inp bd (Nat.le_max_right n m) _ _ _ _ h2
theorem XQ.stop {x : Sm} {l : List Sm} {h : Nat} (h1 : XS inp bd x s F (.go h s1 F1)) (hh : h ≠ 0) : XQ inp bd (x :: l) s F (.go h s1 F1) := by
  obtain ⟨n, h1⟩ := h1
  refine ⟨n, ?_⟩
  show Rs.on (exS inp bd n x s F) (fun h s f => if h = 0 then seqS (l.map (exS inp bd n)) s f else some (.go h s f)) = _
  rw [h1]
  show (if h = 0 then _ else _) = _
  rw [if_neg hh]
theorem XQ.trap {x : Sm} {l : List Sm} {v : Nat} (h1 : XS inp bd x s F (.trap v s1)) : XQ inp bd (x :: l) s F (.trap v s1) := by
  obtain ⟨n, h1⟩ := h1
  refine ⟨n, ?_⟩
  show Rs.on (exS inp bd n x s F) (fun h s f => if h = 0 then seqS (l.map (exS inp bd n)) s f else some (.go h s f)) = _
  rw [h1]; rfl
theorem XQ.app {a b : List Sm} {r : Rs} (h1 : XQ inp bd a s F (.go 0 s1 F1)) (h2 : XQ inp bd b s1 F1 r) : XQ inp bd (a ++ b) s F r := by
  obtain ⟨n, h1⟩ := h1
  obtain ⟨m, h2⟩ := h2
  refine ⟨max n m, ?_⟩
  replace h1 := seq_le inp bd (Nat.le_max_left n m) _ _ _ _ h1
  replace h2 := seq_le inp bd (Nat.le_max_right n m) _ _ _ _ h2
  generalize max n m = k at *
  clear n m
  induction a generalizing s F with
  | nil => cases h1; exact h2
  | cons x a ih =>
    replace h1 : Rs.on (exS inp bd k x s F) (fun h s f => if h = 0 then seqS (a.map (exS inp bd k)) s f else some (.go h s f)) = some (.go 0 s1 F1) := h1
    show Rs.on (exS inp bd k x s F) (fun h s f => if h = 0 then seqS ((a ++ b).map (exS inp bd k)) s f else some (.go h s f)) = some r
    cases hx : exS inp bd k x s F with
    | none => rw [hx] at h1; cases h1
    | some y =>
      rw [hx] at h1
      cases y with
      | trap v s' => cases h1
      | go h s' f' =>
        replace h1 : (if h = 0 then seqS (a.map (exS inp bd k)) s' f' else some (.go h s' f')) = some (.go 0 s1 F1) := h1
        show (if h = 0 then seqS ((a ++ b).map (exS inp bd k)) s' f' else some (.go h s' f')) = some r
        by_cases hh : h = 0
        · rw [if_pos hh] at h1 ⊢; exact ih h1
        · rw [if_neg hh] at h1; cases h1; exact absurd rfl hh
theorem XS.setz {i : Nat} (h : i < F.sl.length) : XS inp bd (.setz i) s F (.go 0 s.tick { F with sl := F.sl.set i 0 }) := ⟨1, by show (if i < F.sl.length then _ else _) = _; rw [if_pos h]⟩
theorem XS.setl {i v : Nat} {x : Ex} {a t : GTy} (h : X inp bd x s.tick F.sl (.val v s1)) (hi : i < F.sl.length) : XS inp bd (.setl i x a t) s F (.go 0 s1 { F with sl := F.sl.set i (convN v a t) }) := by
  obtain ⟨n, h⟩ := h
  refine ⟨n + 1, ?_⟩
  show Rx.onS (Rx.conv (ev inp bd n x s.tick F.sl) a t) (fun v s => if i < F.sl.length then some (.go 0 s { F with sl := F.sl.set i v }) else none) = _
  rw [h]
  show (if i < F.sl.length then _ else _) = _
  rw [if_pos hi]
theorem XS.seta {g z i0 i v : Nat} {y x : Ex} {b a t : GTy} (h1 : X inp bd y s.tick F.sl (.val i0 s1)) (hc : convN i0 b uintT = i) (hi : i < z) (h2 : X inp bd x s1 F.sl (.val v s2)) : XS inp bd (.seta g z y b x a t) s F (.go 0 (s2.store g i (convN v a t)) F) := by
  obtain ⟨n, h1⟩ := h1
  obtain ⟨m, h2⟩ := h2
  refine ⟨max n m + 1, ?_⟩
  show Rx.onS (Rx.place (Rx.conv (ev inp bd (max n m) y s.tick F.sl) b uintT) z) (fun j s => Rx.onS (Rx.conv (ev inp bd (max n m) x s F.sl) a t) fun v s => some (.go 0 (s.store g j v) F)) = _
  rw [ev_le inp bd (Nat.le_max_left n m) _ _ _ _ h1]
  show Rx.onS (if convN i0 b uintT < z then some (.val (convN i0 b uintT) s1) else some (.trap 2 s1)) (fun j s => Rx.onS (Rx.conv (ev inp bd (max n m) x s F.sl) a t) fun v s => some (.go 0 (s.store g j v) F)) = _
  rw [hc, if_pos hi]
  show Rx.onS (Rx.conv (ev inp bd (max n m) x s1 F.sl) a t) (fun v s => some (.go 0 (s.store g i v) F)) = _
  rw [ev_le inp bd (Nat.le_max_right n m) _ _ _ _ h2]; rfl
theorem XS.ex {v : Nat} {x : Ex} (h : X inp bd x s.tick F.sl (.val v s1)) : XS inp bd (.ex x) s F (.go 0 s1 F) := by
  obtain ⟨n, h⟩ := h
  exact ⟨n + 1, by show Rx.onS (ev inp bd n x s.tick F.sl) _ = _; rw [h]; rfl⟩
theorem XS.exT {v : Nat} {x : Ex} (h : X inp bd x s.tick F.sl (.trap v s1)) : XS inp bd (.ex x) s F (.trap v s1) := by
  obtain ⟨n, h⟩ := h
  exact ⟨n + 1, by show Rx.onS (ev inp bd n x s.tick F.sl) _ = _; rw [h]; rfl⟩
theorem XS.setlT {i v : Nat} {x : Ex} {a t : GTy} (h : X inp bd x s.tick F.sl (.trap v s1)) : XS inp bd (.setl i x a t) s F (.trap v s1) := by
  obtain ⟨n, h⟩ := h
  exact ⟨n + 1, by show Rx.onS (Rx.conv (ev inp bd n x s.tick F.sl) a t) _ = _; rw [h]; rfl⟩
theorem XS.ret0 : XS inp bd .ret0 s F (.go 1 s.tick F) := ⟨1, rfl⟩
theorem XS.ret {v : Nat} {x : Ex} {a t : GTy} (h : X inp bd x s.tick F.sl (.val v s1)) : XS inp bd (.ret x a t) s F (.go 1 s1 { F with res := convN v a t }) := by
  obtain ⟨n, h⟩ := h
  exact ⟨n + 1, by show Rx.onS (Rx.conv (ev inp bd n x s.tick F.sl) a t) _ = _; rw [h]; rfl⟩
theorem XS.retT {v : Nat} {x : Ex} {a t : GTy} (h : X inp bd x s.tick F.sl (.trap v s1)) : XS inp bd (.ret x a t) s F (.trap v s1) := by
  obtain ⟨n, h⟩ := h
  exact ⟨n + 1, by show Rx.onS (Rx.conv (ev inp bd n x s.tick F.sl) a t) _ = _; rw [h]; rfl⟩
theorem XS.brk : XS inp bd .brk s F (.go 2 s.tick F) := ⟨1, rfl⟩
theorem XS.cont : XS inp bd .cont s F (.go 3 s.tick F) := ⟨1, rfl⟩
theorem XS.yes {v : Nat} {x : Ex} {l k : List Sm} {r : Rs} (h1 : X inp bd x s.tick F.sl (.val v s1)) (hv : v ≠ 0) (h2 : XQ inp bd l s1 F r) : XS inp bd (.ite x l k) s F r := by
  obtain ⟨n, h1⟩ := h1
  obtain ⟨m, h2⟩ := h2
  refine ⟨max n m + 1, ?_⟩
  show Rx.onS (ev inp bd (max n m) x s.tick F.sl) (fun v s => if v = 0 then seqS (k.map (exS inp bd (max n m))) s F else seqS (l.map (exS inp bd (max n m))) s F) = _
  rw [ev_le inp bd (Nat.le_max_left n m) _ _ _ _ h1]
  show (if v = 0 then _ else seqS (l.map (exS inp bd (max n m))) s1 F) = _
  rw [if_neg hv]
  exact seq_le inp bd (Nat.le_max_right n m) _ _ _ _ h2
theorem XS.no {x : Ex} {l k : List Sm} {r : Rs} (h1 : X inp bd x s.tick F.sl (.val 0 s1)) (h2 : XQ inp bd k s1 F r) : XS inp bd (.ite x l k) s F r := by
  obtain ⟨n, h1⟩ := h1
  obtain ⟨m, h2⟩ := h2
  refine ⟨max n m + 1, ?_⟩
  show Rx.onS (ev inp bd (max n m) x s.tick F.sl) (fun v s => if v = 0 then seqS (k.map (exS inp bd (max n m))) s F else seqS (l.map (exS inp bd (max n m))) s F) = _
  rw [ev_le inp bd (Nat.le_max_left n m) _ _ _ _ h1]
  show (if 0 = 0 then seqS (k.map (exS inp bd (max n m))) s1 F else seqS (l.map (exS inp bd (max n m))) s1 F) = _
  rw [if_pos rfl]
  exact seq_le inp bd (Nat.le_max_right n m) _ _ _ _ h2
theorem XS.blk {l : List Sm} {r : Rs} (h : XQ inp bd l s.tick F r) : XS inp bd (.blk l) s F r := by
  obtain ⟨n, h⟩ := h
  exact ⟨n + 1, h⟩
theorem XW.done {c : Ex} {l : List Sm} (h : X inp bd c s.tick F.sl (.val 0 s1)) : XW inp bd c l s F (.go 0 s1 F) := by
  obtain ⟨n, h⟩ := h
  refine ⟨n + 1, ?_⟩
  show Rx.onS (ev inp bd (n + 1) c s.tick F.sl) _ = _
  rw [ev_le inp bd (Nat.le_succ n) _ _ _ _ h]; rfl
theorem XW.step {c : Ex} {l : List Sm} {v h : Nat} {r : Rs} (h1 : X inp bd c s.tick F.sl (.val v s1)) (hv : v ≠ 0) (h2 : XQ inp bd l s1 F (.go h s2 F2)) (hh : h = 0 ∨ h = 3) (h3 : XW inp bd c l s2 F2 r) : XW inp bd c l s F r := by
  obtain ⟨n, h1⟩ := h1
  obtain ⟨m, h2⟩ := h2
  obtain ⟨k, h3⟩ := h3
  obtain ⟨j, hj1, hj2, hj3⟩ : ∃ j, n ≤ j ∧ m ≤ j ∧ k ≤ j := ⟨n + m + k, by omega, by omega, by omega⟩
  refine ⟨j + 2, ?_⟩
  show Rx.onS (ev inp bd (j + 2) c s.tick F.sl) (fun v s => if v = 0 then some (.go 0 s F) else Rs.on (seqS (l.map (exS inp bd (j + 2))) s F) fun h s f => if h = 2 then some (.go 0 s f) else if h = 1 then some (.go 1 s f) else lpW (ev inp bd (j + 2) c) (seqS (l.map (exS inp bd (j + 2)))) (j + 1) s f) = _
  rw [ev_le inp bd (by omega) _ _ _ _ h1]
  show (if v = 0 then _ else Rs.on (seqS (l.map (exS inp bd (j + 2))) s1 F) fun h s f => if h = 2 then some (.go 0 s f) else if h = 1 then some (.go 1 s f) else lpW (ev inp bd (j + 2) c) (seqS (l.map (exS inp bd (j + 2)))) (j + 1) s f) = _
  rw [if_neg hv, seq_le inp bd (show m ≤ j + 2 by omega) _ _ _ _ h2]
  show (if h = 2 then _ else if h = 1 then _ else lpW (ev inp bd (j + 2) c) (seqS (l.map (exS inp bd (j + 2)))) (j + 1) s2 F2) = _
  rw [if_neg (by omega), if_neg (by omega)]
  exact lpW_le2 inp bd (by omega) (by omega) _ _ _ _ _ h3
theorem XW.brk {c : Ex} {l : List Sm} {v : Nat} (h1 : X inp bd c s.tick F.sl (.val v s1)) (hv : v ≠ 0) (h2 : XQ inp bd l s1 F (.go 2 s2 F2)) : XW inp bd c l s F (.go 0 s2 F2) := by
  obtain ⟨n, h1⟩ := h1
  obtain ⟨m, h2⟩ := h2
  refine ⟨max n m + 1, ?_⟩
  show Rx.onS (ev inp bd (max n m + 1) c s.tick F.sl) (fun v s => if v = 0 then some (.go 0 s F) else Rs.on (seqS (l.map (exS inp bd (max n m + 1))) s F) fun h s f => if h = 2 then some (.go 0 s f) else if h = 1 then some (.go 1 s f) else lpW (ev inp bd (max n m + 1) c) (seqS (l.map (exS inp bd (max n m + 1)))) (max n m) s f) = _
  rw [ev_le inp bd (by omega) _ _ _ _ h1]
  show (if v = 0 then _ else Rs.on (seqS (l.map (exS inp bd (max n m + 1))) s1 F) fun h s f => if h = 2 then some (.go 0 s f) else if h = 1 then some (.go 1 s f) else lpW (ev inp bd (max n m + 1) c) (seqS (l.map (exS inp bd (max n m + 1)))) (max n m) s f) = _
  rw [if_neg hv, seq_le inp bd (show m ≤ max n m + 1 by omega) _ _ _ _ h2]; rfl
theorem XS.whl {c : Ex} {l : List Sm} {r : Rs} (h : XW inp bd c l s.tick F r) : XS inp bd (.whl c l) s F r := by
  obtain ⟨n, h⟩ := h
  exact ⟨n + 1, h⟩
theorem XL.done {c : Ex} {l k : List Sm} (h : X inp bd c s.tick F.sl (.val 0 s1)) : XL inp bd c l k s F (.go 0 s1 F) := by
  obtain ⟨n, h⟩ := h
  refine ⟨n + 1, ?_⟩
  show Rx.onS (ev inp bd (n + 1) c s.tick F.sl) _ = _
  rw [ev_le inp bd (Nat.le_succ n) _ _ _ _ h]; rfl
theorem XL.step {c : Ex} {l k : List Sm} {v h : Nat} {s3 : Ms} {F3 : Fr} {r : Rs} (h1 : X inp bd c s.tick F.sl (.val v s1)) (hv : v ≠ 0) (h2 : XQ inp bd l s1 F (.go h s2 F2)) (hh : h = 0 ∨ h = 3) (h4 : XQ inp bd k s2 F2 (.go 0 s3 F3)) (h3 : XL inp bd c l k s3 F3 r) : XL inp bd c l k s F r := by
  obtain ⟨n, h1⟩ := h1
  obtain ⟨m, h2⟩ := h2
  obtain ⟨i, h3⟩ := h3
  obtain ⟨o, h4⟩ := h4
  obtain ⟨j, hj1, hj2, hj3, hj4⟩ : ∃ j, n ≤ j ∧ m ≤ j ∧ i ≤ j ∧ o ≤ j := ⟨n + m + i + o, by omega, by omega, by omega, by omega⟩
  refine ⟨j + 2, ?_⟩
  show Rx.onS (ev inp bd (j + 2) c s.tick F.sl) (fun v s => if v = 0 then some (.go 0 s F) else Rs.on (seqS (l.map (exS inp bd (j + 2))) s F) fun h s f => if h = 2 then some (.go 0 s f) else if h = 1 then some (.go 1 s f) else Rs.on (seqS (k.map (exS inp bd (j + 2))) s f) fun h s f => if h = 0 then lpS (ev inp bd (j + 2) c) (seqS (l.map (exS inp bd (j + 2)))) (seqS (k.map (exS inp bd (j + 2)))) (j + 1) s f else some (.go h s f)) = _
  rw [ev_le inp bd (by omega) _ _ _ _ h1]
  show (if v = 0 then _ else Rs.on (seqS (l.map (exS inp bd (j + 2))) s1 F) fun h s f => if h = 2 then some (.go 0 s f) else if h = 1 then some (.go 1 s f) else Rs.on (seqS (k.map (exS inp bd (j + 2))) s f) fun h s f => if h = 0 then lpS (ev inp bd (j + 2) c) (seqS (l.map (exS inp bd (j + 2)))) (seqS (k.map (exS inp bd (j + 2)))) (j + 1) s f else some (.go h s f)) = _
  rw [if_neg hv, seq_le inp bd (show m ≤ j + 2 by omega) _ _ _ _ h2]
  show (if h = 2 then _ else if h = 1 then _ else Rs.on (seqS (k.map (exS inp bd (j + 2))) s2 F2) fun h s f => if h = 0 then lpS (ev inp bd (j + 2) c) (seqS (l.map (exS inp bd (j + 2)))) (seqS (k.map (exS inp bd (j + 2)))) (j + 1) s f else some (.go h s f)) = _
  rw [if_neg (by omega), if_neg (by omega), seq_le inp bd (show o ≤ j + 2 by omega) _ _ _ _ h4]
  exact lpS_le2 inp bd (by omega) (by omega) _ _ _ _ _ _ h3
theorem XL.brk {c : Ex} {l k : List Sm} {v : Nat} (h1 : X inp bd c s.tick F.sl (.val v s1)) (hv : v ≠ 0) (h2 : XQ inp bd l s1 F (.go 2 s2 F2)) : XL inp bd c l k s F (.go 0 s2 F2) := by
  obtain ⟨n, h1⟩ := h1
  obtain ⟨m, h2⟩ := h2
  refine ⟨max n m + 1, ?_⟩
  show Rx.onS (ev inp bd (max n m + 1) c s.tick F.sl) (fun v s => if v = 0 then some (.go 0 s F) else Rs.on (seqS (l.map (exS inp bd (max n m + 1))) s F) fun h s f => if h = 2 then some (.go 0 s f) else if h = 1 then some (.go 1 s f) else Rs.on (seqS (k.map (exS inp bd (max n m + 1))) s f) fun h s f => if h = 0 then lpS (ev inp bd (max n m + 1) c) (seqS (l.map (exS inp bd (max n m + 1)))) (seqS (k.map (exS inp bd (max n m + 1)))) (max n m) s f else some (.go h s f)) = _
  rw [ev_le inp bd (by omega) _ _ _ _ h1]
  show (if v = 0 then _ else Rs.on (seqS (l.map (exS inp bd (max n m + 1))) s1 F) fun h s f => if h = 2 then some (.go 0 s f) else if h = 1 then some (.go 1 s f) else Rs.on (seqS (k.map (exS inp bd (max n m + 1))) s f) fun h s f => if h = 0 then lpS (ev inp bd (max n m + 1) c) (seqS (l.map (exS inp bd (max n m + 1)))) (seqS (k.map (exS inp bd (max n m + 1)))) (max n m) s f else some (.go h s f)) = _
  rw [if_neg hv, seq_le inp bd (show m ≤ max n m + 1 by omega) _ _ _ _ h2]; rfl
theorem XS.for {i : List Sm} {c : Ex} {l k : List Sm} {r : Rs} (h1 : XQ inp bd i s.tick F (.go 0 s1 F1)) (h2 : XL inp bd c l k s1 F1 r) : XS inp bd (.for i (some c) l k) s F r := by
  obtain ⟨n, h1⟩ := h1
  obtain ⟨m, h2⟩ := h2
  refine ⟨max n m + 2, ?_⟩
  show Rs.on (seqS (i.map (exS inp bd (max n m + 1))) s.tick F) (fun h s f => if h = 0 then lpS (ev inp bd (max n m + 1) c) (seqS (l.map (exS inp bd (max n m + 1)))) (seqS (k.map (exS inp bd (max n m + 1)))) (max n m + 1) s f else some (.go h s f)) = _
  rw [seq_le inp bd (show n ≤ max n m + 1 by omega) _ _ _ _ h1]
  exact lpS_le2 inp bd (by omega) (by omega) _ _ _ _ _ _ h2
end
end Go.Proofs.YtgmmfjmdpbhjnaaGreat

/-
  What cat means, plainly: it tells what comes in.
-/
namespace Go.Proofs.YtgmmfjmdpbhjnaaGreat

/-- a byte, or the sign that there is none -/
def isCh (x : Nat) : Prop := x < 256 ∨ x = 65535
theorem conv_ch {x : Nat} (h : isCh x) : convN x intT intT = x := by
  unfold convN intT sgnN
  unfold isCh at h
  simp only [if_true]
  split <;> omega
theorem ge0_all : (List.range 256).all (fun y => binN 19 y 0 intT intT == some 1) = true := by kernel_rfl
theorem ge0_ch {x : Nat} (h : isCh x) : binN 19 x 0 intT intT = some (if x = 65535 then 0 else 1) := by
  rcases h with h | rfl
  · have := List.all_eq_true.1 ge0_all x (List.mem_range.2 h)
    rw [if_neg (by omega)]
    simpa using this
  · rfl

/-- what stands at a place of what comes in -/
def curC (inp : List Nat) (i : Nat) : Nat := (inp[i]?).getD 65535
theorem cur_ch {inp : List Nat} (hb : ∀ v ∈ inp, v < 256) (i : Nat) : isCh (curC inp i) := by
  unfold curC
  cases h : inp[i]? with
  | none => exact .inr rfl
  | some v => exact .inl (hb v (List.mem_of_getElem? h))
theorem cur_lt {inp : List Nat} (hb : ∀ v ∈ inp, v < 256) {i : Nat} (hi : i < inp.length) : inp[i]? = some (curC inp i) ∧ curC inp i < 256 := by
  have h := List.getElem?_eq_getElem hi
  unfold curC
  rw [h]
  exact ⟨rfl, hb _ (List.getElem_mem hi)⟩
theorem cur_end {inp : List Nat} {i : Nat} (hi : inp.length ≤ i) : curC inp i = 65535 := by unfold curC; rw [List.getElem?_eq_none hi]; rfl

section
variable {inp : List Nat} (hb : ∀ v ∈ inp, v < 256) (bd : List (List Sm × Nat)) (n : Nat)
/-- a byte is got: as a number of sixteen bits -/
theorem get_ch (hb : ∀ v ∈ inp, v < 256) (s : Ms) (f : List Nat) (i : Nat) (hr : s.rd = min i inp.length) :
    Rx.conv (ev inp bd (n + 1) .get s f) intT intT = some (.val (curC inp i) { s.tick with rd := min (i + 1) inp.length }) := by
  show Rx.conv (if s.rd = inp.length then some (.val 65535 s.tick) else Rx.ofO inp[s.rd]? { s.tick with rd := s.rd + 1 }) intT intT = _
  by_cases hi : i < inp.length
  · rw [if_neg (by omega), hr, Nat.min_eq_left (by omega), (cur_lt hb hi).1]
    show some (Rx.val (convN (curC inp i) intT intT) _) = _
    rw [conv_ch (cur_ch hb i), Nat.min_eq_left (by omega)]
  · rw [if_pos (by omega)]
    show some (Rx.val (convN 65535 intT intT) _) = _
    rw [conv_ch (.inr rfl), cur_end (by omega), Nat.min_eq_right (by omega)]
    rw [Nat.min_eq_right (by omega)] at hr
    cases s; cases hr; rfl
end

def catCond : Ex := .bin 19 (.loc 0) (.num 0) intT intT
def catBody : List Sm := [.ex (.put (.loc 0) intT), .setl 0 .get intT intT]
def catMain : List Sm := [.setl 0 .get intT intT, .whl catCond catBody, .ret (.num 0) intT intT]

section
variable {inp : List Nat} (bd : List (List Sm × Nat)) (n : Nat)
theorem cond_ch {x : Nat} (hx : isCh x) (s : Ms) : ev inp bd (n + 3) catCond s [x] = some (.val (if x = 65535 then 0 else 1) s.tick.tick.tick) := by
  show (match binN 19 x 0 intT intT with | some r => some (Rx.val r s.tick.tick.tick) | none => some (Rx.trap 1 s.tick.tick.tick)) = _
  rw [ge0_ch hx]
theorem put_ch {x : Nat} (hx : x < 256) (s : Ms) (r : Nat) : exS inp bd (n + 4) (.ex (.put (.loc 0) intT)) s ⟨[x], r⟩ = some (.go 0 { s.tick.tick.tick with out := s.out ++ [x] } ⟨[x], r⟩) := by
  show some (Rs.go 0 { s.tick.tick.tick with out := s.out ++ [convN x intT intT % 256] } ⟨[x], r⟩) = _
  rw [conv_ch (.inl hx), Nat.mod_eq_of_lt hx]
theorem set_ch (hb : ∀ v ∈ inp, v < 256) (x r : Nat) (s : Ms) (i : Nat) (hr : s.rd = min i inp.length) : exS inp bd (n + 4) (.setl 0 .get intT intT) s ⟨[x], r⟩ = some (.go 0 { s.tick.tick with rd := min (i + 1) inp.length } ⟨[curC inp i], r⟩) := by
  show Rx.onS (Rx.conv (ev inp bd (n + 3) .get s.tick [x]) intT intT) (fun v s => if 0 < [x].length then some (Rs.go 0 s ⟨[x].set 0 v, r⟩) else none) = _
  rw [get_ch bd (n + 2) hb s.tick [x] i hr]
  rfl
end
theorem cat_loop {inp : List Nat} (hb : ∀ v ∈ inp, v < 256) (bd : List (List Sm × Nat)) (n : Nat) : ∀ (j i m tk : Nat), i + j = inp.length → j < m →
    lpW (ev inp bd (n + 4) catCond) (seqS (catBody.map (exS inp bd (n + 4)))) m ⟨tk, inp.take i, min (i + 1) inp.length, 1, []⟩ ⟨[curC inp i], 0⟩ =
      some (.go 0 ⟨tk + 9 * j + 4, inp, inp.length, 1, []⟩ ⟨[65535], 0⟩)
  | j, i, 0, tk, hij, hm => by omega
  | 0, i, m + 1, tk, hij, _ => by
    have hc : curC inp i = 65535 := cur_end (by omega)
    show Rx.onS (ev inp bd (n + 4) catCond (Ms.tick ⟨tk, inp.take i, min (i + 1) inp.length, 1, []⟩) [curC inp i]) _ = _
    rw [cond_ch bd (n + 1) (cur_ch hb i), if_pos hc, hc, List.take_of_length_le (by omega), Nat.min_eq_right (by omega)]
    rfl
  | j + 1, i, m + 1, tk, hij, hm => by
    have hi : i < inp.length := by omega
    obtain ⟨h1, h2⟩ := cur_lt hb hi
    have ih := cat_loop hb bd n j (i + 1) m (tk + 9) (by omega) (by omega)
    show Rx.onS (ev inp bd (n + 4) catCond (Ms.tick ⟨tk, inp.take i, min (i + 1) inp.length, 1, []⟩) [curC inp i]) (fun v s => if v = 0 then some (.go 0 s ⟨[curC inp i], 0⟩) else Rs.on (seqS (catBody.map (exS inp bd (n + 4))) s ⟨[curC inp i], 0⟩) fun h s f => if h = 2 then some (.go 0 s f) else if h = 1 then some (.go 1 s f) else lpW (ev inp bd (n + 4) catCond) (seqS (catBody.map (exS inp bd (n + 4)))) m s f) = _
    rw [cond_ch bd (n + 1) (cur_ch hb i), if_neg (by omega)]
    have body : ∀ s : Ms, s.rd = min (i + 1) inp.length → s.out = inp.take i → seqS (catBody.map (exS inp bd (n + 4))) s ⟨[curC inp i], 0⟩ = some (.go 0 { s with tk := s.tk + 5, out := inp.take (i + 1), rd := min (i + 2) inp.length } ⟨[curC inp (i + 1)], 0⟩) := fun s hr ho => by
      show Rs.on (exS inp bd (n + 4) (.ex (.put (.loc 0) intT)) s ⟨[curC inp i], 0⟩) (fun h s f => if h = 0 then Rs.on (exS inp bd (n + 4) (.setl 0 .get intT intT) s f) (fun h s f => if h = 0 then some (.go 0 s f) else some (.go h s f)) else some (.go h s f)) = _
      rw [put_ch bd n h2]
      show Rs.on (exS inp bd (n + 4) (.setl 0 .get intT intT) ⟨s.tk + 3, s.out ++ [curC inp i], s.rd, s.cl, s.gl⟩ ⟨[curC inp i], 0⟩) (fun h s f => if h = 0 then some (.go 0 s f) else some (.go h s f)) = _
      rw [set_ch bd n hb (curC inp i) 0 ⟨s.tk + 3, s.out ++ [curC inp i], s.rd, s.cl, s.gl⟩ (i + 1) hr]
      have ht : inp.take (i + 1) = inp.take i ++ [curC inp i] := by rw [List.take_add_one, h1]; rfl
      rw [ht, ← ho]
      rfl
    show Rs.on (seqS (catBody.map (exS inp bd (n + 4))) _ ⟨[curC inp i], 0⟩) _ = _
    rw [body _ rfl rfl]
    show lpW _ _ m ⟨tk + 9, inp.take (i + 1), min (i + 2) inp.length, 1, []⟩ ⟨[curC inp (i + 1)], 0⟩ = _
    rw [ih]
    congr 3
    omega

/-- cat tells what comes in. -/
theorem cat_means {inp : List Nat} (hb : ∀ v ∈ inp, v < 256) (n : Nat) (hn : inp.length ≤ n) : evF inp [(catMain, 1)] (n + 6) 0 [] ⟨0, [], 0, 0, []⟩ = some (.val 0 ⟨9 * inp.length + 9, inp, inp.length, 0, []⟩) := by
  have h1 := set_ch [(catMain, 1)] (n + 1) hb 0 0 ⟨0, [], 0, 1, []⟩ 0 (by simp)
  have h2 := cat_loop hb [(catMain, 1)] n inp.length 0 (n + 4) 3 (by omega) (by omega)
  show (match Rs.on (exS inp [(catMain, 1)] (n + 5) (.setl 0 .get intT intT) ⟨0, [], 0, 1, []⟩ ⟨[0], 0⟩) (fun h s f => if h = 0 then seqS ([Sm.whl catCond catBody, .ret (.num 0) intT intT].map (exS inp [(catMain, 1)] (n + 5))) s f else some (.go h s f)) with
    | some (.go _ s2 f) => if s2.cl = 0 + 1 then some (Rx.val f.res { s2 with cl := 0 }) else none
    | some (.trap k s) => some (.trap k s)
    | none => none) = _
  rw [h1]
  show (match Rs.on (lpW (ev inp [(catMain, 1)] (n + 4) catCond) (seqS (catBody.map (exS inp [(catMain, 1)] (n + 4)))) (n + 4) ⟨3, inp.take 0, min (0 + 1) inp.length, 1, []⟩ ⟨[curC inp 0], 0⟩) (fun h s f => if h = 0 then seqS ([Sm.ret (.num 0) intT intT].map (exS inp [(catMain, 1)] (n + 5))) s f else some (.go h s f)) with
    | some (.go _ s2 f) => if s2.cl = 0 + 1 then some (Rx.val f.res { s2 with cl := 0 }) else none
    | some (.trap k s) => some (.trap k s)
    | none => none) = _
  rw [h2]
  show some (Rx.val (convN 0 intT intT) ⟨3 + 9 * inp.length + 4 + 2, inp, inp.length, 0, []⟩) = _
  rw [conv_ch (.inl (by omega))]
  congr 3
  omega
end Go.Proofs.YtgmmfjmdpbhjnaaGreat

/-
  Rules for runs, with what is converted worked out; numbers that come in.
-/
namespace Go.Proofs.YtgmmfjmdpbhjnaaGreat

def u8T : GTy := ⟨8, false⟩
def u32T : GTy := ⟨32, false⟩
def u64T : GTy := ⟨64, false⟩

section
variable {inp : List Nat} {bd : List (List Sm × Nat)} {s s1 s2 : Ms} {f : List Nat} {F F1 F2 : Fr}
theorem X.casts {x : Ex} {a t : GTy} {v u : Nat} (h : X inp bd x s.tick f (.val v s1)) (hv : convN v a t = u) : X inp bd (.cast x a t) s f (.val u s1) := by subst hv; exact X.cast h
theorem X.uns {k : Nat} {x : Ex} {t : GTy} {v u : Nat} (h : X inp bd x s.tick f (.val v s1)) (hv : (unN k v t).1 = u) : X inp bd (.un k x t) s f (.val u s1) := by subst hv; exact X.un h
theorem X.puts {x : Ex} {a : GTy} {v u : Nat} (h : X inp bd x s.tick f (.val v s1)) (hv : convN v a intT % 256 = u) : X inp bd (.put x a) s f (.val 0 ⟨s1.tk, s1.out ++ [u], s1.rd, s1.cl, s1.gl⟩) := by subst hv; exact X.put h
theorem XF.runs {k z h tk0 tk rd0 rd cl res : Nat} {out0 out sl : List Nat} {gl0 gl : List (List Nat)} {b : List Sm} {l : List Nat} (hk : bd[k]? = some (b, z)) (hc : cl ≠ 60) (hq : XQ inp bd b ⟨tk0, out0, rd0, cl + 1, gl0⟩ ⟨(l ++ List.replicate z 0).take z, 0⟩ (.go h ⟨tk, out, rd, cl + 1, gl⟩ ⟨sl, res⟩)) :
    XF inp bd k l ⟨tk0, out0, rd0, cl, gl0⟩ (.val res ⟨tk, out, rd, cl, gl⟩) := XF.run (s := ⟨tk0, out0, rd0, cl, gl0⟩) (s2 := ⟨tk, out, rd, cl + 1, gl⟩) (F := ⟨sl, res⟩) hk hc hq rfl
theorem X.gets {i : Nat} (h : s.rd = min i inp.length) : X inp bd .get s f (.val (curC inp i) ⟨s.tk + 1, s.out, min (i + 1) inp.length, s.cl, s.gl⟩) := by
  obtain ⟨tk, out, rd, cl, gl⟩ := s
  simp only at h
  subst h
  by_cases hi : i < inp.length
  · have e : inp[min i inp.length]? = some (curC inp i) := by
      rw [Nat.min_eq_left (by omega)]
      unfold curC
      rw [List.getElem?_eq_getElem hi]; rfl
    have := X.get (bd := bd) (s := ⟨tk, out, min i inp.length, cl, gl⟩) (f := f) e
    rw [Nat.min_eq_left (show i + 1 ≤ inp.length by omega)]
    rw [Nat.min_eq_left (show i ≤ inp.length by omega)] at this ⊢
    exact this
  · have := X.getE (inp := inp) (bd := bd) (s := ⟨tk, out, min i inp.length, cl, gl⟩) (f := f) (Nat.min_eq_right (by omega))
    rw [cur_end (by omega), Nat.min_eq_right (show inp.length ≤ i + 1 by omega)]
    rw [Nat.min_eq_right (show inp.length ≤ i by omega)] at this ⊢
    exact this
theorem XA.conss {x : Ex} {b t : GTy} {v u : Nat} {l : List (Ex × GTy × GTy)} {a : List Nat} {r : Ra} (h1 : X inp bd x s f (.val v s1)) (hv : convN v b t = u) (h2 : XA inp bd l (a ++ [u]) s1 f r) : XA inp bd ((x, b, t) :: l) a s f r := by subst hv; exact XA.cons h1 h2
theorem XS.setls {i v u : Nat} {x : Ex} {a t : GTy} (h : X inp bd x s.tick F.sl (.val v s1)) (hv : convN v a t = u) (hi : i < F.sl.length) : XS inp bd (.setl i x a t) s F (.go 0 s1 ⟨F.sl.set i u, F.res⟩) := by subst hv; exact XS.setl h hi
theorem XS.rets {v u : Nat} {x : Ex} {a t : GTy} (h : X inp bd x s.tick F.sl (.val v s1)) (hv : convN v a t = u) : XS inp bd (.ret x a t) s F (.go 1 s1 ⟨F.sl, u⟩) := by subst hv; exact XS.ret h
theorem XS.setas {g z i0 i v u : Nat} {y x : Ex} {b a t : GTy} (h1 : X inp bd y s.tick F.sl (.val i0 s1)) (hc : convN i0 b uintT = i) (hi : i < z) (h2 : X inp bd x s1 F.sl (.val v s2)) (hv : convN v a t = u) : XS inp bd (.seta g z y b x a t) s F (.go 0 (s2.store g i u) F) := by subst hv; exact XS.seta h1 hc hi h2
end

/-! ### numbers that fit are as they are -/
theorem sgn16 {x : Nat} (h : x < 32768) : sgnN x 16 = (x : Int) := by
  unfold sgnN
  simp only [Nat.reducePow]
  rw [if_pos (by omega)]
  omega
theorem cv_uu {x : Nat} {a b : Nat} (h1 : x < 2 ^ a) (h2 : x < 2 ^ b) : convN x ⟨a, false⟩ ⟨b, false⟩ = x := by
  unfold convN
  simp only [Bool.false_eq_true, if_false]
  rw [Nat.mod_eq_of_lt h1, Nat.mod_eq_of_lt h2]
theorem cv_um {x : Nat} {a b : Nat} (h1 : x < 2 ^ a) : convN x ⟨a, false⟩ ⟨b, false⟩ = x % 2 ^ b := by
  unfold convN
  simp only [Bool.false_eq_true, if_false]
  rw [Nat.mod_eq_of_lt h1]
theorem cv_ui {x : Nat} {a : Nat} (h1 : x < 2 ^ a) : convN x ⟨a, false⟩ intT = x % 65536 := by
  unfold convN intT
  simp only [Bool.false_eq_true, if_false]
  rw [Nat.mod_eq_of_lt h1]
theorem cv_iu {x : Nat} {b : Nat} (h1 : x < 32768) : convN x intT ⟨b, false⟩ = x % 2 ^ b := by
  have h : sgnN x 16 = (x : Int) := sgn16 h1
  unfold convN intT
  simp only [if_true]
  rw [h]
  congr 1
  omega
theorem cv_ih {x : Nat} (h1 : x < 65536) : convN x intT uintT = x := by
  unfold convN intT uintT sgnN
  simp only [if_true, Nat.reducePow]
  split <;> omega
theorem cv_ii {x : Nat} (h1 : x < 65536) : convN x intT intT = x := by
  unfold convN intT sgnN
  simp only [if_true, Nat.reducePow]
  split <;> omega

/-! ### operators -/
theorem bn_com {k p q : Nat} {t u c : GTy} (hk : k ≠ 14 ∧ k ≠ 15) (hc : commT t u = c) (h1 : convN p t c = p) (h2 : convN q u c = q) : binN k p q t u =
    if k = 9 then some (mulN p q c.bits)
    else if k = 10 then (if q % 2 ^ c.bits = 0 then none else some (partsN p q c.bits c.sgn).1)
    else if k = 11 then (if q % 2 ^ c.bits = 0 then none else some (partsN p q c.bits c.sgn).2)
    else if k = 12 then some (addN p q c.bits)
    else if k = 13 then some (subN p q c.bits)
    else if k = 22 then some (p &&& q)
    else if k = 23 then some (p ^^^ q)
    else if k = 24 then some (p ||| q)
    else some (truthN (cmpN k p q c)) := by
  unfold binN
  rw [if_neg hk.1, if_neg hk.2]
  simp only [hc, h1, h2]
/-- numbers of a common type, whether with a sign or not, below half of what it holds (with a sign), or below what it holds (without) -/
def fitT (c : GTy) (p : Nat) : Prop := if c.sgn then 2 * p < 2 ^ c.bits else p < 2 ^ c.bits
theorem fit_lt {c : GTy} {p : Nat} (h : fitT c p) : p < 2 ^ c.bits := by
  unfold fitT at h
  split at h <;> omega
theorem less_fit {c : GTy} {p q : Nat} (h1 : fitT c p) (h2 : fitT c q) : lessN p q c.bits c.sgn = decide (p < q) := by
  have k1 := fit_lt h1
  have k2 := fit_lt h2
  unfold lessN sgnN
  rw [Nat.mod_eq_of_lt k1, Nat.mod_eq_of_lt k2]
  unfold fitT at h1 h2
  cases hs : c.sgn with
  | false => simp
  | true =>
    rw [hs] at h1 h2
    simp only [if_true] at h1 h2 ⊢
    rw [if_pos h1, if_pos h2]
    by_cases h : p < q
    · rw [decide_eq_true h, decide_eq_true (by omega)]
    · rw [decide_eq_false h, decide_eq_false (by omega)]
theorem parts_fit {c : GTy} {p q : Nat} (hc : 0 < c.bits) (h1 : fitT c p) (h2 : fitT c q) : partsN p q c.bits c.sgn = (p / q, p % q) := by
  have k1 := fit_lt h1
  have k2 := fit_lt h2
  unfold partsN
  unfold fitT at h1 h2
  cases hs : c.sgn with
  | false => simp [Nat.mod_eq_of_lt k1, Nat.mod_eq_of_lt k2]
  | true =>
    rw [hs] at h1 h2
    simp only [if_true] at h1 h2 ⊢
    have hp : 2 ^ c.bits = 2 * 2 ^ (c.bits - 1) := by rw [← Nat.pow_succ']; congr 1; omega
    have z : ∀ {x : Nat}, x < 2 ^ c.bits → 2 * x < 2 ^ c.bits → sizeN (x % 2 ^ c.bits) c.bits = (x, false) := fun {x} h h' => by
      unfold sizeN
      rw [Nat.mod_eq_of_lt h, Nat.div_eq_of_lt (by omega)]
      rfl
    rw [z k1 h1, z k2 h2]
    have d1 : p / q ≤ p := Nat.div_le_self p q
    have d2 : p % q ≤ p := Nat.mod_le p q
    simp only [ne_eq, not_true_eq_false, if_false, Bool.false_eq_true]
    rw [Nat.mod_eq_of_lt (by omega), Nat.mod_eq_of_lt (by omega)]
theorem bn_add {p q : Nat} {t u c : GTy} (hc : commT t u = c) (hb : c.bits = 16 ∨ c.bits = 32 ∨ c.bits = 64) (h1 : convN p t c = p) (h2 : convN q u c = q) (k1 : p < 2 ^ c.bits) (k2 : q < 2 ^ c.bits) : binN 12 p q t u = some ((p + q) % 2 ^ c.bits) := by
  rw [bn_com (by omega) hc h1 h2]
  simp only [Nat.reduceEqDiff, if_false, if_true]
  unfold addN
  rw [Nat.mod_eq_of_lt k1, Nat.mod_eq_of_lt k2]
  congr 1
  rcases hb with h | h | h <;> rw [h] <;> simp only [Nat.reducePow] <;> omega
theorem bn_sub {p q : Nat} {t u c : GTy} (hc : commT t u = c) (hb : c.bits = 16 ∨ c.bits = 32 ∨ c.bits = 64) (h1 : convN p t c = p) (h2 : convN q u c = q) (k1 : p < 2 ^ c.bits) (k2 : q < 2 ^ c.bits) : binN 13 p q t u = some ((p + (2 ^ c.bits - q)) % 2 ^ c.bits) := by
  rw [bn_com (by omega) hc h1 h2]
  simp only [Nat.reduceEqDiff, if_false, if_true]
  unfold subN
  rw [Nat.mod_eq_of_lt k1, Nat.mod_eq_of_lt k2]
  congr 1
  rcases hb with h | h | h <;> rw [h] at k1 k2 ⊢ <;> simp only [Nat.reducePow] at k1 k2 ⊢ <;> omega
theorem bn_mul {p q : Nat} {t u c : GTy} (hc : commT t u = c) (hb : c.bits = 16 ∨ c.bits = 32 ∨ c.bits = 64) (h1 : convN p t c = p) (h2 : convN q u c = q) (k1 : p < 2 ^ c.bits) (k2 : q < 2 ^ c.bits) : binN 9 p q t u = some (p * q % 2 ^ c.bits) := by
  rw [bn_com (by omega) hc h1 h2]
  simp only [if_true]
  unfold mulN
  rw [Nat.mod_eq_of_lt k1, Nat.mod_eq_of_lt k2]
  congr 1
  rcases hb with h | h | h <;> rw [h] <;> simp only [Nat.reducePow] <;> omega
theorem bn_quo {p q : Nat} {t u c : GTy} (hc : commT t u = c) (hb : c.bits = 16 ∨ c.bits = 32 ∨ c.bits = 64) (h1 : convN p t c = p) (h2 : convN q u c = q) (k1 : fitT c p) (k2 : fitT c q) (hq : 0 < q) : binN 10 p q t u = some (p / q) := by
  rw [bn_com (by omega) hc h1 h2]
  simp only [Nat.reduceEqDiff, if_false, if_true]
  rw [Nat.mod_eq_of_lt (fit_lt k2), if_neg (by omega), parts_fit (by omega) k1 k2]
theorem bn_rem {p q : Nat} {t u c : GTy} (hc : commT t u = c) (hb : c.bits = 16 ∨ c.bits = 32 ∨ c.bits = 64) (h1 : convN p t c = p) (h2 : convN q u c = q) (k1 : fitT c p) (k2 : fitT c q) (hq : 0 < q) : binN 11 p q t u = some (p % q) := by
  rw [bn_com (by omega) hc h1 h2]
  simp only [Nat.reduceEqDiff, if_false, if_true]
  rw [Nat.mod_eq_of_lt (fit_lt k2), if_neg (by omega), parts_fit (by omega) k1 k2]
theorem bn_div0 {k p : Nat} {t u c : GTy} (hk : k = 10 ∨ k = 11) (hc : commT t u = c) (h1 : convN p t c = p) (h2 : convN 0 u c = 0) : binN k p 0 t u = none := by
  rw [bn_com (by omega) hc h1 h2, Nat.zero_mod]
  rcases hk with rfl | rfl <;> rfl
theorem bn_and {p q : Nat} {t u c : GTy} (hc : commT t u = c) (h1 : convN p t c = p) (h2 : convN q u c = q) : binN 22 p q t u = some (p &&& q) := by
  rw [bn_com (by omega) hc h1 h2]; rfl
theorem bn_xor {p q : Nat} {t u c : GTy} (hc : commT t u = c) (h1 : convN p t c = p) (h2 : convN q u c = q) : binN 23 p q t u = some (p ^^^ q) := by
  rw [bn_com (by omega) hc h1 h2]; rfl
theorem bn_or {p q : Nat} {t u c : GTy} (hc : commT t u = c) (h1 : convN p t c = p) (h2 : convN q u c = q) : binN 24 p q t u = some (p ||| q) := by
  rw [bn_com (by omega) hc h1 h2]; rfl
theorem bn_lt {p q : Nat} {t u c : GTy} (hc : commT t u = c) (h1 : convN p t c = p) (h2 : convN q u c = q) (k1 : fitT c p) (k2 : fitT c q) : binN 16 p q t u = some (truthN (decide (p < q))) := by
  rw [bn_com (by omega) hc h1 h2]
  show some (truthN (lessN p q c.bits c.sgn)) = _
  rw [less_fit k1 k2]
theorem bn_le {p q : Nat} {t u c : GTy} (hc : commT t u = c) (h1 : convN p t c = p) (h2 : convN q u c = q) (k1 : fitT c p) (k2 : fitT c q) : binN 17 p q t u = some (truthN (!decide (q < p))) := by
  rw [bn_com (by omega) hc h1 h2]
  show some (truthN (!lessN q p c.bits c.sgn)) = _
  rw [less_fit k2 k1]
theorem bn_gt {p q : Nat} {t u c : GTy} (hc : commT t u = c) (h1 : convN p t c = p) (h2 : convN q u c = q) (k1 : fitT c p) (k2 : fitT c q) : binN 18 p q t u = some (truthN (decide (q < p))) := by
  rw [bn_com (by omega) hc h1 h2]
  show some (truthN (lessN q p c.bits c.sgn)) = _
  rw [less_fit k2 k1]
theorem bn_ge {p q : Nat} {t u c : GTy} (hc : commT t u = c) (h1 : convN p t c = p) (h2 : convN q u c = q) (k1 : fitT c p) (k2 : fitT c q) : binN 19 p q t u = some (truthN (!decide (p < q))) := by
  rw [bn_com (by omega) hc h1 h2]
  show some (truthN (!lessN p q c.bits c.sgn)) = _
  rw [less_fit k1 k2]
theorem bn_eq {p q : Nat} {t u c : GTy} (hc : commT t u = c) (h1 : convN p t c = p) (h2 : convN q u c = q) (k1 : fitT c p) (k2 : fitT c q) : binN 20 p q t u = some (truthN (!decide (p < q) && !decide (q < p))) := by
  rw [bn_com (by omega) hc h1 h2]
  show some (truthN (!lessN p q c.bits c.sgn && !lessN q p c.bits c.sgn)) = _
  rw [less_fit k1 k2, less_fit k2 k1]
theorem bn_ne {p q : Nat} {t u c : GTy} (hc : commT t u = c) (h1 : convN p t c = p) (h2 : convN q u c = q) (k1 : fitT c p) (k2 : fitT c q) : binN 21 p q t u = some (truthN (decide (p < q) || decide (q < p))) := by
  rw [bn_com (by omega) hc h1 h2]
  show some (truthN (lessN p q c.bits c.sgn || lessN q p c.bits c.sgn)) = _
  rw [less_fit k1 k2, less_fit k2 k1]
theorem bn_shl {p q : Nat} {t u : GTy} (hb : (promT t).bits = 16 ∨ (promT t).bits = 32 ∨ (promT t).bits = 64) (h1 : convN p t (promT t) = p) (h2 : convN q u uintT = q) (k1 : p < 2 ^ (promT t).bits) (k2 : q ≤ 64) : binN 14 p q t u = some (p * 2 ^ q % 2 ^ (promT t).bits) := by
  unfold binN
  rw [if_pos rfl, h1, h2]
  unfold shlN
  rw [Nat.mod_eq_of_lt k1, Nat.min_eq_left k2]
  congr 1
  generalize p * 2 ^ q = z
  rcases hb with h | h | h <;> rw [h] <;> simp only [Nat.reducePow] <;> omega
theorem bn_shr {p q : Nat} {t u : GTy} (hb : (promT t).bits = 16 ∨ (promT t).bits = 32 ∨ (promT t).bits = 64) (h1 : convN p t (promT t) = p) (h2 : convN q u uintT = q) (k1 : fitT (promT t) p) (k2 : q ≤ 64) : binN 15 p q t u = some (p / 2 ^ q) := by
  have k0 := fit_lt k1
  have kd : p / 2 ^ q ≤ p := Nat.div_le_self _ _
  have h15 : (15 : Nat) ≠ 14 := by decide
  unfold binN
  rw [if_neg h15, if_pos rfl, h1, h2]
  unfold shrN sgnN
  unfold fitT at k1
  rw [Nat.mod_eq_of_lt k0, Nat.min_eq_left k2]
  cases hs : (promT t).sgn with
  | false => simp
  | true =>
    rw [hs] at k1
    simp only [if_true] at k1 ⊢
    rw [if_pos k1]
    congr 1
    have e : ((p : Int) / 2 ^ q) = ((p / 2 ^ q : Nat) : Int) := by push_cast; rfl
    rw [e]
    generalize p / 2 ^ q = z at *
    rcases hb with h | h | h <;> rw [h] at k0 ⊢ <;> simp only [Nat.reducePow] at k0 ⊢ <;> omega
end Go.Proofs.YtgmmfjmdpbhjnaaGreat

/-
  Operators at types, where numbers fit (printed by mkbn.py).
-/
namespace Go.Proofs.YtgmmfjmdpbhjnaaGreat
theorem fit_i {p : Nat} (h : p < 32768) : fitT intT p := show 2 * p < 2 ^ 16 from by simp only [Nat.reducePow]; omega
theorem fit_h {p : Nat} (h : p < 65536) : fitT uintT p := show p < 2 ^ 16 from by simp only [Nat.reducePow]; omega
theorem fit_w {p : Nat} (h : p < 4294967296) : fitT u32T p := show p < 2 ^ 32 from by simp only [Nat.reducePow]; omega
theorem fit_q {p : Nat} (h : p < 18446744073709551616) : fitT u64T p := show p < 2 ^ 64 from by simp only [Nat.reducePow]; omega
theorem c_b_b {x : Nat} (h : x < 256) : convN x u8T u8T = x := cv_uu (by simp only [Nat.reducePow]; omega) (by simp only [Nat.reducePow]; omega)
theorem c_b_i {x : Nat} (h : x < 256) : convN x u8T intT = x := (cv_ui (by simp only [Nat.reducePow]; omega)).trans (Nat.mod_eq_of_lt (by omega))
theorem c_b_h {x : Nat} (h : x < 256) : convN x u8T uintT = x := cv_uu (by simp only [Nat.reducePow]; omega) (by simp only [Nat.reducePow]; omega)
theorem c_b_w {x : Nat} (h : x < 256) : convN x u8T u32T = x := cv_uu (by simp only [Nat.reducePow]; omega) (by simp only [Nat.reducePow]; omega)
theorem c_b_q {x : Nat} (h : x < 256) : convN x u8T u64T = x := cv_uu (by simp only [Nat.reducePow]; omega) (by simp only [Nat.reducePow]; omega)
theorem p_b {x : Nat} (h : x < 256) : convN x u8T intT % 256 = x := by rw [c_b_i (by omega)]; omega
theorem c_i_b {x : Nat} (h : x < 256) : convN x intT u8T = x := (cv_iu (by omega)).trans (Nat.mod_eq_of_lt (by simp only [Nat.reducePow]; omega))
theorem m_i_b {x : Nat} (h : x < 32768) : convN x intT u8T = x % 256 := (cv_iu (by omega)).trans rfl
theorem c_i_i {x : Nat} (h : x < 65536) : convN x intT intT = x := cv_ii h
theorem c_i_h {x : Nat} (h : x < 65536) : convN x intT uintT = x := cv_ih h
theorem c_i_w {x : Nat} (h : x < 32768) : convN x intT u32T = x := (cv_iu (by omega)).trans (Nat.mod_eq_of_lt (by simp only [Nat.reducePow]; omega))
theorem c_i_q {x : Nat} (h : x < 32768) : convN x intT u64T = x := (cv_iu (by omega)).trans (Nat.mod_eq_of_lt (by simp only [Nat.reducePow]; omega))
theorem p_i {x : Nat} (h : x < 256) : convN x intT intT % 256 = x := by rw [c_i_i (by omega)]; omega
theorem c_h_b {x : Nat} (h : x < 256) : convN x uintT u8T = x := cv_uu (by simp only [Nat.reducePow]; omega) (by simp only [Nat.reducePow]; omega)
theorem m_h_b {x : Nat} (h : x < 65536) : convN x uintT u8T = x % 256 := (cv_um (by simp only [Nat.reducePow]; omega)).trans rfl
theorem c_h_i {x : Nat} (h : x < 65536) : convN x uintT intT = x := (cv_ui (by simp only [Nat.reducePow]; omega)).trans (Nat.mod_eq_of_lt (by omega))
theorem c_h_h {x : Nat} (h : x < 65536) : convN x uintT uintT = x := cv_uu (by simp only [Nat.reducePow]; omega) (by simp only [Nat.reducePow]; omega)
theorem c_h_w {x : Nat} (h : x < 65536) : convN x uintT u32T = x := cv_uu (by simp only [Nat.reducePow]; omega) (by simp only [Nat.reducePow]; omega)
theorem c_h_q {x : Nat} (h : x < 65536) : convN x uintT u64T = x := cv_uu (by simp only [Nat.reducePow]; omega) (by simp only [Nat.reducePow]; omega)
theorem p_h {x : Nat} (h : x < 256) : convN x uintT intT % 256 = x := by rw [c_h_i (by omega)]; omega
theorem c_w_b {x : Nat} (h : x < 256) : convN x u32T u8T = x := cv_uu (by simp only [Nat.reducePow]; omega) (by simp only [Nat.reducePow]; omega)
theorem m_w_b {x : Nat} (h : x < 4294967296) : convN x u32T u8T = x % 256 := (cv_um (by simp only [Nat.reducePow]; omega)).trans rfl
theorem c_w_i {x : Nat} (h : x < 65536) : convN x u32T intT = x := (cv_ui (by simp only [Nat.reducePow]; omega)).trans (Nat.mod_eq_of_lt (by omega))
theorem m_w_i {x : Nat} (h : x < 4294967296) : convN x u32T intT = x % 65536 := cv_ui (by simp only [Nat.reducePow]; omega)
theorem c_w_h {x : Nat} (h : x < 65536) : convN x u32T uintT = x := cv_uu (by simp only [Nat.reducePow]; omega) (by simp only [Nat.reducePow]; omega)
theorem m_w_h {x : Nat} (h : x < 4294967296) : convN x u32T uintT = x % 65536 := (cv_um (by simp only [Nat.reducePow]; omega)).trans rfl
theorem c_w_w {x : Nat} (h : x < 4294967296) : convN x u32T u32T = x := cv_uu (by simp only [Nat.reducePow]; omega) (by simp only [Nat.reducePow]; omega)
theorem c_w_q {x : Nat} (h : x < 4294967296) : convN x u32T u64T = x := cv_uu (by simp only [Nat.reducePow]; omega) (by simp only [Nat.reducePow]; omega)
theorem p_w {x : Nat} (h : x < 256) : convN x u32T intT % 256 = x := by rw [c_w_i (by omega)]; omega
theorem c_q_b {x : Nat} (h : x < 256) : convN x u64T u8T = x := cv_uu (by simp only [Nat.reducePow]; omega) (by simp only [Nat.reducePow]; omega)
theorem m_q_b {x : Nat} (h : x < 18446744073709551616) : convN x u64T u8T = x % 256 := (cv_um (by simp only [Nat.reducePow]; omega)).trans rfl
theorem c_q_i {x : Nat} (h : x < 65536) : convN x u64T intT = x := (cv_ui (by simp only [Nat.reducePow]; omega)).trans (Nat.mod_eq_of_lt (by omega))
theorem m_q_i {x : Nat} (h : x < 18446744073709551616) : convN x u64T intT = x % 65536 := cv_ui (by simp only [Nat.reducePow]; omega)
theorem c_q_h {x : Nat} (h : x < 65536) : convN x u64T uintT = x := cv_uu (by simp only [Nat.reducePow]; omega) (by simp only [Nat.reducePow]; omega)
theorem m_q_h {x : Nat} (h : x < 18446744073709551616) : convN x u64T uintT = x % 65536 := (cv_um (by simp only [Nat.reducePow]; omega)).trans rfl
theorem c_q_w {x : Nat} (h : x < 4294967296) : convN x u64T u32T = x := cv_uu (by simp only [Nat.reducePow]; omega) (by simp only [Nat.reducePow]; omega)
theorem m_q_w {x : Nat} (h : x < 18446744073709551616) : convN x u64T u32T = x % 4294967296 := (cv_um (by simp only [Nat.reducePow]; omega)).trans rfl
theorem c_q_q {x : Nat} (h : x < 18446744073709551616) : convN x u64T u64T = x := cv_uu (by simp only [Nat.reducePow]; omega) (by simp only [Nat.reducePow]; omega)
theorem p_q {x : Nat} (h : x < 256) : convN x u64T intT % 256 = x := by rw [c_q_i (by omega)]; omega
theorem b10_q_h {p q : Nat} (h1 : p < 18446744073709551616) (h2 : q < 65536) (h : 0 < q) : binN 10 p q u64T uintT = some (p / q) := bn_quo (c := u64T) rfl (by decide) (cv_uu (by simp only [Nat.reducePow]; omega) (by simp only [Nat.reducePow]; omega)) (cv_uu (by simp only [Nat.reducePow]; omega) (by simp only [Nat.reducePow]; omega)) (fit_q (by omega)) (fit_q (by omega)) h
theorem b11_q_h {p q : Nat} (h1 : p < 18446744073709551616) (h2 : q < 65536) (h : 0 < q) : binN 11 p q u64T uintT = some (p % q) := bn_rem (c := u64T) rfl (by decide) (cv_uu (by simp only [Nat.reducePow]; omega) (by simp only [Nat.reducePow]; omega)) (cv_uu (by simp only [Nat.reducePow]; omega) (by simp only [Nat.reducePow]; omega)) (fit_q (by omega)) (fit_q (by omega)) h
theorem b11_w_h {p q : Nat} (h1 : p < 4294967296) (h2 : q < 65536) (h : 0 < q) : binN 11 p q u32T uintT = some (p % q) := bn_rem (c := u32T) rfl (by decide) (cv_uu (by simp only [Nat.reducePow]; omega) (by simp only [Nat.reducePow]; omega)) (cv_uu (by simp only [Nat.reducePow]; omega) (by simp only [Nat.reducePow]; omega)) (fit_w (by omega)) (fit_w (by omega)) h
theorem b12_i_i_n {p q : Nat} (h1 : p < 32768) (h2 : q < 32768) (h : p + q < 65536) : binN 12 p q intT intT = some (p + q) := (bn_add (c := intT) rfl (by decide) (cv_ii (by omega)) (cv_ii (by omega)) (show p < 2 ^ 16 from by simp only [Nat.reducePow]; omega) (show q < 2 ^ 16 from by simp only [Nat.reducePow]; omega)).trans (congrArg some (Nat.mod_eq_of_lt h))
theorem b12_q_h_n {p q : Nat} (h1 : p < 18446744073709551616) (h2 : q < 65536) (h : p + q < 18446744073709551616) : binN 12 p q u64T uintT = some (p + q) := (bn_add (c := u64T) rfl (by decide) (cv_uu (by simp only [Nat.reducePow]; omega) (by simp only [Nat.reducePow]; omega)) (cv_uu (by simp only [Nat.reducePow]; omega) (by simp only [Nat.reducePow]; omega)) (show p < 2 ^ 64 from by simp only [Nat.reducePow]; omega) (show q < 2 ^ 64 from by simp only [Nat.reducePow]; omega)).trans (congrArg some (Nat.mod_eq_of_lt h))
theorem b12_q_q_w {p q : Nat} (h1 : p < 18446744073709551616) (h2 : q < 18446744073709551616) : binN 12 p q u64T u64T = some ((p + q) % 18446744073709551616) := bn_add (c := u64T) rfl (by decide) (cv_uu (by simp only [Nat.reducePow]; omega) (by simp only [Nat.reducePow]; omega)) (cv_uu (by simp only [Nat.reducePow]; omega) (by simp only [Nat.reducePow]; omega)) (show p < 2 ^ 64 from by simp only [Nat.reducePow]; omega) (show q < 2 ^ 64 from by simp only [Nat.reducePow]; omega)
theorem b12_w_h_n {p q : Nat} (h1 : p < 4294967296) (h2 : q < 65536) (h : p + q < 4294967296) : binN 12 p q u32T uintT = some (p + q) := (bn_add (c := u32T) rfl (by decide) (cv_uu (by simp only [Nat.reducePow]; omega) (by simp only [Nat.reducePow]; omega)) (cv_uu (by simp only [Nat.reducePow]; omega) (by simp only [Nat.reducePow]; omega)) (show p < 2 ^ 32 from by simp only [Nat.reducePow]; omega) (show q < 2 ^ 32 from by simp only [Nat.reducePow]; omega)).trans (congrArg some (Nat.mod_eq_of_lt h))
theorem b12_w_w_n {p q : Nat} (h1 : p < 4294967296) (h2 : q < 4294967296) (h : p + q < 4294967296) : binN 12 p q u32T u32T = some (p + q) := (bn_add (c := u32T) rfl (by decide) (cv_uu (by simp only [Nat.reducePow]; omega) (by simp only [Nat.reducePow]; omega)) (cv_uu (by simp only [Nat.reducePow]; omega) (by simp only [Nat.reducePow]; omega)) (show p < 2 ^ 32 from by simp only [Nat.reducePow]; omega) (show q < 2 ^ 32 from by simp only [Nat.reducePow]; omega)).trans (congrArg some (Nat.mod_eq_of_lt h))
theorem b13_i_i_n {p q : Nat} (h1 : p < 32768) (h2 : q < 32768) (h : q ≤ p) : binN 13 p q intT intT = some (p - q) := (bn_sub (c := intT) rfl (by decide) (cv_ii (by omega)) (cv_ii (by omega)) (show p < 2 ^ 16 from by simp only [Nat.reducePow]; omega) (show q < 2 ^ 16 from by simp only [Nat.reducePow]; omega)).trans (congrArg some (show (p + (65536 - q)) % 65536 = p - q by omega))
theorem b13_i_i_w {p q : Nat} (h1 : p < 32768) (h2 : q < 32768) : binN 13 p q intT intT = some ((p + (65536 - q)) % 65536) := bn_sub (c := intT) rfl (by decide) (cv_ii (by omega)) (cv_ii (by omega)) (show p < 2 ^ 16 from by simp only [Nat.reducePow]; omega) (show q < 2 ^ 16 from by simp only [Nat.reducePow]; omega)
theorem b14_w_i_n {p q : Nat} (h1 : p < 4294967296) (h2 : q < 32768) (h : q ≤ 64) (h3 : p * 2 ^ q < 4294967296) : binN 14 p q u32T intT = some (p * 2 ^ q) := (bn_shl (by decide) (show convN p u32T u32T = p from (cv_uu (by simp only [Nat.reducePow]; omega) (by simp only [Nat.reducePow]; omega))) (cv_ih (by omega)) (show p < 2 ^ 32 from by simp only [Nat.reducePow]; omega) h).trans (congrArg some (Nat.mod_eq_of_lt h3))
theorem b17_i_i_f {p q : Nat} (h1 : p < 32768) (h2 : q < 32768) (h : q < p) : binN 17 p q intT intT = some 0 := by
  refine (bn_le (c := intT) rfl (cv_ii (by omega)) (cv_ii (by omega)) (fit_i (by omega)) (fit_i (by omega))).trans (congrArg some ?_)
  show truthN (!decide (q < p)) = _
  rw [decide_eq_true (show q < p from h)]; rfl
theorem b17_i_i_t {p q : Nat} (h1 : p < 32768) (h2 : q < 32768) (h : p ≤ q) : binN 17 p q intT intT = some 1 := by
  refine (bn_le (c := intT) rfl (cv_ii (by omega)) (cv_ii (by omega)) (fit_i (by omega)) (fit_i (by omega))).trans (congrArg some ?_)
  show truthN (!decide (q < p)) = _
  rw [decide_eq_false (show ¬ q < p by omega)]; rfl
theorem b18_q_h_f {p q : Nat} (h1 : p < 18446744073709551616) (h2 : q < 65536) (h : p ≤ q) : binN 18 p q u64T uintT = some 0 := by
  refine (bn_gt (c := u64T) rfl (cv_uu (by simp only [Nat.reducePow]; omega) (by simp only [Nat.reducePow]; omega)) (cv_uu (by simp only [Nat.reducePow]; omega) (by simp only [Nat.reducePow]; omega)) (fit_q (by omega)) (fit_q (by omega))).trans (congrArg some ?_)
  show truthN (decide (q < p)) = _
  rw [decide_eq_false (show ¬ q < p by omega)]; rfl
theorem b18_q_h_t {p q : Nat} (h1 : p < 18446744073709551616) (h2 : q < 65536) (h : q < p) : binN 18 p q u64T uintT = some 1 := by
  refine (bn_gt (c := u64T) rfl (cv_uu (by simp only [Nat.reducePow]; omega) (by simp only [Nat.reducePow]; omega)) (cv_uu (by simp only [Nat.reducePow]; omega) (by simp only [Nat.reducePow]; omega)) (fit_q (by omega)) (fit_q (by omega))).trans (congrArg some ?_)
  show truthN (decide (q < p)) = _
  rw [decide_eq_true (show q < p from h)]; rfl
theorem b19_i_i_f {p q : Nat} (h1 : p < 32768) (h2 : q < 32768) (h : p < q) : binN 19 p q intT intT = some 0 := by
  refine (bn_ge (c := intT) rfl (cv_ii (by omega)) (cv_ii (by omega)) (fit_i (by omega)) (fit_i (by omega))).trans (congrArg some ?_)
  show truthN (!decide (p < q)) = _
  rw [decide_eq_true (show p < q from h)]; rfl
theorem b19_i_i_t {p q : Nat} (h1 : p < 32768) (h2 : q < 32768) (h : q ≤ p) : binN 19 p q intT intT = some 1 := by
  refine (bn_ge (c := intT) rfl (cv_ii (by omega)) (cv_ii (by omega)) (fit_i (by omega)) (fit_i (by omega))).trans (congrArg some ?_)
  show truthN (!decide (p < q)) = _
  rw [decide_eq_false (show ¬ p < q by omega)]; rfl
theorem b24_w_w {p q : Nat} (h1 : p < 4294967296) (h2 : q < 4294967296) : binN 24 p q u32T u32T = some (p ||| q) := bn_or (c := u32T) rfl (cv_uu (by simp only [Nat.reducePow]; omega) (by simp only [Nat.reducePow]; omega)) (cv_uu (by simp only [Nat.reducePow]; omega) (by simp only [Nat.reducePow]; omega))
theorem b9_q_h_w {p q : Nat} (h1 : p < 18446744073709551616) (h2 : q < 65536) : binN 9 p q u64T uintT = some (p * q % 18446744073709551616) := bn_mul (c := u64T) rfl (by decide) (cv_uu (by simp only [Nat.reducePow]; omega) (by simp only [Nat.reducePow]; omega)) (cv_uu (by simp only [Nat.reducePow]; omega) (by simp only [Nat.reducePow]; omega)) (show p < 2 ^ 64 from by simp only [Nat.reducePow]; omega) (show q < 2 ^ 64 from by simp only [Nat.reducePow]; omega)
end Go.Proofs.YtgmmfjmdpbhjnaaGreat
