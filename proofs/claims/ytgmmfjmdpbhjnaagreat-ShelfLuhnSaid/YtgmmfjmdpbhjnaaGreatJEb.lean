/-
  Texts joined: EvE EvF EvG EvH EvI.
-/
import Derived.Test.YtgmmfjmdpbhjnaaGreatJEa
/-
  The closures of eval: statements.
-/
namespace Go.Proofs.YtgmmfjmdpbhjnaaGreat
open Go.RowKit
variable {Z : Nat → Option Obj} {K K' : Nat → Prop} {w w' : World} {A : Adr} {fb sb : Nat}

/-- what is kept, and the frame -/
def KF (K : Nat → Prop) (fb sb : Nat) : Nat → Prop := fun b => K b ∨ b = fb ∨ b = sb
def Rs.ms : Rs → Ms | .go _ s _ => s | .trap _ s => s
def Rs.wrong (r : Rs) (trap : Int × Nat) : Prop := match r with | .trap k s => trap.1 = k ∧ trap.2 = s.out.length | .go _ _ _ => False

def PostS (A : Adr) (K : Nat → Prop) (fb sb : Nat) (w : World) (r : Rs) (e : Ending) (w' : World) : Prop :=
  Keep K w w' ∧
  ((∃ (h : Nat) (s : Ms) (f : Fr), r = .go h s f ∧ h ≤ 3 ∧ e = .returned (.int .i64 h) ∧ MachAt A (KF K fb sb) w' s ∧ FrAt fb sb w' f) ∨
   (∃ (how : Int) (trap : Int × Nat), e = .returned (.int .i64 (4 : Nat)) ∧ EndAt A w' how trap ∧ (∃ f, FrAt fb sb w' f) ∧ (∀ b, K b → b < w'.heap.size) ∧ ¬ K A.mb ∧
     ((Over A r.ms ∧ (how = 3 ∨ how = 5)) ∨ (how = 2 ∧ r.wrong trap))))

/-- What a statement's closure does. -/
def BehS (A : Adr) (Z : Nat → Option Obj) (g : Nat) (c : Array Value) (run : Ms → Fr → Option Rs) : Prop :=
  ∀ (K : Nat → Prop) (w : World) (s : Ms) (f : Fr) (fb sb : Nat) (r : Rs), Has Z K w → MachAt A (KF K fb sb) w s → FrAt fb sb w f → ¬ K fb → ¬ K sb → run s f = some r →
    Calls Tryz.prog g (#[ptrV A.mb, ptrV fb] ++ c) w (PostS A K fb sb w r)

theorem PostS.ret {r : Rs} {e : Ending} (h : PostS A K fb sb w r e w') : ∃ v : Nat, e = .returned (.int .i64 v) ∧ v ≤ 4 := by
  rcases h with ⟨_, ⟨h, s, f, _, hh, rfl, _⟩ | ⟨how, trap, rfl, _⟩⟩
  · exact ⟨h, rfl, by omega⟩
  · exact ⟨4, rfl, by omega⟩
theorem PostS.after {r : Rs} {e : Ending} {w0 : World} (h : PostS A K fb sb w r e w') (k : Keep K w0 w) : PostS A K fb sb w0 r e w' := ⟨k.trans h.1, h.2⟩
theorem Keep.ofKF (h : Keep (KF K fb sb) w w') : Keep K w w' := h.mono fun _ => .inl
theorem Has.toKF (h : Has Z K w) : Has Z (KF K fb sb) w := h.mono fun _ => .inl

theorem FrAt.below {f : Fr} (h : FrAt fb sb w f) (hb : Below w.heap.size w w') : FrAt fb sb w' f :=
  ⟨(hb.block _ (blk_lt h.fr)).trans h.fr, (hb.block _ (blk_lt h.sl)).trans h.sl, h.ne, h.u, h.r, h.z⟩

/-- An expression of a statement: it goes on, or all is at its end. -/
theorem PostX.onS {r0 : Rx} {r : Rs} {e : Ending} {k : Nat → Ms → Option Rs} {w1 : World} (h : PostX A (KF K fb sb) w r0 e w1) {f : Fr} (hf : FrAt fb sb w f) (hr : Rx.onS (some r0) k = some r)
    (hk : ∀ v s r, k v s = some r → Ms.le s r.ms) :
    (∃ v s, U64 v ∧ e = .returned (.tuple #[.int .u64 (v : Nat), .bool true]) ∧ Keep (KF K fb sb) w w1 ∧ MachAt A (KF K fb sb) w1 s ∧ k v s = some r) ∨
    (∃ u, U64 u ∧ e = .returned (.tuple #[.int .u64 (u : Nat), .bool false]) ∧
      ∀ w2, Below w1.heap.size w1 w2 → PostS A K fb sb w r (.returned (.int .i64 (4 : Nat))) w2) := by
  obtain ⟨hkp, h⟩ := h
  rcases h with ⟨v, s, rfl, hv, rfl, hm⟩ | ⟨u, how, trap, hu, rfl, he, hlt, hmb, hov⟩
  · exact .inl ⟨v, s, hv, rfl, hkp, hm, hr⟩
  · refine .inr ⟨u, hu, rfl, fun w2 hb => ⟨(hkp.below hlt hb).ofKF, .inr ⟨how, trap, rfl, he.below hb, ⟨f, (hf.keep hkp (.inr (.inl rfl)) (.inr (.inr rfl))).below hb⟩, fun b hb' => Nat.lt_of_lt_of_le (hlt b (.inl hb')) hb.size, fun h => hmb (.inl h), ?_⟩⟩⟩
    cases r0 with
    | trap k' s' => cases hr; exact hov
    | val v s' =>
      rcases hov with ⟨ho, hh⟩ | ⟨_, hw⟩
      · exact .inl ⟨ho.le (hk v s' r hr), hh⟩
      · exact hw.elim

/-- A statement counts. -/
theorem stat_beh {d g : Nat} {c : Array Value} {run : Ms → Fr → Option Rs} (h1 : Zc Z d 0 (fnV g c)) (hg : isFn Tryz.prog g) (hb : BehS A Z g c run)
    (hgrow : ∀ s f r, run s f = some r → Ms.le s r.ms) :
    BehS A Z 120 #[ptrV d] (fun s f => run s.tick f) := by
  intro K w s f fb sb r hz hm hf hkf hks e
  have T := tick_ok A s hm
  have H1 := Lib.hid h1
  have HZ := Lib.hid hz
  have HM := Lib.hid hm
  have HF := Lib.hid hf
  have HE := Lib.hid e
  have HB := Lib.hid hb
  have HG := Lib.hid hgrow
  have HG0 := Lib.hid hg
  have Hfb := Lib.hid hkf
  have Hsb := Lib.hid hks
  clear hz hm hf hkf hks h1 hb hgrow e hg
  show Calls _ _ #[ptrV A.mb, ptrV fb, ptrV d] _ _
  unfold ptrV at *
  go_enter Tryz.func120, Tryz.ntmps120
  go_wp2_with fail
  refine T.mono ?_
  rintro e w1 ⟨hk, ⟨ht, rfl, hm1⟩ | ⟨ht, rfl, he, hlt⟩⟩
  · have c1 := (HZ.out.keep hk.ofKF).cell H1.out
    have HK := Lib.hid hk
    have HM1 := Lib.hid hm1
    clear hk hm1 T
    go_wp2_with (with_reducible refine dyn_at ?_; refine wpList_dyn rfl rfl rfl HG0.out ?_)
    refine (HB.out K w1 s.tick f fb sb r (HZ.out.keep HK.out.ofKF) HM1.out (HF.out.keep HK.out (.inr (.inl rfl)) (.inr (.inr rfl))) Hfb.out Hsb.out HE.out).mono ?_
    intro e w2 hp
    obtain ⟨v, rfl, hv⟩ := hp.ret
    have HP := Lib.hid (hp.after HK.out.ofKF)
    clear hp hv c1
    go_wp2_with fail
    refine bodyPost_ret (v := .int .i64 v) (by simp [results, Tryz.results120, go_sem]) rfl HP.out
  · have HHE := Lib.hid he
    have HK := Lib.hid hk
    have HT := Lib.hid ht
    have HL := Lib.hid hlt
    clear he hk T ht hlt
    go_wp2_with fail
    refine bodyPost_ret (v := .int .i64 (4 : Nat)) (by simp [results, Tryz.results120, go_sem]) rfl ⟨HK.out.ofKF, .inr ⟨3, (0, _), rfl, HHE.out, ⟨f, HF.out.keep HK.out (.inr (.inl rfl)) (.inr (.inr rfl))⟩, fun b hb => HL.out b (.inl hb), fun h => HM.out.mb.1 (.inl h), .inl ⟨.inl ?_, .inl rfl⟩⟩⟩
    have h1 := (HG.out _ _ _ HE.out).1
    have h2 := HT.out
    have h3 : s.tick.tk = s.tk + 1 := rfl
    omega

/-- What a closure that stores does. -/
def BehW (A : Adr) (Z : Nat → Option Obj) (g : Nat) (c : Array Value) (upd : Nat → Ms → Fr → Option (Ms × Fr)) : Prop :=
  ∀ (K : Nat → Prop) (w : World) (s : Ms) (f : Fr) (fb sb v : Nat) (r : Ms × Fr), Has Z K w → MachAt A (KF K fb sb) w s → FrAt fb sb w f → ¬ K fb → ¬ K sb → U64 v → upd v s f = some r →
    Calls Tryz.prog g (#[ptrV A.mb, ptrV fb, .int .u64 v] ++ c) w fun e w' => e = .returned (.tuple #[]) ∧ Keep K w w' ∧ MachAt A (KF K fb sb) w' r.1 ∧ FrAt fb sb w' r.2

/-- A number is worked out, and stored. -/
theorem put_beh {d1 d2 g1 g2 : Nat} {c1 c2 : Array Value} {run : Ms → List Nat → Option Rx} {upd : Nat → Ms → Fr → Option (Ms × Fr)} (h1 : Zc Z d1 0 (fnV g1 c1)) (h2 : Zc Z d2 0 (fnV g2 c2))
    (hg1 : isFn Tryz.prog g1) (hg2 : isFn Tryz.prog g2) (hb1 : BehX A Z g1 c1 run) (hb2 : BehW A Z g2 c2 upd) (hgr : ∀ v s f r, upd v s f = some r → Ms.le s r.1) :
    BehS A Z 193 #[ptrV d1, ptrV d2] (fun s f => Rx.onS (run s f.sl) fun v s => match upd v s f with | some r => some (.go 0 r.1 r.2) | none => none) := by
  intro K w s f fb sb r hz hm hf hkf hks e
  obtain ⟨r0, e0, e1⟩ : ∃ r0, run s f.sl = some r0 ∧ Rx.onS (some r0) (fun v s => match upd v s f with | some r => some (.go 0 r.1 r.2) | none => none) = some r := by
    replace e : Rx.onS (run s f.sl) (fun v s => match upd v s f with | some r => some (.go 0 r.1 r.2) | none => none) = some r := e
    cases hq : run s f.sl with
    | none => rw [hq] at e; cases e
    | some r0 => rw [hq] at e; exact ⟨r0, rfl, e⟩
  have C := hb1 (KF K fb sb) w s f fb sb r0 hz.toKF hm hf (.inr (.inl rfl)) (.inr (.inr rfl)) e0
  have z1 := hz.cell h1
  have HZ := Lib.hid hz
  have H2 := Lib.hid h2
  have HE := Lib.hid e1
  have HG1 := Lib.hid hg1
  have HG2 := Lib.hid hg2
  have HB := Lib.hid hb2
  have HGR := Lib.hid hgr
  have HF := Lib.hid hf
  have Hfb := Lib.hid hkf
  have Hsb := Lib.hid hks
  clear hz hm hf hkf hks h1 h2 hb1 hb2 e hg1 hg2 e0 e1 hgr
  show Calls _ _ #[ptrV A.mb, ptrV fb, ptrV d1, ptrV d2] _ _
  unfold ptrV at *
  go_enter Tryz.func193, Tryz.ntmps193
  go_wp2_with (with_reducible refine dyn_at ?_; refine wpList_dyn rfl rfl rfl HG1.out ?_)
  refine C.mono ?_
  intro e w2 hp
  have hon := hp.onS HF.out HE.out (by
    intro v s r h
    cases hq : upd v s f with
    | none => rw [hq] at h; cases h
    | some x => rw [hq] at h; cases h; exact HGR.out _ _ _ _ hq)
  rcases hon with ⟨p, s2, hv, rfl, hkp, hm2, hr⟩ | ⟨u, hu, rfl, hend⟩
  · have z2 := (HZ.out.keep hkp.ofKF).cell H2.out
    obtain ⟨x, hx, hr⟩ : ∃ x, upd p s2 f = some x ∧ r = .go 0 x.1 x.2 := by
      cases hq : upd p s2 f with
      | none => rw [hq] at hr; cases hr
      | some x => rw [hq] at hr; cases hr; exact ⟨x, rfl, rfl⟩
    have C2 := HB.out K w2 s2 f fb sb p x (HZ.out.keep hkp.ofKF) hm2 (HF.out.keep hkp (.inr (.inl rfl)) (.inr (.inr rfl))) Hfb.out Hsb.out hv hx
    have HKP := Lib.hid hkp
    have HR := Lib.hid hr
    clear hp hr hkp hm2 hv C z1 hx
    go_wp2_with (with_reducible refine dyn_at ?_; refine wpList_dyn rfl rfl rfl HG2.out ?_)
    refine C2.mono ?_
    rintro e w3 ⟨rfl, hk3, hm3, hf3⟩
    have HM3 := Lib.hid hm3
    have HK3 := Lib.hid hk3
    have HF3 := Lib.hid hf3
    clear hk3 hm3 hf3 C2 z2
    go_wp2_with fail
    refine bodyPost_ret (v := .int .i64 (0 : Nat)) (by simp [results, Tryz.results193, go_sem]) rfl ⟨HKP.out.ofKF.trans HK3.out, .inl ⟨0, x.1, x.2, HR.out, by omega, rfl, HM3.out, HF3.out⟩⟩
  · have HEND := Lib.hid hend
    clear hp hend C z1
    go_wp2_with fail
    refine bodyPost_ret (v := .int .i64 (4 : Nat)) (by simp [results, Tryz.results193, go_sem]) rfl (HEND.out _ (Below.refl _ _))

end Go.Proofs.YtgmmfjmdpbhjnaaGreat

/-
  The closures of eval: small ones.
-/
namespace Go.Proofs.YtgmmfjmdpbhjnaaGreat
open Go.RowKit
variable {Z : Nat → Option Obj} {K K' : Nat → Prop} {w w' : World} {A : Adr} {fb sb : Nat}

theorem u64s_get {l : List Nat} {i v : Nat} (h : l[i]? = some v) : (u64s l)[i]? = some (.int .u64 v) := by
  simp [u64s, h]
theorem u64s_set (l : List Nat) (i v : Nat) : (u64s l).setIfInBounds i (.int .u64 v) = u64s (l.set i v) := by
  simp [u64s, List.map_set]

/-- A number of the call. -/
theorem loc_beh {pb i : Nat} (h1 : Zc Z pb 2 (.bool true)) (h2 : Zc Z pb 3 (.int .i64 i)) :
    BehX A Z 208 #[ptrV pb] (fun s f => Rx.ofO f[i]? s) := by
  intro K w s f fb sb r hz hm hf hkf hks e
  obtain ⟨v, hv, hr⟩ : ∃ v, f.sl[i]? = some v ∧ r = .val v s := by
    replace e : Rx.ofO f.sl[i]? s = some r := e
    cases hq : f.sl[i]? with
    | none => rw [hq] at e; cases e
    | some v => rw [hq] at e; cases e; exact ⟨v, rfl, rfl⟩
  have hlt : i < f.sl.length := (List.getElem?_eq_some_iff.1 hv).1
  have q1 := hz.cell h1
  have q2 := hz.cell h2
  have q3 : w.cell? ⟨fb, 0, none⟩ = some (.slice (some ⟨sb, 0, none⟩) f.sl.length f.sl.length) := blk_cell hf.fr 0
  have q4 : w.cell? ⟨sb, i, none⟩ = some (.int .u64 v) := by rw [blk_cell hf.sl i]; exact u64s_get hv
  have g1 : decide ((i : Int) < f.sl.length) = true := decide_eq_true (by omega)
  have HM := Lib.hid hm
  have HR := Lib.hid hr
  have HU := Lib.hid (hf.u v (List.mem_of_getElem? hv))
  have hzz := hf.z
  clear hz hm hf hkf hks h1 h2 e hv hr
  show Calls _ _ #[ptrV A.mb, ptrV fb, ptrV pb] _ _
  unfold ptrV at *
  generalize f.sl.length = n at *
  go_enter Tryz.func208, Tryz.ntmps208
  go_wp2_with fail
  go_quiet (fail)
  go_wp2_with fail
  refine bodyPost_ret (v := .tuple #[.int .u64 v, .bool true]) (by simp [results, Tryz.results208, go_sem]) rfl (PostX.val (s := s) HR.out HU.out (Keep.refl K w) HM.out ?_)
  exact ⟨rfl, rfl, rfl, Nat.le_refl _, fun _ _ => rfl⟩

theorem MachAt.frame {s : Ms} (h : MachAt A K w s) {p : Addr} (hp : K p.block) (u : Value) : MachAt A K (w.setCell p u) s := by
  obtain ⟨ov, h1, h2, h3⟩ := h.out
  refine ⟨⟨ov, blk_other h1 _ _ (fun e => h.mb.1 (e ▸ hp)), ownsRow_eq h2 fun k hk => Below.heap_setCell _ _ _ _ (fun e => (h3 k hk).1 (e ▸ hp)), h3⟩, h.mb, h.nd, h.len, fun i b l e e' => ?_, h.tk, h.lim, h.much, h.rd, h.cl,
    fun b hk => by simpa [World.setCell] using h.ks b hk⟩
  obtain ⟨k1, k2, k3⟩ := h.gl i b l e e'
  exact ⟨k1, blk_other k2 _ _ (fun e => k1 (e ▸ hp)), k3⟩
theorem cell_set_ne {b o b' j : Nat} {u : Value} (h : b ≠ b') : (w.setCell ⟨b', j, none⟩ u).cell? ⟨b, o, none⟩ = w.cell? ⟨b, o, none⟩ :=
  World.cell?_of_block (w := w) (w' := w.setCell ⟨b', j, none⟩ u) (a := ⟨b, o, none⟩) (Below.heap_setCell _ _ _ _ h)
theorem cell_set_at {b j : Nat} {u : Value} {c : Array Value} {t : TypeId} (h : w.heap[b]? = some (.cells c t (0, 0))) (hj : j < c.size) : (w.setCell ⟨b, j, none⟩ u).cell? ⟨b, j, none⟩ = some u := by
  rw [blk_cell (blk_set h j u) j]
  simp [hj]

theorem FrAt.setSl {f : Fr} (h : FrAt fb sb w f) (i v : Nat) (hv : U64 v) : FrAt fb sb (w.setCell ⟨sb, i, none⟩ (.int .u64 v)) { f with sl := f.sl.set i v } := by
  refine ⟨?_, ?_, h.ne, ?_, h.r, ?_⟩
  · rw [blk_other h.fr _ _ h.ne]; simp
  · rw [blk_set h.sl, u64s_set]
  · intro x hx
    rcases List.mem_or_eq_of_mem_set hx with hx | rfl
    · exact h.u x hx
    · exact hv
  · simpa using h.z

set_option maxRecDepth 100000 in
/-- A number of the call is stored. -/
theorem setl_beh {pb i : Nat} (h2 : Zc Z pb 3 (.int .i64 i)) :
    BehW A Z 154 #[ptrV pb] (fun v s f => if i < f.sl.length then some (s, { f with sl := f.sl.set i v }) else none) := by
  intro K w s f fb sb v r hz hm hf hkf hks hvu e
  obtain ⟨hlt, hr⟩ : i < f.sl.length ∧ r = (s, { f with sl := f.sl.set i v }) := by
    replace e : (if i < f.sl.length then some (s, ({ f with sl := f.sl.set i v } : Fr)) else none) = some r := e
    split at e
    · cases e; exact ⟨by assumption, rfl⟩
    · cases e
  subst hr
  have q2 := hz.cell h2
  have q3 : w.cell? ⟨fb, 0, none⟩ = some (.slice (some ⟨sb, 0, none⟩) f.sl.length f.sl.length) := blk_cell hf.fr 0
  have q4 : w.cell? ⟨sb, i, none⟩ = some (.int .u64 f.sl[i]) := by rw [blk_cell hf.sl i]; exact u64s_get (List.getElem?_eq_getElem hlt)
  have q5 : w.frozen? ⟨sb, i, none⟩ = false := blk_frozen hf.sl i
  have g1 : decide ((i : Int) < f.sl.length) = true := decide_eq_true (by omega)
  have HM := Lib.hid hm
  have HF := Lib.hid hf
  have HV := Lib.hid hvu
  have HK := Lib.hid (And.intro hkf hks)
  have HN := Lib.hid (show pb ≠ sb ∧ i < f.sl.length from ⟨fun e => by
    obtain ⟨cur, t, fz, e1, _⟩ := h2
    exact hks (e ▸ (hz _ _ e1).1), hlt⟩)
  have hzz := hf.z
  clear hz hm hf hkf hks h2 e hvu
  show Calls _ _ #[ptrV A.mb, ptrV fb, .int .u64 v, ptrV pb] _ _
  unfold ptrV at *
  generalize f.sl[i] = old at *
  generalize hfn : f.sl.length = n at *
  have HFN := Lib.hid hfn
  clear hfn
  go_enter Tryz.func154, Tryz.ntmps154
  go_wp2_with fail
  have hS0 : (w.drew.cell? ⟨pb, 3, none⟩ = some (.int .i64 i) ∧ w.drew.cell? ⟨fb, 0, none⟩ = some (.slice (some ⟨sb, 0, none⟩) n n) ∧ (∃ u, w.drew.cell? ⟨sb, i, none⟩ = some (.int .u64 u)) ∧ w.drew.frozen? ⟨sb, i, none⟩ = false) := ⟨q2, q3, ⟨_, q4⟩, q5⟩
  refine wp_region_G (D := []) (S := fun w' => w'.cell? ⟨pb, 3, none⟩ = some (.int .i64 i) ∧ w'.cell? ⟨fb, 0, none⟩ = some (.slice (some ⟨sb, 0, none⟩) n n) ∧ (∃ u, w'.cell? ⟨sb, i, none⟩ = some (.int .u64 u)) ∧ w'.frozen? ⟨sb, i, none⟩ = false) Tryz.checked.mixed hS0 (fun hS => ?_)
  refine wpAnyG_read (i := 0) (v := ?v0) rfl (by kernel_rfl) (by kernel_rfl) (by kernel_rfl) (by kernel_rfl) (by kernel_rfl) ?q0 ?g0 ?y0 hS ?_  -- move t1
  case y0 => intro w' h; obtain ⟨s1, s2, s3, s4⟩ := h; go_simp; exact rfl
  case g0 => rfl
  case q0 => exact fun _ _ _ h => h
  go_simp
  refine wpAnyG_read (i := 1) (v := ?v1) rfl (by kernel_rfl) (by kernel_rfl) (by kernel_rfl) (by kernel_rfl) (by kernel_rfl) ?q1 ?g1 ?y1 hS ?_  -- nilCheck t7
  case y1 => intro w' h; obtain ⟨s1, s2, s3, s4⟩ := h; go_simp; exact rfl
  case g1 => rfl
  case q1 => exact fun _ _ _ h => h
  go_simp
  refine wpAnyG_read (i := 2) (v := ?v2) rfl (by kernel_rfl) (by kernel_rfl) (by kernel_rfl) (by kernel_rfl) (by kernel_rfl) ?q2 ?g2 ?y2 hS ?_  -- fieldAddr 210 t8 0
  case y2 => intro w' h; obtain ⟨s1, s2, s3, s4⟩ := h; go_simp; exact rfl
  case g2 => rfl
  case q2 => exact fun _ _ _ h => h
  go_simp
  refine wpAnyG_read (i := 3) (v := ?v3) rfl (by kernel_rfl) (by kernel_rfl) (by kernel_rfl) (by kernel_rfl) (by kernel_rfl) ?q3 ?g3 ?y3 hS ?_  -- load 166 t9
  case y3 => intro w' h; obtain ⟨s1, s2, s3, s4⟩ := h; go_simp; exact rfl
  case g3 => rfl
  case q3 => exact fun _ _ _ h => h
  go_simp
  refine wpAnyG_read (i := 4) (v := ?v4) rfl (by kernel_rfl) (by kernel_rfl) (by kernel_rfl) (by kernel_rfl) (by kernel_rfl) ?q4 ?g4 ?y4 hS ?_  -- fieldAddr 154 t3 2
  case y4 => intro w' h; obtain ⟨s1, s2, s3, s4⟩ := h; go_simp; exact rfl
  case g4 => rfl
  case q4 => exact fun _ _ _ h => h
  go_simp
  refine wpAnyG_read (i := 5) (v := ?v5) rfl (by kernel_rfl) (by kernel_rfl) (by kernel_rfl) (by kernel_rfl) (by kernel_rfl) ?q5 ?g5 ?y5 hS ?_  -- load 3 t11
  case y5 => intro w' h; obtain ⟨s1, s2, s3, s4⟩ := h; go_simp; exact rfl
  case g5 => rfl
  case q5 => exact fun _ _ _ h => h
  go_simp
  refine wpAnyG_read (i := 6) (v := ?v6) rfl (by kernel_rfl) (by kernel_rfl) (by kernel_rfl) (by kernel_rfl) (by kernel_rfl) ?q6 ?g6 ?y6 hS ?_  -- move t2
  case y6 => intro w' h; obtain ⟨s1, s2, s3, s4⟩ := h; go_simp; exact rfl
  case g6 => rfl
  case q6 => exact fun _ _ _ h => h
  go_simp
  refine wpAnyG_read (i := 7) (v := ?v7) rfl (by kernel_rfl) (by kernel_rfl) (by kernel_rfl) (by kernel_rfl) (by kernel_rfl) ?q7 ?g7 ?y7 hS ?_  -- indexAddr 166 t10 t12
  case y7 => intro w' h; obtain ⟨s1, s2, s3, s4⟩ := h; go_simp; exact rfl
  case g7 => rfl
  case q7 => exact fun _ _ _ h => h
  go_simp
  refine wpAnyG_one (i := 8) (by kernel_rfl) rfl rfl (fun K hK => ?_)
  have s1 := hS.1
  have s2 := hS.2.1
  have s4 := hS.2.2.2
  refine hS.2.2.1.elim (fun u s3 => ?_)
  clear hS hS0 q3 q4 q5 q2
  go_wp2_with fail
  refine hK _ _ (fun _ => ?_) ?_
  · have hl : i < (u64s f.sl).size := by have := HN.out.2; have e := HFN.out; simpa [u64s, e] using this
    refine ⟨(cell_set_ne HN.out.1).trans s1, (cell_set_ne HF.out.ne).trans s2, ⟨v, cell_set_at (w := w.drew) HF.out.sl hl⟩, blk_frozen (blk_set (w := w.drew) HF.out.sl i _) i⟩
  clear hK
  go_simp
  refine wpAnyG_done (by kernel_rfl) ?_ _
  go_wp2_with fail
  go_end0
  refine ⟨rfl, (Keep.refl _ w).drew.setCell HK.out.2 _, ?_, ?_⟩
  · exact MachAt.frame (w := w.drew) (p := ⟨sb, i, none⟩) (HM.out.below ((Below.refl _ w).drew)) (.inr (.inr rfl)) _
  · have k := FrAt.setSl HF.out i v HV.out
    exact ⟨k.fr, k.sl, k.ne, k.u, k.r, k.z⟩

/-- Nothing is stored. -/
theorem setn_beh : BehW A Z 157 #[] (fun _ s f => some (s, f)) := by
  intro K w s f fb sb v r hz hm hf hkf hks hvu e
  cases e
  have HM := Lib.hid hm
  have HF := Lib.hid hf
  clear hz hm hf hkf hks hvu
  show Calls _ _ #[ptrV A.mb, ptrV fb, .int .u64 v] _ _
  unfold ptrV at *
  go_enter Tryz.func157, Tryz.ntmps157
  go_wp2_with fail
  go_end0
  exact ⟨rfl, Keep.refl _ w, HM.out, HF.out⟩

theorem FrAt.setRes {f : Fr} (h : FrAt fb sb w f) (v : Nat) (hv : U64 v) : FrAt fb sb (w.setCell ⟨fb, 1, none⟩ (.int .u64 v)) { f with res := v } := by
  refine ⟨?_, blk_other h.sl _ _ h.ne.symm, h.ne, h.u, hv, h.z⟩
  rw [blk_set h.fr]; rfl

/-- The result is stored. -/
theorem setr_beh : BehW A Z 159 #[] (fun v s f => some (s, { f with res := v })) := by
  intro K w s f fb sb v r hz hm hf hkf hks hvu e
  cases e
  have q3 : w.cell? ⟨fb, 1, none⟩ = some (.int .u64 f.res) := blk_cell hf.fr 1
  have q4 : w.frozen? ⟨fb, 1, none⟩ = false := blk_frozen hf.fr 1
  have HM := Lib.hid hm
  have HF := Lib.hid hf
  have HV := Lib.hid hvu
  have HK := Lib.hid (And.intro hkf hks)
  clear hz hm hf hkf hks hvu
  show Calls _ _ #[ptrV A.mb, ptrV fb, .int .u64 v] _ _
  unfold ptrV at *
  go_enter Tryz.func159, Tryz.ntmps159
  go_wp2_with fail
  go_end0
  exact ⟨rfl, (Keep.refl _ w).setCell HK.out.1 _, MachAt.frame (p := ⟨fb, 1, none⟩) HM.out (.inr (.inl rfl)) _, FrAt.setRes HF.out v HV.out⟩

theorem PostS.go {r : Rs} {h : Nat} {s : Ms} {f : Fr} (hr : r = .go h s f) (hh : h ≤ 3) (hm : MachAt A (KF K fb sb) w s) (hf : FrAt fb sb w f) : PostS A K fb sb w r (.returned (.int .i64 h)) w :=
  ⟨Keep.refl K w, .inl ⟨h, s, f, hr, hh, rfl, hm, hf⟩⟩

theorem how1_beh : BehS A Z 158 #[] (fun s f => some (.go 1 s f)) := by
  intro K w s f fb sb r hz hm hf hkf hks e
  cases e
  have HM := Lib.hid hm
  have HF := Lib.hid hf
  clear hz hm hf hkf hks
  show Calls _ _ #[ptrV A.mb, ptrV fb] _ _
  unfold ptrV at *
  go_enter Tryz.func158, Tryz.ntmps158
  go_wp2_with fail
  refine bodyPost_ret (v := .int .i64 (1 : Nat)) (by simp [results, Tryz.results158, go_sem]) rfl (PostS.go rfl (by omega) HM.out HF.out)

theorem how2_beh : BehS A Z 161 #[] (fun s f => some (.go 2 s f)) := by
  intro K w s f fb sb r hz hm hf hkf hks e
  cases e
  have HM := Lib.hid hm
  have HF := Lib.hid hf
  clear hz hm hf hkf hks
  show Calls _ _ #[ptrV A.mb, ptrV fb] _ _
  unfold ptrV at *
  go_enter Tryz.func161, Tryz.ntmps161
  go_wp2_with fail
  refine bodyPost_ret (v := .int .i64 (2 : Nat)) (by simp [results, Tryz.results161, go_sem]) rfl (PostS.go rfl (by omega) HM.out HF.out)

theorem how3_beh : BehS A Z 162 #[] (fun s f => some (.go 3 s f)) := by
  intro K w s f fb sb r hz hm hf hkf hks e
  cases e
  have HM := Lib.hid hm
  have HF := Lib.hid hf
  clear hz hm hf hkf hks
  show Calls _ _ #[ptrV A.mb, ptrV fb] _ _
  unfold ptrV at *
  go_enter Tryz.func162, Tryz.ntmps162
  go_wp2_with fail
  refine bodyPost_ret (v := .int .i64 (3 : Nat)) (by simp [results, Tryz.results162, go_sem]) rfl (PostS.go rfl (by omega) HM.out HF.out)

theorem how0_beh : BehS A Z 166 #[] (fun s f => some (.go 0 s f)) := by
  intro K w s f fb sb r hz hm hf hkf hks e
  cases e
  have HM := Lib.hid hm
  have HF := Lib.hid hf
  clear hz hm hf hkf hks
  show Calls _ _ #[ptrV A.mb, ptrV fb] _ _
  unfold ptrV at *
  go_enter Tryz.func166, Tryz.ntmps166
  go_wp2_with fail
  refine bodyPost_ret (v := .int .i64 (0 : Nat)) (by simp [results, Tryz.results166, go_sem]) rfl (PostS.go rfl (by omega) HM.out HF.out)

end Go.Proofs.YtgmmfjmdpbhjnaaGreat

/-
  The closures of eval: rows of statements, loops.
-/
namespace Go.Proofs.YtgmmfjmdpbhjnaaGreat
open Go.RowKit
variable {Z : Nat → Option Obj} {K K' : Nat → Prop} {w w' : World} {A : Adr} {fb sb : Nat}

/-- The first of two statements: it goes on, or all is at its end. -/
theorem PostS.on {r0 r : Rs} {e : Ending} {k : Nat → Ms → Fr → Option Rs} {w1 : World} (h : PostS A K fb sb w r0 e w1) (hr : Rs.on (some r0) k = some r)
    (hk : ∀ h s f r, k h s f = some r → Ms.le s r.ms) :
    (∃ (h : Nat) (s : Ms) (f : Fr), h ≤ 3 ∧ e = .returned (.int .i64 (h : Nat)) ∧ Keep K w w1 ∧ MachAt A (KF K fb sb) w1 s ∧ FrAt fb sb w1 f ∧ k h s f = some r) ∨
    (e = .returned (.int .i64 (4 : Nat)) ∧ ∀ w2, Below w1.heap.size w1 w2 → PostS A K fb sb w r (.returned (.int .i64 (4 : Nat))) w2) := by
  obtain ⟨hkp, h⟩ := h
  rcases h with ⟨h, s, f, rfl, hh, rfl, hm, hf⟩ | ⟨how, trap, rfl, he, ⟨f, hf⟩, hlt, hmb, hov⟩
  · exact .inl ⟨h, s, f, hh, rfl, hkp, hm, hf, hr⟩
  · refine .inr ⟨rfl, fun w2 hb => ⟨hkp.below hlt hb, .inr ⟨how, trap, rfl, he.below hb, ⟨f, hf.below hb⟩, fun b hb' => Nat.lt_of_lt_of_le (hlt b hb') hb.size, hmb, ?_⟩⟩⟩
    cases r0 with
    | trap k' s' => cases hr; exact hov
    | go h' s' f' =>
      rcases hov with ⟨ho, hh⟩ | ⟨_, hw⟩
      · exact .inl ⟨ho.le (hk h' s' f' r hr), hh⟩
      · exact hw.elim

theorem seqS_le {runs : List (Ms → Fr → Option Rs)} (hgr : ∀ x ∈ runs, ∀ s f r, x s f = some r → Ms.le s r.ms) : ∀ {s f r}, seqS runs s f = some r → Ms.le s r.ms := by
  induction runs with
  | nil => intro s f r h; cases h; exact ⟨Nat.le_refl _, Nat.le_refl _⟩
  | cons x l ih =>
    intro s f r h
    simp only [seqS] at h
    cases hx : x s f with
    | none => rw [hx] at h; cases h
    | some r0 =>
      have h0 := hgr x (List.mem_cons_self ..) s f r0 hx
      rw [hx] at h
      cases r0 with
      | trap k s' => cases h; exact h0
      | go k s' f' =>
        simp only [Rs.on] at h
        split at h
        · have h1 := ih (fun y hy => hgr y (List.mem_cons_of_mem _ hy)) h
          exact ⟨Nat.le_trans h0.1 h1.1, Nat.le_trans h0.2 h1.2⟩
        · cases h; exact h0

/-- Statements, one behind the other. -/
theorem block_beh {d cap : Nat} {sa : Option Addr} {runs : List (Ms → Fr → Option Rs)} {G : Nat → Nat} {C : Nat → Array Value}
    (h1 : Zc Z d 0 (.slice sa runs.length cap)) (hn : runs.length ≤ 1000000)
    (hc : ∀ i, i < runs.length → ∃ ab ao, sa = some ⟨ab, ao, none⟩ ∧ Zc Z ab (ao + i) (fnV (G i) (C i)) ∧ isFn Tryz.prog (G i))
    (hb : ∀ i x, runs[i]? = some x → BehS A Z (G i) (C i) x) (hgr : ∀ x ∈ runs, ∀ s f r, x s f = some r → Ms.le s r.ms) :
    BehS A Z 81 #[ptrV d] (seqS runs) := by
  intro K w s f fb sb r hz hm hf hkf hks e
  have c1 := hz.cell h1
  have HZ := Lib.hid hz
  have HM := Lib.hid hm
  have HF := Lib.hid hf
  have HE := Lib.hid e
  have HB := Lib.hid hb
  have HG := Lib.hid hgr
  have HC := Lib.hid hc
  have Hfb := Lib.hid hkf
  have Hsb := Lib.hid hks
  clear hz hm hf hkf hks h1 hb hgr e hc
  show Calls _ _ #[ptrV A.mb, ptrV fb, ptrV d] _ _
  unfold ptrV at *
  generalize hl : runs.length = n at *
  have HL := Lib.hid hl
  clear hl
  go_enter Tryz.func81, Tryz.ntmps81
  go_wp2_with fail
  go_loopw [11] (fun i wr => ∃ (j : Nat) (s1 : Ms) (f1 : Fr), j ≤ n ∧ i = .int .i64 j ∧ Keep K w wr ∧ MachAt A (KF K fb sb) wr s1 ∧ FrAt fb sb wr f1 ∧ seqS (runs.drop j) s1 f1 = some r) (fun i _ => n - (intOf i).toNat)
  case atStart => exact ⟨0, s, f, by omega, rfl, Keep.refl K w, HM.out, HF.out, HE.out⟩
  case round =>
    obtain ⟨j, s1, f1, hj, rfl, hk, hm, hf, he⟩ := hrel
    by_cases hlt : j < n
    · have hls : decide ((j : Int) < n) = true := decide_eq_true (by omega)
      have hjl : j < runs.length := by have := HL.out; omega
      have hx : runs[j]? = some runs[j] := List.getElem?_eq_getElem hjl
      rw [List.drop_eq_getElem_cons hjl] at he
      generalize runs[j] = x at hx he
      have hz2 := HZ.out.keep hk
      obtain ⟨ab, ao, hsa, zz, hgg⟩ := HC.out j (by have := HL.out; omega)
      have z2 := hz2.cell zz
      have HG0 := Lib.hid hgg
      subst hsa
      obtain ⟨r0, e0, e1⟩ : ∃ r0, x s1 f1 = some r0 ∧ Rs.on (some r0) (fun h s f => if h = 0 then seqS (runs.drop (j + 1)) s f else some (.go h s f)) = some r := by
        replace he : Rs.on (x s1 f1) (fun h s f => if h = 0 then seqS (runs.drop (j + 1)) s f else some (.go h s f)) = some r := he
        cases hq : x s1 f1 with
        | none => rw [hq] at he; cases he
        | some r0 => rw [hq] at he; exact ⟨r0, rfl, he⟩
      have C := HB.out j x hx K wr s1 f1 fb sb r0 hz2 hm hf Hfb.out Hsb.out e0
      have HE1 := Lib.hid e1
      have HK := Lib.hid hk
      clear he hx hz2 hk hm hf e0 e1 hjl c1 zz hgg
      unfold ptrV at *
      go_wp2_with (with_reducible refine dyn_at ?_; refine wpList_dyn rfl rfl rfl HG0.out ?_)
      refine C.mono ?_
      intro e w2 hp
      have hon := hp.on HE1.out (by
        intro h s f r hh
        split at hh
        · exact seqS_le (fun y hy => HG.out y (List.mem_of_mem_drop hy)) hh
        · cases hh; exact ⟨Nat.le_refl _, Nat.le_refl _⟩)
      rcases hon with ⟨h, s2, f2, hh, rfl, hkp, hm2, hf2, hr⟩ | ⟨rfl, hend⟩
      · by_cases h0 : h = 0
        · subst h0
          rw [if_pos rfl] at hr
          have HR := Lib.hid (And.intro (HK.out.trans hkp) (And.intro hm2 (And.intro hf2 hr)))
          clear hp hkp hm2 hf2 hr C
          go_wp2_with fail
          go_round
          case rel => exact ⟨j + 1, s2, f2, by omega, by go_num, HR.out.1, HR.out.2.1, HR.out.2.2.1, HR.out.2.2.2⟩
          case measure => simp [intOf]; omega
        · rw [if_neg h0] at hr
          have hne : ((h : Int) == 0) = false := t_ne (by omega)
          have HR := Lib.hid (And.intro (HK.out.trans hkp) (And.intro hm2 (And.intro hf2 hr)))
          clear hp hkp hm2 hf2 hr C
          go_wp2_with fail
          refine bodyPost_ret (v := .int .i64 h) (by simp [results, Tryz.results81, go_sem]) rfl ((PostS.go (by have := HR.out.2.2.2; cases this; rfl) hh HR.out.2.1 HR.out.2.2.1).after HR.out.1)
      · have HEND := Lib.hid hend
        clear hp hend C
        go_wp2_with fail
        refine bodyPost_ret (v := .int .i64 (4 : Nat)) (by simp [results, Tryz.results81, go_sem]) rfl ((HEND.out _ (Below.refl _ _)).after HK.out)
    · have hj' : j = n := by omega
      subst hj'
      have hls : decide ((j : Int) < j) = false := decide_eq_false (by omega)
      rw [List.drop_eq_nil_of_le (by have := HL.out; omega)] at he
      have HR := Lib.hid (And.intro hk (And.intro hm (And.intro hf he)))
      clear hk hm hf he
      go_wp2_with fail
      refine bodyPost_ret (v := .int .i64 (0 : Nat)) (by simp [results, Tryz.results81, go_sem]) rfl ((PostS.go (by have := HR.out.2.2.2; cases this; rfl) (by omega) HR.out.2.1 HR.out.2.2.1).after HR.out.1)

end Go.Proofs.YtgmmfjmdpbhjnaaGreat

/-
  The closures of eval: if, return, the beginning of a loop.
-/
namespace Go.Proofs.YtgmmfjmdpbhjnaaGreat
open Go.RowKit
variable {Z : Nat → Option Obj} {K K' : Nat → Prop} {w w' : World} {A : Adr} {fb sb : Nat}

theorem Rx.onS_some {r : Option Rx} {k : Nat → Ms → Option Rs} {x : Rs} (h : Rx.onS r k = some x) : ∃ r0, r = some r0 ∧ Rx.onS (some r0) k = some x := by
  cases r with
  | none => cases h
  | some r0 => exact ⟨r0, rfl, h⟩
theorem Rs.on_some {r : Option Rs} {k : Nat → Ms → Fr → Option Rs} {x : Rs} (h : Rs.on r k = some x) : ∃ r0, r = some r0 ∧ Rs.on (some r0) k = some x := by
  cases r with
  | none => cases h
  | some r0 => exact ⟨r0, rfl, h⟩
def GrowsS (run : Ms → Fr → Option Rs) : Prop := ∀ s f r, run s f = some r → Ms.le s r.ms

/-- if -/
theorem ite_beh {d1 d2 d3 g1 g2 g3 : Nat} {c1 c2 c3 : Array Value} {rc : Ms → List Nat → Option Rx} {ry rn : Ms → Fr → Option Rs} (h1 : Zc Z d1 0 (fnV g1 c1)) (h2 : Zc Z d2 0 (fnV g2 c2)) (h3 : Zc Z d3 0 (fnV g3 c3))
    (hg1 : isFn Tryz.prog g1) (hg2 : isFn Tryz.prog g2) (hg3 : isFn Tryz.prog g3) (hb1 : BehX A Z g1 c1 rc) (hb2 : BehS A Z g2 c2 ry) (hb3 : BehS A Z g3 c3 rn) (hgy : GrowsS ry) (hgn : GrowsS rn) :
    BehS A Z 163 #[ptrV d1, ptrV d2, ptrV d3] (fun s f => Rx.onS (rc s f.sl) fun v s => if v = 0 then rn s f else ry s f) := by
  intro K w s f fb sb r hz hm hf hkf hks e
  obtain ⟨r0, e0, e1⟩ := Rx.onS_some e
  have C := hb1 (KF K fb sb) w s f fb sb r0 hz.toKF hm hf (.inr (.inl rfl)) (.inr (.inr rfl)) e0
  have z1 := hz.cell h1
  have HZ := Lib.hid hz
  have H := Lib.hid (And.intro h2 h3)
  have HE := Lib.hid e1
  have HG1 := Lib.hid hg1
  have HG2 := Lib.hid hg2
  have HG3 := Lib.hid hg3
  have HB := Lib.hid (And.intro hb2 hb3)
  have HGR := Lib.hid (And.intro hgy hgn)
  have HF := Lib.hid hf
  have Hfb := Lib.hid hkf
  have Hsb := Lib.hid hks
  clear hz hm hf hkf hks h1 h2 h3 hb1 hb2 hb3 e hg1 hg2 hg3 e0 e1 hgy hgn
  show Calls _ _ #[ptrV A.mb, ptrV fb, ptrV d1, ptrV d2, ptrV d3] _ _
  unfold ptrV at *
  go_enter Tryz.func163, Tryz.ntmps163
  go_wp2_with (with_reducible refine dyn_at ?_; refine wpList_dyn rfl rfl rfl HG1.out ?_)
  refine C.mono ?_
  intro e w2 hp
  have hon := hp.onS HF.out HE.out (by
    intro v s r h
    split at h
    · exact HGR.out.2 _ _ _ h
    · exact HGR.out.1 _ _ _ h)
  rcases hon with ⟨p, s2, hv, rfl, hkp, hm2, hr⟩ | ⟨u, hu, rfl, hend⟩
  · have hz2 := HZ.out.keep hkp.ofKF
    by_cases h0 : p = 0
    · rw [if_pos h0] at hr
      subst h0
      have z2 := hz2.cell H.out.2
      have C2 := HB.out.2 K w2 s2 f fb sb r hz2 hm2 (HF.out.keep hkp (.inr (.inl rfl)) (.inr (.inr rfl))) Hfb.out Hsb.out hr
      have HKP := Lib.hid hkp.ofKF
      clear hp hkp hm2 hz2 hv hr C z1
      go_wp2_with (with_reducible refine dyn_at ?_; refine wpList_dyn rfl rfl rfl HG3.out ?_)
      refine C2.mono ?_
      intro e w3 hp
      obtain ⟨v, rfl, hv⟩ := hp.ret
      have HP := Lib.hid (hp.after HKP.out)
      clear hp hv z2 C2
      go_wp2_with fail
      refine bodyPost_ret (v := .int .i64 v) (by simp [results, Tryz.results163, go_sem]) rfl HP.out
    · rw [if_neg h0] at hr
      have hne : ((p : Int) == 0) = false := t_ne (by omega)
      have z2 := hz2.cell H.out.1
      have C2 := HB.out.1 K w2 s2 f fb sb r hz2 hm2 (HF.out.keep hkp (.inr (.inl rfl)) (.inr (.inr rfl))) Hfb.out Hsb.out hr
      have HKP := Lib.hid hkp.ofKF
      clear hp hkp hm2 hz2 hv hr C z1 h0
      go_wp2_with (with_reducible refine dyn_at ?_; refine wpList_dyn rfl rfl rfl HG2.out ?_)
      refine C2.mono ?_
      intro e w3 hp
      obtain ⟨v, rfl, hv⟩ := hp.ret
      have HP := Lib.hid (hp.after HKP.out)
      clear hp hv z2 C2
      go_wp2_with fail
      refine bodyPost_ret (v := .int .i64 v) (by simp [results, Tryz.results163, go_sem]) rfl HP.out
  · have HEND := Lib.hid hend
    clear hp hend C z1
    go_wp2_with fail
    refine bodyPost_ret (v := .int .i64 (4 : Nat)) (by simp [results, Tryz.results163, go_sem]) rfl (HEND.out _ (Below.refl _ _))

/-- return, with a number -/
theorem ret_beh {d g : Nat} {c : Array Value} {run : Ms → Fr → Option Rs} (h1 : Zc Z d 0 (fnV g c)) (hg : isFn Tryz.prog g) (hb : BehS A Z g c run) :
    BehS A Z 160 #[ptrV d] (fun s f => Rs.on (run s f) fun h s f => some (.go (max h 1) s f)) := by
  intro K w s f fb sb r hz hm hf hkf hks e
  obtain ⟨r0, e0, e1⟩ := Rs.on_some e
  have C := hb K w s f fb sb r0 hz hm hf hkf hks e0
  have z1 := hz.cell h1
  have HE := Lib.hid e1
  have HG1 := Lib.hid hg
  clear hz hm hf hkf hks h1 hb e hg e0 e1
  show Calls _ _ #[ptrV A.mb, ptrV fb, ptrV d] _ _
  unfold ptrV at *
  go_enter Tryz.func160, Tryz.ntmps160
  go_wp2_with (with_reducible refine dyn_at ?_; refine wpList_dyn rfl rfl rfl HG1.out ?_)
  refine C.mono ?_
  intro e w2 hp
  have hon := hp.on HE.out (by intro h s f r hh; cases hh; exact ⟨Nat.le_refl _, Nat.le_refl _⟩)
  rcases hon with ⟨h, s2, f2, hh, rfl, hkp, hm2, hf2, hr⟩ | ⟨rfl, hend⟩
  · have HR := Lib.hid (And.intro hkp (And.intro hm2 (And.intro hf2 hr)))
    clear hp hkp hm2 hf2 hr C z1
    have : h = 0 ∨ h = 1 ∨ h = 2 ∨ h = 3 := by omega
    rcases this with rfl | rfl | rfl | rfl
    · go_wp2_with fail
      refine bodyPost_ret (v := .int .i64 (1 : Nat)) (by simp [results, Tryz.results160, go_sem]) rfl ((PostS.go (h := 1) (by have := HR.out.2.2.2; cases this; rfl) (by omega) HR.out.2.1 HR.out.2.2.1).after HR.out.1)
    · go_wp2_with fail
      refine bodyPost_ret (v := .int .i64 (1 : Nat)) (by simp [results, Tryz.results160, go_sem]) rfl ((PostS.go (h := 1) (by have := HR.out.2.2.2; cases this; rfl) (by omega) HR.out.2.1 HR.out.2.2.1).after HR.out.1)
    · go_wp2_with fail
      refine bodyPost_ret (v := .int .i64 (2 : Nat)) (by simp [results, Tryz.results160, go_sem]) rfl ((PostS.go (h := 2) (by have := HR.out.2.2.2; cases this; rfl) (by omega) HR.out.2.1 HR.out.2.2.1).after HR.out.1)
    · go_wp2_with fail
      refine bodyPost_ret (v := .int .i64 (3 : Nat)) (by simp [results, Tryz.results160, go_sem]) rfl ((PostS.go (h := 3) (by have := HR.out.2.2.2; cases this; rfl) (by omega) HR.out.2.1 HR.out.2.2.1).after HR.out.1)
  · have HEND := Lib.hid hend
    clear hp hend C z1
    go_wp2_with fail
    refine bodyPost_ret (v := .int .i64 (4 : Nat)) (by simp [results, Tryz.results160, go_sem]) rfl (HEND.out _ (Below.refl _ _))

/-- a loop's beginning, and the loop -/
theorem for_beh {d1 d2 g1 g2 : Nat} {c1 c2 : Array Value} {ri rl : Ms → Fr → Option Rs} (h1 : Zc Z d1 0 (fnV g1 c1)) (h2 : Zc Z d2 0 (fnV g2 c2))
    (hg1 : isFn Tryz.prog g1) (hg2 : isFn Tryz.prog g2) (hb1 : BehS A Z g1 c1 ri) (hb2 : BehS A Z g2 c2 rl) (hgl : GrowsS rl) :
    BehS A Z 165 #[ptrV d1, ptrV d2] (fun s f => Rs.on (ri s f) fun h s f => if h = 0 then rl s f else some (.go h s f)) := by
  intro K w s f fb sb r hz hm hf hkf hks e
  obtain ⟨r0, e0, e1⟩ := Rs.on_some e
  have C := hb1 K w s f fb sb r0 hz hm hf hkf hks e0
  have z1 := hz.cell h1
  have HZ := Lib.hid hz
  have H := Lib.hid h2
  have HE := Lib.hid e1
  have HG1 := Lib.hid hg1
  have HG2 := Lib.hid hg2
  have HB := Lib.hid hb2
  have HGR := Lib.hid hgl
  have Hfb := Lib.hid hkf
  have Hsb := Lib.hid hks
  clear hz hm hf hkf hks h1 h2 hb1 hb2 e hg1 hg2 e0 e1 hgl
  show Calls _ _ #[ptrV A.mb, ptrV fb, ptrV d1, ptrV d2] _ _
  unfold ptrV at *
  go_enter Tryz.func165, Tryz.ntmps165
  go_wp2_with (with_reducible refine dyn_at ?_; refine wpList_dyn rfl rfl rfl HG1.out ?_)
  refine C.mono ?_
  intro e w2 hp
  have hon := hp.on HE.out (by
    intro h s f r hh
    split at hh
    · exact HGR.out _ _ _ hh
    · cases hh; exact ⟨Nat.le_refl _, Nat.le_refl _⟩)
  rcases hon with ⟨h, s2, f2, hh, rfl, hkp, hm2, hf2, hr⟩ | ⟨rfl, hend⟩
  · by_cases h0 : h = 0
    · subst h0
      rw [if_pos rfl] at hr
      have hz2 := HZ.out.keep hkp
      have z2 := hz2.cell H.out
      have C2 := HB.out K w2 s2 f2 fb sb r hz2 hm2 hf2 Hfb.out Hsb.out hr
      have HKP := Lib.hid hkp
      clear hp hkp hm2 hf2 hz2 hr C z1
      go_wp2_with (with_reducible refine dyn_at ?_; refine wpList_dyn rfl rfl rfl HG2.out ?_)
      refine C2.mono ?_
      intro e w3 hp
      obtain ⟨v, rfl, hv⟩ := hp.ret
      have HP := Lib.hid (hp.after HKP.out)
      clear hp hv z2 C2
      go_wp2_with fail
      refine bodyPost_ret (v := .int .i64 v) (by simp [results, Tryz.results165, go_sem]) rfl HP.out
    · rw [if_neg h0] at hr
      have hne : ((h : Int) == 0) = false := t_ne (by omega)
      have HR := Lib.hid (And.intro hkp (And.intro hm2 (And.intro hf2 hr)))
      clear hp hkp hm2 hf2 hr C z1
      go_wp2_with fail
      refine bodyPost_ret (v := .int .i64 h) (by simp [results, Tryz.results165, go_sem]) rfl ((PostS.go (by have := HR.out.2.2.2; cases this; rfl) hh HR.out.2.1 HR.out.2.2.1).after HR.out.1)
  · have HEND := Lib.hid hend
    clear hp hend C z1
    go_wp2_with fail
    refine bodyPost_ret (v := .int .i64 (4 : Nat)) (by simp [results, Tryz.results165, go_sem]) rfl (HEND.out _ (Below.refl _ _))

end Go.Proofs.YtgmmfjmdpbhjnaaGreat

/-
  The closures of eval: while.
-/
namespace Go.Proofs.YtgmmfjmdpbhjnaaGreat
open Go.RowKit
variable {Z : Nat → Option Obj} {K K' : Nat → Prop} {w w' : World} {A : Adr} {fb sb : Nat}

theorem Ms.le_refl (s : Ms) : Ms.le s s := ⟨Nat.le_refl _, Nat.le_refl _⟩
theorem Ms.le_trans {a b c : Ms} (h : Ms.le a b) (k : Ms.le b c) : Ms.le a c := ⟨Nat.le_trans h.1 k.1, Nat.le_trans h.2 k.2⟩
theorem Ms.le_tick (s : Ms) : Ms.le s s.tick := ⟨Nat.le_succ _, Nat.le_refl _⟩

theorem grow_onS {run : Option Rx} {k : Nat → Ms → Option Rs} {s : Ms} {r : Rs} (h : Rx.onS run k = some r) (h1 : ∀ x, run = some x → Ms.le s x.ms) (h2 : ∀ v s r, k v s = some r → Ms.le s r.ms) : Ms.le s r.ms := by
  obtain ⟨r0, e0, e1⟩ := Rx.onS_some h
  have := h1 _ e0
  cases r0 with
  | trap _ _ => cases e1; exact this
  | val v s' => exact Ms.le_trans this (h2 _ _ _ e1)
theorem grow_on {run : Option Rs} {k : Nat → Ms → Fr → Option Rs} {s : Ms} {r : Rs} (h : Rs.on run k = some r) (h1 : ∀ x, run = some x → Ms.le s x.ms) (h2 : ∀ v s f r, k v s f = some r → Ms.le s r.ms) : Ms.le s r.ms := by
  obtain ⟨r0, e0, e1⟩ := Rs.on_some h
  have := h1 _ e0
  cases r0 with
  | trap _ _ => cases e1; exact this
  | go v s' f' => exact Ms.le_trans this (h2 _ _ _ _ e1)

theorem lpW_le {rc : Ms → List Nat → Option Rx} {rb : Ms → Fr → Option Rs} (hc : ∀ s f r, rc s f = some r → Ms.le s r.ms) (hb : GrowsS rb) : ∀ m {s f r}, lpW rc rb m s f = some r → Ms.le s.tick r.ms
  | 0, _, _, _, h => by cases h
  | m + 1, s, f, r, h => by
    refine grow_onS h (fun x hx => hc _ _ _ hx) fun v s r h => ?_
    split at h
    · cases h; exact Ms.le_refl _
    · refine grow_on h (fun x hx => hb _ _ _ hx) fun v s f r h => ?_
      split at h
      · cases h; exact Ms.le_refl _
      · split at h
        · cases h; exact Ms.le_refl _
        · exact Ms.le_trans (Ms.le_tick _) (lpW_le hc hb m h)

def tkOf (A : Adr) (w : World) : Nat := match w.cell? ⟨A.mb, 4, none⟩ with | some (.int _ q) => q.toNat | _ => 0
theorem MachAt.tkOf {s : Ms} (h : MachAt A K w s) : tkOf A w = s.tk := by
  obtain ⟨ov, h1, _⟩ := h.out
  have : w.cell? ⟨A.mb, 4, none⟩ = some (.int .i64 s.tk) := blk_cell h1 4
  unfold Proofs.YtgmmfjmdpbhjnaaGreat.tkOf
  rw [this]; simp

theorem PostX.tk {r : Rx} {v : Nat} (h : PostX A K w r (.returned (.tuple #[.int .u64 v, .bool true])) w') : r.ms.tk = Proofs.YtgmmfjmdpbhjnaaGreat.tkOf A w' := by
  rcases h with ⟨_, ⟨v, s, rfl, _, _, hm⟩ | ⟨u, how, trap, _, e, _⟩⟩
  · exact hm.tkOf.symm
  · simp at e
theorem PostS.tk {r : Rs} {v : Nat} (h : PostS A K fb sb w r (.returned (.int .i64 v)) w') (hv : v ≤ 3) : r.ms.tk = Proofs.YtgmmfjmdpbhjnaaGreat.tkOf A w' := by
  rcases h with ⟨_, ⟨v, s, f, rfl, _, _, hm, _⟩ | ⟨how, trap, e, _⟩⟩
  · exact hm.tkOf.symm
  · simp at e; omega

theorem neq_nil (g : Nat) (c : Array Value) (W : World) : (binOp BinOp.neq 225 (.func (.func g) #[] c) .nilFunc).run Tryz.prog W = .ok (.bool true) W := by
  kernel_rfl
theorem neq_nils (W : World) : (binOp BinOp.neq 110 .nilFunc .nilFunc).run Tryz.prog W = .ok (.bool false) W := by
  kernel_rfl

set_option maxRecDepth 100000 in
theorem while_beh {d1 d2 d3 g1 g2 : Nat} {c1 c2 : Array Value} {rc : Ms → List Nat → Option Rx} {rb : Ms → Fr → Option Rs} (h1 : Zc Z d1 0 (fnV g1 c1)) (h2 : Zc Z d2 0 (fnV g2 c2)) (h3 : Zc Z d3 0 .nilFunc)
    (hg1 : isFn Tryz.prog g1) (hg2 : isFn Tryz.prog g2) (hb1 : BehX A Z g1 c1 rc) (hb2 : BehS A Z g2 c2 rb) (hgc : ∀ s f r, rc s f = some r → Ms.le s r.ms) (hgb : GrowsS rb) (m : Nat) :
    BehS A Z 201 #[ptrV d1, ptrV d2, ptrV d3] (lpW rc rb m) := by
  intro K w s f fb sb r hz hm hf hkf hks e
  have HZ := Lib.hid hz
  have HM := Lib.hid hm
  have HF := Lib.hid hf
  have HE := Lib.hid e
  have H := Lib.hid (And.intro h1 (And.intro h2 h3))
  have HG1 := Lib.hid hg1
  have HG2 := Lib.hid hg2
  have HB1 := Lib.hid hb1
  have HB2 := Lib.hid hb2
  have HGR := Lib.hid (And.intro hgc hgb)
  have Hfb := Lib.hid hkf
  have Hsb := Lib.hid hks
  clear hz hm hf hkf hks h1 h2 h3 hb1 hb2 e hg1 hg2 hgc hgb
  show Calls _ _ #[ptrV A.mb, ptrV fb, ptrV d1, ptrV d2, ptrV d3] _ _
  unfold ptrV at *
  go_enter Tryz.func201, Tryz.ntmps201
  go_wp2_with fail
  go_loopw [7] (fun _ wr => ∃ (m : Nat) (s1 : Ms) (f1 : Fr), Keep K w wr ∧ MachAt A (KF K fb sb) wr s1 ∧ FrAt fb sb wr f1 ∧ lpW rc rb m s1 f1 = some r) (fun _ wr => A.lim - tkOf A wr)
  case atStart => exact ⟨m, s, f, Keep.refl K w, HM.out, HF.out, HE.out⟩
  case round =>
    obtain ⟨m, s1, f1, hk, hm, hf, he⟩ := hrel
    cases m with
    | zero => cases he
    | succ m =>
    obtain ⟨r0, e0, e1⟩ := Rx.onS_some he
    have T := tick_ok A s1 hm
    have HR := Lib.hid (And.intro hk (And.intro hm (And.intro hf (And.intro e0 e1))))
    have HLE := Lib.hid (lpW_le HGR.out.1 HGR.out.2 _ he)
    clear hk hm hf he e0 e1
    unfold ptrV at T
    go_wp2_with fail
    refine T.mono ?_
    rintro e w1 ⟨hk, ⟨ht, rfl, hm1⟩ | ⟨ht, rfl, he, hlt⟩⟩
    · have hz1 := HZ.out.keep (HR.out.1.trans hk.ofKF)
      have z1 := hz1.cell H.out.1
      have HK := Lib.hid hk
      have C := HB1.out (KF K fb sb) w1 s1.tick f1 fb sb r0 hz1.toKF hm1 (HR.out.2.2.1.keep hk (.inr (.inl rfl)) (.inr (.inr rfl))) (.inr (.inl rfl)) (.inr (.inr rfl)) HR.out.2.2.2.1
      clear hk hm1 T hz1 ht
      unfold ptrV at *
      unfold fnV at z1
      have hn := neq_nil g1 c1
      go_wp2_with (with_reducible refine dyn_at ?_; refine wpList_dyn rfl rfl rfl HG1.out ?_)
      refine C.mono ?_
      intro e w2 hp
      have hon := hp.onS (HR.out.2.2.1.keep HK.out (.inr (.inl rfl)) (.inr (.inr rfl))) HR.out.2.2.2.2 (by
        intro v s r h
        split at h
        · cases h; exact Ms.le_refl _
        · refine grow_on h (fun x hx => HGR.out.2 _ _ _ hx) fun v s f r h => ?_
          split at h
          · cases h; exact Ms.le_refl _
          · split at h
            · cases h; exact Ms.le_refl _
            · exact Ms.le_trans (Ms.le_tick _) (lpW_le HGR.out.1 HGR.out.2 m h))
      rcases hon with ⟨p, s2, hv, rfl, hkp, hm2, hr⟩ | ⟨u, hu, rfl, hend⟩
      · have HK2 := Lib.hid (HK.out.trans hkp)
        by_cases h0 : p = 0
        · rw [if_pos h0] at hr
          subst h0
          have HS := Lib.hid (And.intro hm2 hr)
          clear hp hkp hm2 hv hr C z1 hn
          go_wp2_with fail
          refine bodyPost_ret (v := .int .i64 (0 : Nat)) (by simp [results, Tryz.results201, go_sem]) rfl ((PostS.go (by have := HS.out.2; cases this; rfl) (by omega) HS.out.1 (HR.out.2.2.1.keep HK2.out (.inr (.inl rfl)) (.inr (.inr rfl)))).after (HR.out.1.trans HK2.out.ofKF))
        · rw [if_neg h0] at hr
          have hne : ((p : Int) == 0) = false := t_ne (by omega)
          obtain ⟨r1, e0, e1⟩ := Rs.on_some hr
          have hz2 := HZ.out.keep (HR.out.1.trans HK2.out.ofKF)
          have z2 := hz2.cell H.out.2.1
          have C2 := HB2.out K w2 s2 f1 fb sb r1 hz2 hm2 (HR.out.2.2.1.keep HK2.out (.inr (.inl rfl)) (.inr (.inr rfl))) Hfb.out Hsb.out e0
          have HT2 := Lib.hid (show s1.tk < s2.tk by
            have a1 := hp.tk
            have a2 := hm2.tkOf
            have a3 := (HGR.out.1 _ _ _ HR.out.2.2.2.1).1
            have a4 : s1.tick.tk = s1.tk + 1 := rfl
            omega)
          have HG3 := Lib.hid (HGR.out.2 _ _ _ e0)
          have HE1 := Lib.hid e1
          clear hp hkp hm2 hv hr hz2 e0 e1 C z1 hn h0
          unfold ptrV at C2
          go_wp2_with (with_reducible refine dyn_at ?_; refine wpList_dyn rfl rfl rfl HG2.out ?_)
          refine C2.mono ?_
          intro e w3 hp
          have hon := hp.on HE1.out (by
            intro h s f r hh
            split at hh
            · cases hh; exact Ms.le_refl _
            · split at hh
              · cases hh; exact Ms.le_refl _
              · exact Ms.le_trans (Ms.le_tick _) (lpW_le HGR.out.1 HGR.out.2 m hh))
          rcases hon with ⟨h, s3, f3, hh, rfl, hkp3, hm3, hf3, hr⟩ | ⟨rfl, hend⟩
          · have HS := Lib.hid (And.intro (HR.out.1.trans (HK2.out.ofKF.trans hkp3)) (And.intro hm3 (And.intro hf3 hr)))
            have z3 := (HZ.out.keep (HR.out.1.trans (HK2.out.ofKF.trans hkp3))).cell H.out.2.2
            have HT3 := Lib.hid (show s1.tk < s3.tk by
              have a1 := hp.tk hh
              have a2 := hm3.tkOf
              have a3 := HG3.out.1
              have a4 := HT2.out
              omega)
            have hn3 := neq_nils
            clear hp hkp3 hm3 hf3 hr C2 z2
            have hcase : h = 0 ∨ h = 1 ∨ h = 2 ∨ h = 3 := by omega
            rcases hcase with rfl | rfl | rfl | rfl
            · go_wp2_with fail
              go_round
              case rel => exact ⟨m, s3, f3, HS.out.1, HS.out.2.1, HS.out.2.2.1, HS.out.2.2.2⟩
              case measure =>
                have a1 := HS.out.2.1.tkOf
                have a2 := HR.out.2.1.tkOf
                have a3 := HT3.out
                have a4 := HS.out.2.1.tk
                omega
            · go_wp2_with fail
              refine bodyPost_ret (v := .int .i64 (1 : Nat)) (by simp [results, Tryz.results201, go_sem]) rfl ((PostS.go (by have := HS.out.2.2.2; cases this; rfl) (by omega) HS.out.2.1 HS.out.2.2.1).after HS.out.1)
            · go_wp2_with fail
              refine bodyPost_ret (v := .int .i64 (0 : Nat)) (by simp [results, Tryz.results201, go_sem]) rfl ((PostS.go (by have := HS.out.2.2.2; cases this; rfl) (by omega) HS.out.2.1 HS.out.2.2.1).after HS.out.1)
            · go_wp2_with fail
              go_round
              case rel => exact ⟨m, s3, f3, HS.out.1, HS.out.2.1, HS.out.2.2.1, HS.out.2.2.2⟩
              case measure =>
                have a1 := HS.out.2.1.tkOf
                have a2 := HR.out.2.1.tkOf
                have a3 := HT3.out
                have a4 := HS.out.2.1.tk
                omega
          · have HEND := Lib.hid hend
            clear hp hend C2 z2
            go_wp2_with fail
            refine bodyPost_ret (v := .int .i64 (4 : Nat)) (by simp [results, Tryz.results201, go_sem]) rfl ((HEND.out _ (Below.refl _ _)).after (HR.out.1.trans HK2.out.ofKF))
      · have HEND := Lib.hid hend
        clear hp hend C z1 hn
        go_wp2_with fail
        refine bodyPost_ret (v := .int .i64 (4 : Nat)) (by simp [results, Tryz.results201, go_sem]) rfl ((HEND.out _ (Below.refl _ _)).after (HR.out.1.trans HK.out.ofKF))
    · have HHE := Lib.hid he
      have HK := Lib.hid hk
      have HT := Lib.hid ht
      have HL := Lib.hid hlt
      clear he hk T ht hlt
      go_wp2_with fail
      refine bodyPost_ret (v := .int .i64 (4 : Nat)) (by simp [results, Tryz.results201, go_sem]) rfl ⟨HR.out.1.trans HK.out.ofKF, .inr ⟨3, (0, _), rfl, HHE.out, ⟨f1, HR.out.2.2.1.keep HK.out (.inr (.inl rfl)) (.inr (.inr rfl))⟩, fun b hb => HL.out b (.inl hb), fun h => HM.out.mb.1 (.inl h), .inl ⟨.inl ?_, .inl rfl⟩⟩⟩
      have h1 := HLE.out.1
      have h2 := HT.out
      have h3 : s1.tick.tk = s1.tk + 1 := rfl
      omega

end Go.Proofs.YtgmmfjmdpbhjnaaGreat
