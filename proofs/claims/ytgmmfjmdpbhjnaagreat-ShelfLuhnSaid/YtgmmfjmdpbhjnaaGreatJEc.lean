/-
  Texts joined: EvJ EvL EvM EvN EvK EvQ EvV EvO EvY EvX EvB EvA EvU.
-/
import Derived.Test.YtgmmfjmdpbhjnaaGreatJEb
import Derived.IntWalk
import Derived.Deep.OwnRows
import Derived.Laws.CopyOwn
import Derived.Test.YtgmmfjmdpbhjnaaGreatJEa
/-
  The closures of eval: what comes in.
-/
namespace Go.Proofs.YtgmmfjmdpbhjnaaGreat
open Go.RowKit
variable {Z : Nat → Option Obj} {K K' : Nat → Prop} {w w' : World} {A : Adr} {fb sb : Nat}

/-- what comes in, in blocks that do not turn -/
def InpAt (A : Adr) (Z : Nat → Option Obj) (inp : List Nat) : Prop :=
  inp.length ≤ 65536 ∧ ∃ a c, A.inp = .slice a inp.length c ∧ ∀ (k v : Nat), inp[k]? = some v → v < 256 ∧ ∃ b off, a = some ⟨b, off, none⟩ ∧ Zc Z b (off + k) (.int .u8 v)

theorem get_beh {inp : List Nat} (hi : InpAt A Z inp) :
    BehX A Z 216 #[] (fun s _ => if s.rd = inp.length then some (.val 65535 s) else Rx.ofO inp[s.rd]? { s with rd := s.rd + 1 }) := by
  intro K w s f fb sb r hz hm hf hkf hks e
  replace e : (if s.rd = inp.length then some (.val 65535 s) else Rx.ofO inp[s.rd]? { s with rd := s.rd + 1 }) = some r := e
  obtain ⟨hlen, a, c, hA, hcells⟩ := hi
  obtain ⟨ov, h1, h2, h3⟩ := hm.out
  have c3 : w.cell? ⟨A.mb, 3, none⟩ = some (.int .i64 s.rd) := blk_cell h1 3
  have c7 : w.cell? ⟨A.mb, 7, none⟩ = some (.slice a inp.length c) := by rw [← hA]; exact blk_cell h1 7
  have HM := Lib.hid hm
  show Calls _ _ #[ptrV A.mb, ptrV fb] _ _
  unfold ptrV
  by_cases hr : s.rd = inp.length
  · rw [if_pos hr] at e
    cases e
    have hq : ((s.rd : Int) == (inp.length : Int)) = true := t_eq (by omega)
    clear hz hm hf hkf hks h1 h2 h3 hcells hr hA hlen
    generalize inp.length = n at *
    go_enter Tryz.func216, Tryz.ntmps216
    go_wp2_with fail
    go_quiet (fail)
    go_wp2_with fail
    refine bodyPost_ret (v := .tuple #[.int .u64 (65535 : Nat), .bool true]) (by simp [results, Tryz.results216, go_sem]) rfl (PostX.val (s := s) rfl (by unfold U64; decide) (Keep.refl K w) HM.out ?_)
    exact ⟨rfl, rfl, rfl, Nat.le_refl _, fun _ _ => rfl⟩
  · rw [if_neg hr] at e
    obtain ⟨v, hv, rfl⟩ : ∃ v, inp[s.rd]? = some v ∧ r = .val v { s with rd := s.rd + 1 } := by
      cases hq : inp[s.rd]? with
      | none => rw [hq] at e; cases e
      | some v => rw [hq] at e; cases e; exact ⟨v, rfl, rfl⟩
    obtain ⟨hv256, b, off, rfl, hzc⟩ := hcells _ _ hv
    have hlt : s.rd < inp.length := (List.getElem?_eq_some_iff.1 hv).1
    have hq : ((s.rd : Int) == (inp.length : Int)) = false := t_ne (by omega)
    have hw1 : IntKind.i64.wrap ((s.rd : Int) + 1) = ((s.rd + 1 : Nat) : Int) := by rw [IntWalk.i64_in _ (by omega)]; omega
    have hw2 : IntKind.i64.wrap (((s.rd + 1 : Nat) : Int) - 1) = (s.rd : Int) := by rw [IntWalk.i64_in _ (by omega)]; omega
    have g1 : decide ((s.rd : Int) < inp.length) = true := decide_eq_true (by omega)
    have f3 : w.frozen? ⟨A.mb, 3, none⟩ = false := blk_frozen h1 3
    have hne : b ≠ A.mb := fun e => by
      obtain ⟨cur, t, fz, e1, _⟩ := hzc
      exact hm.mb.1 (e ▸ (hz _ _ e1).1)
    have cv := hz.cell hzc
    have HL := Lib.hid (show s.rd + 1 ≤ 65536 by omega)
    clear hz hm hf hkf hks h1 h2 h3 hcells hr hA hzc e hv
    generalize inp.length = n at *
    go_enter Tryz.func216, Tryz.ntmps216
    go_wp2_with fail
    go_quiet (fail)
    go_wp2_with fail
    go_quiet (fail)
    go_wp2_with fail
    refine bodyPost_ret (v := .tuple #[.int .u64 (v : Nat), .bool true]) (by simp [results, Tryz.results216, go_sem]) rfl
      (PostX.val (s := { s with rd := s.rd + 1 }) rfl (by unfold U64; omega) (((Keep.refl K w).drewN _).setCell (p := ⟨A.mb, 3, none⟩) HM.out.mb.1 _)
        ((HM.out.drewN _).set (s' := { s with rd := s.rd + 1 }) 3 _ (fun ov => ?_) rfl rfl HM.out.tk HL.out HM.out.cl) ⟨rfl, rfl, rfl, Nat.le_refl _, fun _ _ => rfl⟩)
    simp [mCells]

end Go.Proofs.YtgmmfjmdpbhjnaaGreat

/-
  The closures of eval: and, or.
-/
namespace Go.Proofs.YtgmmfjmdpbhjnaaGreat
open Go.RowKit
variable {Z : Nat → Option Obj} {K K' : Nat → Prop} {w w' : World} {A : Adr} {fb sb : Nat}

theorem either_beh {d1 d2 ob g1 g2 : Nat} {c1 c2 : Array Value} {or : Bool} {run1 run2 : Ms → List Nat → Option Rx} (h1 : Zc Z d1 0 (fnV g1 c1)) (h2 : Zc Z d2 0 (fnV g2 c2)) (ho : Zc Z ob 0 (.bool or))
    (hg1 : isFn Tryz.prog g1) (hg2 : isFn Tryz.prog g2) (hb1 : BehX A Z g1 c1 run1) (hb2 : BehX A Z g2 c2 run2) (hgr : Grows run2) :
    BehX A Z 218 #[ptrV d1, ptrV ob, ptrV d2] (fun s f => Rx.on (run1 s f) fun v s =>
      if decide (v = 0) = or then Rx.on (run2 s f) fun v s => some (.val (truthN (decide (v ≠ 0))) s) else some (.val (truthN (decide (v ≠ 0))) s)) := by
  intro K w s f fb sb r hz hm hf hkf hks e
  obtain ⟨r0, e0, e1⟩ := Rx.on_some e
  have C := hb1 K w s f fb sb r0 hz hm hf hkf hks e0
  have z1 := hz.cell h1
  have HZ := Lib.hid hz
  have H := Lib.hid (And.intro h2 ho)
  have HG1 := Lib.hid hg1
  have HG2 := Lib.hid hg2
  have HE := Lib.hid e1
  have HB := Lib.hid hb2
  have HGR := Lib.hid hgr
  have HF := Lib.hid (And.intro hf (And.intro hkf hks))
  clear hz hm hf hkf hks h1 hb1 hb2 e hg1 hg2 e0 h2 ho e1 hgr
  show Calls _ _ #[ptrV A.mb, ptrV fb, ptrV d1, ptrV ob, ptrV d2] _ _
  unfold ptrV at *
  go_enter Tryz.func218, Tryz.ntmps218
  go_wp2_with (with_reducible refine dyn_at ?_; refine wpList_dyn rfl rfl rfl HG1.out ?_)
  refine C.mono ?_
  intro e w2 hp
  have hon := hp.on HE.out (by
    intro v s r h
    split at h
    · obtain ⟨r1, h1, h2⟩ := Rx.on_some h
      have := HGR.out _ _ _ h1
      cases r1 with
      | trap k s' => cases h2; exact this
      | val q s' => cases h2; exact this
    · cases h; exact ⟨Nat.le_refl _, Nat.le_refl _⟩)
  rcases hon with ⟨p, s2, hv, rfl, hkp, hm2, hr⟩ | ⟨u, hu, rfl, hend⟩
  · have zo := (HZ.out.keep hkp).cell H.out.2
    by_cases hp0 : p = 0
    · subst hp0
      cases or with
      | true =>
        rw [if_pos (by simp_all)] at hr
        obtain ⟨r1, e0, e1⟩ := Rx.on_some hr
        have hz2 := HZ.out.keep hkp
        have z2 := hz2.cell H.out.1
        have C2 := HB.out K w2 s2 f fb sb r1 hz2 hm2 (HF.out.1.keep hkp HF.out.2.1 HF.out.2.2) HF.out.2.1 HF.out.2.2 e0
        have HE1 := Lib.hid e1
        have HKP := Lib.hid hkp
        clear hp hr hkp hm2 hv e0 e1 C z1 hz2
        go_wp2_with (with_reducible refine dyn_at ?_; refine wpList_dyn rfl rfl rfl HG2.out ?_)
        refine C2.mono ?_
        intro e w3 hp
        have hon := hp.on HE1.out (by intro v s r h; cases h; exact ⟨Nat.le_refl _, Nat.le_refl _⟩)
        rcases hon with ⟨q, s3, hv, rfl, hkp, hm3, hr⟩ | ⟨u, hu, rfl, hend⟩
        · have HS := Lib.hid (And.intro (HKP.out.trans hkp) (And.intro hm3 hr))
          clear hp hkp hm3 hr hv C2 z2
          by_cases hq0 : q = 0
          · subst hq0
            go_wp2_with fail
            refine bodyPost_ret (v := .tuple #[.int .u64 (0 : Nat), .bool true]) (by simp [results, Tryz.results218, go_sem]) rfl (PostX.val (s := s3) (by have := HS.out.2.2; cases this; rfl) (by unfold U64; decide) HS.out.1 HS.out.2.1 (Below.refl _ _))
          · have hne2 : ((q : Int) == 0) = false := t_ne (by omega)
            go_wp2_with fail
            refine bodyPost_ret (v := .tuple #[.int .u64 (1 : Nat), .bool true]) (by simp [results, Tryz.results218, go_sem]) rfl (PostX.val (s := s3) (by have := HS.out.2.2; cases this; simp [truthN, hq0]) (by unfold U64; decide) HS.out.1 HS.out.2.1 (Below.refl _ _))
        · have HEND := Lib.hid hend
          clear hp hend C2 z2
          by_cases hu0 : u = 0
          · subst hu0
            go_wp2_with fail
            refine bodyPost_ret (v := .tuple #[.int .u64 (0 : Nat), .bool false]) (by simp [results, Tryz.results218, go_sem]) rfl ((HEND.out 0 _ (by unfold U64; decide) (Below.refl _ _)).after HKP.out)
          · have hne : ((u : Int) == 0) = false := t_ne (by omega)
            go_wp2_with fail
            refine bodyPost_ret (v := .tuple #[.int .u64 (1 : Nat), .bool false]) (by simp [results, Tryz.results218, go_sem]) rfl ((HEND.out 1 _ (by unfold U64; decide) (Below.refl _ _)).after HKP.out)
      | false =>
        rw [if_neg (by simp_all)] at hr
        have HS := Lib.hid (And.intro hkp (And.intro hm2 hr))
        clear hp hr hkp hm2 hv C z1
        go_wp2_with fail
        refine bodyPost_ret (v := .tuple #[.int .u64 (0 : Nat), .bool true]) (by simp [results, Tryz.results218, go_sem]) rfl (PostX.val (s := s2) (by have := HS.out.2.2; cases this; simp_all [truthN]) (by unfold U64; decide) HS.out.1 HS.out.2.1 (Below.refl _ _))
    · have hne : ((p : Int) == 0) = false := t_ne (by omega)
      have hne3 : ((p : Int) != 0) = true := by rw [bne, hne]; rfl
      cases or with
      | true =>
        rw [if_neg (by simp_all)] at hr
        have HS := Lib.hid (And.intro hkp (And.intro hm2 hr))
        clear hp hr hkp hm2 hv C z1
        go_wp2_with fail
        refine bodyPost_ret (v := .tuple #[.int .u64 (1 : Nat), .bool true]) (by simp [results, Tryz.results218, go_sem]) rfl (PostX.val (s := s2) (by have := HS.out.2.2; cases this; simp_all [truthN]) (by unfold U64; decide) HS.out.1 HS.out.2.1 (Below.refl _ _))
      | false =>
        rw [if_pos (by simp_all)] at hr
        obtain ⟨r1, e0, e1⟩ := Rx.on_some hr
        have hz2 := HZ.out.keep hkp
        have z2 := hz2.cell H.out.1
        have C2 := HB.out K w2 s2 f fb sb r1 hz2 hm2 (HF.out.1.keep hkp HF.out.2.1 HF.out.2.2) HF.out.2.1 HF.out.2.2 e0
        have HE1 := Lib.hid e1
        have HKP := Lib.hid hkp
        clear hp hr hkp hm2 hv e0 e1 C z1 hz2
        go_wp2_with (with_reducible refine dyn_at ?_; refine wpList_dyn rfl rfl rfl HG2.out ?_)
        refine C2.mono ?_
        intro e w3 hp
        have hon := hp.on HE1.out (by intro v s r h; cases h; exact ⟨Nat.le_refl _, Nat.le_refl _⟩)
        rcases hon with ⟨q, s3, hv, rfl, hkp, hm3, hr⟩ | ⟨u, hu, rfl, hend⟩
        · have HS := Lib.hid (And.intro (HKP.out.trans hkp) (And.intro hm3 hr))
          clear hp hkp hm3 hr hv C2 z2
          by_cases hq0 : q = 0
          · subst hq0
            go_wp2_with fail
            refine bodyPost_ret (v := .tuple #[.int .u64 (0 : Nat), .bool true]) (by simp [results, Tryz.results218, go_sem]) rfl (PostX.val (s := s3) (by have := HS.out.2.2; cases this; rfl) (by unfold U64; decide) HS.out.1 HS.out.2.1 (Below.refl _ _))
          · have hne2 : ((q : Int) == 0) = false := t_ne (by omega)
            go_wp2_with fail
            refine bodyPost_ret (v := .tuple #[.int .u64 (1 : Nat), .bool true]) (by simp [results, Tryz.results218, go_sem]) rfl (PostX.val (s := s3) (by have := HS.out.2.2; cases this; simp [truthN, hq0]) (by unfold U64; decide) HS.out.1 HS.out.2.1 (Below.refl _ _))
        · have HEND := Lib.hid hend
          clear hp hend C2 z2
          by_cases hu0 : u = 0
          · subst hu0
            go_wp2_with fail
            refine bodyPost_ret (v := .tuple #[.int .u64 (0 : Nat), .bool false]) (by simp [results, Tryz.results218, go_sem]) rfl ((HEND.out 0 _ (by unfold U64; decide) (Below.refl _ _)).after HKP.out)
          · have hne : ((u : Int) == 0) = false := t_ne (by omega)
            go_wp2_with fail
            refine bodyPost_ret (v := .tuple #[.int .u64 (1 : Nat), .bool false]) (by simp [results, Tryz.results218, go_sem]) rfl ((HEND.out 1 _ (by unfold U64; decide) (Below.refl _ _)).after HKP.out)
  · have HEND := Lib.hid hend
    clear hp hend C z1
    by_cases hu0 : u = 0
    · subst hu0
      go_wp2_with fail
      refine bodyPost_ret (v := .tuple #[.int .u64 (0 : Nat), .bool false]) (by simp [results, Tryz.results218, go_sem]) rfl ((HEND.out 0 _ (by unfold U64; decide) (Below.refl _ _)))
    · have hne : ((u : Int) == 0) = false := t_ne (by omega)
      go_wp2_with fail
      refine bodyPost_ret (v := .tuple #[.int .u64 (1 : Nat), .bool false]) (by simp [results, Tryz.results218, go_sem]) rfl ((HEND.out 1 _ (by unfold U64; decide) (Below.refl _ _)))

end Go.Proofs.YtgmmfjmdpbhjnaaGreat

/-
  The closures of eval: nought, for what is declared without a number.
-/
namespace Go.Proofs.YtgmmfjmdpbhjnaaGreat
open Go.RowKit
variable {Z : Nat → Option Obj} {K K' : Nat → Prop} {w w' : World} {A : Adr} {fb sb : Nat}

theorem nought_beh : BehX A Z 151 #[] (fun s _ => some (.val 0 s)) := by
  intro K w s f fb sb r hz hm hf hkf hks e
  cases e
  have H := Lib.hid hm
  clear hz hm hf hkf hks
  show Calls _ _ #[ptrV A.mb, ptrV fb] _ _
  unfold ptrV
  go_enter Tryz.func151, Tryz.ntmps151
  go_wp2_with fail
  refine bodyPost_ret (v := .tuple #[.int .u64 (0 : Nat), .bool true]) (by simp [results, Tryz.results151, go_sem]) rfl ⟨Keep.refl K w, .inl ⟨0, s, rfl, by unfold U64; decide, rfl, H.out⟩⟩

end Go.Proofs.YtgmmfjmdpbhjnaaGreat

/-
  A law of append that tells where the new slice lies: where the old one lay, or in a new block.
-/
namespace Go.Proofs.YtgmmfjmdpbhjnaaGreat
open Go.RowKit

theorem ownsRow_ge {w : World} {base : Nat} {e : TypeId} {size : Nat} {v : Value} {n : Nat} {xs : List Value} (h : w.ownsRow base e size v n xs) : ∀ k, v.ownBlock = some k → base ≤ k := by
  intro k hk
  rcases h.2 with ⟨h, _⟩ | ⟨g, cap, cur, rfl, h1, _⟩
  · rw [h] at hk; cases hk
  · cases hk; exact h1

theorem wpList_append_where {P : Program} {w : World} {ops : Array Oper} {rest : List Oper} {o : Oper} {a : Act} {Q : Exit → Act → World → Prop} (hgd : o.guard = none) (s x : Operand) (t : TypeId)
    (ho : o.op = .call { callee := .builtin .append, args := #[s, x], argTypes := #[t, t] })
    (e : TypeId) (i : TypeInfo) (z : Value) (size bytes : Nat) (ht : P.underlying t = some (.slice e)) (hi : P.info? e = some i) (hz : i.zero = some z)
    (hsize : i.size = size) (hby : i.bytes = bytes) (hzs : z.cells.size = size) (hsz : 0 < size)
    (v : Value) (n : Nat) (xs : List Value) (hs : a.eval s = v) (hown : w.ownsRow 0 e size v n xs)
    (ad : Addr) (m c : Nat) (news : List Value) (hx : a.eval x = .slice (some ad) m c) (hl : news.length = m * size) (hnews : ∀ j u, news[j]? = some u → w.cell? (ad.add j) = some u) (h1 : ∀ u ∈ news, u.oneCell' = true)
    (h63 : n + m ≤ maxLen) (hbytes : (n + m) * bytes ≤ 140737488355328)
    (h : ∀ v' w', w'.ownsRow 0 e size v' (n + m) (xs ++ news) → w.grownBy w' v.ownBlock → (∀ k, v'.ownBlock = some k → v.ownBlock = some k ∨ w.heap.size ≤ k) → wpList P ops Q rest (a.put o.dst v') w') : wpList P ops Q (o :: rest) a w := by
  obtain ⟨hlen, ⟨hv, h0⟩ | ⟨g, cap, cur, hv, hg0, hcell, hncap, hmax, hcs, htake⟩⟩ := hown
  · have hown' : w.ownsRow w.heap.size e size v n xs := ⟨hlen, .inl ⟨hv, h0⟩⟩
    exact wpList_append_own w hgd s x t ho w.heap.size e i z size bytes ht hi hz hsize hby hzs hsz v n xs hs hown' ad m c news hx hl hnews h1 h63 hbytes (Nat.le_refl _)
      fun v' w' k1 k2 _ => h v' w' (ownsRow_base k1 (Nat.zero_le _)) k2 fun k hk => .inr (ownsRow_ge k1 k hk)
  · have hown' : w.ownsRow 0 e size (.slice (some ⟨g, 0, none⟩) n cap) n xs := ⟨hlen, .inr ⟨g, cap, cur, rfl, hg0, hcell, hncap, hmax, hcs, htake⟩⟩
    subst hv
    by_cases hc : n + m ≤ cap
    · exact wpList_append_fits w hgd s x t ho 0 e i size ht hi hsize g n cap xs hs hown' ad m c news hx hl hnews h1 hc
        fun w' k1 k2 => h _ w' k1 k2 fun k hk => .inl hk
    · refine wpList_append_grows w hgd s x t ho e i z size bytes ht hi hz hsize hby hzs hsz (some ⟨g, 0, none⟩) n cap xs hs (by simp) hlen ?_ ad m c news hx hl hnews h1 (by omega) h63 hbytes
        fun v' w' k1 k2 => h v' w' (ownsRow_base k1 (Nat.zero_le _)) (grownBy_weaken k2) fun k hk => .inr (ownsRow_ge k1 k hk)
      intro b hb j u hu
      cases hb
      exact World.ownsRow.cells hown' (g := g) rfl j u hu

end Go.Proofs.YtgmmfjmdpbhjnaaGreat

/-
  The closures of eval: put.
-/
namespace Go.Proofs.YtgmmfjmdpbhjnaaGreat
open Go.RowKit
variable {Z : Nat → Option Obj} {K K' : Nat → Prop} {w w' : World} {A : Adr} {fb sb : Nat}

theorem info_u8 : (Tryz.prog.info? 5).map (fun i => (i.zero, i.size, i.bytes)) = some (some (.int .u8 0), 1, 1) := by kernel_rfl

theorem bytes_app (l : List Nat) (v : Nat) : bytes (l ++ [v]) = bytes l ++ [.int .u8 v] := by simp [bytes]

theorem MachAt.app {s2 : Ms} {w2 w3 : World} {ov v' : Value} {x : Nat} {o : Obj} (HM : MachAt A K w2 s2) (H1 : w2.heap[A.mb]? = some (.cells (mCells A 0 0 ov s2.rd s2.tk s2.cl) 95))
    (H3 : ∀ k, ov.ownBlock = some k → ¬ K k ∧ k ≠ A.mb ∧ k ∉ A.gb) (hlt : s2.out.length < 65536) (hown' : w3.ownsRow 0 5 1 v' (s2.out.length + 1) (bytes s2.out ++ [.int .u8 x]))
    (hg : (w2.alloc o).grownBy w3 ov.ownBlock) (hw : ∀ k, v'.ownBlock = some k → ov.ownBlock = some k ∨ w2.heap.size + 1 ≤ k) :
    Keep K w2 (w3.setCell ⟨A.mb, 2, none⟩ v') ∧ MachAt A K (w3.setCell ⟨A.mb, 2, none⟩ v') { s2 with out := s2.out ++ [x] } := by
  have hsz : (w2.alloc o).heap.size = w2.heap.size + 1 := by simp
  have same : ∀ b, b < w2.heap.size → ov.ownBlock ≠ some b → w3.heap[b]? = w2.heap[b]? := fun b hb hne => by
    rw [hg.block b (by omega) (fun e => hne e.symm), Below.heap_alloc _ _ _ hb]
  have hk : Keep K w2 w3 := ⟨hg.os, hg.tape, hg.output, by have := hg.size; omega, fun b hb => same b (HM.ks b hb) fun e => (H3 b e).1 hb⟩
  have m3 : w3.heap[A.mb]? = some (.cells (mCells A 0 0 ov s2.rd s2.tk s2.cl) 95) := (same _ (blk_lt H1) fun e => (H3 _ e).2.1 rfl).trans H1
  have hv : ∀ k, v'.ownBlock = some k → ¬ K k ∧ k ≠ A.mb ∧ k ∉ A.gb := fun k hk' => by
    rcases hw k hk' with h | h
    · exact H3 k h
    · refine ⟨fun hK => ?_, fun e => ?_, fun hm => ?_⟩
      · have := HM.ks k hK; omega
      · have := blk_lt H1; omega
      · obtain ⟨i, hi⟩ := List.getElem?_of_mem hm
        have hi2 : i < s2.gl.length := by rw [← HM.len.1]; exact (List.getElem?_eq_some_iff.1 hi).1
        have := blk_lt (HM.gl i k _ hi (List.getElem?_eq_getElem hi2)).2.1
        omega
  refine ⟨hk.setCell HM.mb.1 _, ⟨v', ?_, ?_, hv⟩, HM.mb, HM.nd, HM.len, fun i b l e e' => ?_, HM.tk, HM.lim, ?_, HM.rd, HM.cl, fun b hb => ?_⟩
  · rw [blk_set m3]; rfl
  · simp only [List.length_append, List.length_cons, List.length_nil, bytes_app]
    exact ownsRow_eq hown' fun k hk' => Below.heap_setCell _ _ _ _ (hv k hk').2.1
  · obtain ⟨k1, k2, k3⟩ := HM.gl i b l e e'
    refine ⟨k1, blk_other ((same b (blk_lt k2) fun e2 => (H3 b e2).2.2 (List.mem_of_getElem? e)).trans k2) _ _ ?_, k3⟩
    rintro rfl
    exact HM.mb.2 (List.mem_of_getElem? e)
  · simp; omega
  · have h1 := HM.ks b hb
    have h2 := hk.size
    simp [World.setCell]; omega

set_option maxRecDepth 100000 in
theorem putc_beh {d g : Nat} {c : Array Value} {run : Ms → List Nat → Option Rx} (h1 : Zc Z d 0 (fnV g c)) (hg : isFn Tryz.prog g) (hb : BehX A Z g c run) :
    BehX A Z 215 #[ptrV d] (fun s f => Rx.on (run s f) fun v s => some (.val 0 { s with out := s.out ++ [v % 256] })) := by
  intro K w s f fb sb r hz hm hf hkf hks e
  obtain ⟨r0, e0, e1⟩ := Rx.on_some e
  have C := hb K w s f fb sb r0 hz hm hf hkf hks e0
  have c1 := hz.cell h1
  have HG0 := Lib.hid hg
  have HE := Lib.hid e1
  have HKM := Lib.hid hm.mb.1
  clear hz hm hf hkf hks h1 hb e hg e0 e1
  show Calls _ _ #[ptrV A.mb, ptrV fb, ptrV d] _ _
  unfold ptrV at *
  go_enter Tryz.func215, Tryz.ntmps215
  go_wp2_with (with_reducible refine dyn_at ?_; refine wpList_dyn rfl rfl rfl HG0.out ?_)
  refine C.mono ?_
  intro e w2 hp
  have hon := hp.on HE.out (by intro v s r h; cases h; exact ⟨Nat.le_refl _, by simp [Rx.ms]⟩)
  rcases hon with ⟨v, s2, hv, rfl, hkp, hm2, hr⟩ | ⟨u, hu, rfl, hend⟩
  · obtain ⟨ov, h1, h2, h3⟩ := hm2.out
    have hmu := hm2.much
    have HM := Lib.hid hm2
    have HK := Lib.hid hkp
    have HR := Lib.hid hr
    have HV := Lib.hid hv
    have q2 : w2.cell? ⟨A.mb, 2, none⟩ = some ov := blk_cell h1 2
    have f2 : w2.frozen? ⟨A.mb, 2, none⟩ = false := blk_frozen h1 2
    have q0 : w2.cell? ⟨A.mb, 0, none⟩ = some (.int .i64 0) := blk_cell h1 0
    have f0 : w2.frozen? ⟨A.mb, 0, none⟩ = false := blk_frozen h1 0
    obtain ⟨a, cp, hov⟩ : ∃ a cp, ov = .slice a s2.out.length cp := by
      rcases h2.2 with ⟨h, h'⟩ | ⟨g, cap, cur, h, _⟩
      · exact ⟨none, 0, by rw [h, h']⟩
      · exact ⟨_, _, h⟩
    have H1 := Lib.hid h1
    have H2 := Lib.hid h2
    have H3 := Lib.hid h3
    clear hp hm2 hkp hr C c1 h1 h2 h3
    by_cases hfull : s2.out.length = 65536
    · have hq : ((s2.out.length : Int) == 65536) = true := t_eq (by omega)
      rw [hov] at q2
      have HFU := Lib.hid hfull
      clear hfull
      go_wp2_with fail
      refine bodyPost_ret (v := .tuple #[.int .u64 (0 : Nat), .bool false]) (by simp [results, Tryz.results215, go_sem]) rfl
        ⟨HK.out.trans ((Keep.refl K w2).setCell HKM.out _), .inr ⟨0, 5, (0, _), by unfold U64; decide, rfl, EndAt.set HM.out 0 _ _ _ fun ov => ⟨s2.rd, s2.tk, s2.cl, rfl⟩, fun b hb => by simpa [World.setCell] using HM.out.ks b hb, HKM.out, .inl ⟨.inr ?_, .inr rfl⟩⟩⟩
      have := HR.out
      cases this
      have := HFU.out
      simp [Rx.ms]; omega
    · have hq : ((s2.out.length : Int) == 65536) = false := t_ne (by omega)
      rw [hov] at q2
      have HFU := Lib.hid hfull
      clear hfull
      obtain ⟨i0, hi, hz0, hz1, hz2⟩ := info_parts info_u8
      have hown := H2.out
      subst hov
      go_wp2_with (at_builtin; refine wpList_append_where rfl (.tmp 34) (.tmp 37) 22 rfl 5 i0 (.int .u8 0) 1 1 Tryz.underlying22 hi hz0 hz1 hz2 rfl (by decide) _ _ _ rfl (World.ownsRow.alloc hown _) ⟨w2.heap.size, 0, none⟩ 1 1 [.int .u8 ((v : Int) % 256)] rfl rfl ?c1 ?c2 ?c3 ?c4 ?_)
      case c1 => exact cell_one_new _ _ _
      case c2 => intro u hu; simp at hu; subst hu; rfl
      case c3 => have := HFU.out; unfold maxLen; omega
      case c4 => omega
      intro v' w3 hown' hgrow hwhere
      obtain ⟨a', cp', rfl⟩ : ∃ a' cp', v' = .slice a' (s2.out.length + 1) cp' := by
        rcases hown'.2 with ⟨h, h'⟩ | ⟨g, cap, cur, h, _⟩
        · omega
        · exact ⟨_, _, h⟩
      have hx : ((v : Int) % 256) = ((v % 256 : Nat) : Int) := by omega
      have KM := MachAt.app (x := v % 256) HM.out H1.out H3.out (by have := HFU.out; omega) (by rw [hx] at hown'; exact hown') hgrow hwhere
      have HKM2 := Lib.hid KM
      have m3 : w3.heap[A.mb]? = some (.cells (mCells A 0 0 (.slice a s2.out.length cp) s2.rd s2.tk s2.cl) 95) :=
        blk_grown (blk_alloc H1.out _) hgrow (fun e => (H3.out _ e.symm).2.1 rfl)
      have q3 : w3.cell? ⟨A.mb, 2, none⟩ = some (.slice a s2.out.length cp) := blk_cell m3 2
      have g3 : w3.frozen? ⟨A.mb, 2, none⟩ = false := blk_frozen m3 2
      clear KM m3 hown' hgrow hwhere hown hx q2 f2 q0 f0
      go_wp2_with fail
      refine bodyPost_ret (v := .tuple #[.int .u64 (0 : Nat), .bool true]) (by simp [results, Tryz.results215, go_sem]) rfl
        (PostX.val (s := { s2 with out := s2.out ++ [v % 256] }) (by have := HR.out; cases this; rfl) (by unfold U64; decide) (HK.out.trans HKM2.out.1) HKM2.out.2 (Below.refl _ _))
  · have HEND := Lib.hid hend
    clear hp hend C c1
    go_wp2_with fail
    refine bodyPost_ret (v := .tuple #[.int .u64 (0 : Nat), .bool false]) (by simp [results, Tryz.results215, go_sem]) rfl (HEND.out 0 _ (by unfold U64; decide) (Below.refl _ _))

end Go.Proofs.YtgmmfjmdpbhjnaaGreat

/-
  A run only grows: ticks, and what is told.
-/
namespace Go.Proofs.YtgmmfjmdpbhjnaaGreat
open Go.RowKit

def Ra.ms : Ra → Ms | .val _ s => s | .trap _ s => s
theorem grow_onX {r : Option Rx} {k : Nat → Ms → Option Rx} {s : Ms} {x : Rx} (h : Rx.on r k = some x) (h1 : ∀ y, r = some y → Ms.le s y.ms) (h2 : ∀ v s' y, k v s' = some y → Ms.le s' y.ms) : Ms.le s x.ms := by
  obtain ⟨r0, e0, e1⟩ := Rx.on_some h
  have := h1 _ e0
  cases r0 with
  | trap _ _ => cases e1; exact this
  | val v s' => exact Ms.le_trans this (h2 _ _ _ e1)
theorem grow_conv {r : Option Rx} {a t : GTy} {s : Ms} {x : Rx} (h : Rx.conv r a t = some x) (h1 : ∀ y, r = some y → Ms.le s y.ms) : Ms.le s x.ms :=
  grow_onX h h1 fun _ _ _ e => by cases e; exact Ms.le_refl _
theorem grow_place {r : Option Rx} {z : Nat} {s : Ms} {x : Rx} (h : Rx.place r z = some x) (h1 : ∀ y, r = some y → Ms.le s y.ms) : Ms.le s x.ms :=
  grow_onX h h1 fun _ _ _ e => by
    split at e
    · cases e; exact Ms.le_refl _
    · cases e; exact Ms.le_refl _
theorem grow_of {o : Option Nat} {s : Ms} {x : Rx} (h : Rx.ofO o s = some x) : Ms.le s x.ms := by
  cases o with
  | none => cases h
  | some v => cases h; exact Ms.le_refl _
theorem grow_A {r : Option Ra} {k : List Nat → Ms → Option Rx} {s : Ms} {x : Rx} (h : Ra.onX r k = some x) (h1 : ∀ y, r = some y → Ms.le s y.ms) (h2 : ∀ v s' y, k v s' = some y → Ms.le s' y.ms) : Ms.le s x.ms := by
  cases r with
  | none => cases h
  | some r0 =>
    have := h1 _ rfl
    cases r0 with
    | trap _ _ => cases h; exact this
    | val v s' => exact Ms.le_trans this (h2 _ _ _ h)
theorem seqA_le : ∀ {runs : List (Ms → List Nat → Option Rx)} (_ : ∀ x ∈ runs, Grows x) {l : List Nat} {s : Ms} {f : List Nat} {r : Ra}, seqA runs l s f = some r → Ms.le s r.ms
  | [], _, _, _, _, _, h => by cases h; exact Ms.le_refl _
  | x :: l, hg, a, s, f, r, h => by
    replace h : Rx.onA (x s f) (fun v s => seqA l (a ++ [v]) s f) = some r := h
    cases hx : x s f with
    | none => rw [hx] at h; cases h
    | some r0 =>
      have h0 := hg x (List.mem_cons_self ..) s f r0 hx
      rw [hx] at h
      cases r0 with
      | trap k s' => cases h; exact h0
      | val v s' => exact Ms.le_trans h0 (seqA_le (fun y hy => hg y (List.mem_cons_of_mem _ hy)) h)
theorem lpS_le {rc : Ms → List Nat → Option Rx} {rb rs : Ms → Fr → Option Rs} (hc : ∀ s f r, rc s f = some r → Ms.le s r.ms) (hb : GrowsS rb) (hs : GrowsS rs) : ∀ m {s f r}, lpS rc rb rs m s f = some r → Ms.le s.tick r.ms
  | 0, _, _, _, h => by cases h
  | m + 1, s, f, r, h => by
    refine grow_onS h (fun x hx => hc _ _ _ hx) fun v s r h => ?_
    split at h
    · cases h; exact Ms.le_refl _
    · refine grow_on h (fun x hx => hb _ _ _ hx) fun v s f r h => ?_
      split at h
      · cases h; exact Ms.le_refl _
      · split at h
        · cases h; exact Ms.le_refl _
        · refine grow_on h (fun x hx => hs _ _ _ hx) fun v s f r h => ?_
          split at h
          · exact Ms.le_trans (Ms.le_tick _) (lpS_le hc hb hs m h)
          · cases h; exact Ms.le_refl _

theorem grows_all (inp : List Nat) (bd : List (List Sm × Nat)) : ∀ n, (∀ e s f r, ev inp bd n e s f = some r → Ms.le s.tick r.ms) ∧ (∀ k l s r, evF inp bd n k l s = some r → Ms.le s r.ms) ∧ (∀ x s f r, exS inp bd n x s f = some r → Ms.le s.tick r.ms)
  | 0 => ⟨fun _ _ _ _ h => (by cases h), fun _ _ _ _ h => (by cases h), fun _ _ _ _ h => (by cases h)⟩
  | n + 1 => by
    obtain ⟨hX, hF, hS⟩ := grows_all inp bd n
    have gX : ∀ e, Grows (ev inp bd n e) := fun e s f r h => Ms.le_trans (Ms.le_tick s) (hX e s f r h)
    have gS : ∀ l : List Sm, GrowsS (seqS (l.map (exS inp bd n))) := fun l s f r h => seqS_le (fun x hx s f r h => by
      obtain ⟨y, _, rfl⟩ := List.mem_map.1 hx
      exact Ms.le_trans (Ms.le_tick s) (hS y s f r h)) h
    refine ⟨fun e s f r h => ?_, fun k l s r h => ?_, fun x s f r h => ?_⟩
    · cases e with
      | num k => cases h; exact Ms.le_refl _
      | loc i => exact grow_of h
      | glob g => exact grow_of h
      | elt g size i a => exact grow_onX h (fun y hy => grow_place hy fun y hy => grow_conv hy fun y hy => gX _ _ _ _ hy) fun v s' y hy => grow_of hy
      | cast x a t => exact grow_conv h fun y hy => gX _ _ _ _ hy
      | un k x t => exact grow_onX h (fun y hy => gX _ _ _ _ hy) fun v s' y hy => by cases hy; exact Ms.le_refl _
      | bin k x y t u =>
        refine grow_onX h (fun y hy => gX _ _ _ _ hy) fun v s' y hy => grow_onX hy (fun y hy => gX _ _ _ _ hy) fun v s' y hy => ?_
        split at hy
        · cases hy; exact Ms.le_refl _
        · cases hy; exact Ms.le_refl _
      | either or x y =>
        refine grow_onX h (fun y hy => gX _ _ _ _ hy) fun v s' y hy => ?_
        split at hy
        · exact grow_onX hy (fun y hy => gX _ _ _ _ hy) fun v s' y hy => by cases hy; exact Ms.le_refl _
        · cases hy; exact Ms.le_refl _
      | put x a => exact grow_onX h (fun y hy => grow_conv hy fun y hy => gX _ _ _ _ hy) fun v s' y hy => by cases hy; exact ⟨Nat.le_refl _, by simp [Rx.ms]⟩
      | get =>
        replace h : (if s.rd = inp.length then some (.val 65535 s.tick) else Rx.ofO inp[s.rd]? { s.tick with rd := s.rd + 1 }) = some r := h
        split at h
        · cases h; exact Ms.le_refl _
        · have k := grow_of h
          exact ⟨k.1, k.2⟩
      | call k l =>
        refine grow_A h (fun y hy => seqA_le (fun x hx => ?_) hy) fun v s' y hy => hF _ _ _ _ hy
        obtain ⟨z, _, rfl⟩ := List.mem_map.1 hx
        exact fun s f r h => grow_conv h fun y hy => gX _ _ _ _ hy
    · replace h : (match bd[k]? with
        | none => none
        | some (b, z) =>
          if s.cl = 60 then some (.trap 3 s)
          else match seqS (b.map (exS inp bd n)) { s with cl := s.cl + 1 } ⟨(l ++ List.replicate z 0).take z, 0⟩ with
          | some (.go _ s2 f) => if s2.cl = s.cl + 1 then some (.val f.res { s2 with cl := s.cl }) else none
          | some (.trap k s) => some (.trap k s)
          | none => none) = some r := h
      split at h
      · cases h
      · split at h
        · cases h; exact Ms.le_refl _
        · split at h
          · rename_i hq
            split at h
            · cases h; exact gS _ _ _ _ hq
            · cases h
          · rename_i hq; cases h; exact gS _ _ _ _ hq
          · cases h
    · cases x with
      | setz i =>
        replace h : (if i < f.sl.length then some (Rs.go 0 s.tick { f with sl := f.sl.set i 0 }) else none) = some r := h
        split at h
        · cases h; exact Ms.le_refl _
        · cases h
      | setl i x a t =>
        refine grow_onS h (fun y hy => grow_conv hy fun y hy => gX _ _ _ _ hy) fun v s' y hy => ?_
        split at hy
        · cases hy; exact Ms.le_refl _
        · cases hy
      | setg g x a t => exact grow_onS h (fun y hy => grow_conv hy fun y hy => gX _ _ _ _ hy) fun v s' y hy => by cases hy; exact Ms.le_refl _
      | seta g size i b x a t =>
        exact grow_onS h (fun y hy => grow_place hy fun y hy => grow_conv hy fun y hy => gX _ _ _ _ hy) fun v s' y hy =>
          grow_onS hy (fun y hy => grow_conv hy fun y hy => gX _ _ _ _ hy) fun v s' y hy => by cases hy; exact Ms.le_refl _
      | ex x => exact grow_onS h (fun y hy => gX _ _ _ _ hy) fun v s' y hy => by cases hy; exact Ms.le_refl _
      | ret0 => cases h; exact Ms.le_refl _
      | ret x a t => exact grow_onS h (fun y hy => grow_conv hy fun y hy => gX _ _ _ _ hy) fun v s' y hy => by cases hy; exact Ms.le_refl _
      | brk => cases h; exact Ms.le_refl _
      | cont => cases h; exact Ms.le_refl _
      | ite x l r' =>
        refine grow_onS h (fun y hy => gX _ _ _ _ hy) fun v s' y hy => ?_
        split at hy
        · exact gS _ _ _ _ hy
        · exact gS _ _ _ _ hy
      | whl x l => exact Ms.le_trans (Ms.le_tick _) (lpW_le (gX x) (gS l) n h)
      | «for» i x l r' =>
        refine grow_on h (fun y hy => gS _ _ _ _ hy) fun v s' f' y hy => ?_
        split at hy
        · refine Ms.le_trans (Ms.le_tick _) (lpS_le ?_ (gS l) (gS r') n hy)
          cases x with
          | none => exact fun s f r h => by cases h; exact Ms.le_refl _
          | some x => exact gX x
        · cases hy; exact Ms.le_refl _
      | blk l => exact gS _ _ _ _ h

theorem ev_grows (inp : List Nat) (bd : List (List Sm × Nat)) (n : Nat) (e : Ex) : Grows (ev inp bd n e) := fun s f r h => Ms.le_trans (Ms.le_tick s) ((grows_all inp bd n).1 e s f r h)
theorem exS_grows (inp : List Nat) (bd : List (List Sm × Nat)) (n : Nat) (x : Sm) : GrowsS (exS inp bd n x) := fun s f r h => Ms.le_trans (Ms.le_tick s) ((grows_all inp bd n).2.2 x s f r h)
theorem exL_grows (inp : List Nat) (bd : List (List Sm × Nat)) (n : Nat) (l : List Sm) : GrowsS (seqS (l.map (exS inp bd n))) := fun s f r h => seqS_le (fun x hx => by
  obtain ⟨y, _, rfl⟩ := List.mem_map.1 hx
  exact exS_grows inp bd n y) h
end Go.Proofs.YtgmmfjmdpbhjnaaGreat

/-
  The closures of eval: a number of the call is given anew.
-/
namespace Go.Proofs.YtgmmfjmdpbhjnaaGreat
open Go.RowKit
variable {Z : Nat → Option Obj} {K K' : Nat → Prop} {w w' : World} {A : Adr} {fb sb : Nat}

set_option maxRecDepth 100000 in
/-- A number of the call is given anew. -/
theorem setc_beh {pb i : Nat} (h1 : Zc Z pb 2 (.bool true)) (h2 : Zc Z pb 3 (.int .i64 i)) :
    BehW A Z 195 #[ptrV pb] (fun v s f => if i < f.sl.length then some (s, { f with sl := f.sl.set i v }) else none) := by
  intro K w s f fb sb v r hz hm hf hkf hks hvu e
  obtain ⟨hlt, hr⟩ : i < f.sl.length ∧ r = (s, { f with sl := f.sl.set i v }) := by
    replace e : (if i < f.sl.length then some (s, ({ f with sl := f.sl.set i v } : Fr)) else none) = some r := e
    split at e
    · cases e; exact ⟨by assumption, rfl⟩
    · cases e
  subst hr
  have q1 := hz.cell h1
  have q2 := hz.cell h2
  have q3 : w.cell? ⟨fb, 0, none⟩ = some (.slice (some ⟨sb, 0, none⟩) f.sl.length f.sl.length) := blk_cell hf.fr 0
  have q4 : w.cell? ⟨sb, i, none⟩ = some (.int .u64 f.sl[i]) := by rw [blk_cell hf.sl i]; exact u64s_get (List.getElem?_eq_getElem hlt)
  have q5 : w.frozen? ⟨sb, i, none⟩ = false := blk_frozen hf.sl i
  have g1 : decide ((i : Int) < f.sl.length) = true := decide_eq_true (by omega)
  have HM := Lib.hid hm
  have HF := Lib.hid hf
  have HV := Lib.hid hvu
  have HK := Lib.hid (And.intro hkf hks)
  have HN := Lib.hid (show pb ≠ sb ∧ i < f.sl.length from ⟨fun e => by
    obtain ⟨cur, t, fz, e1, _⟩ := h2
    exact hks (e ▸ (hz _ _ e1).1), hlt⟩)
  have hzz := hf.z
  clear hz hm hf hkf hks h1 h2 e hvu
  show Calls _ _ #[ptrV A.mb, ptrV fb, .int .u64 v, ptrV pb] _ _
  unfold ptrV at *
  generalize f.sl[i] = old at *
  generalize hfn : f.sl.length = n at *
  have HFN := Lib.hid hfn
  clear hfn
  go_enter Tryz.func195, Tryz.ntmps195
  go_wp2_with fail
  have hS0 : (w.drew.cell? ⟨pb, 3, none⟩ = some (.int .i64 i) ∧ w.drew.cell? ⟨fb, 0, none⟩ = some (.slice (some ⟨sb, 0, none⟩) n n) ∧ (∃ u, w.drew.cell? ⟨sb, i, none⟩ = some (.int .u64 u)) ∧ w.drew.frozen? ⟨sb, i, none⟩ = false) := ⟨q2, q3, ⟨_, q4⟩, q5⟩
  refine wp_region_G (D := []) (S := fun w' => w'.cell? ⟨pb, 3, none⟩ = some (.int .i64 i) ∧ w'.cell? ⟨fb, 0, none⟩ = some (.slice (some ⟨sb, 0, none⟩) n n) ∧ (∃ u, w'.cell? ⟨sb, i, none⟩ = some (.int .u64 u)) ∧ w'.frozen? ⟨sb, i, none⟩ = false) Tryz.checked.mixed hS0 (fun hS => ?_)
  refine wpAnyG_read (i := 0) (v := ?v0) rfl (by kernel_rfl) (by kernel_rfl) (by kernel_rfl) (by kernel_rfl) (by kernel_rfl) ?q0 ?g0 ?y0 hS ?_  -- move t1
  case y0 => intro w' h; obtain ⟨s1, s2, s3, s4⟩ := h; go_simp; exact rfl
  case g0 => rfl
  case q0 => exact fun _ _ _ h => h
  go_simp
  refine wpAnyG_read (i := 1) (v := ?v1) rfl (by kernel_rfl) (by kernel_rfl) (by kernel_rfl) (by kernel_rfl) (by kernel_rfl) ?q1 ?g1 ?y1 hS ?_  -- nilCheck t7
  case y1 => intro w' h; obtain ⟨s1, s2, s3, s4⟩ := h; go_simp; exact rfl
  case g1 => rfl
  case q1 => exact fun _ _ _ h => h
  go_simp
  refine wpAnyG_read (i := 2) (v := ?v2) rfl (by kernel_rfl) (by kernel_rfl) (by kernel_rfl) (by kernel_rfl) (by kernel_rfl) ?q2 ?g2 ?y2 hS ?_  -- fieldAddr 210 t8 0
  case y2 => intro w' h; obtain ⟨s1, s2, s3, s4⟩ := h; go_simp; exact rfl
  case g2 => rfl
  case q2 => exact fun _ _ _ h => h
  go_simp
  refine wpAnyG_read (i := 3) (v := ?v3) rfl (by kernel_rfl) (by kernel_rfl) (by kernel_rfl) (by kernel_rfl) (by kernel_rfl) ?q3 ?g3 ?y3 hS ?_  -- load 166 t9
  case y3 => intro w' h; obtain ⟨s1, s2, s3, s4⟩ := h; go_simp; exact rfl
  case g3 => rfl
  case q3 => exact fun _ _ _ h => h
  go_simp
  refine wpAnyG_read (i := 4) (v := ?v4) rfl (by kernel_rfl) (by kernel_rfl) (by kernel_rfl) (by kernel_rfl) (by kernel_rfl) ?q4 ?g4 ?y4 hS ?_  -- fieldAddr 154 t3 2
  case y4 => intro w' h; obtain ⟨s1, s2, s3, s4⟩ := h; go_simp; exact rfl
  case g4 => rfl
  case q4 => exact fun _ _ _ h => h
  go_simp
  refine wpAnyG_read (i := 5) (v := ?v5) rfl (by kernel_rfl) (by kernel_rfl) (by kernel_rfl) (by kernel_rfl) (by kernel_rfl) ?q5 ?g5 ?y5 hS ?_  -- load 3 t11
  case y5 => intro w' h; obtain ⟨s1, s2, s3, s4⟩ := h; go_simp; exact rfl
  case g5 => rfl
  case q5 => exact fun _ _ _ h => h
  go_simp
  refine wpAnyG_read (i := 6) (v := ?v6) rfl (by kernel_rfl) (by kernel_rfl) (by kernel_rfl) (by kernel_rfl) (by kernel_rfl) ?q6 ?g6 ?y6 hS ?_  -- move t2
  case y6 => intro w' h; obtain ⟨s1, s2, s3, s4⟩ := h; go_simp; exact rfl
  case g6 => rfl
  case q6 => exact fun _ _ _ h => h
  go_simp
  refine wpAnyG_read (i := 7) (v := ?v7) rfl (by kernel_rfl) (by kernel_rfl) (by kernel_rfl) (by kernel_rfl) (by kernel_rfl) ?q7 ?g7 ?y7 hS ?_  -- indexAddr 166 t10 t12
  case y7 => intro w' h; obtain ⟨s1, s2, s3, s4⟩ := h; go_simp; exact rfl
  case g7 => rfl
  case q7 => exact fun _ _ _ h => h
  go_simp
  refine wpAnyG_one (i := 8) (by kernel_rfl) rfl rfl (fun K hK => ?_)
  have s1 := hS.1
  have s2 := hS.2.1
  have s4 := hS.2.2.2
  refine hS.2.2.1.elim (fun u s3 => ?_)
  clear hS hS0 q3 q4 q5 q2 q1
  go_wp2_with fail
  refine hK _ _ (fun _ => ?_) ?_
  · have hl : i < (u64s f.sl).size := by have := HN.out.2; have e := HFN.out; simpa [u64s, e] using this
    refine ⟨(cell_set_ne HN.out.1).trans s1, (cell_set_ne HF.out.ne).trans s2, ⟨v, cell_set_at (w := w.drew) HF.out.sl hl⟩, blk_frozen (blk_set (w := w.drew) HF.out.sl i _) i⟩
  clear hK
  go_simp
  refine wpAnyG_done (by kernel_rfl) ?_ _
  go_wp2_with fail
  go_end0
  refine ⟨rfl, (Keep.refl _ w).drew.setCell HK.out.2 _, ?_, ?_⟩
  · exact MachAt.frame (w := w.drew) (p := ⟨sb, i, none⟩) (HM.out.below ((Below.refl _ w).drew)) (.inr (.inr rfl)) _
  · have k := FrAt.setSl HF.out i v HV.out
    exact ⟨k.fr, k.sl, k.ne, k.u, k.r, k.z⟩

end Go.Proofs.YtgmmfjmdpbhjnaaGreat

/-
  A function of the program is called: machine.run.
-/
namespace Go.Proofs.YtgmmfjmdpbhjnaaGreat
open Go.RowKit
variable {Z : Nat → Option Obj} {K K' : Nat → Prop} {w w' : World} {A : Adr} {fb sb : Nat}

theorem MachAt.mono {s : Ms} (h : MachAt A K w s) (hk : ∀ b, K' b → K b) : MachAt A K' w s := by
  obtain ⟨ov, h1, h2, h3⟩ := h.out
  exact ⟨⟨ov, h1, h2, fun k e => ⟨fun q => (h3 k e).1 (hk k q), (h3 k e).2⟩⟩, ⟨fun q => h.mb.1 (hk _ q), h.mb.2⟩, h.nd, h.len, fun i b l e e' => ⟨fun q => (h.gl i b l e e').1 (hk _ q), (h.gl i b l e e').2⟩,
    h.tk, h.lim, h.much, h.rd, h.cl, fun b q => h.ks b (hk b q)⟩

/-- a function's body and how many slots it has -/
def BodyAt (A : Adr) (Z : Nat → Option Obj) (k z g : Nat) (c : Array Value) : Prop :=
  ∃ fb fo fl fc bb bo bl bc, A.frs = .slice (some ⟨fb, fo, none⟩) fl fc ∧ A.bods = .slice (some ⟨bb, bo, none⟩) bl bc ∧ k < fl ∧ k < bl ∧ fl ≤ 1000000 ∧ bl ≤ 1000000 ∧ Zc Z fb (fo + k) (.int .i64 z) ∧ Zc Z bb (bo + k) (fnV g c)
/-- arguments in a slice -/
def ArgsAt (A : Adr) (w : World) (av : Value) (l : List Nat) : Prop :=
  l.length ≤ 1000000 ∧ (∀ v ∈ l, U64 v) ∧ ∃ a c, av = .slice a l.length c ∧ (0 < l.length → ∃ b o, a = some ⟨b, o, none⟩ ∧ b ≠ A.mb ∧ b < w.heap.size ∧ ∀ (i v : Nat), l[i]? = some v → w.cell? ⟨b, o + i, none⟩ = some (.int .u64 v))
/-- What a call of a function does. -/
def BehF (A : Adr) (Z : Nat → Option Obj) (k : Nat) (run : List Nat → Ms → Option Rx) : Prop :=
  ∀ (K : Nat → Prop) (w : World) (s : Ms) (l : List Nat) (av : Value) (r : Rx), Has Z K w → MachAt A K w s → ArgsAt A w av l → run l s = some r →
    Calls Tryz.prog 50 #[ptrV A.mb, .int .i64 k, av] w (PostX A K w r)

def runF (z : Nat) (rb : Ms → Fr → Option Rs) (l : List Nat) (s : Ms) : Option Rx :=
  if s.cl = 60 then some (.trap 3 s)
  else match rb { s with cl := s.cl + 1 } ⟨(l ++ List.replicate z 0).take z, 0⟩ with
    | some (.go _ s2 f) => if s2.cl = s.cl + 1 then some (.val f.res { s2 with cl := s.cl }) else none
    | some (.trap k s) => some (.trap k s)
    | none => none

theorem alloc_sz (w : World) (o : Obj) : (w.alloc o).heap.size = w.heap.size + 1 := Array.size_push _
/-- Stands still at a copy. -/
theorem copy_at {P : Program} {ops : Array Oper} {rest : List Oper} {a : Act} {w : World} {Q : Exit → Act → World → Prop} {xs : Array Operand} {ts : Array TypeId} {d : Option Tmp} {ty : TypeId} {pos : String} {after : Array Edge} {g : Option (Nat × Bool)}
    (h : wpList P ops Q (⟨d, .call ⟨.builtin .copy, xs, ts⟩, ty, pos, after, g⟩ :: rest) a w) : wpList P ops Q (⟨d, .call ⟨.builtin .copy, xs, ts⟩, ty, pos, after, g⟩ :: rest) a w := h
/-- A copy into a row that is known whole: the rest of the world is as it was. -/
theorem wpList_copy_all {P : Program} {w : World} {ops : Array Oper} {rest : List Oper} {o : Oper} {a : Act} {Q : Exit → Act → World → Prop} (hgd : o.guard = none) (d s : Operand) (dT sT : TypeId)
    (ho : o.op = .call { callee := .builtin .copy, args := #[d, s], argTypes := #[dT, sT] }) (elem : TypeId) (hu : P.underlying dT = some (.slice elem)) (hsz : (P.info? elem).map (·.size) = some 1)
    (dp sp : Option Addr) (dLen dCap sLen sCap : Nat) (hd : a.eval d = .slice dp dLen dCap) (hs : a.eval s = .slice sp sLen sCap)
    (g off : Nat) (cur : List Value) (t : TypeId) (hg : w.heap[g]? = some (.cells cur.toArray t (0, 0))) (cs : List Value) (hn : cs.length = Nat.min sLen dLen)
    (hpos : 0 < cs.length → dp = some ⟨g, off, none⟩ ∧ ∃ ad, sp = some ad ∧ ∀ j v, cs[j]? = some v → w.cell? (ad.add j) = some v)
    (hfit : off + cs.length ≤ cur.length) (h1 : ∀ v ∈ cs, v.oneCell' = true)
    (h : ∀ w', Hid (w'.heap[g]? = some (.cells (splice cur off cs).toArray t (0, 0))) → Hid (w'.os = w.os ∧ w'.tape = w.tape ∧ w'.output = w.output ∧ w'.heap.size = w.heap.size ∧ ∀ b, b ≠ g → w'.heap[b]? = w.heap[b]?) → wpList P ops Q rest (a.put o.dst (goInt cs.length)) w') :
    wpList P ops Q (o :: rest) a w := by
  by_cases h0 : cs.length = 0
  · obtain rfl : cs = [] := List.eq_nil_of_length_eq_zero h0
    refine wpList_copy_nothing hgd d s dT sT ho elem hu hsz dp sp dLen dCap sLen sCap hd hs (by simpa using hn.symm) ?_
    exact h w (show _ = _ by simpa [splice] using hg) ⟨rfl, rfl, rfl, rfl, fun _ _ => rfl⟩
  · obtain ⟨rfl, ad, rfl, hsrc⟩ := hpos (by omega)
    refine wpList_copy_own hgd d s dT sT ho elem hu hsz g off dLen dCap ad sLen sCap hd hs cur.toArray t hg cs hn hsrc (by simpa using hfit) h1 ?_
    exact h _ (show _ = _ by simpa [splice] using setRow_heap w g _ _ t _ hg) ⟨rfl, rfl, rfl, by simp [World.setRow], fun b hb => setRow_other w g b _ hb⟩

/-- A frame is made: the machine is as it was. -/
theorem MachAt.frameIn {s : Ms} (h : MachAt A K w s) (hb : Below w.heap.size w w') (h1 : w.heap.size ≤ fb) (h1' : fb < w'.heap.size) (h2 : w.heap.size ≤ sb) (h2' : sb < w'.heap.size) : MachAt A (KF K fb sb) w' s := by
  have h' := h.below hb
  obtain ⟨ov, k1, k2, k3⟩ := h.out
  have lt : ∀ b, b < w.heap.size → ¬ K b → ¬ KF K fb sb b := fun b hlt hn => by
    rintro (q | rfl | rfl)
    · exact hn q
    · omega
    · omega
  refine ⟨⟨ov, (hb.block _ (blk_lt k1)).trans k1, ownsRow_eq k2 fun k hk => hb.block k (ownsRow_lt k2 hk), fun k hk => ⟨lt k (ownsRow_lt k2 hk) (k3 k hk).1, (k3 k hk).2⟩⟩, ⟨lt _ (blk_lt k1) h.mb.1, h.mb.2⟩, h.nd, h.len, fun i b l e e' => ?_, h.tk, h.lim, h.much, h.rd, h.cl, ?_⟩
  · obtain ⟨q1, q2, q3⟩ := h.gl i b l e e'
    exact ⟨lt _ (blk_lt q2) q1, (hb.block _ (blk_lt q2)).trans q2, q3⟩
  · rintro b (q | rfl | rfl)
    · exact h'.ks b q
    · exact h1'
    · exact h2'
theorem EndAt.setCl {how : Int} {trap : Int × Nat} (h : EndAt A w how trap) (c : Int) : EndAt A (w.setCell ⟨A.mb, 9, none⟩ (.int .i64 c)) how trap := by
  obtain ⟨sa, sc, rd, tk, cl, e⟩ := h
  exact ⟨sa, sc, rd, tk, c, by rw [blk_set e]; rfl⟩
theorem u64s_splice (l : List Nat) (z : Nat) : splice (List.replicate z (Value.int .u64 0)) 0 ((l.take z).map fun (v : Nat) => Value.int .u64 v) = ((l ++ List.replicate z 0).take z).map fun (v : Nat) => Value.int .u64 v := by
  unfold splice
  apply List.ext_getElem?
  intro i
  simp only [List.take_zero, List.nil_append, Nat.zero_add, List.length_map, List.length_take, List.getElem?_append, List.getElem?_map, List.getElem?_take, List.getElem?_drop, List.getElem?_replicate]
  by_cases h1 : i < z
  · by_cases h2 : i < l.length
    · rw [if_pos (by omega), if_pos h1, if_pos h1, if_pos h2]
    · rw [if_neg (by omega), if_pos h1, if_neg h2, if_pos (by omega), if_pos (by omega)]; rfl
  · simp [h1]
    omega
theorem info_u64 : (Tryz.prog.info? 26).map (fun i => (i.zero, i.size, i.bytes)) = some (some (.int .u64 0), 1, 8) := by kernel_rfl

set_option maxRecDepth 100000 in
theorem run_beh {k z g : Nat} {c : Array Value} {rb : Ms → Fr → Option Rs} (hB : BodyAt A Z k z g c) (hz : z ≤ 1000000) (hg : isFn Tryz.prog g) (hb : BehS A Z g c rb) : BehF A Z k (runF z rb) := by
  intro K w s l av r hz0 hm ha e
  obtain ⟨ov, h1, h2, h3⟩ := hm.out
  have c9 : w.cell? ⟨A.mb, 9, none⟩ = some (.int .i64 s.cl) := blk_cell h1 9
  have f9 : w.frozen? ⟨A.mb, 9, none⟩ = false := blk_frozen h1 9
  have HM := Lib.hid hm
  unfold runF at e
  show Calls _ _ #[ptrV A.mb, .int .i64 k, av] _ _
  obtain ⟨fb, fo, fl, fc, bb, bo, bl, bc, e1, e2, l1, l2, l3, l4, z1, z2⟩ := hB
  by_cases hcl : s.cl = 60
  · rw [if_pos hcl] at e
    cases e
    have T := trap_ok A s 3 hm
    have hq : ((s.cl : Int) == 60) = true := t_eq (by omega)
    clear hz0 hm ha h1 h2 h3 hb e1 e2 l1 l2 z1 z2
    unfold ptrV at *
    go_enter Tryz.func50, Tryz.ntmps50
    go_wp2_with fail
    refine T.mono ?_
    rintro e w5 ⟨rfl, hk5, he5, hl5⟩
    have HE5 := Lib.hid (And.intro hk5 (And.intro he5 hl5))
    clear hk5 he5 hl5 T
    go_wp2_with fail
    refine bodyPost_ret (v := .tuple #[.int .u64 (0 : Nat), .bool false]) (by simp [results, Tryz.results50, go_sem]) rfl
      (PostX.trap (s := s) (n := 3) rfl HE5.out.1 HM.out.mb.1 HE5.out.2.1 HE5.out.2.2)
  · rw [if_neg hcl] at e
    have hq : ((s.cl : Int) == 60) = false := t_ne (by omega)
    have c11 : w.cell? ⟨A.mb, 11, none⟩ = some (.slice (some ⟨fb, fo, none⟩) fl fc) := by rw [← e1]; exact blk_cell h1 11
    have c10 : w.cell? ⟨A.mb, 10, none⟩ = some (.slice (some ⟨bb, bo, none⟩) bl bc) := by rw [← e2]; exact blk_cell h1 10
    have hncl := hm.cl
    have hw1 : IntKind.i64.wrap ((s.cl : Int) + 1) = ((s.cl + 1 : Nat) : Int) := by rw [IntWalk.i64_in _ (by omega)]; omega
    have g1 : decide ((k : Int) < fl) = true := decide_eq_true (by omega)
    have g2 : decide ((k : Int) < bl) = true := decide_eq_true (by omega)
    have hmk := run_make_row' (P := Tryz.prog) 41 26 (.int .u64 0) 8 Tryz.underlying41 info_u64 rfl .i64 .i64 z (by omega) (by omega)
    have cz1 := hz0.cell z1
    have ne1 : fb ≠ A.mb := fun e => by
      obtain ⟨cur, t, fz, e1, _⟩ := z1
      exact hm.mb.1 (e ▸ (hz0 _ _ e1).1)
    have HZ := Lib.hid hz0
    have HA := Lib.hid ha
    have HE := Lib.hid e
    have HB := Lib.hid hb
    have HG := Lib.hid hg
    have HZ2 := Lib.hid z2
    have HE2 := Lib.hid e2
    have H1 := Lib.hid h1
    obtain ⟨ha1, ha2, aa, ac, rfl, ha3⟩ := ha
    have HA3 := Lib.hid (And.intro ha1 (And.intro ha2 ha3))
    have HW1 := Lib.hid (HM.out.set (s' := { s with cl := s.cl + 1 }) 9 (.int .i64 ((s.cl : Int) + 1)) (fun ov => by simp [mCells]) rfl rfl HM.out.tk HM.out.rd (show s.cl + 1 ≤ 60 by omega))
    have HK1 := Lib.hid ((Keep.refl K w).setCell (p := ⟨A.mb, 9, none⟩) HM.out.mb.1 (.int .i64 ((s.cl : Int) + 1)))
    have HSZ := Lib.hid (show (w.setCell ⟨A.mb, 9, none⟩ (.int .i64 ((s.cl : Int) + 1))).heap.size = w.heap.size by simp [World.setCell])
    obtain ⟨X, hX⟩ : ∃ X, X = (l.take z).map fun (v : Nat) => Value.int .u64 v := ⟨_, rfl⟩
    have HX := Lib.hid hX
    clear hX
    clear hz0 hm h2 h3 hb e1 e2 z1 z2 e hg ha1 ha2 ha3 h1
    unfold ptrV at *
    go_enter Tryz.func50, Tryz.ntmps50
    go_wp2_with (with_reducible refine copy_at ?_; refine wpList_copy_all rfl (.tmp 39) (.tmp 40) 41 41 rfl 26 Tryz.underlying41 (by kernel_rfl) _ _ z z l.length ac rfl rfl w.heap.size 0 (List.replicate z (.int .u64 0)) 26 ?c1 X ?c2 ?c3 ?c4 ?c5 ?_)
    case c1 =>
      have h1 := heap_alloc_new (w.setCell ⟨A.mb, 9, none⟩ (.int .i64 ((s.cl : Int) + 1))) (.cells (madeCells #[.int .u64 0] z) 26)
      rw [HSZ.out] at h1
      rw [Below.heap_alloc _ _ _ (by rw [alloc_sz, HSZ.out]; omega), h1]
      congr 3
      apply Array.toList_inj.1
      rw [toList_madeCells_one]
    case c2 => rw [HX.out, List.length_map, List.length_take]; exact Nat.min_comm _ _
    case c3 =>
      intro hp
      rw [HX.out, List.length_map, List.length_take] at hp
      have hl : 0 < l.length := by omega
      obtain ⟨b, o, e1, hne, hlt, hcs⟩ := HA3.out.2.2 hl
      refine ⟨⟨b, o, none⟩, e1, fun j v hj => ?_⟩
      obtain ⟨x, hx, rfl⟩ : ∃ x, l[j]? = some x ∧ v = .int .u64 (x : Nat) := by
        rw [HX.out] at hj
        simp only [List.getElem?_map, List.getElem?_take] at hj
        split at hj
        · cases hq : l[j]? with
          | none => rw [hq] at hj; cases hj
          | some x => rw [hq] at hj; cases hj; exact ⟨x, rfl, rfl⟩
        · cases hj
      rw [← hcs j x hx]
      have ea : (⟨b, o, none⟩ : Addr).add j = ⟨b, o + j, none⟩ := by simp [Addr.add]
      rw [ea]
      refine World.cell?_of_block (a := ⟨b, o + j, none⟩) ?_
      have k1 := Below.heap_alloc ((w.setCell ⟨A.mb, 9, none⟩ (.int .i64 ((s.cl : Int) + 1))).alloc (.cells (madeCells #[.int .u64 0] z) 26)) (.cells #[.slice (some ⟨w.heap.size, 0, none⟩) z z, .int .u64 0] 167) b (by rw [alloc_sz, HSZ.out]; omega)
      have k2 := Below.heap_alloc (w.setCell ⟨A.mb, 9, none⟩ (.int .i64 ((s.cl : Int) + 1))) (.cells (madeCells #[.int .u64 0] z) 26) b (by rw [HSZ.out]; omega)
      exact k1.trans (k2.trans (Below.heap_setCell _ _ _ _ hne))
    case c4 => rw [HX.out, List.length_map, List.length_take, List.length_replicate]; omega
    case c5 => intro v hv; rw [HX.out] at hv; obtain ⟨x, _, rfl⟩ := List.mem_map.1 hv; rfl
    intro w2 hrow hrest
    have HB2 := Lib.hid (show Below (w.setCell ⟨A.mb, 9, none⟩ (.int .i64 ((s.cl : Int) + 1))).heap.size (w.setCell ⟨A.mb, 9, none⟩ (.int .i64 ((s.cl : Int) + 1))) w2 from by
      obtain ⟨q1, q2, q3, q4, q5⟩ := hrest.out
      refine ⟨q1, q2, q3, by have := HSZ.out; omega, fun b hb => ?_⟩
      rw [HSZ.out] at hb
      rw [q5 b (by omega), Below.heap_alloc _ _ _ (by rw [alloc_sz, HSZ.out]; omega), Below.heap_alloc _ _ _ (by rw [HSZ.out]; omega)])
    have HS2 := Lib.hid (show w2.heap.size = w.heap.size + 2 from hrest.out.2.2.2.1)
    have HF2 := Lib.hid (show FrAt (w.heap.size + 1) w.heap.size w2 ⟨(l ++ List.replicate z 0).take z, 0⟩ from by
      obtain ⟨q1, q2, q3, q4, q5⟩ := hrest.out
      have hlen : ((l ++ List.replicate z 0).take z).length = z := by simp
      refine ⟨?_, ?_, by omega, ?_, show U64 0 by unfold U64; decide, by show _ ≤ _; rw [hlen]; exact hz⟩
      · have h1 := heap_alloc_new ((w.setCell ⟨A.mb, 9, none⟩ (.int .i64 ((s.cl : Int) + 1))).alloc (.cells (madeCells #[.int .u64 0] z) 26)) (.cells #[.slice (some ⟨w.heap.size, 0, none⟩) z z, .int .u64 0] 167)
        rw [alloc_sz, HSZ.out] at h1
        rw [q5 _ (by omega), h1]
        simp only [hlen]; rfl
      · rw [hrow.out, HX.out, u64s_splice]; rfl
      · intro v hv
        rcases List.mem_append.1 (List.mem_of_mem_take hv) with h | h
        · exact HA3.out.2.1 v h
        · rw [List.eq_of_mem_replicate h]; unfold U64; decide)
    have HM2 := Lib.hid (HW1.out.frameIn HB2.out (fb := w.heap.size + 1) (sb := w.heap.size) (by rw [HSZ.out]; omega) (by rw [HS2.out]; omega) (by rw [HSZ.out]; omega) (by rw [HS2.out]; omega))
    have HK2 := Lib.hid (HK1.out.below (by intro b hb; rw [HSZ.out]; exact HM.out.ks b hb) HB2.out)
    obtain ⟨ov2, m1, _, _⟩ := HM2.out.out
    have d10 : w2.cell? ⟨A.mb, 10, none⟩ = some (.slice (some ⟨bb, bo, none⟩) bl bc) := by rw [← HE2.out]; exact blk_cell m1 10
    have hz2 := HZ.out.keep HK2.out
    have cz2 := hz2.cell HZ2.out
    obtain ⟨r0, hr0, hr1⟩ : ∃ r0, rb { s with cl := s.cl + 1 } ⟨(l ++ List.replicate z 0).take z, 0⟩ = some r0 ∧ (match r0 with
        | .go _ s2 f => if s2.cl = s.cl + 1 then some (.val f.res { s2 with cl := s.cl }) else none
        | .trap k s => some (.trap k s)) = some r := by
      have := HE.out
      cases hq : rb { s with cl := s.cl + 1 } ⟨(l ++ List.replicate z 0).take z, 0⟩ with
      | none => rw [hq] at this; cases this
      | some r0 => rw [hq] at this; exact ⟨r0, rfl, by cases r0 <;> exact this⟩
    have C := HB.out K w2 _ _ (w.heap.size + 1) w.heap.size r0 hz2 HM2.out HF2.out (fun q => by have := HM.out.ks _ q; omega) (fun q => by have := HM.out.ks _ q; omega) hr0
    have HR1 := Lib.hid hr1
    clear hrow hrest m1 hz2 hr0 hr1 c9 f9 c10 c11 hmk cz1 ne1
    unfold ptrV at C
    go_wp2_with (with_reducible refine dyn_at ?_; refine wpList_dyn rfl rfl rfl HG.out ?_)
    refine C.mono ?_
    rintro e w3 ⟨hk3, ⟨h, s3, f3, rfl, hh, rfl, hm3, hf3⟩ | ⟨how, trap, rfl, he3, ⟨f3, hf3⟩, hlt3, hmb3, hov3⟩⟩
    · obtain ⟨hcl3, hr⟩ : s3.cl = s.cl + 1 ∧ r = .val f3.res { s3 with cl := s.cl } := by
        have := HR1.out
        simp only at this
        split at this
        · rename_i hq; cases this; exact ⟨hq, rfl⟩
        · cases this
      obtain ⟨ov3, m1, _, _⟩ := hm3.out
      have c9 : w3.cell? ⟨A.mb, 9, none⟩ = some (.int .i64 ((s.cl + 1 : Nat) : Int)) := by rw [← hcl3]; exact blk_cell m1 9
      have f9 : w3.frozen? ⟨A.mb, 9, none⟩ = false := blk_frozen m1 9
      have hw2 : IntKind.i64.wrap (((s.cl + 1 : Nat) : Int) - 1) = (s.cl : Int) := by rw [IntWalk.i64_in _ (by omega)]; omega
      have r1 : w3.cell? ⟨w.heap.size + 1, 1, none⟩ = some (.int .u64 f3.res) := blk_cell hf3.fr 1
      have hq4 : ((h : Int) == 4) = false := t_ne (by omega)
      have ne2 : w.heap.size + 1 ≠ A.mb := by have := blk_lt H1.out; omega
      have HM3 := Lib.hid hm3
      have HF3 := Lib.hid hf3
      have HK3 := Lib.hid hk3
      have HR := Lib.hid (And.intro hcl3 hr)
      clear m1 hm3 hf3 hk3 hcl3 hr C d10 cz2
      go_wp2_with fail
      refine bodyPost_ret (v := .tuple #[.int .u64 f3.res, .bool true]) (by simp [results, Tryz.results50, go_sem]; omega) rfl
        (PostX.val (s := { s3 with cl := s.cl }) HR.out.2 HF3.out.r ((HK2.out.trans HK3.out).setCell (p := ⟨A.mb, 9, none⟩) HM.out.mb.1 _) ?_ (Below.refl _ _))
      exact (HM3.out.set (s' := { s3 with cl := s.cl }) 9 _ (fun ov => by simp [mCells]) rfl rfl HM3.out.tk HM3.out.rd (show s.cl ≤ 60 by omega)).mono fun b hb => .inl hb
    · obtain ⟨sa3, sc3, rd3, tk3, cl3, m1⟩ := he3
      have c9 : w3.cell? ⟨A.mb, 9, none⟩ = some (.int .i64 cl3) := blk_cell m1 9
      have f9 : w3.frozen? ⟨A.mb, 9, none⟩ = false := blk_frozen m1 9
      have r1 : w3.cell? ⟨w.heap.size + 1, 1, none⟩ = some (.int .u64 f3.res) := blk_cell hf3.fr 1
      have ne2 : w.heap.size + 1 ≠ A.mb := by have := blk_lt H1.out; omega
      have HE3 := Lib.hid (show EndAt A w3 how trap from ⟨sa3, sc3, rd3, tk3, cl3, m1⟩)
      have HF3 := Lib.hid hf3
      have HK3 := Lib.hid hk3
      have HL3 := Lib.hid hlt3
      have HO3 := Lib.hid hov3
      clear m1 hf3 hk3 hlt3 hov3 C d10 cz2
      go_wp2_with fail
      refine bodyPost_ret (v := .tuple #[.int .u64 f3.res, .bool false]) (by simp [results, Tryz.results50, go_sem]) rfl
        ⟨(HK2.out.trans HK3.out).setCell (p := ⟨A.mb, 9, none⟩) HM.out.mb.1 _, .inr ⟨f3.res, how, trap, HF3.out.r, rfl, HE3.out.setCl _, fun b hb => by simpa [World.setCell] using HL3.out b hb, HM.out.mb.1, ?_⟩⟩
      have h1 := HR1.out
      cases r0 with
      | go h s3 f3 =>
        simp only at h1
        split at h1
        · cases h1
          rcases HO3.out with ⟨ho, hh⟩ | ⟨_, hw⟩
          · exact .inl ⟨ho, hh⟩
          · exact hw.elim
        · cases h1
      | trap k' s3 =>
        cases h1; exact HO3.out

end Go.Proofs.YtgmmfjmdpbhjnaaGreat

/-
  The closures of eval: a call of the program's function.
-/
namespace Go.Proofs.YtgmmfjmdpbhjnaaGreat
open Go.RowKit
variable {Z : Nat → Option Obj} {K K' : Nat → Prop} {w w' : World} {A : Adr} {fb sb : Nat}

/-- what is kept, and a slice's own block -/
def KL (K : Nat → Prop) (v : Value) : Nat → Prop := fun b => K b ∨ v.ownBlock = some b
theorem PostX.mono {r : Rx} {e : Ending} (h : PostX A K w r e w') (hk : ∀ b, K' b → K b) : PostX A K' w r e w' := by
  obtain ⟨h1, h2⟩ := h
  refine ⟨h1.mono hk, ?_⟩
  rcases h2 with ⟨v, s, q1, q2, q3, hm⟩ | ⟨u, how, trap, q1, q2, q3, q4, q5, q6⟩
  · exact .inl ⟨v, s, q1, q2, q3, hm.mono hk⟩
  · exact .inr ⟨u, how, trap, q1, q2, q3, fun b hb => q4 b (hk b hb), fun h => q5 (hk _ h), q6⟩
/-- An argument is put behind the others. -/
theorem MachAt.args {s : Ms} {w2 w3 : World} {lv lv' : Value} {o : Obj} (HM : MachAt A (KL K lv) w2 s) (hno : ∀ k, lv.ownBlock = some k → ¬ K k) (hg : (w2.alloc o).grownBy w3 lv.ownBlock) (hw : ∀ k, lv'.ownBlock = some k → lv.ownBlock = some k ∨ w2.heap.size + 1 ≤ k) (hlt : ∀ k, lv'.ownBlock = some k → k < w3.heap.size) :
    Keep K w2 w3 ∧ MachAt A (KL K lv') w3 s := by
  have hsz : (w2.alloc o).heap.size = w2.heap.size + 1 := alloc_sz _ _
  have hs3 := hg.size
  have same : ∀ b, b < w2.heap.size → lv.ownBlock ≠ some b → w3.heap[b]? = w2.heap[b]? := fun b hb hne => by
    rw [hg.block b (by omega) (fun e => hne e.symm), Below.heap_alloc _ _ _ hb]
  have hk : Keep K w2 w3 := ⟨hg.os, hg.tape, hg.output, by omega, fun b hb => same b (HM.ks b (.inl hb)) fun e => hno b e hb⟩
  obtain ⟨ov, m1, m2, m3⟩ := HM.out
  have notl : ∀ b, b < w2.heap.size → ¬ KL K lv b → ¬ KL K lv' b := fun b hb hn hq => by
    rcases hq with hq | hq
    · exact hn (.inl hq)
    · rcases hw b hq with e | e
      · exact hn (.inr e)
      · omega
  have out : ∀ b, ¬ KL K lv b → lv.ownBlock ≠ some b := fun b hn e => hn (.inr e)
  refine ⟨hk, ⟨ov, (same _ (blk_lt m1) (out _ HM.mb.1)).trans m1, ownsRow_eq m2 fun k hk' => same k (ownsRow_lt m2 hk') (out _ (m3 k hk').1), fun k hk' => ⟨notl k (ownsRow_lt m2 hk') (m3 k hk').1, (m3 k hk').2⟩⟩, ⟨notl _ (blk_lt m1) HM.mb.1, HM.mb.2⟩, HM.nd, HM.len, fun i b l e e' => ?_, HM.tk, HM.lim, HM.much, HM.rd, HM.cl, fun b hb => ?_⟩
  · obtain ⟨q1, q2, q3⟩ := HM.gl i b l e e'
    exact ⟨notl b (blk_lt q2) q1, (same b (blk_lt q2) (out _ q1)).trans q2, q3⟩
  · rcases hb with hb | hb
    · have := HM.ks b (.inl hb); omega
    · exact hlt b hb

theorem onX_onA (r : Option Rx) (k : Nat → Ms → Option Ra) (F : List Nat → Ms → Option Rx) : Ra.onX (Rx.onA r k) F = Rx.on r fun v s => Ra.onX (k v s) F := by
  cases r with
  | none => rfl
  | some x => cases x <;> rfl

set_option maxHeartbeats 1000000 in
set_option maxRecDepth 100000 in
theorem call_beh {d nb cap n : Nat} {sa : Option Addr} {runs : List (Ms → List Nat → Option Rx)} {G : Nat → Nat} {C : Nat → Array Value} {rF : List Nat → Ms → Option Rx}
    (h1 : Zc Z d 0 (.slice sa runs.length cap)) (h2 : Zc Z nb 0 (.int .i64 n)) (hn : runs.length ≤ 1000)
    (hc : ∀ i, i < runs.length → ∃ ab ao, sa = some ⟨ab, ao, none⟩ ∧ Zc Z ab (ao + i) (fnV (G i) (C i)) ∧ isFn Tryz.prog (G i))
    (hb : ∀ i x, runs[i]? = some x → BehX A Z (G i) (C i) x) (hgr : ∀ x ∈ runs, Grows x) (hF : BehF A Z n rF) (hgF : ∀ l s r, rF l s = some r → Ms.le s r.ms) :
    BehX A Z 217 #[ptrV d, ptrV nb] (fun s f => Ra.onX (seqA runs [] s f) rF) := by
  intro K w s f fb sb r hz hm hf hkf hks e
  replace e : Ra.onX (seqA runs [] s f.sl) rF = some r := e
  have c1 := hz.cell h1
  have HZ := Lib.hid hz
  have HM := Lib.hid hm
  have HF := Lib.hid hf
  have HE := Lib.hid e
  have HB := Lib.hid hb
  have HG := Lib.hid hgr
  have HGF := Lib.hid hgF
  have HC := Lib.hid hc
  have HFF := Lib.hid hF
  have H2 := Lib.hid h2
  have Hfb := Lib.hid hkf
  have Hsb := Lib.hid hks
  have HKS := Lib.hid (show ∀ b, K b → b < w.heap.size from hm.ks)
  clear hz hm hf hkf hks h1 h2 hb hgr e hc hF hgF
  show Calls _ _ #[ptrV A.mb, ptrV fb, ptrV d, ptrV nb] _ _
  unfold ptrV at *
  generalize hl : runs.length = N at *
  have HL := Lib.hid hl
  clear hl
  go_enter Tryz.func217, Tryz.ntmps217
  go_wp2_with fail
  go_loopw [8, 15] (fun lv i wr => ∃ (j : Nat) (vs : List Nat) (s1 : Ms), j ≤ N ∧ i = .int .i64 j ∧ vs.length = j ∧ wr.ownsRow 0 26 1 lv j (vs.map fun (v : Nat) => Value.int .u64 v) ∧ (∀ k, lv.ownBlock = some k → w.heap.size ≤ k) ∧ (∀ v ∈ vs, U64 v) ∧
    Keep K w wr ∧ MachAt A (KL K lv) wr s1 ∧ Ra.onX (seqA (runs.drop j) vs s1 f.sl) rF = some r) (fun _ i _ => N - (intOf i).toNat)
  case atStart =>
    refine ⟨0, [], s, by omega, rfl, rfl, ⟨rfl, .inl ⟨rfl, rfl⟩⟩, fun k hk => (by cases hk), fun v hv => (by cases hv), Keep.refl K w, HM.out.mono fun b hb => ?_, HE.out⟩
    rcases hb with hb | hb
    · exact hb
    · cases hb
  case round =>
    obtain ⟨j, vs, s1, hj, rfl, hvl, hown, hge, hu, hk, hm, he⟩ := hrel
    by_cases hlt : j < N
    · have hls : decide ((j : Int) < N) = true := decide_eq_true (by omega)
      have hjl : j < runs.length := by have := HL.out; omega
      have hx : runs[j]? = some runs[j] := List.getElem?_eq_getElem hjl
      rw [List.drop_eq_getElem_cons hjl] at he
      generalize runs[j] = x at hx he
      obtain ⟨ab, ao, hsa, zz, hgg⟩ := HC.out j (by have := HL.out; omega)
      have hz2 := HZ.out.keep hk
      have z2 := hz2.cell zz
      have HG0 := Lib.hid hgg
      replace he : Ra.onX (Rx.onA (x s1 f.sl) fun v s => seqA (runs.drop (j + 1)) (vs ++ [v]) s f.sl) rF = some r := he
      rw [onX_onA] at he
      obtain ⟨r0, e0, e1⟩ := Rx.on_some he
      have C0 := HB.out j x hx (KL K u8) wr s1 f fb sb r0 (hz2.mono fun b => .inl) hm (HF.out.keep hk Hfb.out Hsb.out) (.inl Hfb.out) (.inl Hsb.out) e0
      have HE1 := Lib.hid e1
      have HK := Lib.hid hk
      have HOWN := Lib.hid (And.intro hvl (And.intro hown (And.intro hge hu)))
      subst hsa
      clear he hx hz2 hk hm e0 e1 hjl c1 zz hgg hvl hown hge hu
      unfold ptrV at *
      obtain ⟨i0, hi, hz0, hz1, hz2⟩ := info_parts info_u64
      go_wp2_with (with_reducible refine dyn_at ?_; refine wpList_dyn rfl rfl rfl HG0.out ?_)
      refine C0.mono ?_
      intro e w2 hp
      have hon := hp.on HE1.out (by
        intro v s r hh
        exact grow_A hh (fun y hy => seqA_le (fun z hz => HG.out z (List.mem_of_mem_drop hz)) hy) fun l s y hy => HGF.out _ _ _ hy)
      rcases hon with ⟨v, s2, hv, rfl, hkp, hm2, hr⟩ | ⟨u, hu, rfl, hend⟩
      · have hown2 := ownsRow_eq HOWN.out.2.1 fun k hk' => hkp.block k (.inr hk')
        have HKP := Lib.hid hkp
        have HM2 := Lib.hid hm2
        have HR := Lib.hid hr
        have HV := Lib.hid hv
        clear hp hkp hm2 hr hv C0
        go_wp2_with (at_builtin; refine wpList_append_where rfl (.tmp 28) (.tmp 30) 41 rfl 26 i0 (.int .u64 0) 1 8 Tryz.underlying41 hi hz0 hz1 hz2 rfl (by decide) _ _ _ rfl (World.ownsRow.alloc hown2 _) ⟨w2.heap.size, 0, none⟩ 1 1 [.int .u64 (v : Int)] rfl rfl ?c1 ?c2 ?c3 ?c4 ?_)
        case c1 => exact cell_one_new _ _ _
        case c2 => intro u hu; simp at hu; subst hu; rfl
        case c3 => unfold maxLen; omega
        case c4 => omega
        intro u8' w3 hown' hgrow hwhere
        have hno : ∀ k, u8.ownBlock = some k → ¬ K k := fun k hk' hK => by have := HOWN.out.2.2.1 k hk'; have := HKS.out k hK; omega
        have KM := MachAt.args HM2.out hno hgrow hwhere fun k hk' => ownsRow_lt hown' hk'
        have hs2 : w.heap.size ≤ w2.heap.size := Nat.le_trans HK.out.size HKP.out.size
        have hge' : ∀ k, u8'.ownBlock = some k → w.heap.size ≤ k := fun k hk' => by
          rcases hwhere k hk' with q | q
          · exact HOWN.out.2.2.1 k q
          · omega
        have HN := Lib.hid (And.intro KM (And.intro hge' hown'))
        clear KM hge' hown' hgrow hwhere hown2 hno hs2
        go_wp2_with fail
        go_round
        case rel =>
          refine ⟨j + 1, vs ++ [v], s2, by omega, by go_num, by simp [HOWN.out.1], ?_, HN.out.2.1, fun y hy => ?_, HK.out.trans ((HKP.out.mono fun b => .inl).trans HN.out.1.1), HN.out.1.2, HR.out⟩
          · have := HN.out.2.2
            simpa [List.map_append] using this
          · rcases List.mem_append.1 hy with hy | hy
            · exact HOWN.out.2.2.2 y hy
            · rw [List.mem_singleton.1 hy]; exact HV.out
        case measure => simp [intOf]; omega
      · have HEND := Lib.hid hend
        clear hp hend C0
        go_wp2_with fail
        refine bodyPost_ret (v := .tuple #[.int .u64 (0 : Nat), .bool false]) (by simp [results, Tryz.results217, go_sem]) rfl (((HEND.out 0 _ (by unfold U64; decide) (Below.refl _ _)).mono fun b => .inl).after HK.out)
    · have hj' : j = N := by omega
      subst hj'
      have hls : decide ((j : Int) < j) = false := decide_eq_false (by omega)
      rw [List.drop_eq_nil_of_le (by have := HL.out; omega)] at he
      have hz2 := HZ.out.keep hk
      have z2 := hz2.cell H2.out
      have hargs : ArgsAt A wr u8 vs := by
        refine ⟨by omega, hu, ?_⟩
        rcases hown.2 with ⟨q1, q2⟩ | ⟨g, cap', cur, q1, q2, q3, q4, q5, q6, q7⟩
        · refine ⟨none, 0, by rw [q1, hvl, q2], fun hp => by omega⟩
        · refine ⟨some ⟨g, 0, none⟩, cap', by rw [q1, hvl], fun _ => ⟨g, 0, rfl, fun e => hm.mb.1 (.inr (by rw [q1, e]; rfl)), blk_lt q3, fun i v hv => ?_⟩⟩
          rw [blk_cell q3 (0 + i), Nat.zero_add]
          have hi := (List.getElem?_eq_some_iff.1 hv).1
          have : (cur.toList.take (j * 1))[i]? = (vs.map fun (v : Nat) => Value.int .u64 v)[i]? := by rw [q7]
          rw [List.getElem?_take, if_pos (by omega), List.getElem?_map, hv] at this
          rw [← Array.getElem?_toList, this]; rfl
      have C0 := HFF.out K wr s1 vs u8 r hz2 (hm.mono fun b => .inl) hargs he
      have HK := Lib.hid hk
      clear hk hm he hown hge hu hz2 hargs hvl
      unfold ptrV at C0
      go_wp2_with fail
      refine C0.mono ?_
      intro e w2 hp
      obtain ⟨v, b, rfl, hv⟩ := hp.ret
      have HP := Lib.hid (hp.after HK.out)
      clear hp hv C0
      go_wp2_with fail
      refine bodyPost_ret (v := .tuple #[.int .u64 v, .bool b]) (by simp [results, Tryz.results217, go_sem]) rfl HP.out
end Go.Proofs.YtgmmfjmdpbhjnaaGreat

/-
  The closures of eval: elements of the rows of all.
-/
namespace Go.Proofs.YtgmmfjmdpbhjnaaGreat
open Go.RowKit
variable {Z : Nat → Option Obj} {K K' : Nat → Prop} {w w' : World} {A : Adr} {fb sb : Nat}

/-- a row of all, its block and its length -/
def RowZ (Z : Nat → Option Obj) (A : Adr) (k n : Nat) : Prop :=
  ∃ g o len c b nc, A.gs = .slice (some ⟨g, o, none⟩) len c ∧ k < len ∧ len ≤ 1000000 ∧ Zc Z g (o + k) (.slice (some ⟨b, 0, none⟩) n nc) ∧ A.gb[k]? = some b ∧ A.ns[k]? = some n

/-- the rows of all -/
def RowsOK (Z : Nat → Option Obj) (A : Adr) (ns : List Nat) : Prop := ∀ k n, ns[k]? = some n → RowZ Z A k n

theorem place_beh {d zb size g : Nat} {c : Array Value} {run : Ms → List Nat → Option Rx} (h1 : Zc Z d 0 (fnV g c)) (h2 : Zc Z zb 0 (.int .i64 size)) (hsz : size ≤ 1000000) (hg : isFn Tryz.prog g) (hb : BehX A Z g c run) :
    BehX A Z 205 #[ptrV d, ptrV zb] (fun s f => Rx.place (run s f) size) := by
  intro K w s f fb sb r hz hm hf hkf hks e
  obtain ⟨r0, e0, e1⟩ := Rx.on_some (k := fun v s => if v < size then some (.val v s) else some (.trap 2 s)) e
  have C := hb K w s f fb sb r0 hz hm hf hkf hks e0
  have z1 := hz.cell h1
  have HZ := Lib.hid hz
  have H := Lib.hid h2
  have HG1 := Lib.hid hg
  have HE := Lib.hid e1
  clear hz hm hf hkf hks h1 hb e hg e0 h2 e1
  show Calls _ _ #[ptrV A.mb, ptrV fb, ptrV d, ptrV zb] _ _
  unfold ptrV at *
  go_enter Tryz.func205, Tryz.ntmps205
  go_wp2_with (with_reducible refine dyn_at ?_; refine wpList_dyn rfl rfl rfl HG1.out ?_)
  refine C.mono ?_
  intro e w2 hp
  have hon := hp.on HE.out (by
    intro v s r h
    split at h <;> cases h <;> exact ⟨Nat.le_refl _, Nat.le_refl _⟩)
  rcases hon with ⟨p, s2, hv, rfl, hkp, hm2, hr⟩ | ⟨u, hu, rfl, hend⟩
  · have z2 := (HZ.out.keep hkp).cell H.out
    have hwr : IntKind.u64.wrap (size : Int) = (size : Int) := by rw [IntKind.wrap]; simp [IntKind.bits, IntKind.signed]; omega
    by_cases hlt : p < size
    · rw [if_pos hlt] at hr
      have q1 : decide ((size : Int) ≤ p) = false := decide_eq_false (by omega)
      have q2 : decide ((p : Int) < size) = true := decide_eq_true (by omega)
      have HS := Lib.hid (And.intro hkp (And.intro hm2 (And.intro hr hv)))
      clear hp hkp hm2 hr hv C z1
      go_wp2_with fail
      refine bodyPost_ret (v := .tuple #[.int .u64 (p : Nat), .bool true]) (by simp [results, Tryz.results205, go_sem]) rfl (PostX.val (s := s2) (by have := HS.out.2.2.1; cases this; rfl) HS.out.2.2.2 HS.out.1 HS.out.2.1 (Below.refl _ _))
    · rw [if_neg hlt] at hr
      have q1 : decide ((size : Int) ≤ p) = true := decide_eq_true (by omega)
      have q2 : decide ((p : Int) < size) = false := decide_eq_false (by omega)
      have T := trap_ok A s2 2 hm2
      have HS := Lib.hid (And.intro hkp (And.intro hm2 (And.intro hr hv)))
      clear hp hkp hm2 hr hv C z1
      unfold ptrV at T
      go_wp2_with fail
      refine T.mono ?_
      rintro e w5 ⟨rfl, hk5, he5, hl5⟩
      have HE5 := Lib.hid (And.intro hk5 (And.intro he5 hl5))
      clear hk5 he5 hl5 T
      go_wp2_with fail
      refine bodyPost_ret (v := .tuple #[.int .u64 (0 : Nat), .bool false]) (by simp [results, Tryz.results205, go_sem]) rfl
        (PostX.trap (s := s2) (n := 2) (by have := HS.out.2.2.1; cases this; rfl) (HS.out.1.trans HE5.out.1) HS.out.2.1.mb.1 HE5.out.2.1 HE5.out.2.2)
  · have HEND := Lib.hid hend
    have HU := Lib.hid hu
    clear hp hend C z1 hu
    go_wp2_with fail
    refine bodyPost_ret (v := .tuple #[.int .u64 (u : Nat), .bool false]) (by simp [results, Tryz.results205, go_sem]) rfl (HEND.out u _ HU.out (Below.refl _ _))

/-- what a row of all holds -/
theorem MachAt.row {s : Ms} (h : MachAt A K w s) {k n b : Nat} (hb : A.gb[k]? = some b) (hn : A.ns[k]? = some n) : ∃ l, s.gl[k]? = some l ∧ l.length = n ∧ ¬ K b ∧ w.heap[b]? = some (.cells (u64s l) 26) ∧ ∀ v ∈ l, U64 v := by
  have h2 := h.len.2
  rw [h2, List.getElem?_map] at hn
  cases hl : s.gl[k]? with
  | none => rw [hl] at hn; cases hn
  | some l =>
    rw [hl] at hn
    cases hn
    exact ⟨l, rfl, rfl, h.gl k b l hb hl⟩

set_option maxRecDepth 100000 in
theorem elt_beh {d pb k n g : Nat} {c : Array Value} {run : Ms → List Nat → Option Rx} (h1 : Zc Z d 0 (fnV g c)) (h2 : Zc Z pb 3 (.int .i64 k)) (hR : RowZ Z A k n) (hg : isFn Tryz.prog g) (hb : BehX A Z g c run) :
    BehX A Z 209 #[ptrV d, ptrV pb] (fun s f => Rx.on (run s f) fun v s => Rx.ofO (s.load k v) s) := by
  intro K w s f fb sb r hz hm hf hkf hks e
  obtain ⟨r0, e0, e1⟩ := Rx.on_some e
  have C := hb K w s f fb sb r0 hz hm hf hkf hks e0
  have z1 := hz.cell h1
  have HZ := Lib.hid hz
  have H := Lib.hid h2
  have HR := Lib.hid hR
  have HG1 := Lib.hid hg
  have HE := Lib.hid e1
  clear hz hm hf hkf hks h1 hb e hg e0 h2 e1 hR
  show Calls _ _ #[ptrV A.mb, ptrV fb, ptrV d, ptrV pb] _ _
  unfold ptrV at *
  go_enter Tryz.func209, Tryz.ntmps209
  go_wp2_with (with_reducible refine dyn_at ?_; refine wpList_dyn rfl rfl rfl HG1.out ?_)
  refine C.mono ?_
  intro e w2 hp
  have hon := hp.on HE.out (by
    intro v s r h
    unfold Rx.ofO at h
    split at h <;> cases h <;> exact ⟨Nat.le_refl _, Nat.le_refl _⟩)
  rcases hon with ⟨p, s2, hv, rfl, hkp, hm2, hr⟩ | ⟨u, hu, rfl, hend⟩
  · have hz2 := HZ.out.keep hkp
    have z2 := hz2.cell H.out
    obtain ⟨gg, o, len, cc, b, nc, r1, r2, r3, r4, r5, r6⟩ := HR.out
    have z3 := hz2.cell r4
    obtain ⟨l, l1, l2, l3, l4, l5⟩ := hm2.row r5 r6
    obtain ⟨ov, m1, m2, m3⟩ := hm2.out
    obtain ⟨x, hx, hr⟩ : ∃ x, l[p]? = some x ∧ r = .val x s2 := by
      unfold Ms.load at hr
      rw [l1] at hr
      replace hr : Rx.ofO (l[p]?) s2 = some r := hr
      cases hq : l[p]? with
      | none => rw [hq] at hr; cases hr
      | some x => rw [hq] at hr; cases hr; exact ⟨x, rfl, rfl⟩
    have hlt : p < l.length := (List.getElem?_eq_some_iff.1 hx).1
    have z4 : w2.cell? ⟨A.mb, 8, none⟩ = some (.slice (some ⟨gg, o, none⟩) len cc) := by rw [← r1]; exact blk_cell m1 8
    have z5 : w2.cell? ⟨b, p, none⟩ = some (.int .u64 x) := by rw [blk_cell l4 p]; exact u64s_get hx
    have q1 : decide ((k : Int) < len) = true := decide_eq_true (by omega)
    have q2 : (p < n) = True := eq_true (by omega)
    have HS := Lib.hid (And.intro hkp (And.intro hm2 (And.intro hr (l5 x (List.mem_of_getElem? hx)))))
    clear hp hkp hm2 hr hv C z1 hz2 r1 r4 r5 r6 l1 l2 l3 l4 l5 m1 m2 m3 hx hlt
    go_wp2_with fail
    go_quiet (fail)
    go_wp2_with fail
    refine bodyPost_ret (v := .tuple #[.int .u64 x, .bool true]) (by simp [results, Tryz.results209, go_sem]) rfl (PostX.val (s := s2) HS.out.2.2.1 HS.out.2.2.2 HS.out.1 HS.out.2.1 ?_)
    exact ⟨rfl, rfl, rfl, Nat.le_refl _, fun _ _ => rfl⟩
  · have HEND := Lib.hid hend
    clear hp hend C z1
    go_wp2_with fail
    refine bodyPost_ret (v := .tuple #[.int .u64 (0 : Nat), .bool false]) (by simp [results, Tryz.results209, go_sem]) rfl (HEND.out 0 _ (by unfold U64; decide) (Below.refl _ _))
end Go.Proofs.YtgmmfjmdpbhjnaaGreat

/-
  The closures of eval: an element of a row of all is given anew.
-/
namespace Go.Proofs.YtgmmfjmdpbhjnaaGreat
open Go.RowKit
variable {Z : Nat → Option Obj} {K K' : Nat → Prop} {w w' : World} {A : Adr} {fb sb : Nat}

theorem MachAt.store {s : Ms} (h : MachAt A K w s) {k b : Nat} (hb : A.gb[k]? = some b) (j v : Nat) (hv : U64 v) : MachAt A K (w.setCell ⟨b, j, none⟩ (.int .u64 v)) (s.store k j v) := by
  obtain ⟨ov, h1, h2, h3⟩ := h.out
  have hmem : b ∈ A.gb := List.mem_of_getElem? hb
  have hne : A.mb ≠ b := fun e => h.mb.2 (e ▸ hmem)
  refine ⟨⟨ov, blk_other h1 _ _ hne, ownsRow_eq h2 fun k hk => Below.heap_setCell _ _ _ _ (fun e => (h3 k hk).2.2 (e ▸ hmem)), h3⟩, h.mb, h.nd, ⟨by simp [Ms.store, h.len.1], ?_⟩, fun i b' l e e' => ?_, h.tk, h.lim, h.much, h.rd, h.cl,
    fun b hk => by simpa [World.setCell] using h.ks b hk⟩
  · rw [h.len.2]
    apply List.ext_getElem?
    intro i
    simp only [Ms.store, List.getElem?_map, List.getElem?_modify]
    cases s.gl[i]? with
    | none => rfl
    | some l0 =>
      show some l0.length = some (if k = i then l0.set j v else l0).length
      by_cases hi : k = i
      · rw [if_pos hi, List.length_set]
      · rw [if_neg hi]
  · simp only [Ms.store, List.getElem?_modify] at e'
    cases hq : s.gl[i]? with
    | none => rw [hq] at e'; simp at e'
    | some l0 =>
      rw [hq] at e'
      obtain ⟨k1, k2, k3⟩ := h.gl i b' l0 e hq
      replace e' : some (if k = i then l0.set j v else l0) = some l := e'
      by_cases hi : k = i
      · rw [if_pos hi] at e'
        cases e'
        subst hi
        rw [hb] at e; cases e
        refine ⟨k1, by rw [blk_set k2, u64s_set], fun x hx => ?_⟩
        rcases List.mem_or_eq_of_mem_set hx with hx | rfl
        · exact k3 x hx
        · exact hv
      · rw [if_neg hi] at e'
        cases e'
        refine ⟨k1, blk_other k2 _ _ fun e2 => ?_, k3⟩
        have e2 : b' = b := e2
        rw [e2] at e
        exact hi ((List.getElem?_inj (List.getElem?_eq_some_iff.1 hb).1 h.nd).1 (hb.trans e.symm))

set_option maxRecDepth 100000 in
/-- An element of a row of all is stored. -/
theorem stow_beh {pb ib k n j : Nat} (h1 : Zc Z pb 3 (.int .i64 k)) (h2 : Zc Z ib 0 (.int .u64 j)) (hR : RowZ Z A k n) (hj : j < n) :
    BehW A Z 198 #[ptrV pb, ptrV ib] (fun v s f => some (s.store k j v, f)) := by
  intro K w s f fb sb v r hz hm hf hkf hks hvu e
  cases e
  obtain ⟨gg, o, len, cc, b, nc, r1, r2, r3, r4, r5, r6⟩ := hR
  obtain ⟨l, l1, l2, l3, l4, l5⟩ := hm.row r5 r6
  obtain ⟨ov, m1, m2, m3⟩ := hm.out
  have hlt : j < l.length := by omega
  have q0 : w.cell? ⟨A.mb, 8, none⟩ = some (.slice (some ⟨gg, o, none⟩) len cc) := by rw [← r1]; exact blk_cell m1 8
  have q1 := hz.cell h1
  have q2 := hz.cell r4
  have q3 := hz.cell h2
  have q4 : w.cell? ⟨b, j, none⟩ = some (.int .u64 l[j]) := by rw [blk_cell l4 j]; exact u64s_get (List.getElem?_eq_getElem hlt)
  have q5 : w.frozen? ⟨b, j, none⟩ = false := blk_frozen l4 j
  have g1 : decide ((k : Int) < len) = true := decide_eq_true (by omega)
  have g2 : (j < n) = True := eq_true hj
  have zne : ∀ {c o : Nat} {v : Value}, Zc Z c o v → c ≠ b := fun {c o v} hzc e => by
    obtain ⟨cur, t, fz, e1, _⟩ := hzc
    exact l3 (.inl (e ▸ (hz _ _ e1).1))
  have HNE := Lib.hid (show A.mb ≠ b ∧ pb ≠ b ∧ gg ≠ b ∧ ib ≠ b from ⟨fun e => hm.mb.2 (e ▸ List.mem_of_getElem? r5), zne h1, zne r4, zne h2⟩)
  have HB := Lib.hid (And.intro r5 (And.intro l3 (And.intro l4 hlt)))
  have HM := Lib.hid hm
  have HF := Lib.hid hf
  have HV := Lib.hid hvu
  have HK := Lib.hid (And.intro hkf hks)
  clear hz hm hf hkf hks h1 h2 hvu r1 r4 r5 r6 l1 l3 l4 l5 m1 m2 m3 hj zne
  show Calls _ _ #[ptrV A.mb, ptrV fb, .int .u64 v, ptrV pb, ptrV ib] _ _
  unfold ptrV at *
  generalize l[j] = old at *
  clear hlt
  have hS0 : (w.drew.cell? ⟨A.mb, 8, none⟩ = some (.slice (some ⟨gg, o, none⟩) len cc) ∧ w.drew.cell? ⟨pb, 3, none⟩ = some (.int .i64 k) ∧ w.drew.cell? ⟨gg, o + k, none⟩ = some (.slice (some ⟨b, 0, none⟩) n nc) ∧ w.drew.cell? ⟨ib, 0, none⟩ = some (.int .u64 j) ∧ (∃ u, w.drew.cell? ⟨b, j, none⟩ = some (.int .u64 u)) ∧ w.drew.frozen? ⟨b, j, none⟩ = false) := ⟨q0, q1, q2, q3, ⟨_, q4⟩, q5⟩
  go_enter Tryz.func198, Tryz.ntmps198
  go_wp2_with fail
  refine wp_region_G (D := []) (S := fun w' => w'.cell? ⟨A.mb, 8, none⟩ = some (.slice (some ⟨gg, o, none⟩) len cc) ∧ w'.cell? ⟨pb, 3, none⟩ = some (.int .i64 k) ∧ w'.cell? ⟨gg, o + k, none⟩ = some (.slice (some ⟨b, 0, none⟩) n nc) ∧ w'.cell? ⟨ib, 0, none⟩ = some (.int .u64 j) ∧ (∃ u, w'.cell? ⟨b, j, none⟩ = some (.int .u64 u)) ∧ w'.frozen? ⟨b, j, none⟩ = false) Tryz.checked.mixed hS0 (fun hS => ?_)
  refine wpAnyG_read (i := 0) (v := ?v0) rfl (by kernel_rfl) (by kernel_rfl) (by kernel_rfl) (by kernel_rfl) (by kernel_rfl) ?q0 ?g0 ?y0 hS ?_  -- move t0
  case y0 => intro w' h; obtain ⟨s1, s2, s3, s4, s5, s6⟩ := h; go_simp; exact rfl
  case g0 => rfl
  case q0 => exact fun _ _ _ h => h
  go_simp
  refine wpAnyG_read (i := 1) (v := ?v1) rfl (by kernel_rfl) (by kernel_rfl) (by kernel_rfl) (by kernel_rfl) (by kernel_rfl) ?q1 ?g1 ?y1 hS ?_  -- nilCheck t8
  case y1 => intro w' h; obtain ⟨s1, s2, s3, s4, s5, s6⟩ := h; go_simp; exact rfl
  case g1 => rfl
  case q1 => exact fun _ _ _ h => h
  go_simp
  refine wpAnyG_read (i := 2) (v := ?v2) rfl (by kernel_rfl) (by kernel_rfl) (by kernel_rfl) (by kernel_rfl) (by kernel_rfl) ?q2 ?g2 ?y2 hS ?_  -- fieldAddr 83 t9 3
  case y2 => intro w' h; obtain ⟨s1, s2, s3, s4, s5, s6⟩ := h; go_simp; exact rfl
  case g2 => rfl
  case q2 => exact fun _ _ _ h => h
  go_simp
  refine wpAnyG_read (i := 3) (v := ?v3) rfl (by kernel_rfl) (by kernel_rfl) (by kernel_rfl) (by kernel_rfl) (by kernel_rfl) ?q3 ?g3 ?y3 hS ?_  -- load 79 t10
  case y3 => intro w' h; obtain ⟨s1, s2, s3, s4, s5, s6⟩ := h; go_simp; exact rfl
  case g3 => rfl
  case q3 => exact fun _ _ _ h => h
  go_simp
  refine wpAnyG_read (i := 4) (v := ?v4) rfl (by kernel_rfl) (by kernel_rfl) (by kernel_rfl) (by kernel_rfl) (by kernel_rfl) ?q4 ?g4 ?y4 hS ?_  -- fieldAddr 145 t3 2
  case y4 => intro w' h; obtain ⟨s1, s2, s3, s4, s5, s6⟩ := h; go_simp; exact rfl
  case g4 => rfl
  case q4 => exact fun _ _ _ h => h
  go_simp
  refine wpAnyG_read (i := 5) (v := ?v5) rfl (by kernel_rfl) (by kernel_rfl) (by kernel_rfl) (by kernel_rfl) (by kernel_rfl) ?q5 ?g5 ?y5 hS ?_  -- load 3 t12
  case y5 => intro w' h; obtain ⟨s1, s2, s3, s4, s5, s6⟩ := h; go_simp; exact rfl
  case g5 => rfl
  case q5 => exact fun _ _ _ h => h
  go_simp
  refine wpAnyG_read (i := 6) (v := ?v6) rfl (by kernel_rfl) (by kernel_rfl) (by kernel_rfl) (by kernel_rfl) (by kernel_rfl) ?q6 ?g6 ?y6 hS ?_  -- indexAddr 79 t11 t13
  case y6 => intro w' h; obtain ⟨s1, s2, s3, s4, s5, s6⟩ := h; go_simp; exact rfl
  case g6 => rfl
  case q6 => exact fun _ _ _ h => h
  go_simp
  refine wpAnyG_read (i := 7) (v := ?v7) rfl (by kernel_rfl) (by kernel_rfl) (by kernel_rfl) (by kernel_rfl) (by kernel_rfl) ?q7 ?g7 ?y7 hS ?_  -- load 85 t14
  case y7 => intro w' h; obtain ⟨s1, s2, s3, s4, s5, s6⟩ := h; go_simp; exact rfl
  case g7 => rfl
  case q7 => exact fun _ _ _ h => h
  go_simp
  refine wpAnyG_read (i := 8) (v := ?v8) rfl (by kernel_rfl) (by kernel_rfl) (by kernel_rfl) (by kernel_rfl) (by kernel_rfl) ?q8 ?g8 ?y8 hS ?_  -- load 25 t4
  case y8 => intro w' h; obtain ⟨s1, s2, s3, s4, s5, s6⟩ := h; go_simp; exact rfl
  case g8 => rfl
  case q8 => exact fun _ _ _ h => h
  go_simp
  refine wpAnyG_read (i := 9) (v := ?v9) rfl (by kernel_rfl) (by kernel_rfl) (by kernel_rfl) (by kernel_rfl) (by kernel_rfl) ?q9 ?g9 ?y9 hS ?_  -- move t2
  case y9 => intro w' h; obtain ⟨s1, s2, s3, s4, s5, s6⟩ := h; go_simp; exact rfl
  case g9 => rfl
  case q9 => exact fun _ _ _ h => h
  go_simp
  refine wpAnyG_read (i := 10) (v := ?v10) rfl (by kernel_rfl) (by kernel_rfl) (by kernel_rfl) (by kernel_rfl) (by kernel_rfl) ?q10 ?g10 ?y10 hS ?_  -- indexAddr 85 t15 t16
  case y10 => intro w' h; obtain ⟨s1, s2, s3, s4, s5, s6⟩ := h; go_simp; exact rfl
  case g10 => rfl
  case q10 => exact fun _ _ _ h => h
  go_simp
  refine wpAnyG_one (i := 11) (by kernel_rfl) rfl rfl (fun K hK => ?_)
  have s1 := hS.1
  have s2 := hS.2.1
  have s3 := hS.2.2.1
  have s4 := hS.2.2.2.1
  have s6 := hS.2.2.2.2.2
  refine hS.2.2.2.2.1.elim (fun u s5 => ?_)
  clear hS hS0 q0 q1 q2 q3 q4 q5
  go_wp2_with fail
  refine hK _ _ (fun _ => ?_) ?_
  · have hl : j < (u64s l).size := by have := HB.out.2.2.2; simpa [u64s] using this
    refine ⟨(cell_set_ne HNE.out.1).trans s1, (cell_set_ne HNE.out.2.1).trans s2, (cell_set_ne HNE.out.2.2.1).trans s3, (cell_set_ne HNE.out.2.2.2).trans s4, ⟨v, cell_set_at (w := w.drew) HB.out.2.2.1 hl⟩, blk_frozen (blk_set (w := w.drew) HB.out.2.2.1 j _) j⟩
  clear hK
  go_simp
  refine wpAnyG_done (by kernel_rfl) ?_ _
  go_wp2_with fail
  go_end0
  have hn := HB.out.2.1
  refine ⟨rfl, (Keep.refl _ w).drew.setCell (fun h => hn (.inl h)) _, MachAt.store (w := w.drew) (HM.out.below ((Below.refl _ w).drew)) HB.out.1 j v HV.out, ?_⟩
  have k := HF.out
  exact ⟨blk_other k.fr _ _ (fun e => hn (.inr (.inl e.symm))), blk_other k.sl _ _ (fun e => hn (.inr (.inr e.symm))), k.ne, k.u, k.r, k.z⟩

/-- put makes a closure -/
theorem put_mk (g1 g2 : Nat) (c1 c2 : Array Value) (w : World) :
    Calls Tryz.prog 153 #[fnV g1 c1, fnV g2 c2] w fun e w' => e = .returned (fnV 193 #[ptrV w.heap.size, ptrV (w.heap.size + 1)]) ∧ w' = (w.alloc (.cells #[fnV g1 c1] 225)).alloc (.cells #[fnV g2 c2] 228) := by
  unfold fnV ptrV
  go_enter Tryz.func153, Tryz.ntmps153
  go_wp2_with fail
  refine bodyPost_ret (v := fnV 193 #[ptrV w.heap.size, ptrV (w.heap.size + 1)]) (by simp [results, Tryz.results153, go_sem, fnV, ptrV]) rfl ⟨rfl, rfl⟩

theorem MachAt.more {s : Ms} (h : MachAt A K w s) (hb : Below w.heap.size w w') (hK : ∀ b, K' b → K b ∨ (w.heap.size ≤ b ∧ b < w'.heap.size)) : MachAt A K' w' s := by
  have h' := h.below hb
  obtain ⟨ov, k1, k2, k3⟩ := h.out
  have lt : ∀ b, b < w.heap.size → ¬ K b → ¬ K' b := fun b hlt hn hq => by
    rcases hK b hq with q | q
    · exact hn q
    · omega
  refine ⟨⟨ov, (hb.block _ (blk_lt k1)).trans k1, ownsRow_eq k2 fun k hk => hb.block k (ownsRow_lt k2 hk), fun k hk => ⟨lt k (ownsRow_lt k2 hk) (k3 k hk).1, (k3 k hk).2⟩⟩, ⟨lt _ (blk_lt k1) h.mb.1, h.mb.2⟩, h.nd, h.len, fun i b l e e' => ?_, h.tk, h.lim, h.much, h.rd, h.cl, fun b hb' => ?_⟩
  · obtain ⟨q1, q2, q3⟩ := h.gl i b l e e'
    exact ⟨lt _ (blk_lt q2) q1, (hb.block _ (blk_lt q2)).trans q2, q3⟩
  · rcases hK b hb' with q | q
    · exact h'.ks b q
    · exact q.2
theorem PostS.mono {r : Rs} {e : Ending} (h : PostS A K fb sb w r e w') (hk : ∀ b, K' b → K b) : PostS A K' fb sb w r e w' := by
  obtain ⟨h1, h2⟩ := h
  refine ⟨h1.mono hk, ?_⟩
  rcases h2 with ⟨v, s, f, q1, q2, q3, hm, hf⟩ | ⟨how, trap, q2, q3, q4, q5, q6, q7⟩
  · refine .inl ⟨v, s, f, q1, q2, q3, hm.mono fun b hb => ?_, hf⟩
    rcases hb with hb | hb
    · exact .inl (hk b hb)
    · exact .inr hb
  · exact .inr ⟨how, trap, q2, q3, q4, fun b hb => q5 b (hk b hb), fun h => q6 (hk _ h), q7⟩
theorem Zc.mono {Z' : Nat → Option Obj} (hs : ∀ b o, Z b = some o → Z' b = some o) {b o : Nat} {v : Value} (h : Zc Z b o v) : Zc Z' b o v := by
  obtain ⟨cur, t, fz, e, e'⟩ := h
  exact ⟨cur, t, fz, hs _ _ e, e'⟩
theorem RowZ.mono {Z' : Nat → Option Obj} (hs : ∀ b o, Z b = some o → Z' b = some o) {k n : Nat} (h : RowZ Z A k n) : RowZ Z' A k n := by
  obtain ⟨g, o, len, c, b, nc, r1, r2, r3, r4, r5⟩ := h
  exact ⟨g, o, len, c, b, nc, r1, r2, r3, r4.mono hs, r5⟩
theorem BehX.mono {Z' : Nat → Option Obj} (hs : ∀ b o, Z b = some o → Z' b = some o) {g : Nat} {c : Array Value} {run : Ms → List Nat → Option Rx} (h : BehX A Z g c run) : BehX A Z' g c run :=
  fun K w s f fb sb r hz hm hf hkf hks e => h K w s f fb sb r (fun b o e => hz b o (hs b o e)) hm hf hkf hks e

set_option maxHeartbeats 1000000 in
set_option maxRecDepth 100000 in
/-- An element of a row of all is given anew. -/
theorem seta_beh {d1 d2 pb k n g1 g2 : Nat} {c1 c2 : Array Value} {run1 run2 : Ms → List Nat → Option Rx} (h1 : Zc Z d1 0 (fnV g1 c1)) (h2 : Zc Z d2 0 (fnV g2 c2)) (h3 : Zc Z pb 3 (.int .i64 k)) (hR : RowZ Z A k n)
    (hg1 : isFn Tryz.prog g1) (hg2 : isFn Tryz.prog g2) (hgs : isFn Tryz.prog 198) (hgp : isFn Tryz.prog 193) (hb1 : BehX A Z g1 c1 run1) (hb2 : BehX A Z g2 c2 run2) (hlt : ∀ s f v s', run1 s f = some (.val v s') → v < n) (hgr : ∀ s f r, run2 s f = some r → Ms.le s r.ms) :
    BehS A Z 197 #[ptrV d1, ptrV d2, ptrV pb] (fun s f => Rx.onS (run1 s f.sl) fun j s => Rx.onS (run2 s f.sl) fun v s => some (.go 0 (s.store k j v) f)) := by
  intro K w s f fb sb r hz hm hf hkf hks e
  obtain ⟨r0, e0, e1⟩ := Rx.onS_some e
  have C := hb1 (KF K fb sb) w s f fb sb r0 hz.toKF hm hf (.inr (.inl rfl)) (.inr (.inr rfl)) e0
  have z1 := hz.cell h1
  have HZ := Lib.hid hz
  have H := Lib.hid (And.intro h2 (And.intro h3 hR))
  have HG1 := Lib.hid hg1
  have HG2 := Lib.hid hg2
  have HGS := Lib.hid (And.intro hgs hgp)
  have HB := Lib.hid hb2
  have HE := Lib.hid e1
  have HE0 := Lib.hid e0
  have HLT := Lib.hid hlt
  have HGR := Lib.hid hgr
  have HF := Lib.hid hf
  have Hfb := Lib.hid hkf
  have Hsb := Lib.hid hks
  clear hz hm hf hkf hks h1 h2 h3 hR hb1 hb2 e hg1 hg2 e0 e1 hlt hgr hgs hgp
  show Calls _ _ #[ptrV A.mb, ptrV fb, ptrV d1, ptrV d2, ptrV pb] _ _
  unfold ptrV at *
  go_enter Tryz.func197, Tryz.ntmps197
  go_wp2_with (with_reducible refine dyn_at ?_; refine wpList_dyn rfl rfl rfl HG1.out ?_)
  refine C.mono ?_
  intro e w2 hp
  have hon := hp.onS HF.out HE.out (by
    intro v s r h
    exact grow_onS h (fun x hx => HGR.out _ _ _ hx) fun v s r h => by cases h; exact ⟨Nat.le_refl _, Nat.le_refl _⟩)
  rcases hon with ⟨p, s2, hv, rfl, hkp, hm2, hr⟩ | ⟨u, hu, rfl, hend⟩
  · have hpn : p < n := by
      rcases hp.2 with ⟨v, s', q1, q2, q3, q4⟩ | ⟨u, how, trap, q1, q2, _⟩
      · have e0 := HE0.out
        rw [q1] at e0
        simp at q3
        have : p = v := by omega
        rw [this]; exact HLT.out _ _ _ _ e0
      · simp at q2
    have hz2 := HZ.out.keep hkp.ofKF
    have z2 := cell_below ((Below.refl w2.heap.size w2).alloc (Nat.le_refl _) (.cells #[.int .u64 p] 26)) (hz2.cell H.out.1)
    have HS := Lib.hid (And.intro hkp (And.intro hm2 (And.intro hr (And.intro hv hpn))))
    have HZ2 := Lib.hid hz2
    clear hp hkp hm2 hr hv C z1 hz2 hpn
    go_wp2_with fail
    refine (put_mk g2 198 c2 #[ptrV pb, ptrV w2.heap.size] _).mono ?_
    rintro e w5 ⟨rfl, hw5⟩
    have s3 : (w2.alloc (.cells #[.int .u64 p] 26)).heap.size = w2.heap.size + 1 := alloc_sz _ _
    rw [s3]
    obtain ⟨ib, hib⟩ : ∃ ib, ib = w2.heap.size := ⟨_, rfl⟩
    have b5 : Below w2.heap.size w2 w5 := by
      rw [hw5]
      exact ((((Below.refl w2.heap.size w2).alloc (Nat.le_refl _) _).alloc (by rw [alloc_sz]; omega) _).alloc (by rw [alloc_sz, alloc_sz]; omega) _)
    have sz5 : w5.heap.size = ib + 3 := by rw [hw5, alloc_sz, alloc_sz, alloc_sz, hib]
    have n0 : w5.heap[ib]? = some (.cells #[.int .u64 p] 26 (0, 0)) := by
      rw [hw5, Below.heap_alloc _ _ _ (by rw [alloc_sz, alloc_sz]; omega), Below.heap_alloc _ _ _ (by rw [alloc_sz]; omega), hib]
      exact heap_alloc_new _ _
    have n1 : w5.heap[ib + 1]? = some (.cells #[fnV g2 c2] 225 (0, 0)) := by
      rw [hw5, Below.heap_alloc _ _ _ (by rw [alloc_sz, alloc_sz]; omega), hib, ← s3]
      exact heap_alloc_new _ _
    have n2 : w5.heap[ib + 2]? = some (.cells #[fnV 198 #[ptrV pb, ptrV ib]] 228 (0, 0)) := by
      have h := heap_alloc_new ((w2.alloc (.cells #[.int .u64 p] 26)).alloc (.cells #[fnV g2 c2] 225)) (.cells #[fnV 198 #[ptrV pb, ptrV w2.heap.size]] 228)
      rw [alloc_sz, alloc_sz] at h
      rw [hw5, hib]
      exact h
    obtain ⟨Z', hZ'⟩ : ∃ Z' : Nat → Option Obj, Z' = fun b => if b = ib then some (.cells #[.int .u64 p] 26 (0, 0)) else if b = ib + 1 then some (.cells #[fnV g2 c2] 225 (0, 0)) else if b = ib + 2 then some (.cells #[fnV 198 #[ptrV pb, ptrV ib]] 228 (0, 0)) else Z b := ⟨_, rfl⟩
    have zlt : ∀ b o, Z b = some o → b < ib := fun b o e => by rw [hib]; exact blk_lt (HZ2.out b o e).2
    have hsub : ∀ b o, Z b = some o → Z' b = some o := fun b o e => by
      have := zlt b o e
      rw [hZ']
      show (if b = ib then _ else if b = ib + 1 then _ else if b = ib + 2 then _ else Z b) = _
      rw [if_neg (by omega), if_neg (by omega), if_neg (by omega)]; exact e
    have zz0 : Zc Z' ib 0 (.int .u64 p) := ⟨#[.int .u64 p], 26, (0, 0), by rw [hZ']; show (if ib = ib then _ else _) = _; rw [if_pos rfl], rfl⟩
    have zz1 : Zc Z' (ib + 1) 0 (fnV g2 c2) := ⟨#[fnV g2 c2], 225, (0, 0), by rw [hZ']; show (if ib + 1 = ib then _ else if ib + 1 = ib + 1 then _ else _) = _; rw [if_neg (by omega), if_pos rfl], rfl⟩
    have zz2 : Zc Z' (ib + 2) 0 (fnV 198 #[ptrV pb, ptrV ib]) := ⟨#[fnV 198 #[ptrV pb, ptrV ib]], 228, (0, 0), by rw [hZ']; show (if ib + 2 = ib then _ else if ib + 2 = ib + 1 then _ else if ib + 2 = ib + 2 then _ else _) = _; rw [if_neg (by omega), if_neg (by omega), if_pos rfl], rfl⟩
    obtain ⟨K', hK'⟩ : ∃ K' : Nat → Prop, K' = fun b => K b ∨ b = ib ∨ b = ib + 1 ∨ b = ib + 2 := ⟨_, rfl⟩
    have hkk : ∀ b, K b → K' b := fun b hb => by rw [hK']; exact .inl hb
    have has5 : Has Z' K' w5 := fun b o e => by
      rw [hZ'] at e
      replace e : (if b = ib then some (Obj.cells #[.int .u64 p] 26 (0, 0)) else if b = ib + 1 then some (Obj.cells #[fnV g2 c2] 225 (0, 0)) else if b = ib + 2 then some (Obj.cells #[fnV 198 #[ptrV pb, ptrV ib]] 228 (0, 0)) else Z b) = some o := e
      rw [hK']
      split at e
      · cases e; rename_i h; rw [h]; exact ⟨.inr (.inl rfl), n0⟩
      split at e
      · cases e; rename_i h; rw [h]; exact ⟨.inr (.inr (.inl rfl)), n1⟩
      split at e
      · cases e; rename_i h; rw [h]; exact ⟨.inr (.inr (.inr rfl)), n2⟩
      have h := HZ2.out b o e
      exact ⟨.inl h.1, (b5.block b (blk_lt h.2)).trans h.2⟩
    have hm5 : MachAt A (KF K' fb sb) w5 s2 := HS.out.2.1.more b5 fun b hb => by
      rw [hK'] at hb
      rcases hb with (hb | hb | hb | hb) | hb
      · exact .inl (.inl hb)
      · exact .inr ⟨by omega, by omega⟩
      · exact .inr ⟨by omega, by omega⟩
      · exact .inr ⟨by omega, by omega⟩
      · exact .inl (.inr hb)
    have hf2 : FrAt fb sb w2 f := HF.out.keep HS.out.1 (.inr (.inl rfl)) (.inr (.inr rfl))
    have hfl : fb < w2.heap.size := blk_lt hf2.fr
    have hsl : sb < w2.heap.size := blk_lt hf2.sl
    have hkfb : ¬ K' fb := by
                              rw [hK']
                              intro h
                              rcases h with h | h | h | h
                              · exact Hfb.out h
                              all_goals omega
    have hksb : ¬ K' sb := by
                              rw [hK']
                              intro h
                              rcases h with h | h | h | h
                              · exact Hsb.out h
                              all_goals omega
    have C2 := put_beh zz1 zz2 HG2.out HGS.out.1 (HB.out.mono hsub) (stow_beh (H.out.2.1.mono hsub) zz0 (H.out.2.2.mono hsub) HS.out.2.2.2.2) (fun v s f r e => by cases e; exact ⟨Nat.le_refl _, Nat.le_refl _⟩)
      K' w5 s2 f fb sb r has5 hm5 (hf2.below b5) hkfb hksb HS.out.2.2.1
    have HKK := Lib.hid (And.intro hkk (HS.out.1.ofKF.trans (Keep.ofBelow b5 fun b hb => HS.out.2.1.ks b (.inl hb))))
    clear hw5 b5 sz5 n0 n1 n2 hZ' zlt hsub zz0 zz1 zz2 hK' hkk has5 hm5 hf2 hfl hsl hkfb hksb s3 z2
    rw [← hib]
    have HIB := Lib.hid hib
    clear hib
    unfold ptrV at *
    go_wp2_with (with_reducible refine dyn_at ?_; refine wpList_dyn rfl rfl rfl HGS.out.2 ?_)
    refine C2.mono ?_
    intro e w6 hp
    obtain ⟨v, rfl, hv⟩ := hp.ret
    have HP := Lib.hid ((hp.mono HKK.out.1).after HKK.out.2)
    clear hp hv C2
    go_wp2_with fail
    refine bodyPost_ret (v := .int .i64 v) (by simp [results, Tryz.results197, go_sem]) rfl HP.out
  · have HEND := Lib.hid hend
    clear hp hend C z1
    go_wp2_with fail
    refine bodyPost_ret (v := .int .i64 (4 : Nat)) (by simp [results, Tryz.results197, go_sem]) rfl (HEND.out _ ((Below.refl _ _).alloc (Nat.le_refl _) _))
end Go.Proofs.YtgmmfjmdpbhjnaaGreat

/-
  The closures of eval: a loop with a step.
-/
namespace Go.Proofs.YtgmmfjmdpbhjnaaGreat
open Go.RowKit
variable {Z : Nat → Option Obj} {K K' : Nat → Prop} {w w' : World} {A : Adr} {fb sb : Nat}

theorem neq_nilS (g : Nat) (c : Array Value) (W : World) : (binOp BinOp.neq 110 (.func (.func g) #[] c) .nilFunc).run Tryz.prog W = .ok (.bool true) W := by
  kernel_rfl
set_option maxHeartbeats 1000000 in
set_option maxRecDepth 100000 in
theorem lps_beh {d1 d2 d3 g1 g2 g3 : Nat} {c1 c2 c3 : Array Value} {rc : Ms → List Nat → Option Rx} {rb rs : Ms → Fr → Option Rs} (h1 : Zc Z d1 0 (fnV g1 c1)) (h2 : Zc Z d2 0 (fnV g2 c2)) (h3 : Zc Z d3 0 (fnV g3 c3))
    (hg1 : isFn Tryz.prog g1) (hg2 : isFn Tryz.prog g2) (hg3 : isFn Tryz.prog g3) (hb1 : BehX A Z g1 c1 rc) (hb2 : BehS A Z g2 c2 rb) (hb3 : BehS A Z g3 c3 rs) (hgc : ∀ s f r, rc s f = some r → Ms.le s r.ms) (hgb : GrowsS rb) (hgs : GrowsS rs) (m : Nat) :
    BehS A Z 201 #[ptrV d1, ptrV d2, ptrV d3] (lpS rc rb rs m) := by
  intro K w s f fb sb r hz hm hf hkf hks e
  have HZ := Lib.hid hz
  have HM := Lib.hid hm
  have HF := Lib.hid hf
  have HE := Lib.hid e
  have H := Lib.hid (And.intro h1 (And.intro h2 h3))
  have HG1 := Lib.hid hg1
  have HG2 := Lib.hid hg2
  have HB1 := Lib.hid hb1
  have HB2 := Lib.hid hb2
  have HGR := Lib.hid (And.intro hgc (And.intro hgb hgs))
  have HG3 := Lib.hid hg3
  have HB3 := Lib.hid hb3
  have Hfb := Lib.hid hkf
  have Hsb := Lib.hid hks
  clear hz hm hf hkf hks h1 h2 h3 hb1 hb2 e hg1 hg2 hg3 hb3 hgc hgb hgs
  show Calls _ _ #[ptrV A.mb, ptrV fb, ptrV d1, ptrV d2, ptrV d3] _ _
  unfold ptrV at *
  go_enter Tryz.func201, Tryz.ntmps201
  go_wp2_with fail
  go_loopw [7] (fun _ wr => ∃ (m : Nat) (s1 : Ms) (f1 : Fr), Keep K w wr ∧ MachAt A (KF K fb sb) wr s1 ∧ FrAt fb sb wr f1 ∧ lpS rc rb rs m s1 f1 = some r) (fun _ wr => A.lim - tkOf A wr)
  case atStart => exact ⟨m, s, f, Keep.refl K w, HM.out, HF.out, HE.out⟩
  case round =>
    obtain ⟨m, s1, f1, hk, hm, hf, he⟩ := hrel
    cases m with
    | zero => cases he
    | succ m =>
    obtain ⟨r0, e0, e1⟩ := Rx.onS_some he
    have T := tick_ok A s1 hm
    have HR := Lib.hid (And.intro hk (And.intro hm (And.intro hf (And.intro e0 e1))))
    have HLE := Lib.hid (lpS_le HGR.out.1 HGR.out.2.1 HGR.out.2.2 _ he)
    clear hk hm hf he e0 e1
    unfold ptrV at T
    go_wp2_with fail
    refine T.mono ?_
    rintro e w1 ⟨hk, ⟨ht, rfl, hm1⟩ | ⟨ht, rfl, he, hlt⟩⟩
    · have hz1 := HZ.out.keep (HR.out.1.trans hk.ofKF)
      have z1 := hz1.cell H.out.1
      have HK := Lib.hid hk
      have C := HB1.out (KF K fb sb) w1 s1.tick f1 fb sb r0 hz1.toKF hm1 (HR.out.2.2.1.keep hk (.inr (.inl rfl)) (.inr (.inr rfl))) (.inr (.inl rfl)) (.inr (.inr rfl)) HR.out.2.2.2.1
      clear hk hm1 T hz1 ht
      unfold ptrV at *
      unfold fnV at z1
      have hn := neq_nil g1 c1
      go_wp2_with (with_reducible refine dyn_at ?_; refine wpList_dyn rfl rfl rfl HG1.out ?_)
      refine C.mono ?_
      intro e w2 hp
      have hon := hp.onS (HR.out.2.2.1.keep HK.out (.inr (.inl rfl)) (.inr (.inr rfl))) HR.out.2.2.2.2 (by
        intro v s r h
        split at h
        · cases h; exact Ms.le_refl _
        · refine grow_on h (fun x hx => HGR.out.2.1 _ _ _ hx) fun v s f r h => ?_
          split at h
          · cases h; exact Ms.le_refl _
          · split at h
            · cases h; exact Ms.le_refl _
            · refine grow_on h (fun x hx => HGR.out.2.2 _ _ _ hx) fun v s f r h9 => ?_
              split at h9
              · exact Ms.le_trans (Ms.le_tick _) (lpS_le HGR.out.1 HGR.out.2.1 HGR.out.2.2 m h9)
              · cases h9; exact Ms.le_refl _)
      rcases hon with ⟨p, s2, hv, rfl, hkp, hm2, hr⟩ | ⟨u, hu, rfl, hend⟩
      · have HK2 := Lib.hid (HK.out.trans hkp)
        by_cases h0 : p = 0
        · rw [if_pos h0] at hr
          subst h0
          have HS := Lib.hid (And.intro hm2 hr)
          clear hp hkp hm2 hv hr C z1 hn
          go_wp2_with fail
          refine bodyPost_ret (v := .int .i64 (0 : Nat)) (by simp [results, Tryz.results201, go_sem]) rfl ((PostS.go (by have := HS.out.2; cases this; rfl) (by omega) HS.out.1 (HR.out.2.2.1.keep HK2.out (.inr (.inl rfl)) (.inr (.inr rfl)))).after (HR.out.1.trans HK2.out.ofKF))
        · rw [if_neg h0] at hr
          have hne : ((p : Int) == 0) = false := t_ne (by omega)
          obtain ⟨r1, e0, e1⟩ := Rs.on_some hr
          have hz2 := HZ.out.keep (HR.out.1.trans HK2.out.ofKF)
          have z2 := hz2.cell H.out.2.1
          have C2 := HB2.out K w2 s2 f1 fb sb r1 hz2 hm2 (HR.out.2.2.1.keep HK2.out (.inr (.inl rfl)) (.inr (.inr rfl))) Hfb.out Hsb.out e0
          have HT2 := Lib.hid (show s1.tk < s2.tk by
            have a1 := hp.tk
            have a2 := hm2.tkOf
            have a3 := (HGR.out.1 _ _ _ HR.out.2.2.2.1).1
            have a4 : s1.tick.tk = s1.tk + 1 := rfl
            omega)
          have HGA := Lib.hid (HGR.out.2.1 _ _ _ e0)
          have HE1 := Lib.hid e1
          clear hp hkp hm2 hv hr hz2 e0 e1 C z1 hn h0
          unfold ptrV at C2
          go_wp2_with (with_reducible refine dyn_at ?_; refine wpList_dyn rfl rfl rfl HG2.out ?_)
          refine C2.mono ?_
          intro e w3 hp
          have hon := hp.on HE1.out (by
            intro h s f r hh
            split at hh
            · cases hh; exact Ms.le_refl _
            · split at hh
              · cases hh; exact Ms.le_refl _
              · refine grow_on hh (fun x hx => HGR.out.2.2 _ _ _ hx) fun v s f r h9 => ?_
                split at h9
                · exact Ms.le_trans (Ms.le_tick _) (lpS_le HGR.out.1 HGR.out.2.1 HGR.out.2.2 m h9)
                · cases h9; exact Ms.le_refl _)
          rcases hon with ⟨h, s3, f3, hh, rfl, hkp3, hm3, hf3, hr⟩ | ⟨rfl, hend⟩
          · have HS := Lib.hid (And.intro (HR.out.1.trans (HK2.out.ofKF.trans hkp3)) (And.intro hm3 (And.intro hf3 hr)))
            have z3 := (HZ.out.keep (HR.out.1.trans (HK2.out.ofKF.trans hkp3))).cell H.out.2.2
            have HT3 := Lib.hid (show s1.tk < s3.tk by
              have a1 := hp.tk hh
              have a2 := hm3.tkOf
              have a3 := HGA.out.1
              have a4 := HT2.out
              omega)
            clear hp hkp3 hm3 hf3 hr C2 z2
            have hcase : h = 0 ∨ h = 1 ∨ h = 2 ∨ h = 3 := by omega
            rcases hcase with rfl | rfl | rfl | rfl
            · obtain ⟨r2, e0, e1⟩ := Rs.on_some HS.out.2.2.2
              have C3 := HB3.out K w3 s3 f3 fb sb r2 (HZ.out.keep HS.out.1) HS.out.2.1 HS.out.2.2.1 Hfb.out Hsb.out e0
              have HE2 := Lib.hid e1
              have HGB := Lib.hid (HGR.out.2.2 _ _ _ e0)
              have hn3 := neq_nilS g3 c3
              clear e0 e1
              unfold ptrV at C3
              unfold fnV at z3
              go_wp2_with (with_reducible refine dyn_at ?_; refine wpList_dyn rfl rfl rfl HG3.out ?_)
              refine C3.mono ?_
              intro e w4 hp
              have hon := hp.on HE2.out (by
                intro h s f r hh
                split at hh
                · exact Ms.le_trans (Ms.le_tick _) (lpS_le HGR.out.1 HGR.out.2.1 HGR.out.2.2 m hh)
                · cases hh; exact Ms.le_refl _)
              rcases hon with ⟨h, s4, f4, hh, rfl, hkp4, hm4, hf4, hr⟩ | ⟨rfl, hend⟩
              · by_cases h0 : h = 0
                · subst h0
                  rw [if_pos rfl] at hr
                  have HS4 := Lib.hid (And.intro (HS.out.1.trans hkp4) (And.intro hm4 (And.intro hf4 hr)))
                  have HT4 := Lib.hid (show s1.tk < s4.tk by
                    have a1 := hp.tk hh
                    have a2 := hm4.tkOf
                    have a3 := HGB.out.1
                    have a4 := HT3.out
                    omega)
                  clear hp hkp4 hm4 hf4 hr C3 z3 hn3
                  go_wp2_with fail
                  go_round
                  case rel => exact ⟨m, s4, f4, HS4.out.1, HS4.out.2.1, HS4.out.2.2.1, HS4.out.2.2.2⟩
                  case measure =>
                    have a1 := HS4.out.2.1.tkOf
                    have a2 := HR.out.2.1.tkOf
                    have a3 := HT4.out
                    have a4 := HS4.out.2.1.tk
                    omega
                · rw [if_neg h0] at hr
                  have hne : ((h : Int) == 0) = false := t_ne (by omega)
                  have HS4 := Lib.hid (And.intro (HS.out.1.trans hkp4) (And.intro hm4 (And.intro hf4 hr)))
                  have HH := Lib.hid hh
                  clear hp hkp4 hm4 hf4 hr C3 z3 hn3 hh
                  go_wp2_with fail
                  refine bodyPost_ret (v := .int .i64 h) (by simp [results, Tryz.results201, go_sem]) rfl ((PostS.go (by have := HS4.out.2.2.2; cases this; rfl) HH.out HS4.out.2.1 HS4.out.2.2.1).after HS4.out.1)
              · have HEND := Lib.hid hend
                clear hp hend C3 z3 hn3
                go_wp2_with fail
                refine bodyPost_ret (v := .int .i64 (4 : Nat)) (by simp [results, Tryz.results201, go_sem]) rfl ((HEND.out _ (Below.refl _ _)).after HS.out.1)
            · go_wp2_with fail
              refine bodyPost_ret (v := .int .i64 (1 : Nat)) (by simp [results, Tryz.results201, go_sem]) rfl ((PostS.go (by have := HS.out.2.2.2; cases this; rfl) (by omega) HS.out.2.1 HS.out.2.2.1).after HS.out.1)
            · go_wp2_with fail
              refine bodyPost_ret (v := .int .i64 (0 : Nat)) (by simp [results, Tryz.results201, go_sem]) rfl ((PostS.go (by have := HS.out.2.2.2; cases this; rfl) (by omega) HS.out.2.1 HS.out.2.2.1).after HS.out.1)
            · obtain ⟨r2, e0, e1⟩ := Rs.on_some HS.out.2.2.2
              have C3 := HB3.out K w3 s3 f3 fb sb r2 (HZ.out.keep HS.out.1) HS.out.2.1 HS.out.2.2.1 Hfb.out Hsb.out e0
              have HE2 := Lib.hid e1
              have HGB := Lib.hid (HGR.out.2.2 _ _ _ e0)
              have hn3 := neq_nilS g3 c3
              clear e0 e1
              unfold ptrV at C3
              unfold fnV at z3
              go_wp2_with (with_reducible refine dyn_at ?_; refine wpList_dyn rfl rfl rfl HG3.out ?_)
              refine C3.mono ?_
              intro e w4 hp
              have hon := hp.on HE2.out (by
                intro h s f r hh
                split at hh
                · exact Ms.le_trans (Ms.le_tick _) (lpS_le HGR.out.1 HGR.out.2.1 HGR.out.2.2 m hh)
                · cases hh; exact Ms.le_refl _)
              rcases hon with ⟨h, s4, f4, hh, rfl, hkp4, hm4, hf4, hr⟩ | ⟨rfl, hend⟩
              · by_cases h0 : h = 0
                · subst h0
                  rw [if_pos rfl] at hr
                  have HS4 := Lib.hid (And.intro (HS.out.1.trans hkp4) (And.intro hm4 (And.intro hf4 hr)))
                  have HT4 := Lib.hid (show s1.tk < s4.tk by
                    have a1 := hp.tk hh
                    have a2 := hm4.tkOf
                    have a3 := HGB.out.1
                    have a4 := HT3.out
                    omega)
                  clear hp hkp4 hm4 hf4 hr C3 z3 hn3
                  go_wp2_with fail
                  go_round
                  case rel => exact ⟨m, s4, f4, HS4.out.1, HS4.out.2.1, HS4.out.2.2.1, HS4.out.2.2.2⟩
                  case measure =>
                    have a1 := HS4.out.2.1.tkOf
                    have a2 := HR.out.2.1.tkOf
                    have a3 := HT4.out
                    have a4 := HS4.out.2.1.tk
                    omega
                · rw [if_neg h0] at hr
                  have hne : ((h : Int) == 0) = false := t_ne (by omega)
                  have HS4 := Lib.hid (And.intro (HS.out.1.trans hkp4) (And.intro hm4 (And.intro hf4 hr)))
                  have HH := Lib.hid hh
                  clear hp hkp4 hm4 hf4 hr C3 z3 hn3 hh
                  go_wp2_with fail
                  refine bodyPost_ret (v := .int .i64 h) (by simp [results, Tryz.results201, go_sem]) rfl ((PostS.go (by have := HS4.out.2.2.2; cases this; rfl) HH.out HS4.out.2.1 HS4.out.2.2.1).after HS4.out.1)
              · have HEND := Lib.hid hend
                clear hp hend C3 z3 hn3
                go_wp2_with fail
                refine bodyPost_ret (v := .int .i64 (4 : Nat)) (by simp [results, Tryz.results201, go_sem]) rfl ((HEND.out _ (Below.refl _ _)).after HS.out.1)
          · have HEND := Lib.hid hend
            clear hp hend C2 z2
            go_wp2_with fail
            refine bodyPost_ret (v := .int .i64 (4 : Nat)) (by simp [results, Tryz.results201, go_sem]) rfl ((HEND.out _ (Below.refl _ _)).after (HR.out.1.trans HK2.out.ofKF))
      · have HEND := Lib.hid hend
        clear hp hend C z1 hn
        go_wp2_with fail
        refine bodyPost_ret (v := .int .i64 (4 : Nat)) (by simp [results, Tryz.results201, go_sem]) rfl ((HEND.out _ (Below.refl _ _)).after (HR.out.1.trans HK.out.ofKF))
    · have HHE := Lib.hid he
      have HK := Lib.hid hk
      have HT := Lib.hid ht
      have HL := Lib.hid hlt
      clear he hk T ht hlt
      go_wp2_with fail
      refine bodyPost_ret (v := .int .i64 (4 : Nat)) (by simp [results, Tryz.results201, go_sem]) rfl ⟨HR.out.1.trans HK.out.ofKF, .inr ⟨3, (0, _), rfl, HHE.out, ⟨f1, HR.out.2.2.1.keep HK.out (.inr (.inl rfl)) (.inr (.inr rfl))⟩, fun b hb => HL.out b (.inl hb), fun h => HM.out.mb.1 (.inl h), .inl ⟨.inl ?_, .inl rfl⟩⟩⟩
      have h1 := HLE.out.1
      have h2 := HT.out
      have h3 : s1.tick.tk = s1.tk + 1 := rfl
      omega

end Go.Proofs.YtgmmfjmdpbhjnaaGreat

/-
  The closures of eval: a sign ahead of one expression. Its region has two operations that may come first: a call, and a new block.
-/
namespace Go.Proofs.YtgmmfjmdpbhjnaaGreat
open Go.RowKit
section
variable {P : Program} {ops : Array Oper} {Q : Exit → Act → World → Prop} {md : Region.Mode} {D : List Nat} {S : World → Prop}
/-- One of two operations comes up next. -/
theorem wpAnyG_two {i j : Nat} {oi oj : Oper} {n : Nat} {l : Array Bool} {a : Act} {w : World} (hr : Region.ready md ops l = [i, j]) (hoi : ops[i]? = some oi) (hoj : ops[j]? = some oj)
    (hgi : Region.wanted oi (yielded ops a.tmps) = true) (hgj : Region.wanted oj (yielded ops a.tmps) = true)
    (h1 : ∀ K : Act → World → Prop, (∀ a' w', (D.contains i = false → S w') → wpAnyG P md ops Q D S n (l.setIfInBounds i true) a' w' → K a' w') → oi.wp P a w K Q)
    (h2 : ∀ K : Act → World → Prop, (∀ a' w', (D.contains j = false → S w') → wpAnyG P md ops Q D S n (l.setIfInBounds j true) a' w' → K a' w') → oj.wp P a w K Q) :
    wpAnyG P md ops Q D S (n + 1) l a w := by
  refine ⟨fun h0 => (by rw [hr] at h0; cases h0), fun k hk => ?_⟩
  rw [hr] at hk
  rcases List.mem_cons.1 hk with rfl | hk
  · unfold Go.wpOp
    simp only [hoi]
    rw [if_pos hgi]
    exact .inl (h1 _ fun a' w' hS hW => ⟨hS, hW⟩)
  · obtain rfl : k = j := by simpa using hk
    unfold Go.wpOp
    simp only [hoj]
    rw [if_pos hgj]
    exact .inl (h2 _ fun a' w' hS hW => ⟨hS, hW⟩)
end
theorem cell_blk {w : World} {b o : Nat} {v : Value} (h : w.cell? ⟨b, o, none⟩ = some v) : b < w.heap.size := by
  unfold World.cell? at h
  cases hq : w.heap[b]? with
  | none => simp [hq] at h
  | some x => exact blk_lt hq
theorem cell_apart {w : World} {b o nb no : Nat} {v u : Value} (h : w.cell? ⟨b, o, none⟩ = some v) (hn : b ≠ nb) : (w.setCell ⟨nb, no, none⟩ u).cell? ⟨b, o, none⟩ = some v := by
  have e : (w.setCell ⟨nb, no, none⟩ u).heap[b]? = w.heap[b]? := Below.heap_setCell _ _ _ _ hn
  unfold World.cell? at h ⊢
  rw [e]; exact h
theorem belowU {w w1 w2 : World} (b1 : Below w.heap.size w w1) (b2 : Below w1.heap.size w1 w2) : Below w.heap.size w w2 :=
  ⟨b2.os.trans b1.os, b2.tape.trans b1.tape, b2.output.trans b1.output, Nat.le_trans b1.size b2.size, fun b hb => (b2.block b (Nat.lt_of_lt_of_le hb b1.size)).trans (b1.block b hb)⟩
theorem below_poke {w0 w : World} {nb no : Nat} {u : Value} (h : Below w0.heap.size w0 w) (hn : w0.heap.size ≤ nb) : Below w0.heap.size w0 (w.setCell ⟨nb, no, none⟩ u) :=
  ⟨h.os, h.tape, h.output, by have := h.size; simpa [World.setCell] using this, fun b hb => (Below.heap_setCell _ _ _ _ (show b ≠ nb by omega)).trans (h.block b hb)⟩
variable {Z : Nat → Option Obj} {K K' : Nat → Prop} {w w' : World} {A : Adr}

set_option maxHeartbeats 4000000 in
set_option maxRecDepth 100000 in
theorem un_beh {d xb p o tb g k : Nat} {c : Array Value} {t : GTy} {run : Ms → List Nat → Option Rx} (h1 : Zc Z d 0 (fnV g c)) (hx : Zc Z xb 0 (.pointer (some ⟨p, o, none⟩))) (hk : Zc Z p o (.int .i64 k))
    (hkk : 6 ≤ k ∧ k ≤ 8) (h2 : TyAt Z tb t) (ht : okT t)
    (hg : isFn Tryz.prog g) (hb : BehX A Z g c run) :
    BehX A Z 211 #[ptrV d, ptrV xb, ptrV tb] (fun s f => Rx.on (run s f) fun v s => some (.val (unN k v t).1 s)) := by
  intro K w s f fb sb r hz hm hf hkf hks e
  obtain ⟨r0, e0, e1⟩ := Rx.on_some e
  have C := hb K w s f fb sb r0 hz hm hf hkf hks e0
  have c1 := hz.cell h1
  have HZ := Lib.hid hz
  have H2 := Lib.hid h2
  have HG0 := Lib.hid hg
  have HT := Lib.hid ht
  have HX := Lib.hid hx
  have HKK := Lib.hid hkk
  have HKC := Lib.hid hk
  have HE := Lib.hid e1
  clear hz hm hf hkf hks h1 hb e hg e0 h2 ht hx hkk hk e1
  show Calls _ _ #[ptrV A.mb, ptrV fb, ptrV d, ptrV xb, ptrV tb] _ _
  unfold ptrV at *
  go_enter Tryz.func211, Tryz.ntmps211
  go_wp2_with (with_reducible refine dyn_at ?_; refine wpList_dyn rfl rfl rfl HG0.out ?_)
  refine C.mono ?_
  intro e w2 hp
  have hon := hp.on HE.out (by intro v s r h; cases h; exact ⟨Nat.le_refl _, Nat.le_refl _⟩)
  rcases hon with ⟨v, s2, hv, rfl, hkp, hm2, hr⟩ | ⟨u, hu, rfl, hend⟩
  · have CV := fun W => un_ok k v t HKK.out HT.out hv W
    have hz2 := HZ.out.keep hkp
    have hS0 : (w2.drew.cell? ⟨xb, 0, none⟩ = some (.pointer (some ⟨p, o, none⟩)) ∧ w2.drew.cell? ⟨p, o, none⟩ = some (.int .i64 k) ∧ w2.drew.cell? ⟨tb, 0, none⟩ = some (.int .i64 t.bits) ∧ w2.drew.cell? ⟨tb, 1, none⟩ = some (.bool t.sgn)) :=
      ⟨hz2.cell HX.out, hz2.cell HKC.out, hz2.cell H2.out.1, hz2.cell H2.out.2⟩
    have HLT := Lib.hid (show xb < w2.heap.size ∧ p < w2.heap.size ∧ tb < w2.heap.size from ⟨cell_blk (hz2.cell HX.out), cell_blk (hz2.cell HKC.out), cell_blk (hz2.cell H2.out.1)⟩)
    have HR := Lib.hid hr
    have HM2 := Lib.hid hm2
    have HKP := Lib.hid hkp
    have HU := Lib.hid (un_u64 k v t HT.out)
    clear hp c1 C hz2 hr hm2 hkp hv
    unfold unV at CV
    generalize hn : unN k v t = n at CV HU HR
    clear hn
    obtain ⟨n1, n2⟩ := n
    unfold tyV at CV
    simp only at CV HU HR
    have HB2 := Lib.hid (show Below w2.heap.size w2 w2.drew from ⟨rfl, rfl, rfl, Nat.le_refl _, fun _ _ => rfl⟩)
    go_wp2_with fail
    refine wp_region_G (D := []) (S := fun w' => w'.cell? ⟨xb, 0, none⟩ = some (.pointer (some ⟨p, o, none⟩)) ∧ w'.cell? ⟨p, o, none⟩ = some (.int .i64 k) ∧ w'.cell? ⟨tb, 0, none⟩ = some (.int .i64 t.bits) ∧ w'.cell? ⟨tb, 1, none⟩ = some (.bool t.sgn)) Tryz.checked.mixed hS0 (fun hS => ?_)
    clear hS0
    generalize w2.drew = w3 at *
    refine wpAnyG_read (i := 0) (v := ?va0) rfl (by kernel_rfl) (by kernel_rfl) (by kernel_rfl) (by kernel_rfl) (by kernel_rfl) ?qa0 ?ga0 ?ya0 hS ?_
    case ya0 => intro w' h; obtain ⟨s1, s2, s3, s4⟩ := h; go_simp; exact rfl
    case ga0 => rfl
    case qa0 => exact fun _ _ _ h => h
    go_simp
    refine wpAnyG_read (i := 1) (v := ?va1) rfl (by kernel_rfl) (by kernel_rfl) (by kernel_rfl) (by kernel_rfl) (by kernel_rfl) ?qa1 ?ga1 ?ya1 hS ?_
    case ya1 => intro w' h; obtain ⟨s1, s2, s3, s4⟩ := h; go_simp; exact rfl
    case ga1 => rfl
    case qa1 => exact fun _ _ _ h => h
    go_simp
    refine wpAnyG_read (i := 2) (v := ?va2) rfl (by kernel_rfl) (by kernel_rfl) (by kernel_rfl) (by kernel_rfl) (by kernel_rfl) ?qa2 ?ga2 ?ya2 hS ?_
    case ya2 => intro w' h; obtain ⟨s1, s2, s3, s4⟩ := h; go_simp; exact rfl
    case ga2 => rfl
    case qa2 => exact fun _ _ _ h => h
    go_simp
    refine wpAnyG_read (i := 3) (v := ?va3) rfl (by kernel_rfl) (by kernel_rfl) (by kernel_rfl) (by kernel_rfl) (by kernel_rfl) ?qa3 ?ga3 ?ya3 hS ?_
    case ya3 => intro w' h; obtain ⟨s1, s2, s3, s4⟩ := h; go_simp; exact rfl
    case ga3 => rfl
    case qa3 => exact fun _ _ _ h => h
    go_simp
    refine wpAnyG_read (i := 4) (v := ?va4) rfl (by kernel_rfl) (by kernel_rfl) (by kernel_rfl) (by kernel_rfl) (by kernel_rfl) ?qa4 ?ga4 ?ya4 hS ?_
    case ya4 => intro w' h; obtain ⟨s1, s2, s3, s4⟩ := h; go_simp; exact rfl
    case ga4 => rfl
    case qa4 => exact fun _ _ _ h => h
    go_simp
    refine wpAnyG_read (i := 5) (v := ?va5) rfl (by kernel_rfl) (by kernel_rfl) (by kernel_rfl) (by kernel_rfl) (by kernel_rfl) ?qa5 ?ga5 ?ya5 hS ?_
    case ya5 => intro w' h; obtain ⟨s1, s2, s3, s4⟩ := h; go_simp; exact rfl
    case ga5 => rfl
    case qa5 => exact fun _ _ _ h => h
    go_simp
    refine wpAnyG_two (i := 6) (j := 11) (by kernel_rfl) rfl rfl rfl rfl (fun K hK => ?_) (fun K hK => ?_)
    · go_wp2_with fail
      refine (CV _).mono ?_
      rintro e w4 ⟨rfl, hbel⟩
      clear CV
      obtain ⟨s1, s2, s3, s4⟩ := hS
      have hS := (⟨cell_below hbel s1, cell_below hbel s2, cell_below hbel s3, cell_below hbel s4⟩ : _ ∧ _ ∧ _ ∧ _)
      have HB4 := Lib.hid (belowU HB2.out hbel)
      clear hbel s1 s2 s3 s4
      refine hK _ _ (fun _ => hS) ?_
      clear hK
      go_simp
      refine wpAnyG_read (i := 7) (v := ?vb7) rfl (by kernel_rfl) (by kernel_rfl) (by kernel_rfl) (by kernel_rfl) (by kernel_rfl) ?qb7 ?gb7 ?yb7 hS ?_
      case yb7 => intro w' h; obtain ⟨s1, s2, s3, s4⟩ := h; go_simp; exact rfl
      case gb7 => rfl
      case qb7 => exact fun _ _ _ h => h
      go_simp
      refine wpAnyG_read (i := 8) (v := ?vb8) rfl (by kernel_rfl) (by kernel_rfl) (by kernel_rfl) (by kernel_rfl) (by kernel_rfl) ?qb8 ?gb8 ?yb8 hS ?_
      case yb8 => intro w' h; obtain ⟨s1, s2, s3, s4⟩ := h; go_simp; exact rfl
      case gb8 => rfl
      case qb8 => exact fun _ _ _ h => h
      go_simp
      refine wpAnyG_read (i := 9) (v := ?vb9) rfl (by kernel_rfl) (by kernel_rfl) (by kernel_rfl) (by kernel_rfl) (by kernel_rfl) ?qb9 ?gb9 ?yb9 hS ?_
      case yb9 => intro w' h; obtain ⟨s1, s2, s3, s4⟩ := h; go_simp; exact rfl
      case gb9 => rfl
      case qb9 => exact fun _ _ _ h => h
      go_simp
      refine wpAnyG_read (i := 10) (v := ?vb10) rfl (by kernel_rfl) (by kernel_rfl) (by kernel_rfl) (by kernel_rfl) (by kernel_rfl) ?qb10 ?gb10 ?yb10 hS ?_
      case yb10 => intro w' h; obtain ⟨s1, s2, s3, s4⟩ := h; go_simp; exact rfl
      case gb10 => rfl
      case qb10 => exact fun _ _ _ h => h
      go_simp
      refine wpAnyG_one (i := 11) (by kernel_rfl) rfl rfl (fun K hK => ?_)
      go_wp2_with fail
      obtain ⟨s1, s2, s3, s4⟩ := hS
      have hbl := (Below.refl _ w4).alloc (Nat.le_refl _) (.cells #[.int .i64 0, .bool false] 72)
      have hS := (⟨cell_below hbl s1, cell_below hbl s2, cell_below hbl s3, cell_below hbl s4⟩ : _ ∧ _ ∧ _ ∧ _)
      have hnew := heap_alloc_new w4 (.cells #[.int .i64 0, .bool false] 72)
      have HBN := Lib.hid (belowU HB4.out hbl)
      have HNB := Lib.hid (show w2.heap.size ≤ w4.heap.size from HB4.out.size)
      have HNE := Lib.hid (show xb ≠ w4.heap.size ∧ p ≠ w4.heap.size ∧ tb ≠ w4.heap.size from ⟨by have := HLT.out.1; have := HNB.out; omega, by have := HLT.out.2.1; have := HNB.out; omega, by have := HLT.out.2.2; have := HNB.out; omega⟩)
      refine hK _ _ (fun _ => hS) ?_
      clear hK s1 s2 s3 s4 hbl
      generalize w4.alloc (.cells #[.int .i64 0, .bool false] 72) = w5 at *
      generalize w4.heap.size = nb at *
      have f0 := blk_frozen hnew 0
      have f1 := blk_frozen hnew 1
      have d0 : w5.cell? ⟨nb, 0, none⟩ = some (.int .i64 0) := blk_cell hnew 0
      have d1 : w5.cell? ⟨nb, 1, none⟩ = some (.bool false) := blk_cell hnew 1
      go_simp
      refine wpAnyG_one (i := 12) (by kernel_rfl) rfl rfl (fun K hK => ?_)
      go_wp2_with fail
      refine hK _ _ (fun _ => hS) ?_
      clear hK
      go_simp
      refine wpAnyG_one (i := 13) (by kernel_rfl) rfl rfl (fun K hK => ?_)
      go_wp2_with fail
      obtain ⟨s1, s2, s3, s4⟩ := hS
      obtain ⟨w6, hw6⟩ : ∃ w6, w6 = (w5.setCell ⟨nb, 0, none⟩ (.int .i64 n2.bits)).setCell ⟨nb, 1, none⟩ (.bool n2.sgn) := ⟨_, rfl⟩
      rw [← hw6]
      have t1 : w6.cell? ⟨xb, 0, none⟩ = some (.pointer (some ⟨p, o, none⟩)) := by rw [hw6]; exact cell_apart (cell_apart s1 HNE.out.1) HNE.out.1
      have t2 : w6.cell? ⟨p, o, none⟩ = some (.int .i64 k) := by rw [hw6]; exact cell_apart (cell_apart s2 HNE.out.2.1) HNE.out.2.1
      have t3 : w6.cell? ⟨tb, 0, none⟩ = some (.int .i64 t.bits) := by rw [hw6]; exact cell_apart (cell_apart s3 HNE.out.2.2) HNE.out.2.2
      have t4 : w6.cell? ⟨tb, 1, none⟩ = some (.bool t.sgn) := by rw [hw6]; exact cell_apart (cell_apart s4 HNE.out.2.2) HNE.out.2.2
      have hbe : Below w2.heap.size w2 w6 := by rw [hw6]; exact below_poke (below_poke HBN.out HNB.out) HNB.out
      have HBE := Lib.hid hbe
      have hS := (⟨t1, t2, t3, t4⟩ : _ ∧ _ ∧ _ ∧ _)
      clear hw6 t1 t2 t3 t4 hbe f0 f1 d0 d1 hnew
      refine hK _ _ (fun _ => hS) ?_
      clear hK s1 s2 s3 s4
      go_simp
      refine wpAnyG_one (i := 14) (by kernel_rfl) rfl rfl (fun K hK => ?_)
      go_wp2_with fail
      refine hK _ _ (fun _ => hS) ?_
      clear hK
      go_simp
      refine wpAnyG_done (by kernel_rfl) ?_ _
      go_wp2_with fail
      cases HR.out
      exact bodyPost_ret (v := .tuple #[.int .u64 (n1 : Nat), .bool true]) (by simp [results, Tryz.results211, go_sem]) rfl ⟨HKP.out.below HM2.out.ks HBE.out, .inl ⟨n1, s2, rfl, HU.out, rfl, HM2.out.below HBE.out⟩⟩
    · go_wp2_with fail
      obtain ⟨s1, s2, s3, s4⟩ := hS
      have hbl := (Below.refl _ w3).alloc (Nat.le_refl _) (.cells #[.int .i64 0, .bool false] 72)
      have hS := (⟨cell_below hbl s1, cell_below hbl s2, cell_below hbl s3, cell_below hbl s4⟩ : _ ∧ _ ∧ _ ∧ _)
      have hnew := heap_alloc_new w3 (.cells #[.int .i64 0, .bool false] 72)
      have HB4 := Lib.hid (belowU HB2.out hbl)
      have HNB := Lib.hid (show w2.heap.size ≤ w3.heap.size from HB2.out.size)
      have HNE := Lib.hid (show xb ≠ w3.heap.size ∧ p ≠ w3.heap.size ∧ tb ≠ w3.heap.size from ⟨by have := HLT.out.1; have := HNB.out; omega, by have := HLT.out.2.1; have := HNB.out; omega, by have := HLT.out.2.2; have := HNB.out; omega⟩)
      refine hK _ _ (fun _ => hS) ?_
      clear hK s1 s2 s3 s4 hbl
      generalize w3.alloc (.cells #[.int .i64 0, .bool false] 72) = w4 at *
      generalize w3.heap.size = nb at *
      have HNEW := Lib.hid hnew
      clear hnew
      go_simp
      refine wpAnyG_one (i := 6) (by kernel_rfl) rfl rfl (fun K hK => ?_)
      go_wp2_with fail
      refine (CV _).mono ?_
      rintro e w5 ⟨rfl, hbel⟩
      clear CV
      obtain ⟨s1, s2, s3, s4⟩ := hS
      have hS := (⟨cell_below hbel s1, cell_below hbel s2, cell_below hbel s3, cell_below hbel s4⟩ : _ ∧ _ ∧ _ ∧ _)
      have hnew := (hbel.block _ (blk_lt HNEW.out)).trans HNEW.out
      have HBN := Lib.hid (belowU HB4.out hbel)
      clear hbel s1 s2 s3 s4
      have f0 := blk_frozen hnew 0
      have f1 := blk_frozen hnew 1
      have d0 : w5.cell? ⟨nb, 0, none⟩ = some (.int .i64 0) := blk_cell hnew 0
      have d1 : w5.cell? ⟨nb, 1, none⟩ = some (.bool false) := blk_cell hnew 1
      refine hK _ _ (fun _ => hS) ?_
      clear hK
      go_simp
      refine wpAnyG_read (i := 7) (v := ?vd7) rfl (by kernel_rfl) (by kernel_rfl) (by kernel_rfl) (by kernel_rfl) (by kernel_rfl) ?qd7 ?gd7 ?yd7 hS ?_
      case yd7 => intro w' h; obtain ⟨s1, s2, s3, s4⟩ := h; go_simp; exact rfl
      case gd7 => rfl
      case qd7 => exact fun _ _ _ h => h
      go_simp
      refine wpAnyG_read (i := 8) (v := ?vd8) rfl (by kernel_rfl) (by kernel_rfl) (by kernel_rfl) (by kernel_rfl) (by kernel_rfl) ?qd8 ?gd8 ?yd8 hS ?_
      case yd8 => intro w' h; obtain ⟨s1, s2, s3, s4⟩ := h; go_simp; exact rfl
      case gd8 => rfl
      case qd8 => exact fun _ _ _ h => h
      go_simp
      refine wpAnyG_read (i := 9) (v := ?vd9) rfl (by kernel_rfl) (by kernel_rfl) (by kernel_rfl) (by kernel_rfl) (by kernel_rfl) ?qd9 ?gd9 ?yd9 hS ?_
      case yd9 => intro w' h; obtain ⟨s1, s2, s3, s4⟩ := h; go_simp; exact rfl
      case gd9 => rfl
      case qd9 => exact fun _ _ _ h => h
      go_simp
      refine wpAnyG_read (i := 10) (v := ?vd10) rfl (by kernel_rfl) (by kernel_rfl) (by kernel_rfl) (by kernel_rfl) (by kernel_rfl) ?qd10 ?gd10 ?yd10 hS ?_
      case yd10 => intro w' h; obtain ⟨s1, s2, s3, s4⟩ := h; go_simp; exact rfl
      case gd10 => rfl
      case qd10 => exact fun _ _ _ h => h
      go_simp
      refine wpAnyG_one (i := 12) (by kernel_rfl) rfl rfl (fun K hK => ?_)
      go_wp2_with fail
      refine hK _ _ (fun _ => hS) ?_
      clear hK
      go_simp
      refine wpAnyG_one (i := 13) (by kernel_rfl) rfl rfl (fun K hK => ?_)
      go_wp2_with fail
      obtain ⟨s1, s2, s3, s4⟩ := hS
      obtain ⟨w6, hw6⟩ : ∃ w6, w6 = (w5.setCell ⟨nb, 0, none⟩ (.int .i64 n2.bits)).setCell ⟨nb, 1, none⟩ (.bool n2.sgn) := ⟨_, rfl⟩
      rw [← hw6]
      have t1 : w6.cell? ⟨xb, 0, none⟩ = some (.pointer (some ⟨p, o, none⟩)) := by rw [hw6]; exact cell_apart (cell_apart s1 HNE.out.1) HNE.out.1
      have t2 : w6.cell? ⟨p, o, none⟩ = some (.int .i64 k) := by rw [hw6]; exact cell_apart (cell_apart s2 HNE.out.2.1) HNE.out.2.1
      have t3 : w6.cell? ⟨tb, 0, none⟩ = some (.int .i64 t.bits) := by rw [hw6]; exact cell_apart (cell_apart s3 HNE.out.2.2) HNE.out.2.2
      have t4 : w6.cell? ⟨tb, 1, none⟩ = some (.bool t.sgn) := by rw [hw6]; exact cell_apart (cell_apart s4 HNE.out.2.2) HNE.out.2.2
      have hbe : Below w2.heap.size w2 w6 := by rw [hw6]; exact below_poke (below_poke HBN.out HNB.out) HNB.out
      have HBE := Lib.hid hbe
      have hS := (⟨t1, t2, t3, t4⟩ : _ ∧ _ ∧ _ ∧ _)
      clear hw6 t1 t2 t3 t4 hbe f0 f1 d0 d1 hnew
      refine hK _ _ (fun _ => hS) ?_
      clear hK s1 s2 s3 s4
      go_simp
      refine wpAnyG_one (i := 14) (by kernel_rfl) rfl rfl (fun K hK => ?_)
      go_wp2_with fail
      refine hK _ _ (fun _ => hS) ?_
      clear hK
      go_simp
      refine wpAnyG_done (by kernel_rfl) ?_ _
      go_wp2_with fail
      cases HR.out
      exact bodyPost_ret (v := .tuple #[.int .u64 (n1 : Nat), .bool true]) (by simp [results, Tryz.results211, go_sem]) rfl ⟨HKP.out.below HM2.out.ks HBE.out, .inl ⟨n1, s2, rfl, HU.out, rfl, HM2.out.below HBE.out⟩⟩
  · have HEND := Lib.hid hend
    clear hp hend C c1
    go_wp2_with fail
    refine bodyPost_ret (v := .tuple #[.int .u64 (0 : Nat), .bool false]) (by simp [results, Tryz.results211, go_sem]) rfl (HEND.out 0 _ (by unfold U64; decide) (Below.refl _ _))

end Go.Proofs.YtgmmfjmdpbhjnaaGreat
