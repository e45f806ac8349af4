/-
  Texts joined: CatP MapP PurP UpP.
-/
import Derived.Test.YthfgkmjbfkociaaGreatJEa
import Derived.KernelRfl
/-
  What cat means, plainly: it tells what comes in.
-/
namespace Go.Proofs.YthfgkmjbfkociaaGreat

/-- a byte, or the sign that there is none -/
def isCh (x : Nat) : Prop := x < 256 ∨ x = 65535
theorem conv_ch {x : Nat} (h : isCh x) : convN x intT intT = x := by
  unfold convN intT sgnN
  unfold isCh at h
  simp only [if_true]
  split <;> omega
theorem ge0_all : (List.range 256).all (fun y => binN 19 y 0 intT intT == some 1) = true := by kernel_rfl
theorem ge0_ch {x : Nat} (h : isCh x) : binN 19 x 0 intT intT = some (if x = 65535 then 0 else 1) := by
  rcases h with h | rfl
  · have := List.all_eq_true.1 ge0_all x (List.mem_range.2 h)
    rw [if_neg (by omega)]
    simpa using this
  · rfl

/-- what stands at a place of what comes in -/
def curC (inp : List Nat) (i : Nat) : Nat := (inp[i]?).getD 65535
theorem cur_ch {inp : List Nat} (hb : ∀ v ∈ inp, v < 256) (i : Nat) : isCh (curC inp i) := by
  unfold curC
  cases h : inp[i]? with
  | none => exact .inr rfl
  | some v => exact .inl (hb v (List.mem_of_getElem? h))
theorem cur_lt {inp : List Nat} (hb : ∀ v ∈ inp, v < 256) {i : Nat} (hi : i < inp.length) : inp[i]? = some (curC inp i) ∧ curC inp i < 256 := by
  have h := List.getElem?_eq_getElem hi
  unfold curC
  rw [h]
  exact ⟨rfl, hb _ (List.getElem_mem hi)⟩
theorem cur_end {inp : List Nat} {i : Nat} (hi : inp.length ≤ i) : curC inp i = 65535 := by unfold curC; rw [List.getElem?_eq_none hi]; rfl

section
variable {inp : List Nat} (hb : ∀ v ∈ inp, v < 256) (bd : List (List Sm × Nat)) (n : Nat)
/-- a byte is got: as a number of sixteen bits -/
theorem get_ch (hb : ∀ v ∈ inp, v < 256) (s : Ms) (f : List Nat) (i : Nat) (hr : s.rd = min i inp.length) :
    Rx.conv (ev inp bd (n + 1) .get s f) intT intT = some (.val (curC inp i) { s.tick with rd := min (i + 1) inp.length }) := by
  show Rx.conv (if s.rd = inp.length then some (.val 65535 s.tick) else Rx.ofO inp[s.rd]? { s.tick with rd := s.rd + 1 }) intT intT = _
  by_cases hi : i < inp.length
  · rw [if_neg (by omega), hr, Nat.min_eq_left (by omega), (cur_lt hb hi).1]
    show some (Rx.val (convN (curC inp i) intT intT) _) = _
    rw [conv_ch (cur_ch hb i), Nat.min_eq_left (by omega)]
  · rw [if_pos (by omega)]
    show some (Rx.val (convN 65535 intT intT) _) = _
    rw [conv_ch (.inr rfl), cur_end (by omega), Nat.min_eq_right (by omega)]
    rw [Nat.min_eq_right (by omega)] at hr
    cases s; cases hr; rfl
end

def catCond : Ex := .bin 19 (.loc 0) (.num 0) intT intT
def catBody : List Sm := [.ex (.put (.loc 0) intT), .setl 0 .get intT intT]
def catMain : List Sm := [.setl 0 .get intT intT, .whl catCond catBody, .ret (.num 0) intT intT]

section
variable {inp : List Nat} (bd : List (List Sm × Nat)) (n : Nat)
theorem cond_ch {x : Nat} (hx : isCh x) (s : Ms) : ev inp bd (n + 3) catCond s [x] = some (.val (if x = 65535 then 0 else 1) s.tick.tick.tick) := by
  show (match binN 19 x 0 intT intT with | some r => some (Rx.val r s.tick.tick.tick) | none => some (Rx.trap 1 s.tick.tick.tick)) = _
  rw [ge0_ch hx]
theorem put_ch {x : Nat} (hx : x < 256) (s : Ms) (r : Nat) : exS inp bd (n + 4) (.ex (.put (.loc 0) intT)) s ⟨[x], r⟩ = some (.go 0 { s.tick.tick.tick with out := s.out ++ [x] } ⟨[x], r⟩) := by
  show some (Rs.go 0 { s.tick.tick.tick with out := s.out ++ [convN x intT intT % 256] } ⟨[x], r⟩) = _
  rw [conv_ch (.inl hx), Nat.mod_eq_of_lt hx]
theorem set_ch (hb : ∀ v ∈ inp, v < 256) (x r : Nat) (s : Ms) (i : Nat) (hr : s.rd = min i inp.length) : exS inp bd (n + 4) (.setl 0 .get intT intT) s ⟨[x], r⟩ = some (.go 0 { s.tick.tick with rd := min (i + 1) inp.length } ⟨[curC inp i], r⟩) := by
  show Rx.onS (Rx.conv (ev inp bd (n + 3) .get s.tick [x]) intT intT) (fun v s => if 0 < [x].length then some (Rs.go 0 s ⟨[x].set 0 v, r⟩) else none) = _
  rw [get_ch bd (n + 2) hb s.tick [x] i hr]
  rfl
end
theorem cat_loop {inp : List Nat} (hb : ∀ v ∈ inp, v < 256) (bd : List (List Sm × Nat)) (n : Nat) : ∀ (j i m tk : Nat), i + j = inp.length → j < m →
    lpW (ev inp bd (n + 4) catCond) (seqS (catBody.map (exS inp bd (n + 4)))) m ⟨tk, inp.take i, min (i + 1) inp.length, 1, []⟩ ⟨[curC inp i], 0⟩ =
      some (.go 0 ⟨tk + 9 * j + 4, inp, inp.length, 1, []⟩ ⟨[65535], 0⟩)
  | j, i, 0, tk, hij, hm => by omega
  | 0, i, m + 1, tk, hij, _ => by
    have hc : curC inp i = 65535 := cur_end (by omega)
    show Rx.onS (ev inp bd (n + 4) catCond (Ms.tick ⟨tk, inp.take i, min (i + 1) inp.length, 1, []⟩) [curC inp i]) _ = _
    rw [cond_ch bd (n + 1) (cur_ch hb i), if_pos hc, hc, List.take_of_length_le (by omega), Nat.min_eq_right (by omega)]
    rfl
  | j + 1, i, m + 1, tk, hij, hm => by
    have hi : i < inp.length := by omega
    obtain ⟨h1, h2⟩ := cur_lt hb hi
    have ih := cat_loop hb bd n j (i + 1) m (tk + 9) (by omega) (by omega)
    show Rx.onS (ev inp bd (n + 4) catCond (Ms.tick ⟨tk, inp.take i, min (i + 1) inp.length, 1, []⟩) [curC inp i]) (fun v s => if v = 0 then some (.go 0 s ⟨[curC inp i], 0⟩) else Rs.on (seqS (catBody.map (exS inp bd (n + 4))) s ⟨[curC inp i], 0⟩) fun h s f => if h = 2 then some (.go 0 s f) else if h = 1 then some (.go 1 s f) else lpW (ev inp bd (n + 4) catCond) (seqS (catBody.map (exS inp bd (n + 4)))) m s f) = _
    rw [cond_ch bd (n + 1) (cur_ch hb i), if_neg (by omega)]
    have body : ∀ s : Ms, s.rd = min (i + 1) inp.length → s.out = inp.take i → seqS (catBody.map (exS inp bd (n + 4))) s ⟨[curC inp i], 0⟩ = some (.go 0 { s with tk := s.tk + 5, out := inp.take (i + 1), rd := min (i + 2) inp.length } ⟨[curC inp (i + 1)], 0⟩) := fun s hr ho => by
      show Rs.on (exS inp bd (n + 4) (.ex (.put (.loc 0) intT)) s ⟨[curC inp i], 0⟩) (fun h s f => if h = 0 then Rs.on (exS inp bd (n + 4) (.setl 0 .get intT intT) s f) (fun h s f => if h = 0 then some (.go 0 s f) else some (.go h s f)) else some (.go h s f)) = _
      rw [put_ch bd n h2]
      show Rs.on (exS inp bd (n + 4) (.setl 0 .get intT intT) ⟨s.tk + 3, s.out ++ [curC inp i], s.rd, s.cl, s.gl⟩ ⟨[curC inp i], 0⟩) (fun h s f => if h = 0 then some (.go 0 s f) else some (.go h s f)) = _
      rw [set_ch bd n hb (curC inp i) 0 ⟨s.tk + 3, s.out ++ [curC inp i], s.rd, s.cl, s.gl⟩ (i + 1) hr]
      have ht : inp.take (i + 1) = inp.take i ++ [curC inp i] := by rw [List.take_add_one, h1]; rfl
      rw [ht, ← ho]
      rfl
    show Rs.on (seqS (catBody.map (exS inp bd (n + 4))) _ ⟨[curC inp i], 0⟩) _ = _
    rw [body _ rfl rfl]
    show lpW _ _ m ⟨tk + 9, inp.take (i + 1), min (i + 2) inp.length, 1, []⟩ ⟨[curC inp (i + 1)], 0⟩ = _
    rw [ih]
    congr 3
    omega

/-- cat tells what comes in. -/
theorem cat_means {inp : List Nat} (hb : ∀ v ∈ inp, v < 256) (n : Nat) (hn : inp.length ≤ n) : evF inp [(catMain, 1)] (n + 6) 0 [] ⟨0, [], 0, 0, []⟩ = some (.val 0 ⟨9 * inp.length + 9, inp, inp.length, 0, []⟩) := by
  have h1 := set_ch [(catMain, 1)] (n + 1) hb 0 0 ⟨0, [], 0, 1, []⟩ 0 (by simp)
  have h2 := cat_loop hb [(catMain, 1)] n inp.length 0 (n + 4) 3 (by omega) (by omega)
  show (match Rs.on (exS inp [(catMain, 1)] (n + 5) (.setl 0 .get intT intT) ⟨0, [], 0, 1, []⟩ ⟨[0], 0⟩) (fun h s f => if h = 0 then seqS ([Sm.whl catCond catBody, .ret (.num 0) intT intT].map (exS inp [(catMain, 1)] (n + 5))) s f else some (.go h s f)) with
    | some (.go _ s2 f) => if s2.cl = 0 + 1 then some (Rx.val f.res { s2 with cl := 0 }) else none
    | some (.trap k s) => some (.trap k s)
    | none => none) = _
  rw [h1]
  show (match Rs.on (lpW (ev inp [(catMain, 1)] (n + 4) catCond) (seqS (catBody.map (exS inp [(catMain, 1)] (n + 4)))) (n + 4) ⟨3, inp.take 0, min (0 + 1) inp.length, 1, []⟩ ⟨[curC inp 0], 0⟩) (fun h s f => if h = 0 then seqS ([Sm.ret (.num 0) intT intT].map (exS inp [(catMain, 1)] (n + 5))) s f else some (.go h s f)) with
    | some (.go _ s2 f) => if s2.cl = 0 + 1 then some (Rx.val f.res { s2 with cl := 0 }) else none
    | some (.trap k s) => some (.trap k s)
    | none => none) = _
  rw [h2]
  show some (Rx.val (convN 0 intT intT) ⟨3 + 9 * inp.length + 4 + 2, inp, inp.length, 0, []⟩) = _
  rw [conv_ch (.inl (by omega))]
  congr 3
  omega
end Go.Proofs.YthfgkmjbfkociaaGreat

/-
  What programs mean that tell something of each byte that comes in.
-/
namespace Go.Proofs.YthfgkmjbfkociaaGreat

/-- a program that does B with each byte -/
def mapMain (B : List Sm) : List Sm := [.setl 0 .get intT intT, .whl catCond (B ++ [Sm.setl 0 .get intT intT]), .ret (.num 0) intT intT]
theorem seqS_append (a b : List (Ms → Fr → Option Rs)) (s : Ms) (f : Fr) : seqS (a ++ b) s f = Rs.on (seqS a s f) fun h s f => if h = 0 then seqS b s f else some (.go h s f) := by
  induction a generalizing s f with
  | nil => rfl
  | cons x a ih =>
    show Rs.on (x s f) (fun h s f => if h = 0 then seqS (a ++ b) s f else some (.go h s f)) = Rs.on (Rs.on (x s f) fun h s f => if h = 0 then seqS a s f else some (.go h s f)) _
    cases hx : x s f with
    | none => rfl
    | some r =>
      cases r with
      | trap k s' => rfl
      | go h s' f' =>
        show (if h = 0 then seqS (a ++ b) s' f' else some (.go h s' f')) = Rs.on (if h = 0 then seqS a s' f' else some (.go h s' f')) _
        by_cases hh : h = 0
        · rw [if_pos hh, if_pos hh, ih]
        · rw [if_neg hh, if_neg hh]
          show _ = if h = 0 then _ else _
          rw [if_neg hh]

section
variable {inp : List Nat} (bd : List (List Sm × Nat)) (n : Nat) {B : List Sm} {F : Nat → List Nat} {T : Nat → Nat} {X : Nat}
theorem map_loop (hb : ∀ v ∈ inp, v < 256) (hB : ∀ x, x < 256 → T x ≤ X ∧ ∀ tk out rd gl, seqS (B.map (exS inp bd (n + 4))) ⟨tk, out, rd, 1, gl⟩ ⟨[x], 0⟩ = some (.go 0 ⟨tk + T x, out ++ F x, rd, 1, gl⟩ ⟨[x], 0⟩)) : ∀ (j i m tk : Nat), i + j = inp.length → j < m →
    ∃ tk', tk' ≤ tk + (X + 6) * j + 4 ∧ lpW (ev inp bd (n + 4) catCond) (seqS ((B ++ [Sm.setl 0 .get intT intT]).map (exS inp bd (n + 4)))) m ⟨tk, (inp.take i).flatMap F, min (i + 1) inp.length, 1, []⟩ ⟨[curC inp i], 0⟩ =
      some (.go 0 ⟨tk', inp.flatMap F, inp.length, 1, []⟩ ⟨[65535], 0⟩)
  | j, i, 0, tk, hij, hm => by omega
  | 0, i, m + 1, tk, hij, _ => by
    have hc : curC inp i = 65535 := cur_end (by omega)
    refine ⟨tk + 4, by omega, ?_⟩
    show Rx.onS (ev inp bd (n + 4) catCond (Ms.tick ⟨tk, (inp.take i).flatMap F, min (i + 1) inp.length, 1, []⟩) [curC inp i]) _ = _
    rw [cond_ch bd (n + 1) (cur_ch hb i), if_pos hc, hc, List.take_of_length_le (by omega), Nat.min_eq_right (by omega)]
    rfl
  | j + 1, i, m + 1, tk, hij, hm => by
    have hi : i < inp.length := by omega
    obtain ⟨h1, h2⟩ := cur_lt hb hi
    obtain ⟨hT, hBx⟩ := hB _ h2
    obtain ⟨tk', hle, ih⟩ := map_loop hb hB j (i + 1) m (tk + (T (curC inp i) + 6)) (by omega) (by omega)
    refine ⟨tk', by rw [Nat.mul_add]; omega, ?_⟩
    show Rx.onS (ev inp bd (n + 4) catCond (Ms.tick ⟨tk, (inp.take i).flatMap F, min (i + 1) inp.length, 1, []⟩) [curC inp i]) (fun v s => if v = 0 then some (.go 0 s ⟨[curC inp i], 0⟩) else Rs.on (seqS ((B ++ [Sm.setl 0 .get intT intT]).map (exS inp bd (n + 4))) s ⟨[curC inp i], 0⟩) fun h s f => if h = 2 then some (.go 0 s f) else if h = 1 then some (.go 1 s f) else lpW (ev inp bd (n + 4) catCond) (seqS ((B ++ [Sm.setl 0 .get intT intT]).map (exS inp bd (n + 4)))) m s f) = _
    rw [cond_ch bd (n + 1) (cur_ch hb i), if_neg (by omega)]
    have body : seqS ((B ++ [Sm.setl 0 .get intT intT]).map (exS inp bd (n + 4))) ⟨tk + 4, (inp.take i).flatMap F, min (i + 1) inp.length, 1, []⟩ ⟨[curC inp i], 0⟩ = some (.go 0 ⟨tk + (T (curC inp i) + 6), (inp.take (i + 1)).flatMap F, min (i + 2) inp.length, 1, []⟩ ⟨[curC inp (i + 1)], 0⟩) := by
      rw [List.map_append, seqS_append, hBx]
      show Rs.on (exS inp bd (n + 4) (.setl 0 .get intT intT) ⟨tk + 4 + T (curC inp i), (inp.take i).flatMap F ++ F (curC inp i), min (i + 1) inp.length, 1, []⟩ ⟨[curC inp i], 0⟩) (fun h s f => if h = 0 then some (.go 0 s f) else some (.go h s f)) = _
      rw [set_ch bd n hb (curC inp i) 0 ⟨tk + 4 + T (curC inp i), (inp.take i).flatMap F ++ F (curC inp i), min (i + 1) inp.length, 1, []⟩ (i + 1) rfl]
      have ht : inp.take (i + 1) = inp.take i ++ [curC inp i] := by rw [List.take_add_one, h1]; rfl
      have e1 : tk + 4 + T (curC inp i) + 1 + 1 = tk + (T (curC inp i) + 6) := by omega
      rw [ht, List.flatMap_append, ← e1]
      simp only [List.flatMap_cons, List.flatMap_nil, List.append_nil]
      rfl
    show Rs.on (seqS ((B ++ [Sm.setl 0 .get intT intT]).map (exS inp bd (n + 4))) ⟨tk + 4, (inp.take i).flatMap F, min (i + 1) inp.length, 1, []⟩ ⟨[curC inp i], 0⟩) _ = _
    rw [body]
    exact ih
end
/-- Such a program tells F of each byte. -/
theorem map_means {inp : List Nat} (hb : ∀ v ∈ inp, v < 256) (bd : List (List Sm × Nat)) (k : Nat) {B : List Sm} {F : Nat → List Nat} {T : Nat → Nat} {X : Nat} (hk : bd[k]? = some (mapMain B, 1)) (n : Nat) (hn : inp.length ≤ n)
    (hB : ∀ x, x < 256 → T x ≤ X ∧ ∀ tk out rd gl, seqS (B.map (exS inp bd (n + 4))) ⟨tk, out, rd, 1, gl⟩ ⟨[x], 0⟩ = some (.go 0 ⟨tk + T x, out ++ F x, rd, 1, gl⟩ ⟨[x], 0⟩)) :
    ∃ s : Ms, evF inp bd (n + 6) k [] ⟨0, [], 0, 0, []⟩ = some (.val 0 s) ∧ s.out = inp.flatMap F ∧ s.tk ≤ (X + 6) * inp.length + 9 := by
  have h1 := set_ch bd (n + 1) hb 0 0 ⟨0, [], 0, 1, []⟩ 0 (by simp)
  obtain ⟨tk', hle, h2⟩ := map_loop bd n hb hB inp.length 0 (n + 4) 3 (by omega) (by omega)
  refine ⟨⟨tk' + 2, inp.flatMap F, inp.length, 0, []⟩, ?_, rfl, by show tk' + 2 ≤ _; omega⟩
  show (match bd[k]? with
    | none => none
    | some (b, z) => match seqS (b.map (exS inp bd (n + 5))) ⟨0, [], 0, 1, []⟩ ⟨([] ++ List.replicate z 0).take z, 0⟩ with
      | some (.go _ s2 f) => if s2.cl = 0 + 1 then some (Rx.val f.res { s2 with cl := 0 }) else none
      | some (.trap k s) => some (.trap k s)
      | none => none) = _
  rw [hk]
  show (match Rs.on (exS inp bd (n + 5) (.setl 0 .get intT intT) ⟨0, [], 0, 1, []⟩ ⟨[0], 0⟩) (fun h s f => if h = 0 then seqS ([Sm.whl catCond (B ++ [Sm.setl 0 .get intT intT]), .ret (.num 0) intT intT].map (exS inp bd (n + 5))) s f else some (.go h s f)) with
    | some (.go _ s2 f) => if s2.cl = 0 + 1 then some (Rx.val f.res { s2 with cl := 0 }) else none
    | some (.trap k s) => some (.trap k s)
    | none => none) = _
  rw [h1]
  show (match Rs.on (lpW (ev inp bd (n + 4) catCond) (seqS ((B ++ [Sm.setl 0 .get intT intT]).map (exS inp bd (n + 4)))) (n + 4) ⟨3, (inp.take 0).flatMap F, min (0 + 1) inp.length, 1, []⟩ ⟨[curC inp 0], 0⟩) (fun h s f => if h = 0 then seqS ([Sm.ret (.num 0) intT intT].map (exS inp bd (n + 5))) s f else some (.go h s f)) with
    | some (.go _ s2 f) => if s2.cl = 0 + 1 then some (Rx.val f.res { s2 with cl := 0 }) else none
    | some (.trap k s) => some (.trap k s)
    | none => none) = _
  rw [h2]
  show some (Rx.val (convN 0 intT intT) ⟨tk' + 2, inp.flatMap F, inp.length, 0, []⟩) = _
  rw [conv_ch (.inl (by omega))]
end Go.Proofs.YthfgkmjbfkociaaGreat

/-
  Expressions of numbers of the call alone: worked out by themselves, so that the kernel can do it for each byte.
-/
namespace Go.Proofs.YthfgkmjbfkociaaGreat

/-- a number, and how many ticks -/
def pv : Nat → Ex → List Nat → Option (Nat × Nat)
  | 0, _, _ => none
  | n + 1, e, f =>
    match e with
    | .num k => some (k, 1)
    | .loc i => match f[i]? with | some v => some (v, 1) | none => none
    | .cast x a t => match pv n x f with | some (v, k) => some (convN v a t, k + 1) | none => none
    | .un k x t => match pv n x f with | some (v, j) => some ((unN k v t).1, j + 1) | none => none
    | .bin k x y t u => match pv n x f with
      | some (p, i) => match pv n y f with
        | some (q, j) => match binN k p q t u with | some r => some (r, i + j + 1) | none => none
        | none => none
      | none => none
    | .either or x y => match pv n x f with
      | some (v, i) => if decide (v = 0) = or then (match pv n y f with | some (v, j) => some (truthN (decide (v ≠ 0)), i + j + 1) | none => none) else some (truthN (decide (v ≠ 0)), i + 1)
      | none => none
    | _ => none
theorem pv_ok (inp : List Nat) (bd : List (List Sm × Nat)) : ∀ (k : Nat) (e : Ex) (f : List Nat) (v t : Nat), pv k e f = some (v, t) → ∀ n, k ≤ n → ∀ s : Ms, ev inp bd n e s f = some (.val v { s with tk := s.tk + t })
  | 0, e, f, v, t, h, n, _, s => by cases h
  | k + 1, e, f, v, t, h, 0, hn, s => by omega
  | k + 1, e, f, v, t, h, n + 1, hn, s => by
    have ih := pv_ok inp bd k
    have tk : ∀ (j : Nat) (s : Ms), ({ s.tick with tk := s.tick.tk + j } : Ms) = { s with tk := s.tk + (j + 1) } := fun j s => by
      show Ms.mk (s.tk + 1 + j) s.out s.rd s.cl s.gl = Ms.mk (s.tk + (j + 1)) s.out s.rd s.cl s.gl
      rw [show s.tk + 1 + j = s.tk + (j + 1) by omega]
    cases e <;> simp only [pv] at h <;> try (cases h; done)
    case num m => cases h; rfl
    case loc i =>
      cases hq : f[i]? with
      | none => rw [hq] at h; cases h
      | some v' =>
        rw [hq] at h
        cases h
        show Rx.ofO f[i]? s.tick = _
        rw [hq]; rfl
    case cast x a t' =>
      cases hq : pv k x f with
      | none => rw [hq] at h; cases h
      | some p =>
        obtain ⟨v', j⟩ := p
        rw [hq] at h
        cases h
        show Rx.conv (ev inp bd n x s.tick f) a t' = _
        rw [ih x f v' j hq n (by omega), tk]; rfl
    case un q x t' =>
      cases hq : pv k x f with
      | none => rw [hq] at h; cases h
      | some p =>
        obtain ⟨v', j⟩ := p
        rw [hq] at h
        cases h
        show Rx.on (ev inp bd n x s.tick f) _ = _
        rw [ih x f v' j hq n (by omega), tk]; rfl
    case bin q x y t' u =>
      cases hq : pv k x f with
      | none => rw [hq] at h; cases h
      | some p =>
        obtain ⟨p, i⟩ := p
        rw [hq] at h
        cases hr : pv k y f with
        | none => simp only [hr] at h; cases h
        | some p2 =>
          obtain ⟨p2, j⟩ := p2
          simp only [hr] at h
          cases hb : binN q p p2 t' u with
          | none => rw [hb] at h; cases h
          | some r =>
            rw [hb] at h
            cases h
            show Rx.on (ev inp bd n x s.tick f) (fun p s => Rx.on (ev inp bd n y s f) fun q' s => match binN q p q' t' u with | some r => some (.val r s) | none => some (.trap 1 s)) = _
            rw [ih x f p i hq n (by omega), tk]
            show Rx.on (ev inp bd n y { s with tk := s.tk + (i + 1) } f) (fun q' s => match binN q p q' t' u with | some r => some (.val r s) | none => some (.trap 1 s)) = _
            rw [ih y f p2 j hr n (by omega)]
            show (match binN q p p2 t' u with | some r => some (Rx.val r ⟨s.tk + (i + 1) + j, s.out, s.rd, s.cl, s.gl⟩) | none => some (.trap 1 ⟨s.tk + (i + 1) + j, s.out, s.rd, s.cl, s.gl⟩)) = _
            rw [hb, show s.tk + (i + 1) + j = s.tk + (i + j + 1) by omega]
    case either or x y =>
      cases hq : pv k x f with
      | none => rw [hq] at h; cases h
      | some p =>
        obtain ⟨p, i⟩ := p
        rw [hq] at h
        show Rx.on (ev inp bd n x s.tick f) (fun v s => if decide (v = 0) = or then Rx.on (ev inp bd n y s f) fun v s => some (.val (truthN (decide (v ≠ 0))) s) else some (.val (truthN (decide (v ≠ 0))) s)) = _
        rw [ih x f p i hq n (by omega), tk]
        show (if decide (p = 0) = or then Rx.on (ev inp bd n y { s with tk := s.tk + (i + 1) } f) fun v s => some (.val (truthN (decide (v ≠ 0))) s) else some (.val (truthN (decide (p ≠ 0))) { s with tk := s.tk + (i + 1) })) = _
        simp only at h
        by_cases hc : decide (p = 0) = or
        · rw [if_pos hc] at h ⊢
          cases hr : pv k y f with
          | none => rw [hr] at h; cases h
          | some p2 =>
            obtain ⟨p2, j⟩ := p2
            rw [hr] at h
            cases h
            rw [ih y f p2 j hr n (by omega)]
            show some (Rx.val _ ⟨s.tk + (i + 1) + j, s.out, s.rd, s.cl, s.gl⟩) = _
            rw [show s.tk + (i + 1) + j = s.tk + (i + j + 1) by omega]
        · rw [if_neg hc] at h ⊢
          cases h
          rfl
/-- for each byte -/
theorem pv_all {k : Nat} {e : Ex} {V T : Nat → Nat} (h : (List.range 256).all (fun x => decide (pv k e [x] = some (V x, T x))) = true) {x : Nat} (hx : x < 256) (inp : List Nat) (bd : List (List Sm × Nat)) (n : Nat) (hn : k ≤ n) (s : Ms) :
    ev inp bd n e s [x] = some (.val (V x) { s with tk := s.tk + T x }) :=
  pv_ok inp bd k e [x] _ _ (of_decide_eq_true (List.all_eq_true.1 h x (List.mem_range.2 hx))) n hn s
end Go.Proofs.YthfgkmjbfkociaaGreat

/-
  What upper and rot13 mean, plainly.
-/
namespace Go.Proofs.YthfgkmjbfkociaaGreat

section
variable {inp : List Nat} (bd : List (List Sm × Nat))
theorem put_pv {k : Nat} {E : Ex} {f : List Nat} {v t : Nat} (h : pv k E f = some (v, t)) {n : Nat} (hn : k ≤ n) (tk : Nat) (out : List Nat) (rd cl : Nat) (gl : List (List Nat)) (r : Nat) :
    exS inp bd (n + 2) (.ex (.put E intT)) ⟨tk, out, rd, cl, gl⟩ ⟨f, r⟩ = some (.go 0 ⟨tk + (t + 2), out ++ [convN v intT intT % 256], rd, cl, gl⟩ ⟨f, r⟩) := by
  show Rx.onS (Rx.on (Rx.conv (ev inp bd n E ⟨tk + 2, out, rd, cl, gl⟩ f) intT intT) fun v s => some (.val 0 { s with out := s.out ++ [v % 256] })) (fun _ s => some (.go 0 s ⟨f, r⟩)) = _
  rw [pv_ok inp bd k E f v t h n hn]
  show some (Rs.go 0 ⟨tk + 2 + t, _, _, _, _⟩ _) = _
  rw [show tk + 2 + t = tk + (t + 2) by omega]
theorem ite_pv {k : Nat} {C : Ex} {f : List Nat} {v t : Nat} (h : pv k C f = some (v, t)) {n : Nat} (hn : k ≤ n) (l r : List Sm) (tk : Nat) (out : List Nat) (rd cl : Nat) (gl : List (List Nat)) (q : Nat) :
    exS inp bd (n + 1) (.ite C l r) ⟨tk, out, rd, cl, gl⟩ ⟨f, q⟩ = if v = 0 then seqS (r.map (exS inp bd n)) ⟨tk + (t + 1), out, rd, cl, gl⟩ ⟨f, q⟩ else seqS (l.map (exS inp bd n)) ⟨tk + (t + 1), out, rd, cl, gl⟩ ⟨f, q⟩ := by
  show Rx.onS (ev inp bd n C ⟨tk + 1, out, rd, cl, gl⟩ f) (fun v s => if v = 0 then seqS (r.map (exS inp bd n)) s ⟨f, q⟩ else seqS (l.map (exS inp bd n)) s ⟨f, q⟩) = _
  rw [pv_ok inp bd k C f v t h n hn]
  show (if v = 0 then seqS (r.map (exS inp bd n)) ⟨tk + 1 + t, out, rd, cl, gl⟩ ⟨f, q⟩ else seqS (l.map (exS inp bd n)) ⟨tk + 1 + t, out, rd, cl, gl⟩ ⟨f, q⟩) = _
  rw [show tk + 1 + t = tk + (t + 1) by omega]
theorem seq1 (x : Ms → Fr → Option Rs) (s : Ms) (f : Fr) {s' : Ms} {f' : Fr} (h : x s f = some (.go 0 s' f')) : seqS [x] s f = some (.go 0 s' f') := by
  show Rs.on (x s f) _ = _
  rw [h]; rfl
end

/-- a small letter? -/
def smallC : Ex := .either false (.bin 19 (.loc 0) (.num 97) intT intT) (.bin 17 (.loc 0) (.num 122) intT intT)
def pvOut (k : Nat) (E : Ex) (x : Nat) : Option (Nat × Nat) := match pv k E [x] with | some (v, t) => some (convN v intT intT % 256, t) | none => none
theorem small_all : (List.range 256).all (fun x => decide (pv 5 smallC [x] = some (if 97 ≤ x ∧ x ≤ 122 then 1 else 0, if 97 ≤ x then 7 else 4))) = true := by kernel_rfl

/-- something else is told of small letters -/
def caseB (E : Ex) : List Sm := [.ite smallC [.ex (.put E intT)] [.ex (.put (.loc 0) intT)]]
def caseF (F : Nat → Nat) (x : Nat) : List Nat := [if 97 ≤ x ∧ x ≤ 122 then F x else x]
def caseT (t x : Nat) : Nat := (if 97 ≤ x then 8 else 5) + if 97 ≤ x ∧ x ≤ 122 then t + 2 else 3
theorem case_body {E : Ex} {F : Nat → Nat} {t : Nat} (hE : (List.range 256).all (fun x => decide (97 ≤ x ∧ x ≤ 122 → pvOut 9 E x = some (F x, t))) = true) {inp : List Nat} (bd : List (List Sm × Nat)) (n : Nat) {x : Nat} (hx : x < 256) :
    caseT t x ≤ t + 13 ∧ ∀ tk out rd gl, seqS ((caseB E).map (exS inp bd (n + 12))) ⟨tk, out, rd, 1, gl⟩ ⟨[x], 0⟩ = some (.go 0 ⟨tk + caseT t x, out ++ caseF F x, rd, 1, gl⟩ ⟨[x], 0⟩) := by
  refine ⟨by unfold caseT; split <;> split <;> omega, fun tk out rd gl => seq1 _ _ _ ?_⟩
  have hs := of_decide_eq_true (List.all_eq_true.1 small_all x (List.mem_range.2 hx))
  rw [ite_pv bd hs (n := n + 11) (by omega)]
  have he := of_decide_eq_true (List.all_eq_true.1 hE x (List.mem_range.2 hx))
  by_cases h : 97 ≤ x ∧ x ≤ 122
  · rw [if_pos h, if_neg (by decide)]
    have he := he h
    unfold pvOut at he
    split at he
    · rename_i v t' hq
      simp only [Option.some.injEq, Prod.mk.injEq] at he
      refine seq1 _ _ _ ?_
      rw [put_pv bd hq (n := n + 9) (by omega), he.1, he.2]
      unfold caseT caseF
      rw [if_pos h, if_pos h, if_pos h.1, if_pos h.1, show tk + (7 + 1) + (t + 2) = tk + (8 + (t + 2)) by omega]
    · cases he
  · rw [if_neg h, if_pos rfl]
    refine seq1 _ _ _ ?_
    rw [put_pv bd (k := 1) (v := x) (t := 1) rfl (n := n + 9) (by omega), conv_ch (.inl hx), Nat.mod_eq_of_lt hx]
    unfold caseT caseF
    rw [if_neg h, if_neg h]
    by_cases h2 : 97 ≤ x
    · rw [if_pos h2, if_pos h2, show tk + (7 + 1) + (1 + 2) = tk + (8 + 3) by omega]
    · rw [if_neg h2, if_neg h2, show tk + (4 + 1) + (1 + 2) = tk + (5 + 3) by omega]

def upE : Ex := .bin 13 (.loc 0) (.num 32) intT intT
def rotE : Ex := .bin 12 (.bin 11 (.bin 12 (.bin 13 (.loc 0) (.num 97) intT intT) (.num 13) intT intT) (.num 26) intT intT) (.num 97) intT intT
theorem up_all : (List.range 256).all (fun x => decide (97 ≤ x ∧ x ≤ 122 → pvOut 9 upE x = some (x - 32, 3))) = true := by kernel_rfl
theorem rot_all : (List.range 256).all (fun x => decide (97 ≤ x ∧ x ≤ 122 → pvOut 9 rotE x = some ((x - 97 + 13) % 26 + 97, 9))) = true := by kernel_rfl
/-- What they tell. -/
theorem case_means {E : Ex} {F : Nat → Nat} {t : Nat} (hE : (List.range 256).all (fun x => decide (97 ≤ x ∧ x ≤ 122 → pvOut 9 E x = some (F x, t))) = true) {inp : List Nat} (hb : ∀ v ∈ inp, v < 256) :
    ∃ n s, evF inp [(mapMain (caseB E), 1)] n 0 [] ⟨0, [], 0, 0, []⟩ = some (.val 0 s) ∧ s.out = inp.flatMap (caseF F) ∧ s.tk ≤ (t + 19) * inp.length + 9 := by
  obtain ⟨s, h1, h2, h3⟩ := map_means hb [(mapMain (caseB E), 1)] 0 rfl (inp.length + 8) (by omega) (F := caseF F) (T := caseT t) (X := t + 13) (fun x hx => case_body hE _ inp.length hx)
  exact ⟨_, s, h1, h2, h3⟩
end Go.Proofs.YthfgkmjbfkociaaGreat
