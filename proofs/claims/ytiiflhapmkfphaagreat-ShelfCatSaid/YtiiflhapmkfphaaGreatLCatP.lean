/-
  What cat means, plainly: it tells what comes in.
-/
import Derived.Test.YtiiflhapmkfphaaGreatJEa
import Derived.KernelRfl
namespace Go.Proofs.YtiiflhapmkfphaaGreat

/-- a byte, or the sign that there is none -/
def isCh (x : Nat) : Prop := x < 256 ∨ x = 65535
theorem conv_ch {x : Nat} (h : isCh x) : convN x intT intT = x := by
  unfold convN intT sgnN
  unfold isCh at h
  simp only [if_true]
  split <;> omega
theorem ge0_all : (List.range 256).all (fun y => binN 19 y 0 intT intT == some 1) = true := by kernel_rfl
theorem ge0_ch {x : Nat} (h : isCh x) : binN 19 x 0 intT intT = some (if x = 65535 then 0 else 1) := by
  rcases h with h | rfl
  · have := List.all_eq_true.1 ge0_all x (List.mem_range.2 h)
    rw [if_neg (by omega)]
    simpa using this
  · rfl

/-- what stands at a place of what comes in -/
def curC (inp : List Nat) (i : Nat) : Nat := (inp[i]?).getD 65535
theorem cur_ch {inp : List Nat} (hb : ∀ v ∈ inp, v < 256) (i : Nat) : isCh (curC inp i) := by
  unfold curC
  cases h : inp[i]? with
  | none => exact .inr rfl
  | some v => exact .inl (hb v (List.mem_of_getElem? h))
theorem cur_lt {inp : List Nat} (hb : ∀ v ∈ inp, v < 256) {i : Nat} (hi : i < inp.length) : inp[i]? = some (curC inp i) ∧ curC inp i < 256 := by
  have h := List.getElem?_eq_getElem hi
  unfold curC
  rw [h]
  exact ⟨rfl, hb _ (List.getElem_mem hi)⟩
theorem cur_end {inp : List Nat} {i : Nat} (hi : inp.length ≤ i) : curC inp i = 65535 := by unfold curC; rw [List.getElem?_eq_none hi]; rfl

section
variable {inp : List Nat} (hb : ∀ v ∈ inp, v < 256) (bd : List (List Sm × Nat)) (n : Nat)
/-- a byte is got: as a number of sixteen bits -/
theorem get_ch (hb : ∀ v ∈ inp, v < 256) (s : Ms) (f : List Nat) (i : Nat) (hr : s.rd = min i inp.length) :
    Rx.conv (ev inp bd (n + 1) .get s f) intT intT = some (.val (curC inp i) { s.tick with rd := min (i + 1) inp.length }) := by
  show Rx.conv (if s.rd = inp.length then some (.val 65535 s.tick) else Rx.ofO inp[s.rd]? { s.tick with rd := s.rd + 1 }) intT intT = _
  by_cases hi : i < inp.length
  · rw [if_neg (by omega), hr, Nat.min_eq_left (by omega), (cur_lt hb hi).1]
    show some (Rx.val (convN (curC inp i) intT intT) _) = _
    rw [conv_ch (cur_ch hb i), Nat.min_eq_left (by omega)]
  · rw [if_pos (by omega)]
    show some (Rx.val (convN 65535 intT intT) _) = _
    rw [conv_ch (.inr rfl), cur_end (by omega), Nat.min_eq_right (by omega)]
    rw [Nat.min_eq_right (by omega)] at hr
    cases s; cases hr; rfl
end

def catCond : Ex := .bin 19 (.loc 0) (.num 0) intT intT
def catBody : List Sm := [.ex (.put (.loc 0) intT), .setl 0 .get intT intT]
def catMain : List Sm := [.setl 0 .get intT intT, .whl catCond catBody, .ret (.num 0) intT intT]

section
variable {inp : List Nat} (bd : List (List Sm × Nat)) (n : Nat)
theorem cond_ch {x : Nat} (hx : isCh x) (s : Ms) : ev inp bd (n + 3) catCond s [x] = some (.val (if x = 65535 then 0 else 1) s.tick.tick.tick) := by
  show (match binN 19 x 0 intT intT with | some r => some (Rx.val r s.tick.tick.tick) | none => some (Rx.trap 1 s.tick.tick.tick)) = _
  rw [ge0_ch hx]
theorem put_ch {x : Nat} (hx : x < 256) (s : Ms) (r : Nat) : exS inp bd (n + 4) (.ex (.put (.loc 0) intT)) s ⟨[x], r⟩ = some (.go 0 { s.tick.tick.tick with out := s.out ++ [x] } ⟨[x], r⟩) := by
  show some (Rs.go 0 { s.tick.tick.tick with out := s.out ++ [convN x intT intT % 256] } ⟨[x], r⟩) = _
  rw [conv_ch (.inl hx), Nat.mod_eq_of_lt hx]
theorem set_ch (hb : ∀ v ∈ inp, v < 256) (x r : Nat) (s : Ms) (i : Nat) (hr : s.rd = min i inp.length) : exS inp bd (n + 4) (.setl 0 .get intT intT) s ⟨[x], r⟩ = some (.go 0 { s.tick.tick with rd := min (i + 1) inp.length } ⟨[curC inp i], r⟩) := by
  show Rx.onS (Rx.conv (ev inp bd (n + 3) .get s.tick [x]) intT intT) (fun v s => if 0 < [x].length then some (Rs.go 0 s ⟨[x].set 0 v, r⟩) else none) = _
  rw [get_ch bd (n + 2) hb s.tick [x] i hr]
  rfl
end
theorem cat_loop {inp : List Nat} (hb : ∀ v ∈ inp, v < 256) (bd : List (List Sm × Nat)) (n : Nat) : ∀ (j i m tk : Nat), i + j = inp.length → j < m →
    lpW (ev inp bd (n + 4) catCond) (seqS (catBody.map (exS inp bd (n + 4)))) m ⟨tk, inp.take i, min (i + 1) inp.length, 1, []⟩ ⟨[curC inp i], 0⟩ =
      some (.go 0 ⟨tk + 9 * j + 4, inp, inp.length, 1, []⟩ ⟨[65535], 0⟩)
  | j, i, 0, tk, hij, hm => by omega
  | 0, i, m + 1, tk, hij, _ => by
    have hc : curC inp i = 65535 := cur_end (by omega)
    show Rx.onS (ev inp bd (n + 4) catCond (Ms.tick ⟨tk, inp.take i, min (i + 1) inp.length, 1, []⟩) [curC inp i]) _ = _
    rw [cond_ch bd (n + 1) (cur_ch hb i), if_pos hc, hc, List.take_of_length_le (by omega), Nat.min_eq_right (by omega)]
    rfl
  | j + 1, i, m + 1, tk, hij, hm => by
    have hi : i < inp.length := by omega
    obtain ⟨h1, h2⟩ := cur_lt hb hi
    have ih := cat_loop hb bd n j (i + 1) m (tk + 9) (by omega) (by omega)
    show Rx.onS (ev inp bd (n + 4) catCond (Ms.tick ⟨tk, inp.take i, min (i + 1) inp.length, 1, []⟩) [curC inp i]) (fun v s => if v = 0 then some (.go 0 s ⟨[curC inp i], 0⟩) else Rs.on (seqS (catBody.map (exS inp bd (n + 4))) s ⟨[curC inp i], 0⟩) fun h s f => if h = 2 then some (.go 0 s f) else if h = 1 then some (.go 1 s f) else lpW (ev inp bd (n + 4) catCond) (seqS (catBody.map (exS inp bd (n + 4)))) m s f) = _
    rw [cond_ch bd (n + 1) (cur_ch hb i), if_neg (by omega)]
    have body : ∀ s : Ms, s.rd = min (i + 1) inp.length → s.out = inp.take i → seqS (catBody.map (exS inp bd (n + 4))) s ⟨[curC inp i], 0⟩ = some (.go 0 { s with tk := s.tk + 5, out := inp.take (i + 1), rd := min (i + 2) inp.length } ⟨[curC inp (i + 1)], 0⟩) := fun s hr ho => by
      show Rs.on (exS inp bd (n + 4) (.ex (.put (.loc 0) intT)) s ⟨[curC inp i], 0⟩) (fun h s f => if h = 0 then Rs.on (exS inp bd (n + 4) (.setl 0 .get intT intT) s f) (fun h s f => if h = 0 then some (.go 0 s f) else some (.go h s f)) else some (.go h s f)) = _
      rw [put_ch bd n h2]
      show Rs.on (exS inp bd (n + 4) (.setl 0 .get intT intT) ⟨s.tk + 3, s.out ++ [curC inp i], s.rd, s.cl, s.gl⟩ ⟨[curC inp i], 0⟩) (fun h s f => if h = 0 then some (.go 0 s f) else some (.go h s f)) = _
      rw [set_ch bd n hb (curC inp i) 0 ⟨s.tk + 3, s.out ++ [curC inp i], s.rd, s.cl, s.gl⟩ (i + 1) hr]
      have ht : inp.take (i + 1) = inp.take i ++ [curC inp i] := by rw [List.take_add_one, h1]; rfl
      rw [ht, ← ho]
      rfl
    show Rs.on (seqS (catBody.map (exS inp bd (n + 4))) _ ⟨[curC inp i], 0⟩) _ = _
    rw [body _ rfl rfl]
    show lpW _ _ m ⟨tk + 9, inp.take (i + 1), min (i + 2) inp.length, 1, []⟩ ⟨[curC inp (i + 1)], 0⟩ = _
    rw [ih]
    congr 3
    omega

/-- cat tells what comes in. -/
theorem cat_means {inp : List Nat} (hb : ∀ v ∈ inp, v < 256) (n : Nat) (hn : inp.length ≤ n) : evF inp [(catMain, 1)] (n + 6) 0 [] ⟨0, [], 0, 0, []⟩ = some (.val 0 ⟨9 * inp.length + 9, inp, inp.length, 0, []⟩) := by
  have h1 := set_ch [(catMain, 1)] (n + 1) hb 0 0 ⟨0, [], 0, 1, []⟩ 0 (by simp)
  have h2 := cat_loop hb [(catMain, 1)] n inp.length 0 (n + 4) 3 (by omega) (by omega)
  show (match Rs.on (exS inp [(catMain, 1)] (n + 5) (.setl 0 .get intT intT) ⟨0, [], 0, 1, []⟩ ⟨[0], 0⟩) (fun h s f => if h = 0 then seqS ([Sm.whl catCond catBody, .ret (.num 0) intT intT].map (exS inp [(catMain, 1)] (n + 5))) s f else some (.go h s f)) with
    | some (.go _ s2 f) => if s2.cl = 0 + 1 then some (Rx.val f.res { s2 with cl := 0 }) else none
    | some (.trap k s) => some (.trap k s)
    | none => none) = _
  rw [h1]
  show (match Rs.on (lpW (ev inp [(catMain, 1)] (n + 4) catCond) (seqS (catBody.map (exS inp [(catMain, 1)] (n + 4)))) (n + 4) ⟨3, inp.take 0, min (0 + 1) inp.length, 1, []⟩ ⟨[curC inp 0], 0⟩) (fun h s f => if h = 0 then seqS ([Sm.ret (.num 0) intT intT].map (exS inp [(catMain, 1)] (n + 5))) s f else some (.go h s f)) with
    | some (.go _ s2 f) => if s2.cl = 0 + 1 then some (Rx.val f.res { s2 with cl := 0 }) else none
    | some (.trap k s) => some (.trap k s)
    | none => none) = _
  rw [h2]
  show some (Rx.val (convN 0 intT intT) ⟨3 + 9 * inp.length + 4 + 2, inp, inp.length, 0, []⟩) = _
  rw [conv_ch (.inl (by omega))]
  congr 3
  omega
end Go.Proofs.YtiiflhapmkfphaaGreat
