/-
  What hex means, plainly.
-/
import Derived.Test.YthfgkmjbfkociaaGreatJPa
namespace Go.Proofs.YthfgkmjbfkociaaGreat

def hexD : List Sm := [.ite (.bin 16 (.loc 0) (.num 10) intT intT) [.ex (.put (.bin 12 (.loc 0) (.num 48) intT intT) intT)] [.ex (.put (.bin 12 (.loc 0) (.num 87) intT intT) intT)]]
def hexB : List Sm := [.ex (.call 0 [(.bin 15 (.loc 0) (.num 4) intT intT, intT, intT)]), .ex (.call 0 [(.bin 22 (.loc 0) (.num 15) intT intT, intT, intT)])]
def hexBd : List (List Sm × Nat) := [(hexD, 1), (mapMain hexB, 1)]
/-- a digit of sixteen -/
def hd (v : Nat) : Nat := if v < 10 then v + 48 else v + 87
def hexF (x : Nat) : List Nat := [hd (x / 16), hd (x % 16)]

theorem lt10_all : (List.range 16).all (fun v => decide (pv 3 (.bin 16 (.loc 0) (.num 10) intT intT) [v] = some (if v < 10 then 1 else 0, 3))) = true := by kernel_rfl
theorem d48_all : (List.range 16).all (fun v => decide (v < 10 → pvOut 3 (.bin 12 (.loc 0) (.num 48) intT intT) v = some (v + 48, 3))) = true := by kernel_rfl
theorem d87_all : (List.range 16).all (fun v => decide (¬ v < 10 → pvOut 3 (.bin 12 (.loc 0) (.num 87) intT intT) v = some (v + 87, 3))) = true := by kernel_rfl
theorem sh4_all : (List.range 256).all (fun x => decide ((match pv 3 (.bin 15 (.loc 0) (.num 4) intT intT) [x] with | some (v, t) => some (convN v intT intT, t) | none => none) = some (x / 16, 3))) = true := by kernel_rfl
theorem and15_all : (List.range 256).all (fun x => decide ((match pv 3 (.bin 22 (.loc 0) (.num 15) intT intT) [x] with | some (v, t) => some (convN v intT intT, t) | none => none) = some (x % 16, 3))) = true := by kernel_rfl

section
variable {inp : List Nat} (n : Nat)
theorem hexdig_ok {v : Nat} (hv : v < 16) (tk : Nat) (out : List Nat) (rd : Nat) (gl : List (List Nat)) : evF inp hexBd (n + 9) 0 [v] ⟨tk, out, rd, 1, gl⟩ = some (.val 0 ⟨tk + 9, out ++ [hd v], rd, 1, gl⟩) := by
  have key : seqS (hexD.map (exS inp hexBd (n + 8))) ⟨tk, out, rd, 2, gl⟩ ⟨[v], 0⟩ = some (.go 0 ⟨tk + 9, out ++ [hd v], rd, 2, gl⟩ ⟨[v], 0⟩) := by
    refine seq1 _ _ _ ?_
    have hs := of_decide_eq_true (List.all_eq_true.1 lt10_all v (List.mem_range.2 hv))
    rw [ite_pv hexBd hs (n := n + 7) (by omega)]
    have put : ∀ (E : Ex) (z : Nat), pvOut 3 E v = some (z, 3) → seqS ([Sm.ex (.put E intT)].map (exS inp hexBd (n + 7))) ⟨tk + (3 + 1), out, rd, 2, gl⟩ ⟨[v], 0⟩ = some (.go 0 ⟨tk + 9, out ++ [z], rd, 2, gl⟩ ⟨[v], 0⟩) := fun E z he => by
      unfold pvOut at he
      split at he
      · rename_i v' t' hq
        simp only [Option.some.injEq, Prod.mk.injEq] at he
        refine seq1 _ _ _ ?_
        rw [put_pv hexBd hq (n := n + 5) (by omega), he.1, he.2]
      · cases he
    by_cases h : v < 10
    · rw [if_pos h, if_neg (by decide)]
      have := of_decide_eq_true (List.all_eq_true.1 d48_all v (List.mem_range.2 hv)) h
      rw [put _ _ this]
      unfold hd
      rw [if_pos h]
    · rw [if_neg h, if_pos rfl]
      have := of_decide_eq_true (List.all_eq_true.1 d87_all v (List.mem_range.2 hv)) h
      rw [put _ _ this]
      unfold hd
      rw [if_neg h]
  show (match seqS (hexD.map (exS inp hexBd (n + 8))) ⟨tk, out, rd, 2, gl⟩ ⟨[v], 0⟩ with
    | some (.go _ s2 f) => if s2.cl = 1 + 1 then some (Rx.val f.res { s2 with cl := 1 }) else none
    | some (.trap k s) => some (.trap k s)
    | none => none) = _
  rw [key]
  rfl
theorem calld {E : Ex} {x v : Nat} (hE : (match pv 3 E [x] with | some (v, t) => some (convN v intT intT, t) | none => none) = some (v, 3)) (hv : v < 16) (tk : Nat) (out : List Nat) (rd : Nat) (gl : List (List Nat)) :
    exS inp hexBd (n + 11) (.ex (.call 0 [(E, intT, intT)])) ⟨tk, out, rd, 1, gl⟩ ⟨[x], 0⟩ = some (.go 0 ⟨tk + 14, out ++ [hd v], rd, 1, gl⟩ ⟨[x], 0⟩) := by
  split at hE
  · rename_i v' t' hq
    simp only [Option.some.injEq, Prod.mk.injEq] at hE
    show Rx.onS (Ra.onX (Rx.onA (Rx.conv (ev inp hexBd (n + 9) E ⟨tk + 2, out, rd, 1, gl⟩ [x]) intT intT) fun v s => some (.val [v] s)) fun l s => evF inp hexBd (n + 9) 0 l s) (fun _ s => some (.go 0 s ⟨[x], 0⟩)) = _
    rw [pv_ok inp hexBd 3 E [x] v' t' hq (n + 9) (by omega), hE.2]
    show Rx.onS (evF inp hexBd (n + 9) 0 [convN v' intT intT] ⟨tk + 2 + 3, out, rd, 1, gl⟩) (fun _ s => some (.go 0 s ⟨[x], 0⟩)) = _
    rw [hE.1, hexdig_ok n hv]
    show some (Rs.go 0 ⟨tk + 2 + 3 + 9, _, _, _, _⟩ _) = _
    rw [show tk + 2 + 3 + 9 = tk + 14 by omega]
  · cases hE
theorem hex_body {x : Nat} (hx : x < 256) : 28 ≤ 28 ∧ ∀ tk out rd gl, seqS (hexB.map (exS inp hexBd (n + 11))) ⟨tk, out, rd, 1, gl⟩ ⟨[x], 0⟩ = some (.go 0 ⟨tk + 28, out ++ hexF x, rd, 1, gl⟩ ⟨[x], 0⟩) := by
  refine ⟨Nat.le_refl _, fun tk out rd gl => ?_⟩
  have h1 := of_decide_eq_true (List.all_eq_true.1 sh4_all x (List.mem_range.2 hx))
  have h2 := of_decide_eq_true (List.all_eq_true.1 and15_all x (List.mem_range.2 hx))
  show Rs.on (exS inp hexBd (n + 11) (.ex (.call 0 [(.bin 15 (.loc 0) (.num 4) intT intT, intT, intT)])) ⟨tk, out, rd, 1, gl⟩ ⟨[x], 0⟩) (fun h s f => if h = 0 then seqS ([Sm.ex (.call 0 [(.bin 22 (.loc 0) (.num 15) intT intT, intT, intT)])].map (exS inp hexBd (n + 11))) s f else some (.go h s f)) = _
  rw [calld n h1 (by omega)]
  show seqS ([Sm.ex (.call 0 [(.bin 22 (.loc 0) (.num 15) intT intT, intT, intT)])].map (exS inp hexBd (n + 11))) ⟨tk + 14, out ++ [hd (x / 16)], rd, 1, gl⟩ ⟨[x], 0⟩ = _
  refine (seq1 _ _ _ (calld n h2 (by omega) _ _ _ _)).trans ?_
  rw [show tk + 14 + 14 = tk + 28 by omega, List.append_assoc]
  rfl
end
/-- hex tells two digits of each byte. -/
theorem hex_means {inp : List Nat} (hb : ∀ v ∈ inp, v < 256) : ∃ n s, evF inp hexBd n 1 [] ⟨0, [], 0, 0, []⟩ = some (.val 0 s) ∧ s.out = inp.flatMap hexF ∧ s.tk ≤ 34 * inp.length + 9 := by
  obtain ⟨s, h1, h2, h3⟩ := map_means hb hexBd 1 rfl (inp.length + 7) (by omega) (F := hexF) (T := fun _ => 28) (X := 28) (fun x hx => hex_body inp.length hx)
  exact ⟨_, s, h1, h2, h3⟩
end Go.Proofs.YthfgkmjbfkociaaGreat
