/- contract of object.Wrong -/
import Derived.Test.YtoifodabfpbjlaaListA
import Derived.Test.YtoifodabfpbjlaaNamA
namespace Go.Proofs.Ytoifodabfpbjlaa
open Go.RowKit

/-- integers of whatever size -/
def zints (zs : List Int) (k : Nat) : Value := .int .i64 (zs.getD k 0)
/-- names and places: two cells each -/
def spotsV (l : List (ByteArray × Int)) (k : Nat) : Value :=
  if k % 2 = 0 then .string (l.getD (k / 2) (ByteArray.empty, 0)).1 else .int .i64 (l.getD (k / 2) (ByteArray.empty, 0)).2

def okWord (x : Int) : Bool := decide (0 ≤ x ∧ x ≤ 65535)
def spotWrong (s : ByteArray × Int) : Nat := if namedM s.1.data.toList = false then 7 else if 0 ≤ s.2 ∧ s.2 ≤ 65536 then 0 else 3
def spotsWrong : List (ByteArray × Int) → Nat
  | [] => 0
  | s :: r => if spotWrong s = 0 then spotsWrong r else spotWrong s
def wrongM (ws us : List Int) (sp : List (ByteArray × Int)) : Nat :=
  if 65536 < ws.length ∨ 400 < us.length ∨ 4000 < sp.length then 5
  else if (ws ++ us).all okWord then spotsWrong sp else 3

theorem spotsWrong_zero {sp : List (ByteArray × Int)} {k : Nat} (hk : k ≤ sp.length) (h : ∀ i, i < k → spotWrong (sp.getD i (ByteArray.empty, 0)) = 0) :
    spotsWrong sp = spotsWrong (sp.drop k) := by
  induction k generalizing sp with
  | zero => rfl
  | succ k ih =>
    cases sp with
    | nil => simp at hk
    | cons s r =>
      have h0 := h 0 (by omega)
      simp at h0
      rw [spotsWrong, if_pos h0]
      exact ih (by simpa using hk) (fun i hi => by simpa using h (i + 1) (by omega))

theorem spotsWrong_at {sp : List (ByteArray × Int)} {k : Nat} (hk : k < sp.length) (h : ∀ i, i < k → spotWrong (sp.getD i (ByteArray.empty, 0)) = 0)
    {n : Nat} (hn : spotWrong (sp.getD k (ByteArray.empty, 0)) = n) (hn0 : n ≠ 0) : spotsWrong sp = n := by
  rw [spotsWrong_zero (Nat.le_of_lt hk) h, List.drop_eq_getElem_cons hk, spotsWrong]
  rw [List.getD_eq_getElem?_getD, List.getElem?_eq_getElem hk] at hn
  simp only [Option.getD_some] at hn
  rw [hn, if_neg hn0]

theorem wrong_many {ws us : List Int} {sp : List (ByteArray × Int)} (h : 65536 < ws.length ∨ 400 < us.length ∨ 4000 < sp.length) : wrongM ws us sp = 5 := by
  unfold wrongM; rw [if_pos h]
theorem wrong_word {ws us : List Int} {sp : List (ByteArray × Int)} (h : ¬ (65536 < ws.length ∨ 400 < us.length ∨ 4000 < sp.length)) {x : Int} (hx : x ∈ ws ++ us) (hb : okWord x = false) :
    wrongM ws us sp = 3 := by
  unfold wrongM
  rw [if_neg h, if_neg]
  intro ha
  have := List.all_eq_true.1 ha x hx
  rw [hb] at this
  cases this
theorem wrong_spots {ws us : List Int} {sp : List (ByteArray × Int)} (h : ¬ (65536 < ws.length ∨ 400 < us.length ∨ 4000 < sp.length)) (hw : ∀ x ∈ ws ++ us, okWord x = true) :
    wrongM ws us sp = spotsWrong sp := by
  unfold wrongM
  rw [if_neg h, if_pos (List.all_eq_true.2 hw)]

def WrongPost (ws us : List Int) (sp : List (ByteArray × Int)) (w : World) (e : Ending) (w' : World) : Prop :=
  e = .returned (.int .i64 (wrongM ws us sp : Nat)) ∧ Below w.heap.size w w'

theorem WrongPost.mk {ws us : List Int} {sp : List (ByteArray × Int)} {w w' : World} {n : Int} (h : ((wrongM ws us sp : Nat) : Int) = n) (hb : Below w.heap.size w w') :
    WrongPost ws us sp w (.returned (.int .i64 n)) w' := by
  subst h; exact ⟨rfl, hb⟩

/-- what the two lists are -/
def TwoLists (w : World) (B : Nat) (ws us : List Int) : Prop := ∀ j, j < 2 → ∃ al ll cl zs, w.cell? ⟨B, j, none⟩ = some (.slice al ll cl) ∧ zs.length = ll ∧ ll ≤ 65536 ∧ Cells w al ll (zints zs) ∧
  ((j = 0 ∧ zs = ws) ∨ (j = 1 ∧ zs = us))

theorem okWord_false {x : Int} (h : ¬ (0 ≤ x ∧ x ≤ 65535)) : okWord x = false := decide_eq_false h
theorem okWord_true {x : Int} (h : 0 ≤ x ∧ x ≤ 65535) : okWord x = true := decide_eq_true h

set_option maxHeartbeats 1000000 in
theorem wrong_any (aw au as' : Option Addr) (lw cw lu cu ls cs : Nat) (ws us : List Int) (sp : List (ByteArray × Int)) (w : World)
    (hlw : ws.length = lw) (hlu : us.length = lu) (hls : sp.length = ls) (hcw : Cells w aw lw (zints ws)) (hcu : Cells w au lu (zints us)) (hcs : Cells w as' (2 * ls) (spotsV sp)) :
    Calls Try.prog 16 #[.agg #[.slice aw lw cw, .slice au lu cu, .slice as' ls cs]] w (WrongPost ws us sp w) := by
  by_cases h1 : 65536 < lw
  · have H := Lib.hid (@wrong_many ws us sp (by omega))
    have f1 : decide ((65536 : Int) < lw) = true := decide_eq_true (by omega)
    clear hlw hlu hls
    go_enter Try.func16, Try.ntmps16
    go_wp2_with fail
    go_ret
    exact WrongPost.mk (by rw [H.out]; rfl) ((Below.refl _ _).alloc (Nat.le_refl _) _)
  have f1 : decide ((65536 : Int) < lw) = false := decide_eq_false (by omega)
  by_cases h2 : 400 < lu
  · have H := Lib.hid (@wrong_many ws us sp (by omega))
    have f2 : decide ((400 : Int) < lu) = true := decide_eq_true (by omega)
    clear hlw hlu hls
    go_enter Try.func16, Try.ntmps16
    go_wp2_with fail
    go_ret
    exact WrongPost.mk (by rw [H.out]; rfl) ((Below.refl _ _).alloc (Nat.le_refl _) _)
  have f2 : decide ((400 : Int) < lu) = false := decide_eq_false (by omega)
  by_cases h3 : 4000 < ls
  · have H := Lib.hid (@wrong_many ws us sp (by omega))
    have f3 : decide ((4000 : Int) < ls) = true := decide_eq_true (by omega)
    clear hlw hlu hls
    go_enter Try.func16, Try.ntmps16
    go_wp2_with fail
    go_ret
    exact WrongPost.mk (by rw [H.out]; rfl) ((Below.refl _ _).alloc (Nat.le_refl _) _)
  have f3 : decide ((4000 : Int) < ls) = false := decide_eq_false (by omega)
  have Hsm := Lib.hid (show ¬ (65536 < ws.length ∨ 400 < us.length ∨ 4000 < sp.length) by omega)
  have Hlw := Lib.hid hlw
  have Hlu := Lib.hid hlu
  have Hls := Lib.hid hls
  clear hlw hlu hls
  go_enter Try.func16, Try.ntmps16
  go_wp2_with fail
  have hb2 : Below w.heap.size w ((w.alloc (Obj.cells #[Value.slice aw lw cw, Value.slice au lu cu, Value.slice as' ls cs] 29)).alloc (Obj.cells #[Value.slice aw lw cw, Value.slice au lu cu] 26)) :=
    ((Below.refl _ _).alloc (Nat.le_refl _) _).alloc (by simp) _
  have hsp2 : ((w.alloc (Obj.cells #[Value.slice aw lw cw, Value.slice au lu cu, Value.slice as' ls cs] 29)).alloc (Obj.cells #[Value.slice aw lw cw, Value.slice au lu cu] 26)).cell? ⟨w.heap.size, 2, none⟩ = some (.slice as' ls cs) := by
    rw [World.cell?_alloc_past _ _ _ (by simp), World.cell?_alloc_at _ _ _ _ rfl]; rfl
  have htl0 : ((w.alloc (Obj.cells #[Value.slice aw lw cw, Value.slice au lu cu, Value.slice as' ls cs] 29)).alloc (Obj.cells #[Value.slice aw lw cw, Value.slice au lu cu] 26)).cell? ⟨w.heap.size + 1, 0, none⟩ = some (.slice aw lw cw) := by
    rw [World.cell?_alloc_at _ _ _ _ (by simp)]; rfl
  have htl1 : ((w.alloc (Obj.cells #[Value.slice aw lw cw, Value.slice au lu cu, Value.slice as' ls cs] 29)).alloc (Obj.cells #[Value.slice aw lw cw, Value.slice au lu cu] 26)).cell? ⟨w.heap.size + 1, 1, none⟩ = some (.slice au lu cu) := by
    rw [World.cell?_alloc_at _ _ _ _ (by simp)]; rfl
  generalize (w.alloc (Obj.cells #[Value.slice aw lw cw, Value.slice au lu cu, Value.slice as' ls cs] 29)).alloc (Obj.cells #[Value.slice aw lw cw, Value.slice au lu cu] 26) = wo at *
  have hcs2 := Cells.grow hcs hb2
  have htl : TwoLists wo (w.heap.size + 1) ws us := by
    intro j hj
    by_cases hj0 : j = 0
    · subst hj0; exact ⟨aw, lw, cw, ws, htl0, Hlw.out, by omega, Cells.grow hcw hb2, .inl ⟨rfl, rfl⟩⟩
    · obtain rfl : j = 1 := by omega
      exact ⟨au, lu, cu, us, htl1, Hlu.out, by omega, Cells.grow hcu hb2, .inr ⟨rfl, rfl⟩⟩
  clear htl0 htl1 hcw hcu hcs
  go_loop [2, 4, 6, 31] (fun _ _ _ i => ∃ j : Nat, j ≤ 2 ∧ i = .int .i64 j ∧ (0 < j → ∀ x ∈ ws, okWord x = true) ∧ (1 < j → ∀ x ∈ us, okWord x = true)) (fun _ _ _ i => 2 - (intOf i).toNat)
  case atStart => exact ⟨0, by omega, rfl, fun h => absurd h (by omega), fun h => absurd h (by omega)⟩
  case round =>
    obtain ⟨j, hj, rfl, hj0, hj1⟩ := hrel
    have Hj0 := Lib.hid hj0
    have Hj1 := Lib.hid hj1
    clear hj0 hj1
    by_cases hlt : j < 2
    · obtain ⟨al, ll, cl, zs, hcell, hlen, hll, hcz, hwhich⟩ := htl j hlt
      have hmem : Hid (∀ x ∈ zs, x ∈ ws ++ us) := by
        intro x hx
        rcases hwhich with ⟨_, rfl⟩ | ⟨_, rfl⟩ <;> simp [hx]
      have Hwhich := Lib.hid hwhich
      have Hlen := Lib.hid hlen
      clear hwhich hlen
      go_wp2_with fail
      go_loop [2, 6, 37] (fun _ _ i => ∃ k : Nat, k ≤ ll ∧ i = .int .i64 k ∧ ∀ n, n < k → okWord (zs.getD n 0) = true) (fun _ _ i => ll - (intOf i).toNat)
      case atStart => exact ⟨0, by omega, rfl, fun n hn => absurd hn (Nat.not_lt_zero _)⟩
      case round =>
        obtain ⟨k, hk, rfl, hgood⟩ := hrel
        have Hgood := Lib.hid hgood
        clear hgood
        by_cases hlt2 : k < ll
        · obtain ⟨b, off, rfl, hck⟩ := hcz.at hlt2
          have hin : Hid (zs.getD k 0 ∈ ws ++ us) := by
            refine hmem.out _ ?_
            have : k < zs.length := by rw [Hlen.out]; exact hlt2
            rw [List.getD_eq_getElem?_getD, List.getElem?_eq_getElem this]
            exact List.getElem_mem _
          have hstep : okWord (zs.getD k 0) = true → Hid (∀ n, n < k + 1 → okWord (zs.getD n 0) = true) := by
            intro h n hn
            by_cases e : n = k
            · rw [e]; exact h
            · exact Hgood.out n (by omega)
          unfold zints at hck
          generalize zs.getD k 0 = x at hck hin hstep
          by_cases g1 : x < 0
          · have d1 : decide (x < 0) = true := decide_eq_true g1
            have H := Lib.hid (wrong_word (sp := sp) Hsm.out hin.out (okWord_false (by omega)))
            clear hstep
            go_wp2_with fail
            go_ret
            exact WrongPost.mk (by rw [H.out]; rfl) hb2
          have d1 : decide (x < 0) = false := decide_eq_false g1
          by_cases g2 : 65535 < x
          · have d2 : decide (65535 < x) = true := decide_eq_true g2
            have H := Lib.hid (wrong_word (sp := sp) Hsm.out hin.out (okWord_false (by omega)))
            clear hstep
            go_wp2_with fail
            go_ret
            exact WrongPost.mk (by rw [H.out]; rfl) hb2
          have d2 : decide (65535 < x) = false := decide_eq_false g2
          have H := hstep (okWord_true (by omega))
          clear hstep
          go_wp2_with fail
          go_round
          case rel => exact ⟨k + 1, by omega, by go_num, H.out⟩
          case measure => simp [intOf]; omega
        · obtain rfl : k = ll := by omega
          have hall : Hid (∀ x ∈ zs, okWord x = true) := by
            intro x hx
            obtain ⟨n, hn, rfl⟩ := List.getElem_of_mem hx
            have := Hgood.out n (by rw [← Hlen.out]; exact hn)
            rw [List.getD_eq_getElem?_getD, List.getElem?_eq_getElem hn] at this
            exact this
          go_wp2_with fail
          go_round
          case rel =>
            refine ⟨j + 1, by omega, by go_num, fun _ x hx => ?_, fun h1 x hx => ?_⟩
            · rcases Hwhich.out with ⟨_, rfl⟩ | ⟨hj1, rfl⟩
              · exact hall.out x hx
              · exact Hj0.out (by omega) x hx
            · rcases Hwhich.out with ⟨hj1, rfl⟩ | ⟨hj1, rfl⟩
              · omega
              · exact hall.out x hx
          case measure => simp [intOf]; omega
    · obtain rfl : j = 2 := by omega
      have Hsp := Lib.hid (wrong_spots (ws := ws) (us := us) (sp := sp) Hsm.out (fun x hx => by
        rcases List.mem_append.1 hx with h | h
        · exact Hj0.out (by omega) x h
        · exact Hj1.out (by omega) x h))
      clear htl
      go_wp2_with fail
      go_loopw [2, 8, 52] (fun _ _ i wr => ∃ k : Nat, k ≤ ls ∧ i = .int .i64 k ∧ (∀ n, n < k → spotWrong (sp.getD n (ByteArray.empty, 0)) = 0) ∧ Below w.heap.size w wr ∧ Below wo.heap.size wo wr) (fun _ _ i _ => ls - (intOf i).toNat)
      case atStart => exact ⟨0, by omega, rfl, fun n hn => absurd hn (Nat.not_lt_zero _), hb2, Below.refl _ _⟩
      case round =>
        obtain ⟨k, hk, rfl, hgood, hw1, hw2⟩ := hrel
        have Hgood := Lib.hid hgood
        clear hgood
        by_cases hlt2 : k < ls
        · have hcs3 := Cells.grow hcs2 hw2
          obtain ⟨b, off, rfl, hck⟩ := hcs3.at (k := 2 * k) (by omega)
          have hck2 : wr.cell? ⟨b, off + 2 * k + 1, none⟩ = some (spotsV sp (2 * k + 1)) := by
            obtain ⟨b', off', he, h⟩ := hcs3.at (k := 2 * k + 1) (by omega)
            cases he
            exact h
          have e1 : spotsV sp (2 * k) = .string (sp.getD k (ByteArray.empty, 0)).1 := by
            unfold spotsV; rw [if_pos (by omega)]; congr 3; omega
          have e2 : spotsV sp (2 * k + 1) = .int .i64 (sp.getD k (ByteArray.empty, 0)).2 := by
            unfold spotsV; rw [if_neg (by omega)]; congr 3; omega
          rw [e1, Nat.mul_comm 2 k] at hck
          rw [e2, Nat.mul_comm 2 k] at hck2
          clear e1 e2
          have hkl : k < sp.length := by rw [Hls.out]; exact hlt2
          have hat := fun n (hn : n ≠ 0) (h : spotWrong (sp.getD k (ByteArray.empty, 0)) = n) => Lib.hid (spotsWrong_at hkl Hgood.out h hn)
          have hstep : spotWrong (sp.getD k (ByteArray.empty, 0)) = 0 → Hid (∀ n, n < k + 1 → spotWrong (sp.getD n (ByteArray.empty, 0)) = 0) := by
            intro h n hn
            by_cases e : n = k
            · rw [e]; exact h
            · exact Hgood.out n (by omega)
          clear hkl
          generalize sp.getD k (ByteArray.empty, 0) = s at hck hck2 hat hstep
          obtain ⟨nm, pl⟩ := s
          simp only at hck hck2
          have hw3 : ∀ o, Below w.heap.size w (wr.alloc o) := fun o => hw1.alloc (by have := hw1.size; omega) o
          have hw4 : ∀ o, Below wo.heap.size wo (wr.alloc o) := fun o => hw2.alloc (by have := hw2.size; omega) o
          by_cases g1 : namedM nm.data.toList = false
          · have H := hat 7 (by omega) (by unfold spotWrong; rw [if_pos g1])
            clear hat hstep
            have hnm : Calls Try.prog 28 #[.string nm] (wr.alloc (.cells #[.string nm, .int .i64 pl] 45)) fun e w' => e = .returned (.bool false) ∧ wr.alloc (.cells #[.string nm, .int .i64 pl] 45) = w' := by
              rw [← g1]; exact named_any nm _
            have Hnm := Lib.hid hnm
            clear hnm
            clear g1
            go_wp2_with fail
            refine Hnm.out.mono ?_
            rintro e w' ⟨rfl, rfl⟩
            go_wp2_with fail
            go_ret
            exact WrongPost.mk (by rw [Hsp.out, H.out]; rfl) (hw3 _)
          have hnm : Calls Try.prog 28 #[.string nm] (wr.alloc (.cells #[.string nm, .int .i64 pl] 45)) fun e w' => e = .returned (.bool true) ∧ wr.alloc (.cells #[.string nm, .int .i64 pl] 45) = w' := by
            rw [← show namedM nm.data.toList = true by simpa using g1]; exact named_any nm _
          have Hnm := Lib.hid hnm
          clear hnm
          by_cases g2 : pl < 0
          · have H := hat 3 (by omega) (by unfold spotWrong; rw [if_neg g1, if_neg (by simp only []; omega)])
            have d1 : decide (pl < 0) = true := decide_eq_true g2
            clear hat hstep g1
            go_wp2_with fail
            refine Hnm.out.mono ?_
            rintro e w' ⟨rfl, rfl⟩
            go_wp2_with fail
            go_ret
            exact WrongPost.mk (by rw [Hsp.out, H.out]; rfl) (hw3 _)
          have d1 : decide (pl < 0) = false := decide_eq_false g2
          by_cases g3 : 65536 < pl
          · have H := hat 3 (by omega) (by unfold spotWrong; rw [if_neg g1, if_neg (by simp only []; omega)])
            have d2 : decide (65536 < pl) = true := decide_eq_true g3
            clear hat hstep g1
            go_wp2_with fail
            refine Hnm.out.mono ?_
            rintro e w' ⟨rfl, rfl⟩
            go_wp2_with fail
            go_ret
            exact WrongPost.mk (by rw [Hsp.out, H.out]; rfl) (hw3 _)
          have d2 : decide (65536 < pl) = false := decide_eq_false g3
          have H := hstep (by unfold spotWrong; rw [if_neg g1, if_pos (by simp only []; omega)])
          clear hat hstep g1
          go_wp2_with fail
          refine Hnm.out.mono ?_
          rintro e w' ⟨rfl, rfl⟩
          go_wp2_with fail
          go_roundw
          case rel => exact ⟨k + 1, by omega, by go_num, H.out, hw3 _, hw4 _⟩
          case measure => simp [intOf]; omega
        · obtain rfl : k = ls := by omega
          go_wp2_with fail
          go_ret
          exact WrongPost.mk (by rw [Hsp.out, spotsWrong_zero (by rw [Hls.out]; omega) Hgood.out, List.drop_of_length_le (by rw [Hls.out]; omega)]; rfl) hw1
end Go.Proofs.Ytoifodabfpbjlaa
