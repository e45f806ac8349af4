/-
  Texts joined: ShUna ShUnb.
-/
import Derived.Test.YtgmmfjmdpbhjnaaGreatJSa
/- contracts of types.Result, Unary, Words, Literal (printed by mkuna.py) -/
namespace Go.Proofs.YtgmmfjmdpbhjnaaGreat
open Go.RowKit

theorem box3_new (w : World) (x y z : GTy) : (((w.alloc (.cells #[.int .i64 x.bits, .bool x.sgn] 72)).alloc (.cells #[.int .i64 y.bits, .bool y.sgn] 72)).alloc (.cells #[.int .i64 z.bits, .bool z.sgn] 72)).heap[w.heap.size + 1 + 1]? = some (.cells (tyC z) 72) := by
  have := box_new ((w.alloc (.cells #[.int .i64 x.bits, .bool x.sgn] 72)).alloc (.cells #[.int .i64 y.bits, .bool y.sgn] 72)) z
  simpa using this

/-- a type is stored into the box of a result -/
theorem ret_ty {w0 w : World} {B : Nat} {z : GTy} (hb : Below w0.heap.size w0 w) (h : w.heap[B]? = some (.cells (tyC z) 72)) (hB : w0.heap.size ≤ B) (r : GTy) :
    ((w.setCell ⟨B, 0, none⟩ (.int .i64 r.bits)).setCell ⟨B, 1, none⟩ (.bool r.sgn)).cell? ⟨B, 0, none⟩ = some (.int .i64 r.bits) ∧
    ((w.setCell ⟨B, 0, none⟩ (.int .i64 r.bits)).setCell ⟨B, 1, none⟩ (.bool r.sgn)).cell? ⟨B, 1, none⟩ = some (.bool r.sgn) ∧
    Below w0.heap.size w0 ((w.setCell ⟨B, 0, none⟩ (.int .i64 r.bits)).setCell ⟨B, 1, none⟩ (.bool r.sgn)) := by
  have h1 := blk_set (blk_set h 0 (.int .i64 r.bits)) 1 (.bool r.sgn)
  exact ⟨blk_cell h1 0, blk_cell h1 1, (hb.setCell hB _).setCell hB _⟩

set_option maxHeartbeats 1000000 in
theorem res_ok (k : Nat) (a b : GTy) (w : World) : Calls Tryz.prog 74 #[.int .i64 k, tyV a, tyV b] w (GrowsTo (tyV (resT k a b)) w) := by
  have HP := prom_ok a
  have HI : ∀ w, Calls Tryz.prog 72 #[] w (GrowsTo (.agg #[.int .i64 intT.bits, .bool intT.sgn]) w) := int_ok
  have HC := comm_ok a b
  have hT0 := twoTys_new w a b
  have hR0 := box3_new w a b ⟨0, false⟩
  have hB0 : Below w.heap.size w (((w.alloc (.cells #[.int .i64 a.bits, .bool a.sgn] 72)).alloc (.cells #[.int .i64 b.bits, .bool b.sgn] 72)).alloc (.cells #[.int .i64 0, .bool false] 72)) := (two_below w a b).alloc (by simp; omega) _
  have hT1 : TwoTys w.heap.size a b (((w.alloc (.cells #[.int .i64 a.bits, .bool a.sgn] 72)).alloc (.cells #[.int .i64 b.bits, .bool b.sgn] 72)).alloc (.cells #[.int .i64 0, .bool false] 72)) := ⟨blk_alloc hT0.1 _, blk_alloc hT0.2 _⟩
  simp only [tyV] at HP HC
  have hr1 : k = 14 ∨ k = 15 → resT k a b = promT a := fun h => by unfold resT; rw [if_pos h]
  have hr2 : 16 ≤ k ∧ k ≤ 21 → resT k a b = intT := fun h => by unfold resT; rw [if_neg (by omega), if_pos h]
  have hr3 : ¬ (k = 14 ∨ k = 15) → ¬ (16 ≤ k ∧ k ≤ 21) → resT k a b = commT a b := fun h h' => by unfold resT; rw [if_neg h, if_neg h']
  have Hr1 := Lib.hid hr1
  have Hr2 := Lib.hid hr2
  have Hr3 := Lib.hid hr3
  clear hr1 hr2 hr3 hT0
  show Calls Tryz.prog 74 #[.int .i64 k, .agg #[.int .i64 a.bits, .bool a.sgn], .agg #[.int .i64 b.bits, .bool b.sgn]] w (GrowsTo (tyV (resT k a b)) w)
  generalize resT k a b = r at *
  generalize promT a = p at *
  generalize commT a b = q at *
  generalize hI : intT = it at *
  clear hI
  by_cases h1 : k = 14 ∨ k = 15
  · have H := Lib.hid (Hr1.out h1)
    clear Hr1 Hr2 Hr3 HI HC
    rcases h1 with rfl | rfl
    · skip
      go_enter Tryz.func74, Tryz.ntmps74
      go_wp2_with fail
      generalize ((w.alloc (.cells #[.int .i64 a.bits, .bool a.sgn] 72)).alloc (.cells #[.int .i64 b.bits, .bool b.sgn] 72)).alloc (.cells #[.int .i64 0, .bool false] 72) = w0 at *
      obtain ⟨c1, c2, c3, c4⟩ := hT1.cells
      go_wp2_with fail
      refine (HP _).mono ?_
      rintro e w1 ⟨rfl, hb1⟩
      have hR1 := blk_grown hR0 (Below.grownNone hb1) (by simp)
      have hB1 := hB0.trans (hb1.mono hB0.size)
      obtain ⟨d0, d1, hbe⟩ := ret_ty hB1 hR1 (by omega) p
      have D := Lib.hid (And.intro d0 (And.intro d1 hbe))
      have r0 : w1.cell? ⟨w.heap.size + 1 + 1, 0, none⟩ = some (.int .i64 0) := blk_cell hR1 0
      have r1 : w1.cell? ⟨w.heap.size + 1 + 1, 1, none⟩ = some (.bool false) := blk_cell hR1 1
      have z0 := blk_frozen hR1 0
      have z1 := blk_frozen hR1 1
      clear hT1 hR0 hB0 hb1 hR1 hB1 c1 c2 c3 c4 d0 d1 hbe
      go_wp2_with fail
      obtain ⟨d0, d1, hbe⟩ := D.out
      exact bodyPost_ret (v := .agg #[.int .i64 p.bits, .bool p.sgn]) (by simp [results, Tryz.results74, go_sem, d0, d1]) rfl ⟨by rw [H.out]; rfl, hbe⟩
    · skip
      go_enter Tryz.func74, Tryz.ntmps74
      go_wp2_with fail
      generalize ((w.alloc (.cells #[.int .i64 a.bits, .bool a.sgn] 72)).alloc (.cells #[.int .i64 b.bits, .bool b.sgn] 72)).alloc (.cells #[.int .i64 0, .bool false] 72) = w0 at *
      obtain ⟨c1, c2, c3, c4⟩ := hT1.cells
      go_wp2_with fail
      refine (HP _).mono ?_
      rintro e w1 ⟨rfl, hb1⟩
      have hR1 := blk_grown hR0 (Below.grownNone hb1) (by simp)
      have hB1 := hB0.trans (hb1.mono hB0.size)
      obtain ⟨d0, d1, hbe⟩ := ret_ty hB1 hR1 (by omega) p
      have D := Lib.hid (And.intro d0 (And.intro d1 hbe))
      have r0 : w1.cell? ⟨w.heap.size + 1 + 1, 0, none⟩ = some (.int .i64 0) := blk_cell hR1 0
      have r1 : w1.cell? ⟨w.heap.size + 1 + 1, 1, none⟩ = some (.bool false) := blk_cell hR1 1
      have z0 := blk_frozen hR1 0
      have z1 := blk_frozen hR1 1
      clear hT1 hR0 hB0 hb1 hR1 hB1 c1 c2 c3 c4 d0 d1 hbe
      go_wp2_with fail
      obtain ⟨d0, d1, hbe⟩ := D.out
      exact bodyPost_ret (v := .agg #[.int .i64 p.bits, .bool p.sgn]) (by simp [results, Tryz.results74, go_sem, d0, d1]) rfl ⟨by rw [H.out]; rfl, hbe⟩
  · have g1 : ((k : Int) == 14) = false := t_ne (by omega)
    have g2 : ((k : Int) == 15) = false := t_ne (by omega)
    by_cases h2 : 16 ≤ k ∧ k ≤ 21
    · have H := Lib.hid (Hr2.out h2)
      have g3 : decide ((16 : Int) ≤ k) = true := decide_eq_true (by omega)
      have g4 : decide ((k : Int) ≤ 21) = true := decide_eq_true (by omega)
      clear Hr1 Hr2 Hr3 HP HC h1
      go_enter Tryz.func74, Tryz.ntmps74
      go_wp2_with fail
      generalize ((w.alloc (.cells #[.int .i64 a.bits, .bool a.sgn] 72)).alloc (.cells #[.int .i64 b.bits, .bool b.sgn] 72)).alloc (.cells #[.int .i64 0, .bool false] 72) = w0 at *
      obtain ⟨c1, c2, c3, c4⟩ := hT1.cells
      go_wp2_with fail
      refine (HI _).mono ?_
      rintro e w1 ⟨rfl, hb1⟩
      have hR1 := blk_grown hR0 (Below.grownNone hb1) (by simp)
      have hB1 := hB0.trans (hb1.mono hB0.size)
      obtain ⟨d0, d1, hbe⟩ := ret_ty hB1 hR1 (by omega) it
      have D := Lib.hid (And.intro d0 (And.intro d1 hbe))
      have r0 : w1.cell? ⟨w.heap.size + 1 + 1, 0, none⟩ = some (.int .i64 0) := blk_cell hR1 0
      have r1 : w1.cell? ⟨w.heap.size + 1 + 1, 1, none⟩ = some (.bool false) := blk_cell hR1 1
      have z0 := blk_frozen hR1 0
      have z1 := blk_frozen hR1 1
      clear hT1 hR0 hB0 hb1 hR1 hB1 c1 c2 c3 c4 d0 d1 hbe
      go_wp2_with fail
      obtain ⟨d0, d1, hbe⟩ := D.out
      exact bodyPost_ret (v := .agg #[.int .i64 it.bits, .bool it.sgn]) (by simp [results, Tryz.results74, go_sem, d0, d1]) rfl ⟨by rw [H.out]; rfl, hbe⟩
    · have H := Lib.hid (Hr3.out h1 h2)
      clear Hr1 Hr2 Hr3 HP HI h1
      by_cases h3 : 16 ≤ k
      · have g3 : decide ((16 : Int) ≤ k) = true := decide_eq_true (by omega)
        have g4 : decide ((k : Int) ≤ 21) = false := decide_eq_false (by omega)
        go_enter Tryz.func74, Tryz.ntmps74
        go_wp2_with fail
        generalize ((w.alloc (.cells #[.int .i64 a.bits, .bool a.sgn] 72)).alloc (.cells #[.int .i64 b.bits, .bool b.sgn] 72)).alloc (.cells #[.int .i64 0, .bool false] 72) = w0 at *
        obtain ⟨c1, c2, c3, c4⟩ := hT1.cells
        go_wp2_with fail
        refine (HC _).mono ?_
        rintro e w1 ⟨rfl, hb1⟩
        have hR1 := blk_grown hR0 (Below.grownNone hb1) (by simp)
        have hB1 := hB0.trans (hb1.mono hB0.size)
        obtain ⟨d0, d1, hbe⟩ := ret_ty hB1 hR1 (by omega) q
        have D := Lib.hid (And.intro d0 (And.intro d1 hbe))
        have r0 : w1.cell? ⟨w.heap.size + 1 + 1, 0, none⟩ = some (.int .i64 0) := blk_cell hR1 0
        have r1 : w1.cell? ⟨w.heap.size + 1 + 1, 1, none⟩ = some (.bool false) := blk_cell hR1 1
        have z0 := blk_frozen hR1 0
        have z1 := blk_frozen hR1 1
        clear hT1 hR0 hB0 hb1 hR1 hB1 c1 c2 c3 c4 d0 d1 hbe
        go_wp2_with fail
        obtain ⟨d0, d1, hbe⟩ := D.out
        exact bodyPost_ret (v := .agg #[.int .i64 q.bits, .bool q.sgn]) (by simp [results, Tryz.results74, go_sem, d0, d1]) rfl ⟨by rw [H.out]; rfl, hbe⟩
      · have g3 : decide ((16 : Int) ≤ k) = false := decide_eq_false (by omega)
        go_enter Tryz.func74, Tryz.ntmps74
        go_wp2_with fail
        generalize ((w.alloc (.cells #[.int .i64 a.bits, .bool a.sgn] 72)).alloc (.cells #[.int .i64 b.bits, .bool b.sgn] 72)).alloc (.cells #[.int .i64 0, .bool false] 72) = w0 at *
        obtain ⟨c1, c2, c3, c4⟩ := hT1.cells
        go_wp2_with fail
        refine (HC _).mono ?_
        rintro e w1 ⟨rfl, hb1⟩
        have hR1 := blk_grown hR0 (Below.grownNone hb1) (by simp)
        have hB1 := hB0.trans (hb1.mono hB0.size)
        obtain ⟨d0, d1, hbe⟩ := ret_ty hB1 hR1 (by omega) q
        have D := Lib.hid (And.intro d0 (And.intro d1 hbe))
        have r0 : w1.cell? ⟨w.heap.size + 1 + 1, 0, none⟩ = some (.int .i64 0) := blk_cell hR1 0
        have r1 : w1.cell? ⟨w.heap.size + 1 + 1, 1, none⟩ = some (.bool false) := blk_cell hR1 1
        have z0 := blk_frozen hR1 0
        have z1 := blk_frozen hR1 1
        clear hT1 hR0 hB0 hb1 hR1 hB1 c1 c2 c3 c4 d0 d1 hbe
        go_wp2_with fail
        obtain ⟨d0, d1, hbe⟩ := D.out
        exact bodyPost_ret (v := .agg #[.int .i64 q.bits, .bool q.sgn]) (by simp [results, Tryz.results74, go_sem, d0, d1]) rfl ⟨by rw [H.out]; rfl, hbe⟩
end Go.Proofs.YtgmmfjmdpbhjnaaGreat

/- contract of types.Unary (printed by mkunb.py) -/
namespace Go.Proofs.YtgmmfjmdpbhjnaaGreat
open Go.RowKit

/-- what an operator makes of one number -/
def unN (k a : Nat) (x : GTy) : Nat × GTy :=
  if k = 6 then (subN 0 (convN a x (promT x)) (promT x).bits, promT x)
  else if k = 7 then ((18446744073709551615 - convN a x (promT x)) % 2 ^ (promT x).bits, promT x)
  else (truthN (decide (convN a x (promT x) = 0)), intT)
def unV (r : Nat × GTy) : Value := .tuple #[.int .u64 r.1, tyV r.2, .int .i64 0]

theorem not_wrap (p : Nat) (hp : U64 p) : bits .xor .u64 IntKind.u64.max (p : Int) = ((18446744073709551615 - p : Nat) : Int) := by
  unfold U64 at hp
  have h1 := u64_xor_nat 18446744073709551615 p (by decide) hp
  have h2 : 18446744073709551615 ^^^ p = 18446744073709551615 - p := by
    have h3 : (BitVec.allOnes 64 ^^^ BitVec.ofNat 64 p).toNat = (~~~ (BitVec.ofNat 64 p)).toNat := by rw [BitVec.allOnes_xor]
    rw [BitVec.toNat_xor, BitVec.toNat_not, BitVec.toNat_ofNat, BitVec.toNat_allOnes, Nat.mod_eq_of_lt (by omega)] at h3
    exact h3
  rw [h2] at h1
  exact h1

set_option maxHeartbeats 2000000 in
set_option maxRecDepth 100000 in
theorem un_6 (a : Nat) (x : GTy) (hx : okT x) (ha : U64 a) (w : World) : Calls Tryz.prog 71 #[.int .i64 6, .int .u64 a, tyV x] w (GrowsTo (unV (unN 6 a x)) w) := by
  have HV := valid_ok x hx
  have HP := prom_ok x
  have ht := promT_ok hx
  have HC := conv_ok a x (promT x) hx ht ha
  have hp := convN_lt a x (promT x) ht
  have HO := sub_ok 0 (convN a x (promT x)) (promT x).bits ht (by unfold U64; decide) hp
  have HN := Lib.hid (show unN 6 a x = (subN 0 (convN a x (promT x)) (promT x).bits, promT x) from rfl)
  clear hx ha
  generalize promT x = t at *
  generalize convN a x t = p at *
  simp only [tyV] at HV HP HC
  have hT0 := twoTys_new w x ⟨0, false⟩
  have hB0 := two_below w x ⟨0, false⟩
  have hZ0 : ((w.alloc (.cells #[.int .i64 x.bits, .bool x.sgn] 72)).alloc (.cells #[.int .i64 0, .bool false] 72)).heap.size = w.heap.size + 1 + 1 := by simp
  show Calls Tryz.prog 71 #[.int .i64 6, .int .u64 a, .agg #[.int .i64 x.bits, .bool x.sgn]] w (GrowsTo (unV (unN 6 a x)) w)
  go_enter Tryz.func71, Tryz.ntmps71
  go_wp2_with fail
  have hT0' : TwoTys w.heap.size x ⟨0, false⟩ ((w.alloc (.cells #[.int .i64 x.bits, .bool x.sgn] 72)).alloc (.cells #[.int .i64 0, .bool false] 72)) := hT0
  have hB0' : Below w.heap.size w ((w.alloc (.cells #[.int .i64 x.bits, .bool x.sgn] 72)).alloc (.cells #[.int .i64 0, .bool false] 72)) := hB0
  clear hT0 hB0
  generalize (w.alloc (.cells #[.int .i64 x.bits, .bool x.sgn] 72)).alloc (.cells #[.int .i64 0, .bool false] 72) = w0 at *
  refine (HV _).mono ?_
  rintro e w1 ⟨rfl, hb1⟩
  have hT1 := hT0'.grow hb1
  have hB1 : Below w.heap.size w w1 := hB0'.trans (hb1.mono (by omega))
  have hz1 : w0.heap.size ≤ w1.heap.size := hb1.size
  clear hT0' hb1 hB0'
  obtain ⟨c1, c2, c3, c4⟩ := hT1.cells
  go_wp2_with fail
  refine (HP _).mono ?_
  rintro e w3 ⟨rfl, hb3⟩
  have hT3 := hT1.grow hb3
  have hB3 : Below w.heap.size w w3 := hB1.trans (hb3.mono (by omega))
  have hz3 : w1.heap.size ≤ w3.heap.size := hb3.size
  clear hT1 hb3 hB1 c1 c2 c3 c4
  obtain ⟨Bt, hBt⟩ : ∃ Bt, Bt = w3.heap.size := ⟨_, rfl⟩
  have hS0 : ThreeTys w.heap.size Bt x ⟨0, false⟩ t (w3.alloc (.cells #[.int .i64 t.bits, .bool t.sgn] 72)) := by
    rw [hBt]; exact ⟨⟨blk_alloc hT3.1 _, blk_alloc hT3.2 _⟩, box_new w3 t⟩
  have hBo : Below w.heap.size w (w3.alloc (.cells #[.int .i64 t.bits, .bool t.sgn] 72)) := hB3.alloc (by omega) _
  have hBn : w.heap.size + 1 < Bt := by omega
  clear hT3 hB3
  obtain ⟨h2, h3, h4, h5⟩ := hS0.1.cells
  obtain ⟨h6, h7⟩ := hS0.tc
  rw [hBt] at h6 h7
  go_wp2_with fail
  rw [← hBt] at h6 h7
  rw [← hBt]
  generalize w3.alloc (.cells #[.int .i64 t.bits, .bool t.sgn] 72) = wo at *
  clear hBt
  refine (HC _).mono ?_
  rintro e w4 ⟨rfl, hb4⟩
  have hS4 := hS0.grow hb4
  have hB4 : Below w.heap.size w w4 := hBo.trans (hb4.mono (by have := hBo.size; omega))
  clear h2 h3 h4 h5 h6 h7 hS0 hb4 hBo
  obtain ⟨h6, h7⟩ := hS4.tc
  have HO' : ∀ w, Calls Tryz.prog 106 #[.int .u64 0, .int .u64 p, .int .i64 t.bits] w fun e W' => e = .returned (.tuple #[.int .u64 (subN 0 p t.bits : Nat), .int .i64 0]) ∧ w = W' := HO
  clear HO
  go_wp2_with fail
  refine (HO' _).mono ?_
  rintro e w9 ⟨rfl, rfl⟩
  go_wp2_with fail
  refine wp_region_G (D := [3, 4]) (S := ThreeTys w.heap.size Bt x ⟨0, false⟩ t) Tryz.checked.mixed (by exact hS4) (fun hS => ?_)
  refine wpAnyG_read (i := 0) (v := ?va0) rfl (by kernel_rfl) (by kernel_rfl) (by kernel_rfl) (by kernel_rfl) (by kernel_rfl) ?qa0 ?ga0 ?ya0 hS ?_  -- move t10
  case ya0 => intro w' h; have h1 := h.tc; obtain ⟨h6, h7⟩ := h1; go_simp; exact rfl
  case ga0 => rfl
  case qa0 => exact fun _ _ _ h => h
  go_simp
  refine wpAnyG_read (i := 1) (v := ?va1) rfl (by kernel_rfl) (by kernel_rfl) (by kernel_rfl) (by kernel_rfl) (by kernel_rfl) ?qa1 ?ga1 ?ya1 hS ?_  -- load 57 t9
  case ya1 => intro w' h; have h1 := h.tc; obtain ⟨h6, h7⟩ := h1; go_simp; exact rfl
  case ga1 => rfl
  case qa1 => exact fun _ _ _ h => h
  go_simp
  refine wpAnyG_one (i := 2) (by kernel_rfl) rfl rfl (fun K hK => ?_)
  go_wp2_with fail
  refine hK _ _ (fun _ => hS) ?_
  clear hK
  go_simp
  refine wpAnyG_one (i := 3) (by kernel_rfl) rfl rfl (fun K hK => ?_)
  obtain ⟨y0, y1, y2, y3⟩ := hS4.1.cells
  obtain ⟨z0, z1, z2, z3⟩ := hS4.1.frozen
  go_wp2_with fail
  refine hK _ _ (fun h => absurd h (by decide)) ?_
  clear hK y0 y1 y2 y3 z0 z1 z2 z3
  go_simp
  refine wpAnyG_one (i := 4) (by kernel_rfl) rfl rfl (fun K hK => ?_)
  go_wp2_with fail
  refine hK _ _ (fun h => absurd h (by decide)) ?_
  clear hK
  go_simp
  refine wpAnyG_done (by kernel_rfl) ?_ _
  have hS5 := hS4.1.2
  obtain ⟨d0, d1, hbe⟩ := ret_ty (w0 := w) hB4 hS5 (Nat.le_succ _) t
  clear hS4 hS hS5
  go_wp2_with fail
  exact bodyPost_ret (v := .tuple #[.int .u64 _, .agg #[.int .i64 t.bits, .bool t.sgn], .int .i64 0]) (by simp [results, Tryz.results71, go_sem, d0, d1]; rfl) rfl ⟨by rw [HN.out]; rfl, hbe.drew⟩

set_option maxHeartbeats 2000000 in
set_option maxRecDepth 100000 in
theorem un_7 (a : Nat) (x : GTy) (hx : okT x) (ha : U64 a) (w : World) : Calls Tryz.prog 71 #[.int .i64 7, .int .u64 a, tyV x] w (GrowsTo (unV (unN 7 a x)) w) := by
  have HV := valid_ok x hx
  have HP := prom_ok x
  have ht := promT_ok hx
  have HC := conv_ok a x (promT x) hx ht ha
  have hp := convN_lt a x (promT x) ht
  have HO := cut_ok (18446744073709551615 - convN a x (promT x)) (promT x).bits ht (by unfold U64; omega)
  have hnw := not_wrap _ hp
  have HN := Lib.hid (show unN 7 a x = ((18446744073709551615 - convN a x (promT x)) % 2 ^ (promT x).bits, promT x) from rfl)
  clear hx ha
  generalize promT x = t at *
  generalize convN a x t = p at *
  simp only [tyV] at HV HP HC
  have hT0 := twoTys_new w x ⟨0, false⟩
  have hB0 := two_below w x ⟨0, false⟩
  have hZ0 : ((w.alloc (.cells #[.int .i64 x.bits, .bool x.sgn] 72)).alloc (.cells #[.int .i64 0, .bool false] 72)).heap.size = w.heap.size + 1 + 1 := by simp
  show Calls Tryz.prog 71 #[.int .i64 7, .int .u64 a, .agg #[.int .i64 x.bits, .bool x.sgn]] w (GrowsTo (unV (unN 7 a x)) w)
  go_enter Tryz.func71, Tryz.ntmps71
  go_wp2_with fail
  have hT0' : TwoTys w.heap.size x ⟨0, false⟩ ((w.alloc (.cells #[.int .i64 x.bits, .bool x.sgn] 72)).alloc (.cells #[.int .i64 0, .bool false] 72)) := hT0
  have hB0' : Below w.heap.size w ((w.alloc (.cells #[.int .i64 x.bits, .bool x.sgn] 72)).alloc (.cells #[.int .i64 0, .bool false] 72)) := hB0
  clear hT0 hB0
  generalize (w.alloc (.cells #[.int .i64 x.bits, .bool x.sgn] 72)).alloc (.cells #[.int .i64 0, .bool false] 72) = w0 at *
  refine (HV _).mono ?_
  rintro e w1 ⟨rfl, hb1⟩
  have hT1 := hT0'.grow hb1
  have hB1 : Below w.heap.size w w1 := hB0'.trans (hb1.mono (by omega))
  have hz1 : w0.heap.size ≤ w1.heap.size := hb1.size
  clear hT0' hb1 hB0'
  obtain ⟨c1, c2, c3, c4⟩ := hT1.cells
  go_wp2_with fail
  refine (HP _).mono ?_
  rintro e w3 ⟨rfl, hb3⟩
  have hT3 := hT1.grow hb3
  have hB3 : Below w.heap.size w w3 := hB1.trans (hb3.mono (by omega))
  have hz3 : w1.heap.size ≤ w3.heap.size := hb3.size
  clear hT1 hb3 hB1 c1 c2 c3 c4
  obtain ⟨Bt, hBt⟩ : ∃ Bt, Bt = w3.heap.size := ⟨_, rfl⟩
  have hS0 : ThreeTys w.heap.size Bt x ⟨0, false⟩ t (w3.alloc (.cells #[.int .i64 t.bits, .bool t.sgn] 72)) := by
    rw [hBt]; exact ⟨⟨blk_alloc hT3.1 _, blk_alloc hT3.2 _⟩, box_new w3 t⟩
  have hBo : Below w.heap.size w (w3.alloc (.cells #[.int .i64 t.bits, .bool t.sgn] 72)) := hB3.alloc (by omega) _
  have hBn : w.heap.size + 1 < Bt := by omega
  clear hT3 hB3
  obtain ⟨h2, h3, h4, h5⟩ := hS0.1.cells
  obtain ⟨h6, h7⟩ := hS0.tc
  rw [hBt] at h6 h7
  go_wp2_with fail
  rw [← hBt] at h6 h7
  rw [← hBt]
  generalize w3.alloc (.cells #[.int .i64 t.bits, .bool t.sgn] 72) = wo at *
  clear hBt
  refine (HC _).mono ?_
  rintro e w4 ⟨rfl, hb4⟩
  have hS4 := hS0.grow hb4
  have hB4 : Below w.heap.size w w4 := hBo.trans (hb4.mono (by have := hBo.size; omega))
  clear h2 h3 h4 h5 h6 h7 hS0 hb4 hBo
  obtain ⟨h6, h7⟩ := hS4.tc
  go_wp2_with fail
  refine (HO _).mono ?_
  rintro e w9 ⟨rfl, rfl⟩
  go_wp2_with fail
  refine wp_region_G (D := [3, 4]) (S := ThreeTys w.heap.size Bt x ⟨0, false⟩ t) Tryz.checked.mixed (by exact hS4) (fun hS => ?_)
  refine wpAnyG_read (i := 0) (v := ?va0) rfl (by kernel_rfl) (by kernel_rfl) (by kernel_rfl) (by kernel_rfl) (by kernel_rfl) ?qa0 ?ga0 ?ya0 hS ?_  -- move t12
  case ya0 => intro w' h; have h1 := h.tc; obtain ⟨h6, h7⟩ := h1; go_simp; exact rfl
  case ga0 => rfl
  case qa0 => exact fun _ _ _ h => h
  go_simp
  refine wpAnyG_read (i := 1) (v := ?va1) rfl (by kernel_rfl) (by kernel_rfl) (by kernel_rfl) (by kernel_rfl) (by kernel_rfl) ?qa1 ?ga1 ?ya1 hS ?_  -- load 57 t9
  case ya1 => intro w' h; have h1 := h.tc; obtain ⟨h6, h7⟩ := h1; go_simp; exact rfl
  case ga1 => rfl
  case qa1 => exact fun _ _ _ h => h
  go_simp
  refine wpAnyG_one (i := 2) (by kernel_rfl) rfl rfl (fun K hK => ?_)
  go_wp2_with fail
  refine hK _ _ (fun _ => hS) ?_
  clear hK
  go_simp
  refine wpAnyG_one (i := 3) (by kernel_rfl) rfl rfl (fun K hK => ?_)
  obtain ⟨y0, y1, y2, y3⟩ := hS4.1.cells
  obtain ⟨z0, z1, z2, z3⟩ := hS4.1.frozen
  go_wp2_with fail
  refine hK _ _ (fun h => absurd h (by decide)) ?_
  clear hK y0 y1 y2 y3 z0 z1 z2 z3
  go_simp
  refine wpAnyG_one (i := 4) (by kernel_rfl) rfl rfl (fun K hK => ?_)
  go_wp2_with fail
  refine hK _ _ (fun h => absurd h (by decide)) ?_
  clear hK
  go_simp
  refine wpAnyG_done (by kernel_rfl) ?_ _
  have hS5 := hS4.1.2
  obtain ⟨d0, d1, hbe⟩ := ret_ty (w0 := w) hB4 hS5 (Nat.le_succ _) t
  clear hS4 hS hS5
  go_wp2_with fail
  exact bodyPost_ret (v := .tuple #[.int .u64 _, .agg #[.int .i64 t.bits, .bool t.sgn], .int .i64 0]) (by simp [results, Tryz.results71, go_sem, d0, d1]; rfl) rfl ⟨by rw [HN.out]; rfl, hbe.drew⟩

set_option maxHeartbeats 2000000 in
set_option maxRecDepth 100000 in
theorem un_8 (a : Nat) (x : GTy) (hx : okT x) (ha : U64 a) (w : World) : Calls Tryz.prog 71 #[.int .i64 8, .int .u64 a, tyV x] w (GrowsTo (unV (unN 8 a x)) w) := by
  have HV := valid_ok x hx
  have HP := prom_ok x
  have ht := promT_ok hx
  have HC := conv_ok a x (promT x) hx ht ha
  have hp := convN_lt a x (promT x) ht
  have HI : ∀ w, Calls Tryz.prog 72 #[] w (GrowsTo (.agg #[.int .i64 intT.bits, .bool intT.sgn]) w) := int_ok
  have HN := Lib.hid (show unN 8 a x = (truthN (decide (convN a x (promT x) = 0)), intT) from rfl)
  clear hx ha
  generalize intT = it at *
  generalize promT x = t at *
  generalize convN a x t = p at *
  simp only [tyV] at HV HP HC
  have hT0 := twoTys_new w x ⟨0, false⟩
  have hB0 := two_below w x ⟨0, false⟩
  have hZ0 : ((w.alloc (.cells #[.int .i64 x.bits, .bool x.sgn] 72)).alloc (.cells #[.int .i64 0, .bool false] 72)).heap.size = w.heap.size + 1 + 1 := by simp
  show Calls Tryz.prog 71 #[.int .i64 8, .int .u64 a, .agg #[.int .i64 x.bits, .bool x.sgn]] w (GrowsTo (unV (unN 8 a x)) w)
  go_enter Tryz.func71, Tryz.ntmps71
  go_wp2_with fail
  have hT0' : TwoTys w.heap.size x ⟨0, false⟩ ((w.alloc (.cells #[.int .i64 x.bits, .bool x.sgn] 72)).alloc (.cells #[.int .i64 0, .bool false] 72)) := hT0
  have hB0' : Below w.heap.size w ((w.alloc (.cells #[.int .i64 x.bits, .bool x.sgn] 72)).alloc (.cells #[.int .i64 0, .bool false] 72)) := hB0
  clear hT0 hB0
  generalize (w.alloc (.cells #[.int .i64 x.bits, .bool x.sgn] 72)).alloc (.cells #[.int .i64 0, .bool false] 72) = w0 at *
  refine (HV _).mono ?_
  rintro e w1 ⟨rfl, hb1⟩
  have hT1 := hT0'.grow hb1
  have hB1 : Below w.heap.size w w1 := hB0'.trans (hb1.mono (by omega))
  have hz1 : w0.heap.size ≤ w1.heap.size := hb1.size
  clear hT0' hb1 hB0'
  obtain ⟨c1, c2, c3, c4⟩ := hT1.cells
  go_wp2_with fail
  refine (HP _).mono ?_
  rintro e w3 ⟨rfl, hb3⟩
  have hT3 := hT1.grow hb3
  have hB3 : Below w.heap.size w w3 := hB1.trans (hb3.mono (by omega))
  have hz3 : w1.heap.size ≤ w3.heap.size := hb3.size
  clear hT1 hb3 hB1 c1 c2 c3 c4
  obtain ⟨Bt, hBt⟩ : ∃ Bt, Bt = w3.heap.size := ⟨_, rfl⟩
  have hS0 : ThreeTys w.heap.size Bt x ⟨0, false⟩ t (w3.alloc (.cells #[.int .i64 t.bits, .bool t.sgn] 72)) := by
    rw [hBt]; exact ⟨⟨blk_alloc hT3.1 _, blk_alloc hT3.2 _⟩, box_new w3 t⟩
  have hBo : Below w.heap.size w (w3.alloc (.cells #[.int .i64 t.bits, .bool t.sgn] 72)) := hB3.alloc (by omega) _
  have hBn : w.heap.size + 1 < Bt := by omega
  clear hT3 hB3
  obtain ⟨h2, h3, h4, h5⟩ := hS0.1.cells
  obtain ⟨h6, h7⟩ := hS0.tc
  rw [hBt] at h6 h7
  go_wp2_with fail
  rw [← hBt] at h6 h7
  rw [← hBt]
  generalize w3.alloc (.cells #[.int .i64 t.bits, .bool t.sgn] 72) = wo at *
  clear hBt
  refine (HC _).mono ?_
  rintro e w4 ⟨rfl, hb4⟩
  have hS4 := hS0.grow hb4
  have hB4 : Below w.heap.size w w4 := hBo.trans (hb4.mono (by have := hBo.size; omega))
  clear h2 h3 h4 h5 h6 h7 hS0 hb4 hBo
  obtain ⟨h6, h7⟩ := hS4.tc
  have he : ((p : Int) == 0) = decide (p = 0) := by rw [Bool.eq_iff_iff]; simp
  generalize decide (p = 0) = c at *
  go_wp2_with fail
  refine (truth_ok c _).mono ?_
  rintro e w9 ⟨rfl, rfl⟩
  go_wp2_with fail
  refine (HI _).mono ?_
  rintro e w5 ⟨rfl, hb5⟩
  have hS5 := hS4.grow hb5
  have hB5 := hB4.trans (hb5.mono (by have := hB4.size; omega))
  have hS6 := hS5.1.2
  obtain ⟨y0, y1, y2, y3⟩ := hS5.1.cells
  obtain ⟨z0, z1, z2, z3⟩ := hS5.1.frozen
  obtain ⟨d0, d1, hbe⟩ := ret_ty (w0 := w) hB5 hS6 (Nat.le_succ _) it
  have D := Lib.hid (And.intro d0 (And.intro d1 hbe))
  clear hS4 hS5 hS6 hb5 hB4 hB5 h6 h7 d0 d1 hbe he
  go_wp2_with fail
  obtain ⟨d0, d1, hbe⟩ := D.out
  exact bodyPost_ret (v := .tuple #[.int .u64 (truthN c : Nat), .agg #[.int .i64 it.bits, .bool it.sgn], .int .i64 0]) (by simp [results, Tryz.results71, go_sem, d0, d1]) rfl ⟨by rw [HN.out]; rfl, hbe⟩

theorem un_ok (k a : Nat) (x : GTy) (hk : 6 ≤ k ∧ k ≤ 8) (hx : okT x) (ha : U64 a) (w : World) : Calls Tryz.prog 71 #[.int .i64 k, .int .u64 a, tyV x] w (GrowsTo (unV (unN k a x)) w) := by
  have : k = 6 ∨ k = 7 ∨ k = 8 := by omega
  rcases this with rfl | rfl | rfl
  · exact un_6 a x hx ha w
  · exact un_7 a x hx ha w
  · exact un_8 a x hx ha w
end Go.Proofs.YtgmmfjmdpbhjnaaGreat
