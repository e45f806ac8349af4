/-
  Texts joined: ShBinA ShBinB ShBinC ShBinD ShBin.
-/
import Derived.Test.YtgmmfjmdpbhjnaaGreatJSa
/- contracts of types.Binary (printed by mkbin.py) -/
namespace Go.Proofs.YtgmmfjmdpbhjnaaGreat
open Go.RowKit

set_option maxHeartbeats 2000000 in
theorem bin_shl (a b : Nat) (x y : GTy) (hx : okT x) (hy : okT y) (ha : U64 a) (hb : U64 b) (w : World) :
    Calls Tryz.prog 73 #[.int .i64 14, .int .u64 a, .int .u64 b, tyV x, tyV y] w (GrowsTo (binV (binN 14 a b x y)) w) := by
  have HV1 := valid_ok x hx
  have HV2 := valid_ok y hy
  have HP := prom_ok x
  have ht := promT_ok hx
  have HU := uint_ok
  have HC1 := conv_ok a x (promT x) hx ht ha
  have HC2 := conv_ok b y uintT hy (.inr (.inl rfl)) hb
  have hp := convN_lt a x (promT x) ht
  have hq := convN_lt b y uintT (.inr (.inl rfl))
  have HO := shl_ok (convN a x (promT x)) (convN b y uintT) (promT x).bits ht hp
  have HN := Lib.hid (show binN 14 a b x y = some (shlN (convN a x (promT x)) (convN b y uintT) (promT x).bits) from rfl)
  clear hx hy ha hb ht
  generalize promT x = t at *
  have HU' : ∀ w, Calls Tryz.prog 108 #[] w (GrowsTo (.agg #[.int .i64 16, .bool false]) w) := HU
  clear HU
  have HU := HU'
  clear HU'
  have HC2' : ∀ w, Calls Tryz.prog 46 #[.int .u64 b, .agg #[.int .i64 y.bits, .bool y.sgn], .agg #[.int .i64 16, .bool false]] w (GrowsTo (.int .u64 (convN b y uintT : Nat)) w) := HC2
  clear HC2
  have HC2 := HC2'
  clear HC2'
  generalize convN a x t = p at *
  generalize convN b y uintT = q at *
  simp only [tyV] at HV1 HV2 HP HC1
  have hT0 := twoTys_new w x y
  have hB0 := two_below w x y
  have hZ0 : ((w.alloc (.cells #[.int .i64 x.bits, .bool x.sgn] 72)).alloc (.cells #[.int .i64 y.bits, .bool y.sgn] 72)).heap.size = w.heap.size + 1 + 1 := by simp
  show Calls Tryz.prog 73 #[.int .i64 14, .int .u64 a, .int .u64 b, .agg #[.int .i64 x.bits, .bool x.sgn], .agg #[.int .i64 y.bits, .bool y.sgn]] w (GrowsTo (binV (binN 14 a b x y)) w)
  go_enter Tryz.func73, Tryz.ntmps73
  go_wp2_with fail
  generalize (w.alloc (.cells #[.int .i64 x.bits, .bool x.sgn] 72)).alloc (.cells #[.int .i64 y.bits, .bool y.sgn] 72) = w0 at *
  refine (HV1 _).mono ?_
  rintro e w1 ⟨rfl, hb1⟩
  have hT1 := hT0.grow hb1
  have hB1 : Below w.heap.size w w1 := hB0.trans (hb1.mono (by omega))
  have hz1 : w0.heap.size ≤ w1.heap.size := hb1.size
  clear hT0 hb1 hB0
  obtain ⟨c1, c2, c3, c4⟩ := hT1.cells
  go_wp2_with fail
  refine (HV2 _).mono ?_
  rintro e w2 ⟨rfl, hb2⟩
  have hT2 := hT1.grow hb2
  have hB2 : Below w.heap.size w w2 := hB1.trans (hb2.mono (by omega))
  have hz2 : w1.heap.size ≤ w2.heap.size := hb2.size
  clear hT1 hb2 hB1 c1 c2 c3 c4
  obtain ⟨c1, c2, c3, c4⟩ := hT2.cells
  go_wp2_with fail
  refine (HP _).mono ?_
  rintro e w3 ⟨rfl, hb3⟩
  have hT3 := hT2.grow hb3
  have hB3 : Below w.heap.size w w3 := hB2.trans (hb3.mono (by omega))
  have hz3 : w2.heap.size ≤ w3.heap.size := hb3.size
  clear hT2 hb3 hB2 c1 c2 c3 c4
  obtain ⟨Bt, hBt⟩ : ∃ Bt, Bt = w3.heap.size := ⟨_, rfl⟩
  have hS0 : ThreeTys w.heap.size Bt x y t (w3.alloc (.cells #[.int .i64 t.bits, .bool t.sgn] 72)) := by
    rw [hBt]; exact ⟨⟨blk_alloc hT3.1 _, blk_alloc hT3.2 _⟩, box_new w3 t⟩
  have hBo : Below w.heap.size w (w3.alloc (.cells #[.int .i64 t.bits, .bool t.sgn] 72)).drew := (hB3.alloc (by omega) _).drew
  clear hT3 hB3
  go_wp2_with fail
  rw [← hBt]
  generalize w3.alloc (.cells #[.int .i64 t.bits, .bool t.sgn] 72) = wo at *
  clear hBt
  refine wp_region_G (D := []) (S := ThreeTys w.heap.size Bt x y t) Tryz.checked.mixed (by exact hS0) (fun hS => ?_)
  refine wpAnyG_read (i := 0) (v := ?vb0) rfl (by kernel_rfl) (by kernel_rfl) (by kernel_rfl) (by kernel_rfl) (by kernel_rfl) ?qb0 ?gb0 ?yb0 hS ?_  -- move t1
  case yb0 => intro w' h; have h1 := h.1.cells; obtain ⟨h2, h3, h4, h5⟩ := h1; have h1 := h.tc; obtain ⟨h6, h7⟩ := h1; go_simp; exact rfl
  case gb0 => rfl
  case qb0 => exact fun _ _ _ h => h
  go_simp
  refine wpAnyG_read (i := 1) (v := ?vb1) rfl (by kernel_rfl) (by kernel_rfl) (by kernel_rfl) (by kernel_rfl) (by kernel_rfl) ?qb1 ?gb1 ?yb1 hS ?_  -- load 57 t8
  case yb1 => intro w' h; have h1 := h.1.cells; obtain ⟨h2, h3, h4, h5⟩ := h1; have h1 := h.tc; obtain ⟨h6, h7⟩ := h1; go_simp; exact rfl
  case gb1 => rfl
  case qb1 => exact fun _ _ _ h => h
  go_simp
  refine wpAnyG_read (i := 2) (v := ?vb2) rfl (by kernel_rfl) (by kernel_rfl) (by kernel_rfl) (by kernel_rfl) (by kernel_rfl) ?qb2 ?gb2 ?yb2 hS ?_  -- load 57 t12
  case yb2 => intro w' h; have h1 := h.1.cells; obtain ⟨h2, h3, h4, h5⟩ := h1; have h1 := h.tc; obtain ⟨h6, h7⟩ := h1; go_simp; exact rfl
  case gb2 => rfl
  case qb2 => exact fun _ _ _ h => h
  go_simp
  refine wpAnyG_read (i := 4) (v := ?vb4) rfl (by kernel_rfl) (by kernel_rfl) (by kernel_rfl) (by kernel_rfl) (by kernel_rfl) ?qb4 ?gb4 ?yb4 hS ?_  -- move t2
  case yb4 => intro w' h; have h1 := h.1.cells; obtain ⟨h2, h3, h4, h5⟩ := h1; have h1 := h.tc; obtain ⟨h6, h7⟩ := h1; go_simp; exact rfl
  case gb4 => rfl
  case qb4 => exact fun _ _ _ h => h
  go_simp
  refine wpAnyG_read (i := 5) (v := ?vb5) rfl (by kernel_rfl) (by kernel_rfl) (by kernel_rfl) (by kernel_rfl) (by kernel_rfl) ?qb5 ?gb5 ?yb5 hS ?_  -- load 57 t9
  case yb5 => intro w' h; have h1 := h.1.cells; obtain ⟨h2, h3, h4, h5⟩ := h1; have h1 := h.tc; obtain ⟨h6, h7⟩ := h1; go_simp; exact rfl
  case gb5 => rfl
  case qb5 => exact fun _ _ _ h => h
  go_simp
  refine wpAnyG_one (i := 3) (by kernel_rfl) rfl rfl (fun K hK => ?_)
  go_wp2_with fail
  refine (HC1 _).mono ?_
  rintro e wa ⟨rfl, hba⟩
  have hSa : ThreeTys w.heap.size Bt x y t wa := ThreeTys.grow hS hba
  have hBa : Below w.heap.size w wa := hBo.trans (hba.mono (by have := hBo.size; omega))
  refine hK _ _ (fun _ => hSa) ?_
  clear hK
  go_simp
  refine wpAnyG_one (i := 6) (by kernel_rfl) rfl rfl (fun K hK => ?_)
  go_wp2_with fail
  refine (HU _).mono ?_
  rintro e wu ⟨rfl, hbu⟩
  have hSu : ThreeTys w.heap.size Bt x y t wu := ThreeTys.grow hSa hbu
  have hBu : Below w.heap.size w wu := hBa.trans (hbu.mono (by have := hBa.size; omega))
  refine hK _ _ (fun _ => hSu) ?_
  clear hK
  go_simp
  refine wpAnyG_one (i := 7) (by kernel_rfl) rfl rfl (fun K hK => ?_)
  go_wp2_with fail
  refine (HC2 _).mono ?_
  rintro e wb ⟨rfl, hbb⟩
  have hSb : ThreeTys w.heap.size Bt x y t wb := ThreeTys.grow hSu hbb
  have hBb : Below w.heap.size w wb := hBu.trans (hbb.mono (by have := hBu.size; omega))
  refine hK _ _ (fun _ => hSb) ?_
  clear hK
  go_simp
  refine wpAnyG_one (i := 8) (by kernel_rfl) rfl rfl (fun K hK => ?_)
  go_wp2_with fail
  refine hK _ _ (fun _ => hSb) ?_
  clear hK
  go_simp
  refine wpAnyG_one (i := 9) (by kernel_rfl) rfl rfl (fun K hK => ?_)
  go_wp2_with fail
  refine hK _ _ (fun _ => hSb) ?_
  clear hK
  go_simp
  refine wpAnyG_done (by kernel_rfl) ?_ _
  obtain ⟨h6, h7⟩ := hSb.tc
  clear hS hSa hbb hba hBa hS0 hSu hBu hbu
  obtain ⟨h2, h3, h4, h5⟩ := hSb.1.cells
  go_wp2_with fail
  refine (HO _).mono ?_
  rintro e w9 ⟨rfl, hb9⟩
  go_wp2_with fail
  go_ret2
  exact ⟨by rw [HN.out]; rfl, hBb.trans (hb9.mono (by have := hBb.size; omega))⟩

set_option maxHeartbeats 2000000 in
theorem bin_shr (a b : Nat) (x y : GTy) (hx : okT x) (hy : okT y) (ha : U64 a) (hb : U64 b) (w : World) :
    Calls Tryz.prog 73 #[.int .i64 15, .int .u64 a, .int .u64 b, tyV x, tyV y] w (GrowsTo (binV (binN 15 a b x y)) w) := by
  have HV1 := valid_ok x hx
  have HV2 := valid_ok y hy
  have HP := prom_ok x
  have ht := promT_ok hx
  have HU := uint_ok
  have HC1 := conv_ok a x (promT x) hx ht ha
  have HC2 := conv_ok b y uintT hy (.inr (.inl rfl)) hb
  have hp := convN_lt a x (promT x) ht
  have hq := convN_lt b y uintT (.inr (.inl rfl))
  have HO := shr_ok (convN a x (promT x)) (convN b y uintT) (promT x).bits (promT x).sgn ht hp
  have HN := Lib.hid (show binN 15 a b x y = some (shrN (convN a x (promT x)) (convN b y uintT) (promT x).bits (promT x).sgn) from rfl)
  clear hx hy ha hb ht
  generalize promT x = t at *
  have HU' : ∀ w, Calls Tryz.prog 108 #[] w (GrowsTo (.agg #[.int .i64 16, .bool false]) w) := HU
  clear HU
  have HU := HU'
  clear HU'
  have HC2' : ∀ w, Calls Tryz.prog 46 #[.int .u64 b, .agg #[.int .i64 y.bits, .bool y.sgn], .agg #[.int .i64 16, .bool false]] w (GrowsTo (.int .u64 (convN b y uintT : Nat)) w) := HC2
  clear HC2
  have HC2 := HC2'
  clear HC2'
  generalize convN a x t = p at *
  generalize convN b y uintT = q at *
  simp only [tyV] at HV1 HV2 HP HC1
  have hT0 := twoTys_new w x y
  have hB0 := two_below w x y
  have hZ0 : ((w.alloc (.cells #[.int .i64 x.bits, .bool x.sgn] 72)).alloc (.cells #[.int .i64 y.bits, .bool y.sgn] 72)).heap.size = w.heap.size + 1 + 1 := by simp
  show Calls Tryz.prog 73 #[.int .i64 15, .int .u64 a, .int .u64 b, .agg #[.int .i64 x.bits, .bool x.sgn], .agg #[.int .i64 y.bits, .bool y.sgn]] w (GrowsTo (binV (binN 15 a b x y)) w)
  go_enter Tryz.func73, Tryz.ntmps73
  go_wp2_with fail
  generalize (w.alloc (.cells #[.int .i64 x.bits, .bool x.sgn] 72)).alloc (.cells #[.int .i64 y.bits, .bool y.sgn] 72) = w0 at *
  refine (HV1 _).mono ?_
  rintro e w1 ⟨rfl, hb1⟩
  have hT1 := hT0.grow hb1
  have hB1 : Below w.heap.size w w1 := hB0.trans (hb1.mono (by omega))
  have hz1 : w0.heap.size ≤ w1.heap.size := hb1.size
  clear hT0 hb1 hB0
  obtain ⟨c1, c2, c3, c4⟩ := hT1.cells
  go_wp2_with fail
  refine (HV2 _).mono ?_
  rintro e w2 ⟨rfl, hb2⟩
  have hT2 := hT1.grow hb2
  have hB2 : Below w.heap.size w w2 := hB1.trans (hb2.mono (by omega))
  have hz2 : w1.heap.size ≤ w2.heap.size := hb2.size
  clear hT1 hb2 hB1 c1 c2 c3 c4
  obtain ⟨c1, c2, c3, c4⟩ := hT2.cells
  go_wp2_with fail
  refine (HP _).mono ?_
  rintro e w3 ⟨rfl, hb3⟩
  have hT3 := hT2.grow hb3
  have hB3 : Below w.heap.size w w3 := hB2.trans (hb3.mono (by omega))
  have hz3 : w2.heap.size ≤ w3.heap.size := hb3.size
  clear hT2 hb3 hB2 c1 c2 c3 c4
  obtain ⟨Bt, hBt⟩ : ∃ Bt, Bt = w3.heap.size := ⟨_, rfl⟩
  have hS0 : ThreeTys w.heap.size Bt x y t (w3.alloc (.cells #[.int .i64 t.bits, .bool t.sgn] 72)) := by
    rw [hBt]; exact ⟨⟨blk_alloc hT3.1 _, blk_alloc hT3.2 _⟩, box_new w3 t⟩
  have hBo : Below w.heap.size w (w3.alloc (.cells #[.int .i64 t.bits, .bool t.sgn] 72)).drew := (hB3.alloc (by omega) _).drew
  clear hT3 hB3
  go_wp2_with fail
  rw [← hBt]
  generalize w3.alloc (.cells #[.int .i64 t.bits, .bool t.sgn] 72) = wo at *
  clear hBt
  refine wp_region_G (D := []) (S := ThreeTys w.heap.size Bt x y t) Tryz.checked.mixed (by exact hS0) (fun hS => ?_)
  refine wpAnyG_read (i := 0) (v := ?vb0) rfl (by kernel_rfl) (by kernel_rfl) (by kernel_rfl) (by kernel_rfl) (by kernel_rfl) ?qb0 ?gb0 ?yb0 hS ?_  -- move t1
  case yb0 => intro w' h; have h1 := h.1.cells; obtain ⟨h2, h3, h4, h5⟩ := h1; have h1 := h.tc; obtain ⟨h6, h7⟩ := h1; go_simp; exact rfl
  case gb0 => rfl
  case qb0 => exact fun _ _ _ h => h
  go_simp
  refine wpAnyG_read (i := 1) (v := ?vb1) rfl (by kernel_rfl) (by kernel_rfl) (by kernel_rfl) (by kernel_rfl) (by kernel_rfl) ?qb1 ?gb1 ?yb1 hS ?_  -- load 57 t8
  case yb1 => intro w' h; have h1 := h.1.cells; obtain ⟨h2, h3, h4, h5⟩ := h1; have h1 := h.tc; obtain ⟨h6, h7⟩ := h1; go_simp; exact rfl
  case gb1 => rfl
  case qb1 => exact fun _ _ _ h => h
  go_simp
  refine wpAnyG_read (i := 2) (v := ?vb2) rfl (by kernel_rfl) (by kernel_rfl) (by kernel_rfl) (by kernel_rfl) (by kernel_rfl) ?qb2 ?gb2 ?yb2 hS ?_  -- load 57 t12
  case yb2 => intro w' h; have h1 := h.1.cells; obtain ⟨h2, h3, h4, h5⟩ := h1; have h1 := h.tc; obtain ⟨h6, h7⟩ := h1; go_simp; exact rfl
  case gb2 => rfl
  case qb2 => exact fun _ _ _ h => h
  go_simp
  refine wpAnyG_read (i := 4) (v := ?vb4) rfl (by kernel_rfl) (by kernel_rfl) (by kernel_rfl) (by kernel_rfl) (by kernel_rfl) ?qb4 ?gb4 ?yb4 hS ?_  -- move t2
  case yb4 => intro w' h; have h1 := h.1.cells; obtain ⟨h2, h3, h4, h5⟩ := h1; have h1 := h.tc; obtain ⟨h6, h7⟩ := h1; go_simp; exact rfl
  case gb4 => rfl
  case qb4 => exact fun _ _ _ h => h
  go_simp
  refine wpAnyG_read (i := 5) (v := ?vb5) rfl (by kernel_rfl) (by kernel_rfl) (by kernel_rfl) (by kernel_rfl) (by kernel_rfl) ?qb5 ?gb5 ?yb5 hS ?_  -- load 57 t9
  case yb5 => intro w' h; have h1 := h.1.cells; obtain ⟨h2, h3, h4, h5⟩ := h1; have h1 := h.tc; obtain ⟨h6, h7⟩ := h1; go_simp; exact rfl
  case gb5 => rfl
  case qb5 => exact fun _ _ _ h => h
  go_simp
  refine wpAnyG_one (i := 3) (by kernel_rfl) rfl rfl (fun K hK => ?_)
  go_wp2_with fail
  refine (HC1 _).mono ?_
  rintro e wa ⟨rfl, hba⟩
  have hSa : ThreeTys w.heap.size Bt x y t wa := ThreeTys.grow hS hba
  have hBa : Below w.heap.size w wa := hBo.trans (hba.mono (by have := hBo.size; omega))
  refine hK _ _ (fun _ => hSa) ?_
  clear hK
  go_simp
  refine wpAnyG_one (i := 6) (by kernel_rfl) rfl rfl (fun K hK => ?_)
  go_wp2_with fail
  refine (HU _).mono ?_
  rintro e wu ⟨rfl, hbu⟩
  have hSu : ThreeTys w.heap.size Bt x y t wu := ThreeTys.grow hSa hbu
  have hBu : Below w.heap.size w wu := hBa.trans (hbu.mono (by have := hBa.size; omega))
  refine hK _ _ (fun _ => hSu) ?_
  clear hK
  go_simp
  refine wpAnyG_one (i := 7) (by kernel_rfl) rfl rfl (fun K hK => ?_)
  go_wp2_with fail
  refine (HC2 _).mono ?_
  rintro e wb ⟨rfl, hbb⟩
  have hSb : ThreeTys w.heap.size Bt x y t wb := ThreeTys.grow hSu hbb
  have hBb : Below w.heap.size w wb := hBu.trans (hbb.mono (by have := hBu.size; omega))
  refine hK _ _ (fun _ => hSb) ?_
  clear hK
  go_simp
  refine wpAnyG_one (i := 8) (by kernel_rfl) rfl rfl (fun K hK => ?_)
  go_wp2_with fail
  refine hK _ _ (fun _ => hSb) ?_
  clear hK
  go_simp
  refine wpAnyG_one (i := 9) (by kernel_rfl) rfl rfl (fun K hK => ?_)
  go_wp2_with fail
  refine hK _ _ (fun _ => hSb) ?_
  clear hK
  go_simp
  refine wpAnyG_done (by kernel_rfl) ?_ _
  obtain ⟨h6, h7⟩ := hSb.tc
  clear hS hSa hbb hba hBa hS0 hSu hBu hbu
  obtain ⟨h2, h3, h4, h5⟩ := hSb.1.cells
  go_wp2_with fail
  refine (HO _).mono ?_
  rintro e w9 ⟨rfl, rfl⟩
  go_wp2_with fail
  go_ret2
  exact ⟨by rw [HN.out]; rfl, hBb⟩

set_option maxHeartbeats 2000000 in
theorem bin_mul (a b : Nat) (x y : GTy) (hx : okT x) (hy : okT y) (ha : U64 a) (hb : U64 b) (w : World) :
    Calls Tryz.prog 73 #[.int .i64 9, .int .u64 a, .int .u64 b, tyV x, tyV y] w (GrowsTo (binV (binN 9 a b x y)) w) := by
  have HV1 := valid_ok x hx
  have HV2 := valid_ok y hy
  have HP := comm_ok x y
  have ht := commT_ok hx hy
  have HC1 := conv_ok a x (commT x y) hx ht ha
  have HC2 := conv_ok b y (commT x y) hy ht hb
  have hp := convN_lt a x (commT x y) ht
  have hq := convN_lt b y (commT x y) ht
  have HO := mul_ok (convN a x (commT x y)) (convN b y (commT x y)) (commT x y).bits ht hp hq
  have HN := Lib.hid (show binN 9 a b x y = some (mulN (convN a x (commT x y)) (convN b y (commT x y)) (commT x y).bits) from rfl)
  clear hx hy ha hb ht
  generalize commT x y = t at *
  generalize convN a x t = p at *
  generalize convN b y t = q at *
  simp only [tyV] at HV1 HV2 HP HC1 HC2
  have hT0 := twoTys_new w x y
  have hB0 := two_below w x y
  have hZ0 : ((w.alloc (.cells #[.int .i64 x.bits, .bool x.sgn] 72)).alloc (.cells #[.int .i64 y.bits, .bool y.sgn] 72)).heap.size = w.heap.size + 1 + 1 := by simp
  show Calls Tryz.prog 73 #[.int .i64 9, .int .u64 a, .int .u64 b, .agg #[.int .i64 x.bits, .bool x.sgn], .agg #[.int .i64 y.bits, .bool y.sgn]] w (GrowsTo (binV (binN 9 a b x y)) w)
  go_enter Tryz.func73, Tryz.ntmps73
  go_wp2_with fail
  generalize (w.alloc (.cells #[.int .i64 x.bits, .bool x.sgn] 72)).alloc (.cells #[.int .i64 y.bits, .bool y.sgn] 72) = w0 at *
  refine (HV1 _).mono ?_
  rintro e w1 ⟨rfl, hb1⟩
  have hT1 := hT0.grow hb1
  have hB1 : Below w.heap.size w w1 := hB0.trans (hb1.mono (by omega))
  have hz1 : w0.heap.size ≤ w1.heap.size := hb1.size
  clear hT0 hb1 hB0
  obtain ⟨c1, c2, c3, c4⟩ := hT1.cells
  go_wp2_with fail
  refine (HV2 _).mono ?_
  rintro e w2 ⟨rfl, hb2⟩
  have hT2 := hT1.grow hb2
  have hB2 : Below w.heap.size w w2 := hB1.trans (hb2.mono (by omega))
  have hz2 : w1.heap.size ≤ w2.heap.size := hb2.size
  clear hT1 hb2 hB1 c1 c2 c3 c4
  obtain ⟨c1, c2, c3, c4⟩ := hT2.cells
  go_wp2_with fail
  refine (HP _).mono ?_
  rintro e w3 ⟨rfl, hb3⟩
  have hT3 := hT2.grow hb3
  have hB3 : Below w.heap.size w w3 := hB2.trans (hb3.mono (by omega))
  have hz3 : w2.heap.size ≤ w3.heap.size := hb3.size
  clear hT2 hb3 hB2 c1 c2 c3 c4
  obtain ⟨Bt, hBt⟩ : ∃ Bt, Bt = w3.heap.size := ⟨_, rfl⟩
  have hS0 : ThreeTys w.heap.size Bt x y t (w3.alloc (.cells #[.int .i64 t.bits, .bool t.sgn] 72)) := by
    rw [hBt]; exact ⟨⟨blk_alloc hT3.1 _, blk_alloc hT3.2 _⟩, box_new w3 t⟩
  have hBo : Below w.heap.size w (w3.alloc (.cells #[.int .i64 t.bits, .bool t.sgn] 72)).drew := (hB3.alloc (by omega) _).drew
  clear hT3 hB3
  go_wp2_with fail
  rw [← hBt]
  generalize w3.alloc (.cells #[.int .i64 t.bits, .bool t.sgn] 72) = wo at *
  clear hBt
  refine wp_region_G (D := []) (S := ThreeTys w.heap.size Bt x y t) Tryz.checked.mixed (by exact hS0) (fun hS => ?_)
  refine wpAnyG_read (i := 0) (v := ?va0) rfl (by kernel_rfl) (by kernel_rfl) (by kernel_rfl) (by kernel_rfl) (by kernel_rfl) ?qa0 ?ga0 ?ya0 hS ?_  -- move t1
  case ya0 => intro w' h; have h1 := h.1.cells; obtain ⟨h2, h3, h4, h5⟩ := h1; have h1 := h.tc; obtain ⟨h6, h7⟩ := h1; go_simp; exact rfl
  case ga0 => rfl
  case qa0 => exact fun _ _ _ h => h
  go_simp
  refine wpAnyG_read (i := 1) (v := ?va1) rfl (by kernel_rfl) (by kernel_rfl) (by kernel_rfl) (by kernel_rfl) (by kernel_rfl) ?qa1 ?ga1 ?ya1 hS ?_  -- load 57 t8
  case ya1 => intro w' h; have h1 := h.1.cells; obtain ⟨h2, h3, h4, h5⟩ := h1; have h1 := h.tc; obtain ⟨h6, h7⟩ := h1; go_simp; exact rfl
  case ga1 => rfl
  case qa1 => exact fun _ _ _ h => h
  go_simp
  refine wpAnyG_read (i := 2) (v := ?va2) rfl (by kernel_rfl) (by kernel_rfl) (by kernel_rfl) (by kernel_rfl) (by kernel_rfl) ?qa2 ?ga2 ?ya2 hS ?_  -- load 57 t15
  case ya2 => intro w' h; have h1 := h.1.cells; obtain ⟨h2, h3, h4, h5⟩ := h1; have h1 := h.tc; obtain ⟨h6, h7⟩ := h1; go_simp; exact rfl
  case ga2 => rfl
  case qa2 => exact fun _ _ _ h => h
  go_simp
  refine wpAnyG_read (i := 4) (v := ?va4) rfl (by kernel_rfl) (by kernel_rfl) (by kernel_rfl) (by kernel_rfl) (by kernel_rfl) ?qa4 ?ga4 ?ya4 hS ?_  -- move t2
  case ya4 => intro w' h; have h1 := h.1.cells; obtain ⟨h2, h3, h4, h5⟩ := h1; have h1 := h.tc; obtain ⟨h6, h7⟩ := h1; go_simp; exact rfl
  case ga4 => rfl
  case qa4 => exact fun _ _ _ h => h
  go_simp
  refine wpAnyG_read (i := 5) (v := ?va5) rfl (by kernel_rfl) (by kernel_rfl) (by kernel_rfl) (by kernel_rfl) (by kernel_rfl) ?qa5 ?ga5 ?ya5 hS ?_  -- load 57 t9
  case ya5 => intro w' h; have h1 := h.1.cells; obtain ⟨h2, h3, h4, h5⟩ := h1; have h1 := h.tc; obtain ⟨h6, h7⟩ := h1; go_simp; exact rfl
  case ga5 => rfl
  case qa5 => exact fun _ _ _ h => h
  go_simp
  refine wpAnyG_read (i := 6) (v := ?va6) rfl (by kernel_rfl) (by kernel_rfl) (by kernel_rfl) (by kernel_rfl) (by kernel_rfl) ?qa6 ?ga6 ?ya6 hS ?_  -- load 57 t15
  case ya6 => intro w' h; have h1 := h.1.cells; obtain ⟨h2, h3, h4, h5⟩ := h1; have h1 := h.tc; obtain ⟨h6, h7⟩ := h1; go_simp; exact rfl
  case ga6 => rfl
  case qa6 => exact fun _ _ _ h => h
  go_simp
  refine wpAnyG_one (i := 3) (by kernel_rfl) rfl rfl (fun K hK => ?_)
  go_wp2_with fail
  refine (HC1 _).mono ?_
  rintro e wa ⟨rfl, hba⟩
  have hSa : ThreeTys w.heap.size Bt x y t wa := ThreeTys.grow hS hba
  have hBa : Below w.heap.size w wa := hBo.trans (hba.mono (by have := hBo.size; omega))
  refine hK _ _ (fun _ => hSa) ?_
  clear hK
  go_simp
  refine wpAnyG_one (i := 7) (by kernel_rfl) rfl rfl (fun K hK => ?_)
  go_wp2_with fail
  refine (HC2 _).mono ?_
  rintro e wb ⟨rfl, hbb⟩
  have hSb : ThreeTys w.heap.size Bt x y t wb := ThreeTys.grow hSa hbb
  have hBb : Below w.heap.size w wb := hBa.trans (hbb.mono (by have := hBa.size; omega))
  refine hK _ _ (fun _ => hSb) ?_
  clear hK
  go_simp
  refine wpAnyG_one (i := 8) (by kernel_rfl) rfl rfl (fun K hK => ?_)
  go_wp2_with fail
  refine hK _ _ (fun _ => hSb) ?_
  clear hK
  go_simp
  refine wpAnyG_one (i := 9) (by kernel_rfl) rfl rfl (fun K hK => ?_)
  go_wp2_with fail
  refine hK _ _ (fun _ => hSb) ?_
  clear hK
  go_simp
  refine wpAnyG_done (by kernel_rfl) ?_ _
  obtain ⟨h6, h7⟩ := hSb.tc
  clear hS hSa hbb hba hBa hS0 
  obtain ⟨h2, h3, h4, h5⟩ := hSb.1.cells
  go_wp2_with fail
  refine (HO _).mono ?_
  rintro e w9 ⟨rfl, rfl⟩
  go_wp2_with fail
  go_ret2
  exact ⟨by rw [HN.out]; rfl, hBb⟩

set_option maxHeartbeats 2000000 in
theorem bin_add (a b : Nat) (x y : GTy) (hx : okT x) (hy : okT y) (ha : U64 a) (hb : U64 b) (w : World) :
    Calls Tryz.prog 73 #[.int .i64 12, .int .u64 a, .int .u64 b, tyV x, tyV y] w (GrowsTo (binV (binN 12 a b x y)) w) := by
  have HV1 := valid_ok x hx
  have HV2 := valid_ok y hy
  have HP := comm_ok x y
  have ht := commT_ok hx hy
  have HC1 := conv_ok a x (commT x y) hx ht ha
  have HC2 := conv_ok b y (commT x y) hy ht hb
  have hp := convN_lt a x (commT x y) ht
  have hq := convN_lt b y (commT x y) ht
  have HO := add_ok (convN a x (commT x y)) (convN b y (commT x y)) (commT x y).bits ht hp hq
  have HN := Lib.hid (show binN 12 a b x y = some (addN (convN a x (commT x y)) (convN b y (commT x y)) (commT x y).bits) from rfl)
  clear hx hy ha hb ht
  generalize commT x y = t at *
  generalize convN a x t = p at *
  generalize convN b y t = q at *
  simp only [tyV] at HV1 HV2 HP HC1 HC2
  have hT0 := twoTys_new w x y
  have hB0 := two_below w x y
  have hZ0 : ((w.alloc (.cells #[.int .i64 x.bits, .bool x.sgn] 72)).alloc (.cells #[.int .i64 y.bits, .bool y.sgn] 72)).heap.size = w.heap.size + 1 + 1 := by simp
  show Calls Tryz.prog 73 #[.int .i64 12, .int .u64 a, .int .u64 b, .agg #[.int .i64 x.bits, .bool x.sgn], .agg #[.int .i64 y.bits, .bool y.sgn]] w (GrowsTo (binV (binN 12 a b x y)) w)
  go_enter Tryz.func73, Tryz.ntmps73
  go_wp2_with fail
  generalize (w.alloc (.cells #[.int .i64 x.bits, .bool x.sgn] 72)).alloc (.cells #[.int .i64 y.bits, .bool y.sgn] 72) = w0 at *
  refine (HV1 _).mono ?_
  rintro e w1 ⟨rfl, hb1⟩
  have hT1 := hT0.grow hb1
  have hB1 : Below w.heap.size w w1 := hB0.trans (hb1.mono (by omega))
  have hz1 : w0.heap.size ≤ w1.heap.size := hb1.size
  clear hT0 hb1 hB0
  obtain ⟨c1, c2, c3, c4⟩ := hT1.cells
  go_wp2_with fail
  refine (HV2 _).mono ?_
  rintro e w2 ⟨rfl, hb2⟩
  have hT2 := hT1.grow hb2
  have hB2 : Below w.heap.size w w2 := hB1.trans (hb2.mono (by omega))
  have hz2 : w1.heap.size ≤ w2.heap.size := hb2.size
  clear hT1 hb2 hB1 c1 c2 c3 c4
  obtain ⟨c1, c2, c3, c4⟩ := hT2.cells
  go_wp2_with fail
  refine (HP _).mono ?_
  rintro e w3 ⟨rfl, hb3⟩
  have hT3 := hT2.grow hb3
  have hB3 : Below w.heap.size w w3 := hB2.trans (hb3.mono (by omega))
  have hz3 : w2.heap.size ≤ w3.heap.size := hb3.size
  clear hT2 hb3 hB2 c1 c2 c3 c4
  obtain ⟨Bt, hBt⟩ : ∃ Bt, Bt = w3.heap.size := ⟨_, rfl⟩
  have hS0 : ThreeTys w.heap.size Bt x y t (w3.alloc (.cells #[.int .i64 t.bits, .bool t.sgn] 72)) := by
    rw [hBt]; exact ⟨⟨blk_alloc hT3.1 _, blk_alloc hT3.2 _⟩, box_new w3 t⟩
  have hBo : Below w.heap.size w (w3.alloc (.cells #[.int .i64 t.bits, .bool t.sgn] 72)).drew := (hB3.alloc (by omega) _).drew
  clear hT3 hB3
  go_wp2_with fail
  rw [← hBt]
  generalize w3.alloc (.cells #[.int .i64 t.bits, .bool t.sgn] 72) = wo at *
  clear hBt
  refine wp_region_G (D := []) (S := ThreeTys w.heap.size Bt x y t) Tryz.checked.mixed (by exact hS0) (fun hS => ?_)
  refine wpAnyG_read (i := 0) (v := ?va0) rfl (by kernel_rfl) (by kernel_rfl) (by kernel_rfl) (by kernel_rfl) (by kernel_rfl) ?qa0 ?ga0 ?ya0 hS ?_  -- move t1
  case ya0 => intro w' h; have h1 := h.1.cells; obtain ⟨h2, h3, h4, h5⟩ := h1; have h1 := h.tc; obtain ⟨h6, h7⟩ := h1; go_simp; exact rfl
  case ga0 => rfl
  case qa0 => exact fun _ _ _ h => h
  go_simp
  refine wpAnyG_read (i := 1) (v := ?va1) rfl (by kernel_rfl) (by kernel_rfl) (by kernel_rfl) (by kernel_rfl) (by kernel_rfl) ?qa1 ?ga1 ?ya1 hS ?_  -- load 57 t8
  case ya1 => intro w' h; have h1 := h.1.cells; obtain ⟨h2, h3, h4, h5⟩ := h1; have h1 := h.tc; obtain ⟨h6, h7⟩ := h1; go_simp; exact rfl
  case ga1 => rfl
  case qa1 => exact fun _ _ _ h => h
  go_simp
  refine wpAnyG_read (i := 2) (v := ?va2) rfl (by kernel_rfl) (by kernel_rfl) (by kernel_rfl) (by kernel_rfl) (by kernel_rfl) ?qa2 ?ga2 ?ya2 hS ?_  -- load 57 t15
  case ya2 => intro w' h; have h1 := h.1.cells; obtain ⟨h2, h3, h4, h5⟩ := h1; have h1 := h.tc; obtain ⟨h6, h7⟩ := h1; go_simp; exact rfl
  case ga2 => rfl
  case qa2 => exact fun _ _ _ h => h
  go_simp
  refine wpAnyG_read (i := 4) (v := ?va4) rfl (by kernel_rfl) (by kernel_rfl) (by kernel_rfl) (by kernel_rfl) (by kernel_rfl) ?qa4 ?ga4 ?ya4 hS ?_  -- move t2
  case ya4 => intro w' h; have h1 := h.1.cells; obtain ⟨h2, h3, h4, h5⟩ := h1; have h1 := h.tc; obtain ⟨h6, h7⟩ := h1; go_simp; exact rfl
  case ga4 => rfl
  case qa4 => exact fun _ _ _ h => h
  go_simp
  refine wpAnyG_read (i := 5) (v := ?va5) rfl (by kernel_rfl) (by kernel_rfl) (by kernel_rfl) (by kernel_rfl) (by kernel_rfl) ?qa5 ?ga5 ?ya5 hS ?_  -- load 57 t9
  case ya5 => intro w' h; have h1 := h.1.cells; obtain ⟨h2, h3, h4, h5⟩ := h1; have h1 := h.tc; obtain ⟨h6, h7⟩ := h1; go_simp; exact rfl
  case ga5 => rfl
  case qa5 => exact fun _ _ _ h => h
  go_simp
  refine wpAnyG_read (i := 6) (v := ?va6) rfl (by kernel_rfl) (by kernel_rfl) (by kernel_rfl) (by kernel_rfl) (by kernel_rfl) ?qa6 ?ga6 ?ya6 hS ?_  -- load 57 t15
  case ya6 => intro w' h; have h1 := h.1.cells; obtain ⟨h2, h3, h4, h5⟩ := h1; have h1 := h.tc; obtain ⟨h6, h7⟩ := h1; go_simp; exact rfl
  case ga6 => rfl
  case qa6 => exact fun _ _ _ h => h
  go_simp
  refine wpAnyG_one (i := 3) (by kernel_rfl) rfl rfl (fun K hK => ?_)
  go_wp2_with fail
  refine (HC1 _).mono ?_
  rintro e wa ⟨rfl, hba⟩
  have hSa : ThreeTys w.heap.size Bt x y t wa := ThreeTys.grow hS hba
  have hBa : Below w.heap.size w wa := hBo.trans (hba.mono (by have := hBo.size; omega))
  refine hK _ _ (fun _ => hSa) ?_
  clear hK
  go_simp
  refine wpAnyG_one (i := 7) (by kernel_rfl) rfl rfl (fun K hK => ?_)
  go_wp2_with fail
  refine (HC2 _).mono ?_
  rintro e wb ⟨rfl, hbb⟩
  have hSb : ThreeTys w.heap.size Bt x y t wb := ThreeTys.grow hSa hbb
  have hBb : Below w.heap.size w wb := hBa.trans (hbb.mono (by have := hBa.size; omega))
  refine hK _ _ (fun _ => hSb) ?_
  clear hK
  go_simp
  refine wpAnyG_one (i := 8) (by kernel_rfl) rfl rfl (fun K hK => ?_)
  go_wp2_with fail
  refine hK _ _ (fun _ => hSb) ?_
  clear hK
  go_simp
  refine wpAnyG_one (i := 9) (by kernel_rfl) rfl rfl (fun K hK => ?_)
  go_wp2_with fail
  refine hK _ _ (fun _ => hSb) ?_
  clear hK
  go_simp
  refine wpAnyG_done (by kernel_rfl) ?_ _
  obtain ⟨h6, h7⟩ := hSb.tc
  clear hS hSa hbb hba hBa hS0 
  obtain ⟨h2, h3, h4, h5⟩ := hSb.1.cells
  go_wp2_with fail
  refine (HO _).mono ?_
  rintro e w9 ⟨rfl, rfl⟩
  go_wp2_with fail
  go_ret2
  exact ⟨by rw [HN.out]; rfl, hBb⟩

set_option maxHeartbeats 2000000 in
theorem bin_sub (a b : Nat) (x y : GTy) (hx : okT x) (hy : okT y) (ha : U64 a) (hb : U64 b) (w : World) :
    Calls Tryz.prog 73 #[.int .i64 13, .int .u64 a, .int .u64 b, tyV x, tyV y] w (GrowsTo (binV (binN 13 a b x y)) w) := by
  have HV1 := valid_ok x hx
  have HV2 := valid_ok y hy
  have HP := comm_ok x y
  have ht := commT_ok hx hy
  have HC1 := conv_ok a x (commT x y) hx ht ha
  have HC2 := conv_ok b y (commT x y) hy ht hb
  have hp := convN_lt a x (commT x y) ht
  have hq := convN_lt b y (commT x y) ht
  have HO := sub_ok (convN a x (commT x y)) (convN b y (commT x y)) (commT x y).bits ht hp hq
  have HN := Lib.hid (show binN 13 a b x y = some (subN (convN a x (commT x y)) (convN b y (commT x y)) (commT x y).bits) from rfl)
  clear hx hy ha hb ht
  generalize commT x y = t at *
  generalize convN a x t = p at *
  generalize convN b y t = q at *
  simp only [tyV] at HV1 HV2 HP HC1 HC2
  have hT0 := twoTys_new w x y
  have hB0 := two_below w x y
  have hZ0 : ((w.alloc (.cells #[.int .i64 x.bits, .bool x.sgn] 72)).alloc (.cells #[.int .i64 y.bits, .bool y.sgn] 72)).heap.size = w.heap.size + 1 + 1 := by simp
  show Calls Tryz.prog 73 #[.int .i64 13, .int .u64 a, .int .u64 b, .agg #[.int .i64 x.bits, .bool x.sgn], .agg #[.int .i64 y.bits, .bool y.sgn]] w (GrowsTo (binV (binN 13 a b x y)) w)
  go_enter Tryz.func73, Tryz.ntmps73
  go_wp2_with fail
  generalize (w.alloc (.cells #[.int .i64 x.bits, .bool x.sgn] 72)).alloc (.cells #[.int .i64 y.bits, .bool y.sgn] 72) = w0 at *
  refine (HV1 _).mono ?_
  rintro e w1 ⟨rfl, hb1⟩
  have hT1 := hT0.grow hb1
  have hB1 : Below w.heap.size w w1 := hB0.trans (hb1.mono (by omega))
  have hz1 : w0.heap.size ≤ w1.heap.size := hb1.size
  clear hT0 hb1 hB0
  obtain ⟨c1, c2, c3, c4⟩ := hT1.cells
  go_wp2_with fail
  refine (HV2 _).mono ?_
  rintro e w2 ⟨rfl, hb2⟩
  have hT2 := hT1.grow hb2
  have hB2 : Below w.heap.size w w2 := hB1.trans (hb2.mono (by omega))
  have hz2 : w1.heap.size ≤ w2.heap.size := hb2.size
  clear hT1 hb2 hB1 c1 c2 c3 c4
  obtain ⟨c1, c2, c3, c4⟩ := hT2.cells
  go_wp2_with fail
  refine (HP _).mono ?_
  rintro e w3 ⟨rfl, hb3⟩
  have hT3 := hT2.grow hb3
  have hB3 : Below w.heap.size w w3 := hB2.trans (hb3.mono (by omega))
  have hz3 : w2.heap.size ≤ w3.heap.size := hb3.size
  clear hT2 hb3 hB2 c1 c2 c3 c4
  obtain ⟨Bt, hBt⟩ : ∃ Bt, Bt = w3.heap.size := ⟨_, rfl⟩
  have hS0 : ThreeTys w.heap.size Bt x y t (w3.alloc (.cells #[.int .i64 t.bits, .bool t.sgn] 72)) := by
    rw [hBt]; exact ⟨⟨blk_alloc hT3.1 _, blk_alloc hT3.2 _⟩, box_new w3 t⟩
  have hBo : Below w.heap.size w (w3.alloc (.cells #[.int .i64 t.bits, .bool t.sgn] 72)).drew := (hB3.alloc (by omega) _).drew
  clear hT3 hB3
  go_wp2_with fail
  rw [← hBt]
  generalize w3.alloc (.cells #[.int .i64 t.bits, .bool t.sgn] 72) = wo at *
  clear hBt
  refine wp_region_G (D := []) (S := ThreeTys w.heap.size Bt x y t) Tryz.checked.mixed (by exact hS0) (fun hS => ?_)
  refine wpAnyG_read (i := 0) (v := ?va0) rfl (by kernel_rfl) (by kernel_rfl) (by kernel_rfl) (by kernel_rfl) (by kernel_rfl) ?qa0 ?ga0 ?ya0 hS ?_  -- move t1
  case ya0 => intro w' h; have h1 := h.1.cells; obtain ⟨h2, h3, h4, h5⟩ := h1; have h1 := h.tc; obtain ⟨h6, h7⟩ := h1; go_simp; exact rfl
  case ga0 => rfl
  case qa0 => exact fun _ _ _ h => h
  go_simp
  refine wpAnyG_read (i := 1) (v := ?va1) rfl (by kernel_rfl) (by kernel_rfl) (by kernel_rfl) (by kernel_rfl) (by kernel_rfl) ?qa1 ?ga1 ?ya1 hS ?_  -- load 57 t8
  case ya1 => intro w' h; have h1 := h.1.cells; obtain ⟨h2, h3, h4, h5⟩ := h1; have h1 := h.tc; obtain ⟨h6, h7⟩ := h1; go_simp; exact rfl
  case ga1 => rfl
  case qa1 => exact fun _ _ _ h => h
  go_simp
  refine wpAnyG_read (i := 2) (v := ?va2) rfl (by kernel_rfl) (by kernel_rfl) (by kernel_rfl) (by kernel_rfl) (by kernel_rfl) ?qa2 ?ga2 ?ya2 hS ?_  -- load 57 t15
  case ya2 => intro w' h; have h1 := h.1.cells; obtain ⟨h2, h3, h4, h5⟩ := h1; have h1 := h.tc; obtain ⟨h6, h7⟩ := h1; go_simp; exact rfl
  case ga2 => rfl
  case qa2 => exact fun _ _ _ h => h
  go_simp
  refine wpAnyG_read (i := 4) (v := ?va4) rfl (by kernel_rfl) (by kernel_rfl) (by kernel_rfl) (by kernel_rfl) (by kernel_rfl) ?qa4 ?ga4 ?ya4 hS ?_  -- move t2
  case ya4 => intro w' h; have h1 := h.1.cells; obtain ⟨h2, h3, h4, h5⟩ := h1; have h1 := h.tc; obtain ⟨h6, h7⟩ := h1; go_simp; exact rfl
  case ga4 => rfl
  case qa4 => exact fun _ _ _ h => h
  go_simp
  refine wpAnyG_read (i := 5) (v := ?va5) rfl (by kernel_rfl) (by kernel_rfl) (by kernel_rfl) (by kernel_rfl) (by kernel_rfl) ?qa5 ?ga5 ?ya5 hS ?_  -- load 57 t9
  case ya5 => intro w' h; have h1 := h.1.cells; obtain ⟨h2, h3, h4, h5⟩ := h1; have h1 := h.tc; obtain ⟨h6, h7⟩ := h1; go_simp; exact rfl
  case ga5 => rfl
  case qa5 => exact fun _ _ _ h => h
  go_simp
  refine wpAnyG_read (i := 6) (v := ?va6) rfl (by kernel_rfl) (by kernel_rfl) (by kernel_rfl) (by kernel_rfl) (by kernel_rfl) ?qa6 ?ga6 ?ya6 hS ?_  -- load 57 t15
  case ya6 => intro w' h; have h1 := h.1.cells; obtain ⟨h2, h3, h4, h5⟩ := h1; have h1 := h.tc; obtain ⟨h6, h7⟩ := h1; go_simp; exact rfl
  case ga6 => rfl
  case qa6 => exact fun _ _ _ h => h
  go_simp
  refine wpAnyG_one (i := 3) (by kernel_rfl) rfl rfl (fun K hK => ?_)
  go_wp2_with fail
  refine (HC1 _).mono ?_
  rintro e wa ⟨rfl, hba⟩
  have hSa : ThreeTys w.heap.size Bt x y t wa := ThreeTys.grow hS hba
  have hBa : Below w.heap.size w wa := hBo.trans (hba.mono (by have := hBo.size; omega))
  refine hK _ _ (fun _ => hSa) ?_
  clear hK
  go_simp
  refine wpAnyG_one (i := 7) (by kernel_rfl) rfl rfl (fun K hK => ?_)
  go_wp2_with fail
  refine (HC2 _).mono ?_
  rintro e wb ⟨rfl, hbb⟩
  have hSb : ThreeTys w.heap.size Bt x y t wb := ThreeTys.grow hSa hbb
  have hBb : Below w.heap.size w wb := hBa.trans (hbb.mono (by have := hBa.size; omega))
  refine hK _ _ (fun _ => hSb) ?_
  clear hK
  go_simp
  refine wpAnyG_one (i := 8) (by kernel_rfl) rfl rfl (fun K hK => ?_)
  go_wp2_with fail
  refine hK _ _ (fun _ => hSb) ?_
  clear hK
  go_simp
  refine wpAnyG_one (i := 9) (by kernel_rfl) rfl rfl (fun K hK => ?_)
  go_wp2_with fail
  refine hK _ _ (fun _ => hSb) ?_
  clear hK
  go_simp
  refine wpAnyG_done (by kernel_rfl) ?_ _
  obtain ⟨h6, h7⟩ := hSb.tc
  clear hS hSa hbb hba hBa hS0 
  obtain ⟨h2, h3, h4, h5⟩ := hSb.1.cells
  go_wp2_with fail
  refine (HO _).mono ?_
  rintro e w9 ⟨rfl, rfl⟩
  go_wp2_with fail
  go_ret2
  exact ⟨by rw [HN.out]; rfl, hBb⟩
end Go.Proofs.YtgmmfjmdpbhjnaaGreat

/- contracts of types.Binary (printed by mkbin.py) -/
namespace Go.Proofs.YtgmmfjmdpbhjnaaGreat
open Go.RowKit

set_option maxHeartbeats 2000000 in
theorem bin_div (a b : Nat) (x y : GTy) (hx : okT x) (hy : okT y) (ha : U64 a) (hb : U64 b) (w : World) :
    Calls Tryz.prog 73 #[.int .i64 10, .int .u64 a, .int .u64 b, tyV x, tyV y] w (GrowsTo (binV (binN 10 a b x y)) w) := by
  have HV1 := valid_ok x hx
  have HV2 := valid_ok y hy
  have HP := comm_ok x y
  have ht := commT_ok hx hy
  have HC1 := conv_ok a x (commT x y) hx ht ha
  have HC2 := conv_ok b y (commT x y) hy ht hb
  have hp := convN_lt a x (commT x y) ht
  have hq := convN_lt b y (commT x y) ht
  have HO := div_ok (convN a x (commT x y)) (convN b y (commT x y)) (commT x y).bits (commT x y).sgn ht hp hq
  have HN := Lib.hid (show binN 10 a b x y = (if (convN b y (commT x y)) % 2 ^ (commT x y).bits = 0 then none else some (partsN (convN a x (commT x y)) (convN b y (commT x y)) (commT x y).bits (commT x y).sgn).1) from rfl)
  clear hx hy ha hb ht
  generalize commT x y = t at *
  generalize convN a x t = p at *
  generalize convN b y t = q at *
  simp only [tyV] at HV1 HV2 HP HC1 HC2
  have hT0 := twoTys_new w x y
  have hB0 := two_below w x y
  have hZ0 : ((w.alloc (.cells #[.int .i64 x.bits, .bool x.sgn] 72)).alloc (.cells #[.int .i64 y.bits, .bool y.sgn] 72)).heap.size = w.heap.size + 1 + 1 := by simp
  show Calls Tryz.prog 73 #[.int .i64 10, .int .u64 a, .int .u64 b, .agg #[.int .i64 x.bits, .bool x.sgn], .agg #[.int .i64 y.bits, .bool y.sgn]] w (GrowsTo (binV (binN 10 a b x y)) w)
  go_enter Tryz.func73, Tryz.ntmps73
  go_wp2_with fail
  generalize (w.alloc (.cells #[.int .i64 x.bits, .bool x.sgn] 72)).alloc (.cells #[.int .i64 y.bits, .bool y.sgn] 72) = w0 at *
  refine (HV1 _).mono ?_
  rintro e w1 ⟨rfl, hb1⟩
  have hT1 := hT0.grow hb1
  have hB1 : Below w.heap.size w w1 := hB0.trans (hb1.mono (by omega))
  have hz1 : w0.heap.size ≤ w1.heap.size := hb1.size
  clear hT0 hb1 hB0
  obtain ⟨c1, c2, c3, c4⟩ := hT1.cells
  go_wp2_with fail
  refine (HV2 _).mono ?_
  rintro e w2 ⟨rfl, hb2⟩
  have hT2 := hT1.grow hb2
  have hB2 : Below w.heap.size w w2 := hB1.trans (hb2.mono (by omega))
  have hz2 : w1.heap.size ≤ w2.heap.size := hb2.size
  clear hT1 hb2 hB1 c1 c2 c3 c4
  obtain ⟨c1, c2, c3, c4⟩ := hT2.cells
  go_wp2_with fail
  refine (HP _).mono ?_
  rintro e w3 ⟨rfl, hb3⟩
  have hT3 := hT2.grow hb3
  have hB3 : Below w.heap.size w w3 := hB2.trans (hb3.mono (by omega))
  have hz3 : w2.heap.size ≤ w3.heap.size := hb3.size
  clear hT2 hb3 hB2 c1 c2 c3 c4
  obtain ⟨Bt, hBt⟩ : ∃ Bt, Bt = w3.heap.size := ⟨_, rfl⟩
  have hS0 : ThreeTys w.heap.size Bt x y t (w3.alloc (.cells #[.int .i64 t.bits, .bool t.sgn] 72)) := by
    rw [hBt]; exact ⟨⟨blk_alloc hT3.1 _, blk_alloc hT3.2 _⟩, box_new w3 t⟩
  have hBo : Below w.heap.size w (w3.alloc (.cells #[.int .i64 t.bits, .bool t.sgn] 72)).drew := (hB3.alloc (by omega) _).drew
  clear hT3 hB3
  go_wp2_with fail
  rw [← hBt]
  generalize w3.alloc (.cells #[.int .i64 t.bits, .bool t.sgn] 72) = wo at *
  clear hBt
  refine wp_region_G (D := []) (S := ThreeTys w.heap.size Bt x y t) Tryz.checked.mixed (by exact hS0) (fun hS => ?_)
  refine wpAnyG_read (i := 0) (v := ?va0) rfl (by kernel_rfl) (by kernel_rfl) (by kernel_rfl) (by kernel_rfl) (by kernel_rfl) ?qa0 ?ga0 ?ya0 hS ?_  -- move t1
  case ya0 => intro w' h; have h1 := h.1.cells; obtain ⟨h2, h3, h4, h5⟩ := h1; have h1 := h.tc; obtain ⟨h6, h7⟩ := h1; go_simp; exact rfl
  case ga0 => rfl
  case qa0 => exact fun _ _ _ h => h
  go_simp
  refine wpAnyG_read (i := 1) (v := ?va1) rfl (by kernel_rfl) (by kernel_rfl) (by kernel_rfl) (by kernel_rfl) (by kernel_rfl) ?qa1 ?ga1 ?ya1 hS ?_  -- load 57 t8
  case ya1 => intro w' h; have h1 := h.1.cells; obtain ⟨h2, h3, h4, h5⟩ := h1; have h1 := h.tc; obtain ⟨h6, h7⟩ := h1; go_simp; exact rfl
  case ga1 => rfl
  case qa1 => exact fun _ _ _ h => h
  go_simp
  refine wpAnyG_read (i := 2) (v := ?va2) rfl (by kernel_rfl) (by kernel_rfl) (by kernel_rfl) (by kernel_rfl) (by kernel_rfl) ?qa2 ?ga2 ?ya2 hS ?_  -- load 57 t15
  case ya2 => intro w' h; have h1 := h.1.cells; obtain ⟨h2, h3, h4, h5⟩ := h1; have h1 := h.tc; obtain ⟨h6, h7⟩ := h1; go_simp; exact rfl
  case ga2 => rfl
  case qa2 => exact fun _ _ _ h => h
  go_simp
  refine wpAnyG_read (i := 4) (v := ?va4) rfl (by kernel_rfl) (by kernel_rfl) (by kernel_rfl) (by kernel_rfl) (by kernel_rfl) ?qa4 ?ga4 ?ya4 hS ?_  -- move t2
  case ya4 => intro w' h; have h1 := h.1.cells; obtain ⟨h2, h3, h4, h5⟩ := h1; have h1 := h.tc; obtain ⟨h6, h7⟩ := h1; go_simp; exact rfl
  case ga4 => rfl
  case qa4 => exact fun _ _ _ h => h
  go_simp
  refine wpAnyG_read (i := 5) (v := ?va5) rfl (by kernel_rfl) (by kernel_rfl) (by kernel_rfl) (by kernel_rfl) (by kernel_rfl) ?qa5 ?ga5 ?ya5 hS ?_  -- load 57 t9
  case ya5 => intro w' h; have h1 := h.1.cells; obtain ⟨h2, h3, h4, h5⟩ := h1; have h1 := h.tc; obtain ⟨h6, h7⟩ := h1; go_simp; exact rfl
  case ga5 => rfl
  case qa5 => exact fun _ _ _ h => h
  go_simp
  refine wpAnyG_read (i := 6) (v := ?va6) rfl (by kernel_rfl) (by kernel_rfl) (by kernel_rfl) (by kernel_rfl) (by kernel_rfl) ?qa6 ?ga6 ?ya6 hS ?_  -- load 57 t15
  case ya6 => intro w' h; have h1 := h.1.cells; obtain ⟨h2, h3, h4, h5⟩ := h1; have h1 := h.tc; obtain ⟨h6, h7⟩ := h1; go_simp; exact rfl
  case ga6 => rfl
  case qa6 => exact fun _ _ _ h => h
  go_simp
  refine wpAnyG_one (i := 3) (by kernel_rfl) rfl rfl (fun K hK => ?_)
  go_wp2_with fail
  refine (HC1 _).mono ?_
  rintro e wa ⟨rfl, hba⟩
  have hSa : ThreeTys w.heap.size Bt x y t wa := ThreeTys.grow hS hba
  have hBa : Below w.heap.size w wa := hBo.trans (hba.mono (by have := hBo.size; omega))
  refine hK _ _ (fun _ => hSa) ?_
  clear hK
  go_simp
  refine wpAnyG_one (i := 7) (by kernel_rfl) rfl rfl (fun K hK => ?_)
  go_wp2_with fail
  refine (HC2 _).mono ?_
  rintro e wb ⟨rfl, hbb⟩
  have hSb : ThreeTys w.heap.size Bt x y t wb := ThreeTys.grow hSa hbb
  have hBb : Below w.heap.size w wb := hBa.trans (hbb.mono (by have := hBa.size; omega))
  refine hK _ _ (fun _ => hSb) ?_
  clear hK
  go_simp
  refine wpAnyG_one (i := 8) (by kernel_rfl) rfl rfl (fun K hK => ?_)
  go_wp2_with fail
  refine hK _ _ (fun _ => hSb) ?_
  clear hK
  go_simp
  refine wpAnyG_one (i := 9) (by kernel_rfl) rfl rfl (fun K hK => ?_)
  go_wp2_with fail
  refine hK _ _ (fun _ => hSb) ?_
  clear hK
  go_simp
  refine wpAnyG_done (by kernel_rfl) ?_ _
  obtain ⟨h6, h7⟩ := hSb.tc
  clear hS hSa hbb hba hBa hS0 
  obtain ⟨h2, h3, h4, h5⟩ := hSb.1.cells
  by_cases h0 : q % 2 ^ t.bits = 0
  · rw [if_pos h0] at HN
    simp only [if_pos h0] at HO
    clear h0
    go_wp2_with fail
    refine (HO _).mono ?_
    rintro e w9 ⟨rfl, hb9⟩
    go_wp2_with fail
    go_ret2
    exact ⟨by rw [HN.out]; rfl, hBb.trans (hb9.mono (by have := hBb.size; omega))⟩
  · rw [if_neg h0] at HN
    simp only [if_neg h0] at HO
    clear h0
    go_wp2_with fail
    refine (HO _).mono ?_
    rintro e w9 ⟨rfl, hb9⟩
    go_wp2_with fail
    go_ret2
    exact ⟨by rw [HN.out]; rfl, hBb.trans (hb9.mono (by have := hBb.size; omega))⟩

set_option maxHeartbeats 2000000 in
theorem bin_rem (a b : Nat) (x y : GTy) (hx : okT x) (hy : okT y) (ha : U64 a) (hb : U64 b) (w : World) :
    Calls Tryz.prog 73 #[.int .i64 11, .int .u64 a, .int .u64 b, tyV x, tyV y] w (GrowsTo (binV (binN 11 a b x y)) w) := by
  have HV1 := valid_ok x hx
  have HV2 := valid_ok y hy
  have HP := comm_ok x y
  have ht := commT_ok hx hy
  have HC1 := conv_ok a x (commT x y) hx ht ha
  have HC2 := conv_ok b y (commT x y) hy ht hb
  have hp := convN_lt a x (commT x y) ht
  have hq := convN_lt b y (commT x y) ht
  have HO := rem_ok (convN a x (commT x y)) (convN b y (commT x y)) (commT x y).bits (commT x y).sgn ht hp hq
  have HN := Lib.hid (show binN 11 a b x y = (if (convN b y (commT x y)) % 2 ^ (commT x y).bits = 0 then none else some (partsN (convN a x (commT x y)) (convN b y (commT x y)) (commT x y).bits (commT x y).sgn).2) from rfl)
  clear hx hy ha hb ht
  generalize commT x y = t at *
  generalize convN a x t = p at *
  generalize convN b y t = q at *
  simp only [tyV] at HV1 HV2 HP HC1 HC2
  have hT0 := twoTys_new w x y
  have hB0 := two_below w x y
  have hZ0 : ((w.alloc (.cells #[.int .i64 x.bits, .bool x.sgn] 72)).alloc (.cells #[.int .i64 y.bits, .bool y.sgn] 72)).heap.size = w.heap.size + 1 + 1 := by simp
  show Calls Tryz.prog 73 #[.int .i64 11, .int .u64 a, .int .u64 b, .agg #[.int .i64 x.bits, .bool x.sgn], .agg #[.int .i64 y.bits, .bool y.sgn]] w (GrowsTo (binV (binN 11 a b x y)) w)
  go_enter Tryz.func73, Tryz.ntmps73
  go_wp2_with fail
  generalize (w.alloc (.cells #[.int .i64 x.bits, .bool x.sgn] 72)).alloc (.cells #[.int .i64 y.bits, .bool y.sgn] 72) = w0 at *
  refine (HV1 _).mono ?_
  rintro e w1 ⟨rfl, hb1⟩
  have hT1 := hT0.grow hb1
  have hB1 : Below w.heap.size w w1 := hB0.trans (hb1.mono (by omega))
  have hz1 : w0.heap.size ≤ w1.heap.size := hb1.size
  clear hT0 hb1 hB0
  obtain ⟨c1, c2, c3, c4⟩ := hT1.cells
  go_wp2_with fail
  refine (HV2 _).mono ?_
  rintro e w2 ⟨rfl, hb2⟩
  have hT2 := hT1.grow hb2
  have hB2 : Below w.heap.size w w2 := hB1.trans (hb2.mono (by omega))
  have hz2 : w1.heap.size ≤ w2.heap.size := hb2.size
  clear hT1 hb2 hB1 c1 c2 c3 c4
  obtain ⟨c1, c2, c3, c4⟩ := hT2.cells
  go_wp2_with fail
  refine (HP _).mono ?_
  rintro e w3 ⟨rfl, hb3⟩
  have hT3 := hT2.grow hb3
  have hB3 : Below w.heap.size w w3 := hB2.trans (hb3.mono (by omega))
  have hz3 : w2.heap.size ≤ w3.heap.size := hb3.size
  clear hT2 hb3 hB2 c1 c2 c3 c4
  obtain ⟨Bt, hBt⟩ : ∃ Bt, Bt = w3.heap.size := ⟨_, rfl⟩
  have hS0 : ThreeTys w.heap.size Bt x y t (w3.alloc (.cells #[.int .i64 t.bits, .bool t.sgn] 72)) := by
    rw [hBt]; exact ⟨⟨blk_alloc hT3.1 _, blk_alloc hT3.2 _⟩, box_new w3 t⟩
  have hBo : Below w.heap.size w (w3.alloc (.cells #[.int .i64 t.bits, .bool t.sgn] 72)).drew := (hB3.alloc (by omega) _).drew
  clear hT3 hB3
  go_wp2_with fail
  rw [← hBt]
  generalize w3.alloc (.cells #[.int .i64 t.bits, .bool t.sgn] 72) = wo at *
  clear hBt
  refine wp_region_G (D := []) (S := ThreeTys w.heap.size Bt x y t) Tryz.checked.mixed (by exact hS0) (fun hS => ?_)
  refine wpAnyG_read (i := 0) (v := ?va0) rfl (by kernel_rfl) (by kernel_rfl) (by kernel_rfl) (by kernel_rfl) (by kernel_rfl) ?qa0 ?ga0 ?ya0 hS ?_  -- move t1
  case ya0 => intro w' h; have h1 := h.1.cells; obtain ⟨h2, h3, h4, h5⟩ := h1; have h1 := h.tc; obtain ⟨h6, h7⟩ := h1; go_simp; exact rfl
  case ga0 => rfl
  case qa0 => exact fun _ _ _ h => h
  go_simp
  refine wpAnyG_read (i := 1) (v := ?va1) rfl (by kernel_rfl) (by kernel_rfl) (by kernel_rfl) (by kernel_rfl) (by kernel_rfl) ?qa1 ?ga1 ?ya1 hS ?_  -- load 57 t8
  case ya1 => intro w' h; have h1 := h.1.cells; obtain ⟨h2, h3, h4, h5⟩ := h1; have h1 := h.tc; obtain ⟨h6, h7⟩ := h1; go_simp; exact rfl
  case ga1 => rfl
  case qa1 => exact fun _ _ _ h => h
  go_simp
  refine wpAnyG_read (i := 2) (v := ?va2) rfl (by kernel_rfl) (by kernel_rfl) (by kernel_rfl) (by kernel_rfl) (by kernel_rfl) ?qa2 ?ga2 ?ya2 hS ?_  -- load 57 t15
  case ya2 => intro w' h; have h1 := h.1.cells; obtain ⟨h2, h3, h4, h5⟩ := h1; have h1 := h.tc; obtain ⟨h6, h7⟩ := h1; go_simp; exact rfl
  case ga2 => rfl
  case qa2 => exact fun _ _ _ h => h
  go_simp
  refine wpAnyG_read (i := 4) (v := ?va4) rfl (by kernel_rfl) (by kernel_rfl) (by kernel_rfl) (by kernel_rfl) (by kernel_rfl) ?qa4 ?ga4 ?ya4 hS ?_  -- move t2
  case ya4 => intro w' h; have h1 := h.1.cells; obtain ⟨h2, h3, h4, h5⟩ := h1; have h1 := h.tc; obtain ⟨h6, h7⟩ := h1; go_simp; exact rfl
  case ga4 => rfl
  case qa4 => exact fun _ _ _ h => h
  go_simp
  refine wpAnyG_read (i := 5) (v := ?va5) rfl (by kernel_rfl) (by kernel_rfl) (by kernel_rfl) (by kernel_rfl) (by kernel_rfl) ?qa5 ?ga5 ?ya5 hS ?_  -- load 57 t9
  case ya5 => intro w' h; have h1 := h.1.cells; obtain ⟨h2, h3, h4, h5⟩ := h1; have h1 := h.tc; obtain ⟨h6, h7⟩ := h1; go_simp; exact rfl
  case ga5 => rfl
  case qa5 => exact fun _ _ _ h => h
  go_simp
  refine wpAnyG_read (i := 6) (v := ?va6) rfl (by kernel_rfl) (by kernel_rfl) (by kernel_rfl) (by kernel_rfl) (by kernel_rfl) ?qa6 ?ga6 ?ya6 hS ?_  -- load 57 t15
  case ya6 => intro w' h; have h1 := h.1.cells; obtain ⟨h2, h3, h4, h5⟩ := h1; have h1 := h.tc; obtain ⟨h6, h7⟩ := h1; go_simp; exact rfl
  case ga6 => rfl
  case qa6 => exact fun _ _ _ h => h
  go_simp
  refine wpAnyG_one (i := 3) (by kernel_rfl) rfl rfl (fun K hK => ?_)
  go_wp2_with fail
  refine (HC1 _).mono ?_
  rintro e wa ⟨rfl, hba⟩
  have hSa : ThreeTys w.heap.size Bt x y t wa := ThreeTys.grow hS hba
  have hBa : Below w.heap.size w wa := hBo.trans (hba.mono (by have := hBo.size; omega))
  refine hK _ _ (fun _ => hSa) ?_
  clear hK
  go_simp
  refine wpAnyG_one (i := 7) (by kernel_rfl) rfl rfl (fun K hK => ?_)
  go_wp2_with fail
  refine (HC2 _).mono ?_
  rintro e wb ⟨rfl, hbb⟩
  have hSb : ThreeTys w.heap.size Bt x y t wb := ThreeTys.grow hSa hbb
  have hBb : Below w.heap.size w wb := hBa.trans (hbb.mono (by have := hBa.size; omega))
  refine hK _ _ (fun _ => hSb) ?_
  clear hK
  go_simp
  refine wpAnyG_one (i := 8) (by kernel_rfl) rfl rfl (fun K hK => ?_)
  go_wp2_with fail
  refine hK _ _ (fun _ => hSb) ?_
  clear hK
  go_simp
  refine wpAnyG_one (i := 9) (by kernel_rfl) rfl rfl (fun K hK => ?_)
  go_wp2_with fail
  refine hK _ _ (fun _ => hSb) ?_
  clear hK
  go_simp
  refine wpAnyG_done (by kernel_rfl) ?_ _
  obtain ⟨h6, h7⟩ := hSb.tc
  clear hS hSa hbb hba hBa hS0 
  obtain ⟨h2, h3, h4, h5⟩ := hSb.1.cells
  by_cases h0 : q % 2 ^ t.bits = 0
  · rw [if_pos h0] at HN
    simp only [if_pos h0] at HO
    clear h0
    go_wp2_with fail
    refine (HO _).mono ?_
    rintro e w9 ⟨rfl, hb9⟩
    go_wp2_with fail
    go_ret2
    exact ⟨by rw [HN.out]; rfl, hBb.trans (hb9.mono (by have := hBb.size; omega))⟩
  · rw [if_neg h0] at HN
    simp only [if_neg h0] at HO
    clear h0
    go_wp2_with fail
    refine (HO _).mono ?_
    rintro e w9 ⟨rfl, hb9⟩
    go_wp2_with fail
    go_ret2
    exact ⟨by rw [HN.out]; rfl, hBb.trans (hb9.mono (by have := hBb.size; omega))⟩
end Go.Proofs.YtgmmfjmdpbhjnaaGreat

/- contracts of types.Binary (printed by mkbin.py) -/
namespace Go.Proofs.YtgmmfjmdpbhjnaaGreat
open Go.RowKit

set_option maxHeartbeats 2000000 in
theorem bin_and (a b : Nat) (x y : GTy) (hx : okT x) (hy : okT y) (ha : U64 a) (hb : U64 b) (w : World) :
    Calls Tryz.prog 73 #[.int .i64 22, .int .u64 a, .int .u64 b, tyV x, tyV y] w (GrowsTo (binV (binN 22 a b x y)) w) := by
  have HV1 := valid_ok x hx
  have HV2 := valid_ok y hy
  have HP := comm_ok x y
  have ht := commT_ok hx hy
  have HC1 := conv_ok a x (commT x y) hx ht ha
  have HC2 := conv_ok b y (commT x y) hy ht hb
  have hp := convN_lt a x (commT x y) ht
  have hq := convN_lt b y (commT x y) ht
  have HO := u64_and_nat (convN a x (commT x y)) (convN b y (commT x y)) hp hq
  have HN := Lib.hid (show binN 22 a b x y = some (convN a x (commT x y) &&& convN b y (commT x y)) from rfl)
  clear hx hy ha hb ht
  generalize commT x y = t at *
  generalize convN a x t = p at *
  generalize convN b y t = q at *
  simp only [tyV] at HV1 HV2 HP HC1 HC2
  have hT0 := twoTys_new w x y
  have hB0 := two_below w x y
  have hZ0 : ((w.alloc (.cells #[.int .i64 x.bits, .bool x.sgn] 72)).alloc (.cells #[.int .i64 y.bits, .bool y.sgn] 72)).heap.size = w.heap.size + 1 + 1 := by simp
  show Calls Tryz.prog 73 #[.int .i64 22, .int .u64 a, .int .u64 b, .agg #[.int .i64 x.bits, .bool x.sgn], .agg #[.int .i64 y.bits, .bool y.sgn]] w (GrowsTo (binV (binN 22 a b x y)) w)
  go_enter Tryz.func73, Tryz.ntmps73
  go_wp2_with fail
  generalize (w.alloc (.cells #[.int .i64 x.bits, .bool x.sgn] 72)).alloc (.cells #[.int .i64 y.bits, .bool y.sgn] 72) = w0 at *
  refine (HV1 _).mono ?_
  rintro e w1 ⟨rfl, hb1⟩
  have hT1 := hT0.grow hb1
  have hB1 : Below w.heap.size w w1 := hB0.trans (hb1.mono (by omega))
  have hz1 : w0.heap.size ≤ w1.heap.size := hb1.size
  clear hT0 hb1 hB0
  obtain ⟨c1, c2, c3, c4⟩ := hT1.cells
  go_wp2_with fail
  refine (HV2 _).mono ?_
  rintro e w2 ⟨rfl, hb2⟩
  have hT2 := hT1.grow hb2
  have hB2 : Below w.heap.size w w2 := hB1.trans (hb2.mono (by omega))
  have hz2 : w1.heap.size ≤ w2.heap.size := hb2.size
  clear hT1 hb2 hB1 c1 c2 c3 c4
  obtain ⟨c1, c2, c3, c4⟩ := hT2.cells
  go_wp2_with fail
  refine (HP _).mono ?_
  rintro e w3 ⟨rfl, hb3⟩
  have hT3 := hT2.grow hb3
  have hB3 : Below w.heap.size w w3 := hB2.trans (hb3.mono (by omega))
  have hz3 : w2.heap.size ≤ w3.heap.size := hb3.size
  clear hT2 hb3 hB2 c1 c2 c3 c4
  obtain ⟨Bt, hBt⟩ : ∃ Bt, Bt = w3.heap.size := ⟨_, rfl⟩
  have hS0 : ThreeTys w.heap.size Bt x y t (w3.alloc (.cells #[.int .i64 t.bits, .bool t.sgn] 72)) := by
    rw [hBt]; exact ⟨⟨blk_alloc hT3.1 _, blk_alloc hT3.2 _⟩, box_new w3 t⟩
  have hBo : Below w.heap.size w (w3.alloc (.cells #[.int .i64 t.bits, .bool t.sgn] 72)).drew := (hB3.alloc (by omega) _).drew
  clear hT3 hB3
  go_wp2_with fail
  rw [← hBt]
  generalize w3.alloc (.cells #[.int .i64 t.bits, .bool t.sgn] 72) = wo at *
  clear hBt
  refine wp_region_G (D := []) (S := ThreeTys w.heap.size Bt x y t) Tryz.checked.mixed (by exact hS0) (fun hS => ?_)
  refine wpAnyG_read (i := 0) (v := ?va0) rfl (by kernel_rfl) (by kernel_rfl) (by kernel_rfl) (by kernel_rfl) (by kernel_rfl) ?qa0 ?ga0 ?ya0 hS ?_  -- move t1
  case ya0 => intro w' h; have h1 := h.1.cells; obtain ⟨h2, h3, h4, h5⟩ := h1; have h1 := h.tc; obtain ⟨h6, h7⟩ := h1; go_simp; exact rfl
  case ga0 => rfl
  case qa0 => exact fun _ _ _ h => h
  go_simp
  refine wpAnyG_read (i := 1) (v := ?va1) rfl (by kernel_rfl) (by kernel_rfl) (by kernel_rfl) (by kernel_rfl) (by kernel_rfl) ?qa1 ?ga1 ?ya1 hS ?_  -- load 57 t8
  case ya1 => intro w' h; have h1 := h.1.cells; obtain ⟨h2, h3, h4, h5⟩ := h1; have h1 := h.tc; obtain ⟨h6, h7⟩ := h1; go_simp; exact rfl
  case ga1 => rfl
  case qa1 => exact fun _ _ _ h => h
  go_simp
  refine wpAnyG_read (i := 2) (v := ?va2) rfl (by kernel_rfl) (by kernel_rfl) (by kernel_rfl) (by kernel_rfl) (by kernel_rfl) ?qa2 ?ga2 ?ya2 hS ?_  -- load 57 t15
  case ya2 => intro w' h; have h1 := h.1.cells; obtain ⟨h2, h3, h4, h5⟩ := h1; have h1 := h.tc; obtain ⟨h6, h7⟩ := h1; go_simp; exact rfl
  case ga2 => rfl
  case qa2 => exact fun _ _ _ h => h
  go_simp
  refine wpAnyG_read (i := 4) (v := ?va4) rfl (by kernel_rfl) (by kernel_rfl) (by kernel_rfl) (by kernel_rfl) (by kernel_rfl) ?qa4 ?ga4 ?ya4 hS ?_  -- move t2
  case ya4 => intro w' h; have h1 := h.1.cells; obtain ⟨h2, h3, h4, h5⟩ := h1; have h1 := h.tc; obtain ⟨h6, h7⟩ := h1; go_simp; exact rfl
  case ga4 => rfl
  case qa4 => exact fun _ _ _ h => h
  go_simp
  refine wpAnyG_read (i := 5) (v := ?va5) rfl (by kernel_rfl) (by kernel_rfl) (by kernel_rfl) (by kernel_rfl) (by kernel_rfl) ?qa5 ?ga5 ?ya5 hS ?_  -- load 57 t9
  case ya5 => intro w' h; have h1 := h.1.cells; obtain ⟨h2, h3, h4, h5⟩ := h1; have h1 := h.tc; obtain ⟨h6, h7⟩ := h1; go_simp; exact rfl
  case ga5 => rfl
  case qa5 => exact fun _ _ _ h => h
  go_simp
  refine wpAnyG_read (i := 6) (v := ?va6) rfl (by kernel_rfl) (by kernel_rfl) (by kernel_rfl) (by kernel_rfl) (by kernel_rfl) ?qa6 ?ga6 ?ya6 hS ?_  -- load 57 t15
  case ya6 => intro w' h; have h1 := h.1.cells; obtain ⟨h2, h3, h4, h5⟩ := h1; have h1 := h.tc; obtain ⟨h6, h7⟩ := h1; go_simp; exact rfl
  case ga6 => rfl
  case qa6 => exact fun _ _ _ h => h
  go_simp
  refine wpAnyG_one (i := 3) (by kernel_rfl) rfl rfl (fun K hK => ?_)
  go_wp2_with fail
  refine (HC1 _).mono ?_
  rintro e wa ⟨rfl, hba⟩
  have hSa : ThreeTys w.heap.size Bt x y t wa := ThreeTys.grow hS hba
  have hBa : Below w.heap.size w wa := hBo.trans (hba.mono (by have := hBo.size; omega))
  refine hK _ _ (fun _ => hSa) ?_
  clear hK
  go_simp
  refine wpAnyG_one (i := 7) (by kernel_rfl) rfl rfl (fun K hK => ?_)
  go_wp2_with fail
  refine (HC2 _).mono ?_
  rintro e wb ⟨rfl, hbb⟩
  have hSb : ThreeTys w.heap.size Bt x y t wb := ThreeTys.grow hSa hbb
  have hBb : Below w.heap.size w wb := hBa.trans (hbb.mono (by have := hBa.size; omega))
  refine hK _ _ (fun _ => hSb) ?_
  clear hK
  go_simp
  refine wpAnyG_one (i := 8) (by kernel_rfl) rfl rfl (fun K hK => ?_)
  go_wp2_with fail
  refine hK _ _ (fun _ => hSb) ?_
  clear hK
  go_simp
  refine wpAnyG_one (i := 9) (by kernel_rfl) rfl rfl (fun K hK => ?_)
  go_wp2_with fail
  refine hK _ _ (fun _ => hSb) ?_
  clear hK
  go_simp
  refine wpAnyG_done (by kernel_rfl) ?_ _
  obtain ⟨h6, h7⟩ := hSb.tc
  clear hS hSa hbb hba hBa hS0 
  obtain ⟨h2, h3, h4, h5⟩ := hSb.1.cells
  have HO' := Lib.hid HO
  clear HO
  go_wp2_with fail
  go_ret2
  exact ⟨rt_ii HO'.out rfl |>.trans (by rw [HN.out]; rfl), hBb⟩

set_option maxHeartbeats 2000000 in
theorem bin_xor (a b : Nat) (x y : GTy) (hx : okT x) (hy : okT y) (ha : U64 a) (hb : U64 b) (w : World) :
    Calls Tryz.prog 73 #[.int .i64 23, .int .u64 a, .int .u64 b, tyV x, tyV y] w (GrowsTo (binV (binN 23 a b x y)) w) := by
  have HV1 := valid_ok x hx
  have HV2 := valid_ok y hy
  have HP := comm_ok x y
  have ht := commT_ok hx hy
  have HC1 := conv_ok a x (commT x y) hx ht ha
  have HC2 := conv_ok b y (commT x y) hy ht hb
  have hp := convN_lt a x (commT x y) ht
  have hq := convN_lt b y (commT x y) ht
  have HO := u64_xor_nat (convN a x (commT x y)) (convN b y (commT x y)) hp hq
  have HN := Lib.hid (show binN 23 a b x y = some (convN a x (commT x y) ^^^ convN b y (commT x y)) from rfl)
  clear hx hy ha hb ht
  generalize commT x y = t at *
  generalize convN a x t = p at *
  generalize convN b y t = q at *
  simp only [tyV] at HV1 HV2 HP HC1 HC2
  have hT0 := twoTys_new w x y
  have hB0 := two_below w x y
  have hZ0 : ((w.alloc (.cells #[.int .i64 x.bits, .bool x.sgn] 72)).alloc (.cells #[.int .i64 y.bits, .bool y.sgn] 72)).heap.size = w.heap.size + 1 + 1 := by simp
  show Calls Tryz.prog 73 #[.int .i64 23, .int .u64 a, .int .u64 b, .agg #[.int .i64 x.bits, .bool x.sgn], .agg #[.int .i64 y.bits, .bool y.sgn]] w (GrowsTo (binV (binN 23 a b x y)) w)
  go_enter Tryz.func73, Tryz.ntmps73
  go_wp2_with fail
  generalize (w.alloc (.cells #[.int .i64 x.bits, .bool x.sgn] 72)).alloc (.cells #[.int .i64 y.bits, .bool y.sgn] 72) = w0 at *
  refine (HV1 _).mono ?_
  rintro e w1 ⟨rfl, hb1⟩
  have hT1 := hT0.grow hb1
  have hB1 : Below w.heap.size w w1 := hB0.trans (hb1.mono (by omega))
  have hz1 : w0.heap.size ≤ w1.heap.size := hb1.size
  clear hT0 hb1 hB0
  obtain ⟨c1, c2, c3, c4⟩ := hT1.cells
  go_wp2_with fail
  refine (HV2 _).mono ?_
  rintro e w2 ⟨rfl, hb2⟩
  have hT2 := hT1.grow hb2
  have hB2 : Below w.heap.size w w2 := hB1.trans (hb2.mono (by omega))
  have hz2 : w1.heap.size ≤ w2.heap.size := hb2.size
  clear hT1 hb2 hB1 c1 c2 c3 c4
  obtain ⟨c1, c2, c3, c4⟩ := hT2.cells
  go_wp2_with fail
  refine (HP _).mono ?_
  rintro e w3 ⟨rfl, hb3⟩
  have hT3 := hT2.grow hb3
  have hB3 : Below w.heap.size w w3 := hB2.trans (hb3.mono (by omega))
  have hz3 : w2.heap.size ≤ w3.heap.size := hb3.size
  clear hT2 hb3 hB2 c1 c2 c3 c4
  obtain ⟨Bt, hBt⟩ : ∃ Bt, Bt = w3.heap.size := ⟨_, rfl⟩
  have hS0 : ThreeTys w.heap.size Bt x y t (w3.alloc (.cells #[.int .i64 t.bits, .bool t.sgn] 72)) := by
    rw [hBt]; exact ⟨⟨blk_alloc hT3.1 _, blk_alloc hT3.2 _⟩, box_new w3 t⟩
  have hBo : Below w.heap.size w (w3.alloc (.cells #[.int .i64 t.bits, .bool t.sgn] 72)).drew := (hB3.alloc (by omega) _).drew
  clear hT3 hB3
  go_wp2_with fail
  rw [← hBt]
  generalize w3.alloc (.cells #[.int .i64 t.bits, .bool t.sgn] 72) = wo at *
  clear hBt
  refine wp_region_G (D := []) (S := ThreeTys w.heap.size Bt x y t) Tryz.checked.mixed (by exact hS0) (fun hS => ?_)
  refine wpAnyG_read (i := 0) (v := ?va0) rfl (by kernel_rfl) (by kernel_rfl) (by kernel_rfl) (by kernel_rfl) (by kernel_rfl) ?qa0 ?ga0 ?ya0 hS ?_  -- move t1
  case ya0 => intro w' h; have h1 := h.1.cells; obtain ⟨h2, h3, h4, h5⟩ := h1; have h1 := h.tc; obtain ⟨h6, h7⟩ := h1; go_simp; exact rfl
  case ga0 => rfl
  case qa0 => exact fun _ _ _ h => h
  go_simp
  refine wpAnyG_read (i := 1) (v := ?va1) rfl (by kernel_rfl) (by kernel_rfl) (by kernel_rfl) (by kernel_rfl) (by kernel_rfl) ?qa1 ?ga1 ?ya1 hS ?_  -- load 57 t8
  case ya1 => intro w' h; have h1 := h.1.cells; obtain ⟨h2, h3, h4, h5⟩ := h1; have h1 := h.tc; obtain ⟨h6, h7⟩ := h1; go_simp; exact rfl
  case ga1 => rfl
  case qa1 => exact fun _ _ _ h => h
  go_simp
  refine wpAnyG_read (i := 2) (v := ?va2) rfl (by kernel_rfl) (by kernel_rfl) (by kernel_rfl) (by kernel_rfl) (by kernel_rfl) ?qa2 ?ga2 ?ya2 hS ?_  -- load 57 t15
  case ya2 => intro w' h; have h1 := h.1.cells; obtain ⟨h2, h3, h4, h5⟩ := h1; have h1 := h.tc; obtain ⟨h6, h7⟩ := h1; go_simp; exact rfl
  case ga2 => rfl
  case qa2 => exact fun _ _ _ h => h
  go_simp
  refine wpAnyG_read (i := 4) (v := ?va4) rfl (by kernel_rfl) (by kernel_rfl) (by kernel_rfl) (by kernel_rfl) (by kernel_rfl) ?qa4 ?ga4 ?ya4 hS ?_  -- move t2
  case ya4 => intro w' h; have h1 := h.1.cells; obtain ⟨h2, h3, h4, h5⟩ := h1; have h1 := h.tc; obtain ⟨h6, h7⟩ := h1; go_simp; exact rfl
  case ga4 => rfl
  case qa4 => exact fun _ _ _ h => h
  go_simp
  refine wpAnyG_read (i := 5) (v := ?va5) rfl (by kernel_rfl) (by kernel_rfl) (by kernel_rfl) (by kernel_rfl) (by kernel_rfl) ?qa5 ?ga5 ?ya5 hS ?_  -- load 57 t9
  case ya5 => intro w' h; have h1 := h.1.cells; obtain ⟨h2, h3, h4, h5⟩ := h1; have h1 := h.tc; obtain ⟨h6, h7⟩ := h1; go_simp; exact rfl
  case ga5 => rfl
  case qa5 => exact fun _ _ _ h => h
  go_simp
  refine wpAnyG_read (i := 6) (v := ?va6) rfl (by kernel_rfl) (by kernel_rfl) (by kernel_rfl) (by kernel_rfl) (by kernel_rfl) ?qa6 ?ga6 ?ya6 hS ?_  -- load 57 t15
  case ya6 => intro w' h; have h1 := h.1.cells; obtain ⟨h2, h3, h4, h5⟩ := h1; have h1 := h.tc; obtain ⟨h6, h7⟩ := h1; go_simp; exact rfl
  case ga6 => rfl
  case qa6 => exact fun _ _ _ h => h
  go_simp
  refine wpAnyG_one (i := 3) (by kernel_rfl) rfl rfl (fun K hK => ?_)
  go_wp2_with fail
  refine (HC1 _).mono ?_
  rintro e wa ⟨rfl, hba⟩
  have hSa : ThreeTys w.heap.size Bt x y t wa := ThreeTys.grow hS hba
  have hBa : Below w.heap.size w wa := hBo.trans (hba.mono (by have := hBo.size; omega))
  refine hK _ _ (fun _ => hSa) ?_
  clear hK
  go_simp
  refine wpAnyG_one (i := 7) (by kernel_rfl) rfl rfl (fun K hK => ?_)
  go_wp2_with fail
  refine (HC2 _).mono ?_
  rintro e wb ⟨rfl, hbb⟩
  have hSb : ThreeTys w.heap.size Bt x y t wb := ThreeTys.grow hSa hbb
  have hBb : Below w.heap.size w wb := hBa.trans (hbb.mono (by have := hBa.size; omega))
  refine hK _ _ (fun _ => hSb) ?_
  clear hK
  go_simp
  refine wpAnyG_one (i := 8) (by kernel_rfl) rfl rfl (fun K hK => ?_)
  go_wp2_with fail
  refine hK _ _ (fun _ => hSb) ?_
  clear hK
  go_simp
  refine wpAnyG_one (i := 9) (by kernel_rfl) rfl rfl (fun K hK => ?_)
  go_wp2_with fail
  refine hK _ _ (fun _ => hSb) ?_
  clear hK
  go_simp
  refine wpAnyG_done (by kernel_rfl) ?_ _
  obtain ⟨h6, h7⟩ := hSb.tc
  clear hS hSa hbb hba hBa hS0 
  obtain ⟨h2, h3, h4, h5⟩ := hSb.1.cells
  have HO' := Lib.hid HO
  clear HO
  go_wp2_with fail
  go_ret2
  exact ⟨rt_ii HO'.out rfl |>.trans (by rw [HN.out]; rfl), hBb⟩

set_option maxHeartbeats 2000000 in
theorem bin_or (a b : Nat) (x y : GTy) (hx : okT x) (hy : okT y) (ha : U64 a) (hb : U64 b) (w : World) :
    Calls Tryz.prog 73 #[.int .i64 24, .int .u64 a, .int .u64 b, tyV x, tyV y] w (GrowsTo (binV (binN 24 a b x y)) w) := by
  have HV1 := valid_ok x hx
  have HV2 := valid_ok y hy
  have HP := comm_ok x y
  have ht := commT_ok hx hy
  have HC1 := conv_ok a x (commT x y) hx ht ha
  have HC2 := conv_ok b y (commT x y) hy ht hb
  have hp := convN_lt a x (commT x y) ht
  have hq := convN_lt b y (commT x y) ht
  have HO := u64_or_nat (convN a x (commT x y)) (convN b y (commT x y)) hp hq
  have HN := Lib.hid (show binN 24 a b x y = some (convN a x (commT x y) ||| convN b y (commT x y)) from rfl)
  clear hx hy ha hb ht
  generalize commT x y = t at *
  generalize convN a x t = p at *
  generalize convN b y t = q at *
  simp only [tyV] at HV1 HV2 HP HC1 HC2
  have hT0 := twoTys_new w x y
  have hB0 := two_below w x y
  have hZ0 : ((w.alloc (.cells #[.int .i64 x.bits, .bool x.sgn] 72)).alloc (.cells #[.int .i64 y.bits, .bool y.sgn] 72)).heap.size = w.heap.size + 1 + 1 := by simp
  show Calls Tryz.prog 73 #[.int .i64 24, .int .u64 a, .int .u64 b, .agg #[.int .i64 x.bits, .bool x.sgn], .agg #[.int .i64 y.bits, .bool y.sgn]] w (GrowsTo (binV (binN 24 a b x y)) w)
  go_enter Tryz.func73, Tryz.ntmps73
  go_wp2_with fail
  generalize (w.alloc (.cells #[.int .i64 x.bits, .bool x.sgn] 72)).alloc (.cells #[.int .i64 y.bits, .bool y.sgn] 72) = w0 at *
  refine (HV1 _).mono ?_
  rintro e w1 ⟨rfl, hb1⟩
  have hT1 := hT0.grow hb1
  have hB1 : Below w.heap.size w w1 := hB0.trans (hb1.mono (by omega))
  have hz1 : w0.heap.size ≤ w1.heap.size := hb1.size
  clear hT0 hb1 hB0
  obtain ⟨c1, c2, c3, c4⟩ := hT1.cells
  go_wp2_with fail
  refine (HV2 _).mono ?_
  rintro e w2 ⟨rfl, hb2⟩
  have hT2 := hT1.grow hb2
  have hB2 : Below w.heap.size w w2 := hB1.trans (hb2.mono (by omega))
  have hz2 : w1.heap.size ≤ w2.heap.size := hb2.size
  clear hT1 hb2 hB1 c1 c2 c3 c4
  obtain ⟨c1, c2, c3, c4⟩ := hT2.cells
  go_wp2_with fail
  refine (HP _).mono ?_
  rintro e w3 ⟨rfl, hb3⟩
  have hT3 := hT2.grow hb3
  have hB3 : Below w.heap.size w w3 := hB2.trans (hb3.mono (by omega))
  have hz3 : w2.heap.size ≤ w3.heap.size := hb3.size
  clear hT2 hb3 hB2 c1 c2 c3 c4
  obtain ⟨Bt, hBt⟩ : ∃ Bt, Bt = w3.heap.size := ⟨_, rfl⟩
  have hS0 : ThreeTys w.heap.size Bt x y t (w3.alloc (.cells #[.int .i64 t.bits, .bool t.sgn] 72)) := by
    rw [hBt]; exact ⟨⟨blk_alloc hT3.1 _, blk_alloc hT3.2 _⟩, box_new w3 t⟩
  have hBo : Below w.heap.size w (w3.alloc (.cells #[.int .i64 t.bits, .bool t.sgn] 72)).drew := (hB3.alloc (by omega) _).drew
  clear hT3 hB3
  go_wp2_with fail
  rw [← hBt]
  generalize w3.alloc (.cells #[.int .i64 t.bits, .bool t.sgn] 72) = wo at *
  clear hBt
  refine wp_region_G (D := []) (S := ThreeTys w.heap.size Bt x y t) Tryz.checked.mixed (by exact hS0) (fun hS => ?_)
  refine wpAnyG_read (i := 0) (v := ?va0) rfl (by kernel_rfl) (by kernel_rfl) (by kernel_rfl) (by kernel_rfl) (by kernel_rfl) ?qa0 ?ga0 ?ya0 hS ?_  -- move t1
  case ya0 => intro w' h; have h1 := h.1.cells; obtain ⟨h2, h3, h4, h5⟩ := h1; have h1 := h.tc; obtain ⟨h6, h7⟩ := h1; go_simp; exact rfl
  case ga0 => rfl
  case qa0 => exact fun _ _ _ h => h
  go_simp
  refine wpAnyG_read (i := 1) (v := ?va1) rfl (by kernel_rfl) (by kernel_rfl) (by kernel_rfl) (by kernel_rfl) (by kernel_rfl) ?qa1 ?ga1 ?ya1 hS ?_  -- load 57 t8
  case ya1 => intro w' h; have h1 := h.1.cells; obtain ⟨h2, h3, h4, h5⟩ := h1; have h1 := h.tc; obtain ⟨h6, h7⟩ := h1; go_simp; exact rfl
  case ga1 => rfl
  case qa1 => exact fun _ _ _ h => h
  go_simp
  refine wpAnyG_read (i := 2) (v := ?va2) rfl (by kernel_rfl) (by kernel_rfl) (by kernel_rfl) (by kernel_rfl) (by kernel_rfl) ?qa2 ?ga2 ?ya2 hS ?_  -- load 57 t15
  case ya2 => intro w' h; have h1 := h.1.cells; obtain ⟨h2, h3, h4, h5⟩ := h1; have h1 := h.tc; obtain ⟨h6, h7⟩ := h1; go_simp; exact rfl
  case ga2 => rfl
  case qa2 => exact fun _ _ _ h => h
  go_simp
  refine wpAnyG_read (i := 4) (v := ?va4) rfl (by kernel_rfl) (by kernel_rfl) (by kernel_rfl) (by kernel_rfl) (by kernel_rfl) ?qa4 ?ga4 ?ya4 hS ?_  -- move t2
  case ya4 => intro w' h; have h1 := h.1.cells; obtain ⟨h2, h3, h4, h5⟩ := h1; have h1 := h.tc; obtain ⟨h6, h7⟩ := h1; go_simp; exact rfl
  case ga4 => rfl
  case qa4 => exact fun _ _ _ h => h
  go_simp
  refine wpAnyG_read (i := 5) (v := ?va5) rfl (by kernel_rfl) (by kernel_rfl) (by kernel_rfl) (by kernel_rfl) (by kernel_rfl) ?qa5 ?ga5 ?ya5 hS ?_  -- load 57 t9
  case ya5 => intro w' h; have h1 := h.1.cells; obtain ⟨h2, h3, h4, h5⟩ := h1; have h1 := h.tc; obtain ⟨h6, h7⟩ := h1; go_simp; exact rfl
  case ga5 => rfl
  case qa5 => exact fun _ _ _ h => h
  go_simp
  refine wpAnyG_read (i := 6) (v := ?va6) rfl (by kernel_rfl) (by kernel_rfl) (by kernel_rfl) (by kernel_rfl) (by kernel_rfl) ?qa6 ?ga6 ?ya6 hS ?_  -- load 57 t15
  case ya6 => intro w' h; have h1 := h.1.cells; obtain ⟨h2, h3, h4, h5⟩ := h1; have h1 := h.tc; obtain ⟨h6, h7⟩ := h1; go_simp; exact rfl
  case ga6 => rfl
  case qa6 => exact fun _ _ _ h => h
  go_simp
  refine wpAnyG_one (i := 3) (by kernel_rfl) rfl rfl (fun K hK => ?_)
  go_wp2_with fail
  refine (HC1 _).mono ?_
  rintro e wa ⟨rfl, hba⟩
  have hSa : ThreeTys w.heap.size Bt x y t wa := ThreeTys.grow hS hba
  have hBa : Below w.heap.size w wa := hBo.trans (hba.mono (by have := hBo.size; omega))
  refine hK _ _ (fun _ => hSa) ?_
  clear hK
  go_simp
  refine wpAnyG_one (i := 7) (by kernel_rfl) rfl rfl (fun K hK => ?_)
  go_wp2_with fail
  refine (HC2 _).mono ?_
  rintro e wb ⟨rfl, hbb⟩
  have hSb : ThreeTys w.heap.size Bt x y t wb := ThreeTys.grow hSa hbb
  have hBb : Below w.heap.size w wb := hBa.trans (hbb.mono (by have := hBa.size; omega))
  refine hK _ _ (fun _ => hSb) ?_
  clear hK
  go_simp
  refine wpAnyG_one (i := 8) (by kernel_rfl) rfl rfl (fun K hK => ?_)
  go_wp2_with fail
  refine hK _ _ (fun _ => hSb) ?_
  clear hK
  go_simp
  refine wpAnyG_one (i := 9) (by kernel_rfl) rfl rfl (fun K hK => ?_)
  go_wp2_with fail
  refine hK _ _ (fun _ => hSb) ?_
  clear hK
  go_simp
  refine wpAnyG_done (by kernel_rfl) ?_ _
  obtain ⟨h6, h7⟩ := hSb.tc
  clear hS hSa hbb hba hBa hS0 
  obtain ⟨h2, h3, h4, h5⟩ := hSb.1.cells
  have HO' := Lib.hid HO
  clear HO
  go_wp2_with fail
  go_ret2
  exact ⟨rt_ii HO'.out rfl |>.trans (by rw [HN.out]; rfl), hBb⟩
end Go.Proofs.YtgmmfjmdpbhjnaaGreat

/- contracts of types.Binary (printed by mkbin.py) -/
namespace Go.Proofs.YtgmmfjmdpbhjnaaGreat
open Go.RowKit

set_option maxHeartbeats 2000000 in
theorem bin_cmp (k : Nat) (hk : 16 ≤ k ∧ k ≤ 21) (a b : Nat) (x y : GTy) (hx : okT x) (hy : okT y) (ha : U64 a) (hb : U64 b) (w : World) :
    Calls Tryz.prog 73 #[.int .i64 k, .int .u64 a, .int .u64 b, tyV x, tyV y] w (GrowsTo (binV (binN k a b x y)) w) := by
  have HV1 := valid_ok x hx
  have HV2 := valid_ok y hy
  have HP := comm_ok x y
  have ht := commT_ok hx hy
  have HC1 := conv_ok a x (commT x y) hx ht ha
  have HC2 := conv_ok b y (commT x y) hy ht hb
  have hp := convN_lt a x (commT x y) ht
  have hq := convN_lt b y (commT x y) ht
  have HO := cmp_ok k (convN a x (commT x y)) (convN b y (commT x y)) (commT x y) hk ht hp hq
  have HN : Hid (binN k a b x y = some (truthN (cmpN k (convN a x (commT x y)) (convN b y (commT x y)) (commT x y)))) := by
    show _ = _
    unfold binN
    rw [if_neg (by omega), if_neg (by omega)]
    simp only []
    rw [if_neg (by omega), if_neg (by omega), if_neg (by omega), if_neg (by omega), if_neg (by omega), if_neg (by omega), if_neg (by omega), if_neg (by omega)]
  clear hx hy ha hb ht
  generalize commT x y = t at *
  generalize convN a x t = p at *
  generalize convN b y t = q at *
  simp only [tyV] at HV1 HV2 HP HC1 HC2
  have hT0 := twoTys_new w x y
  have hB0 := two_below w x y
  have hZ0 : ((w.alloc (.cells #[.int .i64 x.bits, .bool x.sgn] 72)).alloc (.cells #[.int .i64 y.bits, .bool y.sgn] 72)).heap.size = w.heap.size + 1 + 1 := by simp
  show Calls Tryz.prog 73 #[.int .i64 k, .int .u64 a, .int .u64 b, .agg #[.int .i64 x.bits, .bool x.sgn], .agg #[.int .i64 y.bits, .bool y.sgn]] w (GrowsTo (binV (binN k a b x y)) w)
  simp only [tyV] at HO
  have hk' : k = 16 ∨ k = 17 ∨ k = 18 ∨ k = 19 ∨ k = 20 ∨ k = 21 := by omega
  have e1 : decide ((k : Int) < 9) = false := decide_eq_false (by omega)
  have e2 : decide ((24 : Int) < k) = false := decide_eq_false (by omega)
  have e3 : ((k : Int) == 14) = false := t_ne (by omega)
  have e4 : ((k : Int) == 15) = false := t_ne (by omega)
  clear hk
  generalize cmpN k p q t = c at *
  go_enter Tryz.func73, Tryz.ntmps73
  go_wp2_with fail
  generalize (w.alloc (.cells #[.int .i64 x.bits, .bool x.sgn] 72)).alloc (.cells #[.int .i64 y.bits, .bool y.sgn] 72) = w0 at *
  refine (HV1 _).mono ?_
  rintro e w1 ⟨rfl, hb1⟩
  have hT1 := hT0.grow hb1
  have hB1 : Below w.heap.size w w1 := hB0.trans (hb1.mono (by omega))
  have hz1 : w0.heap.size ≤ w1.heap.size := hb1.size
  clear hT0 hb1 hB0
  obtain ⟨c1, c2, c3, c4⟩ := hT1.cells
  go_wp2_with fail
  refine (HV2 _).mono ?_
  rintro e w2 ⟨rfl, hb2⟩
  have hT2 := hT1.grow hb2
  have hB2 : Below w.heap.size w w2 := hB1.trans (hb2.mono (by omega))
  have hz2 : w1.heap.size ≤ w2.heap.size := hb2.size
  clear hT1 hb2 hB1 c1 c2 c3 c4
  obtain ⟨c1, c2, c3, c4⟩ := hT2.cells
  go_wp2_with fail
  refine (HP _).mono ?_
  rintro e w3 ⟨rfl, hb3⟩
  have hT3 := hT2.grow hb3
  have hB3 : Below w.heap.size w w3 := hB2.trans (hb3.mono (by omega))
  have hz3 : w2.heap.size ≤ w3.heap.size := hb3.size
  clear hT2 hb3 hB2 c1 c2 c3 c4
  obtain ⟨Bt, hBt⟩ : ∃ Bt, Bt = w3.heap.size := ⟨_, rfl⟩
  have hS0 : ThreeTys w.heap.size Bt x y t (w3.alloc (.cells #[.int .i64 t.bits, .bool t.sgn] 72)) := by
    rw [hBt]; exact ⟨⟨blk_alloc hT3.1 _, blk_alloc hT3.2 _⟩, box_new w3 t⟩
  have hBo : Below w.heap.size w (w3.alloc (.cells #[.int .i64 t.bits, .bool t.sgn] 72)).drew := (hB3.alloc (by omega) _).drew
  clear hT3 hB3
  go_wp2_with fail
  rw [← hBt]
  generalize w3.alloc (.cells #[.int .i64 t.bits, .bool t.sgn] 72) = wo at *
  clear hBt
  refine wp_region_G (D := []) (S := ThreeTys w.heap.size Bt x y t) Tryz.checked.mixed (by exact hS0) (fun hS => ?_)
  refine wpAnyG_read (i := 0) (v := ?va0) rfl (by kernel_rfl) (by kernel_rfl) (by kernel_rfl) (by kernel_rfl) (by kernel_rfl) ?qa0 ?ga0 ?ya0 hS ?_  -- move t1
  case ya0 => intro w' h; have h1 := h.1.cells; obtain ⟨h2, h3, h4, h5⟩ := h1; have h1 := h.tc; obtain ⟨h6, h7⟩ := h1; go_simp; exact rfl
  case ga0 => rfl
  case qa0 => exact fun _ _ _ h => h
  go_simp
  refine wpAnyG_read (i := 1) (v := ?va1) rfl (by kernel_rfl) (by kernel_rfl) (by kernel_rfl) (by kernel_rfl) (by kernel_rfl) ?qa1 ?ga1 ?ya1 hS ?_  -- load 57 t8
  case ya1 => intro w' h; have h1 := h.1.cells; obtain ⟨h2, h3, h4, h5⟩ := h1; have h1 := h.tc; obtain ⟨h6, h7⟩ := h1; go_simp; exact rfl
  case ga1 => rfl
  case qa1 => exact fun _ _ _ h => h
  go_simp
  refine wpAnyG_read (i := 2) (v := ?va2) rfl (by kernel_rfl) (by kernel_rfl) (by kernel_rfl) (by kernel_rfl) (by kernel_rfl) ?qa2 ?ga2 ?ya2 hS ?_  -- load 57 t15
  case ya2 => intro w' h; have h1 := h.1.cells; obtain ⟨h2, h3, h4, h5⟩ := h1; have h1 := h.tc; obtain ⟨h6, h7⟩ := h1; go_simp; exact rfl
  case ga2 => rfl
  case qa2 => exact fun _ _ _ h => h
  go_simp
  refine wpAnyG_read (i := 4) (v := ?va4) rfl (by kernel_rfl) (by kernel_rfl) (by kernel_rfl) (by kernel_rfl) (by kernel_rfl) ?qa4 ?ga4 ?ya4 hS ?_  -- move t2
  case ya4 => intro w' h; have h1 := h.1.cells; obtain ⟨h2, h3, h4, h5⟩ := h1; have h1 := h.tc; obtain ⟨h6, h7⟩ := h1; go_simp; exact rfl
  case ga4 => rfl
  case qa4 => exact fun _ _ _ h => h
  go_simp
  refine wpAnyG_read (i := 5) (v := ?va5) rfl (by kernel_rfl) (by kernel_rfl) (by kernel_rfl) (by kernel_rfl) (by kernel_rfl) ?qa5 ?ga5 ?ya5 hS ?_  -- load 57 t9
  case ya5 => intro w' h; have h1 := h.1.cells; obtain ⟨h2, h3, h4, h5⟩ := h1; have h1 := h.tc; obtain ⟨h6, h7⟩ := h1; go_simp; exact rfl
  case ga5 => rfl
  case qa5 => exact fun _ _ _ h => h
  go_simp
  refine wpAnyG_read (i := 6) (v := ?va6) rfl (by kernel_rfl) (by kernel_rfl) (by kernel_rfl) (by kernel_rfl) (by kernel_rfl) ?qa6 ?ga6 ?ya6 hS ?_  -- load 57 t15
  case ya6 => intro w' h; have h1 := h.1.cells; obtain ⟨h2, h3, h4, h5⟩ := h1; have h1 := h.tc; obtain ⟨h6, h7⟩ := h1; go_simp; exact rfl
  case ga6 => rfl
  case qa6 => exact fun _ _ _ h => h
  go_simp
  refine wpAnyG_one (i := 3) (by kernel_rfl) rfl rfl (fun K hK => ?_)
  go_wp2_with fail
  refine (HC1 _).mono ?_
  rintro e wa ⟨rfl, hba⟩
  have hSa : ThreeTys w.heap.size Bt x y t wa := ThreeTys.grow hS hba
  have hBa : Below w.heap.size w wa := hBo.trans (hba.mono (by have := hBo.size; omega))
  refine hK _ _ (fun _ => hSa) ?_
  clear hK
  go_simp
  refine wpAnyG_one (i := 7) (by kernel_rfl) rfl rfl (fun K hK => ?_)
  go_wp2_with fail
  refine (HC2 _).mono ?_
  rintro e wb ⟨rfl, hbb⟩
  have hSb : ThreeTys w.heap.size Bt x y t wb := ThreeTys.grow hSa hbb
  have hBb : Below w.heap.size w wb := hBa.trans (hbb.mono (by have := hBa.size; omega))
  refine hK _ _ (fun _ => hSb) ?_
  clear hK
  go_simp
  refine wpAnyG_one (i := 8) (by kernel_rfl) rfl rfl (fun K hK => ?_)
  go_wp2_with fail
  refine hK _ _ (fun _ => hSb) ?_
  clear hK
  go_simp
  refine wpAnyG_one (i := 9) (by kernel_rfl) rfl rfl (fun K hK => ?_)
  go_wp2_with fail
  refine hK _ _ (fun _ => hSb) ?_
  clear hK
  go_simp
  refine wpAnyG_done (by kernel_rfl) ?_ _
  obtain ⟨h6, h7⟩ := hSb.tc
  clear hS hSa hbb hba hBa hS0 
  obtain ⟨h2, h3, h4, h5⟩ := hSb.1.cells
  rcases hk' with rfl | rfl | rfl | rfl | rfl | rfl
  all_goals
    go_wp2_with fail
    refine (HO _).mono ?_
    rintro e w9 ⟨rfl, hb9⟩
    have hB9 := hBb.trans (hb9.mono (by have := hBb.size; omega))
    clear hb9
    go_wp2_with fail
    refine (truth_ok _ _).mono ?_
    rintro e w10 ⟨rfl, rfl⟩
    go_wp2_with fail
    go_ret2
    exact ⟨by rw [HN.out]; rfl, hB9⟩
end Go.Proofs.YtgmmfjmdpbhjnaaGreat

/- contract of types.Binary (printed by mkbin.py) -/
namespace Go.Proofs.YtgmmfjmdpbhjnaaGreat
open Go.RowKit

theorem bin_ok (k a b : Nat) (x y : GTy) (hk : 9 ≤ k ∧ k ≤ 24) (hx : okT x) (hy : okT y) (ha : U64 a) (hb : U64 b) (w : World) :
    Calls Tryz.prog 73 #[.int .i64 k, .int .u64 a, .int .u64 b, tyV x, tyV y] w (GrowsTo (binV (binN k a b x y)) w) := by
  by_cases h : 16 ≤ k ∧ k ≤ 21
  · exact bin_cmp k h a b x y hx hy ha hb w
  · have : k = 9 ∨ k = 10 ∨ k = 11 ∨ k = 12 ∨ k = 13 ∨ k = 14 ∨ k = 15 ∨ k = 22 ∨ k = 23 ∨ k = 24 := by omega
    rcases this with rfl | rfl | rfl | rfl | rfl | rfl | rfl | rfl | rfl | rfl
    · exact bin_mul a b x y hx hy ha hb w
    · exact bin_div a b x y hx hy ha hb w
    · exact bin_rem a b x y hx hy ha hb w
    · exact bin_add a b x y hx hy ha hb w
    · exact bin_sub a b x y hx hy ha hb w
    · exact bin_shl a b x y hx hy ha hb w
    · exact bin_shr a b x y hx hy ha hb w
    · exact bin_and a b x y hx hy ha hb w
    · exact bin_xor a b x y hx hy ha hb w
    · exact bin_or a b x y hx hy ha hb w
end Go.Proofs.YtgmmfjmdpbhjnaaGreat
