/- contract of object.Save -/
import Derived.Test.YtoifodabfpbjlaaWrongA
import Derived.Test.YtoifodabfpbjlaaHeld
import Derived.Lib.AppendStr
import Derived.Lib.SlBytesConst
import Derived.Deep.AppendLies
import Derived.Deep.DeepCutAuto
namespace Go.Proofs.Ytoifodabfpbjlaa
open Go.RowKit

def spotBytes (s : ByteArray × Int) : List UInt8 := UInt8.ofNat s.1.size :: s.1.data.toList ++ bytesOf s.2.toNat 4
def magic : List UInt8 := [80, 76, 49, 54]
def bodyTo (ws us : List Int) (sp : List (ByteArray × Int)) (k : Nat) : List UInt8 :=
  magic ++ listBytes (ws.map Int.toNat) ++ listBytes (us.map Int.toNat) ++ bytesOf sp.length 4 ++ (sp.take k).flatMap spotBytes
def bodyM (ws us : List Int) (sp : List (ByteArray × Int)) : List UInt8 := bodyTo ws us sp sp.length
def saveM (ws us : List Int) (sp : List (ByteArray × Int)) : List UInt8 := bodyM ws us sp ++ bytesOf (Crc.crc (bodyM ws us sp)) 2

theorem bodyTo_succ (ws us : List Int) (sp : List (ByteArray × Int)) (k : Nat) (h : k < sp.length) :
    bodyTo ws us sp (k + 1) = bodyTo ws us sp k ++ spotBytes (sp.getD k (ByteArray.empty, 0)) := by
  unfold bodyTo
  rw [List.take_succ_eq_append_getElem h, List.flatMap_append, List.getD_eq_getElem?_getD, List.getElem?_eq_getElem h]
  simp only [List.append_assoc, List.flatMap_cons, List.flatMap_nil, List.append_nil, Option.getD_some]

theorem bodyTo_length (ws us : List Int) (sp : List (ByteArray × Int)) (k : Nat) (h : k ≤ sp.length) (hs : ∀ s ∈ sp, namedM s.1.data.toList = true ∧ 0 ≤ s.2 ∧ s.2 ≤ 65536) :
    (bodyTo ws us sp k).length ≤ 16 + 2 * ws.length + 2 * us.length + 37 * k := by
  induction k with
  | zero =>
    unfold bodyTo listBytes
    simp only [List.take_zero, List.flatMap_nil, List.append_nil, List.length_append, bytesOf_length]
    rw [listTo_length _ _ (Nat.le_refl _), listTo_length _ _ (Nat.le_refl _)]
    simp [magic]
    omega
  | succ k ih =>
    rw [bodyTo_succ ws us sp k h, List.length_append]
    have h1 := ih (by omega)
    have h2 := hs (sp.getD k (ByteArray.empty, 0)) (by rw [List.getD_eq_getElem?_getD, List.getElem?_eq_getElem h]; exact List.getElem_mem _)
    have h3 : (sp.getD k (ByteArray.empty, 0)).1.size ≤ 32 := by
      have := h2.1
      unfold namedM at this
      have := (of_decide_eq_true this).2.1
      simpa using this
    have h4 : (spotBytes (sp.getD k (ByteArray.empty, 0))).length = 5 + (sp.getD k (ByteArray.empty, 0)).1.size := by
      unfold spotBytes
      simp [bytesOf_length]
      omega
    omega

/-- the bytes of a slice, as they are read -/
def SavePost (ws us : List Int) (sp : List (ByteArray × Int)) (w : World) (e : Ending) (w' : World) : Prop :=
  ∃ v, e = .returned (.tuple #[v, .int .i64 0]) ∧ OwnsBytes w.heap.size w' v (saveM ws us sp) ∧ Below w.heap.size w w'

theorem wrong_zero {ws us : List Int} {sp : List (ByteArray × Int)} (h : wrongM ws us sp = 0) :
    ws.length ≤ 65536 ∧ us.length ≤ 400 ∧ sp.length ≤ 4000 ∧ (∀ x ∈ ws, 0 ≤ x ∧ x ≤ 65535) ∧ (∀ x ∈ us, 0 ≤ x ∧ x ≤ 65535) ∧ ∀ s ∈ sp, namedM s.1.data.toList = true ∧ 0 ≤ s.2 ∧ s.2 ≤ 65536 := by
  unfold wrongM at h
  split at h
  · cases h
  rename_i h1
  split at h
  · rename_i h2
    have h3 := List.all_eq_true.1 h2
    refine ⟨by omega, by omega, by omega, fun x hx => of_decide_eq_true (h3 x (by simp [hx])), fun x hx => of_decide_eq_true (h3 x (by simp [hx])), ?_⟩
    clear h1 h2 h3
    induction sp with
    | nil => intro s hs; cases hs
    | cons a r ih =>
      rw [spotsWrong] at h
      split at h
      · rename_i h4
        intro s hs
        rcases List.mem_cons.1 hs with rfl | hs
        · unfold spotWrong at h4
          split at h4
          · cases h4
          · rename_i h5
            split at h4
            · rename_i h6
              exact ⟨by simpa using h5, h6⟩
            · cases h4
        · exact ih h s hs
      · rename_i h4
        exact absurd h h4
  · cases h

theorem app_magic (base : Nat) (W : World) (h : base ≤ W.heap.size) :
    AppBytes base (W.alloc (.cells #[.int .u8 80, .int .u8 76, .int .u8 49, .int .u8 54] 5 (4, 5))) (.slice (some ⟨W.heap.size, 0, none⟩) 4 4) magic := by
  refine .inr ⟨rfl, W.heap.size, rfl, h, by simp, fun j u hu => ?_⟩
  rw [World.cell?_alloc_mark]
  match j, hu with
  | 0, hu => exact hu
  | 1, hu => exact hu
  | 2, hu => exact hu
  | 3, hu => exact hu
  | j + 4, hu => simp [magic] at hu

theorem zints_nat {zs : List Int} (h : ∀ x ∈ zs, 0 ≤ x ∧ x ≤ 65535) (k : Nat) (hk : k < zs.length) : zints zs k = ints (zs.map Int.toNat) k := by
  unfold zints ints
  congr 1
  rw [List.getD_eq_getElem?_getD, List.getElem?_eq_getElem hk, List.getD_eq_getElem?_getD, List.getElem?_map, List.getElem?_eq_getElem hk]
  simp only [Option.map_some, Option.getD_some]
  have := h _ (List.getElem_mem hk)
  omega

theorem nats_small {zs : List Int} (h : ∀ x ∈ zs, 0 ≤ x ∧ x ≤ 65535) : ∀ z ∈ zs.map Int.toNat, z < 65536 := by
  intro z hz
  obtain ⟨x, hx, rfl⟩ := List.mem_map.1 hz
  have := h x hx
  omega

/-- what two cells of the block B hold -/
def Box2 (B : Nat) (x y : Value) (w : World) : Prop := w.cell? ⟨B, 0, none⟩ = some x ∧ w.cell? ⟨B, 1, none⟩ = some y
theorem Box2.alloc {B : Nat} {x y : Value} {w : World} (h : Box2 B x y w) (o : Obj) : Box2 B x y (w.alloc o) := by
  have hB : B < w.heap.size := World.block_lt_of_cell? w ⟨B, 0, none⟩ h.1
  exact ⟨(World.cell?_alloc_past _ _ _ hB).trans h.1, (World.cell?_alloc_past _ _ _ hB).trans h.2⟩
theorem Box2.drew {B : Nat} {x y : Value} {w : World} (h : Box2 B x y w) : Box2 B x y w.drew := h
theorem Box2.below {B : Nat} {x y : Value} {w w' : World} (h : Box2 B x y w) (hb : Below (B + 1) w w') : Box2 B x y w' :=
  ⟨(hb.cell (p := ⟨B, 0, none⟩) (Nat.lt_succ_self B)).trans h.1, (hb.cell (p := ⟨B, 1, none⟩) (Nat.lt_succ_self B)).trans h.2⟩

theorem Box2.grown {B : Nat} {x y : Value} {w w' : World} {row : Option Nat} (h : Box2 B x y w) (hg : w.grownBy w' row) (hr : some B ≠ row) : Box2 B x y w' :=
  ⟨hg.cell h.1 hr, hg.cell h.2 hr⟩
theorem Box2.new (w : World) (x y : Value) (t : TypeId) : Box2 w.heap.size x y (w.alloc (.cells #[x, y] t)) :=
  ⟨by rw [World.cell?_alloc_at _ _ _ _ rfl]; rfl, by rw [World.cell?_alloc_at _ _ _ _ rfl]; rfl⟩

theorem own_snoc {base : Nat} {w : World} {v : Value} {bs cs : List UInt8} {n : Nat} {us : List Value} (h : w.ownsRow base 5 1 v n (bs.map u8v ++ us)) (hn : n = bs.length + cs.length) (hu : us = cs.map u8v) :
    OwnsBytes base w v (bs ++ cs) := by
  subst hn hu
  unfold OwnsBytes
  rw [List.map_append, List.length_append]
  exact h

theorem OwnsBytes.read {base : Nat} {w : World} {v : Value} {bs : List UInt8} (h : OwnsBytes base w v bs) :
    ∃ a cap, v = .slice a bs.length cap ∧ Cells w a bs.length (u8s bs) ∧ ∀ b o s, a = some ⟨b, o, s⟩ → base ≤ b := by
  obtain ⟨a, cap, hv, hc, hb⟩ := App.read h.app
  refine ⟨a, cap, hv, ?_, hb⟩
  rw [Nat.mul_one] at hc
  refine hc.congr fun k hk => ?_
  unfold u8s u8v
  simp [List.getD, hk]

theorem crc_own {base : Nat} {w : World} {v : Value} {bs : List UInt8} (h : OwnsBytes base w v bs) (hl : bs.length ≤ 1000000000000000) :
    Calls Try.prog 8 #[v] w fun e w' => e = .returned (.int .i64 (Crc.crc bs)) ∧ w = w' := by
  obtain ⟨a, cap, rfl, hc, _⟩ := h.read
  exact crc_any a bs.length cap bs w rfl hl hc

set_option maxHeartbeats 2000000 in
theorem save_ok (aw au as' : Option Addr) (lw cw lu cu ls cs : Nat) (ws us : List Int) (sp : List (ByteArray × Int)) (w : World)
    (hlw : ws.length = lw) (hlu : us.length = lu) (hls : sp.length = ls) (hcw : Cells w aw lw (zints ws)) (hcu : Cells w au lu (zints us)) (hcs : Cells w as' (2 * ls) (spotsV sp))
    (hok : wrongM ws us sp = 0) :
    Calls Try.prog 10 #[.agg #[.slice aw lw cw, .slice au lu cu, .slice as' ls cs]] w (SavePost ws us sp w) := by
  obtain ⟨q1, q2, q3, q4, q5, q6⟩ := wrong_zero hok
  have kc := fun (w : World) (C : Array Value) (n c : Nat) => Lib.run_convert_bytes_const (P := Try.prog) w 22 5 C n c Try.underlying22 Try.underlying5
  have kd : ∀ (w : World) (C : Array Value) (n c : Nat), (convert 22 22 (.slice (some ⟨w.heap.size, 0, none⟩) n c)).run Try.prog (w.alloc (.cells C 5)).drew =
      .ok (.slice (some ⟨w.heap.size, 0, none⟩) n c) (w.alloc (.cells C 5 (C.size, C.size + 1))).drew := fun w C n c => kc w.drew C n c
  have Hw := Lib.hid (fun w h => wrong_any aw au as' lw cw lu cu ls cs ws us sp w hlw hlu hls (Cells.grow hcw h) (Cells.grow hcu h) (Cells.grow hcs h))
  have Hok := Lib.hid hok
  have Hlw := Lib.hid hlw
  have Hlu := Lib.hid hlu
  have Hls := Lib.hid hls
  clear hok hlw hlu hls
  go_enter Try.func10, Try.ntmps10
  go_wp2_with fail
  refine (Hw.out _ ((Below.refl _ _).alloc (Nat.le_refl _) _)).mono ?_
  unfold WrongPost
  rw [Hok.out]
  rintro e w1 ⟨rfl, hb1⟩
  have hz1 : w.heap.size + 1 ≤ w1.heap.size := by have := hb1.size; simp at this; omega
  have c0 : w1.cell? ⟨w.heap.size, 0, none⟩ = some (.slice aw lw cw) := by
    rw [hb1.cell (p := ⟨w.heap.size, 0, none⟩) (by simp), World.cell?_alloc_at _ _ _ _ rfl]; rfl
  have c1 : w1.cell? ⟨w.heap.size, 1, none⟩ = some (.slice au lu cu) := by
    rw [hb1.cell (p := ⟨w.heap.size, 1, none⟩) (by simp), World.cell?_alloc_at _ _ _ _ rfl]; rfl
  have c2 : w1.cell? ⟨w.heap.size, 2, none⟩ = some (.slice as' ls cs) := by
    rw [hb1.cell (p := ⟨w.heap.size, 2, none⟩) (by simp), World.cell?_alloc_at _ _ _ _ rfl]; rfl
  have hbw : Below w.heap.size w w1 := ((Below.refl _ _).alloc (Nat.le_refl _) _).trans (hb1.mono (by simp))
  have Hcw : Hid (∀ w', Below w.heap.size w w' → Cells w' aw lw (ints (ws.map Int.toNat))) := fun w' h =>
    (Cells.grow hcw h).congr (fun k hk => zints_nat q4 k (by rw [Hlw.out]; exact hk))
  have Hcu : Hid (∀ w', Below w.heap.size w w' → Cells w' au lu (ints (us.map Int.toNat))) := fun w' h =>
    (Cells.grow hcu h).congr (fun k hk => zints_nat q5 k (by rw [Hlu.out]; exact hk))
  have hle1 : lw ≤ 65536 := by rw [← Hlw.out]; exact q1
  have hle2 : lu ≤ 400 := by rw [← Hlu.out]; exact q2
  have hle3 : ls ≤ 4000 := by rw [← Hls.out]; exact q3
  go_wp2_with fail
  refine wp_region_held_drew (S := Box2 w.heap.size (.slice aw lw cw) (.slice au lu cu)) Try.checked.mixed ⟨c0, c1⟩ (fun hS => ?_)
  refine wpAnyH_read (i := 2) (v := .pointer (some ⟨w.heap.size, 0, none⟩)) rfl (by kernel_rfl) (by kernel_rfl) (by kernel_rfl) (fun _ _ _ h => h) rfl (fun w' h => ?_) hS ?_
  · go_simp
  go_simp
  refine wpAnyH_read (i := 3) (v := .slice aw lw cw) rfl (by kernel_rfl) (by kernel_rfl) (by kernel_rfl) (fun _ _ _ h => h) rfl (fun w' h => ?_) hS ?_
  · obtain ⟨h1, h2⟩ := h
    go_simp
  go_simp
  refine wpAnyH_read (i := 5) (v := .pointer (some ⟨w.heap.size, 1, none⟩)) rfl (by kernel_rfl) (by kernel_rfl) (by kernel_rfl) (fun _ _ _ h => h) rfl (fun w' h => ?_) hS ?_
  · go_simp
  go_simp
  refine wpAnyH_read (i := 6) (v := .slice au lu cu) rfl (by kernel_rfl) (by kernel_rfl) (by kernel_rfl) (fun _ _ _ h => h) rfl (fun w' h => ?_) hS ?_
  · obtain ⟨h1, h2⟩ := h
    go_simp
  go_simp
  refine wpAnyH_one (i := 0) (by kernel_rfl) rfl rfl (fun K hK => ?_)
  go_wp2_with fail
  refine hK _ _ (hS.alloc _) (fun hS2 => ?_)
  clear hK
  go_simp
  refine wpAnyH_one (i := 1) (by kernel_rfl) rfl rfl (fun K hK => ?_)
  go_wp2_with fail
  refine hK _ _ (hS.alloc _) (fun hS3 => ?_)
  clear hK hS2
  go_simp
  refine wpAnyH_one (i := 4) (by kernel_rfl) rfl rfl (fun K hK => ?_)
  go_wp2_with fail
  refine (list_any (w.heap.size + 1) _ magic aw lw cw (ws.map Int.toNat) _ (app_magic (w.heap.size + 1) w1.drew (by simp; omega)) (by simp [Hlw.out]) hle1 (nats_small q4)
    (Hcw.out _ ((hbw.drew.alloc (by simp; omega) _))) (fun h b o s e => Nat.lt_succ_of_lt (hcw.lt h b o s e)) (by simp; omega) (by simp [magic])).mono ?_
  rintro e w2 ⟨v2, rfl, hown2, hb2⟩
  have hS4 := hS3.below hb2
  have hbw2 := hbw.drew.alloc (by simp; omega) (Obj.cells #[.int .u8 80, .int .u8 76, .int .u8 49, .int .u8 54] 5 (4, 5)) |>.trans (hb2.mono (by omega))
  refine hK _ _ hS4 (fun _ => ?_)
  clear hK hS3
  go_simp
  refine wpAnyH_one (i := 7) (by kernel_rfl) rfl rfl (fun K hK => ?_)
  go_wp2_with fail
  have hz2 := hb2.size
  simp at hz2
  refine (list_any (w.heap.size + 1) _ _ au lu cu (us.map Int.toNat) _ hown2.app (by simp [Hlu.out]) (by omega) (nats_small q5)
    (Hcu.out _ hbw2) (fun h b o s e => Nat.lt_succ_of_lt (hcu.lt h b o s e)) (by omega) (by
      unfold listBytes
      rw [List.length_append, listTo_length _ _ (Nat.le_refl _)]
      simp [magic, Hlw.out]
      omega)).mono ?_
  rintro e w3 ⟨v3, rfl, hown3, hb3⟩
  have hS5 := hS4.below hb3
  have hbw3 := hbw2.trans (hb3.mono (by omega))
  refine hK _ _ hS5 (fun _ => ?_)
  clear hK hS4
  go_simp
  refine wpAnyH_one (i := 8) (by kernel_rfl) rfl rfl (fun K hK => ?_)
  go_wp2_with fail
  refine hK _ _ hS5 (fun _ => ?_)
  clear hK
  go_simp
  refine wpAnyH_done (by kernel_rfl) ?_ _
  have c3 : w3.cell? ⟨w.heap.size, 2, none⟩ = some (.slice as' ls cs) := by
    rw [hb3.cell (p := ⟨w.heap.size, 2, none⟩) (Nat.lt_succ_self _), hb2.cell (p := ⟨w.heap.size, 2, none⟩) (Nat.lt_succ_self _), World.cell?_alloc_past _ _ _ (by simp; omega)]
    exact c2
  have hz3 := hb3.size
  have hsp := Hid.out (p := ∀ w', Below w.heap.size w w' → Cells w' as' (2 * ls) (spotsV sp)) (fun w' h => Cells.grow hcs h)
  have Hsp := Lib.hid hsp
  clear hsp hcs hcw hcu Hcw Hcu Hw kc kd hS5 hbw2 hb2 hb1 hS c0 c1 c2 hown2 hb3 hbw
  have hlen3 : (magic ++ listBytes (ws.map Int.toNat) ++ listBytes (us.map Int.toNat)).length ≤ 140000 := by
    unfold listBytes
    rw [List.length_append, List.length_append, listTo_length _ _ (Nat.le_refl _), listTo_length _ _ (Nat.le_refl _)]
    simp [magic, Hlw.out, Hlu.out]
    omega
  go_wp2_with fail
  refine (number_any (w.heap.size + 1) _ _ ls 4 w3 hown3.app (by omega) (by omega) (by omega) (by omega) (by omega)).mono ?_
  rintro e w4 ⟨v4, rfl, hown4, hb4⟩
  have c4 : w4.cell? ⟨w.heap.size, 2, none⟩ = some (.slice as' ls cs) := by
    rw [hb4.cell (p := ⟨w.heap.size, 2, none⟩) (Nat.lt_succ_self _)]; exact c3
  have hbw4 := hbw3.trans (hb4.mono (by omega))
  clear hown3 hb4 hbw3 c3
  go_wp2_with fail
  have hown5 : OwnsBytes (w.heap.size + 1) w4 v4 (bodyTo ws us sp 0) := by
    unfold bodyTo
    rw [List.take_zero, List.flatMap_nil, List.append_nil, Hls.out]
    exact hown4
  have hz4 : w.heap.size + 1 ≤ w4.heap.size := World.block_lt_of_cell? w4 ⟨w.heap.size, 2, none⟩ c4
  obtain ⟨i0, hi, hz0, hz1', hz2'⟩ := info_parts Try.info5
  clear hown4
  go_loopw [5, 7, 29] (fun v _ i wr => ∃ k : Nat, k ≤ ls ∧ i = .int .i64 k ∧ OwnsBytes (w.heap.size + 1) wr v (bodyTo ws us sp k) ∧ Below w.heap.size w wr ∧ w.heap.size + 1 ≤ wr.heap.size) (fun _ _ i _ => ls - (intOf i).toNat)
  case atStart => exact ⟨0, by omega, rfl, hown5, hbw4, hz4⟩
  case round =>
    obtain ⟨k, hk, rfl, hr1, hr2, hr3⟩ := hrel
    clear hown5 hbw4 hz4 c4
    by_cases hlt : k < ls
    · have hcs3 := Hsp.out _ hr2
      obtain ⟨b, off, rfl, hck⟩ := hcs3.at (k := 2 * k) (by omega)
      have hck2 : wr.cell? ⟨b, off + 2 * k + 1, none⟩ = some (spotsV sp (2 * k + 1)) := by
        obtain ⟨b', off', he, h⟩ := hcs3.at (k := 2 * k + 1) (by omega)
        cases he
        exact h
      have e1 : spotsV sp (2 * k) = .string (sp.getD k (ByteArray.empty, 0)).1 := by
        unfold spotsV; rw [if_pos (by omega)]; congr 3; omega
      have e2 : spotsV sp (2 * k + 1) = .int .i64 (sp.getD k (ByteArray.empty, 0)).2 := by
        unfold spotsV; rw [if_neg (by omega)]; congr 3; omega
      rw [e1, Nat.mul_comm 2 k] at hck
      rw [e2, Nat.mul_comm 2 k] at hck2
      clear e1 e2 hcs3
      have hkl : k < sp.length := by rw [Hls.out]; exact hlt
      have hsucc := Lib.hid (bodyTo_succ ws us sp k hkl)
      have hgood := q6 (sp.getD k (ByteArray.empty, 0)) (by
        rw [List.getD_eq_getElem?_getD, List.getElem?_eq_getElem hkl]; exact List.getElem_mem _)
      have hblen := bodyTo_length ws us sp k (by omega) q6
      clear hkl
      generalize sp.getD k (ByteArray.empty, 0) = s at hck hck2 hsucc hgood
      obtain ⟨nm, pl⟩ := s
      simp only at hck hck2 hgood
      obtain ⟨g1, g2, g3⟩ := hgood
      have g4 : nm.size ≤ 32 := by unfold namedM at g1; have := (of_decide_eq_true g1).2.1; simpa using this
      clear g1
      obtain ⟨p, rfl⟩ := Int.eq_ofNat_of_zero_le g2
      have hb5 : (bodyTo ws us sp k).length ≤ 400000 := by omega
      go_wp2_with fail
      have hS0 := Box2.new wr (.string nm) (.int .i64 p) 45
      refine wp_region_held_drew (S := Box2 wr.heap.size (.string nm) (.int .i64 p)) Try.checked.mixed hS0.drew (fun hS => ?_)
      refine wpAnyH_read (i := 0) (v := u5) rfl (by kernel_rfl) (by kernel_rfl) (by kernel_rfl) (fun _ _ _ h => h) rfl (fun w' h => ?_) hS ?_
      · go_simp
      go_simp
      refine wpAnyH_read (i := 1) (v := .pointer (some ⟨wr.heap.size, 0, none⟩)) rfl (by kernel_rfl) (by kernel_rfl) (by kernel_rfl) (fun _ _ _ h => h) rfl (fun w' h => ?_) hS ?_
      · go_simp
      go_simp
      refine wpAnyH_read (i := 2) (v := .string nm) rfl (by kernel_rfl) (by kernel_rfl) (by kernel_rfl) (fun _ _ _ h => h) rfl (fun w' h => ?_) hS ?_
      · obtain ⟨h1, h2⟩ := h
        go_simp
      go_simp
      refine wpAnyH_read (i := 3) (v := .int .i64 nm.size) rfl (by kernel_rfl) (by kernel_rfl) (by kernel_rfl) (fun _ _ _ h => h) rfl (fun w' h => ?_) hS ?_
      · go_simp
      go_simp
      refine wpAnyH_read (i := 4) (v := .int .u8 nm.size) rfl (by kernel_rfl) (by kernel_rfl) (by kernel_rfl) (fun _ _ _ h => h) rfl (fun w' h => ?_) hS ?_
      · have hw8 : IntKind.u8.wrap (nm.size : Int) = nm.size := IntWalk.u8_in _ (by omega)
        go_simp
      go_simp
      refine wpAnyH_read (i := 7) (v := .pointer (some ⟨wr.heap.size, 0, none⟩)) rfl (by kernel_rfl) (by kernel_rfl) (by kernel_rfl) (fun _ _ _ h => h) rfl (fun w' h => ?_) hS ?_
      · go_simp
      go_simp
      refine wpAnyH_read (i := 8) (v := .string nm) rfl (by kernel_rfl) (by kernel_rfl) (by kernel_rfl) (fun _ _ _ h => h) rfl (fun w' h => ?_) hS ?_
      · obtain ⟨h1, h2⟩ := h
        go_simp
      go_simp
      refine wpAnyH_one (i := 5) (by kernel_rfl) rfl rfl (fun K hK => ?_)
      go_wp2_with fail
      refine hK _ _ (hS.alloc _) (fun hS2 => ?_)
      clear hK
      go_simp
      refine wpAnyH_one (i := 6) (by kernel_rfl) rfl rfl (fun K hK => ?_)
      refine wp_append_lies _ (.tmp 33) (.tmp 38) 22 rfl (w.heap.size + 1) 5 i0 (.int .u8 0) 1 1 Try.underlying22 hi hz0 hz1' hz2' rfl (by decide) _ _ _ rfl (World.ownsRow.alloc (World.ownsRow.alloc hr1 _) _) ⟨wr.heap.size + 1, 0, none⟩ 1 1 [.int .u8 nm.size] rfl rfl ?c1 ?c2 (by decide) ?c3 ?c4 ?c5 (wr.heap.size + 2) ?c6 ?_
      case c1 =>
        have hs1 : (wr.alloc (.cells #[.string nm, .int .i64 p] 45)).heap.size = wr.heap.size + 1 := by simp
        have := cell_one_new (wr.alloc (.cells #[.string nm, .int .i64 p] 45)) (.int .u8 nm.size) 5
        rw [hs1] at this
        exact this
      case c2 => intro u hu; simp at hu; subst hu; rfl
      case c3 => unfold maxLen; omega
      case c4 => omega
      case c5 => simp; omega
      case c6 => simp
      intro g5 cap5 w5 hown6 hgr6 hg5 _
      have hne : ∀ k, Value.ownBlock u5 = some k → k < wr.heap.size := fun k h => (World.ownsRow.lt hr1 k h).2
      have hlo : ∀ k, Value.ownBlock u5 = some k → w.heap.size + 1 ≤ k := fun k h => (World.ownsRow.lt hr1 k h).1
      have hS3 := hS2.grown hgr6 (fun h => by have := hne _ h.symm; omega)
      have hown7 : OwnsBytes (w.heap.size + 1) w5 (Value.slice (some ⟨g5, 0, none⟩) ((bodyTo ws us sp k).length + 1) cap5) (bodyTo ws us sp k ++ [UInt8.ofNat nm.size]) :=
        own_snoc hown6 (by simp) (by simp [u8v, UInt8.toNat_ofNat']; omega)
      have hbw5 : Below w.heap.size w w5 := ((hr2.alloc (by omega) _).alloc (by simp; omega) _).drew.grown hgr6 (by simp; omega) (fun k h => by have := hlo k h; omega)
      have hz5 : wr.heap.size + 2 ≤ w5.heap.size := by have := hgr6.size; simpa using this
      have hlo5 := World.ownsRow.lt hown7
      have hn5 : some wr.heap.size ≠ (Value.slice (some ⟨g5, 0, none⟩) ((bodyTo ws us sp k).length + 1) cap5).ownBlock := by
        intro h
        simp [Value.ownBlock] at h
        subst h
        rcases hg5 with h | h
        · have := hne _ h; omega
        · omega
      generalize Value.slice (some ⟨g5, 0, none⟩) ((bodyTo ws us sp k).length + 1) cap5 = v5 at *
      refine hK _ _ hS3 (fun _ => ?_)
      clear hK hS2 hown6 hgr6 hS hS0
      go_simp
      refine wpAnyH_one (i := 9) (by kernel_rfl) rfl rfl (fun K hK => ?_)
      refine wp_append_own_string (.tmp 39) (.tmp 41) 22 9 rfl (w.heap.size + 1) 5 i0 Try.underlying22 Try.underlying9 hi hz0 hz1' hz2' _ _ _ rfl hown7 nm rfl ?d3 ?d4 ?d5 ?_
      case d3 => unfold maxLen; simp; omega
      case d4 => simp; omega
      case d5 => omega
      intro v6 w6 hown8 hgr8
      have hS4 := hS3.grown hgr8 hn5
      have hown9 : OwnsBytes (w.heap.size + 1) w6 v6 ((bodyTo ws us sp k ++ [UInt8.ofNat nm.size]) ++ nm.data.toList) :=
        own_snoc hown8 (by simp) (by simp [Lib.strCells, u8v])
      have hbw6 : Below w.heap.size w w6 := hbw5.grown hgr8 (by omega) (fun k h => by have := (hlo5 k h).1; omega)
      have hz6 := hgr8.size
      refine hK _ _ hS4 (fun _ => ?_)
      clear hK hS3 hown7 hown8 hgr8
      go_simp
      refine wpAnyH_one (i := 10) (by kernel_rfl) rfl rfl (fun K hK => ?_)
      go_wp2_with fail
      refine hK _ _ hS4 (fun _ => ?_)
      clear hK
      go_simp
      refine wpAnyH_done (by kernel_rfl) ?_ _
      obtain ⟨hc0, hc1⟩ := hS4
      have hbl6 : ((bodyTo ws us sp k ++ [UInt8.ofNat nm.size]) ++ nm.data.toList).length ≤ 400100 := by simp; omega
      go_wp2_with fail
      refine (number_any (w.heap.size + 1) _ _ p 4 w6 hown9.app (by omega) (by omega) (by omega) (by omega) (by omega)).mono ?_
      rintro e w7 ⟨v7, rfl, hown10, hb7⟩
      have hown11 : OwnsBytes (w.heap.size + 1) w7 v7 (bodyTo ws us sp (k + 1)) := by
        rw [hsucc.out]
        unfold spotBytes
        simpa using hown10
      have hbw7 := hbw6.trans (hb7.mono (by omega))
      have hz7 := hb7.size
      clear hown10 hown9 hb7 hc0 hc1 hbw6 hbw5 hck hck2
      go_wp2_with fail
      go_roundw
      case rel => exact ⟨k + 1, by omega, by go_num, hown11, hbw7, by omega⟩
      case measure => simp [intOf]; omega
    · obtain rfl : k = ls := by omega
      have hbody : bodyTo ws us sp k = bodyM ws us sp := by unfold bodyM; rw [Hls.out]
      have Hbody := Lib.hid hbody
      have hblen := bodyTo_length ws us sp k (by rw [Hls.out]; omega) q6
      have hb5 : (bodyTo ws us sp k).length ≤ 400000 := by omega
      clear hbody
      go_wp2_with fail
      refine (crc_own hr1 (by omega)).mono ?_
      rintro e w8 ⟨rfl, rfl⟩
      have hcrc := Crc.crc_lt (bodyTo ws us sp k)
      go_wp2_with fail
      refine (number_any (w.heap.size + 1) _ _ _ 2 wr hr1.app (by omega) (by omega) (by omega) (by omega) (by omega)).mono ?_
      rintro e w9 ⟨v9, rfl, hown12, hb9⟩
      go_wp2_with fail
      go_ret2
      refine ⟨v9, rfl, ?_, hr2.trans (hb9.mono (by omega))⟩
      unfold saveM
      rw [← Hbody.out]
      exact ownsRow_base hown12 (by omega)
def SaveErr (n : Nat) (w : World) (e : Ending) (w' : World) : Prop :=
  e = .returned (.tuple #[.slice none 0 0, .int .i64 n]) ∧ Below w.heap.size w w'

set_option maxHeartbeats 400000 in
theorem save_err (aw au as' : Option Addr) (lw cw lu cu ls cs : Nat) (ws us : List Int) (sp : List (ByteArray × Int)) (w : World)
    (hlw : ws.length = lw) (hlu : us.length = lu) (hls : sp.length = ls) (hcw : Cells w aw lw (zints ws)) (hcu : Cells w au lu (zints us)) (hcs : Cells w as' (2 * ls) (spotsV sp))
    (hok : wrongM ws us sp ≠ 0) :
    Calls Try.prog 10 #[.agg #[.slice aw lw cw, .slice au lu cu, .slice as' ls cs]] w (SaveErr (wrongM ws us sp) w) := by
  have hw' : ∀ w1, Below w.heap.size w w1 → Hid (Calls Try.prog 16 #[.agg #[.slice aw lw cw, .slice au lu cu, .slice as' ls cs]] w1 fun e w' => e = .returned (.int .i64 (wrongM ws us sp : Nat)) ∧ Below w1.heap.size w1 w') :=
    fun w h => wrong_any aw au as' lw cw lu cu ls cs ws us sp w hlw hlu hls (Cells.grow hcw h) (Cells.grow hcu h) (Cells.grow hcs h)
  clear hlw hlu hls
  generalize wrongM ws us sp = n at *
  have f1 : ((n : Int) == 0) = false := t_ne (by omega)
  go_enter Try.func10, Try.ntmps10
  go_wp2_with fail
  refine (hw' _ ((Below.refl _ _).alloc (Nat.le_refl _) _)).out.mono ?_
  rintro e w1 ⟨rfl, hb1⟩
  go_wp2_with fail
  go_ret2
  exact ⟨rfl, ((Below.refl _ _).alloc (Nat.le_refl _) _).trans (hb1.mono (by simp))⟩

end Go.Proofs.Ytoifodabfpbjlaa
