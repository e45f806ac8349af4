/- contract of the document's Load: its early ways -/
import Derived.Test.YtoifodabfpbjlaaRefLoP
import Derived.Test.YtoifodabfpbjlaaRefSav
import Derived.Test.YtoifodabfpbjlaaLoadB
namespace Go.Proofs.Ytoifodabfpbjlaa
open Go.RowKit

set_option maxHeartbeats 400000 in
theorem refload_early (a : Option Addr) (len cap : Nat) (bs : List UInt8) (w : World) (hlen : bs.length = len) (hbad : 400000 < len ∨ len < 6) :
    Calls Try.prog 14 #[.slice a len cap] w (LoadPost (loadM bs) w) := by
  by_cases h1 : 400000 < len
  · have hr : loadM bs = (4, emptyImg) := by unfold loadM; rw [if_pos (by omega)]
    rw [hr]
    clear hr hlen hbad
    have f1 : decide ((400000 : Int) < len) = true := decide_eq_true (by omega)
    go_enter Try.func14, Try.ntmps14
    go_wp2_with fail
    exact bodyPost_ret (v := .tuple #[.agg #[.slice none 0 0, .slice none 0 0, .slice none 0 0], .int .i64 4]) (by simp [results, Try.results14, go_sem]) rfl (LoadPost.err ((Below.refl _ _).alloc (Nat.le_refl _) _))
  · have hr : loadM bs = (2, emptyImg) := by unfold loadM; rw [if_neg (by omega), if_pos (.inl (by omega))]
    rw [hr]
    have h2 : len < 6 := by omega
    clear hr hlen hbad
    have f1 : decide ((400000 : Int) < len) = false := decide_eq_false (by omega)
    have f2 : decide ((len : Int) < 6) = true := decide_eq_true (by omega)
    go_enter Try.func14, Try.ntmps14
    go_wp2_with fail
    exact bodyPost_ret (v := .tuple #[.agg #[.slice none 0 0, .slice none 0 0, .slice none 0 0], .int .i64 2]) (by simp [results, Try.results14, go_sem]) rfl (LoadPost.err ((Below.refl _ _).alloc (Nat.le_refl _) _))

set_option maxHeartbeats 400000 in
theorem refload_magic (b off : Nat) (len cap : Nat) (bs : List UInt8) (w : World) (hlen : bs.length = len) (hl : len ≤ 400000) (hl6 : 6 ≤ len) (hcap : len ≤ cap) (hc : Cells w (some ⟨b, off, none⟩) len (u8s bs))
    (hbad : bs.take 4 ≠ magic) :
    Calls Try.prog 14 #[.slice (some ⟨b, off, none⟩) len cap] w (LoadPost (loadM bs) w) := by
  have hr : loadM bs = (2, emptyImg) := by unfold loadM; rw [if_neg (by omega), if_pos (.inr hbad)]
  rw [hr]
  have hc4 : Cells (w.alloc (.cells #[.slice none 0 0, .slice none 0 0, .slice none 0 0] 29)) (some ⟨b, off, none⟩) 4 (u8s (bs.take 4)) :=
    Cells.take ((Cells.grow hc ((Below.refl _ _).alloc (Nat.le_refl _) _)) |> fun h => by rw [hlen]; exact h) (by omega)
  have hcv := conv_str (cap := cap) hc4 (by simp; omega)
  have f3 : (bs.take 4 == [80, 76, 49, 54]) = false := by simpa [magic] using hbad
  clear hr hlen hc4 hbad
  have f1 : decide ((400000 : Int) < len) = false := decide_eq_false (by omega)
  have f2 : decide ((len : Int) < 6) = false := decide_eq_false (by omega)
  go_enter Try.func14, Try.ntmps14
  go_wp2_with fail
  exact bodyPost_ret (v := .tuple #[.agg #[.slice none 0 0, .slice none 0 0, .slice none 0 0], .int .i64 2]) (by simp [results, Try.results14, go_sem]) rfl (LoadPost.err ((Below.refl _ _).alloc (Nat.le_refl _) _))

set_option maxHeartbeats 1000000 in
theorem refload_sum (b off : Nat) (len cap : Nat) (bs : List UInt8) (w : World) (hlen : bs.length = len) (hl : len ≤ 400000) (hl6 : 6 ≤ len) (hcap : len ≤ cap) (hc : Cells w (some ⟨b, off, none⟩) len (u8s bs))
    (hmag : bs.take 4 = magic) (hbad : Crc.crc (bs.take (bs.length - 2)) ≠ readM (bs.drop (bs.length - 2))) :
    Calls Try.prog 14 #[.slice (some ⟨b, off, none⟩) len cap] w (LoadPost (loadM bs) w) := by
  have hr : loadM bs = (8, emptyImg) := by unfold loadM; rw [if_neg (by omega), if_neg (by rintro (h | h); omega; exact h hmag), if_pos hbad]
  rw [hr]
  clear hr
  have hc1 : Cells (w.alloc (.cells #[.slice none 0 0, .slice none 0 0, .slice none 0 0] 29)) (some ⟨b, off, none⟩) bs.length (u8s bs) :=
    (Cells.grow hc ((Below.refl _ _).alloc (Nat.le_refl _) _)) |> fun h => by rw [hlen]; exact h
  have hcv := conv_str (cap := cap) (hc1.take (n := 4) (by omega)) (by simp; omega)
  rw [hmag] at hcv
  have f1 : decide ((400000 : Int) < len) = false := decide_eq_false (by omega)
  have f2 : decide ((len : Int) < 6) = false := decide_eq_false (by omega)
  have f3 : (magic == [80, 76, 49, 54]) = true := rfl
  have Hlen := Lib.hid hlen
  clear hlen
  have Q1 := Lib.hid (fun (_ : Unit) => refcrc_any (some ⟨b, off, none⟩) (len - 2) cap (bs.take (len - 2)) (w.alloc (.cells #[.slice none 0 0, .slice none 0 0, .slice none 0 0] 29)).drew (by simp [Hlen.out]) (by omega) (hc1.take (n := len - 2) (by rw [Hlen.out]; omega)))
  have Q2 := Lib.hid (fun (_ : Unit) => refnumber_in (some ⟨b, off, none⟩) len cap (len - 2) 2 bs (w.alloc (.cells #[.slice none 0 0, .slice none 0 0, .slice none 0 0] 29)).drew Hlen.out (by omega) hcap (by omega) (by omega) (by omega) (by have h := hc1; rw [Hlen.out] at h; exact h))
  have ed : (bs.drop (len - 2)).take 2 = bs.drop (len - 2) := List.take_of_length_le (by simp [Hlen.out]; omega)
  rw [ed] at Q2
  rw [Hlen.out] at hbad
  have f6 : ((readM (bs.drop (len - 2)) : Int) == (Crc.crc (bs.take (len - 2)) : Int)) = false := t_ne (by omega)
  clear hbad ed
  generalize Crc.crc (bs.take (len - 2)) = x at *
  generalize readM (bs.drop (len - 2)) = y at *
  have ec : ((len - 2 : Nat) : Int) = (len : Int) - 2 := by omega
  rw [ec] at Q2
  have hw1 : IntKind.i64.wrap ((len : Int) - 2) = (len : Int) - 2 := IntWalk.i64_in _ (by omega)
  have hw2 : (2 : Int) ≤ (len : Int) := by omega
  have hw3 : (len : Int) - 2 ≤ (cap : Int) := by omega
  have hw4 : ((len : Int) - 2).toNat = len - 2 := by omega
  clear ec
  go_enter Try.func14, Try.ntmps14
  go_wp2_with fail
  have hs0 : (w.alloc (.cells #[.slice none 0 0, .slice none 0 0, .slice none 0 0] 29)).heap.size = w.heap.size + 1 := by simp
  have hbl0 : Below w.heap.size w (w.alloc (.cells #[.slice none 0 0, .slice none 0 0, .slice none 0 0] 29)) := (Below.refl _ _).alloc (Nat.le_refl _) _
  have hres0 := blk_new w (.cells #[.slice none 0 0, .slice none 0 0, .slice none 0 0] 29)
  generalize w.alloc (.cells #[.slice none 0 0, .slice none 0 0, .slice none 0 0] 29) = w0 at *
  refine wp_region_held_drew (S := fun _ => True) Try.checked.mixed trivial (fun hS => ?_)
  refine wpAnyH_read (i := 0) (v := ?v0) rfl (by kernel_rfl) (by kernel_rfl) (by kernel_rfl) ?q0 rfl ?y0 hS ?_
  case y0 => intro w' _; go_simp; exact rfl
  case q0 => exact fun _ _ _ h => h
  go_simp
  refine wpAnyH_read (i := 1) (v := ?v1) rfl (by kernel_rfl) (by kernel_rfl) (by kernel_rfl) ?q1 rfl ?y1 hS ?_
  case y1 => intro w' _; go_simp; exact rfl
  case q1 => exact fun _ _ _ h => h
  go_simp
  refine wpAnyH_read (i := 2) (v := ?v2) rfl (by kernel_rfl) (by kernel_rfl) (by kernel_rfl) ?q2 rfl ?y2 hS ?_
  case y2 => intro w' _; go_simp; exact rfl
  case q2 => exact fun _ _ _ h => h
  go_simp
  refine wpAnyH_read (i := 3) (v := ?v3) rfl (by kernel_rfl) (by kernel_rfl) (by kernel_rfl) ?q3 rfl ?y3 hS ?_
  case y3 => intro w' _; go_simp; exact rfl
  case q3 => exact fun _ _ _ h => h
  go_simp
  refine wpAnyH_read (i := 5) (v := ?v5) rfl (by kernel_rfl) (by kernel_rfl) (by kernel_rfl) ?q5 rfl ?y5 hS ?_
  case y5 => intro w' _; go_simp; exact rfl
  case q5 => exact fun _ _ _ h => h
  go_simp
  refine wpAnyH_read (i := 6) (v := ?v6) rfl (by kernel_rfl) (by kernel_rfl) (by kernel_rfl) ?q6 rfl ?y6 hS ?_
  case y6 => intro w' _; go_simp; exact rfl
  case q6 => exact fun _ _ _ h => h
  go_simp
  refine wpAnyH_read (i := 7) (v := ?v7) rfl (by kernel_rfl) (by kernel_rfl) (by kernel_rfl) ?q7 rfl ?y7 hS ?_
  case y7 => intro w' _; go_simp; exact rfl
  case q7 => exact fun _ _ _ h => h
  go_simp
  refine wpAnyH_read (i := 8) (v := ?v8) rfl (by kernel_rfl) (by kernel_rfl) (by kernel_rfl) ?q8 rfl ?y8 hS ?_
  case y8 => intro w' _; go_simp; exact rfl
  case q8 => exact fun _ _ _ h => h
  go_simp
  refine wpAnyH_read (i := 9) (v := ?v9) rfl (by kernel_rfl) (by kernel_rfl) (by kernel_rfl) ?q9 rfl ?y9 hS ?_
  case y9 => intro w' _; go_simp; exact rfl
  case q9 => exact fun _ _ _ h => h
  go_simp
  refine wpAnyH_one (i := 4) (by kernel_rfl) rfl rfl (fun K hK => ?_)
  go_wp2_with fail
  refine (Q2.out ()).mono ?_
  rintro e w1 ⟨rfl, rfl⟩
  refine hK _ _ trivial (fun _ => ?_)
  clear hK
  go_simp
  refine wpAnyH_one (i := 10) (by kernel_rfl) rfl rfl (fun K hK => ?_)
  go_wp2_with fail
  refine (Q1.out ()).mono ?_
  rintro e w1 ⟨rfl, hb1⟩
  refine hK _ _ trivial (fun _ => ?_)
  clear hK
  go_simp
  refine wpAnyH_read (i := 11) (v := ?v11) rfl (by kernel_rfl) (by kernel_rfl) (by kernel_rfl) ?q11 rfl ?y11 hS ?_
  case y11 => intro w' _; go_simp; exact rfl
  case q11 => exact fun _ _ _ h => h
  go_simp
  refine wpAnyH_done (by kernel_rfl) ?_ _
  have hres1 := blk_grown (w := w0.drew) hres0 (Below.grownNone hb1) (by simp)
  have hbl1 : Below w.heap.size w w1 := hbl0.drew.trans (hb1.mono (by show _ ≤ w0.heap.size; omega))
  clear hb1 hres0 hbl0
  have f7 : ((y : Int) != (x : Int)) = true := by simp only [bne, f6, Bool.not_false]
  have r0 : w1.cell? ⟨w.heap.size, 0, none⟩ = some (.slice none 0 0) := blk_cell hres1 0
  have r1 : w1.cell? ⟨w.heap.size, 1, none⟩ = some (.slice none 0 0) := blk_cell hres1 1
  have r2 : w1.cell? ⟨w.heap.size, 2, none⟩ = some (.slice none 0 0) := blk_cell hres1 2
  have z0 := blk_frozen hres1 0
  have z1 := blk_frozen hres1 1
  have z2 := blk_frozen hres1 2
  have Hbel : Hid (Below w.heap.size w (((w1.setCell ⟨w.heap.size, 0, none⟩ (.slice none 0 0)).setCell ⟨w.heap.size, 1, none⟩ (.slice none 0 0)).setCell ⟨w.heap.size, 2, none⟩ (.slice none 0 0))) :=
    ((hbl1.setCell (Nat.le_refl _) _).setCell (Nat.le_refl _) _).setCell (Nat.le_refl _) _
  clear hres1 hcv hc1 Q1 Q2 hs0
  go_wp2_with fail
  exact bodyPost_ret (v := .tuple #[.agg #[.slice none 0 0, .slice none 0 0, .slice none 0 0], .int .i64 8]) (by simp [results, Try.results14, go_sem, *]) rfl (LoadPost.err Hbel.out)
end Go.Proofs.Ytoifodabfpbjlaa
