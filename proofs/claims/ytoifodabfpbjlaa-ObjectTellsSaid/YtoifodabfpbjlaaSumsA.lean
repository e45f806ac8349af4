/- contract of pairlegallaw17.ObjectSums -/
import Derived.Test.YtoifodabfpbjlaaAliveA
namespace Go.Proofs.Ytoifodabfpbjlaa
open Go.RowKit

theorem wpList_of_wp {P : Program} {w : World} {ops : Array Oper} {rest : List Oper} {o : Oper} {a : Act} {Q : Exit → Act → World → Prop}
    (hw : Region.wanted o (yielded ops a.tmps) = true) (h : o.wp P a w (wpList P ops Q rest) Q) : wpList P ops Q (o :: rest) a w := by
  unfold wpList
  rw [if_pos hw]
  exact .inl h

set_option maxHeartbeats 1000000 in
set_option maxRecDepth 100000 in
theorem sums_some (ad : Addr) (len cap : Nat) (bs : List UInt8) (w : World) (hlen : bs.length = len) (hl : len ≤ 140737488351232) (hc : Cells w (some ad) len (u8s bs)) :
    Calls Try.prog 3 #[.slice (some ad) len cap] w (Grows w true) := by
  have Hc := Lib.hid (fun w' (h : Below w.heap.size w w') => crc_any (some ad) len cap bs w' hlen (by omega) (Cells.grow hc h))
  have hr := Crc.crc_lt bs
  have Hown := Lib.hid (Crc.crc_own bs)
  obtain ⟨i0, hi, hz0, hz1, hz2⟩ := info_parts Try.info5
  go_enter Try.func3, Try.ntmps3
  go_wp2_with fail
  refine (alive_any w).mono ?_
  rintro e w1 ⟨rfl, hb1⟩
  go_wp2_with fail
  refine (Hc.out _ hb1).mono ?_
  rintro e w2 ⟨rfl, rfl⟩
  generalize Crc.crc bs = r at *
  have Hlen := Lib.hid hlen
  clear hlen
  have f2 : decide ((r : Int) < 65536) = true := decide_eq_true (by omega)
  have hsz1 := hb1.size
  go_wp2_with (at_builtin; refine wpList_of_wp rfl ?_; refine wp_append_own _ (.tmp 15) (.tmp 16) 22 rfl w1.heap.size 5 i0 (.int .u8 0) 1 1 Try.underlying22 hi hz0 hz1 hz2 rfl (by decide) _ _ _ rfl (World.ownsRow_made w1 #[] 0 (Nat.le_refl _) (by decide) rfl) ad len cap (bs.map u8v) rfl ?c1 ?c2 ?c3 ?c4 ?c5 ?c6 ?_)
  case c1 => simp [Hlen.out]
  case c2 =>
    intro j u hu
    have hj : j < bs.length := by
      have := (List.getElem?_eq_some_iff.1 hu).1
      simpa using this
    have hlt0 : j < len := by rw [← Hlen.out]; exact hj
    obtain ⟨b, off, he, hcell⟩ := (Cells.grow hc (hb1.alloc hsz1 (.cells #[] 5))).at hlt0
    cases he
    have hadd : (⟨b, off, none⟩ : Addr).add j = ⟨b, off + j, none⟩ := by unfold Addr.add; split <;> simp_all
    rw [hadd, hcell, ← hu]
    simp [u8s, u8v, List.getD, hj]
  case c3 => intro u hu; obtain ⟨x, _, rfl⟩ := List.mem_map.1 hu; rfl
  case c4 => unfold maxLen; omega
  case c5 => omega
  case c6 => simp
  intro v2 w2 hown2 hgr2 _
  have hown3 : OwnsBytes w1.heap.size w2 v2 bs := by
    unfold OwnsBytes
    rw [Hlen.out]
    simpa using hown2
  have hb2 : Below w1.heap.size w1 w2 := ((Below.refl _ _).alloc (Nat.le_refl _) _).grown hgr2 (by simp) (fun k h => by simp [Value.ownBlock] at h; omega)
  have hsz2 := hb2.size
  clear hown2 hgr2
  go_wp2_with (at_builtin; refine wpList_of_wp rfl ?_; refine wp_append_own _ (.tmp 17) (.tmp 24) 22 rfl w1.heap.size 5 i0 (.int .u8 0) 1 1 Try.underlying22 hi hz0 hz1 hz2 rfl (by decide) _ _ _ rfl (World.ownsRow.alloc hown3 _) ⟨w2.heap.size, 0, none⟩ 2 2 [.int .u8 ((r : Int) / 256), .int .u8 ((r : Int) % 256)] rfl rfl ?d2 ?d3 ?d4 ?d5 ?d6 ?_)
  case d2 =>
    intro j u hu
    have hadd : (⟨w2.heap.size, 0, none⟩ : Addr).add j = ⟨w2.heap.size, j, none⟩ := by unfold Addr.add; split <;> simp_all
    rw [hadd, World.cell?_alloc_at _ _ _ _ rfl]
    match j, hu with
    | 0, hu => exact hu
    | 1, hu => exact hu
  case d3 => intro u hu; simp at hu; rcases hu with rfl | rfl <;> rfl
  case d4 => unfold maxLen; rw [Hlen.out]; omega
  case d5 => rw [Hlen.out]; omega
  case d6 => simp; omega
  intro v3 w3 hown4 hgr3 _
  have hown5 : OwnsBytes w1.heap.size w3 v3 (bs ++ [UInt8.ofNat (r / 256), UInt8.ofNat (r % 256)]) :=
    own_snoc hown4 (by simp) (by simp [u8v, UInt8.toNat_ofNat']; omega)
  have hb3 : Below w1.heap.size w1 w3 := (hb2.alloc hsz2 _).grown hgr3 (by simp; omega) (fun k h => (World.ownsRow.lt hown3 k h).1)
  clear hown4 hgr3
  have hcrc := crc_own hown5 (by rw [List.length_append, Hlen.out]; simp; omega)
  rw [Hown.out] at hcrc
  go_wp2_with fail
  refine hcrc.mono ?_
  rintro e w4 ⟨rfl, rfl⟩
  go_wp2_with fail
  go_ret
  exact ⟨rfl, hb1.trans (hb3.mono hsz1)⟩

theorem wp_append_own_none {P : Program} {w : World} {o : Oper} {a : Act} {K : Act → World → Prop} {Q : Exit → Act → World → Prop} (s x : Operand) (t : TypeId)
    (ho : o.op = .call { callee := .builtin .append, args := #[s, x], argTypes := #[t, t] })
    (base : Nat) (e : TypeId) (i : TypeInfo) (size : Nat) (ht : P.underlying t = some (.slice e)) (hi : P.info? e = some i)
    (v : Value) (n : Nat) (xs : List Value) (hs : a.eval s = v) (hown : w.ownsRow base e size v n xs) (hx : a.eval x = .slice none 0 0)
    (h : K (a.put o.dst v) w) : o.wp P a w K Q := by
  have hrun := run_append_owned_none (P := P) (w := w) base t o.type e i size ht hi v n xs hown
  unfold Oper.wp
  simp [execOp, ho, resolve, invoke, builtin, hs, hx, hrun, Result.andThen]
  exact h

theorem crc_nil : Crc.crc [] = 65535 := rfl

set_option maxHeartbeats 1000000 in
theorem sums_nil (w : World) : Calls Try.prog 3 #[.slice none 0 0] w (Grows w true) := by
  have Hc := Lib.hid (fun w' => crc_any none 0 0 [] w' rfl (by omega) (.inl rfl))
  rw [crc_nil] at Hc
  have Hown := Lib.hid (Crc.crc_own [])
  rw [crc_nil] at Hown
  obtain ⟨i0, hi, hz0, hz1, hz2⟩ := info_parts Try.info5
  go_enter Try.func3, Try.ntmps3
  go_wp2_with fail
  refine (alive_any w).mono ?_
  rintro e w1 ⟨rfl, hb1⟩
  go_wp2_with fail
  refine (Hc.out w1).mono ?_
  rintro e w2 ⟨rfl, rfl⟩
  have hsz1 := hb1.size
  have hown0 : (w1.alloc (.cells #[] 5)).ownsRow w1.heap.size 5 1 (.slice (some ⟨w1.heap.size, 0, none⟩) 0 0) 0 [] := World.ownsRow_made w1 #[] 0 (Nat.le_refl _) (by decide) rfl
  go_wp2_with (first | (at_builtin; refine wpList_of_wp rfl ?_; refine wp_append_own_none (.tmp 15) (.tmp 16) 22 rfl w1.heap.size 5 i0 1 Try.underlying22 hi _ _ _ rfl hown0 rfl ?_) | (at_builtin; refine wpList_of_wp rfl ?_; refine wp_append_own _ (.tmp 17) (.tmp 24) 22 rfl w1.heap.size 5 i0 (.int .u8 0) 1 1 Try.underlying22 hi hz0 hz1 hz2 rfl (by decide) _ _ _ rfl (World.ownsRow.alloc hown0 _) ⟨w1.heap.size + 1, 0, none⟩ 2 2 [.int .u8 255, .int .u8 255] rfl rfl ?d2 ?d3 ?d4 ?d5 ?d6 ?_))
  case d2 =>
    intro j u hu
    have hs : (w1.alloc (.cells #[] 5)).heap.size = w1.heap.size + 1 := by simp
    have hadd : (⟨w1.heap.size + 1, 0, none⟩ : Addr).add j = ⟨w1.heap.size + 1, j, none⟩ := by unfold Addr.add; split <;> simp_all
    rw [hadd, World.cell?_alloc_at _ _ _ _ hs.symm]
    match j, hu with
    | 0, hu => exact hu
    | 1, hu => exact hu
  case d3 => intro u hu; simp at hu; subst hu; rfl
  case d4 => decide
  case d5 => decide
  case d6 => simp; omega
  intro v3 w3 hown4 hgr3 _
  have hown5 : OwnsBytes w1.heap.size w3 v3 ([] ++ [UInt8.ofNat (65535 / 256), UInt8.ofNat (65535 % 256)]) :=
    own_snoc (bs := []) hown4 (by simp) rfl
  have hb3 : Below w1.heap.size w1 w3 := (((Below.refl _ _).alloc (Nat.le_refl _) _).alloc (by simp) _).grown hgr3 (by simp; omega) (fun k h => (World.ownsRow.lt hown0 k h).1)
  clear hown4 hgr3
  have hcrc := crc_own hown5 (by decide)
  rw [Hown.out] at hcrc
  go_wp2_with fail
  refine hcrc.mono ?_
  rintro e w4 ⟨rfl, rfl⟩
  go_wp2_with fail
  go_ret
  exact ⟨rfl, hb1.trans (hb3.mono hsz1)⟩
end Go.Proofs.Ytoifodabfpbjlaa
