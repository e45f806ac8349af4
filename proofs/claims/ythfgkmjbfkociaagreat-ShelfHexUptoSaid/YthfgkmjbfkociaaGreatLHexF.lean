/-
  ShelfHex: the law's function.
-/
import Derived.Test.YthfgkmjbfkociaaGreatLWantF
import Derived.Test.YthfgkmjbfkociaaGreatLHexP
import Derived.Deep.AppendLies
namespace Go.Proofs.YthfgkmjbfkociaaGreat
open Go Go.RowKit

/-- more bytes at once, behind a draw -/
theorem wantAt_puts {w0 w w' : World} {v v' : Value} {l : List Nat} {o : Obj} (h : WantAt w0 w v l) {xs : List Nat} (hx : ∀ x ∈ xs, x < 256) (hown : w'.ownsRow 0 5 1 v' (l.length + xs.length) (bytes l ++ bytes xs)) (hg : (w.alloc o).drew.grownBy w' v.ownBlock)
    (hw : ∀ k, v'.ownBlock = some k → v.ownBlock = some k ∨ w.heap.size + 1 ≤ k) : WantAt w0 w' v' (l ++ xs) := by
  have hs := h.below.size
  have hsz : (w.alloc o).drew.heap.size = w.heap.size + 1 := alloc_sz w o
  refine ⟨by rw [List.length_append]; unfold bytes; rw [List.map_append]; exact hown, fun k hk => ?_, ⟨hg.os.trans h.below.os, hg.tape.trans h.below.tape, hg.output.trans h.below.output, ?_, fun b hb => ?_⟩, fun y hy => ?_⟩
  · rcases hw k hk with q | q
    · exact h.ge k q
    · omega
  · have := hg.size; rw [hsz] at this; omega
  · rw [hg.block b (by rw [hsz]; omega) (fun e => by have := h.ge b e.symm; omega)]
    exact (Below.heap_alloc _ _ _ (by omega)).trans (h.below.block b hb)
  · rcases List.mem_append.1 hy with hy | hy
    · exact h.lt y hy
    · exact hx y hy
theorem hd_lt (v : Nat) (h : v < 16) : hd v < 256 := by unfold hd; split <;> omega
theorem hex_ix (n : Nat) (hn : n < 16) (w : World) (X : Result Value) (hp : ((n : Nat) : Int) < 16 → ((n : Nat) : Int).toNat < (⟨#[48, 49, 50, 51, 52, 53, 54, 55, 56, 57, 97, 98, 99, 100, 101, 102]⟩ : ByteArray).size) :
    ((if h : ((n : Nat) : Int) < 16 then Result.ok (Value.int IntKind.u8 (((⟨#[48, 49, 50, 51, 52, 53, 54, 55, 56, 57, 97, 98, 99, 100, 101, 102]⟩ : ByteArray)[((n : Nat) : Int).toNat]'(hp h)).toNat : Int)) w else X).andThen fun a w' => Result.ok (Next.value a) w') = Result.ok (Next.value (.int .u8 ((hd n : Nat) : Int))) w := by
  rw [dif_pos (by omega)]
  have : n = 0 ∨ n = 1 ∨ n = 2 ∨ n = 3 ∨ n = 4 ∨ n = 5 ∨ n = 6 ∨ n = 7 ∨ n = 8 ∨ n = 9 ∨ n = 10 ∨ n = 11 ∨ n = 12 ∨ n = 13 ∨ n = 14 ∨ n = 15 := by omega
  rcases this with rfl | rfl | rfl | rfl | rfl | rfl | rfl | rfl | rfl | rfl | rfl | rfl | rfl | rfl | rfl | rfl <;> rfl
theorem len_flat2 (l : List Nat) : (l.flatMap hexF).length = 2 * l.length := by
  induction l with
  | nil => rfl
  | cons x l ih => rw [List.flatMap_cons, List.length_append, ih]; simp [hexF]; omega

set_option maxHeartbeats 1000000 in
set_option maxRecDepth 100000 in
theorem shelfHex_ok (w : World) (a : Option Addr) (c : Nat) (inp : List Nat) (hin : BytesIn w a inp) (hn : a = none → inp.length = 0) (hreach : inp.length ≤ 1048576) (d : Nat) (hP : xPlay d 6841720 3 = some ⟨1, hexBd⟩) :
    Calls Tryz.prog 5 #[.slice a inp.length c] w fun e w' => e = .returned (.bool true) ∧ Below w.heap.size w w' := by
  have hb : ∀ v ∈ inp, v < 256 := fun v hv => by
    obtain ⟨k, hk⟩ := List.getElem?_of_mem hv
    exact (hin k v hk).1
  obtain ⟨G, hG⟩ : ∃ G : Nat → List Nat, G = hexF := ⟨_, rfl⟩
  have hlen : ∀ l : List Nat, (l.flatMap G).length = 2 * l.length := fun l => by rw [hG]; exact len_flat2 l
  have T := fun (w1 : World) (wa : Option Addr) (wc : Nat) (hw : Below w.heap.size w w1) (h1 : BytesIn w1 wa (inp.flatMap G)) (h2 : wa = none → (inp.flatMap G).length = 0) =>
    tells_ok hP (inp := inp) (want := inp.flatMap G) (large := decide ((60 : Int) < inp.length)) (w := w1) (a := a) (wa := wa) (c := c) (wc := wc) (fun hl => hin.inp hw hl) h1 h2
    (fun hl => by
      obtain ⟨n, s, h1, h2, h3⟩ := hex_means hb
      refine ⟨n, 0, s, h1, by rw [h2, hG], fun ho => decide_eq_true ?_⟩
      rw [h2, ← hG, hlen] at ho
      omega)
  have hs : XM.unB 6841720 3 = ⟨#[104, 101, 120]⟩ := by kernel_rfl
  rw [hs] at T
  have HT := Lib.hid T
  have HIN := Lib.hid (And.intro hin (And.intro hn hb))
  have HG := Lib.hid (And.intro hG hlen)
  clear hin hn hb hs T hP hG hlen
  obtain ⟨N, hN⟩ : ∃ N, N = inp.length := ⟨_, rfl⟩
  have HN := Lib.hid hN
  rw [← hN] at hreach ⊢
  clear hN
  obtain ⟨i0, hi, hz0, hz1, hz2⟩ := info_parts info_u8
  go_enter Tryz.func5, Tryz.ntmps5
  go_wp2_with fail
  go_loopw [3, 8] (fun lv i wr => ∃ j : Nat, j ≤ N ∧ i = .int .i64 j ∧ WantAt w wr lv ((inp.take j).flatMap G)) (fun _ i _ => N - (intOf i).toNat)
  case atStart => exact ⟨0, by omega, rfl, WantAt.nil w⟩
  case round =>
    obtain ⟨j, hj, rfl, hw⟩ := hrel
    by_cases hlt : j < N
    · have hls : decide ((j : Int) < N) = true := decide_eq_true (by omega)
      have hjl : j < inp.length := by have := HN.out; omega
      obtain ⟨v, hv⟩ : ∃ v, inp[j]? = some v := ⟨_, List.getElem?_eq_getElem hjl⟩
      obtain ⟨hv256, b, off, ha, hbl, hcell⟩ := (HIN.out.1.below hw.below) j v hv
      have ht : (inp.take (j + 1)).flatMap G = (inp.take j).flatMap G ++ G v := by rw [List.take_add_one, hv, List.flatMap_append]; simp
      have hown := hw.own
      rw [HG.out.2, List.length_take, Nat.min_eq_left (by omega)] at hown
      have HW := Lib.hid hw
      have HJ := Lib.hid ht
      subst ha
      clear hw ht hv hjl
      have hGv : G v = [hd (v / 16), hd (v % 16)] := by rw [HG.out.1]; rfl
      have HGV := Lib.hid hGv
      clear hGv
      go_wp2_with fail
      obtain ⟨n1, hn1⟩ : ∃ n, n = v / 16 := ⟨_, rfl⟩
      obtain ⟨n2, hn2⟩ : ∃ n, n = v % 16 := ⟨_, rfl⟩
      have e1 : IntKind.u8.wrap ((v : Int) / 16) = (n1 : Int) := by rw [IntKind.wrap]; simp [IntKind.bits, IntKind.signed]; omega
      have e2 : (v : Int).tmod 16 = (n2 : Int) := by rw [Int.tmod_eq_emod_of_nonneg (by omega)]; omega
      have l1 : n1 < 16 := by omega
      have l2 : n2 < 16 := by omega
      have HNN := Lib.hid (And.intro hn1 hn2)
      rw [← hn1, ← hn2] at HGV
      clear hn1 hn2
      have hS0 : True := trivial
      refine wp_region_G (D := [9]) (S := fun _ => True) Tryz.checked.mixed hS0 (fun hS => ?_)
      refine wpAnyG_read (i := 0) (v := ?v0) rfl (by kernel_rfl) (by kernel_rfl) (by kernel_rfl) (by kernel_rfl) (by kernel_rfl) ?q0 ?g0 ?y0 hS ?_  -- move t3
      case y0 => intro w' h; go_simp; exact rfl
      case g0 => rfl
      case q0 => exact fun _ _ _ h => h
      go_simp
      refine wpAnyG_read (i := 1) (v := ?v1) rfl (by kernel_rfl) (by kernel_rfl) (by kernel_rfl) (by kernel_rfl) (by kernel_rfl) ?q1 ?g1 ?y1 hS ?_  -- move t5
      case y1 => intro w' h; go_simp; exact rfl
      case g1 => rfl
      case q1 => exact fun _ _ _ h => h
      go_simp
      refine wpAnyG_read (i := 2) (v := .int .u8 (n1 : Int)) rfl (by kernel_rfl) (by kernel_rfl) (by kernel_rfl) (by kernel_rfl) (by kernel_rfl) ?q2 ?g2 ?y2 hS ?_  -- binOp quo 5 t13 16:u8 5
      case y2 =>
        intro w' h
        go_simp
      case g2 => rfl
      case q2 => exact fun _ _ _ h => h
      go_simp
      refine wpAnyG_read (i := 3) (v := .int .u8 ((hd n1 : Nat) : Int)) rfl (by kernel_rfl) (by kernel_rfl) (by kernel_rfl) (by kernel_rfl) (by kernel_rfl) ?q3 ?g3 ?y3 hS ?_  -- index 9 (string {data:=#[48, 49, 50, 51, 52, 53, 54, 55, 56, 57, 97, 98, 99, 100, 101, 102]}) t14
      case y3 =>
        intro w' h
        go_simp
        exact hex_ix n1 l1 _ _ _
      case g3 => rfl
      case q3 => exact fun _ _ _ h => h
      go_simp
      refine wpAnyG_read (i := 4) (v := ?v4) rfl (by kernel_rfl) (by kernel_rfl) (by kernel_rfl) (by kernel_rfl) (by kernel_rfl) ?q4 ?g4 ?y4 hS ?_  -- move t5
      case y4 => intro w' h; go_simp; exact rfl
      case g4 => rfl
      case q4 => exact fun _ _ _ h => h
      go_simp
      refine wpAnyG_read (i := 5) (v := .int .u8 (n2 : Int)) rfl (by kernel_rfl) (by kernel_rfl) (by kernel_rfl) (by kernel_rfl) (by kernel_rfl) ?q5 ?g5 ?y5 hS ?_  -- binOp rem 5 t16 16:u8 5
      case y5 =>
        intro w' h
        go_simp
      case g5 => rfl
      case q5 => exact fun _ _ _ h => h
      go_simp
      refine wpAnyG_read (i := 6) (v := .int .u8 ((hd n2 : Nat) : Int)) rfl (by kernel_rfl) (by kernel_rfl) (by kernel_rfl) (by kernel_rfl) (by kernel_rfl) ?q6 ?g6 ?y6 hS ?_  -- index 9 (string {data:=#[48, 49, 50, 51, 52, 53, 54, 55, 56, 57, 97, 98, 99, 100, 101, 102]}) t17
      case y6 =>
        intro w' h
        go_simp
        exact hex_ix n2 l2 _ _ _
      case g6 => rfl
      case q6 => exact fun _ _ _ h => h
      go_simp
      refine wpAnyG_one (i := 7) (by kernel_rfl) rfl rfl (fun K hK => ?_)
      go_wp2_with fail
      refine hK _ _ (fun _ => hS) ?_
      clear hK
      go_simp
      refine wpAnyG_one (i := 8) (by kernel_rfl) rfl rfl (fun K hK => ?_)
      refine wp_append_lies _ (.tmp 12) (.tmp 19) 22 rfl 0 5 i0 (.int .u8 0) 1 1 Tryz.underlying22 hi hz0 hz1 hz2 rfl (by decide) _ _ _ rfl ((World.ownsRow.alloc hown _).drew) ⟨wr.heap.size, 0, none⟩ 2 2 [.int .u8 ((hd n1 : Nat) : Int), .int .u8 ((hd n2 : Nat) : Int)] rfl rfl ?c1 ?c2 (by decide) ?c3 ?c4 (Nat.zero_le _) _ rfl ?_
      case c1 => exact World.news_of_block (cs := #[.int .u8 ((hd n1 : Nat) : Int), .int .u8 ((hd n2 : Nat) : Int)]) (by show (wr.heap.push _)[wr.heap.size]? = _; exact Array.getElem?_push_size)
      case c2 => intro u hu; simp at hu; rcases hu with rfl | rfl <;> rfl
      case c3 => unfold maxLen; omega
      case c4 => omega
      intro g cap w3 hown' hgrow hwhere hlt2
      refine hK _ _ (fun _ => trivial) ?_
      clear hK
      have hnew := wantAt_puts HW.out (xs := [hd n1, hd n2]) (by intro x hx; simp at hx; rcases hx with rfl | rfl <;> exact hd_lt _ (by omega)) (by rw [HG.out.2, List.length_take, Nat.min_eq_left (by have := HN.out; omega)]; exact hown') hgrow (by
        intro k hk
        rcases hwhere with q | q
        · exact .inl (hk ▸ q)
        · refine .inr ?_
          have : g = k := by simpa [Value.ownBlock] using hk
          have := alloc_sz wr (.cells #[.int .u8 ((hd n1 : Nat) : Int), .int .u8 ((hd n2 : Nat) : Int)] 5)
          have h9 : (wr.alloc (.cells #[.int .u8 ((hd n1 : Nat) : Int), .int .u8 ((hd n2 : Nat) : Int)] 5)).drew.heap.size = wr.heap.size + 1 := this
          rw [h9] at q
          omega)
      have HNEW := Lib.hid hnew
      clear hnew hown' hgrow hwhere hown hlt2
      go_simp
      refine wpAnyG_one (i := 9) (by kernel_rfl) rfl rfl (fun K hK => ?_)
      go_wp2_with fail
      refine hK _ _ (fun h => (by simp at h)) ?_
      clear hK
      go_simp
      refine wpAnyG_done (by kernel_rfl) ?_ _
      go_wp2_with fail
      go_round
      case rel => exact ⟨j + 1, by omega, by go_num, by rw [HJ.out, HGV.out]; exact HNEW.out⟩
      case measure => simp [intOf]; omega
    · have hj' : j = N := by omega
      subst hj'
      have hls : decide ((j : Int) < j) = false := decide_eq_false (by omega)
      obtain ⟨wa, wc, hlv, hwa, hbytes⟩ := hw.bytes
      rw [List.take_of_length_le (by have := HN.out; omega)] at hlv hwa hbytes
      have hl2 : (inp.flatMap G).length = 2 * j := by rw [HG.out.2, HN.out]
      have TT := HT.out wr wa wc hw.below hbytes hwa
      rw [hl2, ← HN.out] at TT
      rw [hl2] at hlv
      subst hlv
      have HB := Lib.hid hw.below
      clear hw hwa hbytes hl2
      go_wp2_with fail
      refine TT.mono ?_
      rintro e w2 ⟨rfl, hb2⟩
      have HB2 := Lib.hid hb2
      clear TT hb2
      go_wp2_with fail
      refine bodyPost_ret (v := .bool true) (by simp [results, Tryz.results5, go_sem]) rfl ⟨rfl, ?_⟩
      have b1 := HB.out
      have b2 := HB2.out
      have s1 := b1.size
      exact ⟨b2.os.trans b1.os, b2.tape.trans b1.tape, b2.output.trans b1.output, Nat.le_trans b1.size b2.size, fun b hb => (b2.block b (by omega)).trans (b1.block b hb)⟩
end Go.Proofs.YthfgkmjbfkociaaGreat
