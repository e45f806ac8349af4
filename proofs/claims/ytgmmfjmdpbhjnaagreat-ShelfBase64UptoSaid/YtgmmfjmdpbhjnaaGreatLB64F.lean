/-
  ShelfBase64: the law's function.
-/
import Derived.Test.YtgmmfjmdpbhjnaaGreatJRc
import Derived.Test.YtgmmfjmdpbhjnaaGreatLB64P
namespace Go.Proofs.YtgmmfjmdpbhjnaaGreat
open Go Go.RowKit

/-- three bytes, as one number; none counts as nought -/
def nB (inp : List Nat) (i : Nat) : Nat → Nat
  | 0 => 0
  | k + 1 => nB inp i k * 256 + (if i + k < inp.length then curC inp (i + k) else 0)
theorem byB {inp : List Nat} (hb : ∀ v ∈ inp, v < 256) (j : Nat) : (if j < inp.length then curC inp j else 0) < 256 := by
  split
  · exact (cur_lt hb (by assumption)).2
  · decide
theorem nB_lt {inp : List Nat} (hb : ∀ v ∈ inp, v < 256) (i : Nat) : ∀ k, nB inp i k < 256 ^ k
  | 0 => by show 0 < 256 ^ 0; rw [Nat.pow_zero]; decide
  | k + 1 => by
    have h1 := nB_lt hb i k
    have h2 := byB hb (i + k)
    show nB inp i k * 256 + _ < _
    rw [Nat.pow_succ]
    omega
/-- the k-th sign of four -/
def dgB (n hv k : Nat) : Nat := if hv < k then 61 else sg64 (n / 2 ^ (18 - 6 * k) % 64)
theorem sg64_lt (v : Nat) (h : v < 64) : sg64 v < 256 := by unfold sg64; (repeat' split) <;> omega
theorem dgB_lt (n hv k : Nat) : dgB n hv k < 256 := by
  unfold dgB
  split
  · decide
  · exact sg64_lt _ (Nat.mod_lt _ (by decide))
def rowB (n hv : Nat) : Nat → List Nat
  | 0 => []
  | k + 1 => rowB n hv k ++ [dgB n hv k]
theorem rowB_len (n hv : Nat) : ∀ k, (rowB n hv k).length = k
  | 0 => rfl
  | k + 1 => by show (rowB n hv k ++ [_]).length = _; rw [List.length_append, rowB_len n hv k]; rfl
theorem cur_no {inp : List Nat} {j : Nat} (h : inp.length ≤ j) : curC inp j = 65535 := by
  unfold curC
  rw [List.getElem?_eq_none h]; rfl
theorem grp_row {inp : List Nat} (hb : ∀ v ∈ inp, v < 256) {i : Nat} (hi : i < inp.length) : rowB (nB inp i 3) (min 3 (inp.length - i)) 4 = grp (curC inp i) (curC inp (i + 1)) (curC inp (i + 2)) := by
  have ha := (cur_lt hb hi).2
  show [dgB _ _ 0, dgB _ _ 1, dgB _ _ 2, dgB _ _ 3] = _
  have e0 : nB inp i 3 = ((0 * 256 + curC inp i) * 256 + (if i + 1 < inp.length then curC inp (i + 1) else 0)) * 256 + (if i + 2 < inp.length then curC inp (i + 2) else 0) := by
    show ((0 * 256 + (if i + 0 < inp.length then curC inp (i + 0) else 0)) * 256 + _) * 256 + _ = _
    rw [Nat.add_zero, if_pos hi]
  rw [e0]
  by_cases h1 : i + 1 < inp.length
  · have hb1 := (cur_lt hb h1).2
    rw [if_pos h1]
    by_cases h2 : i + 2 < inp.length
    · have hc1 := (cur_lt hb h2).2
      rw [if_pos h2, show min 3 (inp.length - i) = 3 by omega]
      generalize curC inp i = a at *
      generalize curC inp (i + 1) = b at *
      generalize curC inp (i + 2) = c at *
      unfold grp dgB
      have q0 : (((0 * 256 + a) * 256 + b) * 256 + c) / 2 ^ (18 - 6 * 0) % 64 = a / 4 := by
        simp only [Nat.reducePow, Nat.reduceMul, Nat.reduceSub]
        omega
      have q1 : (((0 * 256 + a) * 256 + b) * 256 + c) / 2 ^ (18 - 6 * 1) % 64 = a % 4 * 16 + b / 16 := by
        simp only [Nat.reducePow, Nat.reduceMul, Nat.reduceSub]
        omega
      have q2 : (((0 * 256 + a) * 256 + b) * 256 + c) / 2 ^ (18 - 6 * 2) % 64 = b % 16 * 4 + c / 64 := by
        simp only [Nat.reducePow, Nat.reduceMul, Nat.reduceSub]
        omega
      have q3 : (((0 * 256 + a) * 256 + b) * 256 + c) / 2 ^ (18 - 6 * 3) % 64 = c % 64 := by
        simp only [Nat.reducePow, Nat.reduceMul, Nat.reduceSub]
        omega
      rw [if_neg (by decide), if_neg (by decide), if_neg (by decide), if_neg (by decide), if_neg (by omega), if_neg (by omega), q0, q1, q2, q3]
    · rw [if_neg h2, cur_no (show inp.length ≤ i + 2 by omega), show min 3 (inp.length - i) = 2 by omega]
      generalize curC inp i = a at *
      generalize curC inp (i + 1) = b at *
      unfold grp dgB
      have q0 : (((0 * 256 + a) * 256 + b) * 256 + 0) / 2 ^ (18 - 6 * 0) % 64 = a / 4 := by
        simp only [Nat.reducePow, Nat.reduceMul, Nat.reduceSub]
        omega
      have q1 : (((0 * 256 + a) * 256 + b) * 256 + 0) / 2 ^ (18 - 6 * 1) % 64 = a % 4 * 16 + b / 16 := by
        simp only [Nat.reducePow, Nat.reduceMul, Nat.reduceSub]
        omega
      have q2 : (((0 * 256 + a) * 256 + b) * 256 + 0) / 2 ^ (18 - 6 * 2) % 64 = b % 16 * 4 := by
        simp only [Nat.reducePow, Nat.reduceMul, Nat.reduceSub]
        omega
      rw [if_neg (by decide), if_neg (by decide), if_neg (by decide), if_pos (by decide), if_neg (by omega), if_pos rfl, q0, q1, q2]
  · rw [if_neg h1, if_neg (show ¬ i + 2 < inp.length by omega), cur_no (show inp.length ≤ i + 1 by omega), show min 3 (inp.length - i) = 1 by omega]
    generalize curC inp i = a at *
    unfold grp dgB
    have q0 : (((0 * 256 + a) * 256 + 0) * 256 + 0) / 2 ^ (18 - 6 * 0) % 64 = a / 4 := by
      simp only [Nat.reducePow, Nat.reduceMul, Nat.reduceSub]
      omega
    have q1 : (((0 * 256 + a) * 256 + 0) * 256 + 0) / 2 ^ (18 - 6 * 1) % 64 = a % 4 * 16 := by
      simp only [Nat.reducePow, Nat.reduceMul, Nat.reduceSub]
      omega
    rw [if_neg (by decide), if_neg (by decide), if_pos (by decide), if_pos (by decide), if_pos rfl, q0, q1]
theorem i64_and_nat (a b : Nat) (ha : a < 9223372036854775808) (hb : b < 9223372036854775808) : bits .and .i64 (a : Int) (b : Int) = ((a &&& b : Nat) : Int) := by
  have hx : a &&& b < 2 ^ 63 := Nat.and_lt_two_pow _ (by omega)
  show IntKind.i64.wrap ((BitVec.ofInt 64 (a : Int) &&& BitVec.ofInt 64 (b : Int)).toNat : Int) = _
  rw [BitVec.toNat_and, ofInt_u64 a (by omega), ofInt_u64 b (by omega), IntKind.wrap]
  simp only [IntKind.bits, IntKind.signed]
  simp only [Nat.reducePow] at hx
  simp
  omega
def signsB : ByteArray := ⟨#[65, 66, 67, 68, 69, 70, 71, 72, 73, 74, 75, 76, 77, 78, 79, 80, 81, 82, 83, 84, 85, 86, 87, 88, 89, 90, 97, 98, 99, 100, 101, 102, 103, 104, 105, 106, 107, 108, 109, 110, 111, 112, 113, 114, 115, 116, 117, 118, 119, 120, 121, 122, 48, 49, 50, 51, 52, 53, 54, 55, 56, 57, 43, 47]⟩
theorem signs_get : ∀ m, m < 64 → (signsB[m]?).map (fun b => b.toNat) = some (sg64 m) := by decide +kernel
theorem wpList_index_str {w : World} {ops : Array Oper} {rest : List Oper} {o : Oper} {a : Act} {Q : Exit → Act → World → Prop} (hgd : o.guard = none) (ix : Operand) (ho : o.op = .index 9 (.const (.string signsB)) ix)
    (m : Nat) (hi : a.eval ix = .int .i64 (m : Nat)) (hm : m < 64)
    (h : wpList Tryz.prog ops Q rest (a.put o.dst (.int .u8 ((sg64 m : Nat) : Int))) w) : wpList Tryz.prog ops Q (o :: rest) a w := by
  refine wpList_plain hgd fun K hK => ?_
  obtain ⟨b, h1, h2⟩ := Option.map_eq_some_iff.1 (signs_get m hm)
  unfold Oper.wp
  have he : (execOp a.eval o).run Tryz.prog w = .ok (.value (.int .u8 ((sg64 m : Nat) : Int))) w := by
    have hc : a.eval (.const (.string signsB)) = .string signsB := rfl
    simp [execOp, ho, hi, hc, Instr.index, asIntOf, run_underlying Tryz.underlying9, h1, h2]
  rw [he]
  exact hK _ _ h

set_option maxHeartbeats 4000000 in
set_option maxRecDepth 100000 in
theorem shelfBase64_ok (w : World) (a : Option Addr) (c : Nat) (inp : List Nat) (hin : BytesIn w a inp) (_ : a = none → inp.length = 0) (hreach : inp.length ≤ 1048576) {rdy : Rdy} (hP : Played 108170687362612 6 rdy) (hR : rdy = ⟨1, b64Bd, []⟩) :
    Calls Tryz.prog 12 #[.slice a inp.length c] w fun e w' => e = .returned (.bool true) ∧ Below w.heap.size w w' := by
  subst hR
  have hb : ∀ v ∈ inp, v < 256 := fun v hv => by
    obtain ⟨k, hk⟩ := List.getElem?_of_mem hv
    exact (hin k v hk).1
  obtain ⟨V, hV⟩ : ∃ V : Nat → List Nat, V = b64O inp := ⟨_, rfl⟩
  have hV0 : V 0 = [] := by rw [hV]; rfl
  have hV1 : ∀ r, 3 * r < inp.length → V (r + 1) = V r ++ rowB (nB inp (3 * r) 3) (min 3 (inp.length - 3 * r)) 4 := fun r hr => by
    rw [hV, grp_row hb hr]
    rfl
  have hVl : ∀ r, (V r).length = 4 * r := fun r => by rw [hV]; exact b64O_len inp r
  have T := fun (w1 : World) (wa : Option Addr) (wc : Nat) (hw : Below w.heap.size w w1) (h1 : BytesIn w1 wa (V ((inp.length + 2) / 3))) (h2 : wa = none → (V ((inp.length + 2) / 3)).length = 0) =>
    tells_ok hP (inp := inp) (want := V ((inp.length + 2) / 3)) (large := decide ((60 : Int) < inp.length)) (w := w1) (a := a) (wa := wa) (c := c) (wc := wc) (fun hl => hin.inp hw hl) h1 h2
    (fun _ => by
      obtain ⟨n, v, s, h1, h2, h3⟩ := b64_means hb
      exact ⟨n, v, s, h1, by rw [h2, hV], fun ho => decide_eq_true (by have := h3 ho; omega)⟩)
  have hs : XM.unB 108170687362612 6 = ⟨#[98, 97, 115, 101, 54, 52]⟩ := by kernel_rfl
  rw [hs] at T
  have HT := Lib.hid T
  have HIN := Lib.hid (And.intro hin hb)
  have HV := Lib.hid (And.intro hV0 (And.intro hV1 hVl))
  clear hs T hP hV hV0 hV1 hVl
  have HNB := Lib.hid (fun i k => nB_lt hb i k)
  clear hin hb
  obtain ⟨N, hN⟩ : ∃ N, N = inp.length := ⟨_, rfl⟩
  have HN := Lib.hid hN
  rw [← hN] at hreach HV HT ⊢
  clear hN
  obtain ⟨i0, hi, hz0, hz1, hz2⟩ := info_parts info_u8
  go_enter Tryz.func12, Tryz.ntmps12
  go_wp2_with fail
  go_loopw [3, 4] (fun lv iv wr => ∃ r i : Nat, 3 * r < N + 3 ∧ i = 3 * r ∧ iv = .int .i64 i ∧ WantAt w wr lv (V r)) (fun _ iv _ => N + 3 - (intOf iv).toNat)
  case atStart => exact ⟨0, 0, by omega, rfl, rfl, by rw [HV.out.1]; exact WantAt.nil w⟩
  case round =>
    obtain ⟨r, i, hr, hir, rfl, hw⟩ := hrel
    by_cases hlt : i < N
    · have hls : decide ((i : Int) < N) = true := decide_eq_true (by omega)
      have HW := Lib.hid hw
      have HR := Lib.hid (And.intro hr hir)
      clear hw hr hir
      go_wp2_with fail
      go_loopw [5, 6, 7] (fun nv mv kv wr' => ∃ k : Nat, k ≤ 3 ∧ kv = .int .i64 k ∧ nv = .int .i64 ((nB inp i k : Nat) : Int) ∧ mv = .int .i64 ((min k (N - i) : Nat) : Int) ∧ wr' = wr) (fun _ _ kv _ => 3 - (intOf kv).toNat)
      case atStart => exact ⟨0, by omega, rfl, rfl, by rw [Nat.zero_min]; rfl, rfl⟩
      case round =>
        obtain ⟨k, hk, rfl, rfl, rfl, rfl⟩ := hrel
        by_cases hk3 : k < 3
        · have hks : decide ((k : Int) < 3) = true := decide_eq_true (by omega)
          have hnb := HNB.out i k
          have hp : 256 ^ k ≤ 256 ^ 2 := Nat.pow_le_pow_right (by decide) (by omega)
          obtain ⟨j, hj⟩ : ∃ j, j = i + k := ⟨_, rfl⟩
          have e1 : (i : Int) + (k : Int) = (j : Int) := by omega
          by_cases hjN : j < N
          · have hjs : decide ((j : Int) < N) = true := decide_eq_true (by omega)
            have hjl : j < inp.length := by have := HN.out; omega
            obtain ⟨v, hv⟩ : ∃ v, inp[j]? = some v := ⟨_, List.getElem?_eq_getElem hjl⟩
            obtain ⟨hv256, b, off, ha, hbl, hcell⟩ := (HIN.out.1.below HW.out.below) j v hv
            have hnx : nB inp i (k + 1) = nB inp i k * 256 + v := by
              show nB inp i k * 256 + (if i + k < inp.length then curC inp (i + k) else 0) = _
              rw [← hj, if_pos hjl]
              unfold curC
              rw [hv]; rfl
            have HX := Lib.hid hnx
            have hm : min (k + 1) (N - i) = min k (N - i) + 1 := by omega
            have HM := Lib.hid hm
            obtain ⟨m, hmm⟩ : ∃ m, m = min k (N - i) := ⟨_, rfl⟩
            have hm3 : m ≤ 3 := by omega
            rw [← hmm] at HM ⊢
            subst ha
            generalize nB inp i k = n at *
            have hn : n < 65536 := by omega
            clear hv hjl hnx hm hmm hj hnb hp
            go_wp2_with fail
            go_round
            case rel => exact ⟨k + 1, by omega, by go_num, by rw [HX.out]; push_cast; rfl, by rw [HM.out]; push_cast; rfl, trivial⟩
            case measure => simp [intOf]; omega
          · have hjs : decide ((j : Int) < N) = false := decide_eq_false (by omega)
            have hnx : nB inp i (k + 1) = nB inp i k * 256 := by
              show nB inp i k * 256 + (if i + k < inp.length then curC inp (i + k) else 0) = _
              rw [← hj, if_neg (by have := HN.out; omega)]; rfl
            have HX := Lib.hid hnx
            have hm : min (k + 1) (N - i) = min k (N - i) := by omega
            have HM := Lib.hid hm
            obtain ⟨m, hmm⟩ : ∃ m, m = min k (N - i) := ⟨_, rfl⟩
            rw [← hmm] at HM ⊢
            generalize nB inp i k = n at *
            have hn : n < 65536 := by omega
            clear hnx hm hmm hj hnb hp
            go_wp2_with fail
            go_round
            case rel => exact ⟨k + 1, by omega, by go_num, by rw [HX.out]; push_cast; rfl, by rw [HM.out], trivial⟩
            case measure => simp [intOf]; omega
        · obtain rfl : k = 3 := by omega
          rw [show Value.int .i64 ((3 : Nat) : Int) = Value.int .i64 3 from rfl]
          have hV1 := HV.out.2.1 r (by have := HR.out.2; have := HN.out; omega)
          rw [← HR.out.2] at hV1
          have hl := HV.out.2.2 r
          have hnb := HNB.out i 3
          simp only [Nat.reducePow] at hnb
          have HV1 := Lib.hid hV1
          have HL := Lib.hid hl
          clear hV1 hl
          obtain ⟨m, hmm⟩ : ∃ m, m = min 3 (N - i) := ⟨_, rfl⟩
          have hm3 : m ≤ 3 := by omega
          rw [← hmm] at HV1 ⊢
          clear hmm
          generalize nB inp i 3 = n at *
          go_wp2_with fail
          go_loopw [3, 8] (fun lv kv wr => ∃ k : Nat, k ≤ 4 ∧ kv = .int .i64 k ∧ WantAt w wr lv (V r ++ rowB n m k)) (fun _ kv _ => 4 - (intOf kv).toNat)
          case atStart => exact ⟨0, by omega, rfl, by rw [show V r ++ rowB n m 0 = V r from List.append_nil _]; exact HW.out⟩
          case round =>
            obtain ⟨k, hk, rfl, hw⟩ := hrel
            by_cases hk4 : k < 4
            · have hks : decide ((k : Int) < 4) = true := decide_eq_true (by omega)
              have hlen : (V r ++ rowB n m k).length ≤ 10000000 := by
                rw [List.length_append, rowB_len, HL.out]
                have := HR.out; omega
              have hown := hw.own
              have HW2 := Lib.hid hw
              obtain ⟨x, hx⟩ : ∃ x, x = dgB n m k := ⟨_, rfl⟩
              have hx256 : x < 256 := by rw [hx]; exact dgB_lt n m k
              have HJ := Lib.hid (show (V r ++ rowB n m k) ++ [x] = V r ++ rowB n m (k + 1) by rw [List.append_assoc, hx]; rfl)
              clear hw
              obtain ⟨M, hM⟩ : ∃ M, M = (V r ++ rowB n m k).length := ⟨_, rfl⟩
              have HM := Lib.hid hM
              rw [← hM] at hown hlen
              clear hM
              by_cases hmk : m < k
              · have q1 : decide ((m : Int) < k) = true := decide_eq_true (by omega)
                have hx61 : x = 61 := by rw [hx]; unfold dgB; rw [if_pos hmk]
                subst hx61
                clear hx
                go_wp2_with (at_builtin; refine wpList_append_where rfl (.tmp 45) (.tmp 46) 22 rfl 5 i0 (.int .u8 0) 1 1 Tryz.underlying22 hi hz0 hz1 hz2 rfl (by decide) _ _ _ rfl (World.ownsRow.alloc hown _) ⟨wr.heap.size, 0, none⟩ 1 1 [.int .u8 61] rfl rfl ?c1 ?c2 ?c3 ?c4 ?_)
                case c1 => exact cell_one_new _ _ _
                case c2 => intro u hu; simp at hu; subst hu; rfl
                case c3 => unfold maxLen; omega
                case c4 => omega
                intro lv' w3 hown' hgrow hwhere
                have hnew := HW2.out.put (x := 61) (by omega) (by rw [← HM.out]; exact hown') hgrow hwhere
                rw [HJ.out] at hnew
                have HNEW := Lib.hid hnew
                clear hnew hown' hgrow hwhere hown
                go_wp2_with fail
                go_round
                case rel => exact ⟨k + 1, by omega, by go_num, HNEW.out⟩
                case measure => simp [intOf]; omega
              · have q1 : decide ((m : Int) < k) = false := decide_eq_false (by omega)
                obtain ⟨s, hs⟩ : ∃ s, s = 18 - 6 * k := ⟨_, rfl⟩
                have hxs : x = sg64 (n / 2 ^ s % 64) := by rw [hx, hs]; unfold dgB; rw [if_neg hmk]
                have e4 : (18 : Int) - 6 * (k : Int) = (s : Int) := by omega
                obtain ⟨q, hq⟩ : ∃ q, q = n / 2 ^ s := ⟨_, rfl⟩
                have e5 : (n : Int) / 2 ^ s = (q : Int) := by rw [hq]; push_cast; rfl
                have hqn : q ≤ n := by rw [hq]; exact Nat.div_le_self _ _
                have e6 : bits .and .i64 (q : Int) 63 = ((q % 64 : Nat) : Int) := by
                  have := i64_and_nat q 63 (by omega) (by omega)
                  rw [show (63 : Nat) = 2 ^ 6 - 1 from rfl, Nat.and_two_pow_sub_one_eq_mod] at this
                  exact this
                rw [← hq] at hxs
                have hs18 : s ≤ 18 := by omega
                obtain ⟨z, hz⟩ : ∃ z, z = q % 64 := ⟨_, rfl⟩
                have hz64 : z < 64 := by omega
                rw [← hz] at hxs e6
                subst hxs
                clear hx hs hq hz
                go_wp2_with (first | (refine wpList_index_str rfl (.tmp 54) rfl z rfl hz64 ?_) | (at_builtin; refine wpList_append_where rfl (.tmp 48) (.tmp 56) 22 rfl 5 i0 (.int .u8 0) 1 1 Tryz.underlying22 hi hz0 hz1 hz2 rfl (by decide) _ _ _ rfl (World.ownsRow.alloc hown _) ⟨wr.heap.size, 0, none⟩ 1 1 [.int .u8 ((sg64 z : Nat) : Int)] rfl rfl ?c1 ?c2 ?c3 ?c4 ?_))
                case c1 => exact cell_one_new _ _ _
                case c2 => intro u hu; simp at hu; subst hu; rfl
                case c3 => unfold maxLen; omega
                case c4 => omega
                intro lv' w3 hown' hgrow hwhere
                have hnew := HW2.out.put (x := sg64 z) hx256 (by rw [← HM.out]; exact hown') hgrow hwhere
                rw [HJ.out] at hnew
                have HNEW := Lib.hid hnew
                clear hnew hown' hgrow hwhere hown
                go_wp2_with fail
                go_round
                case rel => exact ⟨k + 1, by omega, by go_num, HNEW.out⟩
                case measure => simp [intOf]; omega
            · obtain rfl : k = 4 := by omega
              have hks : decide (((4 : Nat) : Int) < 4) = false := decide_eq_false (by omega)
              rw [← HV1.out] at hw
              have HW3 := Lib.hid hw
              have hir := HR.out.2
              have hr3 := HR.out.1
              clear hw HW
              go_wp2_with fail
              go_round
              case rel => exact ⟨r + 1, i + 3, by omega, by omega, by go_num, HW3.out⟩
              case measure => simp [intOf]; omega
    · have hls : decide ((i : Int) < N) = false := decide_eq_false (by omega)
      have er : r = (N + 2) / 3 := by omega
      obtain ⟨wa, wc, hlv, hwa, hbytes⟩ := hw.bytes
      rw [er] at hlv hbytes hwa
      have TT := HT.out wr wa wc hw.below hbytes hwa
      obtain ⟨M, hM⟩ : ∃ M, M = (V ((N + 2) / 3)).length := ⟨_, rfl⟩
      rw [← hM] at TT hlv
      subst hlv
      have HB := Lib.hid hw.below
      clear hw hwa hbytes hM er hir hr
      go_wp2_with fail
      refine TT.mono ?_
      rintro e w2 ⟨rfl, hb2⟩
      have HB2 := Lib.hid hb2
      clear TT hb2
      go_wp2_with fail
      exact bodyPost_ret (v := .bool true) (by simp [results, Tryz.results12, go_sem]) rfl ⟨rfl, below2 HB.out HB2.out⟩
end Go.Proofs.YtgmmfjmdpbhjnaaGreat
