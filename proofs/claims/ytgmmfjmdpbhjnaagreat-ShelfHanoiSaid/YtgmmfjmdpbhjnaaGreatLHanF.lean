/-
  ShelfHanoi: the law's function.
-/
import Derived.Test.YtgmmfjmdpbhjnaaGreatLHanK
namespace Go.Proofs.YtgmmfjmdpbhjnaaGreat
open Go Go.RowKit Go.XM

theorem han_res (t : Array Value) (w : World) (h : t.getD 2 undef = .bool true) : (results Tryz.f18 t).run Tryz.prog w = .ok (.bool true) w := by
  simp [results, Tryz.results18, go_sem]
  simpa using h
theorem len_cons {α : Type} {l : List α} {n : Nat} (h : l.length = n + 1) : ∃ x r, l = x :: r ∧ r.length = n := by
  cases l with
  | nil => simp at h
  | cons x r => exact ⟨x, r, rfl, by simpa using h⟩
set_option maxHeartbeats 4000000 in
set_option maxRecDepth 100000 in
theorem han_tail (w0 : World) (a : Act) (w : World) (n : Nat) (hn : n < 18446744073709551616) (want : List Nat) (wa : Option Addr) (wc : Nat) (hsz : a.tmps.size = 108) (hdf : a.defers = [])
    (h0 : a.tmps[0]? = some (.int .u64 (n : Nat))) (h3 : a.tmps[3]? = some (.slice wa want.length wc)) (h1 : a.tmps[101]? = some (.bool true))
    (T : TellsAsk ⟨#[104, 97, 110, 111, 105]⟩ [n] want) (hb : Below w0.heap.size w0 w) (hy : BytesIn w wa want) (hwn : wa = none → want.length = 0) :
    wpList Tryz.prog hanOps (Exit.then (hanRest.wp Tryz.prog (bodyPost Tryz.prog Tryz.f18 (fun e w' => e = .returned (.bool true) ∧ Below w0.heap.size w0 w'))) (bodyPost Tryz.prog Tryz.f18 (fun e w' => e = .returned (.bool true) ∧ Below w0.heap.size w0 w'))) (hanOps.toList.drop 9) a w := by
  have HT := Lib.hid T
  have HB0 := Lib.hid hb
  have HY0 := Lib.hid hy
  have HWN := Lib.hid hwn
  clear T hb hy hwn
  obtain ⟨L, hL⟩ : ∃ L, L = want.length := ⟨_, rfl⟩
  have HLL := Lib.hid hL
  rw [← hL] at h3
  clear hL
  obtain ⟨⟨l⟩, df⟩ := a
  have hdf : df = [] := hdf
  subst hdf
  have hsz : l.length = 108 := hsz
  have h0 : l[0]? = some (.int .u64 (n : Nat)) := by simpa using h0
  have h3 : l[3]? = some (.slice wa L wc) := by simpa using h3
  have h1 : l[101]? = some (.bool true) := by simpa using h1
  obtain ⟨x0, l0, rfl, hs0⟩ := len_cons hsz
  obtain ⟨x1, l1, rfl, hs1⟩ := len_cons hs0
  obtain ⟨x2, l2, rfl, hs2⟩ := len_cons hs1
  obtain ⟨x3, l3, rfl, hs3⟩ := len_cons hs2
  obtain ⟨x4, l4, rfl, hs4⟩ := len_cons hs3
  obtain ⟨x5, l5, rfl, hs5⟩ := len_cons hs4
  obtain ⟨x6, l6, rfl, hs6⟩ := len_cons hs5
  obtain ⟨x7, l7, rfl, hs7⟩ := len_cons hs6
  obtain ⟨x8, l8, rfl, hs8⟩ := len_cons hs7
  obtain ⟨x9, l9, rfl, hs9⟩ := len_cons hs8
  obtain ⟨x10, l10, rfl, hs10⟩ := len_cons hs9
  obtain ⟨x11, l11, rfl, hs11⟩ := len_cons hs10
  obtain ⟨x12, l12, rfl, hs12⟩ := len_cons hs11
  obtain ⟨x13, l13, rfl, hs13⟩ := len_cons hs12
  obtain ⟨x14, l14, rfl, hs14⟩ := len_cons hs13
  obtain ⟨x15, l15, rfl, hs15⟩ := len_cons hs14
  obtain ⟨x16, l16, rfl, hs16⟩ := len_cons hs15
  obtain ⟨x17, l17, rfl, hs17⟩ := len_cons hs16
  obtain ⟨x18, l18, rfl, hs18⟩ := len_cons hs17
  obtain ⟨x19, l19, rfl, hs19⟩ := len_cons hs18
  obtain ⟨x20, l20, rfl, hs20⟩ := len_cons hs19
  obtain ⟨x21, l21, rfl, hs21⟩ := len_cons hs20
  obtain ⟨x22, l22, rfl, hs22⟩ := len_cons hs21
  obtain ⟨x23, l23, rfl, hs23⟩ := len_cons hs22
  obtain ⟨x24, l24, rfl, hs24⟩ := len_cons hs23
  obtain ⟨x25, l25, rfl, hs25⟩ := len_cons hs24
  obtain ⟨x26, l26, rfl, hs26⟩ := len_cons hs25
  obtain ⟨x27, l27, rfl, hs27⟩ := len_cons hs26
  obtain ⟨x28, l28, rfl, hs28⟩ := len_cons hs27
  obtain ⟨x29, l29, rfl, hs29⟩ := len_cons hs28
  obtain ⟨x30, l30, rfl, hs30⟩ := len_cons hs29
  obtain ⟨x31, l31, rfl, hs31⟩ := len_cons hs30
  obtain ⟨x32, l32, rfl, hs32⟩ := len_cons hs31
  obtain ⟨x33, l33, rfl, hs33⟩ := len_cons hs32
  obtain ⟨x34, l34, rfl, hs34⟩ := len_cons hs33
  obtain ⟨x35, l35, rfl, hs35⟩ := len_cons hs34
  obtain ⟨x36, l36, rfl, hs36⟩ := len_cons hs35
  obtain ⟨x37, l37, rfl, hs37⟩ := len_cons hs36
  obtain ⟨x38, l38, rfl, hs38⟩ := len_cons hs37
  obtain ⟨x39, l39, rfl, hs39⟩ := len_cons hs38
  obtain ⟨x40, l40, rfl, hs40⟩ := len_cons hs39
  obtain ⟨x41, l41, rfl, hs41⟩ := len_cons hs40
  obtain ⟨x42, l42, rfl, hs42⟩ := len_cons hs41
  obtain ⟨x43, l43, rfl, hs43⟩ := len_cons hs42
  obtain ⟨x44, l44, rfl, hs44⟩ := len_cons hs43
  obtain ⟨x45, l45, rfl, hs45⟩ := len_cons hs44
  obtain ⟨x46, l46, rfl, hs46⟩ := len_cons hs45
  obtain ⟨x47, l47, rfl, hs47⟩ := len_cons hs46
  obtain ⟨x48, l48, rfl, hs48⟩ := len_cons hs47
  obtain ⟨x49, l49, rfl, hs49⟩ := len_cons hs48
  obtain ⟨x50, l50, rfl, hs50⟩ := len_cons hs49
  obtain ⟨x51, l51, rfl, hs51⟩ := len_cons hs50
  obtain ⟨x52, l52, rfl, hs52⟩ := len_cons hs51
  obtain ⟨x53, l53, rfl, hs53⟩ := len_cons hs52
  obtain ⟨x54, l54, rfl, hs54⟩ := len_cons hs53
  obtain ⟨x55, l55, rfl, hs55⟩ := len_cons hs54
  obtain ⟨x56, l56, rfl, hs56⟩ := len_cons hs55
  obtain ⟨x57, l57, rfl, hs57⟩ := len_cons hs56
  obtain ⟨x58, l58, rfl, hs58⟩ := len_cons hs57
  obtain ⟨x59, l59, rfl, hs59⟩ := len_cons hs58
  obtain ⟨x60, l60, rfl, hs60⟩ := len_cons hs59
  obtain ⟨x61, l61, rfl, hs61⟩ := len_cons hs60
  obtain ⟨x62, l62, rfl, hs62⟩ := len_cons hs61
  obtain ⟨x63, l63, rfl, hs63⟩ := len_cons hs62
  obtain ⟨x64, l64, rfl, hs64⟩ := len_cons hs63
  obtain ⟨x65, l65, rfl, hs65⟩ := len_cons hs64
  obtain ⟨x66, l66, rfl, hs66⟩ := len_cons hs65
  obtain ⟨x67, l67, rfl, hs67⟩ := len_cons hs66
  obtain ⟨x68, l68, rfl, hs68⟩ := len_cons hs67
  obtain ⟨x69, l69, rfl, hs69⟩ := len_cons hs68
  obtain ⟨x70, l70, rfl, hs70⟩ := len_cons hs69
  obtain ⟨x71, l71, rfl, hs71⟩ := len_cons hs70
  obtain ⟨x72, l72, rfl, hs72⟩ := len_cons hs71
  obtain ⟨x73, l73, rfl, hs73⟩ := len_cons hs72
  obtain ⟨x74, l74, rfl, hs74⟩ := len_cons hs73
  obtain ⟨x75, l75, rfl, hs75⟩ := len_cons hs74
  obtain ⟨x76, l76, rfl, hs76⟩ := len_cons hs75
  obtain ⟨x77, l77, rfl, hs77⟩ := len_cons hs76
  obtain ⟨x78, l78, rfl, hs78⟩ := len_cons hs77
  obtain ⟨x79, l79, rfl, hs79⟩ := len_cons hs78
  obtain ⟨x80, l80, rfl, hs80⟩ := len_cons hs79
  obtain ⟨x81, l81, rfl, hs81⟩ := len_cons hs80
  obtain ⟨x82, l82, rfl, hs82⟩ := len_cons hs81
  obtain ⟨x83, l83, rfl, hs83⟩ := len_cons hs82
  obtain ⟨x84, l84, rfl, hs84⟩ := len_cons hs83
  obtain ⟨x85, l85, rfl, hs85⟩ := len_cons hs84
  obtain ⟨x86, l86, rfl, hs86⟩ := len_cons hs85
  obtain ⟨x87, l87, rfl, hs87⟩ := len_cons hs86
  obtain ⟨x88, l88, rfl, hs88⟩ := len_cons hs87
  obtain ⟨x89, l89, rfl, hs89⟩ := len_cons hs88
  obtain ⟨x90, l90, rfl, hs90⟩ := len_cons hs89
  obtain ⟨x91, l91, rfl, hs91⟩ := len_cons hs90
  obtain ⟨x92, l92, rfl, hs92⟩ := len_cons hs91
  obtain ⟨x93, l93, rfl, hs93⟩ := len_cons hs92
  obtain ⟨x94, l94, rfl, hs94⟩ := len_cons hs93
  obtain ⟨x95, l95, rfl, hs95⟩ := len_cons hs94
  obtain ⟨x96, l96, rfl, hs96⟩ := len_cons hs95
  obtain ⟨x97, l97, rfl, hs97⟩ := len_cons hs96
  obtain ⟨x98, l98, rfl, hs98⟩ := len_cons hs97
  obtain ⟨x99, l99, rfl, hs99⟩ := len_cons hs98
  obtain ⟨x100, l100, rfl, hs100⟩ := len_cons hs99
  obtain ⟨x101, l101, rfl, hs101⟩ := len_cons hs100
  obtain ⟨x102, l102, rfl, hs102⟩ := len_cons hs101
  obtain ⟨x103, l103, rfl, hs103⟩ := len_cons hs102
  obtain ⟨x104, l104, rfl, hs104⟩ := len_cons hs103
  obtain ⟨x105, l105, rfl, hs105⟩ := len_cons hs104
  obtain ⟨x106, l106, rfl, hs106⟩ := len_cons hs105
  obtain ⟨x107, l107, rfl, hs107⟩ := len_cons hs106
  have hl := List.length_eq_zero_iff.1 hs107
  subst hl
  have k0 : x0 = .int .u64 (n : Nat) := Option.some.inj h0
  have k3 : x3 = .slice wa L wc := Option.some.inj h3
  have k1 : x101 = .bool true := Option.some.inj h1
  clear h0 h3 h1
  subst k0 k3 k1
  clear hsz hs0 hs1 hs2 hs3 hs4 hs5 hs6 hs7 hs8 hs9 hs10 hs11 hs12 hs13 hs14 hs15 hs16 hs17 hs18 hs19 hs20 hs21 hs22 hs23 hs24 hs25 hs26 hs27 hs28 hs29 hs30 hs31 hs32 hs33 hs34 hs35 hs36 hs37 hs38 hs39 hs40 hs41 hs42 hs43 hs44 hs45 hs46 hs47 hs48 hs49 hs50 hs51 hs52 hs53 hs54 hs55 hs56 hs57 hs58 hs59 hs60 hs61 hs62 hs63 hs64 hs65 hs66 hs67 hs68 hs69 hs70 hs71 hs72 hs73 hs74 hs75 hs76 hs77 hs78 hs79 hs80 hs81 hs82 hs83 hs84 hs85 hs86 hs87 hs88 hs89 hs90 hs91 hs92 hs93 hs94 hs95 hs96 hs97 hs98 hs99 hs100 hs101 hs102 hs103 hs104 hs105 hs106 hs107
  show wpList Tryz.prog #[_, _, _, _, _, _, _, _, _, _, _, _, _, _, _, _] (Exit.then (Code.wp Tryz.prog Code.ret _) _) [_, _, _, _, _, _, _] _ _
  go_wp2_with fail
  refine (asked_ok [n] (by simp) _ _ _ (nums_one _ n hn _ _)).mono ?_
  rintro e w1 ⟨a1, c1, rfl, hy1, hb1⟩
  have hbb := below2 ((Below.refl _ w).alloc (Nat.le_refl _) _) hb1
  have TT := HT.out w1 (some a1) wa c1 wc hy1 (HY0.out.below hbb) (fun h => HWN.out h)
  rw [← HLL.out] at TT
  have HY1 := Lib.hid (below2 HB0.out hbb)
  clear hy1 hb1 hbb
  go_wp2_with fail
  refine TT.mono ?_
  rintro e w3 ⟨rfl, hb3⟩
  have HY3 := Lib.hid (below2 HY1.out hb3)
  clear TT hb3
  go_wp2_with fail
  exact bodyPost_ret (v := .bool true) (han_res _ _ rfl) rfl ⟨rfl, HY3.out⟩
set_option maxHeartbeats 1000000 in
set_option maxRecDepth 100000 in
theorem shelfHanoi_ok (w : World) (n : Nat) (hn : n < 18446744073709551616) {rdy : Rdy} (hP : Played 448311226217 5 rdy) (hR : rdy = ⟨2, hanBd, []⟩) :
    Calls Tryz.prog 18 #[.int .u64 (n : Nat)] w fun e w' => e = .returned (.bool true) ∧ Below w.heap.size w w' := by
  subst hR
  by_cases h9 : n ≤ 9
  · have T := tellsAsk_of hP (nm := ⟨#[104, 97, 110, 111, 105]⟩) (by kernel_rfl) (han_means h9)
    have hc : hanChk n = some () := by
      have : n = 0 ∨ n = 1 ∨ n = 2 ∨ n = 3 ∨ n = 4 ∨ n = 5 ∨ n = 6 ∨ n = 7 ∨ n = 8 ∨ n = 9 := by omega
      rcases this with rfl | rfl | rfl | rfl | rfl | rfl | rfl | rfl | rfl | rfl
      · exact hanChk_0
      · exact hanChk_1
      · exact hanChk_2
      · exact hanChk_3
      · exact hanChk_4
      · exact hanChk_5
      · exact hanChk_6
      · exact hanChk_7
      · exact hanChk_8
      · exact hanChk_9
    unfold hanChk at hc
    simp only [ob_eq, oif_eq] at hc
    obtain ⟨st2, e0, g0, e1, g3, e2, g1, e3, v0, e4, v3, e5, v1, e6, e7, e8, e9, l, e10, e11, -⟩ := hc
    have := hanQn_ok e7; subst this
    have := hanQt_ok e8; subst this
    unfold hanSt at e0
    simp only [ob_eq] at e0
    obtain ⟨pre, p1, g, p2, tr, p3, st1, p4, p5⟩ := e0
    have U : UU := ⟨ByteArray.empty, fun _ => .slice none 0 0, ⟨none, 0, 0, rfl, by omega⟩, fun _ => rfl⟩
    have r0 := rel_none U w (fun c => c < w.heap.size) fun c h => h
    have hs : SR U w ⟨fun c => c < w.heap.size, fun _ _ => False⟩ _ hanK ⟨⟨[], tr⟩, ⟨.nil, 0⟩, []⟩ { tmps := #[.int .u64 (n : Nat)] ++ Array.replicate (Tryz.f18.ntmps - 1) undef, defers := [] } w :=
      ⟨r0, enter_ok (us := [.int .u64 (n : Nat)]) rfl p3 (by kernel_rfl) [], trivial⟩
    obtain ⟨id, hbe⟩ := han_be
    refine calls_of_wp Tryz.func18 (show Tryz.f18.body = some hanC from rfl) ?_
    refine xpre_ok (xreg_ok Tryz.checked.mixed rfl) rfl (runC_ok 40) p1 p4 hs fun m1 a1 w1 _ s1 => ?_
    rw [hbe]
    refine wp_seq (wp_region_list (xopsN_ok (runC_ok 40) p2 p5 s1 fun m2 a2 w2 _ s2 => ?_))
    obtain ⟨u0, d0, k0⟩ := cx_ok e1 (s2.env.weak fun _ _ => trivial) e4 (fun _ _ => trivial)
    obtain ⟨u3, d3, k3⟩ := cx_ok e2 (s2.env.weak fun _ _ => trivial) e5 (fun _ _ => trivial)
    obtain ⟨u1, d1, k1⟩ := cx_ok e3 (s2.env.weak fun _ _ => trivial) e6 (fun _ _ => trivial)
    cases d0
    cases d1
    obtain ⟨wa, wc, rfl, hby, hwn⟩ := rdB_ok s2.rel d3 e10 e11
    have hdf : a2.defers = [] := by
      have := s2.df
      rw [List.isEmpty_iff.1 e9] at this
      cases hds : a2.defers with
      | nil => rfl
      | cons d ds => rw [hds] at this; exact this.elim
    have hsz : a2.tmps.size = 108 := s2.env.size
    have slot : ∀ (i : Nat) (v : Value), i < 108 → a2.eval (.tmp i) = v → a2.tmps[i]? = some v := fun i v hi h => by
      have h : a2.tmps.getD i undef = v := h
      rw [Array.getD_eq_getD_getElem?, Array.getElem?_eq_getElem (by omega)] at h
      rw [Array.getElem?_eq_getElem (by omega)]
      exact congrArg some h
    exact han_tail w a2 w2 n hn (movL n 65 67 66) wa wc hsz hdf (slot _ _ (by omega) k0) (slot _ _ (by omega) k3) (slot _ _ (by omega) k1) T (rel_below s2.rel) hby hwn
  · have g1 : decide ((9 : Int) < n) = true := decide_eq_true (by omega)
    clear hP
    go_enter Tryz.func18, Tryz.ntmps18
    go_wp2_with fail
    exact bodyPost_ret (v := .bool true) (by simp [results, Tryz.results18, go_sem]) rfl ⟨rfl, Below.refl _ _⟩
end Go.Proofs.YtgmmfjmdpbhjnaaGreat
