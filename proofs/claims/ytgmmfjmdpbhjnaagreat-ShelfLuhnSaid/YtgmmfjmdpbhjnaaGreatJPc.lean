/-
  Texts joined: HoC HoD HoE HoF HoG HoH HoI HoJ HoK HoL HoM NumP NuP.
-/
import Derived.Test.YtgmmfjmdpbhjnaaGreatJPa
import Derived.Test.YtgmmfjmdpbhjnaaGreatJPb
/-
  Operators at types, where numbers fit: more of them (printed by mkbn.py).
-/
namespace Go.Proofs.YtgmmfjmdpbhjnaaGreat
theorem b15_i_i {p q : Nat} (h1 : p < 32768) (h2 : q < 32768) (h : q ≤ 64) : binN 15 p q intT intT = some (p / 2 ^ q) := bn_shr (by decide) (show convN p intT intT = p from (cv_ii (by omega))) (cv_ih (by omega)) (fit_i (by omega)) h
theorem b16_i_i_f {p q : Nat} (h1 : p < 32768) (h2 : q < 32768) (h : q ≤ p) : binN 16 p q intT intT = some 0 := by
  refine (bn_lt (c := intT) rfl (cv_ii (by omega)) (cv_ii (by omega)) (fit_i (by omega)) (fit_i (by omega))).trans (congrArg some ?_)
  show truthN (decide (p < q)) = _
  rw [decide_eq_false (show ¬ p < q by omega)]; rfl
theorem b16_i_i_t {p q : Nat} (h1 : p < 32768) (h2 : q < 32768) (h : p < q) : binN 16 p q intT intT = some 1 := by
  refine (bn_lt (c := intT) rfl (cv_ii (by omega)) (cv_ii (by omega)) (fit_i (by omega)) (fit_i (by omega))).trans (congrArg some ?_)
  show truthN (decide (p < q)) = _
  rw [decide_eq_true (show p < q from h)]; rfl
theorem b18_i_i_f {p q : Nat} (h1 : p < 32768) (h2 : q < 32768) (h : p ≤ q) : binN 18 p q intT intT = some 0 := by
  refine (bn_gt (c := intT) rfl (cv_ii (by omega)) (cv_ii (by omega)) (fit_i (by omega)) (fit_i (by omega))).trans (congrArg some ?_)
  show truthN (decide (q < p)) = _
  rw [decide_eq_false (show ¬ q < p by omega)]; rfl
theorem b18_i_i_t {p q : Nat} (h1 : p < 32768) (h2 : q < 32768) (h : q < p) : binN 18 p q intT intT = some 1 := by
  refine (bn_gt (c := intT) rfl (cv_ii (by omega)) (cv_ii (by omega)) (fit_i (by omega)) (fit_i (by omega))).trans (congrArg some ?_)
  show truthN (decide (q < p)) = _
  rw [decide_eq_true (show q < p from h)]; rfl
theorem b20_b_b_f {p q : Nat} (h1 : p < 256) (h2 : q < 256) (h : p ≠ q) : binN 20 p q u8T u8T = some 0 := by
  refine (bn_eq (c := intT) rfl ((cv_ui (by simp only [Nat.reducePow]; omega)).trans (Nat.mod_eq_of_lt (by omega))) ((cv_ui (by simp only [Nat.reducePow]; omega)).trans (Nat.mod_eq_of_lt (by omega))) (fit_i (by omega)) (fit_i (by omega))).trans (congrArg some ?_)
  show truthN (!decide (p < q) && !decide (q < p)) = _
  rcases Nat.lt_or_gt_of_ne h with h | h
  · rw [decide_eq_true (show p < q from h), decide_eq_false (show ¬ q < p by omega)]; rfl
  · rw [decide_eq_false (show ¬ p < q by omega), decide_eq_true (show q < p from h)]; rfl
theorem b20_b_b_t {p q : Nat} (h1 : p < 256) (h2 : q < 256) (h : p = q) : binN 20 p q u8T u8T = some 1 := by
  refine (bn_eq (c := intT) rfl ((cv_ui (by simp only [Nat.reducePow]; omega)).trans (Nat.mod_eq_of_lt (by omega))) ((cv_ui (by simp only [Nat.reducePow]; omega)).trans (Nat.mod_eq_of_lt (by omega))) (fit_i (by omega)) (fit_i (by omega))).trans (congrArg some ?_)
  show truthN (!decide (p < q) && !decide (q < p)) = _
  rw [decide_eq_false (show ¬ p < q by omega), decide_eq_false (show ¬ q < p by omega)]; rfl
theorem b20_i_i_f {p q : Nat} (h1 : p < 32768) (h2 : q < 32768) (h : p ≠ q) : binN 20 p q intT intT = some 0 := by
  refine (bn_eq (c := intT) rfl (cv_ii (by omega)) (cv_ii (by omega)) (fit_i (by omega)) (fit_i (by omega))).trans (congrArg some ?_)
  show truthN (!decide (p < q) && !decide (q < p)) = _
  rcases Nat.lt_or_gt_of_ne h with h | h
  · rw [decide_eq_true (show p < q from h), decide_eq_false (show ¬ q < p by omega)]; rfl
  · rw [decide_eq_false (show ¬ p < q by omega), decide_eq_true (show q < p from h)]; rfl
theorem b20_i_i_t {p q : Nat} (h1 : p < 32768) (h2 : q < 32768) (h : p = q) : binN 20 p q intT intT = some 1 := by
  refine (bn_eq (c := intT) rfl (cv_ii (by omega)) (cv_ii (by omega)) (fit_i (by omega)) (fit_i (by omega))).trans (congrArg some ?_)
  show truthN (!decide (p < q) && !decide (q < p)) = _
  rw [decide_eq_false (show ¬ p < q by omega), decide_eq_false (show ¬ q < p by omega)]; rfl
theorem b21_i_i_f {p q : Nat} (h1 : p < 32768) (h2 : q < 32768) (h : p = q) : binN 21 p q intT intT = some 0 := by
  refine (bn_ne (c := intT) rfl (cv_ii (by omega)) (cv_ii (by omega)) (fit_i (by omega)) (fit_i (by omega))).trans (congrArg some ?_)
  show truthN (decide (p < q) || decide (q < p)) = _
  rw [decide_eq_false (show ¬ p < q by omega), decide_eq_false (show ¬ q < p by omega)]; rfl
theorem b21_i_i_t {p q : Nat} (h1 : p < 32768) (h2 : q < 32768) (h : p ≠ q) : binN 21 p q intT intT = some 1 := by
  refine (bn_ne (c := intT) rfl (cv_ii (by omega)) (cv_ii (by omega)) (fit_i (by omega)) (fit_i (by omega))).trans (congrArg some ?_)
  show truthN (decide (p < q) || decide (q < p)) = _
  rcases Nat.lt_or_gt_of_ne h with h | h
  · rw [decide_eq_true (show p < q from h), decide_eq_false (show ¬ q < p by omega)]; rfl
  · rw [decide_eq_false (show ¬ p < q by omega), decide_eq_true (show q < p from h)]; rfl
theorem b22_i_i {p q : Nat} (h1 : p < 32768) (h2 : q < 32768) : binN 22 p q intT intT = some (p &&& q) := bn_and (c := intT) rfl (cv_ii (by omega)) (cv_ii (by omega))
end Go.Proofs.YtgmmfjmdpbhjnaaGreat

/-
  Operators at types, where numbers fit: still more (printed by mkbn.py).
-/
namespace Go.Proofs.YtgmmfjmdpbhjnaaGreat
theorem b14_h_i_n {p q : Nat} (h1 : p < 65536) (h2 : q < 32768) (h : q ≤ 64) (h3 : p * 2 ^ q < 65536) : binN 14 p q uintT intT = some (p * 2 ^ q) := (bn_shl (by decide) (show convN p uintT uintT = p from (cv_uu (by simp only [Nat.reducePow]; omega) (by simp only [Nat.reducePow]; omega))) (cv_ih (by omega)) (show p < 2 ^ 16 from by simp only [Nat.reducePow]; omega) h).trans (congrArg some (Nat.mod_eq_of_lt h3))
theorem b14_h_i_w {p q : Nat} (h1 : p < 65536) (h2 : q < 32768) (h : q ≤ 64) : binN 14 p q uintT intT = some (p * 2 ^ q % 65536) := bn_shl (by decide) (show convN p uintT uintT = p from (cv_uu (by simp only [Nat.reducePow]; omega) (by simp only [Nat.reducePow]; omega))) (cv_ih (by omega)) (show p < 2 ^ 16 from by simp only [Nat.reducePow]; omega) h
theorem b22_h_h {p q : Nat} (h1 : p < 65536) (h2 : q < 65536) : binN 22 p q uintT uintT = some (p &&& q) := bn_and (c := uintT) rfl (cv_uu (by simp only [Nat.reducePow]; omega) (by simp only [Nat.reducePow]; omega)) (cv_uu (by simp only [Nat.reducePow]; omega) (by simp only [Nat.reducePow]; omega))
theorem b23_h_h {p q : Nat} (h1 : p < 65536) (h2 : q < 65536) : binN 23 p q uintT uintT = some (p ^^^ q) := bn_xor (c := uintT) rfl (cv_uu (by simp only [Nat.reducePow]; omega) (by simp only [Nat.reducePow]; omega)) (cv_uu (by simp only [Nat.reducePow]; omega) (by simp only [Nat.reducePow]; omega))
end Go.Proofs.YtgmmfjmdpbhjnaaGreat

/-
  Operators at types, where numbers fit: for reckoners (printed by mkbn.py).
-/
namespace Go.Proofs.YtgmmfjmdpbhjnaaGreat
theorem b11_q_q {p q : Nat} (h1 : p < 18446744073709551616) (h2 : q < 18446744073709551616) (h : 0 < q) : binN 11 p q u64T u64T = some (p % q) := bn_rem (c := u64T) rfl (by decide) (cv_uu (by simp only [Nat.reducePow]; omega) (by simp only [Nat.reducePow]; omega)) (cv_uu (by simp only [Nat.reducePow]; omega) (by simp only [Nat.reducePow]; omega)) (fit_q (by omega)) (fit_q (by omega)) h
theorem b21_q_h_f {p q : Nat} (h1 : p < 18446744073709551616) (h2 : q < 65536) (h : p = q) : binN 21 p q u64T uintT = some 0 := by
  refine (bn_ne (c := u64T) rfl (cv_uu (by simp only [Nat.reducePow]; omega) (by simp only [Nat.reducePow]; omega)) (cv_uu (by simp only [Nat.reducePow]; omega) (by simp only [Nat.reducePow]; omega)) (fit_q (by omega)) (fit_q (by omega))).trans (congrArg some ?_)
  show truthN (decide (p < q) || decide (q < p)) = _
  rw [decide_eq_false (show ¬ p < q by omega), decide_eq_false (show ¬ q < p by omega)]; rfl
theorem b21_q_h_t {p q : Nat} (h1 : p < 18446744073709551616) (h2 : q < 65536) (h : p ≠ q) : binN 21 p q u64T uintT = some 1 := by
  refine (bn_ne (c := u64T) rfl (cv_uu (by simp only [Nat.reducePow]; omega) (by simp only [Nat.reducePow]; omega)) (cv_uu (by simp only [Nat.reducePow]; omega) (by simp only [Nat.reducePow]; omega)) (fit_q (by omega)) (fit_q (by omega))).trans (congrArg some ?_)
  show truthN (decide (p < q) || decide (q < p)) = _
  rcases Nat.lt_or_gt_of_ne h with h | h
  · rw [decide_eq_true (show p < q from h), decide_eq_false (show ¬ q < p by omega)]; rfl
  · rw [decide_eq_false (show ¬ p < q by omega), decide_eq_true (show q < p from h)]; rfl
end Go.Proofs.YtgmmfjmdpbhjnaaGreat

/-
  Operators at types, where numbers fit: for reckoners, more (printed by mkbn.py).
-/
namespace Go.Proofs.YtgmmfjmdpbhjnaaGreat
theorem b13_q_h_n {p q : Nat} (h1 : p < 18446744073709551616) (h2 : q < 65536) (h : q ≤ p) : binN 13 p q u64T uintT = some (p - q) := (bn_sub (c := u64T) rfl (by decide) (cv_uu (by simp only [Nat.reducePow]; omega) (by simp only [Nat.reducePow]; omega)) (cv_uu (by simp only [Nat.reducePow]; omega) (by simp only [Nat.reducePow]; omega)) (show p < 2 ^ 64 from by simp only [Nat.reducePow]; omega) (show q < 2 ^ 64 from by simp only [Nat.reducePow]; omega)).trans (congrArg some (show (p + (18446744073709551616 - q)) % 18446744073709551616 = p - q by omega))
theorem b15_q_i {p q : Nat} (h1 : p < 18446744073709551616) (h2 : q < 32768) (h : q ≤ 64) : binN 15 p q u64T intT = some (p / 2 ^ q) := bn_shr (by decide) (show convN p u64T u64T = p from (cv_uu (by simp only [Nat.reducePow]; omega) (by simp only [Nat.reducePow]; omega))) (cv_ih (by omega)) (fit_q (by omega)) h
theorem b22_q_h {p q : Nat} (h1 : p < 18446744073709551616) (h2 : q < 65536) : binN 22 p q u64T uintT = some (p &&& q) := bn_and (c := u64T) rfl (cv_uu (by simp only [Nat.reducePow]; omega) (by simp only [Nat.reducePow]; omega)) (cv_uu (by simp only [Nat.reducePow]; omega) (by simp only [Nat.reducePow]; omega))
theorem b9_q_q_w {p q : Nat} (h1 : p < 18446744073709551616) (h2 : q < 18446744073709551616) : binN 9 p q u64T u64T = some (p * q % 18446744073709551616) := bn_mul (c := u64T) rfl (by decide) (cv_uu (by simp only [Nat.reducePow]; omega) (by simp only [Nat.reducePow]; omega)) (cv_uu (by simp only [Nat.reducePow]; omega) (by simp only [Nat.reducePow]; omega)) (show p < 2 ^ 64 from by simp only [Nat.reducePow]; omega) (show q < 2 ^ 64 from by simp only [Nat.reducePow]; omega)
end Go.Proofs.YtgmmfjmdpbhjnaaGreat

/-
  Operators at types, where numbers fit: for reckoners, still more (printed by mkbn.py).
-/
namespace Go.Proofs.YtgmmfjmdpbhjnaaGreat
theorem b11_w_w {p q : Nat} (h1 : p < 4294967296) (h2 : q < 4294967296) (h : 0 < q) : binN 11 p q u32T u32T = some (p % q) := bn_rem (c := u32T) rfl (by decide) (cv_uu (by simp only [Nat.reducePow]; omega) (by simp only [Nat.reducePow]; omega)) (cv_uu (by simp only [Nat.reducePow]; omega) (by simp only [Nat.reducePow]; omega)) (fit_w (by omega)) (fit_w (by omega)) h
theorem b12_q_q_n {p q : Nat} (h1 : p < 18446744073709551616) (h2 : q < 18446744073709551616) (h : p + q < 18446744073709551616) : binN 12 p q u64T u64T = some (p + q) := (bn_add (c := u64T) rfl (by decide) (cv_uu (by simp only [Nat.reducePow]; omega) (by simp only [Nat.reducePow]; omega)) (cv_uu (by simp only [Nat.reducePow]; omega) (by simp only [Nat.reducePow]; omega)) (show p < 2 ^ 64 from by simp only [Nat.reducePow]; omega) (show q < 2 ^ 64 from by simp only [Nat.reducePow]; omega)).trans (congrArg some (Nat.mod_eq_of_lt h))
theorem b16_w_w_f {p q : Nat} (h1 : p < 4294967296) (h2 : q < 4294967296) (h : q ≤ p) : binN 16 p q u32T u32T = some 0 := by
  refine (bn_lt (c := u32T) rfl (cv_uu (by simp only [Nat.reducePow]; omega) (by simp only [Nat.reducePow]; omega)) (cv_uu (by simp only [Nat.reducePow]; omega) (by simp only [Nat.reducePow]; omega)) (fit_w (by omega)) (fit_w (by omega))).trans (congrArg some ?_)
  show truthN (decide (p < q)) = _
  rw [decide_eq_false (show ¬ p < q by omega)]; rfl
theorem b16_w_w_t {p q : Nat} (h1 : p < 4294967296) (h2 : q < 4294967296) (h : p < q) : binN 16 p q u32T u32T = some 1 := by
  refine (bn_lt (c := u32T) rfl (cv_uu (by simp only [Nat.reducePow]; omega) (by simp only [Nat.reducePow]; omega)) (cv_uu (by simp only [Nat.reducePow]; omega) (by simp only [Nat.reducePow]; omega)) (fit_w (by omega)) (fit_w (by omega))).trans (congrArg some ?_)
  show truthN (decide (p < q)) = _
  rw [decide_eq_true (show p < q from h)]; rfl
theorem b17_q_q_f {p q : Nat} (h1 : p < 18446744073709551616) (h2 : q < 18446744073709551616) (h : q < p) : binN 17 p q u64T u64T = some 0 := by
  refine (bn_le (c := u64T) rfl (cv_uu (by simp only [Nat.reducePow]; omega) (by simp only [Nat.reducePow]; omega)) (cv_uu (by simp only [Nat.reducePow]; omega) (by simp only [Nat.reducePow]; omega)) (fit_q (by omega)) (fit_q (by omega))).trans (congrArg some ?_)
  show truthN (!decide (q < p)) = _
  rw [decide_eq_true (show q < p from h)]; rfl
theorem b17_q_q_t {p q : Nat} (h1 : p < 18446744073709551616) (h2 : q < 18446744073709551616) (h : p ≤ q) : binN 17 p q u64T u64T = some 1 := by
  refine (bn_le (c := u64T) rfl (cv_uu (by simp only [Nat.reducePow]; omega) (by simp only [Nat.reducePow]; omega)) (cv_uu (by simp only [Nat.reducePow]; omega) (by simp only [Nat.reducePow]; omega)) (fit_q (by omega)) (fit_q (by omega))).trans (congrArg some ?_)
  show truthN (!decide (q < p)) = _
  rw [decide_eq_false (show ¬ q < p by omega)]; rfl
theorem b20_w_h_f {p q : Nat} (h1 : p < 4294967296) (h2 : q < 65536) (h : p ≠ q) : binN 20 p q u32T uintT = some 0 := by
  refine (bn_eq (c := u32T) rfl (cv_uu (by simp only [Nat.reducePow]; omega) (by simp only [Nat.reducePow]; omega)) (cv_uu (by simp only [Nat.reducePow]; omega) (by simp only [Nat.reducePow]; omega)) (fit_w (by omega)) (fit_w (by omega))).trans (congrArg some ?_)
  show truthN (!decide (p < q) && !decide (q < p)) = _
  rcases Nat.lt_or_gt_of_ne h with h | h
  · rw [decide_eq_true (show p < q from h), decide_eq_false (show ¬ q < p by omega)]; rfl
  · rw [decide_eq_false (show ¬ p < q by omega), decide_eq_true (show q < p from h)]; rfl
theorem b20_w_h_t {p q : Nat} (h1 : p < 4294967296) (h2 : q < 65536) (h : p = q) : binN 20 p q u32T uintT = some 1 := by
  refine (bn_eq (c := u32T) rfl (cv_uu (by simp only [Nat.reducePow]; omega) (by simp only [Nat.reducePow]; omega)) (cv_uu (by simp only [Nat.reducePow]; omega) (by simp only [Nat.reducePow]; omega)) (fit_w (by omega)) (fit_w (by omega))).trans (congrArg some ?_)
  show truthN (!decide (p < q) && !decide (q < p)) = _
  rw [decide_eq_false (show ¬ p < q by omega), decide_eq_false (show ¬ q < p by omega)]; rfl
theorem b9_q_q_n {p q : Nat} (h1 : p < 18446744073709551616) (h2 : q < 18446744073709551616) (h : p * q < 18446744073709551616) : binN 9 p q u64T u64T = some (p * q) := (bn_mul (c := u64T) rfl (by decide) (cv_uu (by simp only [Nat.reducePow]; omega) (by simp only [Nat.reducePow]; omega)) (cv_uu (by simp only [Nat.reducePow]; omega) (by simp only [Nat.reducePow]; omega)) (show p < 2 ^ 64 from by simp only [Nat.reducePow]; omega) (show q < 2 ^ 64 from by simp only [Nat.reducePow]; omega)).trans (congrArg some (Nat.mod_eq_of_lt h))
end Go.Proofs.YtgmmfjmdpbhjnaaGreat

/-
  Operators at types, where numbers fit: the rest (printed by mkbn.py).
-/
namespace Go.Proofs.YtgmmfjmdpbhjnaaGreat
theorem b10_q_q {p q : Nat} (h1 : p < 18446744073709551616) (h2 : q < 18446744073709551616) (h : 0 < q) : binN 10 p q u64T u64T = some (p / q) := bn_quo (c := u64T) rfl (by decide) (cv_uu (by simp only [Nat.reducePow]; omega) (by simp only [Nat.reducePow]; omega)) (cv_uu (by simp only [Nat.reducePow]; omega) (by simp only [Nat.reducePow]; omega)) (fit_q (by omega)) (fit_q (by omega)) h
end Go.Proofs.YtgmmfjmdpbhjnaaGreat

/-
  Operators at types, where numbers fit: what is left (printed by mkbn.py).
-/
namespace Go.Proofs.YtgmmfjmdpbhjnaaGreat
theorem b16_q_h_f {p q : Nat} (h1 : p < 18446744073709551616) (h2 : q < 65536) (h : q ≤ p) : binN 16 p q u64T uintT = some 0 := by
  refine (bn_lt (c := u64T) rfl (cv_uu (by simp only [Nat.reducePow]; omega) (by simp only [Nat.reducePow]; omega)) (cv_uu (by simp only [Nat.reducePow]; omega) (by simp only [Nat.reducePow]; omega)) (fit_q (by omega)) (fit_q (by omega))).trans (congrArg some ?_)
  show truthN (decide (p < q)) = _
  rw [decide_eq_false (show ¬ p < q by omega)]; rfl
theorem b16_q_h_t {p q : Nat} (h1 : p < 18446744073709551616) (h2 : q < 65536) (h : p < q) : binN 16 p q u64T uintT = some 1 := by
  refine (bn_lt (c := u64T) rfl (cv_uu (by simp only [Nat.reducePow]; omega) (by simp only [Nat.reducePow]; omega)) (cv_uu (by simp only [Nat.reducePow]; omega) (by simp only [Nat.reducePow]; omega)) (fit_q (by omega)) (fit_q (by omega))).trans (congrArg some ?_)
  show truthN (decide (p < q)) = _
  rw [decide_eq_true (show p < q from h)]; rfl
theorem b22_q_w {p q : Nat} (h1 : p < 18446744073709551616) (h2 : q < 4294967296) : binN 22 p q u64T u32T = some (p &&& q) := bn_and (c := u64T) rfl (cv_uu (by simp only [Nat.reducePow]; omega) (by simp only [Nat.reducePow]; omega)) (cv_uu (by simp only [Nat.reducePow]; omega) (by simp only [Nat.reducePow]; omega))
end Go.Proofs.YtgmmfjmdpbhjnaaGreat

/-
  Operators at types, where numbers fit: of base64 and sort (printed by mkbn.py).
-/
namespace Go.Proofs.YtgmmfjmdpbhjnaaGreat
theorem b14_i_i_n {p q : Nat} (h1 : p < 32768) (h2 : q < 32768) (h : q ≤ 64) (h3 : p * 2 ^ q < 65536) : binN 14 p q intT intT = some (p * 2 ^ q) := (bn_shl (by decide) (show convN p intT intT = p from (cv_ii (by omega))) (cv_ih (by omega)) (show p < 2 ^ 16 from by simp only [Nat.reducePow]; omega) h).trans (congrArg some (Nat.mod_eq_of_lt h3))
theorem b24_i_i {p q : Nat} (h1 : p < 32768) (h2 : q < 32768) : binN 24 p q intT intT = some (p ||| q) := bn_or (c := intT) rfl (cv_ii (by omega)) (cv_ii (by omega))
end Go.Proofs.YtgmmfjmdpbhjnaaGreat

/-
  Operators at types, where numbers fit: of sort (printed by mkbn.py).
-/
namespace Go.Proofs.YtgmmfjmdpbhjnaaGreat
theorem b18_b_i_f {p q : Nat} (h1 : p < 256) (h2 : q < 32768) (h : p ≤ q) : binN 18 p q u8T intT = some 0 := by
  refine (bn_gt (c := intT) rfl ((cv_ui (by simp only [Nat.reducePow]; omega)).trans (Nat.mod_eq_of_lt (by omega))) (cv_ii (by omega)) (fit_i (by omega)) (fit_i (by omega))).trans (congrArg some ?_)
  show truthN (decide (q < p)) = _
  rw [decide_eq_false (show ¬ q < p by omega)]; rfl
theorem b18_b_i_t {p q : Nat} (h1 : p < 256) (h2 : q < 32768) (h : q < p) : binN 18 p q u8T intT = some 1 := by
  refine (bn_gt (c := intT) rfl ((cv_ui (by simp only [Nat.reducePow]; omega)).trans (Nat.mod_eq_of_lt (by omega))) (cv_ii (by omega)) (fit_i (by omega)) (fit_i (by omega))).trans (congrArg some ?_)
  show truthN (decide (q < p)) = _
  rw [decide_eq_true (show q < p from h)]; rfl
end Go.Proofs.YtgmmfjmdpbhjnaaGreat

/-
  Operators at types, where numbers fit: of the last reckoners (printed by mkbn.py).
-/
namespace Go.Proofs.YtgmmfjmdpbhjnaaGreat
theorem b20_q_h_f {p q : Nat} (h1 : p < 18446744073709551616) (h2 : q < 65536) (h : p ≠ q) : binN 20 p q u64T uintT = some 0 := by
  refine (bn_eq (c := u64T) rfl (cv_uu (by simp only [Nat.reducePow]; omega) (by simp only [Nat.reducePow]; omega)) (cv_uu (by simp only [Nat.reducePow]; omega) (by simp only [Nat.reducePow]; omega)) (fit_q (by omega)) (fit_q (by omega))).trans (congrArg some ?_)
  show truthN (!decide (p < q) && !decide (q < p)) = _
  rcases Nat.lt_or_gt_of_ne h with h | h
  · rw [decide_eq_true (show p < q from h), decide_eq_false (show ¬ q < p by omega)]; rfl
  · rw [decide_eq_false (show ¬ p < q by omega), decide_eq_true (show q < p from h)]; rfl
theorem b20_q_h_t {p q : Nat} (h1 : p < 18446744073709551616) (h2 : q < 65536) (h : p = q) : binN 20 p q u64T uintT = some 1 := by
  refine (bn_eq (c := u64T) rfl (cv_uu (by simp only [Nat.reducePow]; omega) (by simp only [Nat.reducePow]; omega)) (cv_uu (by simp only [Nat.reducePow]; omega) (by simp only [Nat.reducePow]; omega)) (fit_q (by omega)) (fit_q (by omega))).trans (congrArg some ?_)
  show truthN (!decide (p < q) && !decide (q < p)) = _
  rw [decide_eq_false (show ¬ p < q by omega), decide_eq_false (show ¬ q < p by omega)]; rfl
theorem b22_q_q {p q : Nat} (h1 : p < 18446744073709551616) (h2 : q < 18446744073709551616) : binN 22 p q u64T u64T = some (p &&& q) := bn_and (c := u64T) rfl (cv_uu (by simp only [Nat.reducePow]; omega) (by simp only [Nat.reducePow]; omega)) (cv_uu (by simp only [Nat.reducePow]; omega) (by simp only [Nat.reducePow]; omega))
theorem b9_q_h_n {p q : Nat} (h1 : p < 18446744073709551616) (h2 : q < 65536) (h : p * q < 18446744073709551616) : binN 9 p q u64T uintT = some (p * q) := (bn_mul (c := u64T) rfl (by decide) (cv_uu (by simp only [Nat.reducePow]; omega) (by simp only [Nat.reducePow]; omega)) (cv_uu (by simp only [Nat.reducePow]; omega) (by simp only [Nat.reducePow]; omega)) (show p < 2 ^ 64 from by simp only [Nat.reducePow]; omega) (show q < 2 ^ 64 from by simp only [Nat.reducePow]; omega)).trans (congrArg some (Nat.mod_eq_of_lt h))
end Go.Proofs.YtgmmfjmdpbhjnaaGreat

/-
  Operators at types, where numbers fit: of primes, and what is behind (printed by mkbn.py).
-/
namespace Go.Proofs.YtgmmfjmdpbhjnaaGreat
theorem b11_h_h {p q : Nat} (h1 : p < 65536) (h2 : q < 65536) (h : 0 < q) : binN 11 p q uintT uintT = some (p % q) := bn_rem (c := uintT) rfl (by decide) (cv_uu (by simp only [Nat.reducePow]; omega) (by simp only [Nat.reducePow]; omega)) (cv_uu (by simp only [Nat.reducePow]; omega) (by simp only [Nat.reducePow]; omega)) (fit_h (by omega)) (fit_h (by omega)) h
theorem b12_h_h_n {p q : Nat} (h1 : p < 65536) (h2 : q < 65536) (h : p + q < 65536) : binN 12 p q uintT uintT = some (p + q) := (bn_add (c := uintT) rfl (by decide) (cv_uu (by simp only [Nat.reducePow]; omega) (by simp only [Nat.reducePow]; omega)) (cv_uu (by simp only [Nat.reducePow]; omega) (by simp only [Nat.reducePow]; omega)) (show p < 2 ^ 16 from by simp only [Nat.reducePow]; omega) (show q < 2 ^ 16 from by simp only [Nat.reducePow]; omega)).trans (congrArg some (Nat.mod_eq_of_lt h))
theorem b13_i_b_w {p q : Nat} (h1 : p < 32768) (h2 : q < 256) : binN 13 p q intT u8T = some ((p + (65536 - q)) % 65536) := bn_sub (c := intT) rfl (by decide) (cv_ii (by omega)) ((cv_ui (by simp only [Nat.reducePow]; omega)).trans (Nat.mod_eq_of_lt (by omega))) (show p < 2 ^ 16 from by simp only [Nat.reducePow]; omega) (show q < 2 ^ 16 from by simp only [Nat.reducePow]; omega)
theorem b18_i_q_f {p q : Nat} (h1 : p < 32768) (h2 : q < 18446744073709551616) (h : p ≤ q) : binN 18 p q intT u64T = some 0 := by
  refine (bn_gt (c := u64T) rfl ((cv_iu (by omega)).trans (Nat.mod_eq_of_lt (by simp only [Nat.reducePow]; omega))) (cv_uu (by simp only [Nat.reducePow]; omega) (by simp only [Nat.reducePow]; omega)) (fit_q (by omega)) (fit_q (by omega))).trans (congrArg some ?_)
  show truthN (decide (q < p)) = _
  rw [decide_eq_false (show ¬ q < p by omega)]; rfl
theorem b18_i_q_t {p q : Nat} (h1 : p < 32768) (h2 : q < 18446744073709551616) (h : q < p) : binN 18 p q intT u64T = some 1 := by
  refine (bn_gt (c := u64T) rfl ((cv_iu (by omega)).trans (Nat.mod_eq_of_lt (by simp only [Nat.reducePow]; omega))) (cv_uu (by simp only [Nat.reducePow]; omega) (by simp only [Nat.reducePow]; omega)) (fit_q (by omega)) (fit_q (by omega))).trans (congrArg some ?_)
  show truthN (decide (q < p)) = _
  rw [decide_eq_true (show q < p from h)]; rfl
theorem b20_h_h_f {p q : Nat} (h1 : p < 65536) (h2 : q < 65536) (h : p ≠ q) : binN 20 p q uintT uintT = some 0 := by
  refine (bn_eq (c := uintT) rfl (cv_uu (by simp only [Nat.reducePow]; omega) (by simp only [Nat.reducePow]; omega)) (cv_uu (by simp only [Nat.reducePow]; omega) (by simp only [Nat.reducePow]; omega)) (fit_h (by omega)) (fit_h (by omega))).trans (congrArg some ?_)
  show truthN (!decide (p < q) && !decide (q < p)) = _
  rcases Nat.lt_or_gt_of_ne h with h | h
  · rw [decide_eq_true (show p < q from h), decide_eq_false (show ¬ q < p by omega)]; rfl
  · rw [decide_eq_false (show ¬ p < q by omega), decide_eq_true (show q < p from h)]; rfl
theorem b20_h_h_t {p q : Nat} (h1 : p < 65536) (h2 : q < 65536) (h : p = q) : binN 20 p q uintT uintT = some 1 := by
  refine (bn_eq (c := uintT) rfl (cv_uu (by simp only [Nat.reducePow]; omega) (by simp only [Nat.reducePow]; omega)) (cv_uu (by simp only [Nat.reducePow]; omega) (by simp only [Nat.reducePow]; omega)) (fit_h (by omega)) (fit_h (by omega))).trans (congrArg some ?_)
  show truthN (!decide (p < q) && !decide (q < p)) = _
  rw [decide_eq_false (show ¬ p < q by omega), decide_eq_false (show ¬ q < p by omega)]; rfl
theorem b9_i_i_n {p q : Nat} (h1 : p < 32768) (h2 : q < 32768) (h : p * q < 65536) : binN 9 p q intT intT = some (p * q) := (bn_mul (c := intT) rfl (by decide) (cv_ii (by omega)) (cv_ii (by omega)) (show p < 2 ^ 16 from by simp only [Nat.reducePow]; omega) (show q < 2 ^ 16 from by simp only [Nat.reducePow]; omega)).trans (congrArg some (Nat.mod_eq_of_lt h))
end Go.Proofs.YtgmmfjmdpbhjnaaGreat

/-
  What num means, plainly: it reads a number's digits, and what stands behind them.
-/
namespace Go.Proofs.YtgmmfjmdpbhjnaaGreat

def numC : Ex := .either false (.bin 19 (.loc 1) (.num 48) intT intT) (.bin 17 (.loc 1) (.num 57) intT intT)
def numX : Sm := .setl 0 (.bin 12 (.bin 9 (.loc 0) (.num 10) u64T uintT) (.cast (.bin 13 (.loc 1) (.num 48) intT intT) intT u64T) u64T u64T) u64T u64T
def numG : Sm := .setl 1 .get intT intT
def numW : List Sm := [numX, numG]
def numI : Sm := .setl 0 (.num 0) uintT u64T
def numR : Sm := .ret (.loc 0) u64T u64T
def numB : List Sm := [numI, numG, .whl numC numW, numR]
/-- digits as a number -/
def valN (n : Nat) (l : List Nat) : Nat := l.foldl (fun n d => (n * 10 % 18446744073709551616 + (d - 48)) % 18446744073709551616) n
theorem valN_lt {n : Nat} (h : n < 18446744073709551616) : ∀ l : List Nat, valN n l < 18446744073709551616 := fun l => by
  induction l generalizing n with
  | nil => exact h
  | cons d l ih => exact ih (Nat.mod_lt _ (by decide))
theorem valN_digs : ∀ (m n : Nat), n ≤ m → n < 18446744073709551616 → valN 0 (digs n) = n
  | m, n, hm, hn => by
    by_cases h : n < 10
    · rw [digs_lt h]
      show (0 * 10 % 18446744073709551616 + (n + 48 - 48)) % 18446744073709551616 = n
      omega
    · cases m with
      | zero => omega
      | succ m =>
        rw [digs_ge (by omega)]
        unfold valN
        rw [List.foldl_append]
        have ih := valN_digs m (n / 10) (by omega) (by omega)
        unfold valN at ih
        rw [ih]
        show (n / 10 * 10 % 18446744073709551616 + (n % 10 + 48 - 48)) % 18446744073709551616 = n
        omega
/-- numbers, each with a blank behind -/
def askL (l : List Nat) : List Nat := l.flatMap fun n => digs n ++ [32]
theorem askL_lt (l : List Nat) : ∀ v ∈ askL l, v < 256 := fun v hv => by
  unfold askL at hv
  obtain ⟨n, _, h⟩ := List.mem_flatMap.1 hv
  rcases List.mem_append.1 h with h | h
  · have := digs_dig n n (Nat.le_refl n) v h
    omega
  · have : v = 32 := by simpa using h
    omega
theorem cur_drop {inp : List Nat} {i d : Nat} {l : List Nat} (h : inp.drop i = d :: l) : curC inp i = d ∧ inp.drop (i + 1) = l := by
  have h0 : inp[i]? = some d := by
    have : (inp.drop i)[0]? = some d := by rw [h]; rfl
    rwa [List.getElem?_drop, Nat.add_zero] at this
  refine ⟨by unfold curC; rw [h0]; rfl, ?_⟩
  rw [← List.drop_drop, h]
  rfl

section
variable {inp : List Nat} {bd : List (List Sm × Nat)}
theorem num_loop (rest : List Nat) (out : List Nat) (cl : Nat) (gl : List (List Nat)) (r : Nat) : ∀ (ds : List Nat) (i n tk : Nat), (∀ d ∈ ds, 48 ≤ d ∧ d ≤ 57) → inp.drop i = ds ++ 32 :: rest → n < 18446744073709551616 →
    ∃ tk', XW inp bd numC numW ⟨tk, out, min (i + 1) inp.length, cl, gl⟩ ⟨[n, curC inp i], r⟩ (.go 0 ⟨tk', out, min (i + ds.length + 1) inp.length, cl, gl⟩ ⟨[valN n ds, 32], r⟩) ∧ tk' ≤ tk + 30 * ds.length + 10
  | [], i, n, tk, hd, hi, hn => by
    obtain ⟨hc, _⟩ := cur_drop hi
    rw [hc]
    have h : X inp bd numC (Ms.tick ⟨tk, out, min (i + 1) inp.length, cl, gl⟩) [n, 32] (.val 0 ⟨tk + 1 + 4, out, min (i + 1) inp.length, cl, gl⟩) := (X.stop (X.bin (X.loc rfl) (X.num _) (b19_i_i_f (by omega) (by omega) (by omega))) (by decide))
    exact ⟨_, XW.done h, by simp only [List.length_nil]; omega⟩
  | d :: ds, i, n, tk, hd, hi, hn => by
    obtain ⟨hc, hi'⟩ := cur_drop hi
    obtain ⟨hd1, hd2⟩ := hd d (by simp)
    have h1 : X inp bd numC (Ms.tick ⟨tk, out, min (i + 1) inp.length, cl, gl⟩) [n, d] (.val 1 ⟨tk + 1 + 7, out, min (i + 1) inp.length, cl, gl⟩) := (X.both (X.bin (X.loc rfl) (X.num _) (b19_i_i_t (by omega) (by omega) (by omega))) (by decide) (X.bin (X.loc rfl) (X.num _) (b17_i_i_t (by omega) (by omega) (by omega))))
    have hcc : curC inp (i + 1) < 65536 := by
      cases ds with
      | nil => rw [(cur_drop (l := rest) hi').1]; omega
      | cons e ds => rw [(cur_drop (l := ds ++ 32 :: rest) hi').1]; have := hd e (by simp); omega
    have h2 : XQ inp bd numW ⟨tk + 1 + 7, out, min (i + 1) inp.length, cl, gl⟩ ⟨[n, d], r⟩ (.go 0 ⟨tk + 1 + 7 + 11, out, min (i + 1 + 1) inp.length, cl, gl⟩ ⟨[(n * 10 % 18446744073709551616 + (d - 48)) % 18446744073709551616, curC inp (i + 1)], r⟩) := (XQ.cons (XS.setls (X.bin (X.bin (X.loc rfl) (X.num _) (b9_q_h_w (by omega) (by omega))) (X.casts (X.bin (X.loc rfl) (X.num _) (b13_i_i_n (by omega) (by omega) (by omega))) (c_i_q (by omega))) (b12_q_q_w (by omega) (by omega))) (c_q_q (by omega)) (of_decide_eq_true rfl)) (XQ.cons (XS.setls (X.gets rfl) (c_i_i hcc) (of_decide_eq_true rfl)) XQ.nil))
    obtain ⟨tk', h3, h4⟩ := num_loop rest out cl gl r ds (i + 1) _ (tk + 1 + 7 + 11) (fun x hx => hd x (by simp [hx])) hi' (Nat.mod_lt _ (by decide))
    rw [hc]
    refine ⟨tk', ?_, by simp only [List.length_cons]; omega⟩
    rw [show i + (d :: ds).length + 1 = i + 1 + ds.length + 1 by simp only [List.length_cons]; omega]
    exact XW.step h1 (by decide) h2 (.inl rfl) h3
/-- What num does. -/
theorem num_means {k : Nat} (hk : bd[k]? = some (numB, 2)) {ds rest : List Nat} (hd : ∀ d ∈ ds, 48 ≤ d ∧ d ≤ 57) {i : Nat} (hi : inp.drop i = ds ++ 32 :: rest) (tk : Nat) (out : List Nat) {cl : Nat} (hcl : cl ≠ 60) (gl : List (List Nat)) :
    ∃ tk', XF inp bd k [] ⟨tk, out, min i inp.length, cl, gl⟩ (.val (valN 0 ds) ⟨tk', out, min (i + ds.length + 1) inp.length, cl, gl⟩) ∧ tk' ≤ tk + 30 * ds.length + 30 := by
  have hcc : curC inp i < 65536 := by
    cases ds with
    | nil => rw [(cur_drop hi).1]; omega
    | cons d ds => rw [(cur_drop hi).1]; have := hd d (by simp); omega
  obtain ⟨tk', h1, h2⟩ := num_loop (inp := inp) (bd := bd) rest out (cl + 1) gl 0 ds i 0 (tk + 2 + 2 + 1) hd hi (by omega)
  have hv := valN_lt (n := 0) (by decide) ds
  have q : XQ inp bd numB ⟨tk, out, min i inp.length, cl + 1, gl⟩ ⟨[0, 0], 0⟩ (.go 1 ⟨tk' + 2, out, min (i + ds.length + 1) inp.length, cl + 1, gl⟩ ⟨[valN 0 ds, 32], valN 0 ds⟩) :=
    XQ.cons (XS.setls (X.num _) (c_h_q (by omega)) (of_decide_eq_true rfl)) (XQ.cons (XS.setls (X.gets rfl) (c_i_i (by omega)) (of_decide_eq_true rfl)) (XQ.cons (XS.whl h1) (XQ.stop (XS.rets (X.loc rfl) (c_q_q (by omega))) (by decide))))
  exact ⟨_, XF.runs hk hcl q, by omega⟩
end
end Go.Proofs.YtgmmfjmdpbhjnaaGreat

/-
  Programs that read numbers; what gcd, fibonacci, power mean, plainly.
-/
namespace Go.Proofs.YtgmmfjmdpbhjnaaGreat

section
variable {inp : List Nat} {bd : List (List Sm × Nat)}
theorem digs_20 {n : Nat} (h : n < 18446744073709551616) : (digs n).length ≤ 20 := (digs_len 19 n (Nat.lt_of_lt_of_le h (by decide))).2
/-- a number is read -/
theorem num_read {k : Nat} (hk : bd[k]? = some (numB, 2)) {n : Nat} (hn : n < 18446744073709551616) {i : Nat} {rest : List Nat} (hi : inp.drop i = digs n ++ 32 :: rest) (tk : Nat) (out : List Nat) {cl : Nat} (hcl : cl ≠ 60) (gl : List (List Nat)) :
    ∃ tk', XF inp bd k [] ⟨tk, out, min i inp.length, cl, gl⟩ (.val n ⟨tk', out, min (i + ((digs n).length + 1)) inp.length, cl, gl⟩) ∧ tk' ≤ tk + 630 := by
  obtain ⟨tk', h1, h2⟩ := num_means (inp := inp) (bd := bd) hk (digs_dig n n (Nat.le_refl n)) hi tk out hcl gl
  rw [valN_digs n n (Nat.le_refl n) hn, Nat.add_assoc] at h1
  have := digs_20 hn
  exact ⟨tk', h1, by omega⟩
theorem drop_ask (a : Nat) (l : List Nat) : (askL (a :: l)).drop 0 = digs a ++ 32 :: askL l := by
  unfold askL
  rw [List.drop_zero, List.flatMap_cons]
  simp
theorem drop_next (a : Nat) {l : List Nat} {k : Nat} (h : inp.drop k = digs a ++ 32 :: l) : inp.drop (k + ((digs a).length + 1)) = l := by
  rw [← List.drop_drop, h, ← List.drop_drop, List.drop_append_of_le_length (Nat.le_refl _), List.drop_length]
  rfl
/-- tells_ok's wish, where a number is told at the end -/
theorem means_le {k v : Nat} {tk : Nat} {out : List Nat} {rd cl : Nat} {gl0 gl : List (List Nat)} (h : XF inp bd k [] ⟨0, [], 0, 0, gl0⟩ (.val v ⟨tk, out, rd, cl, gl⟩)) (h1 : tk ≤ 200000) (h2 : out.length ≤ 65536) :
    ∃ n v s, evF inp bd n k [] ⟨0, [], 0, 0, gl0⟩ = some (.val v s) ∧ s.out = out ∧ s.tk ≤ 200000 ∧ s.out.length ≤ 65536 := by
  obtain ⟨n, h⟩ := h
  exact ⟨n, v, _, h, rfl, h1, h2⟩
theorem line_short {n : Nat} (h : n < 18446744073709551616) : (digs n ++ [10]).length ≤ 21 := by
  have := digs_20 h
  rw [List.length_append]
  simp
  omega

/-! ### gcd -/
def gcdI : List Sm := [.setl 0 (.call 1 []) u64T u64T, .setl 1 (.call 1 []) u64T u64T]
def gcdC : Ex := .bin 21 (.loc 1) (.num 0) u64T uintT
def gcdW : List Sm := [.setl 2 (.bin 11 (.loc 0) (.loc 1) u64T u64T) u64T u64T, .setl 0 (.loc 1) u64T u64T, .setl 1 (.loc 2) u64T u64T]
def gcdD : List Sm := [.ex (.call 0 [(.loc 0, u64T, u64T)]), .ret (.num 0) intT intT]
def gcdM : List Sm := gcdI ++ (.whl gcdC gcdW :: gcdD)
def gcdBd : List (List Sm × Nat) := [(decB, 2), (numB, 2), (gcdM, 3)]
theorem gcd_loop (out : List Nat) (rd cl : Nat) (gl : List (List Nat)) (r : Nat) : ∀ (m x y z tk : Nat), x < 18446744073709551616 → y < 18446744073709551616 → y < 2 ^ m →
    ∃ z' tk', XW inp bd gcdC gcdW ⟨tk, out, rd, cl, gl⟩ ⟨[x, y, z], r⟩ (.go 0 ⟨tk', out, rd, cl, gl⟩ ⟨[Nat.gcd x y, 0, z'], r⟩) ∧ tk' ≤ tk + 40 * m + 4 := by
  have done : ∀ (x z tk : Nat), X inp bd gcdC (Ms.tick ⟨tk, out, rd, cl, gl⟩) [x, 0, z] (.val 0 ⟨tk + 1 + 3, out, rd, cl, gl⟩) := fun x z tk => (X.bin (X.loc rfl) (X.num _) (b21_q_h_f (by omega) (by omega) (by omega)))
  have step : ∀ (x y z tk : Nat), x < 18446744073709551616 → y < 18446744073709551616 → 0 < y → (X inp bd gcdC (Ms.tick ⟨tk, out, rd, cl, gl⟩) [x, y, z] (.val 1 ⟨tk + 1 + 3, out, rd, cl, gl⟩)) ∧ XQ inp bd gcdW ⟨tk + 1 + 3, out, rd, cl, gl⟩ ⟨[x, y, z], r⟩ (.go 0 ⟨tk + 1 + 3 + 8, out, rd, cl, gl⟩ ⟨[y, x % y, x % y], r⟩) := fun x y z tk hx hy h0 => by
    have hm : x % y < 18446744073709551616 := Nat.lt_of_le_of_lt (Nat.mod_le x y) hx
    exact ⟨(X.bin (X.loc rfl) (X.num _) (b21_q_h_t (by omega) (by omega) (by omega))), (XQ.cons (XS.setls (X.bin (X.loc rfl) (X.loc rfl) (b11_q_q (by omega) (by omega) (by omega))) (c_q_q (by omega)) (of_decide_eq_true rfl)) (XQ.cons (XS.setls (X.loc rfl) (c_q_q (by omega)) (of_decide_eq_true rfl)) (XQ.cons (XS.setls (X.loc rfl) (c_q_q (by omega)) (of_decide_eq_true rfl)) XQ.nil)))⟩
  intro m
  induction m with
  | zero =>
    intro x y z tk hx hy h
    obtain rfl : y = 0 := by simpa using h
    rw [Nat.gcd_zero_right]
    exact ⟨z, _, XW.done (done x z tk), by omega⟩
  | succ m ih =>
    intro x y z tk hx hy h
    by_cases h0 : y = 0
    · subst h0
      rw [Nat.gcd_zero_right]
      exact ⟨z, _, XW.done (done x z tk), by omega⟩
    · obtain ⟨c1, b1⟩ := step x y z tk hx hy (by omega)
      have hlt : x % y < y := Nat.mod_lt _ (by omega)
      have e1 : Nat.gcd x y = Nat.gcd y (x % y) := by rw [Nat.gcd_comm x y, Nat.gcd_rec y x, Nat.gcd_comm]
      by_cases h1 : x % y = 0
      · rw [h1] at b1
        rw [e1, h1, Nat.gcd_zero_right]
        exact ⟨0, _, XW.step c1 (by decide) b1 (.inl rfl) (XW.done (done _ _ _)), by omega⟩
      · obtain ⟨c2, b2⟩ := step y (x % y) (x % y) (tk + 1 + 3 + 8) hy (by omega) (by omega)
        have e2 : Nat.gcd y (x % y) = Nat.gcd (x % y) (y % (x % y)) := by rw [Nat.gcd_comm y (x % y), Nat.gcd_rec (x % y) y, Nat.gcd_comm]
        have hh : y % (x % y) < 2 ^ m := by
          have h2 : y % (x % y) < x % y := Nat.mod_lt _ (by omega)
          have h3 : y % (x % y) ≤ y - x % y := by
            have := Nat.mod_add_div y (x % y)
            have h4 : 1 ≤ y / (x % y) := Nat.div_pos (by omega) (by omega)
            have h5 : x % y * 1 ≤ x % y * (y / (x % y)) := Nat.mul_le_mul_left _ h4
            omega
          rw [Nat.pow_succ] at h
          omega
        obtain ⟨z', tk', h6, h7⟩ := ih (x % y) (y % (x % y)) (y % (x % y)) (tk + 1 + 3 + 8 + 1 + 3 + 8) (by omega) (Nat.lt_of_le_of_lt (Nat.mod_le _ _) hy) hh
        rw [e1, e2]
        exact ⟨z', tk', XW.step c1 (by decide) b1 (.inl rfl) (XW.step c2 (by decide) b2 (.inl rfl) h6), by omega⟩
theorem gcd_means {a b : Nat} (ha : a < 18446744073709551616) (hb : b < 18446744073709551616) : ∃ n v s, evF (askL [a, b]) gcdBd n 2 [] ⟨0, [], 0, 0, [List.replicate 20 0]⟩ = some (.val v s) ∧ s.out = digs (Nat.gcd a b) ++ [10] ∧ s.tk ≤ 200000 ∧ s.out.length ≤ 65536 := by
  obtain ⟨inp, hinp⟩ : ∃ inp, inp = askL [a, b] := ⟨_, rfl⟩
  have d0 := drop_ask a [b]
  rw [← hinp] at d0 ⊢
  obtain ⟨t1, h1, k1⟩ := num_read (inp := inp) (bd := gcdBd) (k := 1) rfl ha d0 2 [] (cl := 1) (by omega) [List.replicate 20 0]
  have d1 := drop_next a d0
  rw [show askL [b] = digs b ++ 32 :: [] by unfold askL; simp] at d1
  obtain ⟨t2, h2, k2⟩ := num_read (inp := inp) (bd := gcdBd) (k := 1) rfl hb d1 (t1 + 2) [] (cl := 1) (by omega) [List.replicate 20 0]
  generalize min (0 + ((digs a).length + 1) + ((digs b).length + 1)) inp.length = rd2 at *
  generalize min (0 + ((digs a).length + 1)) inp.length = rd1 at *
  rw [Nat.zero_min] at h1
  obtain ⟨z', t3, h3, k3⟩ := gcd_loop (inp := inp) (bd := gcdBd) [] rd2 1 [List.replicate 20 0] 0 64 a b 0 (t2 + 1) ha hb hb
  have hg : Nat.gcd a b < 18446744073709551616 := by
    by_cases h : a = 0
    · subst h; rw [Nat.gcd_zero_left]; exact hb
    · exact Nat.lt_of_le_of_lt (Nat.gcd_le_left b (by omega)) ha
  obtain ⟨t4, b', h4, k4, k5⟩ := dec_means (inp := inp) (bd := gcdBd) (k := 0) rfl hg (t3 + 3) [] rd2 (cl := 1) (by omega) (b := List.replicate 20 0) (by simp) []
  have q : XQ inp gcdBd gcdM ⟨0, [], 0, 1, [List.replicate 20 0]⟩ ⟨[0, 0, 0], 0⟩ (.go 1 ⟨t4 + 2, [] ++ (digs (Nat.gcd a b) ++ [10]), rd2, 1, [b']⟩ ⟨[Nat.gcd a b, 0, z'], 0⟩) :=
    XQ.app (s1 := ⟨t2, [], rd2, 1, [List.replicate 20 0]⟩) (F1 := ⟨[a, b, 0], 0⟩) (XQ.cons (XS.setls (X.call (XA.nil _) h1) (c_q_q (by omega)) (of_decide_eq_true rfl)) (XQ.cons (XS.setls (X.call (XA.nil _) h2) (c_q_q (by omega)) (of_decide_eq_true rfl)) XQ.nil)) (XQ.cons (XS.whl h3) (XQ.cons (XS.ex (X.call (XA.conss (X.loc rfl) (c_q_q (by omega)) (XA.nil _)) h4)) (XQ.stop (XS.rets (X.num _) (c_i_i (by omega))) (by decide))))
  have hl := line_short hg
  exact means_le (XF.runs (k := 2) rfl (by omega) q) (by omega) (by omega)
end
end Go.Proofs.YtgmmfjmdpbhjnaaGreat
