/-
  Operators at types, where numbers fit: more of them (printed by mkbn.py).
-/
import Derived.Test.YtclpjglkjkbljaaGreatJPa
namespace Go.Proofs.YtclpjglkjkbljaaGreat
theorem b15_i_i {p q : Nat} (h1 : p < 32768) (h2 : q < 32768) (h : q ≤ 64) : binN 15 p q intT intT = some (p / 2 ^ q) := bn_shr (by decide) (show convN p intT intT = p from (cv_ii (by omega))) (cv_ih (by omega)) (fit_i (by omega)) h
theorem b16_i_i_f {p q : Nat} (h1 : p < 32768) (h2 : q < 32768) (h : q ≤ p) : binN 16 p q intT intT = some 0 := by
  refine (bn_lt (c := intT) rfl (cv_ii (by omega)) (cv_ii (by omega)) (fit_i (by omega)) (fit_i (by omega))).trans (congrArg some ?_)
  show truthN (decide (p < q)) = _
  rw [decide_eq_false (show ¬ p < q by omega)]; rfl
theorem b16_i_i_t {p q : Nat} (h1 : p < 32768) (h2 : q < 32768) (h : p < q) : binN 16 p q intT intT = some 1 := by
  refine (bn_lt (c := intT) rfl (cv_ii (by omega)) (cv_ii (by omega)) (fit_i (by omega)) (fit_i (by omega))).trans (congrArg some ?_)
  show truthN (decide (p < q)) = _
  rw [decide_eq_true (show p < q from h)]; rfl
theorem b18_i_i_f {p q : Nat} (h1 : p < 32768) (h2 : q < 32768) (h : p ≤ q) : binN 18 p q intT intT = some 0 := by
  refine (bn_gt (c := intT) rfl (cv_ii (by omega)) (cv_ii (by omega)) (fit_i (by omega)) (fit_i (by omega))).trans (congrArg some ?_)
  show truthN (decide (q < p)) = _
  rw [decide_eq_false (show ¬ q < p by omega)]; rfl
theorem b18_i_i_t {p q : Nat} (h1 : p < 32768) (h2 : q < 32768) (h : q < p) : binN 18 p q intT intT = some 1 := by
  refine (bn_gt (c := intT) rfl (cv_ii (by omega)) (cv_ii (by omega)) (fit_i (by omega)) (fit_i (by omega))).trans (congrArg some ?_)
  show truthN (decide (q < p)) = _
  rw [decide_eq_true (show q < p from h)]; rfl
theorem b20_b_b_f {p q : Nat} (h1 : p < 256) (h2 : q < 256) (h : p ≠ q) : binN 20 p q u8T u8T = some 0 := by
  refine (bn_eq (c := intT) rfl ((cv_ui (by simp only [Nat.reducePow]; omega)).trans (Nat.mod_eq_of_lt (by omega))) ((cv_ui (by simp only [Nat.reducePow]; omega)).trans (Nat.mod_eq_of_lt (by omega))) (fit_i (by omega)) (fit_i (by omega))).trans (congrArg some ?_)
  show truthN (!decide (p < q) && !decide (q < p)) = _
  rcases Nat.lt_or_gt_of_ne h with h | h
  · rw [decide_eq_true (show p < q from h), decide_eq_false (show ¬ q < p by omega)]; rfl
  · rw [decide_eq_false (show ¬ p < q by omega), decide_eq_true (show q < p from h)]; rfl
theorem b20_b_b_t {p q : Nat} (h1 : p < 256) (h2 : q < 256) (h : p = q) : binN 20 p q u8T u8T = some 1 := by
  refine (bn_eq (c := intT) rfl ((cv_ui (by simp only [Nat.reducePow]; omega)).trans (Nat.mod_eq_of_lt (by omega))) ((cv_ui (by simp only [Nat.reducePow]; omega)).trans (Nat.mod_eq_of_lt (by omega))) (fit_i (by omega)) (fit_i (by omega))).trans (congrArg some ?_)
  show truthN (!decide (p < q) && !decide (q < p)) = _
  rw [decide_eq_false (show ¬ p < q by omega), decide_eq_false (show ¬ q < p by omega)]; rfl
theorem b20_i_i_f {p q : Nat} (h1 : p < 32768) (h2 : q < 32768) (h : p ≠ q) : binN 20 p q intT intT = some 0 := by
  refine (bn_eq (c := intT) rfl (cv_ii (by omega)) (cv_ii (by omega)) (fit_i (by omega)) (fit_i (by omega))).trans (congrArg some ?_)
  show truthN (!decide (p < q) && !decide (q < p)) = _
  rcases Nat.lt_or_gt_of_ne h with h | h
  · rw [decide_eq_true (show p < q from h), decide_eq_false (show ¬ q < p by omega)]; rfl
  · rw [decide_eq_false (show ¬ p < q by omega), decide_eq_true (show q < p from h)]; rfl
theorem b20_i_i_t {p q : Nat} (h1 : p < 32768) (h2 : q < 32768) (h : p = q) : binN 20 p q intT intT = some 1 := by
  refine (bn_eq (c := intT) rfl (cv_ii (by omega)) (cv_ii (by omega)) (fit_i (by omega)) (fit_i (by omega))).trans (congrArg some ?_)
  show truthN (!decide (p < q) && !decide (q < p)) = _
  rw [decide_eq_false (show ¬ p < q by omega), decide_eq_false (show ¬ q < p by omega)]; rfl
theorem b21_i_i_f {p q : Nat} (h1 : p < 32768) (h2 : q < 32768) (h : p = q) : binN 21 p q intT intT = some 0 := by
  refine (bn_ne (c := intT) rfl (cv_ii (by omega)) (cv_ii (by omega)) (fit_i (by omega)) (fit_i (by omega))).trans (congrArg some ?_)
  show truthN (decide (p < q) || decide (q < p)) = _
  rw [decide_eq_false (show ¬ p < q by omega), decide_eq_false (show ¬ q < p by omega)]; rfl
theorem b21_i_i_t {p q : Nat} (h1 : p < 32768) (h2 : q < 32768) (h : p ≠ q) : binN 21 p q intT intT = some 1 := by
  refine (bn_ne (c := intT) rfl (cv_ii (by omega)) (cv_ii (by omega)) (fit_i (by omega)) (fit_i (by omega))).trans (congrArg some ?_)
  show truthN (decide (p < q) || decide (q < p)) = _
  rcases Nat.lt_or_gt_of_ne h with h | h
  · rw [decide_eq_true (show p < q from h), decide_eq_false (show ¬ q < p by omega)]; rfl
  · rw [decide_eq_false (show ¬ p < q by omega), decide_eq_true (show q < p from h)]; rfl
theorem b22_i_i {p q : Nat} (h1 : p < 32768) (h2 : q < 32768) : binN 22 p q intT intT = some (p &&& q) := bn_and (c := intT) rfl (cv_ii (by omega)) (cv_ii (by omega))
end Go.Proofs.YtclpjglkjkbljaaGreat
