/-
  Operators at types, where numbers fit: still more (printed by mkbn.py).
-/
import Derived.Test.YtclpjglkjkbljaaGreatLHoC
namespace Go.Proofs.YtclpjglkjkbljaaGreat
theorem b14_h_i_n {p q : Nat} (h1 : p < 65536) (h2 : q < 32768) (h : q ≤ 64) (h3 : p * 2 ^ q < 65536) : binN 14 p q uintT intT = some (p * 2 ^ q) := (bn_shl (by decide) (show convN p uintT uintT = p from (cv_uu (by simp only [Nat.reducePow]; omega) (by simp only [Nat.reducePow]; omega))) (cv_ih (by omega)) (show p < 2 ^ 16 from by simp only [Nat.reducePow]; omega) h).trans (congrArg some (Nat.mod_eq_of_lt h3))
theorem b14_h_i_w {p q : Nat} (h1 : p < 65536) (h2 : q < 32768) (h : q ≤ 64) : binN 14 p q uintT intT = some (p * 2 ^ q % 65536) := bn_shl (by decide) (show convN p uintT uintT = p from (cv_uu (by simp only [Nat.reducePow]; omega) (by simp only [Nat.reducePow]; omega))) (cv_ih (by omega)) (show p < 2 ^ 16 from by simp only [Nat.reducePow]; omega) h
theorem b22_h_h {p q : Nat} (h1 : p < 65536) (h2 : q < 65536) : binN 22 p q uintT uintT = some (p &&& q) := bn_and (c := uintT) rfl (cv_uu (by simp only [Nat.reducePow]; omega) (by simp only [Nat.reducePow]; omega)) (cv_uu (by simp only [Nat.reducePow]; omega) (by simp only [Nat.reducePow]; omega))
theorem b23_h_h {p q : Nat} (h1 : p < 65536) (h2 : q < 65536) : binN 23 p q uintT uintT = some (p ^^^ q) := bn_xor (c := uintT) rfl (cv_uu (by simp only [Nat.reducePow]; omega) (by simp only [Nat.reducePow]; omega)) (cv_uu (by simp only [Nat.reducePow]; omega) (by simp only [Nat.reducePow]; omega))
end Go.Proofs.YtclpjglkjkbljaaGreat
