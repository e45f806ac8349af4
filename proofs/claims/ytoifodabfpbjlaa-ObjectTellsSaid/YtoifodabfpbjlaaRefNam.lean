/- contract of the document's Named (printed by refnam.py) -/
import Derived.Test.YtoifodabfpbjlaaRefCrc
import Derived.Lib.ConvBytes
namespace Go.Proofs.Ytoifodabfpbjlaa
open Go.RowKit

theorem below_bytesWorld (w : World) (e : TypeId) (s : ByteArray) : Below w.heap.size w (Lib.bytesWorld w e s) :=
  ⟨rfl, rfl, rfl, by rw [Lib.bytesWorld_size]; omega, fun k hk => Lib.bytesWorld_at_old w e s k hk⟩

set_option maxHeartbeats 2000000 in
theorem refnamed_any (s : ByteArray) (w : World) :
    Calls Try.prog 29 #[.string s] w fun e w' => e = .returned (.bool (namedM s.data.toList)) ∧ Below w.heap.size w w' := by
  have kc := fun (w : World) (s : ByteArray) => Lib.run_convert_string_bytes (P := Try.prog) w 9 22 5 s Try.underlying9 Try.underlying22 Try.underlying5
  by_cases hhi : 32 < s.size
  · have f1 : decide ((32 : Int) < (s.size : Int)) = true := decide_eq_true (by omega)
    go_enter Try.func29, Try.ntmps29
    go_wp2_with fail
    go_ret
    exact ⟨ret_bool (decide_eq_false fun h => by have := h.2.1; simp at this; omega).symm, Below.refl _ _⟩
  have f1 : decide ((32 : Int) < (s.size : Int)) = false := decide_eq_false (by omega)
  by_cases hlo : s.size = 0
  · have f2 : ((s.size : Int) == 0) = true := t_eq (by omega)
    go_enter Try.func29, Try.ntmps29
    go_wp2_with fail
    go_ret
    exact ⟨ret_bool (decide_eq_false fun h => by have := h.1; simp at this; omega).symm, Below.refl _ _⟩
  have f2 : ((s.size : Int) == 0) = false := t_ne (by omega)
  by_cases hdot : (s.toList == [46]) = true
  · have hd2 : s.data.toList = [46] := by rw [← ByteArray.toList_eq]; simpa using hdot
    go_enter Try.func29, Try.ntmps29
    go_wp2_with fail
    go_ret
    exact ⟨ret_bool (by rw [hd2]; decide), Below.refl _ _⟩
  have f3 : (s.toList == [46]) = false := by simpa using hdot
  have hd2 : s.data.toList ≠ [46] := by rw [← ByteArray.toList_eq]; simpa using hdot
  clear hdot
  go_enter Try.func29, Try.ntmps29
  go_wp2_with fail
  have hcell := fun (j : Nat) (hj : j < s.size) => Lib.bytesWorld_cell w 5 s j hj
  have hbel := below_bytesWorld w 5 s
  clear kc
  generalize Lib.bytesWorld w 5 s = wo at *
  generalize grownCap w s.size 0 5 = cap0 at *
  go_loop [3, 4, 5, 6, 22] (fun _ _ _ _ i => ∃ k : Nat, k ≤ s.size ∧ i = .int .i64 k ∧ charsOK s.data.toList k) (fun _ _ _ _ i => s.size - (intOf i).toNat)
  case atStart => exact ⟨0, by omega, rfl, fun i hi => absurd hi (Nat.not_lt_zero _)⟩
  case round =>
    obtain ⟨k, hk, rfl, Hk⟩ := hrel
    by_cases hlt : k < s.size
    · have hck := hcell k hlt
      have hyes : charOK (s.data.toList.getD k 0).toNat k = true → Hid (charsOK s.data.toList (k + 1)) := fun h => charsOK_succ Hk h
      have hno : charOK (s.data.toList.getD k 0).toNat k = false → Hid (namedM s.data.toList = false) := fun h => named_no (by simpa using hlt) h
      have hb := (s.data.toList.getD k 0).toNat_lt
      clear Hk hcell
      generalize (s.data.toList.getD k 0).toNat = c at *
      have cls : (k = 0 ∧ c < 46) ∨ (k = 0 ∧ c = 46) ∨ (k = 0 ∧ c = 47) ∨ (k = 0 ∧ 48 ≤ c ∧ c ≤ 57) ∨ (k = 0 ∧ 58 ≤ c ∧ c ≤ 94) ∨ (k = 0 ∧ c = 95) ∨ (k = 0 ∧ c = 96) ∨ (k = 0 ∧ 97 ≤ c ∧ c ≤ 122) ∨ (k = 0 ∧ 122 < c) ∨ (0 < k ∧ c < 46) ∨ (0 < k ∧ c = 46) ∨ (0 < k ∧ c = 47) ∨ (0 < k ∧ 48 ≤ c ∧ c ≤ 57) ∨ (0 < k ∧ 58 ≤ c ∧ c ≤ 94) ∨ (0 < k ∧ c = 95) ∨ (0 < k ∧ c = 96) ∨ (0 < k ∧ 97 ≤ c ∧ c ≤ 122) ∨ (0 < k ∧ 122 < c) := by omega
      rcases cls with ⟨h1, h2⟩ | ⟨h1, h2⟩ | ⟨h1, h2⟩ | ⟨h1, h2⟩ | ⟨h1, h2⟩ | ⟨h1, h2⟩ | ⟨h1, h2⟩ | ⟨h1, h2⟩ | ⟨h1, h2⟩ | ⟨h1, h2⟩ | ⟨h1, h2⟩ | ⟨h1, h2⟩ | ⟨h1, h2⟩ | ⟨h1, h2⟩ | ⟨h1, h2⟩ | ⟨h1, h2⟩ | ⟨h1, h2⟩ | ⟨h1, h2⟩
      · have ga : decide ((97 : Int) ≤ (c : Int)) = false := decide_eq_false (by omega)
        have gb : decide ((c : Int) ≤ 122) = true := decide_eq_true (by omega)
        have gc : ((c : Int) == 95) = false := t_ne (by omega)
        have gd : ((c : Int) == 46) = false := t_ne (by omega)
        have ge : ((k : Int) == 0) = true := t_eq (by omega)
        have gg : decide ((0 : Int) < (k : Int)) = false := decide_eq_false (by omega)
        have gg2 : decide (0 < k) = false := decide_eq_false (by omega)
        have gh : decide ((48 : Int) ≤ (c : Int)) = false := decide_eq_false (by omega)
        have gi : decide ((c : Int) ≤ 57) = true := decide_eq_true (by omega)
        have H := hno (charOK_false (by omega))
        clear hyes hno h1 h2
        go_wp2_with fail
        go_ret
        exact ⟨ret_bool H.out.symm, hbel⟩
      · have ga : decide ((97 : Int) ≤ (c : Int)) = false := decide_eq_false (by omega)
        have gb : decide ((c : Int) ≤ 122) = true := decide_eq_true (by omega)
        have gc : ((c : Int) == 95) = false := t_ne (by omega)
        have gd : ((c : Int) == 46) = true := t_eq (by omega)
        have ge : ((k : Int) == 0) = true := t_eq (by omega)
        have gg : decide ((0 : Int) < (k : Int)) = false := decide_eq_false (by omega)
        have gg2 : decide (0 < k) = false := decide_eq_false (by omega)
        have gh : decide ((48 : Int) ≤ (c : Int)) = false := decide_eq_false (by omega)
        have gi : decide ((c : Int) ≤ 57) = true := decide_eq_true (by omega)
        have H := hyes (charOK_true (by omega))
        clear hyes hno h1 h2
        go_wp2_with fail
        go_round
        case rel => exact ⟨k + 1, by omega, by go_num, H.out⟩
        case measure => simp [intOf]; omega
      · have ga : decide ((97 : Int) ≤ (c : Int)) = false := decide_eq_false (by omega)
        have gb : decide ((c : Int) ≤ 122) = true := decide_eq_true (by omega)
        have gc : ((c : Int) == 95) = false := t_ne (by omega)
        have gd : ((c : Int) == 46) = false := t_ne (by omega)
        have ge : ((k : Int) == 0) = true := t_eq (by omega)
        have gg : decide ((0 : Int) < (k : Int)) = false := decide_eq_false (by omega)
        have gg2 : decide (0 < k) = false := decide_eq_false (by omega)
        have gh : decide ((48 : Int) ≤ (c : Int)) = false := decide_eq_false (by omega)
        have gi : decide ((c : Int) ≤ 57) = true := decide_eq_true (by omega)
        have H := hno (charOK_false (by omega))
        clear hyes hno h1 h2
        go_wp2_with fail
        go_ret
        exact ⟨ret_bool H.out.symm, hbel⟩
      · have ga : decide ((97 : Int) ≤ (c : Int)) = false := decide_eq_false (by omega)
        have gb : decide ((c : Int) ≤ 122) = true := decide_eq_true (by omega)
        have gc : ((c : Int) == 95) = false := t_ne (by omega)
        have gd : ((c : Int) == 46) = false := t_ne (by omega)
        have ge : ((k : Int) == 0) = true := t_eq (by omega)
        have gg : decide ((0 : Int) < (k : Int)) = false := decide_eq_false (by omega)
        have gg2 : decide (0 < k) = false := decide_eq_false (by omega)
        have gh : decide ((48 : Int) ≤ (c : Int)) = true := decide_eq_true (by omega)
        have gi : decide ((c : Int) ≤ 57) = true := decide_eq_true (by omega)
        have H := hno (charOK_false (by omega))
        clear hyes hno h1 h2
        go_wp2_with fail
        go_ret
        exact ⟨ret_bool H.out.symm, hbel⟩
      · have ga : decide ((97 : Int) ≤ (c : Int)) = false := decide_eq_false (by omega)
        have gb : decide ((c : Int) ≤ 122) = true := decide_eq_true (by omega)
        have gc : ((c : Int) == 95) = false := t_ne (by omega)
        have gd : ((c : Int) == 46) = false := t_ne (by omega)
        have ge : ((k : Int) == 0) = true := t_eq (by omega)
        have gg : decide ((0 : Int) < (k : Int)) = false := decide_eq_false (by omega)
        have gg2 : decide (0 < k) = false := decide_eq_false (by omega)
        have gh : decide ((48 : Int) ≤ (c : Int)) = true := decide_eq_true (by omega)
        have gi : decide ((c : Int) ≤ 57) = false := decide_eq_false (by omega)
        have H := hno (charOK_false (by omega))
        clear hyes hno h1 h2
        go_wp2_with fail
        go_ret
        exact ⟨ret_bool H.out.symm, hbel⟩
      · have ga : decide ((97 : Int) ≤ (c : Int)) = false := decide_eq_false (by omega)
        have gb : decide ((c : Int) ≤ 122) = true := decide_eq_true (by omega)
        have gc : ((c : Int) == 95) = true := t_eq (by omega)
        have gd : ((c : Int) == 46) = false := t_ne (by omega)
        have ge : ((k : Int) == 0) = true := t_eq (by omega)
        have gg : decide ((0 : Int) < (k : Int)) = false := decide_eq_false (by omega)
        have gg2 : decide (0 < k) = false := decide_eq_false (by omega)
        have gh : decide ((48 : Int) ≤ (c : Int)) = true := decide_eq_true (by omega)
        have gi : decide ((c : Int) ≤ 57) = false := decide_eq_false (by omega)
        have H := hyes (charOK_true (by omega))
        clear hyes hno h1 h2
        go_wp2_with fail
        go_round
        case rel => exact ⟨k + 1, by omega, by go_num, H.out⟩
        case measure => simp [intOf]; omega
      · have ga : decide ((97 : Int) ≤ (c : Int)) = false := decide_eq_false (by omega)
        have gb : decide ((c : Int) ≤ 122) = true := decide_eq_true (by omega)
        have gc : ((c : Int) == 95) = false := t_ne (by omega)
        have gd : ((c : Int) == 46) = false := t_ne (by omega)
        have ge : ((k : Int) == 0) = true := t_eq (by omega)
        have gg : decide ((0 : Int) < (k : Int)) = false := decide_eq_false (by omega)
        have gg2 : decide (0 < k) = false := decide_eq_false (by omega)
        have gh : decide ((48 : Int) ≤ (c : Int)) = true := decide_eq_true (by omega)
        have gi : decide ((c : Int) ≤ 57) = false := decide_eq_false (by omega)
        have H := hno (charOK_false (by omega))
        clear hyes hno h1 h2
        go_wp2_with fail
        go_ret
        exact ⟨ret_bool H.out.symm, hbel⟩
      · have ga : decide ((97 : Int) ≤ (c : Int)) = true := decide_eq_true (by omega)
        have gb : decide ((c : Int) ≤ 122) = true := decide_eq_true (by omega)
        have gc : ((c : Int) == 95) = false := t_ne (by omega)
        have gd : ((c : Int) == 46) = false := t_ne (by omega)
        have ge : ((k : Int) == 0) = true := t_eq (by omega)
        have gg : decide ((0 : Int) < (k : Int)) = false := decide_eq_false (by omega)
        have gg2 : decide (0 < k) = false := decide_eq_false (by omega)
        have gh : decide ((48 : Int) ≤ (c : Int)) = true := decide_eq_true (by omega)
        have gi : decide ((c : Int) ≤ 57) = false := decide_eq_false (by omega)
        have H := hyes (charOK_true (by omega))
        clear hyes hno h1 h2
        go_wp2_with fail
        go_round
        case rel => exact ⟨k + 1, by omega, by go_num, H.out⟩
        case measure => simp [intOf]; omega
      · have ga : decide ((97 : Int) ≤ (c : Int)) = true := decide_eq_true (by omega)
        have gb : decide ((c : Int) ≤ 122) = false := decide_eq_false (by omega)
        have gc : ((c : Int) == 95) = false := t_ne (by omega)
        have gd : ((c : Int) == 46) = false := t_ne (by omega)
        have ge : ((k : Int) == 0) = true := t_eq (by omega)
        have gg : decide ((0 : Int) < (k : Int)) = false := decide_eq_false (by omega)
        have gg2 : decide (0 < k) = false := decide_eq_false (by omega)
        have gh : decide ((48 : Int) ≤ (c : Int)) = true := decide_eq_true (by omega)
        have gi : decide ((c : Int) ≤ 57) = false := decide_eq_false (by omega)
        have H := hno (charOK_false (by omega))
        clear hyes hno h1 h2
        go_wp2_with fail
        go_ret
        exact ⟨ret_bool H.out.symm, hbel⟩
      · have ga : decide ((97 : Int) ≤ (c : Int)) = false := decide_eq_false (by omega)
        have gb : decide ((c : Int) ≤ 122) = true := decide_eq_true (by omega)
        have gc : ((c : Int) == 95) = false := t_ne (by omega)
        have gd : ((c : Int) == 46) = false := t_ne (by omega)
        have ge : ((k : Int) == 0) = false := t_ne (by omega)
        have gg : decide ((0 : Int) < (k : Int)) = true := decide_eq_true (by omega)
        have gg2 : decide (0 < k) = true := decide_eq_true (by omega)
        have gh : decide ((48 : Int) ≤ (c : Int)) = false := decide_eq_false (by omega)
        have gi : decide ((c : Int) ≤ 57) = true := decide_eq_true (by omega)
        have H := hno (charOK_false (by omega))
        clear hyes hno h1 h2
        go_wp2_with fail
        go_ret
        exact ⟨ret_bool H.out.symm, hbel⟩
      · have ga : decide ((97 : Int) ≤ (c : Int)) = false := decide_eq_false (by omega)
        have gb : decide ((c : Int) ≤ 122) = true := decide_eq_true (by omega)
        have gc : ((c : Int) == 95) = false := t_ne (by omega)
        have gd : ((c : Int) == 46) = true := t_eq (by omega)
        have ge : ((k : Int) == 0) = false := t_ne (by omega)
        have gg : decide ((0 : Int) < (k : Int)) = true := decide_eq_true (by omega)
        have gg2 : decide (0 < k) = true := decide_eq_true (by omega)
        have gh : decide ((48 : Int) ≤ (c : Int)) = false := decide_eq_false (by omega)
        have gi : decide ((c : Int) ≤ 57) = true := decide_eq_true (by omega)
        have H := hno (charOK_false (by omega))
        clear hyes hno h1 h2
        go_wp2_with fail
        go_ret
        exact ⟨ret_bool H.out.symm, hbel⟩
      · have ga : decide ((97 : Int) ≤ (c : Int)) = false := decide_eq_false (by omega)
        have gb : decide ((c : Int) ≤ 122) = true := decide_eq_true (by omega)
        have gc : ((c : Int) == 95) = false := t_ne (by omega)
        have gd : ((c : Int) == 46) = false := t_ne (by omega)
        have ge : ((k : Int) == 0) = false := t_ne (by omega)
        have gg : decide ((0 : Int) < (k : Int)) = true := decide_eq_true (by omega)
        have gg2 : decide (0 < k) = true := decide_eq_true (by omega)
        have gh : decide ((48 : Int) ≤ (c : Int)) = false := decide_eq_false (by omega)
        have gi : decide ((c : Int) ≤ 57) = true := decide_eq_true (by omega)
        have H := hno (charOK_false (by omega))
        clear hyes hno h1 h2
        go_wp2_with fail
        go_ret
        exact ⟨ret_bool H.out.symm, hbel⟩
      · have ga : decide ((97 : Int) ≤ (c : Int)) = false := decide_eq_false (by omega)
        have gb : decide ((c : Int) ≤ 122) = true := decide_eq_true (by omega)
        have gc : ((c : Int) == 95) = false := t_ne (by omega)
        have gd : ((c : Int) == 46) = false := t_ne (by omega)
        have ge : ((k : Int) == 0) = false := t_ne (by omega)
        have gg : decide ((0 : Int) < (k : Int)) = true := decide_eq_true (by omega)
        have gg2 : decide (0 < k) = true := decide_eq_true (by omega)
        have gh : decide ((48 : Int) ≤ (c : Int)) = true := decide_eq_true (by omega)
        have gi : decide ((c : Int) ≤ 57) = true := decide_eq_true (by omega)
        have H := hyes (charOK_true (by omega))
        clear hyes hno h1 h2
        go_wp2_with fail
        go_round
        case rel => exact ⟨k + 1, by omega, by go_num, H.out⟩
        case measure => simp [intOf]; omega
      · have ga : decide ((97 : Int) ≤ (c : Int)) = false := decide_eq_false (by omega)
        have gb : decide ((c : Int) ≤ 122) = true := decide_eq_true (by omega)
        have gc : ((c : Int) == 95) = false := t_ne (by omega)
        have gd : ((c : Int) == 46) = false := t_ne (by omega)
        have ge : ((k : Int) == 0) = false := t_ne (by omega)
        have gg : decide ((0 : Int) < (k : Int)) = true := decide_eq_true (by omega)
        have gg2 : decide (0 < k) = true := decide_eq_true (by omega)
        have gh : decide ((48 : Int) ≤ (c : Int)) = true := decide_eq_true (by omega)
        have gi : decide ((c : Int) ≤ 57) = false := decide_eq_false (by omega)
        have H := hno (charOK_false (by omega))
        clear hyes hno h1 h2
        go_wp2_with fail
        go_ret
        exact ⟨ret_bool H.out.symm, hbel⟩
      · have ga : decide ((97 : Int) ≤ (c : Int)) = false := decide_eq_false (by omega)
        have gb : decide ((c : Int) ≤ 122) = true := decide_eq_true (by omega)
        have gc : ((c : Int) == 95) = true := t_eq (by omega)
        have gd : ((c : Int) == 46) = false := t_ne (by omega)
        have ge : ((k : Int) == 0) = false := t_ne (by omega)
        have gg : decide ((0 : Int) < (k : Int)) = true := decide_eq_true (by omega)
        have gg2 : decide (0 < k) = true := decide_eq_true (by omega)
        have gh : decide ((48 : Int) ≤ (c : Int)) = true := decide_eq_true (by omega)
        have gi : decide ((c : Int) ≤ 57) = false := decide_eq_false (by omega)
        have H := hyes (charOK_true (by omega))
        clear hyes hno h1 h2
        go_wp2_with fail
        go_round
        case rel => exact ⟨k + 1, by omega, by go_num, H.out⟩
        case measure => simp [intOf]; omega
      · have ga : decide ((97 : Int) ≤ (c : Int)) = false := decide_eq_false (by omega)
        have gb : decide ((c : Int) ≤ 122) = true := decide_eq_true (by omega)
        have gc : ((c : Int) == 95) = false := t_ne (by omega)
        have gd : ((c : Int) == 46) = false := t_ne (by omega)
        have ge : ((k : Int) == 0) = false := t_ne (by omega)
        have gg : decide ((0 : Int) < (k : Int)) = true := decide_eq_true (by omega)
        have gg2 : decide (0 < k) = true := decide_eq_true (by omega)
        have gh : decide ((48 : Int) ≤ (c : Int)) = true := decide_eq_true (by omega)
        have gi : decide ((c : Int) ≤ 57) = false := decide_eq_false (by omega)
        have H := hno (charOK_false (by omega))
        clear hyes hno h1 h2
        go_wp2_with fail
        go_ret
        exact ⟨ret_bool H.out.symm, hbel⟩
      · have ga : decide ((97 : Int) ≤ (c : Int)) = true := decide_eq_true (by omega)
        have gb : decide ((c : Int) ≤ 122) = true := decide_eq_true (by omega)
        have gc : ((c : Int) == 95) = false := t_ne (by omega)
        have gd : ((c : Int) == 46) = false := t_ne (by omega)
        have ge : ((k : Int) == 0) = false := t_ne (by omega)
        have gg : decide ((0 : Int) < (k : Int)) = true := decide_eq_true (by omega)
        have gg2 : decide (0 < k) = true := decide_eq_true (by omega)
        have gh : decide ((48 : Int) ≤ (c : Int)) = true := decide_eq_true (by omega)
        have gi : decide ((c : Int) ≤ 57) = false := decide_eq_false (by omega)
        have H := hyes (charOK_true (by omega))
        clear hyes hno h1 h2
        go_wp2_with fail
        go_round
        case rel => exact ⟨k + 1, by omega, by go_num, H.out⟩
        case measure => simp [intOf]; omega
      · have ga : decide ((97 : Int) ≤ (c : Int)) = true := decide_eq_true (by omega)
        have gb : decide ((c : Int) ≤ 122) = false := decide_eq_false (by omega)
        have gc : ((c : Int) == 95) = false := t_ne (by omega)
        have gd : ((c : Int) == 46) = false := t_ne (by omega)
        have ge : ((k : Int) == 0) = false := t_ne (by omega)
        have gg : decide ((0 : Int) < (k : Int)) = true := decide_eq_true (by omega)
        have gg2 : decide (0 < k) = true := decide_eq_true (by omega)
        have gh : decide ((48 : Int) ≤ (c : Int)) = true := decide_eq_true (by omega)
        have gi : decide ((c : Int) ≤ 57) = false := decide_eq_false (by omega)
        have H := hno (charOK_false (by omega))
        clear hyes hno h1 h2
        go_wp2_with fail
        go_ret
        exact ⟨ret_bool H.out.symm, hbel⟩
    · obtain rfl : k = s.size := by omega
      go_wp2_with fail
      go_ret
      refine ⟨ret_bool ?_, hbel⟩
      rw [named_all (by simp; omega) (by simp; omega) (by simpa using Hk)]
      simpa using hd2
end Go.Proofs.Ytoifodabfpbjlaa
