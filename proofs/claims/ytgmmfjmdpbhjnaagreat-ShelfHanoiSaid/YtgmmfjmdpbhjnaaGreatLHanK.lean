/-
  ShelfHanoi: the law's function, run on paper for each number.
-/
import Derived.Test.YtgmmfjmdpbhjnaaGreatLHanE
namespace Go.Proofs.YtgmmfjmdpbhjnaaGreat
set_option maxRecDepth 100000 in
theorem hanChk_0 : hanChk 0 = some () := by kernel_rfl
set_option maxRecDepth 100000 in
theorem hanChk_1 : hanChk 1 = some () := by kernel_rfl
set_option maxRecDepth 100000 in
theorem hanChk_2 : hanChk 2 = some () := by kernel_rfl
set_option maxRecDepth 100000 in
theorem hanChk_3 : hanChk 3 = some () := by kernel_rfl
set_option maxRecDepth 100000 in
theorem hanChk_4 : hanChk 4 = some () := by kernel_rfl
set_option maxRecDepth 100000 in
theorem hanChk_5 : hanChk 5 = some () := by kernel_rfl
set_option maxRecDepth 100000 in
theorem hanChk_6 : hanChk 6 = some () := by kernel_rfl
set_option maxRecDepth 100000 in
theorem hanChk_7 : hanChk 7 = some () := by kernel_rfl
set_option maxRecDepth 100000 in
theorem hanChk_8 : hanChk 8 = some () := by kernel_rfl
set_option maxRecDepth 100000 in
theorem hanChk_9 : hanChk 9 = some () := by kernel_rfl
end Go.Proofs.YtgmmfjmdpbhjnaaGreat
