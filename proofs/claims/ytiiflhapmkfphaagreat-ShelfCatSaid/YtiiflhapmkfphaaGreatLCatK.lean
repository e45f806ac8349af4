/-
  cat, read and made ready on paper.
-/
import Derived.Test.YtiiflhapmkfphaaGreatJRc
import Derived.Test.YtiiflhapmkfphaaGreatLCatP
namespace Go.Proofs.YtiiflhapmkfphaaGreat
open Go Go.XM
theorem cat_play : xPlay 30 6513012 3 = some ⟨0, [(catMain, 1)]⟩ := by kernel_rfl
end Go.Proofs.YtiiflhapmkfphaaGreat
