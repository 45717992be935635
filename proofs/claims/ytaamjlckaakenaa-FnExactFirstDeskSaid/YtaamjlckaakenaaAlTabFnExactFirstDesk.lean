/-
  The functions that the law FnExactFirstDesk reaches.
-/
import Derived.Test.YtaamjlckaakenaaAlTop
import Derived.Test.YtaamjlckaakenaaAlIrFirstDesk
namespace Go.AL.FnExactFirstDesk
set_option linter.unusedSimpArgs false
set_option linter.unusedVariables false
def tab : List (Nat × Fn) := [(3, F.laws_FnExactFirstDesk), (56, F.spec_FirstDesk), (57, F.impl_FirstDesk), (58, F.laws_eqDesk), (59, F.laws_markDesk), (60, F.laws_heldDesk), (126, F.laws_eqStringS), (270, F.laws_eqIntS), (272, F.laws_markIntS), (273, F.laws_heldIntS), (276, F.laws_markStringS), (277, F.laws_heldStringS), (687, F.laws_markText)]
def G : Env := envOf tab (fun _ => none)
theorem g3 : G 3 = some (.code F.laws_FnExactFirstDesk) := by rfl
theorem g56 : G 56 = some (.code F.spec_FirstDesk) := by rfl
theorem g57 : G 57 = some (.code F.impl_FirstDesk) := by rfl
theorem g58 : G 58 = some (.code F.laws_eqDesk) := by rfl
theorem g59 : G 59 = some (.code F.laws_markDesk) := by rfl
theorem g60 : G 60 = some (.code F.laws_heldDesk) := by rfl
theorem g126 : G 126 = some (.code F.laws_eqStringS) := by rfl
theorem g270 : G 270 = some (.code F.laws_eqIntS) := by rfl
theorem g272 : G 272 = some (.code F.laws_markIntS) := by rfl
theorem g273 : G 273 = some (.code F.laws_heldIntS) := by rfl
theorem g276 : G 276 = some (.code F.laws_markStringS) := by rfl
theorem g277 : G 277 = some (.code F.laws_heldStringS) := by rfl
theorem g687 : G 687 = some (.code F.laws_markText) := by rfl
end Go.AL.FnExactFirstDesk
