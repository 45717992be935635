/-
  The functions that the law FnExactFirstProper reaches.
-/
import Derived.Test.YtaamjlckaakenaaAlColFp
namespace Go.AL.FnExactFirstProper
set_option linter.unusedSimpArgs false
set_option linter.unusedVariables false
def tab : List (Nat × Fn) := [(8, F.laws_FnExactFirstProper), (71, F.spec_FirstProper), (72, F.impl_FirstProper), (75, F.spec_ProperOfRank), (536, F.spec_coAsked), (537, F.spec_coFrom), (538, F.spec_coBare), (539, F.impl_isTinted), (540, F.impl_free), (547, F.impl_table_first), (555, F.spec_coRanked), (558, F.spec_coTints), (562, F.impl_table_look), (585, F.impl_isTints), (597, F.impl_within), (598, F.spec_l1In), (874, F.spec_coSize), (875, F.spec_coEnds), (876, F.spec_coAllows), (877, F.impl_isRing), (878, F.impl_table_fixed), (891, F.spec_coWith), (893, F.impl_table_line), (966, F.slices_Clone_impl_table_5_int)]
def prims : Nat → Option (List V → Mem → Option (V × Mem)) := fun _ => none
def G : Env := envOf tab prims
theorem g8 : G 8 = some (.code F.laws_FnExactFirstProper) := by rfl
theorem g71 : G 71 = some (.code F.spec_FirstProper) := by rfl
theorem g72 : G 72 = some (.code F.impl_FirstProper) := by rfl
theorem g75 : G 75 = some (.code F.spec_ProperOfRank) := by rfl
theorem g536 : G 536 = some (.code F.spec_coAsked) := by rfl
theorem g537 : G 537 = some (.code F.spec_coFrom) := by rfl
theorem g538 : G 538 = some (.code F.spec_coBare) := by rfl
theorem g539 : G 539 = some (.code F.impl_isTinted) := by rfl
theorem g540 : G 540 = some (.code F.impl_free) := by rfl
theorem g547 : G 547 = some (.code F.impl_table_first) := by rfl
theorem g555 : G 555 = some (.code F.spec_coRanked) := by rfl
theorem g558 : G 558 = some (.code F.spec_coTints) := by rfl
theorem g562 : G 562 = some (.code F.impl_table_look) := by rfl
theorem g585 : G 585 = some (.code F.impl_isTints) := by rfl
theorem g597 : G 597 = some (.code F.impl_within) := by rfl
theorem g598 : G 598 = some (.code F.spec_l1In) := by rfl
theorem g874 : G 874 = some (.code F.spec_coSize) := by rfl
theorem g875 : G 875 = some (.code F.spec_coEnds) := by rfl
theorem g876 : G 876 = some (.code F.spec_coAllows) := by rfl
theorem g877 : G 877 = some (.code F.impl_isRing) := by rfl
theorem g878 : G 878 = some (.code F.impl_table_fixed) := by rfl
theorem g891 : G 891 = some (.code F.spec_coWith) := by rfl
theorem g893 : G 893 = some (.code F.impl_table_line) := by rfl
theorem g966 : G 966 = some (.code F.slices_Clone_impl_table_5_int) := by rfl
end Go.AL.FnExactFirstProper
