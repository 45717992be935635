/-
  The functions that the law FnExactCountAllTints reaches.
-/
import Derived.Test.YtaamjlckaakenaaAlColTints
namespace Go.AL.FnExactCountAllTints
set_option linter.unusedSimpArgs false
set_option linter.unusedVariables false
def tab : List (Nat × Fn) := [(7, F.laws_FnExactCountAllTints), (69, F.spec_CountAllTints), (70, F.impl_CountAllTints), (536, F.spec_coAsked), (537, F.spec_coFrom), (538, F.spec_coBare), (539, F.impl_isTinted), (540, F.impl_free), (541, F.impl_table_count), (545, F.spec_coChoose), (546, F.impl_choose), (558, F.spec_coTints), (562, F.impl_table_look), (585, F.impl_isTints), (597, F.impl_within), (598, F.spec_l1In), (874, F.spec_coSize), (875, F.spec_coEnds), (876, F.spec_coAllows), (877, F.impl_isRing), (878, F.impl_table_fixed), (893, F.impl_table_line), (966, F.slices_Clone_impl_table_5_int)]
def G : Env := envOf tab (fun _ => none)
theorem g7 : G 7 = some (.code F.laws_FnExactCountAllTints) := by rfl
theorem g69 : G 69 = some (.code F.spec_CountAllTints) := by rfl
theorem g70 : G 70 = some (.code F.impl_CountAllTints) := by rfl
theorem g536 : G 536 = some (.code F.spec_coAsked) := by rfl
theorem g537 : G 537 = some (.code F.spec_coFrom) := by rfl
theorem g538 : G 538 = some (.code F.spec_coBare) := by rfl
theorem g539 : G 539 = some (.code F.impl_isTinted) := by rfl
theorem g540 : G 540 = some (.code F.impl_free) := by rfl
theorem g541 : G 541 = some (.code F.impl_table_count) := by rfl
theorem g545 : G 545 = some (.code F.spec_coChoose) := by rfl
theorem g546 : G 546 = some (.code F.impl_choose) := by rfl
theorem g558 : G 558 = some (.code F.spec_coTints) := by rfl
theorem g562 : G 562 = some (.code F.impl_table_look) := by rfl
theorem g585 : G 585 = some (.code F.impl_isTints) := by rfl
theorem g597 : G 597 = some (.code F.impl_within) := by rfl
theorem g598 : G 598 = some (.code F.spec_l1In) := by rfl
theorem g874 : G 874 = some (.code F.spec_coSize) := by rfl
theorem g875 : G 875 = some (.code F.spec_coEnds) := by rfl
theorem g876 : G 876 = some (.code F.spec_coAllows) := by rfl
theorem g877 : G 877 = some (.code F.impl_isRing) := by rfl
theorem g878 : G 878 = some (.code F.impl_table_fixed) := by rfl
theorem g893 : G 893 = some (.code F.impl_table_line) := by rfl
theorem g966 : G 966 = some (.code F.slices_Clone_impl_table_5_int) := by rfl
end Go.AL.FnExactCountAllTints
