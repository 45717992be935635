/-
  The functions that the law FnExactLeastCost reaches.
-/
import Derived.Test.YtaamjlckaakenaaAlCostG
import Derived.Test.YtaamjlckaakenaaAlArgSS
namespace Go.AL.FnExactLeastCost
set_option linter.unusedSimpArgs false
set_option linter.unusedVariables false
def tab : List (Nat × Fn) := [(13, F.laws_FnExactLeastCost), (81, F.laws_szIntSS), (82, F.spec_LeastCost), (83, F.laws_toIntSS), (84, F.impl_LeastCost), (85, F.laws_eqIntSS), (270, F.laws_eqIntS), (540, F.impl_free), (542, F.laws_szIntS), (544, F.laws_toIntS), (558, F.spec_coTints), (562, F.impl_table_look), (565, F.spec_coCosts), (566, F.spec_coCheap), (567, F.impl_costed), (585, F.impl_isTints), (597, F.impl_within), (598, F.spec_l1In), (617, F.impl_allWithin), (628, F.spec_l1All), (840, F.slices_IndexFunc_int_int), (877, F.impl_isRing), (878, F.impl_table_fixed), (893, F.impl_table_line), (906, F.slices_ContainsFunc_int_int), (907, F.impl_allWithin_1), (966, F.slices_Clone_impl_table_5_int)]
def prims : Nat → Option (List V → Mem → Option (V × Mem)) := fun _ => none
def G : Env := envOf tab prims
theorem g13 : G 13 = some (.code F.laws_FnExactLeastCost) := by rfl
theorem g81 : G 81 = some (.code F.laws_szIntSS) := by rfl
theorem g82 : G 82 = some (.code F.spec_LeastCost) := by rfl
theorem g83 : G 83 = some (.code F.laws_toIntSS) := by rfl
theorem g84 : G 84 = some (.code F.impl_LeastCost) := by rfl
theorem g85 : G 85 = some (.code F.laws_eqIntSS) := by rfl
theorem g270 : G 270 = some (.code F.laws_eqIntS) := by rfl
theorem g540 : G 540 = some (.code F.impl_free) := by rfl
theorem g542 : G 542 = some (.code F.laws_szIntS) := by rfl
theorem g544 : G 544 = some (.code F.laws_toIntS) := by rfl
theorem g558 : G 558 = some (.code F.spec_coTints) := by rfl
theorem g562 : G 562 = some (.code F.impl_table_look) := by rfl
theorem g565 : G 565 = some (.code F.spec_coCosts) := by rfl
theorem g566 : G 566 = some (.code F.spec_coCheap) := by rfl
theorem g567 : G 567 = some (.code F.impl_costed) := by rfl
theorem g585 : G 585 = some (.code F.impl_isTints) := by rfl
theorem g597 : G 597 = some (.code F.impl_within) := by rfl
theorem g598 : G 598 = some (.code F.spec_l1In) := by rfl
theorem g617 : G 617 = some (.code F.impl_allWithin) := by rfl
theorem g628 : G 628 = some (.code F.spec_l1All) := by rfl
theorem g840 : G 840 = some (.code F.slices_IndexFunc_int_int) := by rfl
theorem g877 : G 877 = some (.code F.impl_isRing) := by rfl
theorem g878 : G 878 = some (.code F.impl_table_fixed) := by rfl
theorem g893 : G 893 = some (.code F.impl_table_line) := by rfl
theorem g906 : G 906 = some (.code F.slices_ContainsFunc_int_int) := by rfl
theorem g907 : G 907 = some (.code F.impl_allWithin_1) := by rfl
theorem g966 : G 966 = some (.code F.slices_Clone_impl_table_5_int) := by rfl
end Go.AL.FnExactLeastCost
