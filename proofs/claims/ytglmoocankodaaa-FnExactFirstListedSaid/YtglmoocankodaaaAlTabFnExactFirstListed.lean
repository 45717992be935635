/-
  The functions that the law FnExactFirstListed reaches.
-/
import Derived.Test.YtglmoocankodaaaAlListH
namespace Go.AL.FnExactFirstListed
set_option linter.unusedSimpArgs false
set_option linter.unusedVariables false
def tab : List (Nat × Fn) := [(24, F.laws_FnExactFirstListed), (122, F.laws_szStringS), (124, F.laws_toStringS), (126, F.laws_eqStringS), (157, F.spec_FirstListed), (158, F.impl_FirstListed), (540, F.impl_free), (547, F.impl_table_first), (551, F.strings_Contains), (562, F.impl_table_look), (588, F.spec_coLists), (589, F.spec_coListed), (590, F.impl_listed), (597, F.impl_within), (598, F.spec_l1In), (877, F.impl_isRing), (878, F.impl_table_fixed), (893, F.impl_table_line), (896, F.impl_isList), (930, F.strings_IndexByte), (966, F.slices_Clone_impl_table_5_int)]
def prims : Nat → Option (List V → Mem → Option (V × Mem)) := fun g => if g = 883 then some idx1Prim else if g = 992 then some idxPrim else none
def G : Env := envOf tab prims
theorem p883 : G 883 = some (.prim idx1Prim) := by rfl
theorem p992 : G 992 = some (.prim idxPrim) := by rfl
theorem g24 : G 24 = some (.code F.laws_FnExactFirstListed) := by rfl
theorem g122 : G 122 = some (.code F.laws_szStringS) := by rfl
theorem g124 : G 124 = some (.code F.laws_toStringS) := by rfl
theorem g126 : G 126 = some (.code F.laws_eqStringS) := by rfl
theorem g157 : G 157 = some (.code F.spec_FirstListed) := by rfl
theorem g158 : G 158 = some (.code F.impl_FirstListed) := by rfl
theorem g540 : G 540 = some (.code F.impl_free) := by rfl
theorem g547 : G 547 = some (.code F.impl_table_first) := by rfl
theorem g551 : G 551 = some (.code F.strings_Contains) := by rfl
theorem g562 : G 562 = some (.code F.impl_table_look) := by rfl
theorem g588 : G 588 = some (.code F.spec_coLists) := by rfl
theorem g589 : G 589 = some (.code F.spec_coListed) := by rfl
theorem g590 : G 590 = some (.code F.impl_listed) := by rfl
theorem g597 : G 597 = some (.code F.impl_within) := by rfl
theorem g598 : G 598 = some (.code F.spec_l1In) := by rfl
theorem g877 : G 877 = some (.code F.impl_isRing) := by rfl
theorem g878 : G 878 = some (.code F.impl_table_fixed) := by rfl
theorem g893 : G 893 = some (.code F.impl_table_line) := by rfl
theorem g896 : G 896 = some (.code F.impl_isList) := by rfl
theorem g930 : G 930 = some (.code F.strings_IndexByte) := by rfl
theorem g966 : G 966 = some (.code F.slices_Clone_impl_table_5_int) := by rfl
end Go.AL.FnExactFirstListed
