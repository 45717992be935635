/-
  The functions that the law FnExactIsDesk reaches.
-/
import Derived.Test.YtaamjlckaakenaaAlDeskE
import Derived.Test.YtaamjlckaakenaaAlDeskF
import Derived.Test.YtaamjlckaakenaaAlArgDesk
namespace Go.AL.FnExactIsDesk
set_option linter.unusedSimpArgs false
set_option linter.unusedVariables false
def tab : List (Nat × Fn) := [(6, F.laws_FnExactIsDesk), (58, F.laws_eqDesk), (65, F.laws_szDesk), (66, F.spec_IsDesk), (67, F.laws_toDesk), (68, F.impl_IsDesk), (122, F.laws_szStringS), (124, F.laws_toStringS), (126, F.laws_eqStringS), (270, F.laws_eqIntS), (315, F.impl_IsFence), (388, F.impl_IsLand), (417, F.impl_AreHeights), (507, F.impl_AreRails), (542, F.laws_szIntS), (543, F.spec_cnGood), (544, F.laws_toIntS), (569, F.impl_areLong), (597, F.impl_within), (598, F.spec_l1In), (617, F.impl_allWithin), (628, F.spec_l1All), (675, F.spec_caGood), (715, F.spec_stGood), (721, F.slices_ContainsFunc_byte_byte), (722, F.impl_IsFence_1), (723, F.impl_isBoard), (783, F.spec_fiGood), (840, F.slices_IndexFunc_int_int), (846, F.spec_poGood), (906, F.slices_ContainsFunc_int_int), (907, F.impl_allWithin_1), (929, F.slices_IndexFunc_byte_byte), (930, F.strings_IndexByte), (957, F.spec_fiLetter)]
def prims : Nat → Option (List V → Mem → Option (V × Mem)) := fun g => if g = 992 then some idxPrim else none
def G : Env := envOf tab prims
theorem p992 : G 992 = some (.prim idxPrim) := by rfl
theorem g6 : G 6 = some (.code F.laws_FnExactIsDesk) := by rfl
theorem g58 : G 58 = some (.code F.laws_eqDesk) := by rfl
theorem g65 : G 65 = some (.code F.laws_szDesk) := by rfl
theorem g66 : G 66 = some (.code F.spec_IsDesk) := by rfl
theorem g67 : G 67 = some (.code F.laws_toDesk) := by rfl
theorem g68 : G 68 = some (.code F.impl_IsDesk) := by rfl
theorem g122 : G 122 = some (.code F.laws_szStringS) := by rfl
theorem g124 : G 124 = some (.code F.laws_toStringS) := by rfl
theorem g126 : G 126 = some (.code F.laws_eqStringS) := by rfl
theorem g270 : G 270 = some (.code F.laws_eqIntS) := by rfl
theorem g315 : G 315 = some (.code F.impl_IsFence) := by rfl
theorem g388 : G 388 = some (.code F.impl_IsLand) := by rfl
theorem g417 : G 417 = some (.code F.impl_AreHeights) := by rfl
theorem g507 : G 507 = some (.code F.impl_AreRails) := by rfl
theorem g542 : G 542 = some (.code F.laws_szIntS) := by rfl
theorem g543 : G 543 = some (.code F.spec_cnGood) := by rfl
theorem g544 : G 544 = some (.code F.laws_toIntS) := by rfl
theorem g569 : G 569 = some (.code F.impl_areLong) := by rfl
theorem g597 : G 597 = some (.code F.impl_within) := by rfl
theorem g598 : G 598 = some (.code F.spec_l1In) := by rfl
theorem g617 : G 617 = some (.code F.impl_allWithin) := by rfl
theorem g628 : G 628 = some (.code F.spec_l1All) := by rfl
theorem g675 : G 675 = some (.code F.spec_caGood) := by rfl
theorem g715 : G 715 = some (.code F.spec_stGood) := by rfl
theorem g721 : G 721 = some (.code F.slices_ContainsFunc_byte_byte) := by rfl
theorem g722 : G 722 = some (.code F.impl_IsFence_1) := by rfl
theorem g723 : G 723 = some (.code F.impl_isBoard) := by rfl
theorem g783 : G 783 = some (.code F.spec_fiGood) := by rfl
theorem g840 : G 840 = some (.code F.slices_IndexFunc_int_int) := by rfl
theorem g846 : G 846 = some (.code F.spec_poGood) := by rfl
theorem g906 : G 906 = some (.code F.slices_ContainsFunc_int_int) := by rfl
theorem g907 : G 907 = some (.code F.impl_allWithin_1) := by rfl
theorem g929 : G 929 = some (.code F.slices_IndexFunc_byte_byte) := by rfl
theorem g930 : G 930 = some (.code F.strings_IndexByte) := by rfl
theorem g957 : G 957 = some (.code F.spec_fiLetter) := by rfl
end Go.AL.FnExactIsDesk
