/-
  The functions that the law FnExactFirstRepainted reaches.
-/
import Derived.Test.YtaamjlckaakenaaAlColFrp
namespace Go.AL.FnExactFirstRepainted
set_option linter.unusedSimpArgs false
set_option linter.unusedVariables false
def tab : List (Nat × Fn) := [(16, F.laws_FnExactFirstRepainted), (77, F.spec_FewestRepaints), (114, F.spec_FirstRepainted), (115, F.impl_FirstRepainted), (315, F.impl_IsFence), (540, F.impl_free), (547, F.impl_table_first), (557, F.spec_coFence), (558, F.spec_coTints), (559, F.spec_coFewest), (560, F.impl_isFilled), (561, F.impl_repainted), (562, F.impl_table_look), (584, F.impl_isStood), (585, F.impl_isTints), (597, F.impl_within), (598, F.spec_l1In), (715, F.spec_stGood), (721, F.slices_ContainsFunc_byte_byte), (722, F.impl_IsFence_1), (723, F.impl_isBoard), (874, F.spec_coSize), (877, F.impl_isRing), (878, F.impl_table_fixed), (892, F.spec_coRepaint), (893, F.impl_table_line), (929, F.slices_IndexFunc_byte_byte), (930, F.strings_IndexByte), (966, F.slices_Clone_impl_table_5_int)]
def prims : Nat → Option (List V → Mem → Option (V × Mem)) := fun g => if g = 992 then some idxPrim else none
def G : Env := envOf tab prims
theorem p992 : G 992 = some (.prim idxPrim) := by rfl
theorem g16 : G 16 = some (.code F.laws_FnExactFirstRepainted) := by rfl
theorem g77 : G 77 = some (.code F.spec_FewestRepaints) := by rfl
theorem g114 : G 114 = some (.code F.spec_FirstRepainted) := by rfl
theorem g115 : G 115 = some (.code F.impl_FirstRepainted) := by rfl
theorem g315 : G 315 = some (.code F.impl_IsFence) := by rfl
theorem g540 : G 540 = some (.code F.impl_free) := by rfl
theorem g547 : G 547 = some (.code F.impl_table_first) := by rfl
theorem g557 : G 557 = some (.code F.spec_coFence) := by rfl
theorem g558 : G 558 = some (.code F.spec_coTints) := by rfl
theorem g559 : G 559 = some (.code F.spec_coFewest) := by rfl
theorem g560 : G 560 = some (.code F.impl_isFilled) := by rfl
theorem g561 : G 561 = some (.code F.impl_repainted) := by rfl
theorem g562 : G 562 = some (.code F.impl_table_look) := by rfl
theorem g584 : G 584 = some (.code F.impl_isStood) := by rfl
theorem g585 : G 585 = some (.code F.impl_isTints) := by rfl
theorem g597 : G 597 = some (.code F.impl_within) := by rfl
theorem g598 : G 598 = some (.code F.spec_l1In) := by rfl
theorem g715 : G 715 = some (.code F.spec_stGood) := by rfl
theorem g721 : G 721 = some (.code F.slices_ContainsFunc_byte_byte) := by rfl
theorem g722 : G 722 = some (.code F.impl_IsFence_1) := by rfl
theorem g723 : G 723 = some (.code F.impl_isBoard) := by rfl
theorem g874 : G 874 = some (.code F.spec_coSize) := by rfl
theorem g877 : G 877 = some (.code F.impl_isRing) := by rfl
theorem g878 : G 878 = some (.code F.impl_table_fixed) := by rfl
theorem g892 : G 892 = some (.code F.spec_coRepaint) := by rfl
theorem g893 : G 893 = some (.code F.impl_table_line) := by rfl
theorem g929 : G 929 = some (.code F.slices_IndexFunc_byte_byte) := by rfl
theorem g930 : G 930 = some (.code F.strings_IndexByte) := by rfl
theorem g966 : G 966 = some (.code F.slices_Clone_impl_table_5_int) := by rfl
end Go.AL.FnExactFirstRepainted
