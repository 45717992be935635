/-
  The functions that the law FnExactNextProper reaches.
-/
import Derived.Test.YtglmoocankodaaaAlColRankP
namespace Go.AL.FnExactNextProper
set_option linter.unusedSimpArgs false
set_option linter.unusedVariables false
def tab : List (Nat × Fn) := [(21, F.laws_FnExactNextProper), (75, F.spec_ProperOfRank), (118, F.spec_RankOfProper), (119, F.impl_RankOfProper), (127, F.spec_NextProper), (128, F.impl_NextProper), (315, F.impl_IsFence), (536, F.spec_coAsked), (537, F.spec_coFrom), (538, F.spec_coBare), (540, F.impl_free), (541, F.impl_table_count), (555, F.spec_coRanked), (556, F.impl_ofRank), (557, F.spec_coFence), (558, F.spec_coTints), (562, F.impl_table_look), (582, F.spec_coHas), (583, F.spec_coRank), (584, F.impl_isStood), (585, F.impl_isTints), (586, F.impl_isProper), (587, F.impl_rank), (597, F.impl_within), (598, F.spec_l1In), (680, F.spec_coProper), (715, F.spec_stGood), (721, F.slices_ContainsFunc_byte_byte), (722, F.impl_IsFence_1), (723, F.impl_isBoard), (874, F.spec_coSize), (875, F.spec_coEnds), (876, F.spec_coAllows), (877, F.impl_isRing), (878, F.impl_table_fixed), (891, F.spec_coWith), (893, F.impl_table_line), (929, F.slices_IndexFunc_byte_byte), (930, F.strings_IndexByte), (966, F.slices_Clone_impl_table_5_int)]
def prims : Nat → Option (List V → Mem → Option (V × Mem)) := fun g => if g = 992 then some idxPrim else none
def G : Env := envOf tab prims
theorem p992 : G 992 = some (.prim idxPrim) := by rfl
theorem g21 : G 21 = some (.code F.laws_FnExactNextProper) := by rfl
theorem g75 : G 75 = some (.code F.spec_ProperOfRank) := by rfl
theorem g118 : G 118 = some (.code F.spec_RankOfProper) := by rfl
theorem g119 : G 119 = some (.code F.impl_RankOfProper) := by rfl
theorem g127 : G 127 = some (.code F.spec_NextProper) := by rfl
theorem g128 : G 128 = some (.code F.impl_NextProper) := by rfl
theorem g315 : G 315 = some (.code F.impl_IsFence) := by rfl
theorem g536 : G 536 = some (.code F.spec_coAsked) := by rfl
theorem g537 : G 537 = some (.code F.spec_coFrom) := by rfl
theorem g538 : G 538 = some (.code F.spec_coBare) := by rfl
theorem g540 : G 540 = some (.code F.impl_free) := by rfl
theorem g541 : G 541 = some (.code F.impl_table_count) := by rfl
theorem g555 : G 555 = some (.code F.spec_coRanked) := by rfl
theorem g556 : G 556 = some (.code F.impl_ofRank) := by rfl
theorem g557 : G 557 = some (.code F.spec_coFence) := by rfl
theorem g558 : G 558 = some (.code F.spec_coTints) := by rfl
theorem g562 : G 562 = some (.code F.impl_table_look) := by rfl
theorem g582 : G 582 = some (.code F.spec_coHas) := by rfl
theorem g583 : G 583 = some (.code F.spec_coRank) := by rfl
theorem g584 : G 584 = some (.code F.impl_isStood) := by rfl
theorem g585 : G 585 = some (.code F.impl_isTints) := by rfl
theorem g586 : G 586 = some (.code F.impl_isProper) := by rfl
theorem g587 : G 587 = some (.code F.impl_rank) := by rfl
theorem g597 : G 597 = some (.code F.impl_within) := by rfl
theorem g598 : G 598 = some (.code F.spec_l1In) := by rfl
theorem g680 : G 680 = some (.code F.spec_coProper) := by rfl
theorem g715 : G 715 = some (.code F.spec_stGood) := by rfl
theorem g721 : G 721 = some (.code F.slices_ContainsFunc_byte_byte) := by rfl
theorem g722 : G 722 = some (.code F.impl_IsFence_1) := by rfl
theorem g723 : G 723 = some (.code F.impl_isBoard) := by rfl
theorem g874 : G 874 = some (.code F.spec_coSize) := by rfl
theorem g875 : G 875 = some (.code F.spec_coEnds) := by rfl
theorem g876 : G 876 = some (.code F.spec_coAllows) := by rfl
theorem g877 : G 877 = some (.code F.impl_isRing) := by rfl
theorem g878 : G 878 = some (.code F.impl_table_fixed) := by rfl
theorem g891 : G 891 = some (.code F.spec_coWith) := by rfl
theorem g893 : G 893 = some (.code F.impl_table_line) := by rfl
theorem g929 : G 929 = some (.code F.slices_IndexFunc_byte_byte) := by rfl
theorem g930 : G 930 = some (.code F.strings_IndexByte) := by rfl
theorem g966 : G 966 = some (.code F.slices_Clone_impl_table_5_int) := by rfl
end Go.AL.FnExactNextProper
