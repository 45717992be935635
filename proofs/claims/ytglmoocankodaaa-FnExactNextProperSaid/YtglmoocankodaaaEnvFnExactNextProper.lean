/-
  The functions that the law FnExactNextProper reaches are those that the interpreter's code was printed from: checked one by one.
-/
import Derived.Test.YtglmoocankodaaaAlPfFnExactNextProper
import Derived.Lib.Strings
import Derived.Lib.Slices
import Derived.Lib.Walk
import Derived.Lib.Bytealg
import Derived.Test.YtglmoocankodaaaChecked
import Derived.ProofKit
namespace Go.Proofs.Ytglmoocankodaaa.envFnExactNextProper
open Go.AL Go.RowKit

def pairs : List (Nat × Nat) := [(4, 21), (30, 75), (11, 118), (12, 119), (13, 127), (14, 128), (146, 315), (115, 536), (116, 537), (117, 538), (119, 540), (109, 541), (118, 555), (98, 556), (90, 557), (91, 558), (151, 562), (92, 582), (93, 583), (94, 584), (95, 585), (96, 586), (97, 587), (137, 597), (138, 598), (121, 680), (143, 715), (159, 721), (160, 722), (161, 723), (144, 874), (155, 875), (156, 876), (147, 877), (148, 878), (145, 891), (165, 893), (172, 929), (166, 930), (162, 966), (174, 992)]
theorem c21 : cFn (rho pairs) Try.prog Try.f4 = some F.laws_FnExactNextProper := by kernel_rfl
theorem c75 : cFn (rho pairs) Try.prog Try.f30 = some F.spec_ProperOfRank := by kernel_rfl
theorem c118 : cFn (rho pairs) Try.prog Try.f11 = some F.spec_RankOfProper := by kernel_rfl
theorem c119 : cFn (rho pairs) Try.prog Try.f12 = some F.impl_RankOfProper := by kernel_rfl
theorem c127 : cFn (rho pairs) Try.prog Try.f13 = some F.spec_NextProper := by kernel_rfl
theorem c128 : cFn (rho pairs) Try.prog Try.f14 = some F.impl_NextProper := by kernel_rfl
theorem c315 : cFn (rho pairs) Try.prog Try.f146 = some F.impl_IsFence := by kernel_rfl
theorem c536 : cFn (rho pairs) Try.prog Try.f115 = some F.spec_coAsked := by kernel_rfl
theorem c537 : cFn (rho pairs) Try.prog Try.f116 = some F.spec_coFrom := by kernel_rfl
theorem c538 : cFn (rho pairs) Try.prog Try.f117 = some F.spec_coBare := by kernel_rfl
theorem c540 : cFn (rho pairs) Try.prog Try.f119 = some F.impl_free := by kernel_rfl
theorem c541 : cFn (rho pairs) Try.prog Try.f109 = some F.impl_table_count := by kernel_rfl
theorem c555 : cFn (rho pairs) Try.prog Try.f118 = some F.spec_coRanked := by kernel_rfl
theorem c556 : cFn (rho pairs) Try.prog Try.f98 = some F.impl_ofRank := by kernel_rfl
theorem c557 : cFn (rho pairs) Try.prog Try.f90 = some F.spec_coFence := by kernel_rfl
theorem c558 : cFn (rho pairs) Try.prog Try.f91 = some F.spec_coTints := by kernel_rfl
theorem c562 : cFn (rho pairs) Try.prog Try.f151 = some F.impl_table_look := by kernel_rfl
theorem c582 : cFn (rho pairs) Try.prog Try.f92 = some F.spec_coHas := by kernel_rfl
theorem c583 : cFn (rho pairs) Try.prog Try.f93 = some F.spec_coRank := by kernel_rfl
theorem c584 : cFn (rho pairs) Try.prog Try.f94 = some F.impl_isStood := by kernel_rfl
theorem c585 : cFn (rho pairs) Try.prog Try.f95 = some F.impl_isTints := by kernel_rfl
theorem c586 : cFn (rho pairs) Try.prog Try.f96 = some F.impl_isProper := by kernel_rfl
theorem c587 : cFn (rho pairs) Try.prog Try.f97 = some F.impl_rank := by kernel_rfl
theorem c597 : cFn (rho pairs) Try.prog Try.f137 = some F.impl_within := by kernel_rfl
theorem c598 : cFn (rho pairs) Try.prog Try.f138 = some F.spec_l1In := by kernel_rfl
theorem c680 : cFn (rho pairs) Try.prog Try.f121 = some F.spec_coProper := by kernel_rfl
theorem c715 : cFn (rho pairs) Try.prog Try.f143 = some F.spec_stGood := by kernel_rfl
theorem c721 : cFn (rho pairs) Try.prog Try.f159 = some F.slices_ContainsFunc_byte_byte := by kernel_rfl
theorem c722 : cFn (rho pairs) Try.prog Try.f160 = some F.impl_IsFence_1 := by kernel_rfl
theorem c723 : cFn (rho pairs) Try.prog Try.f161 = some F.impl_isBoard := by kernel_rfl
theorem c874 : cFn (rho pairs) Try.prog Try.f144 = some F.spec_coSize := by kernel_rfl
theorem c875 : cFn (rho pairs) Try.prog Try.f155 = some F.spec_coEnds := by kernel_rfl
theorem c876 : cFn (rho pairs) Try.prog Try.f156 = some F.spec_coAllows := by kernel_rfl
theorem c877 : cFn (rho pairs) Try.prog Try.f147 = some F.impl_isRing := by kernel_rfl
theorem c878 : cFn (rho pairs) Try.prog Try.f148 = some F.impl_table_fixed := by kernel_rfl
theorem c891 : cFn (rho pairs) Try.prog Try.f145 = some F.spec_coWith := by kernel_rfl
theorem c893 : cFn (rho pairs) Try.prog Try.f165 = some F.impl_table_line := by kernel_rfl
theorem c929 : cFn (rho pairs) Try.prog Try.f172 = some F.slices_IndexFunc_byte_byte := by kernel_rfl
theorem c930 : cFn (rho pairs) Try.prog Try.f166 = some F.strings_IndexByte := by kernel_rfl
theorem c966 : cFn (rho pairs) Try.prog Try.f162 = some F.slices_Clone_impl_table_5_int := by kernel_rfl
theorem checked : Chk (sig pairs) (rho pairs) Try.prog FnExactNextProper.tab :=
  (chk_cons (by rfl) Try.func4 c21 (chk_cons (by rfl) Try.func30 c75 (chk_cons (by rfl) Try.func11 c118 (chk_cons (by rfl) Try.func12 c119 (chk_cons (by rfl) Try.func13 c127 (chk_cons (by rfl) Try.func14 c128 (chk_cons (by rfl) Try.func146 c315 (chk_cons (by rfl) Try.func115 c536 (chk_cons (by rfl) Try.func116 c537 (chk_cons (by rfl) Try.func117 c538 (chk_cons (by rfl) Try.func119 c540 (chk_cons (by rfl) Try.func109 c541 (chk_cons (by rfl) Try.func118 c555 (chk_cons (by rfl) Try.func98 c556 (chk_cons (by rfl) Try.func90 c557 (chk_cons (by rfl) Try.func91 c558 (chk_cons (by rfl) Try.func151 c562 (chk_cons (by rfl) Try.func92 c582 (chk_cons (by rfl) Try.func93 c583 (chk_cons (by rfl) Try.func94 c584 (chk_cons (by rfl) Try.func95 c585 (chk_cons (by rfl) Try.func96 c586 (chk_cons (by rfl) Try.func97 c587 (chk_cons (by rfl) Try.func137 c597 (chk_cons (by rfl) Try.func138 c598 (chk_cons (by rfl) Try.func121 c680 (chk_cons (by rfl) Try.func143 c715 (chk_cons (by rfl) Try.func159 c721 (chk_cons (by rfl) Try.func160 c722 (chk_cons (by rfl) Try.func161 c723 (chk_cons (by rfl) Try.func144 c874 (chk_cons (by rfl) Try.func155 c875 (chk_cons (by rfl) Try.func156 c876 (chk_cons (by rfl) Try.func147 c877 (chk_cons (by rfl) Try.func148 c878 (chk_cons (by rfl) Try.func145 c891 (chk_cons (by rfl) Try.func165 c893 (chk_cons (by rfl) Try.func172 c929 (chk_cons (by rfl) Try.func166 c930 (chk_cons (by rfl) Try.func162 c966 chk_nil))))))))))))))))))))))))))))))))))))))))
open Go.Proofs
set_option maxHeartbeats 1000000 in
set_option maxRecDepth 100000 in
theorem at_IndexByte (s : ByteArray) (c : Int) (w : World) :
    Calls Try.prog 174 #[.string s, .int .u8 c] w fun e w' => e = .returned (.int .i64 (Lib.indexByte s.data.toList c.toNat.toUInt8)) ∧ w' = w := by
  go_enter Try.func174, Try.ntmps174
  go_wp2
  rw [run_callFunc_extern Try.func176 (by kernel_rfl) (by kernel_rfl) (by kernel_rfl) (e := Extern.BytealgIndexByte.indexByte) (by kernel_rfl), Lib.run_indexByteString]
  simp only [Result.andThen]
  rw [Oper.upon_value]
  go_wp2
  go_ret
  exact ⟨rfl, rfl⟩
theorem primsok : ∀ g q, FnExactNextProper.prims g = some q → ∀ B w0 args m v m', q args m = some (v, m') → CallsSim Try.prog (sig pairs) B w0 g args m v m' := by
  intro g q h
  unfold FnExactNextProper.prims at h
  split at h
  · rename_i e; subst e; cases h; exact prim_idx (n := 174) (by rfl) ⟨_, Try.func174, by kernel_rfl, by kernel_rfl⟩ at_IndexByte
  cases h
theorem ok : EnvOk Try.prog (sig pairs) (rho pairs) FnExactNextProper.G := envok (by decide +kernel) checked primsok
end Go.Proofs.Ytglmoocankodaaa.envFnExactNextProper
