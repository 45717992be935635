/-
  The functions that the law FnExactFirstProper reaches are those that the interpreter's code was printed from: checked one by one.
-/
import Derived.Test.YtaamjlckaakenaaAlPfFnExactFirstProper
import Derived.Test.YtaamjlckaakenaaChecked
import Derived.ProofKit
namespace Go.Proofs.Ytaamjlckaakenaa.envFnExactFirstProper
open Go.AL Go.RowKit

def pairs : List (Nat × Nat) := [(8, 8), (30, 71), (31, 72), (32, 75), (53, 536), (54, 537), (55, 538), (56, 539), (57, 540), (70, 547), (71, 555), (74, 558), (78, 562), (89, 585), (94, 597), (102, 598), (85, 874), (86, 875), (87, 876), (88, 877), (100, 878), (101, 891), (105, 893), (113, 966)]
theorem c8 : cFn (rho pairs) Try.prog Try.f8 = some F.laws_FnExactFirstProper := by kernel_rfl
theorem c71 : cFn (rho pairs) Try.prog Try.f30 = some F.spec_FirstProper := by kernel_rfl
theorem c72 : cFn (rho pairs) Try.prog Try.f31 = some F.impl_FirstProper := by kernel_rfl
theorem c75 : cFn (rho pairs) Try.prog Try.f32 = some F.spec_ProperOfRank := by kernel_rfl
theorem c536 : cFn (rho pairs) Try.prog Try.f53 = some F.spec_coAsked := by kernel_rfl
theorem c537 : cFn (rho pairs) Try.prog Try.f54 = some F.spec_coFrom := by kernel_rfl
theorem c538 : cFn (rho pairs) Try.prog Try.f55 = some F.spec_coBare := by kernel_rfl
theorem c539 : cFn (rho pairs) Try.prog Try.f56 = some F.impl_isTinted := by kernel_rfl
theorem c540 : cFn (rho pairs) Try.prog Try.f57 = some F.impl_free := by kernel_rfl
theorem c547 : cFn (rho pairs) Try.prog Try.f70 = some F.impl_table_first := by kernel_rfl
theorem c555 : cFn (rho pairs) Try.prog Try.f71 = some F.spec_coRanked := by kernel_rfl
theorem c558 : cFn (rho pairs) Try.prog Try.f74 = some F.spec_coTints := by kernel_rfl
theorem c562 : cFn (rho pairs) Try.prog Try.f78 = some F.impl_table_look := by kernel_rfl
theorem c585 : cFn (rho pairs) Try.prog Try.f89 = some F.impl_isTints := by kernel_rfl
theorem c597 : cFn (rho pairs) Try.prog Try.f94 = some F.impl_within := by kernel_rfl
theorem c598 : cFn (rho pairs) Try.prog Try.f102 = some F.spec_l1In := by kernel_rfl
theorem c874 : cFn (rho pairs) Try.prog Try.f85 = some F.spec_coSize := by kernel_rfl
theorem c875 : cFn (rho pairs) Try.prog Try.f86 = some F.spec_coEnds := by kernel_rfl
theorem c876 : cFn (rho pairs) Try.prog Try.f87 = some F.spec_coAllows := by kernel_rfl
theorem c877 : cFn (rho pairs) Try.prog Try.f88 = some F.impl_isRing := by kernel_rfl
theorem c878 : cFn (rho pairs) Try.prog Try.f100 = some F.impl_table_fixed := by kernel_rfl
theorem c891 : cFn (rho pairs) Try.prog Try.f101 = some F.spec_coWith := by kernel_rfl
theorem c893 : cFn (rho pairs) Try.prog Try.f105 = some F.impl_table_line := by kernel_rfl
theorem c966 : cFn (rho pairs) Try.prog Try.f113 = some F.slices_Clone_impl_table_5_int := by kernel_rfl
theorem checked : Chk (sig pairs) (rho pairs) Try.prog FnExactFirstProper.tab :=
  (chk_cons (by rfl) Try.func8 c8 (chk_cons (by rfl) Try.func30 c71 (chk_cons (by rfl) Try.func31 c72 (chk_cons (by rfl) Try.func32 c75 (chk_cons (by rfl) Try.func53 c536 (chk_cons (by rfl) Try.func54 c537 (chk_cons (by rfl) Try.func55 c538 (chk_cons (by rfl) Try.func56 c539 (chk_cons (by rfl) Try.func57 c540 (chk_cons (by rfl) Try.func70 c547 (chk_cons (by rfl) Try.func71 c555 (chk_cons (by rfl) Try.func74 c558 (chk_cons (by rfl) Try.func78 c562 (chk_cons (by rfl) Try.func89 c585 (chk_cons (by rfl) Try.func94 c597 (chk_cons (by rfl) Try.func102 c598 (chk_cons (by rfl) Try.func85 c874 (chk_cons (by rfl) Try.func86 c875 (chk_cons (by rfl) Try.func87 c876 (chk_cons (by rfl) Try.func88 c877 (chk_cons (by rfl) Try.func100 c878 (chk_cons (by rfl) Try.func101 c891 (chk_cons (by rfl) Try.func105 c893 (chk_cons (by rfl) Try.func113 c966 chk_nil))))))))))))))))))))))))
theorem ok : EnvOk Try.prog (sig pairs) (rho pairs) FnExactFirstProper.G := envok (by decide +kernel) checked (fun _ _ h => by cases h)
end Go.Proofs.Ytaamjlckaakenaa.envFnExactFirstProper
