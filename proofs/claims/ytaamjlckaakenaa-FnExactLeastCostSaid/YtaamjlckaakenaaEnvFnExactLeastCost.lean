/-
  The functions that the law FnExactLeastCost reaches are those that the interpreter's code was printed from: checked one by one.
-/
import Derived.Test.YtaamjlckaakenaaAlPfFnExactLeastCost
import Derived.Test.YtaamjlckaakenaaChecked
import Derived.ProofKit
namespace Go.Proofs.Ytaamjlckaakenaa.envFnExactLeastCost
open Go.AL Go.RowKit

def pairs : List (Nat × Nat) := [(12, 13), (38, 81), (39, 82), (40, 83), (41, 84), (42, 85), (47, 270), (57, 540), (59, 542), (62, 544), (74, 558), (78, 562), (81, 565), (82, 566), (83, 567), (89, 585), (94, 597), (102, 598), (99, 617), (107, 628), (115, 840), (88, 877), (100, 878), (105, 893), (111, 906), (112, 907), (113, 966)]
theorem c13 : cFn (rho pairs) Try.prog Try.f12 = some F.laws_FnExactLeastCost := by kernel_rfl
theorem c81 : cFn (rho pairs) Try.prog Try.f38 = some F.laws_szIntSS := by kernel_rfl
theorem c82 : cFn (rho pairs) Try.prog Try.f39 = some F.spec_LeastCost := by kernel_rfl
theorem c83 : cFn (rho pairs) Try.prog Try.f40 = some F.laws_toIntSS := by kernel_rfl
theorem c84 : cFn (rho pairs) Try.prog Try.f41 = some F.impl_LeastCost := by kernel_rfl
theorem c85 : cFn (rho pairs) Try.prog Try.f42 = some F.laws_eqIntSS := by kernel_rfl
theorem c270 : cFn (rho pairs) Try.prog Try.f47 = some F.laws_eqIntS := by kernel_rfl
theorem c540 : cFn (rho pairs) Try.prog Try.f57 = some F.impl_free := by kernel_rfl
theorem c542 : cFn (rho pairs) Try.prog Try.f59 = some F.laws_szIntS := by kernel_rfl
theorem c544 : cFn (rho pairs) Try.prog Try.f62 = some F.laws_toIntS := by kernel_rfl
theorem c558 : cFn (rho pairs) Try.prog Try.f74 = some F.spec_coTints := by kernel_rfl
theorem c562 : cFn (rho pairs) Try.prog Try.f78 = some F.impl_table_look := by kernel_rfl
theorem c565 : cFn (rho pairs) Try.prog Try.f81 = some F.spec_coCosts := by kernel_rfl
theorem c566 : cFn (rho pairs) Try.prog Try.f82 = some F.spec_coCheap := by kernel_rfl
theorem c567 : cFn (rho pairs) Try.prog Try.f83 = some F.impl_costed := by kernel_rfl
theorem c585 : cFn (rho pairs) Try.prog Try.f89 = some F.impl_isTints := by kernel_rfl
theorem c597 : cFn (rho pairs) Try.prog Try.f94 = some F.impl_within := by kernel_rfl
theorem c598 : cFn (rho pairs) Try.prog Try.f102 = some F.spec_l1In := by kernel_rfl
theorem c617 : cFn (rho pairs) Try.prog Try.f99 = some F.impl_allWithin := by kernel_rfl
theorem c628 : cFn (rho pairs) Try.prog Try.f107 = some F.spec_l1All := by kernel_rfl
theorem c840 : cFn (rho pairs) Try.prog Try.f115 = some F.slices_IndexFunc_int_int := by kernel_rfl
theorem c877 : cFn (rho pairs) Try.prog Try.f88 = some F.impl_isRing := by kernel_rfl
theorem c878 : cFn (rho pairs) Try.prog Try.f100 = some F.impl_table_fixed := by kernel_rfl
theorem c893 : cFn (rho pairs) Try.prog Try.f105 = some F.impl_table_line := by kernel_rfl
theorem c906 : cFn (rho pairs) Try.prog Try.f111 = some F.slices_ContainsFunc_int_int := by kernel_rfl
theorem c907 : cFn (rho pairs) Try.prog Try.f112 = some F.impl_allWithin_1 := by kernel_rfl
theorem c966 : cFn (rho pairs) Try.prog Try.f113 = some F.slices_Clone_impl_table_5_int := by kernel_rfl
theorem checked : Chk (sig pairs) (rho pairs) Try.prog FnExactLeastCost.tab :=
  (chk_cons (by rfl) Try.func12 c13 (chk_cons (by rfl) Try.func38 c81 (chk_cons (by rfl) Try.func39 c82 (chk_cons (by rfl) Try.func40 c83 (chk_cons (by rfl) Try.func41 c84 (chk_cons (by rfl) Try.func42 c85 (chk_cons (by rfl) Try.func47 c270 (chk_cons (by rfl) Try.func57 c540 (chk_cons (by rfl) Try.func59 c542 (chk_cons (by rfl) Try.func62 c544 (chk_cons (by rfl) Try.func74 c558 (chk_cons (by rfl) Try.func78 c562 (chk_cons (by rfl) Try.func81 c565 (chk_cons (by rfl) Try.func82 c566 (chk_cons (by rfl) Try.func83 c567 (chk_cons (by rfl) Try.func89 c585 (chk_cons (by rfl) Try.func94 c597 (chk_cons (by rfl) Try.func102 c598 (chk_cons (by rfl) Try.func99 c617 (chk_cons (by rfl) Try.func107 c628 (chk_cons (by rfl) Try.func115 c840 (chk_cons (by rfl) Try.func88 c877 (chk_cons (by rfl) Try.func100 c878 (chk_cons (by rfl) Try.func105 c893 (chk_cons (by rfl) Try.func111 c906 (chk_cons (by rfl) Try.func112 c907 (chk_cons (by rfl) Try.func113 c966 chk_nil)))))))))))))))))))))))))))
theorem ok : EnvOk Try.prog (sig pairs) (rho pairs) FnExactLeastCost.G := envok (by decide +kernel) checked (fun _ _ h => by cases h)
end Go.Proofs.Ytaamjlckaakenaa.envFnExactLeastCost
