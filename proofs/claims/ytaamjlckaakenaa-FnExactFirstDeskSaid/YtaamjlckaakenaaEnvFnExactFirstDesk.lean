/-
  The functions that the law FnExactFirstDesk reaches are those that the interpreter's code was printed from: checked one by one.
-/
import Derived.Test.YtaamjlckaakenaaAlPfFnExactFirstDesk
import Derived.Test.YtaamjlckaakenaaChecked
import Derived.ProofKit
namespace Go.Proofs.Ytaamjlckaakenaa.envFnExactFirstDesk
open Go.AL Go.RowKit

def pairs : List (Nat × Nat) := [(3, 3), (15, 56), (16, 57), (17, 58), (18, 59), (19, 60), (48, 126), (47, 270), (49, 272), (51, 273), (50, 276), (52, 277), (84, 687)]
theorem c3 : cFn (rho pairs) Try.prog Try.f3 = some F.laws_FnExactFirstDesk := by kernel_rfl
theorem c56 : cFn (rho pairs) Try.prog Try.f15 = some F.spec_FirstDesk := by kernel_rfl
theorem c57 : cFn (rho pairs) Try.prog Try.f16 = some F.impl_FirstDesk := by kernel_rfl
theorem c58 : cFn (rho pairs) Try.prog Try.f17 = some F.laws_eqDesk := by kernel_rfl
theorem c59 : cFn (rho pairs) Try.prog Try.f18 = some F.laws_markDesk := by kernel_rfl
theorem c60 : cFn (rho pairs) Try.prog Try.f19 = some F.laws_heldDesk := by kernel_rfl
theorem c126 : cFn (rho pairs) Try.prog Try.f48 = some F.laws_eqStringS := by kernel_rfl
theorem c270 : cFn (rho pairs) Try.prog Try.f47 = some F.laws_eqIntS := by kernel_rfl
theorem c272 : cFn (rho pairs) Try.prog Try.f49 = some F.laws_markIntS := by kernel_rfl
theorem c273 : cFn (rho pairs) Try.prog Try.f51 = some F.laws_heldIntS := by kernel_rfl
theorem c276 : cFn (rho pairs) Try.prog Try.f50 = some F.laws_markStringS := by kernel_rfl
theorem c277 : cFn (rho pairs) Try.prog Try.f52 = some F.laws_heldStringS := by kernel_rfl
theorem c687 : cFn (rho pairs) Try.prog Try.f84 = some F.laws_markText := by kernel_rfl
theorem checked : Chk (sig pairs) (rho pairs) Try.prog FnExactFirstDesk.tab :=
  (chk_cons (by rfl) Try.func3 c3 (chk_cons (by rfl) Try.func15 c56 (chk_cons (by rfl) Try.func16 c57 (chk_cons (by rfl) Try.func17 c58 (chk_cons (by rfl) Try.func18 c59 (chk_cons (by rfl) Try.func19 c60 (chk_cons (by rfl) Try.func48 c126 (chk_cons (by rfl) Try.func47 c270 (chk_cons (by rfl) Try.func49 c272 (chk_cons (by rfl) Try.func51 c273 (chk_cons (by rfl) Try.func50 c276 (chk_cons (by rfl) Try.func52 c277 (chk_cons (by rfl) Try.func84 c687 chk_nil)))))))))))))
theorem ok : EnvOk Try.prog (sig pairs) (rho pairs) FnExactFirstDesk.G := envok (by decide +kernel) checked (fun _ _ h => by cases h)
end Go.Proofs.Ytaamjlckaakenaa.envFnExactFirstDesk
