/-
  The functions that the law FnExactFirstRepainted reaches are those that the interpreter's code was printed from: checked one by one.
-/
import Derived.Test.YtaamjlckaakenaaAlPfFnExactFirstRepainted
import Derived.Lib.Strings
import Derived.Lib.Slices
import Derived.Lib.Walk
import Derived.Lib.Bytealg
import Derived.Test.YtaamjlckaakenaaChecked
import Derived.ProofKit
namespace Go.Proofs.Ytaamjlckaakenaa.envFnExactFirstRepainted
open Go.AL Go.RowKit

def pairs : List (Nat × Nat) := [(13, 16), (34, 77), (43, 114), (44, 115), (64, 315), (57, 540), (70, 547), (73, 557), (74, 558), (75, 559), (76, 560), (77, 561), (78, 562), (104, 584), (89, 585), (94, 597), (102, 598), (90, 715), (95, 721), (96, 722), (97, 723), (85, 874), (88, 877), (100, 878), (103, 892), (105, 893), (109, 929), (110, 930), (113, 966), (114, 992)]
theorem c16 : cFn (rho pairs) Try.prog Try.f13 = some F.laws_FnExactFirstRepainted := by kernel_rfl
theorem c77 : cFn (rho pairs) Try.prog Try.f34 = some F.spec_FewestRepaints := by kernel_rfl
theorem c114 : cFn (rho pairs) Try.prog Try.f43 = some F.spec_FirstRepainted := by kernel_rfl
theorem c115 : cFn (rho pairs) Try.prog Try.f44 = some F.impl_FirstRepainted := by kernel_rfl
theorem c315 : cFn (rho pairs) Try.prog Try.f64 = some F.impl_IsFence := by kernel_rfl
theorem c540 : cFn (rho pairs) Try.prog Try.f57 = some F.impl_free := by kernel_rfl
theorem c547 : cFn (rho pairs) Try.prog Try.f70 = some F.impl_table_first := by kernel_rfl
theorem c557 : cFn (rho pairs) Try.prog Try.f73 = some F.spec_coFence := by kernel_rfl
theorem c558 : cFn (rho pairs) Try.prog Try.f74 = some F.spec_coTints := by kernel_rfl
theorem c559 : cFn (rho pairs) Try.prog Try.f75 = some F.spec_coFewest := by kernel_rfl
theorem c560 : cFn (rho pairs) Try.prog Try.f76 = some F.impl_isFilled := by kernel_rfl
theorem c561 : cFn (rho pairs) Try.prog Try.f77 = some F.impl_repainted := by kernel_rfl
theorem c562 : cFn (rho pairs) Try.prog Try.f78 = some F.impl_table_look := by kernel_rfl
theorem c584 : cFn (rho pairs) Try.prog Try.f104 = some F.impl_isStood := by kernel_rfl
theorem c585 : cFn (rho pairs) Try.prog Try.f89 = some F.impl_isTints := by kernel_rfl
theorem c597 : cFn (rho pairs) Try.prog Try.f94 = some F.impl_within := by kernel_rfl
theorem c598 : cFn (rho pairs) Try.prog Try.f102 = some F.spec_l1In := by kernel_rfl
theorem c715 : cFn (rho pairs) Try.prog Try.f90 = some F.spec_stGood := by kernel_rfl
theorem c721 : cFn (rho pairs) Try.prog Try.f95 = some F.slices_ContainsFunc_byte_byte := by kernel_rfl
theorem c722 : cFn (rho pairs) Try.prog Try.f96 = some F.impl_IsFence_1 := by kernel_rfl
theorem c723 : cFn (rho pairs) Try.prog Try.f97 = some F.impl_isBoard := by kernel_rfl
theorem c874 : cFn (rho pairs) Try.prog Try.f85 = some F.spec_coSize := by kernel_rfl
theorem c877 : cFn (rho pairs) Try.prog Try.f88 = some F.impl_isRing := by kernel_rfl
theorem c878 : cFn (rho pairs) Try.prog Try.f100 = some F.impl_table_fixed := by kernel_rfl
theorem c892 : cFn (rho pairs) Try.prog Try.f103 = some F.spec_coRepaint := by kernel_rfl
theorem c893 : cFn (rho pairs) Try.prog Try.f105 = some F.impl_table_line := by kernel_rfl
theorem c929 : cFn (rho pairs) Try.prog Try.f109 = some F.slices_IndexFunc_byte_byte := by kernel_rfl
theorem c930 : cFn (rho pairs) Try.prog Try.f110 = some F.strings_IndexByte := by kernel_rfl
theorem c966 : cFn (rho pairs) Try.prog Try.f113 = some F.slices_Clone_impl_table_5_int := by kernel_rfl
theorem checked : Chk (sig pairs) (rho pairs) Try.prog FnExactFirstRepainted.tab :=
  (chk_cons (by rfl) Try.func13 c16 (chk_cons (by rfl) Try.func34 c77 (chk_cons (by rfl) Try.func43 c114 (chk_cons (by rfl) Try.func44 c115 (chk_cons (by rfl) Try.func64 c315 (chk_cons (by rfl) Try.func57 c540 (chk_cons (by rfl) Try.func70 c547 (chk_cons (by rfl) Try.func73 c557 (chk_cons (by rfl) Try.func74 c558 (chk_cons (by rfl) Try.func75 c559 (chk_cons (by rfl) Try.func76 c560 (chk_cons (by rfl) Try.func77 c561 (chk_cons (by rfl) Try.func78 c562 (chk_cons (by rfl) Try.func104 c584 (chk_cons (by rfl) Try.func89 c585 (chk_cons (by rfl) Try.func94 c597 (chk_cons (by rfl) Try.func102 c598 (chk_cons (by rfl) Try.func90 c715 (chk_cons (by rfl) Try.func95 c721 (chk_cons (by rfl) Try.func96 c722 (chk_cons (by rfl) Try.func97 c723 (chk_cons (by rfl) Try.func85 c874 (chk_cons (by rfl) Try.func88 c877 (chk_cons (by rfl) Try.func100 c878 (chk_cons (by rfl) Try.func103 c892 (chk_cons (by rfl) Try.func105 c893 (chk_cons (by rfl) Try.func109 c929 (chk_cons (by rfl) Try.func110 c930 (chk_cons (by rfl) Try.func113 c966 chk_nil)))))))))))))))))))))))))))))
open Go.Proofs
set_option maxHeartbeats 1000000 in
set_option maxRecDepth 100000 in
theorem at_IndexByte (s : ByteArray) (c : Int) (w : World) :
    Calls Try.prog 114 #[.string s, .int .u8 c] w fun e w' => e = .returned (.int .i64 (Lib.indexByte s.data.toList c.toNat.toUInt8)) ∧ w' = w := by
  go_enter Try.func114, Try.ntmps114
  go_wp2
  rw [run_callFunc_extern Try.func116 (by kernel_rfl) (by kernel_rfl) (by kernel_rfl) (e := Extern.BytealgIndexByte.indexByte) (by kernel_rfl), Lib.run_indexByteString]
  simp only [Result.andThen]
  rw [Oper.upon_value]
  go_wp2
  go_ret
  exact ⟨rfl, rfl⟩
theorem primsok : ∀ g q, FnExactFirstRepainted.prims g = some q → ∀ B w0 args m v m', q args m = some (v, m') → CallsSim Try.prog (sig pairs) B w0 g args m v m' := by
  intro g q h
  unfold FnExactFirstRepainted.prims at h
  split at h
  · rename_i e; subst e; cases h; exact prim_idx (n := 114) (by rfl) ⟨_, Try.func114, by kernel_rfl, by kernel_rfl⟩ at_IndexByte
  cases h
theorem ok : EnvOk Try.prog (sig pairs) (rho pairs) FnExactFirstRepainted.G := envok (by decide +kernel) checked primsok
end Go.Proofs.Ytaamjlckaakenaa.envFnExactFirstRepainted
