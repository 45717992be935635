/-
  The functions that the law FnExactIsDesk reaches are those that the interpreter's code was printed from: checked one by one.
-/
import Derived.Test.YtaamjlckaakenaaAlPfFnExactIsDesk
import Derived.Lib.Strings
import Derived.Lib.Slices
import Derived.Lib.Walk
import Derived.Lib.Bytealg
import Derived.Test.YtaamjlckaakenaaChecked
import Derived.ProofKit
namespace Go.Proofs.Ytaamjlckaakenaa.envFnExactIsDesk
open Go.AL Go.RowKit

def pairs : List (Nat × Nat) := [(6, 6), (17, 58), (24, 65), (25, 66), (26, 67), (27, 68), (60, 122), (63, 124), (48, 126), (47, 270), (64, 315), (67, 388), (66, 417), (65, 507), (59, 542), (61, 543), (62, 544), (98, 569), (94, 597), (102, 598), (99, 617), (107, 628), (92, 675), (90, 715), (95, 721), (96, 722), (97, 723), (93, 783), (115, 840), (91, 846), (111, 906), (112, 907), (109, 929), (110, 930), (108, 957), (114, 992)]
theorem c6 : cFn (rho pairs) Try.prog Try.f6 = some F.laws_FnExactIsDesk := by kernel_rfl
theorem c58 : cFn (rho pairs) Try.prog Try.f17 = some F.laws_eqDesk := by kernel_rfl
theorem c65 : cFn (rho pairs) Try.prog Try.f24 = some F.laws_szDesk := by kernel_rfl
theorem c66 : cFn (rho pairs) Try.prog Try.f25 = some F.spec_IsDesk := by kernel_rfl
theorem c67 : cFn (rho pairs) Try.prog Try.f26 = some F.laws_toDesk := by kernel_rfl
theorem c68 : cFn (rho pairs) Try.prog Try.f27 = some F.impl_IsDesk := by kernel_rfl
theorem c122 : cFn (rho pairs) Try.prog Try.f60 = some F.laws_szStringS := by kernel_rfl
theorem c124 : cFn (rho pairs) Try.prog Try.f63 = some F.laws_toStringS := by kernel_rfl
theorem c126 : cFn (rho pairs) Try.prog Try.f48 = some F.laws_eqStringS := by kernel_rfl
theorem c270 : cFn (rho pairs) Try.prog Try.f47 = some F.laws_eqIntS := by kernel_rfl
theorem c315 : cFn (rho pairs) Try.prog Try.f64 = some F.impl_IsFence := by kernel_rfl
theorem c388 : cFn (rho pairs) Try.prog Try.f67 = some F.impl_IsLand := by kernel_rfl
theorem c417 : cFn (rho pairs) Try.prog Try.f66 = some F.impl_AreHeights := by kernel_rfl
theorem c507 : cFn (rho pairs) Try.prog Try.f65 = some F.impl_AreRails := by kernel_rfl
theorem c542 : cFn (rho pairs) Try.prog Try.f59 = some F.laws_szIntS := by kernel_rfl
theorem c543 : cFn (rho pairs) Try.prog Try.f61 = some F.spec_cnGood := by kernel_rfl
theorem c544 : cFn (rho pairs) Try.prog Try.f62 = some F.laws_toIntS := by kernel_rfl
theorem c569 : cFn (rho pairs) Try.prog Try.f98 = some F.impl_areLong := by kernel_rfl
theorem c597 : cFn (rho pairs) Try.prog Try.f94 = some F.impl_within := by kernel_rfl
theorem c598 : cFn (rho pairs) Try.prog Try.f102 = some F.spec_l1In := by kernel_rfl
theorem c617 : cFn (rho pairs) Try.prog Try.f99 = some F.impl_allWithin := by kernel_rfl
theorem c628 : cFn (rho pairs) Try.prog Try.f107 = some F.spec_l1All := by kernel_rfl
theorem c675 : cFn (rho pairs) Try.prog Try.f92 = some F.spec_caGood := by kernel_rfl
theorem c715 : cFn (rho pairs) Try.prog Try.f90 = some F.spec_stGood := by kernel_rfl
theorem c721 : cFn (rho pairs) Try.prog Try.f95 = some F.slices_ContainsFunc_byte_byte := by kernel_rfl
theorem c722 : cFn (rho pairs) Try.prog Try.f96 = some F.impl_IsFence_1 := by kernel_rfl
theorem c723 : cFn (rho pairs) Try.prog Try.f97 = some F.impl_isBoard := by kernel_rfl
theorem c783 : cFn (rho pairs) Try.prog Try.f93 = some F.spec_fiGood := by kernel_rfl
theorem c840 : cFn (rho pairs) Try.prog Try.f115 = some F.slices_IndexFunc_int_int := by kernel_rfl
theorem c846 : cFn (rho pairs) Try.prog Try.f91 = some F.spec_poGood := by kernel_rfl
theorem c906 : cFn (rho pairs) Try.prog Try.f111 = some F.slices_ContainsFunc_int_int := by kernel_rfl
theorem c907 : cFn (rho pairs) Try.prog Try.f112 = some F.impl_allWithin_1 := by kernel_rfl
theorem c929 : cFn (rho pairs) Try.prog Try.f109 = some F.slices_IndexFunc_byte_byte := by kernel_rfl
theorem c930 : cFn (rho pairs) Try.prog Try.f110 = some F.strings_IndexByte := by kernel_rfl
theorem c957 : cFn (rho pairs) Try.prog Try.f108 = some F.spec_fiLetter := by kernel_rfl
theorem checked : Chk (sig pairs) (rho pairs) Try.prog FnExactIsDesk.tab :=
  (chk_cons (by rfl) Try.func6 c6 (chk_cons (by rfl) Try.func17 c58 (chk_cons (by rfl) Try.func24 c65 (chk_cons (by rfl) Try.func25 c66 (chk_cons (by rfl) Try.func26 c67 (chk_cons (by rfl) Try.func27 c68 (chk_cons (by rfl) Try.func60 c122 (chk_cons (by rfl) Try.func63 c124 (chk_cons (by rfl) Try.func48 c126 (chk_cons (by rfl) Try.func47 c270 (chk_cons (by rfl) Try.func64 c315 (chk_cons (by rfl) Try.func67 c388 (chk_cons (by rfl) Try.func66 c417 (chk_cons (by rfl) Try.func65 c507 (chk_cons (by rfl) Try.func59 c542 (chk_cons (by rfl) Try.func61 c543 (chk_cons (by rfl) Try.func62 c544 (chk_cons (by rfl) Try.func98 c569 (chk_cons (by rfl) Try.func94 c597 (chk_cons (by rfl) Try.func102 c598 (chk_cons (by rfl) Try.func99 c617 (chk_cons (by rfl) Try.func107 c628 (chk_cons (by rfl) Try.func92 c675 (chk_cons (by rfl) Try.func90 c715 (chk_cons (by rfl) Try.func95 c721 (chk_cons (by rfl) Try.func96 c722 (chk_cons (by rfl) Try.func97 c723 (chk_cons (by rfl) Try.func93 c783 (chk_cons (by rfl) Try.func115 c840 (chk_cons (by rfl) Try.func91 c846 (chk_cons (by rfl) Try.func111 c906 (chk_cons (by rfl) Try.func112 c907 (chk_cons (by rfl) Try.func109 c929 (chk_cons (by rfl) Try.func110 c930 (chk_cons (by rfl) Try.func108 c957 chk_nil)))))))))))))))))))))))))))))))))))
open Go.Proofs
set_option maxHeartbeats 1000000 in
set_option maxRecDepth 100000 in
theorem at_IndexByte (s : ByteArray) (c : Int) (w : World) :
    Calls Try.prog 114 #[.string s, .int .u8 c] w fun e w' => e = .returned (.int .i64 (Lib.indexByte s.data.toList c.toNat.toUInt8)) ∧ w' = w := by
  go_enter Try.func114, Try.ntmps114
  go_wp2
  rw [run_callFunc_extern Try.func116 (by kernel_rfl) (by kernel_rfl) (by kernel_rfl) (e := Extern.BytealgIndexByte.indexByte) (by kernel_rfl), Lib.run_indexByteString]
  simp only [Result.andThen]
  rw [Oper.upon_value]
  go_wp2
  go_ret
  exact ⟨rfl, rfl⟩
theorem primsok : ∀ g q, FnExactIsDesk.prims g = some q → ∀ B w0 args m v m', q args m = some (v, m') → CallsSim Try.prog (sig pairs) B w0 g args m v m' := by
  intro g q h
  unfold FnExactIsDesk.prims at h
  split at h
  · rename_i e; subst e; cases h; exact prim_idx (n := 114) (by rfl) ⟨_, Try.func114, by kernel_rfl, by kernel_rfl⟩ at_IndexByte
  cases h
theorem ok : EnvOk Try.prog (sig pairs) (rho pairs) FnExactIsDesk.G := envok (by decide +kernel) checked primsok
end Go.Proofs.Ytaamjlckaakenaa.envFnExactIsDesk
