/-
  The functions that the law FnExactFirstListed reaches are those that the interpreter's code was printed from: checked one by one.
-/
import Derived.Test.YtglmoocankodaaaAlPfFnExactFirstListed
import Derived.Lib.Strings
import Derived.Lib.Slices
import Derived.Lib.Walk
import Derived.Lib.Bytealg
import Derived.Test.YtglmoocankodaaaChecked
import Derived.ProofKit
namespace Go.Proofs.Ytglmoocankodaaa.envFnExactFirstListed
open Go.AL Go.RowKit

def pairs : List (Nat × Nat) := [(7, 24), (20, 122), (22, 124), (24, 126), (25, 157), (26, 158), (119, 540), (104, 547), (153, 551), (151, 562), (106, 588), (107, 589), (108, 590), (137, 597), (138, 598), (147, 877), (148, 878), (167, 883), (165, 893), (152, 896), (166, 930), (162, 966), (174, 992)]
theorem c24 : cFn (rho pairs) Try.prog Try.f7 = some F.laws_FnExactFirstListed := by kernel_rfl
theorem c122 : cFn (rho pairs) Try.prog Try.f20 = some F.laws_szStringS := by kernel_rfl
theorem c124 : cFn (rho pairs) Try.prog Try.f22 = some F.laws_toStringS := by kernel_rfl
theorem c126 : cFn (rho pairs) Try.prog Try.f24 = some F.laws_eqStringS := by kernel_rfl
theorem c157 : cFn (rho pairs) Try.prog Try.f25 = some F.spec_FirstListed := by kernel_rfl
theorem c158 : cFn (rho pairs) Try.prog Try.f26 = some F.impl_FirstListed := by kernel_rfl
theorem c540 : cFn (rho pairs) Try.prog Try.f119 = some F.impl_free := by kernel_rfl
theorem c547 : cFn (rho pairs) Try.prog Try.f104 = some F.impl_table_first := by kernel_rfl
theorem c551 : cFn (rho pairs) Try.prog Try.f153 = some F.strings_Contains := by kernel_rfl
theorem c562 : cFn (rho pairs) Try.prog Try.f151 = some F.impl_table_look := by kernel_rfl
theorem c588 : cFn (rho pairs) Try.prog Try.f106 = some F.spec_coLists := by kernel_rfl
theorem c589 : cFn (rho pairs) Try.prog Try.f107 = some F.spec_coListed := by kernel_rfl
theorem c590 : cFn (rho pairs) Try.prog Try.f108 = some F.impl_listed := by kernel_rfl
theorem c597 : cFn (rho pairs) Try.prog Try.f137 = some F.impl_within := by kernel_rfl
theorem c598 : cFn (rho pairs) Try.prog Try.f138 = some F.spec_l1In := by kernel_rfl
theorem c877 : cFn (rho pairs) Try.prog Try.f147 = some F.impl_isRing := by kernel_rfl
theorem c878 : cFn (rho pairs) Try.prog Try.f148 = some F.impl_table_fixed := by kernel_rfl
theorem c893 : cFn (rho pairs) Try.prog Try.f165 = some F.impl_table_line := by kernel_rfl
theorem c896 : cFn (rho pairs) Try.prog Try.f152 = some F.impl_isList := by kernel_rfl
theorem c930 : cFn (rho pairs) Try.prog Try.f166 = some F.strings_IndexByte := by kernel_rfl
theorem c966 : cFn (rho pairs) Try.prog Try.f162 = some F.slices_Clone_impl_table_5_int := by kernel_rfl
theorem checked : Chk (sig pairs) (rho pairs) Try.prog FnExactFirstListed.tab :=
  (chk_cons (by rfl) Try.func7 c24 (chk_cons (by rfl) Try.func20 c122 (chk_cons (by rfl) Try.func22 c124 (chk_cons (by rfl) Try.func24 c126 (chk_cons (by rfl) Try.func25 c157 (chk_cons (by rfl) Try.func26 c158 (chk_cons (by rfl) Try.func119 c540 (chk_cons (by rfl) Try.func104 c547 (chk_cons (by rfl) Try.func153 c551 (chk_cons (by rfl) Try.func151 c562 (chk_cons (by rfl) Try.func106 c588 (chk_cons (by rfl) Try.func107 c589 (chk_cons (by rfl) Try.func108 c590 (chk_cons (by rfl) Try.func137 c597 (chk_cons (by rfl) Try.func138 c598 (chk_cons (by rfl) Try.func147 c877 (chk_cons (by rfl) Try.func148 c878 (chk_cons (by rfl) Try.func165 c893 (chk_cons (by rfl) Try.func152 c896 (chk_cons (by rfl) Try.func166 c930 (chk_cons (by rfl) Try.func162 c966 chk_nil)))))))))))))))))))))
open Go.Proofs
set_option maxHeartbeats 1000000 in
set_option maxRecDepth 100000 in
theorem at_IndexByte (s : ByteArray) (c : Int) (w : World) :
    Calls Try.prog 174 #[.string s, .int .u8 c] w fun e w' => e = .returned (.int .i64 (Lib.indexByte s.data.toList c.toNat.toUInt8)) ∧ w' = w := by
  go_enter Try.func174, Try.ntmps174
  go_wp2
  rw [run_callFunc_extern Try.func176 (by kernel_rfl) (by kernel_rfl) (by kernel_rfl) (e := Extern.BytealgIndexByte.indexByte) (by kernel_rfl), Lib.run_indexByteString]
  simp only [Result.andThen]
  rw [Oper.upon_value]
  go_wp2
  go_ret
  exact ⟨rfl, rfl⟩
set_option maxHeartbeats 2000000 in
set_option maxRecDepth 100000 in
theorem at_Index0 (s : ByteArray) (c : UInt8) (w : World) :
    Calls Try.prog 175 #[.string s, .string ⟨#[c]⟩] w fun e w' => e = .returned (.int .i64 (Lib.indexByte s.data.toList c)) ∧ w' = w := by
  go_enter Try.func175, Try.ntmps175
  go_wp2_with (go_at_call 174; refine (at_IndexByte _ _ _).mono ?_; rintro e w' ⟨rfl, rfl⟩)
  · have h : ([c] == s.toList) = true := by assumption
    go_ret
    refine ⟨?_, rfl⟩
    have e : s.data.toList = [c] := by rw [← Lib.toList_data]; exact (beq_iff_eq.1 h).symm
    rw [e]
    simp [Lib.indexByte]
  · go_ret
    exact ⟨rfl, rfl⟩
set_option maxHeartbeats 1000000 in
theorem at_Index (s : ByteArray) (c : UInt8) (w : World) :
    Calls Try.prog 167 #[.string s, .string ⟨#[c]⟩] w fun e w' => e = .returned (.int .i64 (Lib.indexByte s.data.toList c)) ∧ w' = w := by
  go_enter Try.func167, Try.ntmps167
  go_wp2_with (go_at_call 175; refine (at_Index0 _ _ _).mono ?_; rintro e w' ⟨rfl, rfl⟩)
  go_ret
  exact ⟨rfl, rfl⟩
theorem primsok : ∀ g q, FnExactFirstListed.prims g = some q → ∀ B w0 args m v m', q args m = some (v, m') → CallsSim Try.prog (sig pairs) B w0 g args m v m' := by
  intro g q h
  unfold FnExactFirstListed.prims at h
  split at h
  · rename_i e; subst e; cases h; exact prim_idx1 (n := 167) (by rfl) ⟨_, Try.func167, by kernel_rfl, by kernel_rfl⟩ at_Index
  split at h
  · rename_i e; subst e; cases h; exact prim_idx (n := 174) (by rfl) ⟨_, Try.func174, by kernel_rfl, by kernel_rfl⟩ at_IndexByte
  cases h
theorem ok : EnvOk Try.prog (sig pairs) (rho pairs) FnExactFirstListed.G := envok (by decide +kernel) checked primsok
end Go.Proofs.Ytglmoocankodaaa.envFnExactFirstListed
