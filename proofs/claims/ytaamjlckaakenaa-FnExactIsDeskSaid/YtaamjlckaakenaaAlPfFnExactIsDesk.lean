/-
  The law FnExactIsDesk at the interpreter.
-/
import Derived.Test.YtaamjlckaakenaaAlTabFnExactIsDesk
namespace Go.AL.FnExactIsDesk
set_option linter.unusedSimpArgs false
set_option linter.unusedVariables false
theorem colF : ColF G := ⟨by rfl, by rfl, by rfl, by rfl, by rfl, by rfl, by rfl, by rfl⟩
theorem law (m : Mem) (s : List UInt8) (a1 a2 a3 : A) (f1 f2 : Nat → Int) (f3 : Nat → List UInt8) (hs : s.length ≤ 9223372036854775807) (r1 : IsRow m (V.a a1) (fun i => .int .i64 (f1 i))) (r2 : IsRow m (V.a a2) (fun i => .int .i64 (f2 i))) (r3 : IsRow m (V.a a3) (fun i => .str (f3 i)))
    (hf : ∀ i, (f3 i).length ≤ 9223372036854775807) : ∃ k m', run G k 6 [V.g [.str s, a1, a2, a3]] m = some (V.b true, m') := by
  obtain ⟨n1, b1, t1⟩ := TxI.of r1
  obtain ⟨n2, b2, t2⟩ := TxI.of r2
  obtain ⟨n3, b3, t3⟩ := TxL.of r3
  exact lawDesk ⟨by rfl, by rfl, by rfl, by rfl, by rfl, by rfl, by rfl, by rfl, by rfl⟩ ⟨by rfl, by rfl, by rfl, by rfl, by rfl⟩ ⟨by rfl, by rfl, by rfl, by rfl, by rfl⟩ ⟨by rfl, by rfl, by rfl, by rfl, by rfl, by rfl, by rfl, by rfl, by rfl⟩
    (fun mm s => stGoodK_ok (by rfl) (by rfl)) (isFenceK_ok (by rfl) colF) (by rfl) ⟨t1, t2, t3⟩ hs b1 b2 b3 hf
end Go.AL.FnExactIsDesk
