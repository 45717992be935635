/-
  The law FnExactFirstRepainted at the interpreter.
-/
import Derived.Test.YtaamjlckaakenaaAlTabFnExactFirstRepainted
namespace Go.AL.FnExactFirstRepainted
set_option linter.unusedSimpArgs false
set_option linter.unusedVariables false
theorem colI : ColI G := ⟨by rfl, by rfl, by rfl, by rfl, by rfl, by rfl, by rfl, by rfl⟩
theorem colS : ColS0 G := ⟨by rfl, by rfl, by rfl⟩
theorem colF : ColF G := ⟨by rfl, by rfl, by rfl, by rfl, by rfl, by rfl, by rfl, by rfl⟩
theorem colB : ColB G := ⟨by rfl, by rfl, by rfl⟩
theorem law (s : List UInt8) (hs : s.length ≤ 140737488351232) (t : Int) (ht : (Lit.int .i64 t).wf = true) (around : Bool) : ∃ k m', run G k 16 [V.s s, V.i t, V.b around] [] = some (V.b true, m') :=
  lawFrp colI colS colF colB (by rfl) (by rfl) (by rfl) (by rfl) (by rfl) (by rfl) (by rfl) (by rfl) (by rfl)
end Go.AL.FnExactFirstRepainted
