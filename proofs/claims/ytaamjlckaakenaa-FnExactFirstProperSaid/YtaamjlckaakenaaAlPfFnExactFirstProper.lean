/-
  The law FnExactFirstProper at the interpreter.
-/
import Derived.Test.YtaamjlckaakenaaAlTabFnExactFirstProper
namespace Go.AL.FnExactFirstProper
set_option linter.unusedSimpArgs false
set_option linter.unusedVariables false
theorem colI : ColI G := ⟨by rfl, by rfl, by rfl, by rfl, by rfl, by rfl, by rfl, by rfl⟩
theorem colS : ColS G := ⟨by rfl, by rfl, by rfl, by rfl, by rfl, by rfl⟩
theorem colA : ColA G := ⟨by rfl, by rfl, by rfl⟩
theorem law (n : Int) (hn : (Lit.int .i64 n).wf = true) (t : Int) (ht : (Lit.int .i64 t).wf = true) (around : Bool) : ∃ k m', run G k 8 [V.i n, V.i t, V.b around] [] = some (V.b true, m') :=
  lawFp colI colS colA (by rfl) (by rfl) (by rfl) (by rfl) (by rfl) (by rfl) (by rfl)
end Go.AL.FnExactFirstProper
