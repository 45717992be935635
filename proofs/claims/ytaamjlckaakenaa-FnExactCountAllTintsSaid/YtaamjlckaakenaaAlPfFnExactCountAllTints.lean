/-
  The law FnExactCountAllTints at the interpreter.
-/
import Derived.Test.YtaamjlckaakenaaAlTabFnExactCountAllTints
namespace Go.AL.FnExactCountAllTints
set_option linter.unusedSimpArgs false
set_option linter.unusedVariables false
theorem colI : ColI G := ⟨by rfl, by rfl, by rfl, by rfl, by rfl, by rfl, by rfl, by rfl⟩
theorem colS : ColS G := ⟨by rfl, by rfl, by rfl, by rfl, by rfl, by rfl⟩
theorem colA : ColA G := ⟨by rfl, by rfl, by rfl⟩
theorem law (n : Int) (hn : (Lit.int .i64 n).wf = true) (t : Int) (ht : (Lit.int .i64 t).wf = true) : ∃ k m', run G k 7 [V.i n, V.i t] [] = some (V.b true, m') :=
  lawCountAllTints colI colS colA (by rfl) (by rfl) (by rfl) (by rfl) (by rfl) (by rfl)
end Go.AL.FnExactCountAllTints
