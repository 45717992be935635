/-
  The law FnExactCountFills at the interpreter.
-/
import Derived.Test.YtaamjlckaakenaaAlTabFnExactCountFills
namespace Go.AL.FnExactCountFills
set_option linter.unusedSimpArgs false
set_option linter.unusedVariables false
theorem colI : ColI G := ⟨by rfl, by rfl, by rfl, by rfl, by rfl, by rfl, by rfl, by rfl⟩
theorem colS : ColS G := ⟨by rfl, by rfl, by rfl, by rfl, by rfl, by rfl⟩
theorem colF : ColF G := ⟨by rfl, by rfl, by rfl, by rfl, by rfl, by rfl, by rfl, by rfl⟩
theorem colB : ColB G := ⟨by rfl, by rfl, by rfl⟩
theorem law (s : List UInt8) (hs : s.length ≤ 140737488351232) (t : Int) (ht : (Lit.int .i64 t).wf = true) (around : Bool) : ∃ k m', run G k 12 [V.s s, V.i t, V.b around] [] = some (V.b true, m') :=
  lawCf (num := 0) colI colS colF colB (by rfl) (by rfl) (by rfl) (by rfl) (by rfl) (by rfl) (by rfl) (by rfl)
end Go.AL.FnExactCountFills
