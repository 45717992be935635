/-
  The law FnExactNextProper at the interpreter.
-/
import Derived.Test.YtglmoocankodaaaAlTabFnExactNextProper
namespace Go.AL.FnExactNextProper
set_option linter.unusedSimpArgs false
set_option linter.unusedVariables false
theorem colI : ColI G := ⟨by rfl, by rfl, by rfl, by rfl, by rfl, by rfl, by rfl, by rfl⟩
theorem colS : ColS G := ⟨⟨by rfl, by rfl, by rfl⟩, by rfl, by rfl, by rfl⟩
theorem colF : ColF G := ⟨by rfl, by rfl, by rfl, by rfl, by rfl, by rfl, by rfl, by rfl⟩
theorem law (s : List UInt8) (hs : s.length ≤ 140737488351232) (t : Int) (ht : (Lit.int .i64 t).wf = true) (around : Bool) : ∃ k m', run G k 21 [V.s s, V.i t, V.b around] [] = some (V.b true, m') :=
  lawNext colI colS (by rfl) (by rfl) colF ⟨by rfl, by rfl⟩ ⟨by rfl, by rfl, by rfl, by rfl, by rfl, by rfl, by rfl, by rfl, by rfl⟩ (by rfl) (by rfl) (by rfl) (by rfl) (by rfl) (by rfl) (by rfl)
end Go.AL.FnExactNextProper
