/-
  The law FnExactRankOfProper at the interpreter.
-/
import Derived.Test.YtglmoocankodaaaAlTabFnExactRankOfProper
namespace Go.AL.FnExactRankOfProper
set_option linter.unusedSimpArgs false
set_option linter.unusedVariables false
theorem colI : ColI G := ⟨by rfl, by rfl, by rfl, by rfl, by rfl, by rfl, by rfl, by rfl⟩
theorem colS : ColS G := ⟨by rfl, by rfl, by rfl, by rfl, by rfl, by rfl⟩
theorem colF : ColF G := ⟨by rfl, by rfl, by rfl, by rfl, by rfl, by rfl, by rfl, by rfl⟩
theorem law (s : List UInt8) (hs : s.length ≤ 140737488351232) (t : Int) (ht : (Lit.int .i64 t).wf = true) (around : Bool) : ∃ k m', run G k 18 [V.s s, V.i t, V.b around] [] = some (V.b true, m') :=
  lawRop colI colS (by rfl) colF ⟨by rfl, by rfl⟩ ⟨by rfl, by rfl, by rfl, by rfl, by rfl, by rfl, by rfl, by rfl, by rfl⟩ (by rfl) (by rfl)
end Go.AL.FnExactRankOfProper
