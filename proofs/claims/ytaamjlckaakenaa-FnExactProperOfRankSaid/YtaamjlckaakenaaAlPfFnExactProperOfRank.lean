/-
  The law FnExactProperOfRank at the interpreter.
-/
import Derived.Test.YtaamjlckaakenaaAlTabFnExactProperOfRank
namespace Go.AL.FnExactProperOfRank
set_option linter.unusedSimpArgs false
set_option linter.unusedVariables false
theorem colI : ColI G := ⟨by rfl, by rfl, by rfl, by rfl, by rfl, by rfl, by rfl, by rfl⟩
theorem colS : ColS G := ⟨by rfl, by rfl, by rfl, by rfl, by rfl, by rfl⟩
theorem colA : ColA G := ⟨by rfl, by rfl, by rfl⟩
theorem law (n : Int) (hn : (Lit.int .i64 n).wf = true) (t : Int) (ht : (Lit.int .i64 t).wf = true) (around : Bool) (r : Int) (hr : (Lit.int .i64 r).wf = true) : ∃ k m', run G k 10 [V.i n, V.i t, V.b around, V.i r] [] = some (V.b true, m') :=
  lawPor colI colS colA (by rfl) (by rfl) (by rfl) (by rfl) (by rfl) (by rfl) (by rfl) (by simp only [Lit.wf, Bool.and_eq_true, decide_eq_true_eq] at hr; exact hr)
end Go.AL.FnExactProperOfRank
