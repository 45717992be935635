/-
  The law FnExactFirstDesk at the interpreter: evaluated.
-/
import Derived.Test.YtaamjlckaakenaaAlTabFnExactFirstDesk
namespace Go.AL.FnExactFirstDesk
set_option linter.unusedSimpArgs false
set_option linter.unusedVariables false

def isTrue (r : Option (V × Mem)) : Bool := match r with
  | some (.u (.a (.bool true)), _) => true
  | _ => false

theorem of_isTrue {r : Option (V × Mem)} (h : isTrue r = true) : ∃ m', r = some (V.b true, m') := by
  unfold isTrue at h
  split at h
  · exact ⟨_, rfl⟩
  · cases h

theorem ran : isTrue (run G 100 3 [] []) = true := by decide +kernel

theorem law : ∃ k m', run G k 3 [] [] = some (V.b true, m') := ⟨100, of_isTrue ran⟩

end Go.AL.FnExactFirstDesk
