/-
  The law FnExactFirstListed at the interpreter.
-/
import Derived.Test.YtglmoocankodaaaAlTabFnExactFirstListed
namespace Go.AL.FnExactFirstListed
set_option linter.unusedSimpArgs false
set_option linter.unusedVariables false
theorem law (m : Mem) (v : V) (f : Nat → List UInt8) (hv : IsRow m v (fun i => .str (f i))) (hf : ∀ i, (f i).length ≤ 9223372036854775807) : ∃ k m', run G k 24 [v] m = some (V.b true, m') :=
  lawFl ⟨by rfl, by rfl, by rfl, by rfl, by rfl, by rfl, by rfl⟩ ⟨by rfl, by rfl, by rfl, by rfl⟩ (by rfl) (ixb0_ok (by rfl) (by rfl)) (by rfl) (by rfl) (by rfl) (by rfl) (by rfl) (by rfl) (by rfl) (by rfl) (by rfl) hv hf
end Go.AL.FnExactFirstListed
