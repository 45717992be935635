/-
  The law FnExactCountListed at the interpreter.
-/
import Derived.Test.YtglmoocankodaaaAlTabFnExactCountListed
namespace Go.AL.FnExactCountListed
set_option linter.unusedSimpArgs false
set_option linter.unusedVariables false
theorem law (m : Mem) (v : V) (f : Nat → List UInt8) (hv : IsRow m v (fun i => .str (f i))) (hf : ∀ i, (f i).length ≤ 9223372036854775807) : ∃ k m', run G k 20 [v] m = some (V.b true, m') :=
  lawCl ⟨by rfl, by rfl, by rfl, by rfl, by rfl, by rfl, by rfl⟩ ⟨by rfl, by rfl, by rfl, by rfl⟩ (by rfl) (ixb0_ok (by rfl) (by rfl)) (by rfl) (by rfl) (by rfl) (by rfl) (by rfl) (by rfl) (by rfl) (by rfl) (by rfl) hv hf
end Go.AL.FnExactCountListed
