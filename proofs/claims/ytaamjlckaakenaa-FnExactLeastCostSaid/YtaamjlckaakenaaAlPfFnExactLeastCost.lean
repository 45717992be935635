/-
  The law FnExactLeastCost at the interpreter.
-/
import Derived.Test.YtaamjlckaakenaaAlTabFnExactLeastCost
namespace Go.AL.FnExactLeastCost
set_option linter.unusedSimpArgs false
set_option linter.unusedVariables false
theorem colI : ColI G := ⟨by rfl, by rfl, by rfl, by rfl, by rfl, by rfl, by rfl, by rfl⟩
theorem dkI : DkI G := ⟨by rfl, by rfl, by rfl, by rfl, by rfl⟩
theorem cstS : CstS G := ⟨by rfl, by rfl, by rfl, by rfl⟩
theorem lawss : LawSS G := ⟨by rfl, by rfl, by rfl, by rfl, by rfl, by rfl⟩
theorem law (m : Mem) (v : V) (n : Nat) (nn : Nat → Nat) (ff : Nat → Nat → Int) (h : TxII m v n nn ff) (hn : n ≤ 9223372036854775807) (hnn : ∀ i, nn i ≤ 9223372036854775807) : ∃ k m', run G k 13 [v] m = some (V.b true, m') := by
  refine lawSS_ok (x := 82) (y := 84) lawss (by rfl) h hn hnn (val := lcV n nn ff) ?_ (fun mm lo b hq h1 h2 => specLc_ok cstS (by rfl) (by rfl) hq h1 h2) (fun mm lo b hq h1 h2 => implLc_ok colI dkI (by rfl) (by rfl) hq h1 h2)
  unfold lcV
  split
  · exact .inl ⟨_, _, rfl⟩
  · exact .inl ⟨_, _, rfl⟩
end Go.AL.FnExactLeastCost
