/-
  The law FnExactLeastCost returns true at every input, and its arguments read behind the call as they read before.
-/
import Derived.Test.YtaamjlckaakenaaRows
import Derived.Test.YtaamjlckaakenaaEnvFnExactLeastCost
import Derived.WalkKit
import Derived.ProofKit
import Derived.OpenShut
import Derived.ShutString
import Derived.ChangeOld
import Derived.Below
import Derived.SizedLaws
import Derived.Carry
namespace Go.Proofs.Ytaamjlckaakenaa.fnExactLeastCost
open Go.ChangeShapes Go.WideShapes Go.ChangeAt Go.RowKit
open Go.ChangeMaps (open_string shut_string)
open Go.AL (law_calls sim_nil V.ok U.ok A.ok cV cU cA)
open Go.AL
set_option linter.unusedVariables false
set_option linter.unusedSimpArgs false
theorem own : ownKnob Try.prog.godebug = none := by kernel_rfl
set_option maxRecDepth 100000 in
theorem lifted (os : Os) (started : os.Started) (H : Type) (enc : TypeId × Value → H) :
    ReturnsInHanded {} Try.checked os 12 .any (Rows.fnExactLeastCostSpec.pre6 enc Try.prog Try.f12 Rows.fnExactLeastCostRow.domain false) (Rows.fnExactLeastCostSpec.post enc Try.prog Try.f12 false true false false) := by
  refine returnsInHanded_of_change_sized (C := Try.checked) own started (by kernel_rfl) Try.func12
    (ChangeSpec.witness6 (enc := enc) (C := Try.checked) false ⟨#[], #[.slice none 0 0], []⟩ 8 (by kernel_rfl) (by kernel_rfl) (by kernel_rfl) (by kernel_rfl)) ?_
  intro W base args ds gs before hval0 hW hcnd hsz0 _
  have hsz : (DataW.weightsEach Try.prog (Try.f12.params.toList ++ Rows.fnExactLeastCostSpec.plain.varTypes Try.prog) (ds ++ gs)).all (· ≤ reachBytes) = true := hsz0
  have hval : ∀ (j : Nat) t v, Try.f12.params[j]? = some t → args[j]? = some v → Value.okWide Try.prog W .any base t v := hval0
  have hW' := hW
  obtain ⟨p, q, hA0, hV, rfl, hfz, hnd⟩ := hW
  have hA : DataW.TrodAll enc Try.prog W 0 (fun _ => true) true Try.f12.params.toList args.toList ds p := hA0
  rw [Try.params12] at hA hval hsz
  obtain ⟨v0, vs0, d0, ds0, p0, q0, hargs, rfl, rfl, h0, r0⟩ := trodAll_cons hA
  obtain ⟨rfl, rfl, rfl⟩ := trodAll_nil r0
  obtain rfl : args = #[v0] := by cases args; simp_all
  obtain ⟨rfl, rfl⟩ := trodVars_none hV
  have g0 : DataW.Trod enc Try.prog W 0 (fun _ => true) true 46 v0 d0 p0 := h0
  obtain ⟨E0, m0, x0, n0, nn0, ff0, sim0, ve0, ok0, row0, bn0, bd0⟩ := openNumss (sim_nil (sig envFnExactLeastCost.pairs) W (fun _ => default)) Try.underlying46 Try.underlying22 Try.underlying3 (by kernel_rfl) (by kernel_rfl) (hval 0 46 v0 rfl rfl) g0
  have laidOut0 : laidOutB Try.prog = true := by kernel_rfl
  clear hA0 hval0 hsz0 hsz
  refine (law_calls envFnExactLeastCost.ok (g := 13) (n := 12) (by rfl) (args := [x0]) (E := E0) sim0 (by intro x hx; simp only [List.mem_cons, List.not_mem_nil, or_false] at hx; rcases hx with rfl <;> first | assumption | exact trivial | simp [V.ok, U.ok, A.ok]) (FnExactLeastCost.law m0 x0 n0 nn0 ff0 row0 bn0 bd0) (by rw [ve0]; rfl)).mono fun e W' ⟨he, bel⟩ => ?_
  subst he
  exact ⟨_, rfl, _, _, _, [], _, [], hW', trodAll_mk1 (shut_bool Try.underlying4 _), (trodAll_cons_mk (Below.trod laidOut0 (by kernel_rfl) (of_decide_eq_true (by kernel_rfl)) g0 bel (fun x hx => hW'.lt x (by simp [hx]))) trodAll_mk0), rfl, bel.frame _, fun h => by cases h⟩
theorem over : Rows.fnExactLeastCostRow.holds Try.pinned (OpenSpec.ofChange Rows.fnExactLeastCostSpec) :=
  OpenClaim.holds_of_wide 12 Try.f12 rfl rfl rfl rfl rfl rfl rfl ⟨rfl, rfl, rfl, rfl, rfl⟩ rfl rfl rfl rfl rfl (by kernel_rfl) Try.func12 (by kernel_rfl)
    (of_decide_eq_true (by kernel_rfl)) (by unfold Func.isWrapper; first | (rw [if_pos (by decide +kernel)]; kernel_rfl) | (rw [if_neg (by decide +kernel)]; exact ⟨rfl, rfl⟩))
    (fun os started H enc _ => lifted os started H enc)
theorem proved : Rows.FnExactLeastCostSaid := over
end Go.Proofs.Ytaamjlckaakenaa.fnExactLeastCost
namespace Go.Proofs.Ytaamjlckaakenaa
theorem fnExactLeastCost_holds : Rows.FnExactLeastCostSaid := fnExactLeastCost.proved
#print axioms fnExactLeastCost_holds
end Go.Proofs.Ytaamjlckaakenaa
