/-
  From what the interpreter answers to what the law's call returns.
-/
import Derived.Test.YtaamjlckaakenaaAlSound
namespace Go.AL
set_option linter.unusedSimpArgs false
set_option linter.unusedVariables false
open Go.RowKit

def rho (t : List (Nat × Nat)) (f : Nat) : Option Nat := (t.find? (·.1 == f)).map (·.2)
def sig (t : List (Nat × Nat)) (g : Nat) : Nat := ((t.find? (·.2 == g)).map (·.1)).getD 0

theorem fnmap {t : List (Nat × Nat)} (h : t.all (fun p => sig t p.2 == p.1) = true) : FnMap (sig t) (rho t) := by
  intro f g hf
  obtain ⟨p, hp, rfl⟩ := Option.map_eq_some_iff.1 hf
  have h1 := List.mem_of_find?_eq_some hp
  have h2 := List.find?_some hp
  have h3 := List.all_eq_true.1 h p h1
  simp only [beq_iff_eq] at h2 h3
  rw [h3, h2]

def Chk (σ : Nat → Nat) (ρ : Nat → Option Nat) (P : Program) (t : List (Nat × Fn)) : Prop :=
  ∀ p ∈ t, ∃ f, P.funcs[σ p.1]? = some f ∧ cFn ρ P f = some p.2

theorem chk_nil {σ : Nat → Nat} {ρ : Nat → Option Nat} {P : Program} : Chk σ ρ P [] := fun _ h => nomatch h
theorem chk_cons {σ : Nat → Nat} {ρ : Nat → Option Nat} {P : Program} {g n : Nat} {fn : Fn} {f : Func} {t : List (Nat × Fn)} (hs : σ g = n) (hf : P.funcs[n]? = some f) (hc : cFn ρ P f = some fn) (ht : Chk σ ρ P t) :
    Chk σ ρ P ((g, fn) :: t) := by
  intro p hp
  rcases List.mem_cons.1 hp with rfl | hp
  · exact ⟨f, by rw [hs]; exact hf, hc⟩
  · exact ht p hp

def envOf (t : List (Nat × Fn)) (p : Nat → Option (List V → Mem → Option (V × Mem))) : Env := fun g =>
  match t.find? (·.1 == g) with
  | some x => some (.code x.2)
  | none => (p g).map .prim

theorem envok {t : List (Nat × Nat)} {P : Program} {tab : List (Nat × Fn)} (h : t.all (fun p => sig t p.2 == p.1) = true) (hc : Chk (sig t) (rho t) P tab)
    {p : Nat → Option (List V → Mem → Option (V × Mem))} (hp : ∀ g q, p g = some q → ∀ B w0 args m v m', q args m = some (v, m') → CallsSim P (sig t) B w0 g args m v m') :
    EnvOk P (sig t) (rho t) (envOf tab p) := by
  refine ⟨fnmap h, fun g fn hg => ?_, fun g q hg => ?_⟩
  · unfold envOf at hg
    split at hg
    · rename_i x hx
      cases hg
      have h1 := List.mem_of_find?_eq_some hx
      have h2 := List.find?_some hx
      simp only [beq_iff_eq] at h2
      subst h2
      exact hc x h1
    · obtain ⟨_, _, h⟩ := Option.map_eq_some_iff.1 hg
      cases h
  · unfold envOf at hg
    split at hg
    · cases hg
    · obtain ⟨_, h1, h⟩ := Option.map_eq_some_iff.1 hg
      cases h
      exact hp g q h1

theorem sim_nil (σ : Nat → Nat) (W : World) (E : Emb) : Sim σ W.heap.size W E [] W :=
  ⟨Below.refl _ _, Nat.le_refl _, fun _ _ _ h => by simp at h, fun _ _ _ h => by simp at h, fun _ _ _ h => by simp [owned] at h, fun _ _ _ h => by simp at h⟩

/-- A law that takes numbers, truth values, texts alone. -/
theorem law_calls {σ : Nat → Nat} {ρ : Nat → Option Nat} {P : Program} {G : Env} (hE : EnvOk P σ ρ G) {g n : Nat} (hn : σ g = n) {args : List V} {E : Emb} {m : Mem} {W : World} (hs : Sim σ W.heap.size W E m W)
    (hok : ∀ x ∈ args, V.ok m.length x) (h : ∃ k m', run G k g args m = some (V.b true, m')) {vs : Array Value} (hv : vs = (args.map (cV σ E)).toArray) :
    Calls P n vs W fun e w' => e = .returned (.bool true) ∧ Below W.heap.size W w' := by
  obtain ⟨k, m', h⟩ := h
  subst hn; subst hv
  refine ((run_sound (B := W.heap.size) (w0 := W) hE h).2 E W hs hok).mono ?_
  rintro e w' ⟨E', -, -, hs', -, rfl⟩
  exact ⟨rfl, hs'.below⟩

end Go.AL
