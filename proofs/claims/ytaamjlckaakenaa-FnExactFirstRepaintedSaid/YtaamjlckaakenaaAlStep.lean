/-
  One operation, a list of them: calls too.
-/
import Derived.Test.YtaamjlckaakenaaAlSound8
import Derived.Test.YtaamjlckaakenaaAlDraw
namespace Go.AL
set_option linter.unusedSimpArgs false
set_option linter.unusedVariables false
open Go.RowKit

variable {σ : Nat → Nat} {B : Nat} {w0 : World} {P : Program} {ρ : Nat → Option Nat} {nt : Nat} {call : CallE} {ops : Array Oper}

/-- What the interpreter's call says of the model's. -/
def CallsSim (P : Program) (σ : Nat → Nat) (B : Nat) (w0 : World) (g : Nat) (args : List V) (m : Mem) (v : V) (m' : Mem) : Prop :=
  (∃ f, P.funcs[σ g]? = some f ∧ (f.name == "runtime.NumGoroutine") = false ∧ f.body.isNone = false) ∧
  ∀ E w, Sim σ B w0 E m w → (∀ x ∈ args, V.ok m.length x) →
    Calls P (σ g) (args.map (cV σ E)).toArray w fun e w' => ∃ E', Agree m.length E E' ∧ m.length ≤ m'.length ∧ Sim σ B w0 E' m' w' ∧ v.ok m'.length ∧ e = .returned (cV σ E' v)

def CallEnv (P : Program) (σ : Nat → Nat) (B : Nat) (w0 : World) (call : CallE) : Prop :=
  ∀ g args m v m', call g args m = some (v, m') → CallsSim P σ B w0 g args m v m'

theorem run_invoke {f : Nat} {args caps : Array Value} {fn : Func} {w : World} (hf : P.funcs[f]? = some fn) (hn : (fn.name == "runtime.NumGoroutine") = false) (hb : fn.body.isNone = false) :
    (invoke (.fn (.func f) caps) args).run P w = .ok (.enter f (args ++ caps)) w := by
  simp only [invoke, callFunc, Sem.run_bind, run_program, Result.andThen_ok, hf, hn, hb, Bool.false_eq_true, if_false, Sem.run_pure]

theorem cI_spec {o : Oper} {i : I} (h : cI ρ P nt ops o = some i) : i.d = o.dst ∧ (∀ d, o.dst = some d → d < nt) ∧ i.op = (cOp ρ P o.op).getD .bad ∧
    ((o.guard = none ∧ i.gd = none) ∨ ∃ j t s, o.guard = some (j, t) ∧ (ops[j]?).bind (·.dst) = some s ∧ i.gd = some (s, t)) := by
  unfold cI at h
  split at h
  case isFalse => cases h
  rename_i hd
  obtain ⟨g, hg, rfl⟩ := Option.map_eq_some_iff.1 h
  refine ⟨rfl, fun d hdd => ?_, rfl, ?_⟩
  · rw [hdd] at hd; simpa [dIn] using hd
  · unfold cG at hg
    split at hg
    · rename_i hq; cases hg; exact .inl ⟨hq, rfl⟩
    · rename_i j t hq
      obtain ⟨s, hs, rfl⟩ := Option.map_eq_some_iff.1 hg
      exact .inr ⟨j, t, s, hq, hs, rfl⟩

theorem wanted_ok {E : Emb} {m : Mem} {w : World} {fr : Fr} {a : Act} (h : St σ ρ B w0 nt E m w fr a) {o : Oper} {i : I} (hi : cI ρ P nt ops o = some i) {b : Bool} (hw : wanted fr i.gd = some b) :
    Region.wanted o (yielded ops a.tmps) = b := by
  obtain ⟨-, -, -, hg⟩ := cI_spec hi
  rcases hg with ⟨hg, hi2⟩ | ⟨j, t, s, hg, hs, hi2⟩
  · rw [hi2] at hw
    simp only [wanted, Option.some.injEq] at hw
    subst hw
    simp [Region.wanted, hg]
  · rw [hi2] at hw
    have hv := h.fr.val s
    simp only [wanted] at hw
    split at hw
    · rename_i q hq
      cases hw
      rw [hq] at hv
      have : a.tmps[s]? = some (.bool q) := by
        rw [Array.getD_eq_getD_getElem?] at hv
        cases hx : a.tmps[s]? with
        | none => rw [hx] at hv; simp [cV, cU, cA, undef] at hv
        | some y => rw [hx] at hv; simpa [cV, cU, cA] using hv
      simp [Region.wanted, hg, yielded, hs, this]
    · rename_i hq
      cases hw
      rw [hq] at hv
      have : ∀ q, a.tmps[s]? ≠ some (.bool q) := fun q hx => by
        rw [Array.getD_eq_getD_getElem?, hx] at hv
        simp [cV, undef] at hv
      have hy : yielded ops a.tmps j = none := by
        unfold yielded
        rw [hs]
        cases hx : a.tmps[s]? with
        | none => simp [hx]
        | some y => cases y <;> simp [hx]; exact absurd hx (this _)
      simp [Region.wanted, hg, hy]
    · cases hw

theorem St.putV {E E' : Emb} {m m' : Mem} {w w' : World} {fr : Fr} {a : Act} (h : St σ ρ B w0 nt E m w fr a) {o : Oper} {i : I} (hi : cI ρ P nt ops o = some i) {v : V} (ha : Agree m.length E E') (hl : m.length ≤ m'.length)
    (hs : Sim σ B w0 E' m' w') (hv : v.ok m'.length) : St σ ρ B w0 nt E' m' w' (put fr i.d v) (a.put o.dst (cV σ E' v)) := by
  obtain ⟨hd1, hd2, -, -⟩ := cI_spec hi
  refine ⟨h.fm, hs, ?_, ?_⟩
  · rw [hd1]
    cases hq : o.dst with
    | none => exact h.fr.same ha hl
    | some d => exact h.fr.put ha hl (hd2 d hq) hv
  · cases o.dst <;> exact h.df

theorem cBuiltin_no {b : Builtin} {args : List Operand} {ts : List TypeId} {oo : O} (h : cBuiltin ρ P b args ts = some oo) : (∀ f xs, oo ≠ .call f xs) ∧ ∀ x xs, oo ≠ .callv x xs := by
  unfold cBuiltin at h
  (repeat' split at h) <;> first | (cases h; done) | (cases h; constructor <;> intro _ _ hq <;> cases hq; done) | (obtain ⟨l, _, rfl⟩ := Option.map_eq_some_iff.1 h; constructor <;> intro _ _ hq <;> cases hq)

theorem cOp_cases {op : Op} {oo : O} (h : cOp ρ P op = some oo) : (∃ c f g xs, op = .call c ∧ c.callee = .value (.func f) ∧ ρ f = some g ∧ cXs ρ c.args.toList = some xs ∧ oo = .call g xs) ∨
    (∃ c t xs, op = .call c ∧ c.callee = .value (.tmp t) ∧ cXs ρ c.args.toList = some xs ∧ oo = .callv (.s t) xs) ∨ ((∀ f xs, oo ≠ .call f xs) ∧ ∀ x xs, oo ≠ .callv x xs) := by
  unfold cOp at h
  split at h
  all_goals first
    | (refine .inr (.inr ?_)
       first
         | (cases h; done)
         | (obtain ⟨l, _, rfl⟩ := Option.map_eq_some_iff.1 h; constructor <;> intro _ _ hq <;> cases hq; done)
         | ((repeat' split at h) <;> first | (cases h; done) | (cases h; constructor <;> intro _ _ hq <;> cases hq; done) | (obtain ⟨l, _, rfl⟩ := Option.map_eq_some_iff.1 h; constructor <;> intro _ _ hq <;> cases hq; done)))
    | skip
  rename_i c
  split at h
  · rename_i f hcal
    split at h
    case h_2 => cases h
    rename_i g xs hg hxs
    cases h
    exact .inl ⟨c, f, g, xs, rfl, hcal, hg, hxs, rfl⟩
  · rename_i t hcal
    obtain ⟨l, hl, rfl⟩ := Option.map_eq_some_iff.1 h
    exact .inr (.inl ⟨c, t, l, rfl, hcal, hl, rfl⟩)
  · exact .inr (.inr (cBuiltin_no h))
  · cases h

theorem cOp_call {op : Op} {g : Nat} {xs : List X} (h : cOp ρ P op = some (.call g xs)) : ∃ c f, op = .call c ∧ c.callee = .value (.func f) ∧ ρ f = some g ∧ cXs ρ c.args.toList = some xs := by
  rcases cOp_cases h with ⟨c, f, g', xs', h1, h2, h3, h4, h5⟩ | ⟨c, t, xs', h1, h2, h3, h4⟩ | ⟨h1, h2⟩
  · cases h5; exact ⟨c, f, h1, h2, h3, h4⟩
  · cases h4
  · exact absurd rfl (h1 _ _)
theorem cOp_callv {op : Op} {x : X} {xs : List X} (h : cOp ρ P op = some (.callv x xs)) : ∃ c t, op = .call c ∧ c.callee = .value (.tmp t) ∧ x = .s t ∧ cXs ρ c.args.toList = some xs := by
  rcases cOp_cases h with ⟨c, f, g', xs', h1, h2, h3, h4, h5⟩ | ⟨c, t, xs', h1, h2, h3, h4⟩ | ⟨h1, h2⟩
  · cases h5
  · cases h4; exact ⟨c, t, h1, h2, rfl, h3⟩
  · exact absurd rfl (h2 _ _)

/-- What stands behind a state that is held. -/
def Then (σ : Nat → Nat) (ρ : Nat → Option Nat) (B : Nat) (w0 : World) (nt : Nat) (E : Emb) (n : Nat) (fr' : Fr) (m' : Mem) (K : Act → World → Prop) : Prop :=
  ∀ E' a' w', Agree n E E' → n ≤ m'.length → St σ ρ B w0 nt E' m' w' fr' a' → K a' w'

theorem step_ok {E : Emb} {m m' : Mem} {w : World} {fr fr' : Fr} {a : Act} (h : St σ ρ B w0 nt E m w fr a) (hcall : CallEnv P σ B w0 call) {o : Oper} {i : I} (hi : cI ρ P nt ops o = some i)
    (he : stepE call fr m i = some (fr', m')) {K : Act → World → Prop} {Q : Exit → Act → World → Prop} (hK : Then σ ρ B w0 nt E m.length fr' m' K) :
    if Region.wanted o (yielded ops a.tmps) then o.wp P a w K Q ∨ (o.asks P a w ∧ LetsOut Q) else K (a.put o.dst undef) w := by
  unfold stepE at he
  split at he
  case h_2 => cases he
  rename_i v m2 hv
  cases he
  unfold stepV at hv
  split at hv
  case h_3 => cases hv
  case h_2 =>
    rename_i hw
    cases hv
    rw [wanted_ok h hi hw]
    simp only [Bool.false_eq_true, if_false]
    exact hK E _ w (Agree.refl _ _) (Nat.le_refl _) (h.putV (v := .z) hi (Agree.refl _ _) (Nat.le_refl _) h.sim trivial)
  rename_i hw
  rw [wanted_ok h hi hw]
  simp only [if_true]
  refine .inl ?_
  have hop := hv
  obtain ⟨-, -, hoo, -⟩ := cI_spec hi
  cases hc : cOp ρ P o.op with
  | none => rw [hc] at hoo; simp only [Option.getD_none] at hoo; rw [hoo] at hop; simp [opE] at hop
  | some oo =>
    rw [hc] at hoo
    simp only [Option.getD_some] at hoo
    rw [hoo] at hop
    have fin : ∀ {r : Result Next}, (execOp a.eval o).run P w = r → Done σ B w0 E m v m' r → o.wp P a w K Q := fun hr hD => by
      obtain ⟨E', w', h1, h2, h3, h4, h5⟩ := hD
      unfold Oper.wp
      rw [hr]
      rcases h5 with h5 | ⟨h5, rfl⟩
      · rw [h5, Oper.upon_value]
        exact hK E' _ w' h1 h2 (h.putV hi h1 h2 h3 h4)
      · rw [h5, Oper.upon_skip]
        exact hK E' _ w' h1 h2 (h.putV (v := .z) hi h1 h2 h3 h4)
    have enter : ∀ {g : Nat} {args : List V}, call g args m = some (v, m') → (∀ x ∈ args, V.ok m.length x) →
        (∀ f, P.funcs[σ g]? = some f → (f.name == "runtime.NumGoroutine") = false → f.body.isNone = false → (execOp a.eval o).run P w = .ok (.enter (σ g) (args.map (cV σ E)).toArray) w) → o.wp P a w K Q := fun {g args} hcal hok hrun => by
      obtain ⟨⟨f, hf1, hf2, hf3⟩, hcs⟩ := hcall g args m v m' hcal
      unfold Oper.wp
      rw [hrun f hf1 hf2 hf3, Oper.upon_enter]
      refine (hcs E w h.sim hok).mono fun e w' hq => ?_
      obtain ⟨E', h1, h2, h3, h4, rfl⟩ := hq
      exact hK E' _ w' h1 h2 (h.putV hi h1 h2 h3 h4)
    by_cases hcall1 : ∃ g xs, oo = .call g xs
    · obtain ⟨g, xs, rfl⟩ := hcall1
      simp only [opE] at hop
      obtain ⟨c, f, ho, hcal, hg, hxs⟩ := cOp_call hc
      obtain ⟨h1, h2⟩ := cXs_ok h hxs
      refine enter hop h2 (fun fn hf1 hf2 hf3 => ?_)
      have hf := h.fm f g hg
      have hargs : c.args.map a.eval = ((xs.map (ev fr)).map (cV σ E)).toArray := by
        rw [← h1, ← Array.toList_map, Array.toArray_toList]
      have hcv : a.eval (.func f) = .func (.func f) #[] #[] := rfl
      simp only [execOp, ho, Sem.run_bind, resolve, hcal, hcv, Deferred.ofValue, Sem.run_pure, Result.andThen_ok, hargs]
      rw [hf] at hf1 ⊢
      rw [run_invoke hf1 hf2 hf3]
      simp
    · by_cases hcall2 : ∃ x xs, oo = .callv x xs
      · obtain ⟨x, xs, rfl⟩ := hcall2
        obtain ⟨c, t, ho, hcal, rfl, hxs⟩ := cOp_callv hc
        obtain ⟨h1, h2⟩ := cXs_ok h hxs
        simp only [opE] at hop
        split at hop
        case h_2 => cases hop
        rename_i f caps hv
        have ht := h.fr.val t
        have htok := h.fr.ok t
        rw [show fget fr t = .u (.a (.fn f caps)) from toA_some hv] at ht htok
        refine enter hop (fun x hx => ?_) (fun fn hf1 hf2 hf3 => ?_)
        · rcases List.mem_append.1 hx with hx | hx
          · exact h2 x hx
          · obtain ⟨p, hp, rfl⟩ := List.mem_map.1 hx
            exact htok p hp
        · have hargs : c.args.map a.eval = ((xs.map (ev fr)).map (cV σ E)).toArray := by
            rw [← h1, ← Array.toList_map, Array.toArray_toList]
          have hcv : a.eval (.tmp t) = .func (.func (σ f)) #[] (caps.map fun p => Value.pointer (some (at_ E p.1 p.2))).toArray := ht
          simp only [execOp, ho, Sem.run_bind, resolve, hcal, hcv, Deferred.ofValue, Sem.run_pure, Result.andThen_ok, hargs]
          rw [run_invoke hf1 hf2 hf3]
          simp [cV, cU, cA, Function.comp_def]
      · exact fin rfl (op_ok h hc (fun f xs hq => hcall1 ⟨f, xs, hq⟩) (fun x xs hq => hcall2 ⟨x, xs, hq⟩) hop)

end Go.AL
