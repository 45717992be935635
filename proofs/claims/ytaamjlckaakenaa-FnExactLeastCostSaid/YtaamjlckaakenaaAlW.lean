/-
  The interpreter without its fuel: what a piece of code comes to, rule by rule.
-/
import Derived.Test.YtaamjlckaakenaaAlDraw
import Derived.Lib.Bytealg
namespace Go.AL
set_option linter.unusedSimpArgs false
set_option linter.unusedVariables false

abbrev CallLe (c c' : CallE) : Prop := ∀ g a m r, c g a m = some r → c' g a m = some r

theorem opE_mono {c c' : CallE} (h : CallLe c c') {fr : Fr} {m : Mem} {o : O} {r : V × Mem} (ho : opE c fr m o = some r) : opE c' fr m o = some r := by
  cases o <;> try exact ho
  · simp only [opE] at ho ⊢; exact h _ _ _ _ ho
  · simp only [opE] at ho ⊢
    split at ho
    · exact h _ _ _ _ ho
    · cases ho

theorem stepV_mono {c c' : CallE} (h : CallLe c c') {fr : Fr} {m : Mem} {i : I} {r : V × Mem} (ho : stepV c fr m i = some r) : stepV c' fr m i = some r := by
  unfold stepV at ho ⊢
  split at ho
  · exact opE_mono h ho
  · exact ho
  · cases ho

theorem stepE_mono {c c' : CallE} (h : CallLe c c') {fr : Fr} {m : Mem} {i : I} {r : Fr × Mem} (ho : stepE c fr m i = some r) : stepE c' fr m i = some r := by
  unfold stepE at ho ⊢
  split at ho
  · rename_i v m' hv
    rw [stepV_mono h hv]; exact ho
  · cases ho

theorem opsE_mono {c c' : CallE} (h : CallLe c c') : ∀ {l : List I} {fr : Fr} {m : Mem} {r : Fr × Mem}, opsE c l fr m = some r → opsE c' l fr m = some r
  | [], _, _, _, ho => ho
  | i :: l, fr, m, r, ho => by
    unfold opsE at ho ⊢
    split at ho
    · rename_i fr' m' hv
      rw [stepE_mono h hv]; exact opsE_mono h ho
    · cases ho

theorem again_mono {c c' : CallE} (h : CallLe c c') {fr : Fr} {m : Mem} {k : I} (ho : again c fr m k = true) : again c' fr m k = true := by
  unfold again at ho ⊢
  split at ho
  · rename_i v m' d hv hd
    rw [stepV_mono h hv, hd]; exact ho
  · cases ho

theorem dopsE_mono {c c' : CallE} (h : CallLe c c') : ∀ {l : List DI} {fr : Fr} {m : Mem} {r : Fr × Mem}, dopsE c l fr m = some r → dopsE c' l fr m = some r
  | [], _, _, _, ho => ho
  | i :: l, fr, m, r, ho => by
    unfold dopsE at ho ⊢
    split at ho
    · rename_i fr' m' hv
      rw [stepE_mono h hv]
      dsimp only
      split at ho
      · rename_i hc
        rw [if_pos ⟨hc.1, List.all_eq_true.2 fun k hk => again_mono h (List.all_eq_true.1 hc.2 k hk)⟩]
        exact dopsE_mono h ho
      · cases ho
    · cases ho

theorem mono1 (G : Env) : ∀ k, (∀ {c fr m r}, exec G k c fr m = some r → exec G (k + 1) c fr m = some r) ∧ CallLe (run G k) (run G (k + 1))
  | 0 => ⟨fun h => by simp [exec] at h, fun _ _ _ _ h => by simp [run] at h⟩
  | k + 1 => by
    obtain ⟨ih, ihr⟩ := mono1 G k
    refine ⟨fun {c fr m r} h => ?_, fun g a m r h => ?_⟩
    · cases c with
      | skip => exact h
      | ops l =>
        simp only [exec] at h ⊢
        split at h
        · rename_i h1; rw [opsE_mono ihr h1]; exact h
        · cases h
      | dops l =>
        simp only [exec] at h ⊢
        split at h
        · rename_i h1; rw [dopsE_mono ihr h1]; exact h
        · cases h
      | seq x y =>
        rw [exec] at h ⊢
        cases hx : exec G k x fr m with
        | none => rw [hx] at h; cases h
        | some q =>
          obtain ⟨e, f, n⟩ := q
          rw [hx] at h; rw [ih hx]
          cases e <;> first | exact ih h | exact h
      | cond c x y =>
        simp only [exec] at h ⊢
        split at h
        · exact ih h
        · cases h
      | block id x =>
        rw [exec] at h ⊢
        cases hx : exec G k x fr m with
        | none => rw [hx] at h; cases h
        | some q =>
          rw [hx] at h; rw [ih hx]
          exact h
      | loop x =>
        rw [exec] at h ⊢
        cases hx : exec G k x fr m with
        | none => rw [hx] at h; cases h
        | some q =>
          obtain ⟨e, f, n⟩ := q
          rw [hx] at h; rw [ih hx]
          cases e <;> first | exact ih h | exact h
      | exit id => exact h
      | ret => exact h
      | bad => exact h
    · rw [run] at h ⊢
      split at h
      · cases h
      · exact h
      · rename_i fn hg
        cases hx : exec G k fn.body a m with
        | none => rw [hx] at h; cases h
        | some q =>
          rw [hx] at h; rw [ih hx]
          exact h

theorem exec_mono {G : Env} {k k' : Nat} (hk : k ≤ k') {c fr m r} (h : exec G k c fr m = some r) : exec G k' c fr m = some r := by
  induction hk with
  | refl => exact h
  | step _ ih => exact (mono1 G _).1 ih

theorem run_mono {G : Env} {k k' : Nat} (hk : k ≤ k') : CallLe (run G k) (run G k') := by
  induction hk with
  | refl => exact fun _ _ _ _ h => h
  | step _ ih => exact fun _ _ _ _ h => (mono1 G _).2 _ _ _ _ (ih _ _ _ _ h)

/-- The code comes to an end, and Q holds there. -/
def Wc (G : Env) (c : IC) (Q : Ex → Fr → Mem → Prop) (fr : Fr) (m : Mem) : Prop := ∃ k ex fr' m', exec G k c fr m = some (ex, fr', m') ∧ Q ex fr' m'
/-- The call comes to an end, and Q holds there. -/
def Rn (G : Env) (g : Nat) (args : List V) (m : Mem) (Q : V → Mem → Prop) : Prop := ∃ k v m', run G k g args m = some (v, m') ∧ Q v m'
def Wo (G : Env) (l : List I) (K : Fr → Mem → Prop) (fr : Fr) (m : Mem) : Prop := ∃ k fr' m', opsE (run G k) l fr m = some (fr', m') ∧ K fr' m'
def Wd (G : Env) (l : List DI) (K : Fr → Mem → Prop) (fr : Fr) (m : Mem) : Prop := ∃ k fr' m', dopsE (run G k) l fr m = some (fr', m') ∧ K fr' m'

variable {G : Env} {Q : Ex → Fr → Mem → Prop} {K : Fr → Mem → Prop} {fr : Fr} {m : Mem}

theorem Rn.mono {g : Nat} {args : List V} {Q Q' : V → Mem → Prop} (h : Rn G g args m Q) (hq : ∀ v m', Q v m' → Q' v m') : Rn G g args m Q' :=
  let ⟨k, v, m', h1, h2⟩ := h; ⟨k, v, m', h1, hq v m' h2⟩
theorem Wc.mono {c : IC} {Q' : Ex → Fr → Mem → Prop} (h : Wc G c Q fr m) (hq : ∀ e f n, Q e f n → Q' e f n) : Wc G c Q' fr m :=
  let ⟨k, e, f, n, h1, h2⟩ := h; ⟨k, e, f, n, h1, hq e f n h2⟩

theorem Wo.nil (h : K fr m) : Wo G [] K fr m := ⟨0, fr, m, rfl, h⟩
theorem Wd.nil (h : K fr m) : Wd G [] K fr m := ⟨0, fr, m, rfl, h⟩

abbrev nc : CallE := fun _ _ _ => none
theorem nc_le (c : CallE) : CallLe nc c := fun _ _ _ _ h => nomatch h

theorem Wo.step {i : I} {r : List I} {v : V} {m' : Mem} (h : stepV nc fr m i = some (v, m')) (hr : Wo G r K (put fr i.d v) m') : Wo G (i :: r) K fr m := by
  obtain ⟨k, f, n, h1, h2⟩ := hr
  refine ⟨k, f, n, ?_, h2⟩
  unfold opsE stepE
  rw [stepV_mono (nc_le _) h]
  exact h1

theorem Wo.op {d : Option Nat} {o : O} {r : List I} {v : V} {m' : Mem} (h : opE nc fr m o = some (v, m')) (hr : Wo G r K (put fr d v) m') : Wo G (⟨d, o, none⟩ :: r) K fr m :=
  .step (by simpa [stepV, wanted] using h) hr

theorem Wo.call {d : Option Nat} {g : Nat} {xs : List X} {r : List I} (h : Rn G g (xs.map (ev fr)) m fun v m' => Wo G r K (put fr d v) m') : Wo G (⟨d, .call g xs, none⟩ :: r) K fr m := by
  obtain ⟨k, v, m', h1, k2, f, n, h2, h3⟩ := h
  refine ⟨max k k2, f, n, ?_, h3⟩
  unfold opsE stepE stepV
  simp only [wanted, opE]
  rw [run_mono (Nat.le_max_left k k2) _ _ _ _ h1]
  exact opsE_mono (run_mono (Nat.le_max_right k k2)) h2

theorem Wo.callv {d : Option Nat} {g : Nat} {caps : List (Nat × Nat)} {x : X} {xs : List X} {r : List I} (hx : evA fr x = some (.fn g caps))
    (h : Rn G g (xs.map (ev fr) ++ caps.map fun p => V.a (.ptr p.1 p.2)) m fun v m' => Wo G r K (put fr d v) m') : Wo G (⟨d, .callv x xs, none⟩ :: r) K fr m := by
  obtain ⟨k, v, m', h1, k2, f, n, h2, h3⟩ := h
  refine ⟨max k k2, f, n, ?_, h3⟩
  unfold opsE stepE stepV
  simp only [wanted, opE, hx]
  rw [run_mono (Nat.le_max_left k k2) _ _ _ _ h1]
  exact opsE_mono (run_mono (Nat.le_max_right k k2)) h2

theorem Wo.gd {d : Option Nat} {o : O} {j : Nat} {t b : Bool} {r : List I} (hj : fget fr j = V.b b) (h1 : b = t → Wo G (⟨d, o, none⟩ :: r) K fr m) (h2 : b ≠ t → Wo G r K (put fr d .z) m) : Wo G (⟨d, o, some (j, t)⟩ :: r) K fr m := by
  by_cases hb : b = t
  · obtain ⟨k, f, n, h3, h4⟩ := h1 hb
    refine ⟨k, f, n, ?_, h4⟩
    unfold opsE stepE stepV at h3 ⊢
    simp only [wanted, hj, hb, beq_self_eq_true] at h3 ⊢
    exact h3
  · refine .step (v := .z) (m' := m) ?_ (h2 hb)
    unfold stepV
    have : (b == t) = false := by simpa using hb
    simp only [wanted, hj, this]

theorem Wo.gz {d : Option Nat} {o : O} {j : Nat} {t : Bool} {r : List I} (hj : fget fr j = .z) (h2 : Wo G r K (put fr d .z) m) : Wo G (⟨d, o, some (j, t)⟩ :: r) K fr m := by
  refine .step (v := .z) (m' := m) ?_ h2
  unfold stepV
  simp only [wanted, hj]

theorem Wd.cons {i : DI} {r : List DI} (hc : i.chk = []) (h : Wo G [i.i] (fun fr' m' => (i.i.op.cls = 2 ∨ m'.length = m.length) ∧ Wd G r K fr' m') fr m) : Wd G (i :: r) K fr m := by
  obtain ⟨k, f, n, h1, h2, k2, f2, n2, h3, h4⟩ := h
  refine ⟨max k k2, f2, n2, ?_, h4⟩
  unfold dopsE
  simp only [opsE] at h1
  split at h1
  · rename_i fr' m' hs
    cases h1
    rw [stepE_mono (run_mono (Nat.le_max_left k k2)) hs]
    simp only [hc, List.all_nil, and_true]
    rw [if_pos h2]
    exact dopsE_mono (run_mono (Nat.le_max_right k k2)) h3
  · cases h1

theorem Wd.consChk {i : DI} {r : List DI} (h : Wo G [i.i] (fun fr' m' => (i.i.op.cls = 2 ∨ m'.length = m.length) ∧ i.chk.all (again nc fr' m') = true ∧ Wd G r K fr' m') fr m) : Wd G (i :: r) K fr m := by
  obtain ⟨k, f, n, h1, h2, h5, k2, f2, n2, h3, h4⟩ := h
  refine ⟨max k k2, f2, n2, ?_, h4⟩
  unfold dopsE
  simp only [opsE] at h1
  split at h1
  · rename_i fr' m' hs
    cases h1
    rw [stepE_mono (run_mono (Nat.le_max_left k k2)) hs]
    dsimp only
    rw [if_pos ⟨h2, List.all_eq_true.2 fun x hx => again_mono (nc_le _) (List.all_eq_true.1 h5 x hx)⟩]
    exact dopsE_mono (run_mono (Nat.le_max_right k k2)) h3
  · cases h1

theorem Wc.skip (h : Q .nrm fr m) : Wc G .skip Q fr m := ⟨1, _, _, _, rfl, h⟩
theorem Wc.exit {id : Nat} (h : Q (.exit id) fr m) : Wc G (.exit id) Q fr m := ⟨1, _, _, _, rfl, h⟩
theorem Wc.ret (h : Q .ret fr m) : Wc G .ret Q fr m := ⟨1, _, _, _, rfl, h⟩
theorem Wc.ops {l : List I} (h : Wo G l (fun f n => Q .nrm f n) fr m) : Wc G (.ops l) Q fr m := by
  obtain ⟨k, f, n, h1, h2⟩ := h
  refine ⟨k + 1, .nrm, f, n, ?_, h2⟩
  simp only [exec, h1]
theorem Wc.dops {l : List DI} (h : Wd G l (fun f n => Q .nrm f n) fr m) : Wc G (.dops l) Q fr m := by
  obtain ⟨k, f, n, h1, h2⟩ := h
  refine ⟨k + 1, .nrm, f, n, ?_, h2⟩
  simp only [exec, h1]

def Aft (G : Env) (y : IC) (Q : Ex → Fr → Mem → Prop) : Ex → Fr → Mem → Prop
  | .nrm, f, n => Wc G y Q f n
  | e, f, n => Q e f n

theorem Wc.seq {x y : IC} (h : Wc G x (Aft G y Q) fr m) : Wc G (.seq x y) Q fr m := by
  obtain ⟨k, e, f, n, h1, h2⟩ := h
  cases e with
  | nrm =>
    obtain ⟨k2, e2, f2, n2, h3, h4⟩ := h2
    refine ⟨max k k2 + 1, e2, f2, n2, ?_, h4⟩
    rw [exec, exec_mono (Nat.le_max_left k k2) h1]
    exact exec_mono (Nat.le_max_right k k2) h3
  | exit id => exact ⟨k + 1, _, _, _, by rw [exec, h1], h2⟩
  | ret => exact ⟨k + 1, _, _, _, by rw [exec, h1], h2⟩

theorem Wc.cond {c : X} {x y : IC} {b : Bool} (hc : ev fr c = V.b b) (h1 : b = true → Wc G x Q fr m) (h2 : b = false → Wc G y Q fr m) : Wc G (.cond c x y) Q fr m := by
  cases b with
  | true =>
    obtain ⟨k, e, f, n, h3, h4⟩ := h1 rfl
    exact ⟨k + 1, e, f, n, by rw [exec, hc]; exact h3, h4⟩
  | false =>
    obtain ⟨k, e, f, n, h3, h4⟩ := h2 rfl
    exact ⟨k + 1, e, f, n, by rw [exec, hc]; exact h3, h4⟩

def Blkd (id : Nat) (Q : Ex → Fr → Mem → Prop) : Ex → Fr → Mem → Prop
  | .exit j, f, n => if j = id then Q .nrm f n else Q (.exit j) f n
  | e, f, n => Q e f n

theorem Wc.block {id : Nat} {x : IC} (h : Wc G x (Blkd id Q) fr m) : Wc G (.block id x) Q fr m := by
  obtain ⟨k, e, f, n, h1, h2⟩ := h
  cases e with
  | nrm => exact ⟨k + 1, _, _, _, by rw [exec, h1], h2⟩
  | exit j =>
    refine ⟨k + 1, _, _, _, by rw [exec, h1], ?_⟩
    simp only [Blkd] at h2
    split at h2
    · rename_i hj; rw [if_pos hj]; exact h2
    · rename_i hj; rw [if_neg hj]; exact h2
  | ret => exact ⟨k + 1, _, _, _, by rw [exec, h1], h2⟩

/-- A loop: a state that holds at its head, and a measure that falls. -/
theorem Wc.loop {α : Type} {x : IC} (S : α → Fr → Mem → Prop) (μ : α → Nat) (h : ∀ a f n, S a f n → Wc G x (fun e f' n' => match e with
    | .nrm => ∃ a', μ a' < μ a ∧ S a' f' n'
    | e => Q e f' n') f n) (a : α) (h0 : S a fr m) : Wc G (.loop x) Q fr m := by
  induction hk : μ a using Nat.strongRecOn generalizing a fr m with
  | ind k ih =>
    obtain ⟨k1, e, f, n, h1, h2⟩ := h a fr m h0
    cases e with
    | nrm =>
      obtain ⟨a', h3, h4⟩ := h2
      obtain ⟨k2, e2, f2, n2, h5, h6⟩ := ih (μ a') (by omega) a' h4 rfl
      refine ⟨max k1 k2 + 1, e2, f2, n2, ?_, h6⟩
      rw [exec, exec_mono (Nat.le_max_left k1 k2) h1]
      exact exec_mono (Nat.le_max_right k1 k2) h5
    | exit id => exact ⟨k1 + 1, _, _, _, by rw [exec, h1], h2⟩
    | ret => exact ⟨k1 + 1, _, _, _, by rw [exec, h1], h2⟩

/-- A loop that counts: S i at the head of round i. -/
theorem Wc.loopN {x : IC} (S : Nat → Fr → Mem → Prop) (n : Nat) (h : ∀ i f q, i ≤ n → S i f q → Wc G x (fun e f' q' => match e with
    | .nrm => i < n ∧ S (i + 1) f' q'
    | e => Q e f' q') f q) (h0 : S 0 fr m) : Wc G (.loop x) Q fr m := by
  refine Wc.loop (α := Nat) (fun i f q => i ≤ n ∧ S i f q) (fun i => n - i) (fun i f q hs => ?_) 0 ⟨Nat.zero_le _, h0⟩
  refine (h i f q hs.1 hs.2).mono fun e f' q' hq => ?_
  cases e with
  | nrm => exact ⟨i + 1, by omega, by omega, hq.2⟩
  | exit id => exact hq
  | ret => exact hq

/-- What a function's body has to come to. -/
def Fin (rs : List Rv) (Q : V → Mem → Prop) : Ex → Fr → Mem → Prop
  | .exit _, _, _ => False
  | _, f, n => ∃ v, resE f n rs = some v ∧ Q v n

theorem Rn.code {g : Nat} {fn : Fn} {args : List V} {Q : V → Mem → Prop} (hg : G g = some (.code fn)) (h : Wc G fn.body (Fin fn.res Q) args m) : Rn G g args m Q := by
  obtain ⟨k, e, f, n, h1, h2⟩ := h
  cases e with
  | nrm =>
    obtain ⟨v, h3, h4⟩ := h2
    refine ⟨k + 1, v, n, ?_, h4⟩
    rw [run, hg]; simp only [h1, h3, Option.map_some]
  | exit j => exact h2.elim
  | ret =>
    obtain ⟨v, h3, h4⟩ := h2
    refine ⟨k + 1, v, n, ?_, h4⟩
    rw [run, hg]; simp only [h1, h3, Option.map_some]

end Go.AL
/-
  The rules of the interpreter as equations, for the simplifier.
-/
namespace Go.AL
set_option linter.unusedSimpArgs false
set_option linter.unusedVariables false

/-- A token whose type names what the simplifier is not to look into. -/
inductive Tp {α : Type} (P : α → Prop) : Type where
  | mk
inductive Tg (A B : Prop) : Type where
  | mk
def satT {α : Type} (x : Option α) (P : α → Prop) (_ : Tp P) : Prop := match x with
  | some a => P a
  | none => False
theorem y53 {α : Type} {a : α} {P : α → Prop} : satT (some a) P .mk = P a := rfl
theorem y54 {α : Type} {P : α → Prop} : satT none P .mk = False := rfl

def O.isCall : O → Bool
  | .call _ _ | .callv _ _ => true
  | _ => false

theorem opE_call {c c' : CallE} {fr : Fr} {m : Mem} {o : O} (h : o.isCall = false) : opE c fr m o = opE c' fr m o := by
  cases o <;> first | rfl | cases h

variable {G : Env} {K : Fr → Mem → Prop} {fr : Fr} {m : Mem} {d : Option Nat} {r : List I}

theorem wo_op {o : O} (h : o.isCall = false) : Wo G (⟨d, o, none⟩ :: r) K fr m = satT (opE nc fr m o) (fun p => Wo G r K (put fr d p.1) p.2) .mk := by
  apply propext
  constructor
  · rintro ⟨k, f, n, h1, h2⟩
    unfold opsE stepE stepV at h1
    simp only [wanted] at h1
    rw [opE_call (c' := nc) h] at h1
    cases hq : opE nc fr m o with
    | none => rw [hq] at h1; cases h1
    | some p => rw [hq] at h1; exact ⟨k, f, n, h1, h2⟩
  · intro hs
    cases hq : opE nc fr m o with
    | none => rw [hq] at hs; exact hs.elim
    | some p => rw [hq] at hs; exact Wo.op hq hs

def wgT (v : V) (t : Bool) (A B : Prop) (_ : Tg A B) : Prop := match v with
  | .u (.a (.bool b)) => if b = t then A else B
  | .z => B
  | _ => False
/-- A branch that is not yet decided. -/
def gifT (c : Bool) (A B : Prop) (_ : Tg A B) : Prop := (c = true → A) ∧ (c = false → B)
theorem y75 {A B : Prop} : gifT true A B .mk = A := by simp [gifT]
theorem y76 {A B : Prop} : gifT false A B .mk = B := by simp [gifT]
theorem y55 {b : Bool} {A B : Prop} : wgT (V.b b) true A B .mk = gifT b A B .mk := by cases b <;> simp [wgT, gifT]
theorem y56 {b : Bool} {A B : Prop} : wgT (V.b b) false A B .mk = gifT b B A .mk := by cases b <;> simp [wgT, gifT]
theorem y57 {t : Bool} {A B : Prop} : wgT .z t A B .mk = B := rfl

theorem y1 {o : O} {j : Nat} {t : Bool} : Wo G (⟨d, o, some (j, t)⟩ :: r) K fr m = wgT (fget fr j) t (Wo G (⟨d, o, none⟩ :: r) K fr m) (Wo G r K (put fr d .z) m) .mk := by
  apply propext
  constructor
  · rintro ⟨k, f, n, h1, h2⟩
    unfold opsE stepE stepV at h1
    simp only [wanted] at h1
    unfold wgT
    split
    · rename_i b hb
      rw [hb] at h1
      simp only at h1
      by_cases hbt : b = t
      · rw [if_pos hbt]
        refine ⟨k, f, n, ?_, h2⟩
        unfold opsE stepE stepV
        simp only [wanted]
        rw [show (b == t) = true by simpa using hbt] at h1
        exact h1
      · rw [if_neg hbt]
        rw [show (b == t) = false by simpa using hbt] at h1
        exact ⟨k, f, n, h1, h2⟩
    · rename_i hb
      rw [hb] at h1
      exact ⟨k, f, n, h1, h2⟩
    · rename_i h3 h4
      exfalso
      have hw : wanted fr (some (j, t)) = none := by
        unfold wanted
        dsimp only
        split
        · rename_i b hb; exact (h3 b hb).elim
        · rename_i hb; exact (h4 hb).elim
        · rfl
      unfold wanted at hw
      dsimp only at hw
      rw [hw] at h1
      cases h1
  · intro h
    unfold wgT at h
    split at h
    · rename_i b hb
      refine Wo.gd hb (fun h1 => by rwa [if_pos h1] at h) (fun h1 => by rwa [if_neg h1] at h)
    · rename_i hb; exact Wo.gz hb h
    · exact h.elim

theorem y0 : Wo G [] K fr m = K fr m := by
  apply propext
  constructor
  · rintro ⟨k, f, n, h1, h2⟩; cases h1; exact h2
  · exact Wo.nil

theorem wd_cons0 {i : I} {l : List DI} (h : i.op.cls = 2) : Wd G (⟨i, []⟩ :: l) K fr m = Wo G [i] (fun f n => Wd G l K f n) fr m := by
  apply propext
  constructor
  · rintro ⟨k, f, n, h1, h2⟩
    unfold dopsE at h1
    cases hs : stepE (run G k) fr m i with
    | none => rw [hs] at h1; cases h1
    | some p =>
      rw [hs] at h1
      simp only [h, true_or, List.all_nil, and_self, if_true] at h1
      exact ⟨k, p.1, p.2, by simp only [opsE, hs], k, f, n, h1, h2⟩
  · intro hw
    refine Wd.cons rfl ?_
    obtain ⟨k, f, n, h1, h2⟩ := hw
    exact ⟨k, f, n, h1, .inl h, h2⟩

section
theorem y2 {x : X} : Wo G (⟨d, .mov x, none⟩ :: r) K fr m = satT (opE nc fr m (.mov x)) (fun p => Wo G r K (put fr d p.1) p.2) .mk := wo_op rfl
theorem y3 {c : X} {a : X} {b : X} : Wo G (⟨d, .pick c a b, none⟩ :: r) K fr m = satT (opE nc fr m (.pick c a b)) (fun p => Wo G r K (put fr d p.1) p.2) .mk := wo_op rfl
theorem y4 {z : List A} : Wo G (⟨d, .alloc z, none⟩ :: r) K fr m = satT (opE nc fr m (.alloc z)) (fun p => Wo G r K (put fr d p.1) p.2) .mk := wo_op rfl
theorem y5 {x : X} : Wo G (⟨d, .box x, none⟩ :: r) K fr m = satT (opE nc fr m (.box x)) (fun p => Wo G r K (put fr d p.1) p.2) .mk := wo_op rfl
theorem y6 {z : List A} {ps : List (Nat × Nat × X)} : Wo G (⟨d, .build z ps, none⟩ :: r) K fr m = satT (opE nc fr m (.build z ps)) (fun p => Wo G r K (put fr d p.1) p.2) .mk := wo_op rfl
theorem y7 {z : List A} {n : Nat} {ps : List (Nat × Nat × X)} : Wo G (⟨d, .lit z n ps, none⟩ :: r) K fr m = satT (opE nc fr m (.lit z n ps)) (fun p => Wo G r K (put fr d p.1) p.2) .mk := wo_op rfl
theorem y8 {g : Bool} {n : Nat} {x : X} : Wo G (⟨d, .load g n x, none⟩ :: r) K fr m = satT (opE nc fr m (.load g n x)) (fun p => Wo G r K (put fr d p.1) p.2) .mk := wo_op rfl
theorem y9 {n : Nat} {x : X} {y : X} : Wo G (⟨d, .store n x y, none⟩ :: r) K fr m = satT (opE nc fr m (.store n x y)) (fun p => Wo G r K (put fr d p.1) p.2) .mk := wo_op rfl
theorem y10 {x : X} : Wo G (⟨d, .nilc x, none⟩ :: r) K fr m = satT (opE nc fr m (.nilc x)) (fun p => Wo G r K (put fr d p.1) p.2) .mk := wo_op rfl
theorem y11 {op : BinOp} {x : X} {y : X} : Wo G (⟨d, .bin op x y, none⟩ :: r) K fr m = satT (opE nc fr m (.bin op x y)) (fun p => Wo G r K (put fr d p.1) p.2) .mk := wo_op rfl
theorem y12 {n : Bool} {x : X} {y : X} : Wo G (⟨d, .beq n x y, none⟩ :: r) K fr m = satT (opE nc fr m (.beq n x y)) (fun p => Wo G r K (put fr d p.1) p.2) .mk := wo_op rfl
theorem y13 {n : Bool} {x : X} {y : X} : Wo G (⟨d, .eqg n x y, none⟩ :: r) K fr m = satT (opE nc fr m (.eqg n x y)) (fun p => Wo G r K (put fr d p.1) p.2) .mk := wo_op rfl
theorem y14 {i : Bool} {n : Bool} {x : X} : Wo G (⟨d, .isn i n x, none⟩ :: r) K fr m = satT (opE nc fr m (.isn i n x)) (fun p => Wo G r K (put fr d p.1) p.2) .mk := wo_op rfl
theorem y15 {x : X} : Wo G (⟨d, .neg x, none⟩ :: r) K fr m = satT (opE nc fr m (.neg x)) (fun p => Wo G r K (put fr d p.1) p.2) .mk := wo_op rfl
theorem y16 {x : X} : Wo G (⟨d, .not x, none⟩ :: r) K fr m = satT (opE nc fr m (.not x)) (fun p => Wo G r K (put fr d p.1) p.2) .mk := wo_op rfl
theorem y17 {k : IntKind} {x : X} : Wo G (⟨d, .cvt k x, none⟩ :: r) K fr m = satT (opE nc fr m (.cvt k x)) (fun p => Wo G r K (put fr d p.1) p.2) .mk := wo_op rfl
theorem y18 {x : X} : Wo G (⟨d, .s2b x, none⟩ :: r) K fr m = satT (opE nc fr m (.s2b x)) (fun p => Wo G r K (put fr d p.1) p.2) .mk := wo_op rfl
theorem y19 {x : X} : Wo G (⟨d, .b2s x, none⟩ :: r) K fr m = satT (opE nc fr m (.b2s x)) (fun p => Wo G r K (put fr d p.1) p.2) .mk := wo_op rfl
theorem y20 {x : X} : Wo G (⟨d, .i2s x, none⟩ :: r) K fr m = satT (opE nc fr m (.i2s x)) (fun p => Wo G r K (put fr d p.1) p.2) .mk := wo_op rfl
theorem y21 {z : List A} {n : Nat} {x : X} {y : X} : Wo G (⟨d, .mk z n x y, none⟩ :: r) K fr m = satT (opE nc fr m (.mk z n x y)) (fun p => Wo G r K (put fr d p.1) p.2) .mk := wo_op rfl
theorem y22 {n : Nat} {x : X} {lo : Option X} {hi : Option X} {mx : Option X} : Wo G (⟨d, .slc n x lo hi mx, none⟩ :: r) K fr m = satT (opE nc fr m (.slc n x lo hi mx)) (fun p => Wo G r K (put fr d p.1) p.2) .mk := wo_op rfl
theorem y23 {x : X} {lo : Option X} {hi : Option X} : Wo G (⟨d, .sstr x lo hi, none⟩ :: r) K fr m = satT (opE nc fr m (.sstr x lo hi)) (fun p => Wo G r K (put fr d p.1) p.2) .mk := wo_op rfl
theorem y24 {n : Nat} {s : Nat} {x : X} {lo : Option X} {hi : Option X} : Wo G (⟨d, .sarr n s x lo hi, none⟩ :: r) K fr m = satT (opE nc fr m (.sarr n s x lo hi)) (fun p => Wo G r K (put fr d p.1) p.2) .mk := wo_op rfl
theorem y25 {n : Nat} {x : X} : Wo G (⟨d, .fadr n x, none⟩ :: r) K fr m = satT (opE nc fr m (.fadr n x)) (fun p => Wo G r K (put fr d p.1) p.2) .mk := wo_op rfl
theorem y26 {g : Bool} {o : Nat} {n : Nat} {x : X} : Wo G (⟨d, .fld g o n x, none⟩ :: r) K fr m = satT (opE nc fr m (.fld g o n x)) (fun p => Wo G r K (put fr d p.1) p.2) .mk := wo_op rfl
theorem y27 {s : Nat} {x : X} {i : X} : Wo G (⟨d, .ia s x i, none⟩ :: r) K fr m = satT (opE nc fr m (.ia s x i)) (fun p => Wo G r K (put fr d p.1) p.2) .mk := wo_op rfl
theorem y28 {n : Nat} {s : Nat} {x : X} {i : X} : Wo G (⟨d, .iap n s x i, none⟩ :: r) K fr m = satT (opE nc fr m (.iap n s x i)) (fun p => Wo G r K (put fr d p.1) p.2) .mk := wo_op rfl
theorem y29 {x : X} {i : X} : Wo G (⟨d, .ixs x i, none⟩ :: r) K fr m = satT (opE nc fr m (.ixs x i)) (fun p => Wo G r K (put fr d p.1) p.2) .mk := wo_op rfl
theorem y30 {n : Nat} {s : Nat} {g : Bool} {x : X} {i : X} : Wo G (⟨d, .ixa n s g x i, none⟩ :: r) K fr m = satT (opE nc fr m (.ixa n s g x i)) (fun p => Wo G r K (put fr d p.1) p.2) .mk := wo_op rfl
theorem y31 {x : X} : Wo G (⟨d, .rng x, none⟩ :: r) K fr m = satT (opE nc fr m (.rng x)) (fun p => Wo G r K (put fr d p.1) p.2) .mk := wo_op rfl
theorem y32 {x : X} : Wo G (⟨d, .nxt x, none⟩ :: r) K fr m = satT (opE nc fr m (.nxt x)) (fun p => Wo G r K (put fr d p.1) p.2) .mk := wo_op rfl
theorem y33 {x : X} {i : Nat} : Wo G (⟨d, .ext x i, none⟩ :: r) K fr m = satT (opE nc fr m (.ext x i)) (fun p => Wo G r K (put fr d p.1) p.2) .mk := wo_op rfl
theorem y34 {s : Nat} {b : Nat} {x : X} {y : X} : Wo G (⟨d, .app s b x y, none⟩ :: r) K fr m = satT (opE nc fr m (.app s b x y)) (fun p => Wo G r K (put fr d p.1) p.2) .mk := wo_op rfl
theorem y35 {x : X} : Wo G (⟨d, .len x, none⟩ :: r) K fr m = satT (opE nc fr m (.len x)) (fun p => Wo G r K (put fr d p.1) p.2) .mk := wo_op rfl
theorem y36 {x : X} : Wo G (⟨d, .lens x, none⟩ :: r) K fr m = satT (opE nc fr m (.lens x)) (fun p => Wo G r K (put fr d p.1) p.2) .mk := wo_op rfl
theorem y37 {x : X} {y : X} : Wo G (⟨d, .mn x y, none⟩ :: r) K fr m = satT (opE nc fr m (.mn x y)) (fun p => Wo G r K (put fr d p.1) p.2) .mk := wo_op rfl
theorem y38 {x : X} {y : X} : Wo G (⟨d, .mx x y, none⟩ :: r) K fr m = satT (opE nc fr m (.mx x y)) (fun p => Wo G r K (put fr d p.1) p.2) .mk := wo_op rfl
theorem y39 {s : Nat} {x : X} {y : X} : Wo G (⟨d, .cpy s x y, none⟩ :: r) K fr m = satT (opE nc fr m (.cpy s x y)) (fun p => Wo G r K (put fr d p.1) p.2) .mk := wo_op rfl
theorem y40 {z : List A} {x : X} : Wo G (⟨d, .clr z x, none⟩ :: r) K fr m = satT (opE nc fr m (.clr z x)) (fun p => Wo G r K (put fr d p.1) p.2) .mk := wo_op rfl
theorem y41 {f : Nat} {caps : List X} : Wo G (⟨d, .fnv f caps, none⟩ :: r) K fr m = satT (opE nc fr m (.fnv f caps)) (fun p => Wo G r K (put fr d p.1) p.2) .mk := wo_op rfl

theorem y50 {fr : Fr} {d : Nat} {v : V} : put fr (some d) v = fset fr d v := rfl
theorem y51 {fr : Fr} {v : V} : put fr none v = fr := rfl
theorem fget_lt {x : V} {l : Fr} : fget (x :: l) 0 = x := rfl
theorem e_mov {x : X} : opE nc fr m (.mov x) = some (ev fr x, m) := rfl
theorem y46 {i : Nat} : ev fr (.s i) = fget fr i := rfl
theorem y47 {v : V} : ev fr (.k v) = v := rfl
theorem y42 {i : Nat} : evA fr (.s i) = (fget fr i).toA := rfl
theorem y43 {v : V} : evA fr (.k v) = v.toA := rfl
theorem y44 {i : Nat} : evU fr (.s i) = (fget fr i).toU := rfl
theorem y45 {v : V} : evU fr (.k v) = v.toU := rfl
theorem y48 {x : A} : V.toA (.u (.a x)) = some x := rfl
theorem y49 {x : U} : V.toU (.u x) = some x := rfl

variable {Q : Ex → Fr → Mem → Prop}
theorem y58 : Wc G .skip Q fr m = Q .nrm fr m := by
  apply propext
  refine ⟨fun ⟨k, e, f, n, h1, h2⟩ => ?_, Wc.skip⟩
  cases k with
  | zero => cases h1
  | succ k => cases h1; exact h2
theorem y59 {id : Nat} : Wc G (.exit id) Q fr m = Q (.exit id) fr m := by
  apply propext
  refine ⟨fun ⟨k, e, f, n, h1, h2⟩ => ?_, Wc.exit⟩
  cases k with
  | zero => cases h1
  | succ k => cases h1; exact h2
theorem y60 : Wc G .ret Q fr m = Q .ret fr m := by
  apply propext
  refine ⟨fun ⟨k, e, f, n, h1, h2⟩ => ?_, Wc.ret⟩
  cases k with
  | zero => cases h1
  | succ k => cases h1; exact h2
theorem y61 {l : List I} : Wc G (.ops l) Q fr m = Wo G l (fun f n => Q .nrm f n) fr m := by
  apply propext
  refine ⟨fun ⟨k, e, f, n, h1, h2⟩ => ?_, Wc.ops⟩
  cases k with
  | zero => cases h1
  | succ k =>
    rw [exec] at h1
    cases hs : opsE (run G k) l fr m with
    | none => rw [hs] at h1; cases h1
    | some p => rw [hs] at h1; cases h1; exact ⟨k, _, _, hs, h2⟩
theorem y62 {l : List DI} : Wc G (.dops l) Q fr m = Wd G l (fun f n => Q .nrm f n) fr m := by
  apply propext
  refine ⟨fun ⟨k, e, f, n, h1, h2⟩ => ?_, Wc.dops⟩
  cases k with
  | zero => cases h1
  | succ k =>
    rw [exec] at h1
    cases hs : dopsE (run G k) l fr m with
    | none => rw [hs] at h1; cases h1
    | some p => rw [hs] at h1; cases h1; exact ⟨k, _, _, hs, h2⟩
theorem y63 {x y : IC} : Wc G (.seq x y) Q fr m = Wc G x (Aft G y Q) fr m := by
  apply propext
  refine ⟨fun ⟨k, e, f, n, h1, h2⟩ => ?_, Wc.seq⟩
  cases k with
  | zero => cases h1
  | succ k =>
    rw [exec] at h1
    cases hs : exec G k x fr m with
    | none => rw [hs] at h1; cases h1
    | some p =>
      obtain ⟨e1, f1, n1⟩ := p
      rw [hs] at h1
      refine ⟨k, e1, f1, n1, hs, ?_⟩
      cases e1 with
      | nrm => exact ⟨k, e, f, n, h1, h2⟩
      | exit j => cases h1; exact h2
      | ret => cases h1; exact h2
theorem y64 {id : Nat} {x : IC} : Wc G (.block id x) Q fr m = Wc G x (Blkd id Q) fr m := by
  apply propext
  refine ⟨fun ⟨k, e, f, n, h1, h2⟩ => ?_, Wc.block⟩
  cases k with
  | zero => cases h1
  | succ k =>
    rw [exec] at h1
    cases hs : exec G k x fr m with
    | none => rw [hs] at h1; cases h1
    | some p =>
      obtain ⟨e1, f1, n1⟩ := p
      rw [hs] at h1
      refine ⟨k, e1, f1, n1, hs, ?_⟩
      cases e1 with
      | nrm => cases h1; exact h2
      | exit j =>
        cases h1
        simp only [Blkd]
        split
        · rename_i hj; rwa [if_pos hj] at h2
        · rename_i hj; rwa [if_neg hj] at h2
      | ret => cases h1; exact h2
def wcdT (v : V) (A B : Prop) (_ : Tg A B) : Prop := match v with
  | .u (.a (.bool b)) => gifT b A B .mk
  | _ => False
theorem y66 {b : Bool} {A B : Prop} : wcdT (V.b b) A B .mk = gifT b A B .mk := rfl
theorem y65 {c : X} {x y : IC} : Wc G (.cond c x y) Q fr m = wcdT (ev fr c) (Wc G x Q fr m) (Wc G y Q fr m) .mk := by
  apply propext
  constructor
  · rintro ⟨k, e, f, n, h1, h2⟩
    cases k with
    | zero => cases h1
    | succ k =>
      rw [exec] at h1
      unfold wcdT
      split
      · rename_i b hb
        rw [hb] at h1
        unfold gifT
        cases b with
        | true => exact ⟨fun _ => ⟨k, e, f, n, h1, h2⟩, fun h => (nomatch h)⟩
        | false => exact ⟨fun h => (nomatch h), fun _ => ⟨k, e, f, n, h1, h2⟩⟩
      · rename_i h3
        split at h1
        · rename_i b hb; exact (h3 b hb).elim
        · cases h1
  · intro h
    unfold wcdT at h
    split at h
    · rename_i b hb
      exact Wc.cond hb (fun h1 => h.1 h1) (fun h1 => h.2 h1)
    · exact h.elim
theorem y67 {y : IC} : Aft G y Q .nrm fr m = Wc G y Q fr m := rfl
theorem y68 {y : IC} {j : Nat} : Aft G y Q (.exit j) fr m = Q (.exit j) fr m := rfl
theorem y69 {y : IC} : Aft G y Q .ret fr m = Q .ret fr m := rfl
theorem y70 {j : Nat} : Blkd j Q .nrm fr m = Q .nrm fr m := rfl
theorem y71 {i j : Nat} : Blkd j Q (.exit i) fr m = if i = j then Q .nrm fr m else Q (.exit i) fr m := rfl
theorem y72 {j : Nat} : Blkd j Q .ret fr m = Q .ret fr m := rfl
theorem y73 {rs : List Rv} {Q : V → Mem → Prop} : Fin rs Q .nrm fr m = ∃ v, resE fr m rs = some v ∧ Q v m := rfl
theorem y74 {rs : List Rv} {Q : V → Mem → Prop} : Fin rs Q .ret fr m = ∃ v, resE fr m rs = some v ∧ Q v m := rfl

theorem stepV_call {c c' : CallE} {i : I} (h : i.op.isCall = false) : stepV c fr m i = stepV c' fr m i := by
  unfold stepV
  split
  · exact opE_call h
  · rfl
  · rfl
theorem again_call {c c' : CallE} {i : I} (h : i.op.isCall = false) : again c fr m i = again c' fr m i := by
  unfold again; rw [stepV_call (c' := c') h]
theorem y77 : Wd G [] K fr m = K fr m := by
  apply propext
  constructor
  · rintro ⟨k, f, n, h1, h2⟩; cases h1; exact h2
  · exact Wd.nil
theorem wd_chk {i : I} {c : List I} {l : List DI} (hc : c.all (fun i => !i.op.isCall) = true) : Wd G (⟨i, c⟩ :: l) K fr m =
    Wo G [i] (fun f n => (n.length = m.length ∨ i.op.cls = 2) ∧ c.all (again nc f n) = true ∧ Wd G l K f n) fr m := by
  apply propext
  constructor
  · rintro ⟨k, f, n, h1, h2⟩
    unfold dopsE at h1
    cases hs : stepE (run G k) fr m i with
    | none => rw [hs] at h1; cases h1
    | some p =>
      rw [hs] at h1
      dsimp only at h1
      split at h1
      · rename_i hq
        refine ⟨k, p.1, p.2, by simp only [opsE, hs], hq.1.symm, List.all_eq_true.2 fun x hx => ?_, k, f, n, h1, h2⟩
        rw [again_call (c' := run G k) (by simpa using List.all_eq_true.1 hc x hx)]
        exact List.all_eq_true.1 hq.2 x hx
      · cases h1
  · intro hw
    refine Wd.consChk ?_
    obtain ⟨k, f, n, h1, h2, h3⟩ := hw
    exact ⟨k, f, n, h1, h2.symm, h3⟩
theorem y78 {i : I} {l : List DI} : Wd G (⟨i, []⟩ :: l) K fr m = Wo G [i] (fun f n => (n.length = m.length ∨ i.op.cls = 2) ∧ Wd G l K f n) fr m := by
  rw [wd_chk rfl]; simp
theorem y79 {i : I} {d' : Option Nat} {g : Bool} {n : Nat} {x : X} {gd : Option (Nat × Bool)} {l : List DI} : Wd G (⟨i, [⟨d', .load g n x, gd⟩]⟩ :: l) K fr m =
    Wo G [i] (fun f n' => (n'.length = m.length ∨ i.op.cls = 2) ∧ [⟨d', .load g n x, gd⟩].all (again nc f n') = true ∧ Wd G l K f n') fr m := wd_chk rfl
end
end Go.AL
/-
  Lemmas on memories and frames, for walks at the interpreter.
-/
namespace Go.AL
set_option linter.unusedSimpArgs false
set_option linter.unusedVariables false
set_option linter.unusedSimpArgs false
set_option linter.unusedVariables false

def Ext (m m' : Mem) : Prop := m.length ≤ m'.length ∧ ∀ b, b < m.length → m'[b]? = m[b]?
theorem Ext.refl (m : Mem) : Ext m m := ⟨Nat.le_refl _, fun _ _ => rfl⟩
theorem Ext.trans {m m' m'' : Mem} (h : Ext m m') (h' : Ext m' m'') : Ext m m'' :=
  ⟨Nat.le_trans h.1 h'.1, fun b hb => (h'.2 b (Nat.lt_of_lt_of_le hb h.1)).trans (h.2 b hb)⟩
theorem lt_of_get {m : Mem} {b : Nat} {x : Blk} (h : m[b]? = some x) : b < m.length := Sim.lt_of_some h
theorem Ext.get {m m' : Mem} (h : Ext m m') {b : Nat} {x : Blk} (hb : m[b]? = some x) : m'[b]? = some x := (h.2 b (lt_of_get hb)).trans hb
theorem Ext.push (m : Mem) (x : Blk) : Ext m (m ++ [x]) := ⟨by simp, fun b hb => List.getElem?_append_left hb⟩
theorem Ext.set {m : Mem} {m0 : Mem} {b : Nat} {x : Blk} (h : Ext m0 m) (hb : m0.length ≤ b) : Ext m0 (m.set b x) :=
  ⟨by simpa using h.1, fun c hc => by rw [List.getElem?_set_ne (by omega)]; exact h.2 c hc⟩
theorem y96 {m : Mem} {x : Blk} {b : Nat} (h : b < m.length) : (m ++ [x])[b]? = m[b]? := List.getElem?_append_left h
theorem y97 {m : Mem} {x : Blk} : (m ++ [x])[m.length]? = some x := by simp
theorem get_push2_lt {m : Mem} {x y : Blk} {b : Nat} (h : b < m.length) : (m ++ [x] ++ [y])[b]? = m[b]? := by rw [List.append_assoc]; exact List.getElem?_append_left h
theorem get_push2_0 {m : Mem} {x y : Blk} : (m ++ [x] ++ [y])[m.length]? = some x := by simp
theorem get_push2_1 {m : Mem} {x y : Blk} : (m ++ [x] ++ [y])[m.length + 1]? = some y := by simp
theorem get_push3_lt {m : Mem} {x y z : Blk} {b : Nat} (h : b < m.length) : (m ++ [x] ++ [y] ++ [z])[b]? = m[b]? := by rw [List.append_assoc, List.append_assoc]; exact List.getElem?_append_left h
theorem get_push3_0 {m : Mem} {x y z : Blk} : (m ++ [x] ++ [y] ++ [z])[m.length]? = some x := by simp
theorem get_push3_1 {m : Mem} {x y z : Blk} : (m ++ [x] ++ [y] ++ [z])[m.length + 1]? = some y := by simp
theorem get_push3_2 {m : Mem} {x y z : Blk} : (m ++ [x] ++ [y] ++ [z])[m.length + 1 + 1]? = some z := by rw [List.append_assoc, List.append_assoc, List.getElem?_append_right (by omega), show m.length + 1 + 1 - m.length = 2 by omega]; rfl
theorem get_push4_lt {m : Mem} {x y z u : Blk} {b : Nat} (h : b < m.length) : (m ++ [x] ++ [y] ++ [z] ++ [u])[b]? = m[b]? := by rw [List.append_assoc, List.append_assoc, List.append_assoc]; exact List.getElem?_append_left h
theorem get_push4_0 {m : Mem} {x y z u : Blk} : (m ++ [x] ++ [y] ++ [z] ++ [u])[m.length]? = some x := by simp
theorem get_push4_1 {m : Mem} {x y z u : Blk} : (m ++ [x] ++ [y] ++ [z] ++ [u])[m.length + 1]? = some y := by simp
theorem get_push4_2 {m : Mem} {x y z u : Blk} : (m ++ [x] ++ [y] ++ [z] ++ [u])[m.length + 1 + 1]? = some z := by rw [List.append_assoc, List.append_assoc, List.append_assoc, List.getElem?_append_right (by omega), show m.length + 1 + 1 - m.length = 2 by omega]; rfl
theorem get_push4_3 {m : Mem} {x y z u : Blk} : (m ++ [x] ++ [y] ++ [z] ++ [u])[m.length + 1 + 1 + 1]? = some u := by rw [List.append_assoc, List.append_assoc, List.append_assoc, List.getElem?_append_right (by omega), show m.length + 1 + 1 + 1 - m.length = 3 by omega]; rfl
theorem y98 {m : Mem} {x y : Blk} {b : Nat} (h : b < m.length) : (m ++ [x]).set b y = m.set b y ++ [x] := by rw [List.set_append_left _ _ h]
theorem set_push2_0 {m : Mem} {x y z : Blk} : (m ++ [x] ++ [z]).set m.length y = m ++ [y] ++ [z] := by simp
theorem set_push2_1 {m : Mem} {x y z : Blk} : (m ++ [x] ++ [z]).set (m.length + 1) y = m ++ [x] ++ [y] := by simp
theorem set_push3_0 {m : Mem} {x y z u : Blk} : (m ++ [x] ++ [y] ++ [z]).set m.length u = m ++ [u] ++ [y] ++ [z] := by simp
theorem set_push3_1 {m : Mem} {x y z u : Blk} : (m ++ [x] ++ [y] ++ [z]).set (m.length + 1) u = m ++ [x] ++ [u] ++ [z] := by
  rw [y98 (by simp), set_push2_1]
theorem set_push3_2 {m : Mem} {x y z u : Blk} : (m ++ [x] ++ [y] ++ [z]).set (m.length + 1 + 1) u = m ++ [x] ++ [y] ++ [u] := by
  have : m.length + 1 + 1 = (m ++ [x] ++ [y]).length := by simp
  rw [this, List.set_append_right _ _ (Nat.le_refl _)]; simp
theorem y102 {m : Mem} {x : Blk} : (m ++ [x]).length = m.length + 1 := by simp
theorem y87 {m : Mem} {x y : Blk} : (m ++ [x]).set m.length y = m ++ [y] := by simp
theorem splice_all : ∀ {cs xs : List A} {o : Nat}, cs.length = xs.length + o → splice cs o xs = cs.take o ++ xs
  | cs, [], o, h => by simp [splice]; rw [List.take_of_length_le]; simp at h; omega
  | cs, x :: xs, o, h => by
    simp only [splice]
    simp only [List.length_cons] at h
    rw [splice_all (by simp; omega), List.take_set, List.set_eq_take_append_cons_drop]
    have : (List.take (o + 1) cs).length = o + 1 := by simp; omega
    rw [if_pos (by omega)]
    simp [List.take_take, Nat.min_eq_left]

def Keep (L : List Nat) (fr f : Fr) : Prop := ∀ j, j ∉ L → fget f j = fget fr j
theorem Keep.refl {L : List Nat} {fr : Fr} : Keep L fr fr := fun _ _ => rfl
theorem Keep.set {L : List Nat} {fr f : Fr} {d : Nat} {v : V} (h : Keep L fr f) (hd : d ∈ L) : Keep L fr (fset f d v) :=
  fun j hj => by rw [fget_set_ne _ _ _ _ (fun e => hj (by rw [← e]; exact hd))]; exact h j hj

theorem Keep.trans {L L' : List Nat} {fr f f' : Fr} (h : Keep L fr f) (h' : Keep L' f f') (hs : ∀ x ∈ L', x ∈ L) : Keep L fr f' :=
  fun j hj => (h' j (fun hm => hj (hs j hm))).trans (h j hj)
theorem wrap64 {x : Int} (h : -9223372036854775808 ≤ x ∧ x ≤ 9223372036854775807) : IntKind.i64.wrap x = x := by
  rw [IntKind.wrap_i64]; omega

theorem y92 {m : Mem} {x : Blk} {b : Nat} (h : b < m.length) : (m.set b x)[b]? = some x := List.getElem?_set_self h
theorem y93 {m : Mem} {x y : Blk} {a b : Nat} (h : b < m.length) : ((m.set a x).set b y)[b]? = some y := by rw [List.getElem?_set_self (by simpa using h)]
theorem y94 {m : Mem} {x y z : Blk} {a b c : Nat} (h : c < m.length) : (((m.set a x).set b y).set c z)[c]? = some z := by rw [List.getElem?_set_self (by simpa using h)]
theorem y95 {m : Mem} {x : Blk} {b c : Nat} (h : b ≠ c) : (m.set b x)[c]? = m[c]? := List.getElem?_set_ne h
theorem y88 {cs xs : List A} (h : cs.length = xs.length) : splice cs 0 xs = xs := by rw [splice_all (by omega)]; simp
theorem y89 {z : List A} : (List.replicate 1 z).flatten = z := by simp [List.replicate]
theorem y90 {z : List A} : (List.replicate 0 z).flatten = [] := rfl
theorem y91 {cs : List A} {n : Nat} (h : cs.length = n) : List.take n cs = cs := List.take_of_length_le (by omega)
theorem y103 {cs : List A} {o : Nat} {x : A} : splice cs o [x] = cs.set o x := rfl
theorem y85 {α : Type} {c : Prop} [Decidable c] {x y : Option α} {P : α → Prop} (h : c) : satT (if c then x else y) P .mk = satT x P .mk := by rw [if_pos h]
theorem y86 {P : V × Mem → Prop} {x : V} {m : Mem} : satT (some (x, m)) P .mk = P (x, m) := rfl

/-- An append to a slice that fills its block. -/
theorem appE_own {m : Mem} {s bytes b i n : Nat} {c : Cap} {cs new : List A} {y : A} (hy : lenA y = some n) (hsrc : srcCells m s n y = some new) (hn : 0 < n) (hs : 0 < s)
    (hb : m[b]? = some (.cells true cs)) (hl : cs.length = i * s) (hc : c = .ex i ∨ c = .rest s) (h1 : i + n ≤ 1099511627776) (h2 : (i + n) * bytes ≤ 1099511627776) :
    ∃ m', appE m s bytes (.sl b 0 i c) y = some (V.a (.sl m.length 0 (i + n) (.rest s)), m') ∧ m'[m.length]? = some (.cells true (cs ++ new)) ∧ m'.length = m.length + 1 ∧ ∀ x, x < m.length → x ≠ b → m'[x]? = m[x]? := by
  have hlt := lt_of_get hb
  have hk : known m b = cs.length := by unfold known; rw [hb]
  have hmul : i * s < (i + n) * s := Nat.mul_lt_mul_of_pos_right (by omega) hs
  unfold appE
  simp only [hy, hsrc]
  rw [if_neg (by omega), if_neg (by omega)]
  rcases hc with rfl | rfl
  · dsimp only
    rw [if_neg (by omega)]
    have hr : rd m b 0 (i * s) = some cs := by
      unfold rd; rw [hb]; dsimp only
      rw [if_pos (by omega)]
      simp [← hl]
    rw [hr]
    refine ⟨_, rfl, by simp, by simp, fun x hx hxb => List.getElem?_append_left hx⟩
  · dsimp only
    rw [if_neg (by simp), if_neg (by rw [hk, hl]; omega), hb]
    dsimp only
    rw [if_pos (by omega)]
    refine ⟨_, rfl, ?_, by simp, fun x hx hxb => ?_⟩
    · rw [List.getElem?_append_right (by simp)]; simp [← hl]
    · rw [List.getElem?_append_left (by simpa using hx), List.getElem?_set_ne (Ne.symm hxb)]

/-- A slice that fills its block; its cells. -/
def Own (lo : Nat) (q : Mem) (v : V) (s i : Nat) (cs : List A) : Prop :=
  ∃ b c, v = V.a (.sl b 0 i c) ∧ (c = .ex i ∨ c = .rest s) ∧ q[b]? = some (.cells true cs) ∧ cs.length = i * s ∧ lo ≤ b

theorem Own.ext {lo : Nat} {q q' : Mem} {v : V} {s i : Nat} {cs : List A} (h : Own lo q v s i cs) (he : Ext q q') : Own lo q' v s i cs := by
  obtain ⟨b, c, h1, h2, h3, h4, h5⟩ := h
  exact ⟨b, c, h1, h2, he.get h3, h4, h5⟩
theorem Own.lo {lo lo' : Nat} {q : Mem} {v : V} {s i : Nat} {cs : List A} (h : Own lo q v s i cs) (hl : lo' ≤ lo) : Own lo' q v s i cs := by
  obtain ⟨b, c, h1, h2, h3, h4, h5⟩ := h
  exact ⟨b, c, h1, h2, h3, h4, by omega⟩

theorem Wo.callR {G : Env} {K : Fr → Mem → Prop} {fr : Fr} {m : Mem} {d : Option Nat} {g : Nat} {xs : List X} {r : List I} {args : List V} {Q : V → Mem → Prop} (ha : xs.map (ev fr) = args) (h : Rn G g args m Q)
    (hk : ∀ v m', Q v m' → Wo G r K (put fr d v) m') : Wo G (⟨d, .call g xs, none⟩ :: r) K fr m :=
  Wo.call (by rw [ha]; exact h.mono hk)

/-- Blocks that stay as they are. -/
def Upd (L : List Nat) (q q' : Mem) : Prop := q'.length = q.length ∧ ∀ b, b ∉ L → q'[b]? = q[b]?
theorem Upd.refl {L : List Nat} {q : Mem} : Upd L q q := ⟨rfl, fun _ _ => rfl⟩
theorem Upd.set {L : List Nat} {q q' : Mem} {b : Nat} {x : Blk} (h : Upd L q q') (hb : b ∈ L) : Upd L q (q'.set b x) :=
  ⟨by simpa using h.1, fun c hc => by rw [List.getElem?_set_ne (fun e => hc (by rw [← e]; exact hb))]; exact h.2 c hc⟩
theorem Upd.trans {L : List Nat} {q q' q'' : Mem} (h : Upd L q q') (h' : Upd L q' q'') : Upd L q q'' :=
  ⟨h'.1.trans h.1, fun b hb => (h'.2 b hb).trans (h.2 b hb)⟩
theorem Upd.ext {L : List Nat} {m q q' : Mem} (he : Ext m q) (h : Upd L q q') (hL : ∀ b ∈ L, m.length ≤ b) : Ext m q' :=
  ⟨by rw [h.1]; exact he.1, fun b hb => (h.2 b (fun hm => by have := hL b hm; omega)).trans (he.2 b hb)⟩

/-! ### Rows of numbers -/
def ints (n : Nat) (f : Nat → Int) : List A := (List.range n).map fun j => A.int .i64 (f j)
def upd (f : Nat → Int) (j : Nat) (x : Int) : Nat → Int := fun k => if k = j then x else f k
theorem upd_same {f : Nat → Int} {j : Nat} {x : Int} : upd f j x j = x := if_pos rfl
theorem upd_ne {f : Nat → Int} {j k : Nat} {x : Int} (h : k ≠ j) : upd f j x k = f k := if_neg h
theorem upd_upd {f : Nat → Int} {j : Nat} {x y : Int} : upd (upd f j x) j y = upd f j y := by
  funext k; unfold upd; split <;> rfl
theorem upd_id {f : Nat → Int} {j : Nat} : upd f j (f j) = f := by
  funext k; unfold upd; split
  · subst k; rfl
  · rfl
theorem y80 {n : Nat} {f : Nat → Int} : (ints n f).length = n := by simp [ints]
theorem y82 {n : Nat} {f : Nat → Int} {j : Nat} (h : j < n) : (ints n f)[j]? = some (A.int .i64 (f j)) := by simp [ints, h]
theorem y83 {n : Nat} {f : Nat → Int} {j : Nat} {x : Int} : (ints n f).set j (A.int .i64 x) = ints n (upd f j x) := by
  apply List.ext_getElem (by simp [ints])
  intro k h1 h2
  simp only [ints, List.getElem_set, List.getElem_map, List.getElem_range, upd]
  by_cases h : j = k
  · rw [if_pos h, if_pos h.symm]
  · rw [if_neg h, if_neg (Ne.symm h)]
theorem y84 {n : Nat} {f : Nat → Int} {j : Nat} (h : j < n) : List.take 1 (List.drop j (ints n f)) = [A.int .i64 (f j)] := by
  rw [List.take_one, List.head?_drop, y82 h]; rfl
theorem ints_congr {n : Nat} {f g : Nat → Int} (h : ∀ j, j < n → f j = g j) : ints n f = ints n g := by
  apply List.ext_getElem (by simp [ints])
  intro k h1 h2
  simp only [ints, List.getElem_map, List.getElem_range]
  rw [h k (by simpa [ints] using h1)]
theorem ints_sub {n k o : Nat} {f : Nat → Int} (h : o + k ≤ n) : List.take k (List.drop o (ints n f)) = ints k (fun j => f (o + j)) := by
  apply List.ext_getElem (by simp [ints]; omega)
  intro j h1 h2
  simp [ints]
theorem y81 {n k j : Nat} {f : Nat → Int} (h : j < n) : part false (ints n f) j k = some (V.i (f j)) := by
  unfold part; rw [if_neg (by simp), y82 h]; rfl
theorem ints_succ {n : Nat} {f : Nat → Int} : ints (n + 1) f = ints n f ++ [A.int .i64 (f n)] := by
  unfold ints; rw [List.range_succ, List.map_append]; rfl
theorem ints_app {n k : Nat} {f : Nat → Int} : ints (n + k) f = ints n f ++ ints k (fun j => f (n + j)) := by
  induction k with
  | zero => simp [ints]
  | succ k ih => rw [← Nat.add_assoc, ints_succ, ih, ints_succ, List.append_assoc]
theorem y99 {n : Nat} {f g : Nat → Int} : splice (ints n f) 0 (ints n g) = ints n g := y88 (by rw [y80, y80])
theorem y100 {n : Nat} {f : Nat → Int} : List.take n (ints n f) = ints n f := List.take_of_length_le (by rw [y80]; exact Nat.le_refl _)
theorem ints_zero {f : Nat → Int} : ints 0 f = [] := rfl
theorem ints_rep {n : Nat} {x : Int} : List.replicate n (A.int .i64 x) = ints n (fun _ => x) := by
  apply List.ext_getElem (by simp [ints])
  intro j h1 h2
  simp [ints]
theorem y101 {n : Nat} {x : Int} : (List.replicate n [A.int .i64 x]).flatten = ints n (fun _ => x) := by
  rw [List.flatten_replicate_singleton, ints_rep]
theorem tdiv_nn {a b : Int} (h : 0 ≤ a) : a.tdiv b = a / b := Int.tdiv_eq_ediv_of_nonneg h
theorem tmod_nn {a b : Int} (h : 0 ≤ a) : a.tmod b = a % b := Int.tmod_eq_emod_of_nonneg h
theorem lit5 : [A.int .i64 0, A.int .i64 0, A.int .i64 0, A.int .i64 0, A.int .i64 0] = ints 5 (fun _ => 0) := rfl

end Go.AL
/-
  The simplifier's standing set, in two bundles.
-/
namespace Go.AL
set_option linter.unusedSimpArgs false
set_option linter.unusedVariables false
theorem SD : type_of% (And.intro (And.intro (And.intro (And.intro (And.intro @y0 (And.intro @y1 @y2)) (And.intro (And.intro @y3 @y4) (And.intro @y5 @y6))) (And.intro (And.intro (And.intro @y7 @y8) (And.intro @y9 @y10)) (And.intro (And.intro @y11 @y12) (And.intro @y13 @y14)))) (And.intro (And.intro (And.intro @y15 (And.intro @y16 @y17)) (And.intro (And.intro @y18 @y19) (And.intro @y20 @y21))) (And.intro (And.intro (And.intro @y22 @y23) (And.intro @y24 @y25)) (And.intro (And.intro @y26 @y27) (And.intro @y28 @y29))))) (And.intro (And.intro (And.intro (And.intro @y30 (And.intro @y31 @y32)) (And.intro (And.intro @y33 @y34) (And.intro @y35 @y36))) (And.intro (And.intro (And.intro @y37 @y38) (And.intro @y39 @y40)) (And.intro (And.intro @y41 @y58) (And.intro @y59 @y60)))) (And.intro (And.intro (And.intro (And.intro @y61 @y62) (And.intro @y63 @y64)) (And.intro (And.intro @y65 @y67) (And.intro @y68 @y69))) (And.intro (And.intro (And.intro @y70 @y71) (And.intro @y72 @y73)) (And.intro (And.intro @y74 @y77) (And.intro @y78 @y79)))))) :=
  (And.intro (And.intro (And.intro (And.intro (And.intro @y0 (And.intro @y1 @y2)) (And.intro (And.intro @y3 @y4) (And.intro @y5 @y6))) (And.intro (And.intro (And.intro @y7 @y8) (And.intro @y9 @y10)) (And.intro (And.intro @y11 @y12) (And.intro @y13 @y14)))) (And.intro (And.intro (And.intro @y15 (And.intro @y16 @y17)) (And.intro (And.intro @y18 @y19) (And.intro @y20 @y21))) (And.intro (And.intro (And.intro @y22 @y23) (And.intro @y24 @y25)) (And.intro (And.intro @y26 @y27) (And.intro @y28 @y29))))) (And.intro (And.intro (And.intro (And.intro @y30 (And.intro @y31 @y32)) (And.intro (And.intro @y33 @y34) (And.intro @y35 @y36))) (And.intro (And.intro (And.intro @y37 @y38) (And.intro @y39 @y40)) (And.intro (And.intro @y41 @y58) (And.intro @y59 @y60)))) (And.intro (And.intro (And.intro (And.intro @y61 @y62) (And.intro @y63 @y64)) (And.intro (And.intro @y65 @y67) (And.intro @y68 @y69))) (And.intro (And.intro (And.intro @y70 @y71) (And.intro @y72 @y73)) (And.intro (And.intro @y74 @y77) (And.intro @y78 @y79))))))
theorem SP : type_of% (And.intro (And.intro (And.intro (And.intro (And.intro (And.intro @y42 (And.intro @y43 @y44)) (And.intro @y45 (And.intro @y46 @y47))) (And.intro (And.intro @y48 (And.intro @y49 @y50)) (And.intro @y51 (And.intro @y52 @y53)))) (And.intro (And.intro (And.intro @y54 (And.intro @y55 @y56)) (And.intro @y57 (And.intro @Option.map_some.{0, 0} @ne_eq.{1}))) (And.intro (And.intro @not_true (And.intro @not_false_iff @if_false.{1})) (And.intro (And.intro @if_true.{1} @y66) (And.intro @y75 @y76))))) (And.intro (And.intro (And.intro (And.intro @List.all_cons.{0} (And.intro @List.all_nil.{0} @Bool.and_true)) (And.intro @Bool.and_self (And.intro @true_or @or_true))) (And.intro (And.intro @y80 (And.intro @y81 @y82)) (And.intro @y83 (And.intro @y84 @decide_true)))) (And.intro (And.intro (And.intro @decide_false (And.intro @Bool.not_true @Bool.not_false)) (And.intro @Bool.false_eq_true (And.intro @ge_iff_le.{0} @gt_iff_lt.{0}))) (And.intro (And.intro @beq_self_eq_true.{0} (And.intro @List.map_cons.{0, 0} @List.map_nil.{0, 0})) (And.intro (And.intro @List.getElem?_cons_zero.{0} @List.getElem?_cons_succ.{0}) (And.intro @y85 @y86)))))) (And.intro (And.intro (And.intro (And.intro (And.intro @if_pos.{1} (And.intro @y87 @y88)) (And.intro @y89 (And.intro @y90 @y91))) (And.intro (And.intro @List.drop_zero.{0} (And.intro @List.take_length.{0} @y92)) (And.intro @y93 (And.intro @y94 @y95)))) (And.intro (And.intro (And.intro @y96 (And.intro @y97 @get_push2_lt)) (And.intro @get_push2_0 (And.intro @get_push2_1 @get_push3_lt))) (And.intro (And.intro @get_push3_0 (And.intro @get_push3_1 @get_push3_2)) (And.intro (And.intro @get_push4_lt @get_push4_0) (And.intro @get_push4_1 @get_push4_2))))) (And.intro (And.intro (And.intro (And.intro @get_push4_3 (And.intro @set_push2_0 @set_push2_1)) (And.intro @y98 (And.intro @set_push3_0 @set_push3_1))) (And.intro (And.intro @set_push3_2 (And.intro @y99 @y100)) (And.intro @y101 (And.intro @Nat.le_refl @Nat.one_mul)))) (And.intro (And.intro (And.intro @and_true (And.intro @true_and @y102)) (And.intro @List.length_set.{0} (And.intro @List.set_set.{0} @y103))) (And.intro (And.intro @List.length_cons.{0} (And.intro @List.length_nil.{0} @Nat.zero_add)) (And.intro (And.intro @Nat.add_zero @Nat.mul_one) (And.intro @Int.toNat_natCast @wrap64))))))) :=
  (And.intro (And.intro (And.intro (And.intro (And.intro (And.intro @y42 (And.intro @y43 @y44)) (And.intro @y45 (And.intro @y46 @y47))) (And.intro (And.intro @y48 (And.intro @y49 @y50)) (And.intro @y51 (And.intro @y52 @y53)))) (And.intro (And.intro (And.intro @y54 (And.intro @y55 @y56)) (And.intro @y57 (And.intro @Option.map_some.{0, 0} @ne_eq.{1}))) (And.intro (And.intro @not_true (And.intro @not_false_iff @if_false.{1})) (And.intro (And.intro @if_true.{1} @y66) (And.intro @y75 @y76))))) (And.intro (And.intro (And.intro (And.intro @List.all_cons.{0} (And.intro @List.all_nil.{0} @Bool.and_true)) (And.intro @Bool.and_self (And.intro @true_or @or_true))) (And.intro (And.intro @y80 (And.intro @y81 @y82)) (And.intro @y83 (And.intro @y84 @decide_true)))) (And.intro (And.intro (And.intro @decide_false (And.intro @Bool.not_true @Bool.not_false)) (And.intro @Bool.false_eq_true (And.intro @ge_iff_le.{0} @gt_iff_lt.{0}))) (And.intro (And.intro @beq_self_eq_true.{0} (And.intro @List.map_cons.{0, 0} @List.map_nil.{0, 0})) (And.intro (And.intro @List.getElem?_cons_zero.{0} @List.getElem?_cons_succ.{0}) (And.intro @y85 @y86)))))) (And.intro (And.intro (And.intro (And.intro (And.intro @if_pos.{1} (And.intro @y87 @y88)) (And.intro @y89 (And.intro @y90 @y91))) (And.intro (And.intro @List.drop_zero.{0} (And.intro @List.take_length.{0} @y92)) (And.intro @y93 (And.intro @y94 @y95)))) (And.intro (And.intro (And.intro @y96 (And.intro @y97 @get_push2_lt)) (And.intro @get_push2_0 (And.intro @get_push2_1 @get_push3_lt))) (And.intro (And.intro @get_push3_0 (And.intro @get_push3_1 @get_push3_2)) (And.intro (And.intro @get_push4_lt @get_push4_0) (And.intro @get_push4_1 @get_push4_2))))) (And.intro (And.intro (And.intro (And.intro @get_push4_3 (And.intro @set_push2_0 @set_push2_1)) (And.intro @y98 (And.intro @set_push3_0 @set_push3_1))) (And.intro (And.intro @set_push3_2 (And.intro @y99 @y100)) (And.intro @y101 (And.intro @Nat.le_refl @Nat.one_mul)))) (And.intro (And.intro (And.intro @and_true (And.intro @true_and @y102)) (And.intro @List.length_set.{0} (And.intro @List.set_set.{0} @y103))) (And.intro (And.intro @List.length_cons.{0} (And.intro @List.length_nil.{0} @Nat.zero_add)) (And.intro (And.intro @Nat.add_zero @Nat.mul_one) (And.intro @Int.toNat_natCast @wrap64)))))))
end Go.AL
/-
  Functions of the library that are taken by their contracts: strings.IndexByte's callee, strings.Index at one byte.
-/
namespace Go.AL
set_option linter.unusedSimpArgs false
set_option linter.unusedVariables false

def idxPrim : List V → Mem → Option (V × Mem)
  | [.u (.a (.str s)), .u (.a (.int .u8 c))], m => some (V.i (Lib.indexByte s c.toNat.toUInt8), m)
  | _, _ => none

def idx1Prim : List V → Mem → Option (V × Mem)
  | [.u (.a (.str s)), .u (.a (.str [c]))], m => some (V.i (Lib.indexByte s c), m)
  | _, _ => none

def hasFn (P : Program) (n : Nat) : Prop := ∃ f, P.funcs[n]? = some f ∧ (f.name == "runtime.NumGoroutine") = false ∧ f.body.isNone = false

theorem prim_idx {P : Program} {σ : Nat → Nat} {n g : Nat} (hn : σ g = n) (hf : hasFn P n)
    (hc : ∀ (s : ByteArray) (c : Int) (w : World), Calls P n #[.string s, .int .u8 c] w fun e w' => e = .returned (.int .i64 (Lib.indexByte s.data.toList c.toNat.toUInt8)) ∧ w' = w) :
    ∀ B w0 args m v m', idxPrim args m = some (v, m') → CallsSim P σ B w0 g args m v m' := by
  intro B w0 args m v m' h
  unfold idxPrim at h
  split at h
  · cases h
    subst hn
    refine ⟨hf, fun E w hS _ => ?_⟩
    refine (hc _ _ w).mono fun e w' ⟨he, hw⟩ => ?_
    subst he hw
    exact ⟨E, fun _ _ => rfl, Nat.le_refl _, hS, by simp [V.ok, U.ok, A.ok], by simp [cV, cU, cA]⟩
  · cases h

theorem prim_idx1 {P : Program} {σ : Nat → Nat} {n g : Nat} (hn : σ g = n) (hf : hasFn P n)
    (hc : ∀ (s : ByteArray) (c : UInt8) (w : World), Calls P n #[.string s, .string ⟨#[c]⟩] w fun e w' => e = .returned (.int .i64 (Lib.indexByte s.data.toList c)) ∧ w' = w) :
    ∀ B w0 args m v m', idx1Prim args m = some (v, m') → CallsSim P σ B w0 g args m v m' := by
  intro B w0 args m v m' h
  unfold idx1Prim at h
  split at h
  · cases h
    subst hn
    refine ⟨hf, fun E w hS _ => ?_⟩
    refine (hc _ _ w).mono fun e w' ⟨he, hw⟩ => ?_
    subst he hw
    exact ⟨E, fun _ _ => rfl, Nat.le_refl _, hS, by simp [V.ok, U.ok, A.ok], by simp [cV, cU, cA]⟩
  · cases h

theorem Rn.prim {G : Env} {g : Nat} {p : List V → Mem → Option (V × Mem)} (hG : G g = some (.prim p)) {args : List V} {m : Mem} {v : V} {m' : Mem} {Q : V → Mem → Prop} (h : p args m = some (v, m')) (hQ : Q v m') : Rn G g args m Q :=
  ⟨1, v, m', by simp only [run, hG]; exact h, hQ⟩

theorem idx_ok {G : Env} {g : Nat} (hG : G g = some (.prim idxPrim)) {m : Mem} {s : List UInt8} {c : Int} : Rn G g [V.s s, V.a (.int .u8 c)] m fun v m' => v = V.i (Lib.indexByte s c.toNat.toUInt8) ∧ m' = m :=
  Rn.prim hG rfl ⟨rfl, rfl⟩
theorem idx1_ok {G : Env} {g : Nat} (hG : G g = some (.prim idx1Prim)) {m : Mem} {s : List UInt8} {c : UInt8} : Rn G g [V.s s, V.s [c]] m fun v m' => v = V.i (Lib.indexByte s c) ∧ m' = m :=
  Rn.prim hG rfl ⟨rfl, rfl⟩
end Go.AL
