/-
  The interpreter without its fuel: what a piece of code comes to, rule by rule.
-/
import Derived.Test.YtaamjlckaakenaaAlTop
namespace Go.AL
set_option linter.unusedSimpArgs false
set_option linter.unusedVariables false

abbrev CallLe (c c' : CallE) : Prop := ∀ g a m r, c g a m = some r → c' g a m = some r

theorem opE_mono {c c' : CallE} (h : CallLe c c') {fr : Fr} {m : Mem} {o : O} {r : V × Mem} (ho : opE c fr m o = some r) : opE c' fr m o = some r := by
  cases o <;> try exact ho
  · simp only [opE] at ho ⊢; exact h _ _ _ _ ho
  · simp only [opE] at ho ⊢
    split at ho
    · exact h _ _ _ _ ho
    · cases ho

theorem stepV_mono {c c' : CallE} (h : CallLe c c') {fr : Fr} {m : Mem} {i : I} {r : V × Mem} (ho : stepV c fr m i = some r) : stepV c' fr m i = some r := by
  unfold stepV at ho ⊢
  split at ho
  · exact opE_mono h ho
  · exact ho
  · cases ho

theorem stepE_mono {c c' : CallE} (h : CallLe c c') {fr : Fr} {m : Mem} {i : I} {r : Fr × Mem} (ho : stepE c fr m i = some r) : stepE c' fr m i = some r := by
  unfold stepE at ho ⊢
  split at ho
  · rename_i v m' hv
    rw [stepV_mono h hv]; exact ho
  · cases ho

theorem opsE_mono {c c' : CallE} (h : CallLe c c') : ∀ {l : List I} {fr : Fr} {m : Mem} {r : Fr × Mem}, opsE c l fr m = some r → opsE c' l fr m = some r
  | [], _, _, _, ho => ho
  | i :: l, fr, m, r, ho => by
    unfold opsE at ho ⊢
    split at ho
    · rename_i fr' m' hv
      rw [stepE_mono h hv]; exact opsE_mono h ho
    · cases ho

theorem again_mono {c c' : CallE} (h : CallLe c c') {fr : Fr} {m : Mem} {k : I} (ho : again c fr m k = true) : again c' fr m k = true := by
  unfold again at ho ⊢
  split at ho
  · rename_i v m' d hv hd
    rw [stepV_mono h hv, hd]; exact ho
  · cases ho

theorem dopsE_mono {c c' : CallE} (h : CallLe c c') : ∀ {l : List DI} {fr : Fr} {m : Mem} {r : Fr × Mem}, dopsE c l fr m = some r → dopsE c' l fr m = some r
  | [], _, _, _, ho => ho
  | i :: l, fr, m, r, ho => by
    unfold dopsE at ho ⊢
    split at ho
    · rename_i fr' m' hv
      rw [stepE_mono h hv]
      dsimp only
      split at ho
      · rename_i hc
        rw [if_pos ⟨hc.1, List.all_eq_true.2 fun k hk => again_mono h (List.all_eq_true.1 hc.2 k hk)⟩]
        exact dopsE_mono h ho
      · cases ho
    · cases ho

theorem mono1 (G : Env) : ∀ k, (∀ {c fr m r}, exec G k c fr m = some r → exec G (k + 1) c fr m = some r) ∧ CallLe (run G k) (run G (k + 1))
  | 0 => ⟨fun h => by simp [exec] at h, fun _ _ _ _ h => by simp [run] at h⟩
  | k + 1 => by
    obtain ⟨ih, ihr⟩ := mono1 G k
    refine ⟨fun {c fr m r} h => ?_, fun g a m r h => ?_⟩
    · cases c with
      | skip => exact h
      | ops l =>
        simp only [exec] at h ⊢
        split at h
        · rename_i h1; rw [opsE_mono ihr h1]; exact h
        · cases h
      | dops l =>
        simp only [exec] at h ⊢
        split at h
        · rename_i h1; rw [dopsE_mono ihr h1]; exact h
        · cases h
      | seq x y =>
        rw [exec] at h ⊢
        cases hx : exec G k x fr m with
        | none => rw [hx] at h; cases h
        | some q =>
          obtain ⟨e, f, n⟩ := q
          rw [hx] at h; rw [ih hx]
          cases e <;> first | exact ih h | exact h
      | cond c x y =>
        simp only [exec] at h ⊢
        split at h
        · exact ih h
        · cases h
      | block id x =>
        rw [exec] at h ⊢
        cases hx : exec G k x fr m with
        | none => rw [hx] at h; cases h
        | some q =>
          rw [hx] at h; rw [ih hx]
          exact h
      | loop x =>
        rw [exec] at h ⊢
        cases hx : exec G k x fr m with
        | none => rw [hx] at h; cases h
        | some q =>
          obtain ⟨e, f, n⟩ := q
          rw [hx] at h; rw [ih hx]
          cases e <;> first | exact ih h | exact h
      | exit id => exact h
      | ret => exact h
      | bad => exact h
    · rw [run] at h ⊢
      split at h
      · cases h
      · exact h
      · rename_i fn hg
        cases hx : exec G k fn.body a m with
        | none => rw [hx] at h; cases h
        | some q =>
          rw [hx] at h; rw [ih hx]
          exact h

theorem exec_mono {G : Env} {k k' : Nat} (hk : k ≤ k') {c fr m r} (h : exec G k c fr m = some r) : exec G k' c fr m = some r := by
  induction hk with
  | refl => exact h
  | step _ ih => exact (mono1 G _).1 ih

theorem run_mono {G : Env} {k k' : Nat} (hk : k ≤ k') : CallLe (run G k) (run G k') := by
  induction hk with
  | refl => exact fun _ _ _ _ h => h
  | step _ ih => exact fun _ _ _ _ h => (mono1 G _).2 _ _ _ _ (ih _ _ _ _ h)

/-- The code comes to an end, and Q holds there. -/
def Wc (G : Env) (c : IC) (Q : Ex → Fr → Mem → Prop) (fr : Fr) (m : Mem) : Prop := ∃ k ex fr' m', exec G k c fr m = some (ex, fr', m') ∧ Q ex fr' m'
/-- The call comes to an end, and Q holds there. -/
def Rn (G : Env) (g : Nat) (args : List V) (m : Mem) (Q : V → Mem → Prop) : Prop := ∃ k v m', run G k g args m = some (v, m') ∧ Q v m'
def Wo (G : Env) (l : List I) (K : Fr → Mem → Prop) (fr : Fr) (m : Mem) : Prop := ∃ k fr' m', opsE (run G k) l fr m = some (fr', m') ∧ K fr' m'
def Wd (G : Env) (l : List DI) (K : Fr → Mem → Prop) (fr : Fr) (m : Mem) : Prop := ∃ k fr' m', dopsE (run G k) l fr m = some (fr', m') ∧ K fr' m'

variable {G : Env} {Q : Ex → Fr → Mem → Prop} {K : Fr → Mem → Prop} {fr : Fr} {m : Mem}

theorem Rn.mono {g : Nat} {args : List V} {Q Q' : V → Mem → Prop} (h : Rn G g args m Q) (hq : ∀ v m', Q v m' → Q' v m') : Rn G g args m Q' :=
  let ⟨k, v, m', h1, h2⟩ := h; ⟨k, v, m', h1, hq v m' h2⟩
theorem Wc.mono {c : IC} {Q' : Ex → Fr → Mem → Prop} (h : Wc G c Q fr m) (hq : ∀ e f n, Q e f n → Q' e f n) : Wc G c Q' fr m :=
  let ⟨k, e, f, n, h1, h2⟩ := h; ⟨k, e, f, n, h1, hq e f n h2⟩

theorem Wo.nil (h : K fr m) : Wo G [] K fr m := ⟨0, fr, m, rfl, h⟩
theorem Wd.nil (h : K fr m) : Wd G [] K fr m := ⟨0, fr, m, rfl, h⟩

abbrev nc : CallE := fun _ _ _ => none
theorem nc_le (c : CallE) : CallLe nc c := fun _ _ _ _ h => nomatch h

theorem Wo.step {i : I} {r : List I} {v : V} {m' : Mem} (h : stepV nc fr m i = some (v, m')) (hr : Wo G r K (put fr i.d v) m') : Wo G (i :: r) K fr m := by
  obtain ⟨k, f, n, h1, h2⟩ := hr
  refine ⟨k, f, n, ?_, h2⟩
  unfold opsE stepE
  rw [stepV_mono (nc_le _) h]
  exact h1

theorem Wo.op {d : Option Nat} {o : O} {r : List I} {v : V} {m' : Mem} (h : opE nc fr m o = some (v, m')) (hr : Wo G r K (put fr d v) m') : Wo G (⟨d, o, none⟩ :: r) K fr m :=
  .step (by simpa [stepV, wanted] using h) hr

theorem Wo.call {d : Option Nat} {g : Nat} {xs : List X} {r : List I} (h : Rn G g (xs.map (ev fr)) m fun v m' => Wo G r K (put fr d v) m') : Wo G (⟨d, .call g xs, none⟩ :: r) K fr m := by
  obtain ⟨k, v, m', h1, k2, f, n, h2, h3⟩ := h
  refine ⟨max k k2, f, n, ?_, h3⟩
  unfold opsE stepE stepV
  simp only [wanted, opE]
  rw [run_mono (Nat.le_max_left k k2) _ _ _ _ h1]
  exact opsE_mono (run_mono (Nat.le_max_right k k2)) h2

theorem Wo.callv {d : Option Nat} {g : Nat} {caps : List (Nat × Nat)} {x : X} {xs : List X} {r : List I} (hx : evA fr x = some (.fn g caps))
    (h : Rn G g (xs.map (ev fr) ++ caps.map fun p => V.a (.ptr p.1 p.2)) m fun v m' => Wo G r K (put fr d v) m') : Wo G (⟨d, .callv x xs, none⟩ :: r) K fr m := by
  obtain ⟨k, v, m', h1, k2, f, n, h2, h3⟩ := h
  refine ⟨max k k2, f, n, ?_, h3⟩
  unfold opsE stepE stepV
  simp only [wanted, opE, hx]
  rw [run_mono (Nat.le_max_left k k2) _ _ _ _ h1]
  exact opsE_mono (run_mono (Nat.le_max_right k k2)) h2

theorem Wo.gd {d : Option Nat} {o : O} {j : Nat} {t b : Bool} {r : List I} (hj : fget fr j = V.b b) (h1 : b = t → Wo G (⟨d, o, none⟩ :: r) K fr m) (h2 : b ≠ t → Wo G r K (put fr d .z) m) : Wo G (⟨d, o, some (j, t)⟩ :: r) K fr m := by
  by_cases hb : b = t
  · obtain ⟨k, f, n, h3, h4⟩ := h1 hb
    refine ⟨k, f, n, ?_, h4⟩
    unfold opsE stepE stepV at h3 ⊢
    simp only [wanted, hj, hb, beq_self_eq_true] at h3 ⊢
    exact h3
  · refine .step (v := .z) (m' := m) ?_ (h2 hb)
    unfold stepV
    have : (b == t) = false := by simpa using hb
    simp only [wanted, hj, this]

theorem Wo.gz {d : Option Nat} {o : O} {j : Nat} {t : Bool} {r : List I} (hj : fget fr j = .z) (h2 : Wo G r K (put fr d .z) m) : Wo G (⟨d, o, some (j, t)⟩ :: r) K fr m := by
  refine .step (v := .z) (m' := m) ?_ h2
  unfold stepV
  simp only [wanted, hj]

theorem Wd.cons {i : DI} {r : List DI} (hc : i.chk = []) (h : Wo G [i.i] (fun fr' m' => (i.i.op.cls = 2 ∨ m'.length = m.length) ∧ Wd G r K fr' m') fr m) : Wd G (i :: r) K fr m := by
  obtain ⟨k, f, n, h1, h2, k2, f2, n2, h3, h4⟩ := h
  refine ⟨max k k2, f2, n2, ?_, h4⟩
  unfold dopsE
  simp only [opsE] at h1
  split at h1
  · rename_i fr' m' hs
    cases h1
    rw [stepE_mono (run_mono (Nat.le_max_left k k2)) hs]
    simp only [hc, List.all_nil, and_true]
    rw [if_pos h2]
    exact dopsE_mono (run_mono (Nat.le_max_right k k2)) h3
  · cases h1

theorem Wd.consChk {i : DI} {r : List DI} (h : Wo G [i.i] (fun fr' m' => (i.i.op.cls = 2 ∨ m'.length = m.length) ∧ i.chk.all (again nc fr' m') = true ∧ Wd G r K fr' m') fr m) : Wd G (i :: r) K fr m := by
  obtain ⟨k, f, n, h1, h2, h5, k2, f2, n2, h3, h4⟩ := h
  refine ⟨max k k2, f2, n2, ?_, h4⟩
  unfold dopsE
  simp only [opsE] at h1
  split at h1
  · rename_i fr' m' hs
    cases h1
    rw [stepE_mono (run_mono (Nat.le_max_left k k2)) hs]
    dsimp only
    rw [if_pos ⟨h2, List.all_eq_true.2 fun x hx => again_mono (nc_le _) (List.all_eq_true.1 h5 x hx)⟩]
    exact dopsE_mono (run_mono (Nat.le_max_right k k2)) h3
  · cases h1

theorem Wc.skip (h : Q .nrm fr m) : Wc G .skip Q fr m := ⟨1, _, _, _, rfl, h⟩
theorem Wc.exit {id : Nat} (h : Q (.exit id) fr m) : Wc G (.exit id) Q fr m := ⟨1, _, _, _, rfl, h⟩
theorem Wc.ret (h : Q .ret fr m) : Wc G .ret Q fr m := ⟨1, _, _, _, rfl, h⟩
theorem Wc.ops {l : List I} (h : Wo G l (fun f n => Q .nrm f n) fr m) : Wc G (.ops l) Q fr m := by
  obtain ⟨k, f, n, h1, h2⟩ := h
  refine ⟨k + 1, .nrm, f, n, ?_, h2⟩
  simp only [exec, h1]
theorem Wc.dops {l : List DI} (h : Wd G l (fun f n => Q .nrm f n) fr m) : Wc G (.dops l) Q fr m := by
  obtain ⟨k, f, n, h1, h2⟩ := h
  refine ⟨k + 1, .nrm, f, n, ?_, h2⟩
  simp only [exec, h1]

def Aft (G : Env) (y : IC) (Q : Ex → Fr → Mem → Prop) : Ex → Fr → Mem → Prop
  | .nrm, f, n => Wc G y Q f n
  | e, f, n => Q e f n

theorem Wc.seq {x y : IC} (h : Wc G x (Aft G y Q) fr m) : Wc G (.seq x y) Q fr m := by
  obtain ⟨k, e, f, n, h1, h2⟩ := h
  cases e with
  | nrm =>
    obtain ⟨k2, e2, f2, n2, h3, h4⟩ := h2
    refine ⟨max k k2 + 1, e2, f2, n2, ?_, h4⟩
    rw [exec, exec_mono (Nat.le_max_left k k2) h1]
    exact exec_mono (Nat.le_max_right k k2) h3
  | exit id => exact ⟨k + 1, _, _, _, by rw [exec, h1], h2⟩
  | ret => exact ⟨k + 1, _, _, _, by rw [exec, h1], h2⟩

theorem Wc.cond {c : X} {x y : IC} {b : Bool} (hc : ev fr c = V.b b) (h1 : b = true → Wc G x Q fr m) (h2 : b = false → Wc G y Q fr m) : Wc G (.cond c x y) Q fr m := by
  cases b with
  | true =>
    obtain ⟨k, e, f, n, h3, h4⟩ := h1 rfl
    exact ⟨k + 1, e, f, n, by rw [exec, hc]; exact h3, h4⟩
  | false =>
    obtain ⟨k, e, f, n, h3, h4⟩ := h2 rfl
    exact ⟨k + 1, e, f, n, by rw [exec, hc]; exact h3, h4⟩

def Blkd (id : Nat) (Q : Ex → Fr → Mem → Prop) : Ex → Fr → Mem → Prop
  | .exit j, f, n => if j = id then Q .nrm f n else Q (.exit j) f n
  | e, f, n => Q e f n

theorem Wc.block {id : Nat} {x : IC} (h : Wc G x (Blkd id Q) fr m) : Wc G (.block id x) Q fr m := by
  obtain ⟨k, e, f, n, h1, h2⟩ := h
  cases e with
  | nrm => exact ⟨k + 1, _, _, _, by rw [exec, h1], h2⟩
  | exit j =>
    refine ⟨k + 1, _, _, _, by rw [exec, h1], ?_⟩
    simp only [Blkd] at h2
    split at h2
    · rename_i hj; rw [if_pos hj]; exact h2
    · rename_i hj; rw [if_neg hj]; exact h2
  | ret => exact ⟨k + 1, _, _, _, by rw [exec, h1], h2⟩

/-- A loop: a state that holds at its head, and a measure that falls. -/
theorem Wc.loop {α : Type} {x : IC} (S : α → Fr → Mem → Prop) (μ : α → Nat) (h : ∀ a f n, S a f n → Wc G x (fun e f' n' => match e with
    | .nrm => ∃ a', μ a' < μ a ∧ S a' f' n'
    | e => Q e f' n') f n) (a : α) (h0 : S a fr m) : Wc G (.loop x) Q fr m := by
  induction hk : μ a using Nat.strongRecOn generalizing a fr m with
  | ind k ih =>
    obtain ⟨k1, e, f, n, h1, h2⟩ := h a fr m h0
    cases e with
    | nrm =>
      obtain ⟨a', h3, h4⟩ := h2
      obtain ⟨k2, e2, f2, n2, h5, h6⟩ := ih (μ a') (by omega) a' h4 rfl
      refine ⟨max k1 k2 + 1, e2, f2, n2, ?_, h6⟩
      rw [exec, exec_mono (Nat.le_max_left k1 k2) h1]
      exact exec_mono (Nat.le_max_right k1 k2) h5
    | exit id => exact ⟨k1 + 1, _, _, _, by rw [exec, h1], h2⟩
    | ret => exact ⟨k1 + 1, _, _, _, by rw [exec, h1], h2⟩

/-- A loop that counts: S i at the head of round i. -/
theorem Wc.loopN {x : IC} (S : Nat → Fr → Mem → Prop) (n : Nat) (h : ∀ i f q, i ≤ n → S i f q → Wc G x (fun e f' q' => match e with
    | .nrm => i < n ∧ S (i + 1) f' q'
    | e => Q e f' q') f q) (h0 : S 0 fr m) : Wc G (.loop x) Q fr m := by
  refine Wc.loop (α := Nat) (fun i f q => i ≤ n ∧ S i f q) (fun i => n - i) (fun i f q hs => ?_) 0 ⟨Nat.zero_le _, h0⟩
  refine (h i f q hs.1 hs.2).mono fun e f' q' hq => ?_
  cases e with
  | nrm => exact ⟨i + 1, by omega, by omega, hq.2⟩
  | exit id => exact hq
  | ret => exact hq

/-- What a function's body has to come to. -/
def Fin (rs : List Rv) (Q : V → Mem → Prop) : Ex → Fr → Mem → Prop
  | .exit _, _, _ => False
  | _, f, n => ∃ v, resE f n rs = some v ∧ Q v n

theorem Rn.code {g : Nat} {fn : Fn} {args : List V} {Q : V → Mem → Prop} (hg : G g = some (.code fn)) (h : Wc G fn.body (Fin fn.res Q) args m) : Rn G g args m Q := by
  obtain ⟨k, e, f, n, h1, h2⟩ := h
  cases e with
  | nrm =>
    obtain ⟨v, h3, h4⟩ := h2
    refine ⟨k + 1, v, n, ?_, h4⟩
    rw [run, hg]; simp only [h1, h3, Option.map_some]
  | exit j => exact h2.elim
  | ret =>
    obtain ⟨v, h3, h4⟩ := h2
    refine ⟨k + 1, v, n, ?_, h4⟩
    rw [run, hg]; simp only [h1, h3, Option.map_some]

end Go.AL
