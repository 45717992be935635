/-
  The least cost of all, and the first fence of the least cost.
-/
import Derived.Test.YtaamjlckaakenaaAlColCost
namespace Go.AL
set_option linter.unusedSimpArgs false
set_option linter.unusedVariables false
set_option linter.unusedSimpArgs false
set_option linter.unusedVariables false

/-- The least cost of a table, or -1. -/
def totL (T : Nat → Int) (n : Nat) (around : Bool) : Int :=
  if around then bestB (fun c => T (0 * 5 + c) + bL T n c (n - 1) c) (fun c => decide (may T 0 c) && decide (0 ≤ bL T n c (n - 1) c)) 5 else bL T n (-1) n 5

theorem fix_pre {T : Nat → Int} {c : Nat} : fixT T 0 (c : Nat) = preT T (fun _ => c) 1 := rfl

theorem total {T : Nat → Int} {n : Nat} {around : Bool} (hT : Costs T) (h1 : 1 ≤ n) (hn : n ≤ 20) :
    (0 < cntT T n around ↔ 0 ≤ totL T n around) ∧ (0 < cntT T n around → leastT T n around = totL T n around) := by
  cases around with
  | false =>
    obtain ⟨l1, l2, _⟩ := line_least (but := -1) hT h1 hn
    exact ⟨l1, l2⟩
  | true =>
    have hF : ∀ c, (decide (may T 0 c) && decide (0 ≤ bL T n c (n - 1) c)) = true ↔ may T 0 c ∧ 0 ≤ bL T n c (n - 1) c := fun c => by simp
    have hN0 : ∀ c, 0 ≤ lookN T n c := fun c => (lookN_bound hn c).1
    have one : ∀ c, c < 5 → ((may T 0 c ∧ 0 ≤ bL T n c (n - 1) c) → 0 < lineN (fixT T 0 c) n c ∧ lineL (fixT T 0 c) n c = T (0 * 5 + c) + bL T n c (n - 1) c ∧ T (0 * 5 + c) + bL T n c (n - 1) c < 1099511627776) ∧
        (¬ (may T 0 c ∧ 0 ≤ bL T n c (n - 1) c) → lineN (fixT T 0 c) n c = 0 ∧ lineL (fixT T 0 c) n c = 1099511627776) := by
      intro c hc
      have lb := (lineN_bound (T := fixT T 0 c) hn (c : Int)).1
      have hll := line_least (but := (c : Int)) (hT.fix 0 c) h1 hn
      by_cases hm : may T 0 c
      · have hg : Good T (fun _ => c) 1 := ⟨fun i hi => ⟨hc, by rw [show i = 0 by omega]; exact hm⟩, fun i hi => by omega⟩
        obtain ⟨p1, p2⟩ := line_pre (but := (c : Int)) hT hg (Nat.le_refl 1) h1 hn
        rw [← fix_pre] at p1 p2
        have hcp : costP T (fun _ => c) 1 = T (0 * 5 + c) := by show (0 : Int) + T (0 * 5 + c) = _; rw [Int.zero_add]
        refine ⟨fun h => ?_, fun h => ?_⟩
        · have hpos := p1.2 h.2
          have e := p2 hpos
          rw [hcp] at e
          refine ⟨hpos, e, ?_⟩
          rw [← show lineL (fixT T 0 c) n c = _ from e]
          obtain ⟨i, rfl⟩ : ∃ i, n = i + 1 := ⟨n - 1, by omega⟩
          have h0 : ∀ d, 0 ≤ cntF (fixT T 0 c) (i + 1) d := fun d => (cntF_bound' hn d).1
          have hFr := frontC (hT.fix 0 c) i hn
          have hbd : ∀ d, 0 < cntF (fixT T 0 c) (i + 1) d → lstF (fixT T 0 c) (i + 1) d < 1099511627776 := by
            intro d hd; have := ((hFr d).1 hd).2; omega
          obtain ⟨_, l2, _⟩ := bestL_least (but := (c : Int)) hbd 5
          obtain ⟨e', g1, g2, g3, g4⟩ := l2 ((sumN_pos h0 5).1 hpos)
          show bestL _ _ _ 5 < _
          rw [g4]; exact hbd e' g3
        · have hnp : ¬ 0 < lineN (fixT T 0 c) n c := fun h' => h ⟨hm, p1.1 h'⟩
          exact ⟨by omega, hll.2.2 hnp⟩
      · refine ⟨fun h => absurd h.1 hm, fun _ => ?_⟩
        have hz : lineN (fixT T 0 c) n c = 0 := by
          apply lineN_none h1 hn
          intro j hj hmj
          have e := fixT_own (T := T) (b := 0) (col := (c : Int)) hj
          have hm' : fixT T 0 c (0 * 5 + j) < 1099511627776 := hmj
          rw [e] at hm'
          by_cases hp : (j : Int) ≠ c
          · rw [if_pos hp] at hm'; exact absurd hm' (by decide)
          · rw [if_neg hp] at hm'
            rw [show j = c by omega] at hm'; exact hm hm'
        exact ⟨hz, hll.2.2 (by omega)⟩
    have key : ∀ c, c ≤ 5 → (0 < lookN T n c ↔ 0 ≤ bestB (fun c => T (0 * 5 + c) + bL T n c (n - 1) c) (fun c => decide (may T 0 c) && decide (0 ≤ bL T n c (n - 1) c)) c) ∧
        lookL T n c = if 0 ≤ bestB (fun c => T (0 * 5 + c) + bL T n c (n - 1) c) (fun c => decide (may T 0 c) && decide (0 ≤ bL T n c (n - 1) c)) c then bestB (fun c => T (0 * 5 + c) + bL T n c (n - 1) c) (fun c => decide (may T 0 c) && decide (0 ≤ bL T n c (n - 1) c)) c else 1099511627776 := by
      intro c hc
      induction c with
      | zero => exact ⟨⟨fun h => by simp [lookN] at h, fun h => by simp [bestB] at h⟩, by simp [bestB, lookL]⟩
      | succ c ih =>
        obtain ⟨ih1, ih2⟩ := ih (by omega)
        obtain ⟨o1, o2⟩ := one c (by omega)
        have h0 := hN0 c
        unfold lookN lookL bestB
        by_cases hp : may T 0 c ∧ 0 ≤ bL T n c (n - 1) c
        · obtain ⟨q1, q2, q3⟩ := o1 hp
          have hnn := hT.nn (0 * 5 + c)
          have hb0 := hp.2
          rw [if_pos ((hF c).2 hp), q2, ih2]
          constructor
          · constructor
            · intro _; split <;> omega
            · intro _; omega
          · split <;> split <;> (try split) <;> omega
        · obtain ⟨q1, q2⟩ := o2 hp
          rw [if_neg (fun h => hp ((hF c).1 h)), q1, q2, Int.add_zero]
          refine ⟨ih1, ?_⟩
          rw [ih2]
          have hle := (lookL_bound (n := n) hT.nn c).2
          rw [ih2] at hle
          split
          · split <;> omega
          · split <;> rfl
    obtain ⟨k1, k2⟩ := key 5 (Nat.le_refl _)
    refine ⟨k1, fun h => ?_⟩
    have := k1.1 h
    show lookL T n 5 = _
    rw [k2, if_pos this]
    rfl

/-! ### The first fence of the least cost -/
/-- Whether a board's colour leads on to the least cost x. -/
def okL (T : Nat → Int) (n : Nat) (around : Bool) (p : Nat → Nat) (i c : Nat) (x : Int) : Prop :=
  (i = 0 ∨ p (i - 1) ≠ c) ∧ may T i c ∧ 0 ≤ bL T n (lastOf around (put1 p i c)) (n - (i + 1)) c ∧ costP T (put1 p i c) (i + 1) + bL T n (lastOf around (put1 p i c)) (n - (i + 1)) c = x
instance {T n around p i c x} : Decidable (okL T n around p i c x) := by unfold okL; exact inferInstance

/-- The first of some numbers that is let in, or the last one behind them. -/
def firstB (P : Nat → Bool) : Nat → Nat → Nat
  | 0, c => c
  | k + 1, c => if P c then c else firstB P k (c + 1)
theorem firstB_found {P : Nat → Bool} : ∀ k c, (∃ d, c ≤ d ∧ d < c + k ∧ P d = true) → P (firstB P k c) = true ∧ c ≤ firstB P k c ∧ firstB P k c < c + k
  | 0, c, ⟨d, h1, h2, _⟩ => by omega
  | k + 1, c, ⟨d, h1, h2, h3⟩ => by
    unfold firstB
    by_cases hc : P c = true
    · rw [if_pos hc]; exact ⟨hc, Nat.le_refl _, by omega⟩
    · rw [if_neg hc]
      have hne : d ≠ c := fun e => hc (e ▸ h3)
      obtain ⟨g1, g2, g3⟩ := firstB_found k (c + 1) ⟨d, by omega, by omega, h3⟩
      exact ⟨g1, by omega, by omega⟩

def walkL (T : Nat → Int) (n : Nat) (around : Bool) (x : Int) : Nat → Nat → Nat
  | 0 => fun _ => 0
  | i + 1 => put1 (walkL T n around x i) i (firstB (fun c => decide (okL T n around (walkL T n around x i) i c x)) 5 0)

theorem costP_put {T : Nat → Int} {p : Nat → Nat} {i c : Nat} : ∀ k, k ≤ i → costP T (put1 p i c) k = costP T p k
  | 0, _ => rfl
  | k + 1, hk => by
    show costP T (put1 p i c) k + T (k * 5 + put1 p i c k) = costP T p k + T (k * 5 + p k)
    rw [costP_put k (by omega)]
    unfold put1; rw [if_neg (by omega)]
theorem costP_next {T : Nat → Int} {p : Nat → Nat} {i c : Nat} : costP T (put1 p i c) (i + 1) = costP T p i + T (i * 5 + c) := by
  show costP T (put1 p i c) i + T (i * 5 + put1 p i c i) = _
  rw [costP_put i (Nat.le_refl _)]
  unfold put1; rw [if_pos rfl]
theorem last_put {around : Bool} {p : Nat → Nat} {i c : Nat} (h : 0 < i) : lastOf around (put1 p i c) = lastOf around p := by
  have : put1 p i c 0 = p 0 := by unfold put1; rw [if_neg (by omega)]
  unfold lastOf; rw [this]

/-- What stands behind the first i boards of the walk. -/
def onWay (T : Nat → Int) (n : Nat) (around : Bool) (p : Nat → Nat) (i : Nat) (x : Int) : Prop :=
  if i = 0 then 0 ≤ totL T n around ∧ totL T n around = x else 0 ≤ bL T n (lastOf around p) (n - i) (p (i - 1)) ∧ costP T p i + bL T n (lastOf around p) (n - i) (p (i - 1)) = x

theorem way_on {T : Nat → Int} {n : Nat} {around : Bool} {p : Nat → Nat} {i : Nat} {x : Int} (hT : Costs T) (hi : i < n) (h : onWay T n around p i x) : ∃ c, c < 5 ∧ okL T n around p i c x := by
  unfold onWay at h
  by_cases h0 : i = 0
  · subst h0
    rw [if_pos rfl] at h
    obtain ⟨h1, h2⟩ := h
    unfold totL at h1 h2
    cases around with
    | true =>
      simp only [if_true] at h1 h2
      have hb := bestB_least (f := fun c => T (0 * 5 + c) + bL T n c (n - 1) c) (p := fun c => decide (may T 0 c) && decide (0 ≤ bL T n c (n - 1) c)) (fun b hb => by
        have := hT.nn (0 * 5 + b)
        simp at hb
        have := hb.2
        show 0 ≤ _ + _; omega) 5
      obtain ⟨c, g1, g2, g3⟩ := hb.2.1 h1
      clear hb
      simp at g2
      refine ⟨c, g1, .inl rfl, ?_, ?_, ?_⟩
      · show T (0 * 5 + c) < _; rw [show 0 * 5 + c = c by omega]; exact g2.1
      · exact g2.2
      · rw [costP_next, ← h2, g3]
        show costP T p 0 + T (0 * 5 + c) + bL T n ((put1 p 0 c 0 : Nat) : Int) (n - (0 + 1)) c = _
        have : put1 p 0 c 0 = c := by unfold put1; rw [if_pos rfl]
        rw [this]
        show 0 + _ + _ = _
        rw [Int.zero_add]
    | false =>
      simp only [Bool.false_eq_true, if_false] at h1 h2
      obtain ⟨m, rfl⟩ : ∃ m, n = m + 1 := ⟨n - 1, by omega⟩
      have hb := bestB_least (f := fun b => bL T (m + 1) (-1) m b + T ((m + 1 - 1 - m) * 5 + b)) (p := fun b => decide (b ≠ 5) && (decide (may T (m + 1 - 1 - m) b) && decide (0 ≤ bL T (m + 1) (-1) m b)))
        (fun b hb => by have h1 := (bL_p.1 hb).2.2; have h2 := hT.nn ((m + 1 - 1 - m) * 5 + b); show 0 ≤ _ + _; omega) 5
      obtain ⟨c, g1, g2, g3⟩ := hb.2.1 h1
      clear hb
      obtain ⟨_, g4, g5⟩ := bL_p.1 g2
      rw [show m + 1 - 1 - m = 0 by omega] at g4 g3
      refine ⟨c, g1, .inl rfl, g4, g5, ?_⟩
      rw [costP_next]
      show 0 + _ + bL T (m + 1) (-1) m c = x
      have : bL T (m + 1) (-1) (m + 1) 5 = bL T (m + 1) (-1) m c + T (0 * 5 + c) := by rw [← g3]; rw [bL, show m + 1 - 1 - m = 0 by omega]
      omega
  · rw [if_neg h0] at h
    obtain ⟨h1, h2⟩ := h
    obtain ⟨m, hm⟩ : ∃ m, n - i = m + 1 := ⟨n - i - 1, by omega⟩
    have hr : n - 1 - m = i := by omega
    rw [hm] at h1 h2
    have hb := bestB_least (f := fun b => bL T n (lastOf around p) m b + T ((n - 1 - m) * 5 + b)) (p := fun b => decide (b ≠ p (i - 1)) && (decide (may T (n - 1 - m) b) && decide (0 ≤ bL T n (lastOf around p) m b)))
      (fun b hb => by have h1 := (bL_p.1 hb).2.2; have h2 := hT.nn ((n - 1 - m) * 5 + b); show 0 ≤ _ + _; omega) 5
    obtain ⟨c, g1, g2, g3⟩ := hb.2.1 h1
    clear hb
    obtain ⟨g4, g5, g6⟩ := bL_p.1 g2
    have e : bL T n (lastOf around p) (m + 1) (p (i - 1)) = bL T n (lastOf around p) m c + T (i * 5 + c) := by
      have : bL T n (lastOf around p) (m + 1) (p (i - 1)) = bestB (fun b => bL T n (lastOf around p) m b + T ((n - 1 - m) * 5 + b)) (fun b => decide (b ≠ p (i - 1)) && (decide (may T (n - 1 - m) b) && decide (0 ≤ bL T n (lastOf around p) m b))) 5 := rfl
      rw [this, g3, hr]
    rw [hr] at g5
    have hm' : n - (i + 1) = m := by omega
    refine ⟨c, g1, .inr (fun h => g4 h.symm), g5, ?_, ?_⟩
    · rw [last_put (by omega), hm']; exact g6
    · rw [costP_next, last_put (by omega), hm']; omega

theorem okL_way {T : Nat → Int} {n : Nat} {around : Bool} {p : Nat → Nat} {i c : Nat} {x : Int} (h : okL T n around p i c x) : onWay T n around (put1 p i c) (i + 1) x := by
  unfold onWay
  have hc : put1 p i c (i + 1 - 1) = c := by unfold put1; rw [if_pos (by omega)]
  rw [if_neg (by omega), hc]
  exact h.2.2

theorem good_put {T : Nat → Int} {n : Nat} {around : Bool} {p : Nat → Nat} {i c : Nat} {x : Int} (hg : Good T p i) (hc : c < 5) (h : okL T n around p i c x) : Good T (put1 p i c) (i + 1) := by
  refine ⟨fun j hj => ?_, fun j hj => ?_⟩
  · unfold put1
    by_cases hji : j = i
    · rw [if_pos hji, hji]; exact ⟨hc, h.2.1⟩
    · rw [if_neg hji]; exact hg.1 j (by omega)
  · unfold put1
    rw [if_neg (show ¬ j = i by omega)]
    by_cases hji : j + 1 = i
    · rw [if_pos hji]
      rcases h.1 with h | h
      · omega
      · rw [show j = i - 1 by omega]; exact Ne.symm h
    · rw [if_neg hji]; exact hg.2 j (by omega)

theorem walkL_ok {T : Nat → Int} {n : Nat} {around : Bool} {x : Int} (hT : Costs T) (h0 : 0 ≤ totL T n around) (hx : totL T n around = x) : ∀ i, i ≤ n → Good T (walkL T n around x i) i ∧ onWay T n around (walkL T n around x i) i x
  | 0, _ => ⟨⟨fun j hj => by omega, fun j hj => by omega⟩, by unfold onWay; rw [if_pos rfl]; exact ⟨h0, hx⟩⟩
  | i + 1, hi => by
    obtain ⟨hg, hw⟩ := walkL_ok hT h0 hx i (by omega)
    obtain ⟨c, hc, hok⟩ := way_on hT (by omega) hw
    obtain ⟨f1, f2, f3⟩ := firstB_found (P := fun c => decide (okL T n around (walkL T n around x i) i c x)) 5 0 ⟨c, by omega, by omega, by simpa using hok⟩
    have hok' := of_decide_eq_true f1
    exact ⟨good_put hg (by omega) hok', okL_way hok'⟩

/-- A colour that cannot stand there has no fence. -/
theorem cnt_dead {T : Nat → Int} {n i c : Nat} {p : Nat → Nat} {around : Bool} (hi : i < n) (hn : n ≤ 20) (hc : c < 5) (hg : Good T p i) (hok : ¬ ((i = 0 ∨ p (i - 1) ≠ c) ∧ may T i c)) :
    cntT (fixT (preT T p i) i c) n around = 0 := by
  have e0 : fixT (preT T p i) i c = preT T (put1 p i c) (i + 1) := by
    show _ = fixT (preT T (put1 p i c) i) i (put1 p i c i : Nat)
    rw [preT_put i (Nat.le_refl _)]
    unfold put1; rw [if_pos rfl]
  have hp0 : put1 p i c 0 < 5 := by
    unfold put1
    split
    · exact hc
    · exact (hg.1 0 (by omega)).1
  rw [e0, cnt_first (by omega) (by omega) hn hp0]
  by_cases hi0 : i = 0
  · subst hi0
    apply lineN_none (by omega) hn
    intro j hj hm
    have h := (preT_may 1 0 j hj).1 hm
    have hjc : j = c := by have := h.2 (by omega); unfold put1 at this; rw [if_pos rfl] at this; exact this
    subst hjc
    exact hok ⟨.inl rfl, h.1⟩
  · have hcong : ∀ i' j, j < 5 → (may (preT T (put1 p i c) (i + 1)) i' j ↔ may (preT (fixT T i c) p i) i' j) := by
      intro i' j hj
      rw [preT_may _ _ _ hj, preT_may _ _ _ hj]
      have hX : may (fixT T i c) i' j ↔ may T i' j ∧ (i' = i → j = c) := by
        by_cases h : i' = i
        · subst h
          have e := fixT_own (T := T) (b := i') (col := (c : Int)) hj
          show fixT T i' c (i' * 5 + j) < _ ↔ _
          rw [e]
          by_cases hp : (j : Int) ≠ c
          · rw [if_pos hp]
            exact ⟨fun h => absurd h (by decide), fun h => by have := h.2 rfl; omega⟩
          · rw [if_neg hp]
            exact ⟨fun h => ⟨h, fun _ => by omega⟩, fun h => h.1⟩
        · have e := fixT_ge (T := T) (b := i) (col := (c : Int)) hj h
          show fixT T i c (i' * 5 + j) < _ ↔ _
          rw [e]
          exact ⟨fun h' => ⟨h', fun e => absurd e h⟩, fun h' => h'.1⟩
      rw [hX]
      unfold put1
      constructor
      · intro h
        refine ⟨⟨h.1, fun e => ?_⟩, fun e => ?_⟩
        · have := h.2 (by omega); rw [if_pos e] at this; exact this
        · have := h.2 (by omega); rw [if_neg (by omega)] at this; exact this
      · intro h
        refine ⟨h.1.1, fun e => ?_⟩
        by_cases e' : i' = i
        · rw [if_pos e']; exact h.1.2 e'
        · rw [if_neg e']; exact h.2 (by omega)
    rw [lineN_congr (by omega) hn hcong]
    have hg' : Good (fixT T i c) p i := by
      refine ⟨fun j hj => ⟨(hg.1 j hj).1, ?_⟩, hg.2⟩
      show fixT T i c (j * 5 + p j) < _
      rw [fixT_ge (hg.1 j hj).1 (by omega)]
      exact (hg.1 j hj).2
    rw [lineN_pre hg' (by omega) (by omega) hn, show n - i = (n - i - 1) + 1 by omega]
    apply bwd_stuck
    intro j hj hm
    rw [show n - 1 - (n - i - 1) = i by omega] at hm
    have e := fixT_own (T := T) (b := i) (col := (c : Int)) hj
    have hm2 : fixT T i c (i * 5 + j) < 1099511627776 := hm.2
    rw [e] at hm2
    by_cases hp : (j : Int) ≠ c
    · rw [if_pos hp] at hm2; exact absurd hm2 (by decide)
    · rw [if_neg hp] at hm2
      have hjc : j = c := by omega
      subst hjc
      exact hok ⟨.inr (Ne.symm hm.1), hm2⟩

/-- What the table tells with one more board fixed. -/
theorem look_step {T : Nat → Int} {n i c : Nat} {p : Nat → Nat} {around : Bool} {x : Int} (hT : Costs T) (hi : i < n) (hn : n ≤ 20) (hc : c < 5) (hg : Good T p i) :
    (0 < cntT (fixT (preT T p i) i c) n around ∧ leastT (fixT (preT T p i) i c) n around = x) ↔ okL T n around p i c x := by
  have e0 : fixT (preT T p i) i c = preT T (put1 p i c) (i + 1) := by
    show _ = fixT (preT T (put1 p i c) i) i (put1 p i c i : Nat)
    rw [preT_put i (Nat.le_refl _)]
    unfold put1; rw [if_pos rfl]
  have hp0 : put1 p i c 0 < 5 := by
    unfold put1
    split
    · exact hc
    · exact (hg.1 0 (by omega)).1
  have hpi : put1 p i c (i + 1 - 1) = c := by unfold put1; rw [if_pos (by omega)]
  by_cases hok : (i = 0 ∨ p (i - 1) ≠ c) ∧ may T i c
  · have hg' : Good T (put1 p i c) (i + 1) := by
      refine ⟨fun j hj => ?_, fun j hj => ?_⟩
      · unfold put1
        by_cases hji : j = i
        · rw [if_pos hji, hji]; exact ⟨hc, hok.2⟩
        · rw [if_neg hji]; exact hg.1 j (by omega)
      · unfold put1
        rw [if_neg (show ¬ j = i by omega)]
        by_cases hji : j + 1 = i
        · rw [if_pos hji]
          rcases hok.1 with h | h
          · omega
          · rw [show j = i - 1 by omega]; exact Ne.symm h
        · rw [if_neg hji]; exact hg.2 j (by omega)
    rw [e0, cnt_first (by omega) (by omega) hn hp0, least_first hT (by omega) (by omega) hn hp0]
    obtain ⟨l1, l2⟩ := line_pre (but := lastOf around (put1 p i c)) hT hg' (by omega) (by omega) hn
    rw [hpi] at l1 l2
    constructor
    · rintro ⟨h1, h2⟩
      exact ⟨hok.1, hok.2, l1.1 h1, by rw [← l2 h1]; exact h2⟩
    · rintro ⟨_, _, h3, h4⟩
      have h1 := l1.2 h3
      exact ⟨h1, by rw [l2 h1]; exact h4⟩
  · constructor
    · rintro ⟨h1, _⟩
      exfalso
      have hz := cnt_dead hi hn hc hg hok (around := around)
      rw [hz] at h1; omega
    · rintro ⟨h1, h2, _⟩; exact absurd ⟨h1, h2⟩ hok
end Go.AL
