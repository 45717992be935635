/-
  Tables whose first rows are fixed, one colour each.
-/
import Derived.Test.YtaamjlckaakenaaAlColMath
namespace Go.AL
set_option linter.unusedSimpArgs false
set_option linter.unusedVariables false
set_option linter.unusedSimpArgs false
set_option linter.unusedVariables false

/-- The table with rows 0 .. k-1 fixed to the colours of p. -/
def preT (T : Nat → Int) (p : Nat → Nat) : Nat → Nat → Int
  | 0 => T
  | k + 1 => fixT (preT T p k) k (p k)

theorem fixT_ge {T : Nat → Int} {b j i : Nat} {col : Int} (hj : j < 5) (h : i ≠ b) : fixT T b col (i * 5 + j) = T (i * 5 + j) := by
  unfold fixT fixP; rw [if_neg (by omega)]
theorem fixT_own {T : Nat → Int} {b j : Nat} {col : Int} (hj : j < 5) : fixT T b col (b * 5 + j) = if (j : Int) ≠ col then 1099511627776 else T (b * 5 + j) := by
  unfold fixT fixP
  by_cases h : (j : Int) ≠ col
  · rw [if_pos (by omega), if_pos h]
  · rw [if_neg (by omega), if_neg h]

theorem preT_may {T : Nat → Int} {p : Nat → Nat} : ∀ k i j, j < 5 → (may (preT T p k) i j ↔ may T i j ∧ (i < k → j = p i))
  | 0, i, j, hj => by
    show may T i j ↔ _
    exact ⟨fun h => ⟨h, fun h => by omega⟩, fun h => h.1⟩
  | k + 1, i, j, hj => by
    have ih := preT_may (T := T) (p := p) k i j hj
    by_cases hi : i = k
    · subst hi
      have e := fixT_own (T := preT T p i) (b := i) (col := (p i : Int)) hj
      show fixT (preT T p i) i (p i) (i * 5 + j) < _ ↔ _
      rw [e]
      by_cases hp : (j : Int) ≠ p i
      · rw [if_pos hp]
        exact ⟨fun h => absurd h (by decide), fun h => by have := h.2 (by omega); omega⟩
      · rw [if_neg hp]
        exact ⟨fun h => ⟨(ih.1 h).1, fun _ => by omega⟩, fun h => ih.2 ⟨h.1, fun h => by omega⟩⟩
    · have e := fixT_ge (T := preT T p k) (b := k) (col := (p k : Int)) hj hi
      show fixT (preT T p k) k (p k) (i * 5 + j) < _ ↔ _
      rw [e]
      exact ⟨fun h => ⟨(ih.1 h).1, fun h' => (ih.1 h).2 (by omega)⟩, fun h => ih.2 ⟨h.1, fun h' => h.2 (by omega)⟩⟩

theorem preT_nonneg {T : Nat → Int} {p : Nat → Nat} (hT : ∀ k, 0 ≤ T k) : ∀ k i, 0 ≤ preT T p k i
  | 0 => hT
  | k + 1 => fixT_nonneg (preT_nonneg hT k)

/-- A prefix that is allowed and proper. -/
def Good (T : Nat → Int) (p : Nat → Nat) (k : Nat) : Prop := (∀ i, i < k → p i < 5 ∧ may T i (p i)) ∧ ∀ i, i + 1 < k → p (i + 1) ≠ p i

theorem bwd_pre_tail {T : Nat → Int} {p : Nat → Nat} {n k : Nat} {but : Int} : ∀ r, r + k ≤ n → ∀ a, bwd (preT T p k) n but r a = bwd T n but r a
  | 0, _, a => rfl
  | r + 1, hr, a => by
    show sm _ 5 = sm _ 5
    apply sm_congr; intro b hb
    rw [bwd_pre_tail r (by omega) b]
    have := preT_may (T := T) (p := p) k (n - 1 - r) b hb
    by_cases hm : b ≠ a ∧ may T (n - 1 - r) b
    · rw [if_pos hm, if_pos ⟨hm.1, this.2 ⟨hm.2, fun h => by omega⟩⟩]
    · rw [if_neg hm, if_neg (fun e => hm ⟨e.1, (this.1 e.2).1⟩)]

/-- Inside the fixed rows there is one way at most. -/
theorem bwd_pre {T : Nat → Int} {p : Nat → Nat} {n k : Nat} {but : Int} (hg : Good T p k) (hk : k ≤ n) : ∀ d i, i + 1 + d = k → bwd (preT T p k) n but (n - 1 - i) (p i) = bwd T n but (n - k) (p (k - 1))
  | 0, i, h => by
    rw [show n - 1 - i = n - k by omega, bwd_pre_tail _ (by omega), show i = k - 1 by omega]
  | d + 1, i, h => by
    have e : n - 1 - i = (n - 1 - (i + 1)) + 1 := by omega
    rw [e]
    show sm _ 5 = _
    have h5 := (hg.1 (i + 1) (by omega)).1
    rw [sm_one (c := p (i + 1)) h5]
    · have er : n - 1 - (n - 1 - (i + 1)) = i + 1 := by omega
      rw [er, if_pos ⟨hg.2 i (by omega), (preT_may k (i + 1) _ h5).2 ⟨(hg.1 (i + 1) (by omega)).2, fun _ => rfl⟩⟩]
      exact bwd_pre hg hk d (i + 1) (by omega)
    · intro b hb hne
      have er : n - 1 - (n - 1 - (i + 1)) = i + 1 := by omega
      rw [er]
      exact if_neg (fun e => hne (((preT_may k (i + 1) b hb).1 e.2).2 (by omega)))

theorem lineN_pre {T : Nat → Int} {p : Nat → Nat} {n k : Nat} {but : Int} (hg : Good T p k) (h1 : 1 ≤ k) (hk : k ≤ n) (hn : n ≤ 20) : lineN (preT T p k) n but = bwd T n but (n - k) (p (k - 1)) := by
  rw [lineN_bwd (by omega) hn]
  have h5 := (hg.1 0 (by omega)).1
  rw [sm_one (c := p 0) h5]
  · rw [if_pos ((preT_may k 0 _ h5).2 ⟨(hg.1 0 (by omega)).2, fun _ => rfl⟩)]
    exact bwd_pre hg hk (k - 1) 0 (by omega)
  · intro b hb hne
    exact if_neg (fun e => hne (((preT_may k 0 b hb).1 e).2 (by omega)))

theorem lineN_none {T : Nat → Int} {n : Nat} {but : Int} (h1 : 1 ≤ n) (hn : n ≤ 20) (h : ∀ j, j < 5 → ¬ may T 0 j) : lineN T n but = 0 := by
  rw [lineN_bwd h1 hn, sm_congr (g := fun _ => 0) (fun j hj => if_neg (h j hj)), sm_zero]

/-- A row behind which nothing is left. -/
theorem bwd_stuck {T : Nat → Int} {n k : Nat} {but : Int} {a : Nat} (h : ∀ j, j < 5 → ¬ (j ≠ a ∧ may T (n - 1 - k) j)) : bwd T n but (k + 1) a = 0 := by
  show sm _ 5 = 0
  rw [sm_congr (g := fun _ => 0) (fun j hj => if_neg (h j hj)), sm_zero]


theorem bwd_congr {T T' : Nat → Int} {n : Nat} {but : Int} (h : ∀ i j, j < 5 → (may T i j ↔ may T' i j)) : ∀ k a, bwd T n but k a = bwd T' n but k a
  | 0, a => rfl
  | k + 1, a => by
    show sm _ 5 = sm _ 5
    apply sm_congr; intro b hb
    rw [bwd_congr h k b]
    have := h (n - 1 - k) b hb
    by_cases hm : b ≠ a ∧ may T (n - 1 - k) b
    · rw [if_pos hm, if_pos ⟨hm.1, this.1 hm.2⟩]
    · rw [if_neg hm, if_neg (fun e => hm ⟨e.1, this.2 e.2⟩)]
theorem lineN_congr {T T' : Nat → Int} {n : Nat} {but : Int} (h1 : 1 ≤ n) (hn : n ≤ 20) (h : ∀ i j, j < 5 → (may T i j ↔ may T' i j)) : lineN T n but = lineN T' n but := by
  rw [lineN_bwd h1 hn, lineN_bwd h1 hn]
  apply sm_congr; intro j hj
  rw [bwd_congr h]
  have := h 0 j hj
  by_cases hm : may T 0 j
  · rw [if_pos hm, if_pos (this.1 hm)]
  · rw [if_neg hm, if_neg (fun e => hm (this.2 e))]

def lastOf (around : Bool) (p : Nat → Nat) : Int := if around then (p 0 : Int) else -1

/-- Where the first row is fixed, what is around is told from that colour. -/
theorem cnt_first {T : Nat → Int} {p : Nat → Nat} {n k : Nat} {around : Bool} (h1 : 1 ≤ k) (hk : k ≤ n) (hn : n ≤ 20) (h5 : p 0 < 5) : cntT (preT T p k) n around = lineN (preT T p k) n (lastOf around p) := by
  unfold cntT lastOf
  cases around with
  | false => rfl
  | true =>
    show lookN _ n 5 = lineN _ n _
    have hl : ∀ c, c ≤ 5 → lookN (preT T p k) n c = sm (fun c => if c = p 0 then lineN (preT T p k) n (p 0) else 0) c := by
      intro c hc
      induction c with
      | zero => rfl
      | succ c ih =>
        unfold lookN sm
        rw [ih (by omega)]
        congr 1
        by_cases hc0 : c = p 0
        · rw [if_pos hc0, hc0]
          apply lineN_congr (by omega) hn
          intro i j hj
          by_cases hi : i = 0
          · subst hi
            have e := fixT_own (T := preT T p k) (b := 0) (col := (p 0 : Int)) hj
            show fixT (preT T p k) 0 (p 0) (0 * 5 + j) < _ ↔ _
            rw [e]
            by_cases hp : (j : Int) ≠ p 0
            · rw [if_pos hp]
              exact ⟨fun h => absurd h (by decide), fun h => by have := ((preT_may k 0 j hj).1 h).2 (by omega); omega⟩
            · rw [if_neg hp]
          · have e := fixT_ge (T := preT T p k) (b := 0) (col := (p 0 : Int)) hj hi
            show fixT (preT T p k) 0 (p 0) (i * 5 + j) < _ ↔ _
            rw [e]
        · rw [if_neg hc0]
          apply lineN_none (by omega) hn
          intro j hj hm
          have e := fixT_own (T := preT T p k) (b := 0) (col := (c : Int)) hj
          have hm' : fixT (preT T p k) 0 c (0 * 5 + j) < 1099511627776 := hm
          rw [e] at hm'
          by_cases hp : (j : Int) ≠ c
          · rw [if_pos hp] at hm'; exact absurd hm' (by decide)
          · rw [if_neg hp] at hm'
            have := ((preT_may k 0 j hj).1 hm').2 (by omega)
            omega
    rw [hl 5 (Nat.le_refl _), sm_one (c := p 0) h5]
    · rw [if_pos rfl]; rfl
    · intro b _ hb; exact if_neg hb

def put1 (p : Nat → Nat) (i c : Nat) : Nat → Nat := fun j => if j = i then c else p j
theorem preT_put {T : Nat → Int} {p : Nat → Nat} {i c : Nat} : ∀ k, k ≤ i → preT T (put1 p i c) k = preT T p k
  | 0, _ => rfl
  | k + 1, hk => by
    show fixT (preT T (put1 p i c) k) k (put1 p i c k : Nat) = fixT (preT T p k) k (p k)
    rw [preT_put k (by omega)]
    unfold put1; rw [if_neg (by omega)]

/-- What the table counts with one more board fixed. -/
theorem cnt_step {T : Nat → Int} {s : List UInt8} {tn i c : Nat} {p : Nat → Nat} {around : Bool} (H : Tells T s tn) (ht : tn ≤ 5) (hi : i < s.length) (hn : s.length ≤ 20) (hc : c < 5) (hg : Good T p i) :
    cntT (fixT (preT T p i) i c) s.length around =
      if (c < tn ∧ allow s i c = true) ∧ (i = 0 ∨ p (i - 1) ≠ c) then endsF s tn (i + 1) c (lastOf around (put1 p i c)) else 0 := by
  have e0 : fixT (preT T p i) i c = preT T (put1 p i c) (i + 1) := by
    show _ = fixT (preT T (put1 p i c) i) i (put1 p i c i : Nat)
    rw [preT_put i (Nat.le_refl _)]
    unfold put1; rw [if_pos rfl]
  have hp0 : put1 p i c 0 < 5 := by
    unfold put1
    split
    · exact hc
    · exact (hg.1 0 (by omega)).1
  rw [e0, cnt_first (by omega) (by omega) hn hp0]
  have hH := H i hi c hc
  by_cases hok : (c < tn ∧ allow s i c = true) ∧ (i = 0 ∨ p (i - 1) ≠ c)
  · rw [if_pos hok]
    have hg' : Good T (put1 p i c) (i + 1) := by
      refine ⟨fun j hj => ?_, fun j hj => ?_⟩
      · unfold put1
        by_cases hji : j = i
        · rw [if_pos hji, hji]; exact ⟨hc, hH.2 hok.1⟩
        · rw [if_neg hji]; exact hg.1 j (by omega)
      · unfold put1
        rw [if_neg (show ¬ j = i by omega)]
        by_cases hji : j + 1 = i
        · rw [if_pos hji]
          rcases hok.2 with h | h
          · omega
          · rw [show j = i - 1 by omega]; exact Ne.symm h
        · rw [if_neg hji]; exact hg.2 j (by omega)
    rw [lineN_pre hg' (by omega) (by omega) hn, show i + 1 - 1 = i by omega]
    have hpi : put1 p i c i = c := by unfold put1; rw [if_pos rfl]
    rw [hpi, ← ways_bwd H ht (by omega)]
    unfold endsF
    by_cases hl : i + 1 = s.length
    · rw [if_pos hl, if_neg (by omega), show s.length - (i + 1) = 0 by omega]
      show waysE _ c = _
      rfl
    · rw [if_neg hl, show s.length - (i + 1) = (s.length - 1 - (i + 1)) + 1 by omega]
      show sumW _ _ tn = _
      rw [show s.length - 1 - (s.length - 1 - (i + 1)) = i + 1 by omega, sumW_sm, sumW_sm]
      apply sm_congr; intro b _
      have : finP s (i + 1) c b = waysP s (i + 1) c b := by
        unfold finP waysP
        rw [show ((b : Int) != (c : Int)) = ((c : Int) != (b : Int)) from bne_comm]
      rw [this]
  · rw [if_neg hok]
    by_cases hi0 : i = 0
    · subst hi0
      apply lineN_none (by omega) hn
      intro j hj hm
      have h := (preT_may 1 0 j hj).1 hm
      have hjc : j = c := by have := h.2 (by omega); unfold put1 at this; rw [if_pos rfl] at this; exact this
      subst hjc
      exact hok ⟨hH.1 h.1, .inl rfl⟩
    · have hcong : ∀ i' j, j < 5 → (may (preT T (put1 p i c) (i + 1)) i' j ↔ may (preT (fixT T i c) p i) i' j) := by
        intro i' j hj
        rw [preT_may _ _ _ hj, preT_may _ _ _ hj]
        have hX : may (fixT T i c) i' j ↔ may T i' j ∧ (i' = i → j = c) := by
          by_cases h : i' = i
          · subst h
            have e := fixT_own (T := T) (b := i') (col := (c : Int)) hj
            show fixT T i' c (i' * 5 + j) < _ ↔ _
            rw [e]
            by_cases hp : (j : Int) ≠ c
            · rw [if_pos hp]
              exact ⟨fun h => absurd h (by decide), fun h => by have := h.2 rfl; omega⟩
            · rw [if_neg hp]
              exact ⟨fun h => ⟨h, fun _ => by omega⟩, fun h => h.1⟩
          · have e := fixT_ge (T := T) (b := i) (col := (c : Int)) hj h
            show fixT T i c (i' * 5 + j) < _ ↔ _
            rw [e]
            exact ⟨fun h' => ⟨h', fun e => absurd e h⟩, fun h' => h'.1⟩
        rw [hX]
        unfold put1
        constructor
        · intro h
          refine ⟨⟨h.1, fun e => ?_⟩, fun e => ?_⟩
          · have := h.2 (by omega); rw [if_pos e] at this; exact this
          · have := h.2 (by omega); rw [if_neg (by omega)] at this; exact this
        · intro h
          refine ⟨h.1.1, fun e => ?_⟩
          by_cases e' : i' = i
          · rw [if_pos e']; exact h.1.2 e'
          · rw [if_neg e']; exact h.2 (by omega)
      rw [lineN_congr (by omega) hn hcong]
      have hg' : Good (fixT T i c) p i := by
        refine ⟨fun j hj => ⟨(hg.1 j hj).1, ?_⟩, hg.2⟩
        show fixT T i c (j * 5 + p j) < _
        rw [fixT_ge (hg.1 j hj).1 (by omega)]
        exact (hg.1 j hj).2
      rw [lineN_pre hg' (by omega) (by omega) hn, show s.length - i = (s.length - i - 1) + 1 by omega]
      apply bwd_stuck
      intro j hj hm
      rw [show s.length - 1 - (s.length - i - 1) = i by omega] at hm
      have e := fixT_own (T := T) (b := i) (col := (c : Int)) hj
      have hm2 : fixT T i c (i * 5 + j) < 1099511627776 := hm.2
      rw [e] at hm2
      by_cases hp : (j : Int) ≠ c
      · rw [if_pos hp] at hm2; exact absurd hm2 (by decide)
      · rw [if_neg hp] at hm2
        have hjc : j = c := by omega
        subst hjc
        exact hok ⟨hH.1 hm2, .inr (Ne.symm hm.1)⟩

end Go.AL
