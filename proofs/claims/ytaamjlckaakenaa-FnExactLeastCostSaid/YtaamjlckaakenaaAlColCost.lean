/-
  The least cost told from the front and from the end is the same.
-/
import Derived.Test.YtaamjlckaakenaaAlColPre
import Derived.Test.YtaamjlckaakenaaAlColZero
namespace Go.AL
set_option linter.unusedSimpArgs false
set_option linter.unusedVariables false
set_option linter.unusedSimpArgs false
set_option linter.unusedVariables false

/-- A colour cannot be, or it costs a hundred at most. -/
def Costs (T : Nat → Int) : Prop := ∀ k, T k = 1099511627776 ∨ (0 ≤ T k ∧ T k ≤ 100)
theorem Costs.nn {T : Nat → Int} (h : Costs T) (k : Nat) : 0 ≤ T k := by rcases h k with h | h <;> omega
theorem Costs.le {T : Nat → Int} (h : Costs T) {i j : Nat} (hm : may T i j) : T (i * 5 + j) ≤ 100 := by
  have : T (i * 5 + j) < 1099511627776 := hm
  rcases h (i * 5 + j) with h | h <;> omega
theorem Costs.fix {T : Nat → Int} (h : Costs T) (b : Nat) (c : Int) : Costs (fixT T b c) := by
  intro k; unfold fixT fixP; split
  · exact .inl rfl
  · exact h k
theorem Costs.pre {T : Nat → Int} {p : Nat → Nat} (h : Costs T) : ∀ k, Costs (preT T p k)
  | 0 => h
  | k + 1 => (Costs.pre h k).fix k _

/-! ### Steps of the table's own least -/
theorem stepN_pos {cnt : Nat → Int} {j : Nat} (h : ∀ d, 0 ≤ cnt d) : ∀ d, 0 < stepN cnt j d ↔ ∃ e, e < d ∧ e ≠ j ∧ 0 < cnt e
  | 0 => ⟨fun h => by simp [stepN] at h, fun ⟨e, he, _⟩ => by omega⟩
  | d + 1 => by
    have ih := stepN_pos (j := j) h d
    have h0 : 0 ≤ stepN cnt j d := (by
      have : ∀ d, 0 ≤ stepN cnt j d := by
        intro d
        induction d with
        | zero => exact Int.le_refl _
        | succ d ih => unfold stepN; have := h d; split <;> omega
      exact this d)
    unfold stepN
    by_cases hd : d ≠ j ∧ 0 < cnt d
    · rw [if_pos hd]
      exact ⟨fun _ => ⟨d, by omega, hd⟩, fun _ => by omega⟩
    · rw [if_neg hd, ih]
      constructor
      · rintro ⟨e, he, h2⟩; exact ⟨e, by omega, h2⟩
      · rintro ⟨e, he, h2⟩
        by_cases hed : e = d
        · subst hed; exact absurd h2 hd
        · exact ⟨e, by omega, h2⟩
theorem stepL_least {cnt lst : Nat → Int} {j : Nat} {x : Int} (hb : ∀ d, 0 < cnt d → lst d + x < 1099511627776) : ∀ d,
    (∀ e, e < d → e ≠ j → 0 < cnt e → stepL cnt lst j x d ≤ lst e + x) ∧ ((∃ e, e < d ∧ e ≠ j ∧ 0 < cnt e) → ∃ e, e < d ∧ e ≠ j ∧ 0 < cnt e ∧ stepL cnt lst j x d = lst e + x) ∧ ((¬ ∃ e, e < d ∧ e ≠ j ∧ 0 < cnt e) → stepL cnt lst j x d = 1099511627776)
  | 0 => ⟨fun e he => by omega, fun ⟨e, he, _⟩ => by omega, fun _ => rfl⟩
  | d + 1 => by
    obtain ⟨h1, h2, h3⟩ := stepL_least (j := j) hb d
    unfold stepL
    by_cases hd : d ≠ j ∧ 0 < cnt d
    · rw [if_pos hd]
      have hbd := hb d hd.2
      refine ⟨fun e he hej hec => ?_, fun _ => ?_, fun h => absurd ⟨d, by omega, hd⟩ h⟩
      · by_cases hed : e = d
        · subst hed; split <;> omega
        · have := h1 e (by omega) hej hec; split <;> omega
      · by_cases hlt : lst d + x < stepL cnt lst j x d
        · rw [if_pos hlt]; exact ⟨d, by omega, hd.1, hd.2, rfl⟩
        · rw [if_neg hlt]
          by_cases hex : ∃ e, e < d ∧ e ≠ j ∧ 0 < cnt e
          · obtain ⟨e, g1, g2, g3, g4⟩ := h2 hex; exact ⟨e, by omega, g2, g3, g4⟩
          · have := h3 hex; omega
    · rw [if_neg hd]
      have hex : ∀ e, e < d + 1 → e ≠ j → 0 < cnt e → e < d := by
        intro e he hej hec
        by_cases hed : e = d
        · subst hed; exact absurd ⟨hej, hec⟩ hd
        · omega
      refine ⟨fun e he hej hec => h1 e (hex e he hej hec) hej hec, ?_, fun h => h3 (fun ⟨e, g1, g2⟩ => h ⟨e, by omega, g2⟩)⟩
      rintro ⟨e, g1, g2, g3⟩
      obtain ⟨e', k1, k2, k3, k4⟩ := h2 ⟨e, hex e g1 g2 g3, g2, g3⟩
      exact ⟨e', by omega, k2, k3, k4⟩
theorem sumN_pos {cnt : Nat → Int} {but : Int} (h : ∀ d, 0 ≤ cnt d) : ∀ d, 0 < sumN cnt but d ↔ ∃ e : Nat, e < d ∧ (e : Int) ≠ but ∧ 0 < cnt e
  | 0 => ⟨fun h => by simp [sumN] at h, fun ⟨e, he, _⟩ => by omega⟩
  | d + 1 => by
    have ih := sumN_pos (but := but) h d
    have h0 : 0 ≤ sumN cnt but d := (by
      have : ∀ d, 0 ≤ sumN cnt but d := by
        intro d
        induction d with
        | zero => exact Int.le_refl _
        | succ d ih => unfold sumN; have := h d; split <;> omega
      exact this d)
    unfold sumN
    by_cases hd : (d : Int) ≠ but ∧ 0 < cnt d
    · rw [if_pos hd]
      exact ⟨fun _ => ⟨d, by omega, hd⟩, fun _ => by omega⟩
    · rw [if_neg hd, ih]
      constructor
      · rintro ⟨e, he, h2⟩; exact ⟨e, by omega, h2⟩
      · rintro ⟨e, he, h2⟩
        by_cases hed : e = d
        · subst hed; exact absurd h2 hd
        · exact ⟨e, by omega, h2⟩
theorem bestL_least {cnt lst : Nat → Int} {but : Int} (hb : ∀ d, 0 < cnt d → lst d < 1099511627776) : ∀ d,
    (∀ e : Nat, e < d → (e : Int) ≠ but → 0 < cnt e → bestL cnt lst but d ≤ lst e) ∧ ((∃ e : Nat, e < d ∧ (e : Int) ≠ but ∧ 0 < cnt e) → ∃ e : Nat, e < d ∧ (e : Int) ≠ but ∧ 0 < cnt e ∧ bestL cnt lst but d = lst e) ∧ ((¬ ∃ e : Nat, e < d ∧ (e : Int) ≠ but ∧ 0 < cnt e) → bestL cnt lst but d = 1099511627776)
  | 0 => ⟨fun e he => by omega, fun ⟨e, he, _⟩ => by omega, fun _ => rfl⟩
  | d + 1 => by
    obtain ⟨h1, h2, h3⟩ := bestL_least (but := but) hb d
    unfold bestL
    by_cases hd : (d : Int) ≠ but ∧ 0 < cnt d
    · rw [if_pos hd]
      have hbd := hb d hd.2
      refine ⟨fun e he hej hec => ?_, fun _ => ?_, fun h => absurd ⟨d, by omega, hd⟩ h⟩
      · by_cases hed : e = d
        · subst hed; split <;> omega
        · have := h1 e (by omega) hej hec; split <;> omega
      · by_cases hlt : lst d < bestL cnt lst but d
        · rw [if_pos hlt]; exact ⟨d, by omega, hd.1, hd.2, rfl⟩
        · rw [if_neg hlt]
          by_cases hex : ∃ e : Nat, e < d ∧ (e : Int) ≠ but ∧ 0 < cnt e
          · obtain ⟨e, g1, g2, g3, g4⟩ := h2 hex; exact ⟨e, by omega, g2, g3, g4⟩
          · have := h3 hex; omega
    · rw [if_neg hd]
      have hex : ∀ e : Nat, e < d + 1 → (e : Int) ≠ but → 0 < cnt e → e < d := by
        intro e he hej hec
        by_cases hed : e = d
        · subst hed; exact absurd ⟨hej, hec⟩ hd
        · omega
      refine ⟨fun e he hej hec => h1 e (hex e he hej hec) hej hec, ?_, fun h => h3 (fun ⟨e, g1, g2⟩ => h ⟨e, by omega, g2⟩)⟩
      rintro ⟨e, g1, g2, g3⟩
      obtain ⟨e', k1, k2, k3, k4⟩ := h2 ⟨e, hex e g1 g2 g3, g2, g3⟩
      exact ⟨e', by omega, k2, k3, k4⟩

/-! ### Paths from the front -/
def FP (T : Nat → Int) : Nat → Nat → Int → Prop
  | 0, _, _ => False
  | 1, j, x => may T 0 j ∧ x = T (0 * 5 + j)
  | i + 2, j, x => may T (i + 1) j ∧ ∃ d, d < 5 ∧ d ≠ j ∧ ∃ y, FP T (i + 1) d y ∧ x = y + T ((i + 1) * 5 + j)

theorem frontC {T : Nat → Int} (hT : Costs T) : ∀ i, i + 1 ≤ 20 → ∀ j,
    (0 < cntF T (i + 1) j → FP T (i + 1) j (lstF T (i + 1) j) ∧ lstF T (i + 1) j ≤ 100 * (i + 1)) ∧ (∀ x, FP T (i + 1) j x → 0 < cntF T (i + 1) j ∧ lstF T (i + 1) j ≤ x)
  | 0, hi, j => by
    have e1 := cntF_one (T := T) (j := j)
    have e2 : lstF T 1 j = if 1099511627776 ≤ T (0 * 5 + j) then 1099511627776 else T (0 * 5 + j) := by
      show newL 0 _ _ _ j = _
      unfold newL; dsimp only
      split
      · rfl
      · rw [if_pos rfl]
    by_cases hm : may T 0 j
    · have hm' : T (0 * 5 + j) < 1099511627776 := hm
      rw [if_neg (by omega)] at e2
      have := hT.le hm
      refine ⟨fun _ => ⟨⟨hm, e2⟩, by rw [e2]; omega⟩, fun x hx => ⟨by rw [e1, if_pos hm]; decide, by rw [e2, hx.2]; exact Int.le_refl _⟩⟩
    · rw [if_neg hm] at e1
      exact ⟨fun h => by rw [e1] at h; omega, fun x hx => absurd hx.1 hm⟩
  | i + 1, hi, j => by
    have ih := frontC hT i (by omega)
    have h0 : ∀ d, 0 ≤ cntF T (i + 1) d := fun d => (cntF_bound' (by omega) d).1
    have eN : cntF T (i + 1 + 1) j = if 1099511627776 ≤ T ((i + 1) * 5 + j) then 0 else stepN (cntF T (i + 1)) j 5 := by
      show newN (i + 1) _ _ j = _
      unfold newN; dsimp only
      split
      · rfl
      · rw [if_neg (by omega)]
    have eL : lstF T (i + 1 + 1) j = if 1099511627776 ≤ T ((i + 1) * 5 + j) then 1099511627776 else stepL (cntF T (i + 1)) (lstF T (i + 1)) j (T ((i + 1) * 5 + j)) 5 := by
      show newL (i + 1) _ _ _ j = _
      unfold newL; dsimp only
      split
      · rfl
      · rw [if_neg (by omega)]
    by_cases hm : may T (i + 1) j
    · have hm' : T ((i + 1) * 5 + j) < 1099511627776 := hm
      rw [if_neg (by omega)] at eN eL
      have hle := hT.le hm
      have hnn := hT.nn ((i + 1) * 5 + j)
      have hbd : ∀ d, 0 < cntF T (i + 1) d → lstF T (i + 1) d + T ((i + 1) * 5 + j) < 1099511627776 := by
        intro d hd; have := ((ih d).1 hd).2; omega
      obtain ⟨l1, l2, l3⟩ := stepL_least (j := j) hbd 5
      have hN := stepN_pos (j := j) h0 5
      rw [← eN] at hN
      rw [← eL] at l1 l2 l3
      constructor
      · intro hp
        obtain ⟨e, g1, g2, g3, g4⟩ := l2 (hN.1 hp)
        obtain ⟨f1, f2⟩ := (ih e).1 g3
        exact ⟨⟨hm, e, g1, g2, _, f1, g4⟩, by omega⟩
      · rintro x ⟨_, d, g1, g2, y, g3, rfl⟩
        obtain ⟨f1, f2⟩ := (ih d).2 y g3
        have := l1 d g1 g2 f1
        exact ⟨hN.2 ⟨d, g1, g2, f1⟩, by omega⟩
    · have hm' : ¬ T ((i + 1) * 5 + j) < 1099511627776 := hm
      rw [if_pos (by omega)] at eN
      exact ⟨fun h => by rw [eN] at h; omega, fun x hx => absurd hx.1 hm⟩

/-! ### Paths from the end -/
def BP (T : Nat → Int) (n : Nat) (but : Int) : Nat → Nat → Int → Prop
  | 0, a, x => (a : Int) ≠ but ∧ x = 0
  | k + 1, a, x => ∃ b, b < 5 ∧ b ≠ a ∧ may T (n - 1 - k) b ∧ ∃ y, BP T n but k b y ∧ x = y + T ((n - 1 - k) * 5 + b)

/-- The least of some numbers, or -1. -/
def bestB (f : Nat → Int) (p : Nat → Bool) : Nat → Int
  | 0 => -1
  | b + 1 => if p b then (if bestB f p b < 0 ∨ f b < bestB f p b then f b else bestB f p b) else bestB f p b
theorem bestB_least {f : Nat → Int} {p : Nat → Bool} (h : ∀ b, p b = true → 0 ≤ f b) : ∀ d,
    (∀ e, e < d → p e = true → 0 ≤ bestB f p d ∧ bestB f p d ≤ f e) ∧ (0 ≤ bestB f p d → ∃ e, e < d ∧ p e = true ∧ bestB f p d = f e) ∧ -1 ≤ bestB f p d
  | 0 => ⟨fun e he => by omega, fun h => by simp [bestB] at h, by simp [bestB]⟩
  | d + 1 => by
    obtain ⟨h1, h2, h3⟩ := bestB_least h d
    unfold bestB
    by_cases hd : p d = true
    · rw [if_pos hd]
      have hf := h d hd
      refine ⟨fun e he hpe => ?_, fun hp => ?_, by split <;> omega⟩
      · by_cases hed : e = d
        · subst hed; split <;> omega
        · have := h1 e (by omega) hpe; split <;> omega
      · by_cases hlt : bestB f p d < 0 ∨ f d < bestB f p d
        · rw [if_pos hlt]; exact ⟨d, by omega, hd, rfl⟩
        · rw [if_neg hlt] at hp ⊢
          obtain ⟨e, g1, g2⟩ := h2 hp; exact ⟨e, by omega, g2⟩
    · rw [if_neg hd]
      refine ⟨fun e he hpe => ?_, fun hp => ?_, h3⟩
      · by_cases hed : e = d
        · subst hed; exact absurd hpe hd
        · exact h1 e (by omega) hpe
      · obtain ⟨e, g1, g2⟩ := h2 hp; exact ⟨e, by omega, g2⟩
theorem bestB_congr {f g : Nat → Int} {p q : Nat → Bool} : ∀ d, (∀ b, b < d → p b = q b ∧ (p b = true → f b = g b)) → bestB f p d = bestB g q d
  | 0, _ => rfl
  | d + 1, h => by
    unfold bestB
    rw [bestB_congr d fun b hb => h b (by omega), (h d (by omega)).1]
    by_cases hq : q d = true
    · rw [if_pos hq, if_pos hq, (h d (by omega)).2 ((h d (by omega)).1.trans hq)]
    · rw [if_neg hq, if_neg hq]
theorem bestB_cut {f : Nat → Int} {p : Nat → Bool} {m : Nat} : ∀ {n : Nat}, m ≤ n → (∀ k, m ≤ k → k < n → p k = false) → bestB f p n = bestB f p m
  | 0, h, _ => by rw [show m = 0 by omega]
  | n + 1, h, hz => by
    by_cases hm : m = n + 1
    · rw [hm]
    · unfold bestB
      rw [hz n (by omega) (by omega), bestB_cut (by omega) (fun k h1 h2 => hz k h1 (by omega))]
      cases m <;> rfl

def bL (T : Nat → Int) (n : Nat) (but : Int) : Nat → Nat → Int
  | 0, a => if (a : Int) = but then -1 else 0
  | k + 1, a => bestB (fun b => bL T n but k b + T ((n - 1 - k) * 5 + b)) (fun b => decide (b ≠ a) && (decide (may T (n - 1 - k) b) && decide (0 ≤ bL T n but k b))) 5

theorem bL_p {T : Nat → Int} {n : Nat} {but : Int} {k a b : Nat} : (decide (b ≠ a) && (decide (may T (n - 1 - k) b) && decide (0 ≤ bL T n but k b))) = true ↔ b ≠ a ∧ may T (n - 1 - k) b ∧ 0 ≤ bL T n but k b := by
  simp
theorem bL_least {T : Nat → Int} {n : Nat} {but : Int} (hT : ∀ k, 0 ≤ T k) : ∀ k a, (0 ≤ bL T n but k a → BP T n but k a (bL T n but k a)) ∧ (∀ x, BP T n but k a x → 0 ≤ bL T n but k a ∧ bL T n but k a ≤ x) ∧ -1 ≤ bL T n but k a
  | 0, a => by
    unfold bL BP
    by_cases h : (a : Int) = but
    · rw [if_pos h]; exact ⟨fun h => by omega, fun x hx => absurd h hx.1, by omega⟩
    · rw [if_neg h]; exact ⟨fun _ => ⟨h, rfl⟩, fun x hx => ⟨by omega, by omega⟩, by omega⟩
  | k + 1, a => by
    have ih := bL_least (n := n) (but := but) hT k
    have hb := bestB_least (f := fun b => bL T n but k b + T ((n - 1 - k) * 5 + b)) (p := fun b => decide (b ≠ a) && (decide (may T (n - 1 - k) b) && decide (0 ≤ bL T n but k b)))
      (fun b hb => by have h1 := (bL_p.1 hb).2.2; have h2 := hT ((n - 1 - k) * 5 + b); show 0 ≤ _ + _; omega) 5
    obtain ⟨h1, h2, h3⟩ := hb
    refine ⟨fun h => ?_, fun x hx => ?_, h3⟩
    · obtain ⟨e, g1, g2, g3⟩ := h2 h
      obtain ⟨g4, g5, g6⟩ := bL_p.1 g2
      exact ⟨e, g1, g4, g5, _, (ih e).1 g6, g3⟩
    · obtain ⟨b, g1, g2, g3, y, g4, rfl⟩ := hx
      obtain ⟨k1, k2⟩ := (ih b).2.1 y g4
      obtain ⟨j1, j2⟩ := h1 b g1 (bL_p.2 ⟨g2, g3, k1⟩)
      refine ⟨j1, Int.le_trans j2 ?_⟩
      show _ + _ ≤ _
      omega

/-! ### They meet -/
theorem meet {T : Nat → Int} {n : Nat} {but x : Int} : ∀ i, i + 1 ≤ n → ((∃ j, j < 5 ∧ ∃ y z, FP T (i + 1) j y ∧ BP T n but (n - (i + 1)) j z ∧ x = y + z) ↔ BP T n but n 5 x)
  | 0, hi => by
    obtain ⟨m, rfl⟩ : ∃ m, n = m + 1 := ⟨n - 1, by omega⟩
    constructor
    · rintro ⟨j, hj, y, z, ⟨h1, rfl⟩, h3, rfl⟩
      refine ⟨j, hj, by omega, ?_, z, ?_, ?_⟩
      · rw [show m + 1 - 1 - m = 0 by omega]; exact h1
      · rw [show m + 1 - (0 + 1) = m by omega] at h3; exact h3
      · rw [show m + 1 - 1 - m = 0 by omega]; omega
    · rintro ⟨b, h1, h2, h3, y, h4, rfl⟩
      rw [show m + 1 - 1 - m = 0 by omega] at h3 ⊢
      refine ⟨b, h1, _, y, ⟨h3, rfl⟩, ?_, by omega⟩
      rw [show m + 1 - (0 + 1) = m by omega]; exact h4
  | i + 1, hi => by
    rw [← meet i (by omega)]
    obtain ⟨m, hm⟩ : ∃ m, n - (i + 1) = m + 1 := ⟨n - (i + 1) - 1, by omega⟩
    have hm2 : n - (i + 1 + 1) = m := by omega
    have hr : n - 1 - m = i + 1 := by omega
    rw [hm2, hm]
    constructor
    · rintro ⟨j, hj, y, z, ⟨g1, d, g2, g3, y', g4, rfl⟩, h3, rfl⟩
      refine ⟨d, g2, y', z + T ((i + 1) * 5 + j), g4, ⟨j, hj, Ne.symm g3, by rw [hr]; exact g1, z, h3, by rw [hr]⟩, by omega⟩
    · rintro ⟨d, hd, y, z, h1, ⟨b, g1, g2, g3, z', g4, rfl⟩, rfl⟩
      rw [hr] at g3 ⊢
      exact ⟨b, g1, _, z', ⟨g3, d, hd, Ne.symm g2, y, h1, rfl⟩, g4, by omega⟩

theorem line_least {T : Nat → Int} {n : Nat} {but : Int} (hT : Costs T) (h1 : 1 ≤ n) (hn : n ≤ 20) :
    (0 < lineN T n but ↔ 0 ≤ bL T n but n 5) ∧ (0 < lineN T n but → lineL T n but = bL T n but n 5) ∧ (¬ 0 < lineN T n but → lineL T n but = 1099511627776) := by
  obtain ⟨i, rfl⟩ : ∃ i, n = i + 1 := ⟨n - 1, by omega⟩
  have hF := frontC hT i hn
  have h0 : ∀ d, 0 ≤ cntF T (i + 1) d := fun d => (cntF_bound' hn d).1
  have hbd : ∀ d, 0 < cntF T (i + 1) d → lstF T (i + 1) d < 1099511627776 := by
    intro d hd; have := ((hF d).1 hd).2; omega
  obtain ⟨l1, l2, l3⟩ := bestL_least (but := but) hbd 5
  have hN := sumN_pos (but := but) h0 5
  obtain ⟨b1, b2, b3⟩ := bL_least (n := i + 1) (but := but) (fun k => hT.nn k) (i + 1) 5
  have hM := fun x => meet (T := T) (n := i + 1) (but := but) (x := x) i (Nat.le_refl _)
  rw [show i + 1 - (i + 1) = 0 by omega] at hM
  have key : 0 < lineN T (i + 1) but ↔ 0 ≤ bL T (i + 1) but (i + 1) 5 := by
    constructor
    · intro h
      obtain ⟨e, g1, g2, g3⟩ := hN.1 h
      have := (hM _).1 ⟨e, g1, _, 0, ((hF e).1 g3).1, ⟨g2, rfl⟩, (Int.add_zero _).symm⟩
      exact (b2 _ this).1
    · intro h
      obtain ⟨j, g1, y, z, g2, g3, g4⟩ := (hM _).2 (b1 h)
      exact hN.2 ⟨j, g1, g3.1, ((hF j).2 y g2).1⟩
  refine ⟨key, fun h => ?_, fun h => l3 (fun h' => h (hN.2 h'))⟩
  apply Int.le_antisymm
  · obtain ⟨j, g1, y, z, g2, g3, g4⟩ := (hM _).2 (b1 (key.1 h))
    obtain ⟨f1, f2⟩ := (hF j).2 y g2
    have := l1 j g1 g3.1 f1
    have hz := g3.2
    show bestL _ _ _ 5 ≤ _
    omega
  · obtain ⟨e, g1, g2, g3, g4⟩ := l2 (hN.1 h)
    have := (hM _).1 ⟨e, g1, _, 0, ((hF e).1 g3).1, ⟨g2, rfl⟩, (Int.add_zero _).symm⟩
    show _ ≤ bestL _ _ _ 5
    rw [g4]
    exact (b2 _ this).2

/-! ### Behind boards that are fixed -/
def costP (T : Nat → Int) (p : Nat → Nat) (k : Nat) : Int := sm (fun i => T (i * 5 + p i)) k

theorem preT_ge {T : Nat → Int} {p : Nat → Nat} {i j : Nat} (hj : j < 5) : ∀ k, k ≤ i → preT T p k (i * 5 + j) = T (i * 5 + j)
  | 0, _ => rfl
  | k + 1, hk => by
    show fixT (preT T p k) k (p k) (i * 5 + j) = _
    rw [fixT_ge hj (by omega), preT_ge hj k (by omega)]
theorem preT_at {T : Nat → Int} {p : Nat → Nat} {i : Nat} (h5 : p i < 5) : ∀ k, preT T p k (i * 5 + p i) = T (i * 5 + p i)
  | 0 => rfl
  | k + 1 => by
    show fixT (preT T p k) k (p k) (i * 5 + p i) = _
    by_cases hik : i = k
    · subst hik; rw [fixT_own h5, if_neg (by omega), preT_at h5]
    · rw [fixT_ge h5 hik, preT_at h5]
theorem BP_tail {T : Nat → Int} {p : Nat → Nat} {n k : Nat} {but : Int} : ∀ r, r + k ≤ n → ∀ a x, BP (preT T p k) n but r a x ↔ BP T n but r a x
  | 0, _, a, x => Iff.rfl
  | r + 1, hr, a, x => by
    have ih := BP_tail (T := T) (p := p) (n := n) (k := k) (but := but) r (by omega)
    have hv : ∀ b, b < 5 → preT T p k ((n - 1 - r) * 5 + b) = T ((n - 1 - r) * 5 + b) := fun b hb => preT_ge hb k (by omega)
    constructor
    · rintro ⟨b, g1, g2, g3, y, g4, g5⟩
      rw [hv b g1] at g5
      refine ⟨b, g1, g2, ?_, y, (ih b y).1 g4, g5⟩
      have : preT T p k ((n - 1 - r) * 5 + b) < 1099511627776 := g3
      rw [hv b g1] at this; exact this
    · rintro ⟨b, g1, g2, g3, y, g4, g5⟩
      refine ⟨b, g1, g2, ?_, y, (ih b y).2 g4, by rw [hv b g1]; exact g5⟩
      show preT T p k ((n - 1 - r) * 5 + b) < 1099511627776
      rw [hv b g1]; exact g3
theorem BP_pre {T : Nat → Int} {p : Nat → Nat} {n k : Nat} {but : Int} (hg : Good T p k) (hk : k ≤ n) : ∀ d i, i + d + 1 = k → ∀ a x,
    BP (preT T p k) n but (n - i) a x ↔ p i ≠ a ∧ ∃ y, BP T n but (n - k) (p (k - 1)) y ∧ x = y + (costP T p k - costP T p i)
  | d, i, hi, a, x => by
    obtain ⟨h5, hm⟩ := hg.1 i (by omega)
    obtain ⟨r, hr⟩ : ∃ r, n - i = r + 1 := ⟨n - i - 1, by omega⟩
    have hrow : n - 1 - r = i := by omega
    have hc : costP T p (i + 1) = costP T p i + T (i * 5 + p i) := rfl
    have hopen : BP (preT T p k) n but (n - i) a x ↔ p i ≠ a ∧ ∃ y, BP (preT T p k) n but r (p i) y ∧ x = y + T (i * 5 + p i) := by
      rw [hr]
      constructor
      · rintro ⟨b, g1, g2, g3, y, g4, g5⟩
        rw [hrow] at g3 g5
        have hb : b = p i := ((preT_may k i b g1).1 g3).2 (by omega)
        subst hb
        rw [preT_at h5] at g5
        exact ⟨g2, y, g4, g5⟩
      · rintro ⟨g2, y, g4, g5⟩
        refine ⟨p i, h5, g2, ?_, y, g4, ?_⟩
        · rw [hrow]; exact (preT_may k i _ h5).2 ⟨hm, fun _ => rfl⟩
        · rw [hrow, preT_at h5]; exact g5
    rw [hopen]
    clear hopen
    cases d with
    | zero =>
      have hik : i + 1 = k := by omega
      subst hik
      rw [show n - (i + 1) = r by omega, show i + 1 - 1 = i by omega]
      constructor
      · rintro ⟨h1, y, h2, h3⟩
        exact ⟨h1, y, (BP_tail r (by omega) _ _).1 h2, by omega⟩
      · rintro ⟨h1, y, h2, h3⟩
        exact ⟨h1, y, (BP_tail r (by omega) _ _).2 h2, by omega⟩
    | succ d =>
      have ih := BP_pre (but := but) hg hk d (i + 1) (by omega) (p i)
      rw [show n - (i + 1) = r by omega] at ih
      have hne := hg.2 i (by omega)
      constructor
      · rintro ⟨h1, y, h2, h3⟩
        obtain ⟨_, z, g1, g2⟩ := (ih y).1 h2
        clear ih
        exact ⟨h1, z, g1, by omega⟩
      · rintro ⟨h1, y, h2, h3⟩
        refine ⟨h1, y + (costP T p k - costP T p (i + 1)), (ih _).2 ⟨hne, y, h2, rfl⟩, ?_⟩
        clear ih
        omega

/-- A line whose first boards are fixed. -/
theorem line_pre {T : Nat → Int} {p : Nat → Nat} {n k : Nat} {but : Int} (hT : Costs T) (hg : Good T p k) (h1 : 1 ≤ k) (hk : k ≤ n) (hn : n ≤ 20) :
    (0 < lineN (preT T p k) n but ↔ 0 ≤ bL T n but (n - k) (p (k - 1))) ∧ (0 < lineN (preT T p k) n but → lineL (preT T p k) n but = costP T p k + bL T n but (n - k) (p (k - 1))) := by
  obtain ⟨l1, l2, l3⟩ := line_least (but := but) (hT.pre (p := p) k) (show 1 ≤ n by omega) hn
  obtain ⟨b1, b2, b3⟩ := bL_least (n := n) (but := but) (fun j => (hT.pre (p := p) k).nn j) n 5
  obtain ⟨c1, c2, c3⟩ := bL_least (n := n) (but := but) (fun j => hT.nn j) (n - k) (p (k - 1))
  have hB := fun x => BP_pre (but := but) hg hk (k - 1) 0 (by omega) 5 x
  rw [Nat.sub_zero] at hB
  have h50 : p 0 ≠ 5 := by have := (hg.1 0 (by omega)).1; omega
  have hc0 : costP T p 0 = 0 := rfl
  have key : 0 ≤ bL (preT T p k) n but n 5 ↔ 0 ≤ bL T n but (n - k) (p (k - 1)) := by
    constructor
    · intro h
      obtain ⟨_, y, g1, _⟩ := (hB _).1 (b1 h)
      exact (c2 y g1).1
    · intro h
      exact (b2 _ ((hB _).2 ⟨h50, _, c1 h, rfl⟩)).1
  refine ⟨l1.trans key, fun h => ?_⟩
  rw [l2 h]
  have hp := l1.1 h
  apply Int.le_antisymm
  · have := (b2 _ ((hB _).2 ⟨h50, _, c1 (key.1 hp), rfl⟩)).2
    omega
  · obtain ⟨_, y, g1, g2⟩ := (hB _).1 (b1 hp)
    have := (c2 y g1).2
    omega

theorem fix_same {T : Nat → Int} {p : Nat → Nat} {k : Nat} (h1 : 1 ≤ k) : fixT (preT T p k) 0 (p 0) = preT T p k := by
  funext x
  by_cases hx : x < 5
  · have e := fixT_own (T := preT T p k) (b := 0) (col := (p 0 : Int)) hx
    rw [show 0 * 5 + x = x by omega] at e
    rw [e]
    by_cases hp : (x : Int) ≠ p 0
    · rw [if_pos hp]
      have hz : ∀ k, 1 ≤ k → preT T p k x = 1099511627776 := by
        intro k
        induction k with
        | zero => intro h; omega
        | succ k ih =>
          intro _
          show fixT (preT T p k) k (p k) x = _
          by_cases hk : k = 0
          · subst hk
            have e := fixT_own (T := preT T p 0) (b := 0) (col := (p 0 : Int)) hx
            rw [show 0 * 5 + x = x by omega] at e
            rw [e, if_pos hp]
          · have e := fixT_ge (T := preT T p k) (b := k) (i := 0) (col := (p k : Int)) hx (by omega)
            rw [show 0 * 5 + x = x by omega] at e
            rw [e, ih (by omega)]
      rw [hz k h1]
    · rw [if_neg hp]
  · unfold fixT fixP
    rw [if_neg (by omega)]

theorem least_first {T : Nat → Int} {p : Nat → Nat} {n k : Nat} {around : Bool} (hT : Costs T) (h1 : 1 ≤ k) (hk : k ≤ n) (hn : n ≤ 20) (h5 : p 0 < 5) : leastT (preT T p k) n around = lineL (preT T p k) n (lastOf around p) := by
  unfold leastT lastOf
  cases around with
  | false => rfl
  | true =>
    show lookL _ n 5 = lineL _ n _
    have hnn := fun j => (hT.pre (p := p) k).nn j
    have hbd := lineL_bound (n := n) (T := preT T p k) hnn (p 0 : Int)
    have hl : ∀ c, c ≤ 5 → lookL (preT T p k) n c = if p 0 < c then lineL (preT T p k) n (p 0) else 1099511627776 := by
      intro c hc
      induction c with
      | zero => rfl
      | succ c ih =>
        unfold lookL
        rw [ih (by omega)]
        by_cases hc0 : c = p 0
        · rw [hc0, fix_same h1, if_neg (show ¬ p 0 < p 0 by omega), if_pos (show p 0 < p 0 + 1 by omega)]
          split
          · rfl
          · omega
        · have hz : lineL (fixT (preT T p k) 0 c) n c = 1099511627776 := by
            apply (line_least (but := (c : Int)) ((hT.pre (p := p) k).fix 0 c) (show 1 ≤ n by omega) hn).2.2
            rw [lineN_none (by omega) hn]
            · decide
            · intro j hj hm
              have e := fixT_own (T := preT T p k) (b := 0) (col := (c : Int)) hj
              have hm' : fixT (preT T p k) 0 c (0 * 5 + j) < 1099511627776 := hm
              rw [e] at hm'
              by_cases hp : (j : Int) ≠ c
              · rw [if_pos hp] at hm'; exact absurd hm' (by decide)
              · rw [if_neg hp] at hm'
                have := ((preT_may k 0 j hj).1 hm').2 (by omega)
                omega
          rw [hz]
          generalize lineL (preT T p k) n (p 0) = L at hbd ⊢
          by_cases hlt : p 0 < c
          · have e1 : (if p 0 < c then L else 1099511627776) = L := if_pos hlt
            have e2 : (if p 0 < c + 1 then L else 1099511627776) = L := if_pos (by omega)
            rw [e1, e2, if_neg (by omega)]
          · have e1 : (if p 0 < c then L else 1099511627776) = 1099511627776 := if_neg hlt
            have e2 : (if p 0 < c + 1 then L else 1099511627776) = 1099511627776 := if_neg (by omega)
            rw [e1, e2, if_neg (by decide)]
    rw [hl 5 (Nat.le_refl _), if_pos h5]; rfl
end Go.AL
