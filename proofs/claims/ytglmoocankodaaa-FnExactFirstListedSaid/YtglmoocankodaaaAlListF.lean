/-
  FirstListed on both sides.
-/
import Derived.Test.YtglmoocankodaaaAlListD
import Derived.Test.YtglmoocankodaaaAlColFirstG
namespace Go.AL
set_option linter.unusedSimpArgs false
set_option linter.unusedVariables false
open F
set_option linter.unusedSimpArgs false
set_option linter.unusedVariables false
variable {G : Env}

theorem zero_costs {T : Nat → Int} (h : Zero T) : Costs T := fun k => by rcases h k with h | h; exact .inr (by omega); exact .inl h

theorem bwd_bL {T : Nat → Int} {n : Nat} {but : Int} (hz : Zero T) : ∀ k a, (0 < bwd T n but k a ↔ 0 ≤ bL T n but k a) ∧ bL T n but k a ≤ 0
  | 0, a => by
    unfold bwd bL
    by_cases h : (a : Int) = but
    · rw [if_pos h, if_pos h]; omega
    · rw [if_neg h, if_neg h]; omega
  | k + 1, a => by
    have ih := bwd_bL (n := n) (but := but) hz k
    have hb := bestB_least (f := fun b => bL T n but k b + T ((n - 1 - k) * 5 + b)) (p := fun b => decide (b ≠ a) && (decide (may T (n - 1 - k) b) && decide (0 ≤ bL T n but k b)))
      (fun b hb => by have h1 := (bL_p.1 hb).2.2; have h2 := (zero_costs hz).nn ((n - 1 - k) * 5 + b); show 0 ≤ _ + _; omega) 5
    have hbl : bL T n but (k + 1) a = bestB (fun b => bL T n but k b + T ((n - 1 - k) * 5 + b)) (fun b => decide (b ≠ a) && (decide (may T (n - 1 - k) b) && decide (0 ≤ bL T n but k b))) 5 := rfl
    have hnn : ∀ b, 0 ≤ (if b ≠ a ∧ may T (n - 1 - k) b then bwd T n but k b else 0) := fun b => by
      split
      · exact (bwd_bound k b).1
      · exact Int.le_refl _
    have hval : ∀ b, may T (n - 1 - k) b → T ((n - 1 - k) * 5 + b) = 0 := fun b hm => by
      have : T ((n - 1 - k) * 5 + b) < 1099511627776 := hm
      rcases hz ((n - 1 - k) * 5 + b) with h | h <;> omega
    refine ⟨⟨fun h => ?_, fun h => ?_⟩, ?_⟩
    · have hex : ∃ b, b < 5 ∧ 0 < (if b ≠ a ∧ may T (n - 1 - k) b then bwd T n but k b else 0) := by
        apply Classical.byContradiction
        intro hno
        have hz0 : sm (fun b => if b ≠ a ∧ may T (n - 1 - k) b then bwd T n but k b else 0) 5 = 0 := by
          rw [sm_congr (g := fun _ => 0) (fun b hb => by
            have h1 := hnn b
            by_cases h2 : 0 < (if b ≠ a ∧ may T (n - 1 - k) b then bwd T n but k b else 0)
            · exact absurd ⟨b, hb, h2⟩ hno
            · omega), sm_zero]
        have h' : 0 < sm (fun b => if b ≠ a ∧ may T (n - 1 - k) b then bwd T n but k b else 0) 5 := h
        omega
      obtain ⟨b, hb5, hpos⟩ := hex
      by_cases hc : b ≠ a ∧ may T (n - 1 - k) b
      · rw [if_pos hc] at hpos
        rw [hbl]
        exact (hb.1 b hb5 (bL_p.2 ⟨hc.1, hc.2, (ih b).1.1 hpos⟩)).1
      · rw [if_neg hc] at hpos; omega
    · rw [hbl] at h
      obtain ⟨e, g1, g2, g3⟩ := hb.2.1 h
      obtain ⟨g4, g5, g6⟩ := bL_p.1 g2
      have hpos := (ih e).1.2 g6
      have h1 : (if e ≠ a ∧ may T (n - 1 - k) e then bwd T n but k e else 0) ≤ sm (fun b => if b ≠ a ∧ may T (n - 1 - k) b then bwd T n but k b else 0) 5 := by
        have gen : ∀ d, e < d → (if e ≠ a ∧ may T (n - 1 - k) e then bwd T n but k e else 0) ≤ sm (fun b => if b ≠ a ∧ may T (n - 1 - k) b then bwd T n but k b else 0) d := by
          intro d
          induction d with
          | zero => intro h; omega
          | succ d ihd =>
            intro hd
            have hs0 : 0 ≤ sm (fun b => if b ≠ a ∧ may T (n - 1 - k) b then bwd T n but k b else 0) d := by
              clear ihd hd
              induction d with
              | zero => exact Int.le_refl _
              | succ d ihd => have := hnn d; unfold sm; omega
            unfold sm
            by_cases hed : e = d
            · subst hed; omega
            · have := ihd (by omega); have := hnn d; omega
        exact gen 5 g1
      rw [if_pos ⟨g4, g5⟩] at h1
      show 0 < sm _ 5
      omega
    · by_cases h : 0 ≤ bL T n but (k + 1) a
      · rw [hbl] at h
        obtain ⟨e, g1, g2, g3⟩ := hb.2.1 h
        obtain ⟨g4, g5, g6⟩ := bL_p.1 g2
        have h1 := (ih e).2
        have h2 := hval e g5
        rw [hbl, g3]
        show bL T n but k e + T ((n - 1 - k) * 5 + e) ≤ 0
        omega
      · omega

theorem costP_zero {T : Nat → Int} (hz : Zero T) {p : Nat → Nat} : ∀ k, (∀ i, i < k → may T i (p i)) → costP T p k = 0
  | 0, _ => rfl
  | k + 1, h => by
    have hm : T (k * 5 + p k) < 1099511627776 := h k (by omega)
    show costP T p k + T (k * 5 + p k) = 0
    rw [costP_zero hz k fun i hi => h i (by omega)]
    rcases hz (k * 5 + p k) with h | h <;> omega

theorem okL_zero {T : Nat → Int} {n i c : Nat} {p : Nat → Nat} (hz : Zero T) (hg : Good T p i) : okL T n false p i c 0 ↔ (i = 0 ∨ p (i - 1) ≠ c) ∧ may T i c ∧ 0 < bwd T n (-1) (n - (i + 1)) c := by
  have hb := bwd_bL (n := n) (but := -1) hz (n - (i + 1)) c
  have hl : lastOf false (put1 p i c) = -1 := rfl
  unfold okL
  rw [hl, hb.1]
  constructor
  · rintro ⟨h1, h2, h3, _⟩; exact ⟨h1, h2, h3⟩
  · rintro ⟨h1, h2, h3⟩
    refine ⟨h1, h2, h3, ?_⟩
    have hm : T (i * 5 + c) < 1099511627776 := h2
    rw [costP_next, costP_zero hz i fun j hj => (hg.1 j hj).2]
    have := hb.2
    rcases hz (i * 5 + c) with h | h <;> omega

theorem tot_zero {T : Nat → Int} {n : Nat} (hz : Zero T) (h : 0 ≤ totL T n false) : totL T n false = 0 := by
  have := (bwd_bL (n := n) (but := -1) hz n 5).2
  have e : totL T n false = bL T n (-1) n 5 := rfl
  omega

theorem doneS_snoc {p : Nat → Nat} {i c : Nat} : doneS p i ++ [UInt8.ofNat (97 + c)] = doneS (put1 p i c) (i + 1) := by
  unfold doneS
  rw [List.range_succ, List.map_append]
  congr 1
  · apply List.map_congr_left
    intro j hj
    have : j < i := by simpa using hj
    unfold put1; rw [if_neg (by omega)]
  · simp [put1]

theorem list_at {l : List UInt8} {k : Nat} (hl : incB l = true) (hk : k < l.length) : ∃ c : Nat, c < 5 ∧ chr l k = 97 + (c : Int) ∧ l[k] = UInt8.ofNat (97 + c) ∧ ((UInt8.ofNat (97 + c)).toNat : Int) = ((97 + c : Nat) : Int) := by
  obtain ⟨⟨g1, g2⟩, _⟩ := okC_spec (inc_at hl hk)
  obtain ⟨c, hc⟩ := Int.eq_ofNat_of_zero_le (show 0 ≤ chr l k - 97 by omega)
  have hx := ofNat_toNat (c := c) (by omega)
  refine ⟨c, by omega, by omega, ?_, by rw [hx]⟩
  apply UInt8.toNat_inj.1
  rw [hx]
  have := chr_at hk
  omega
end Go.AL
