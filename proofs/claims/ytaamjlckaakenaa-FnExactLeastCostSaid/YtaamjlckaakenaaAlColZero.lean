/-
  Tables that cost nothing: the least cost is nothing where there is a fence.
-/
import Derived.Test.YtaamjlckaakenaaAlColMath
namespace Go.AL
set_option linter.unusedSimpArgs false
set_option linter.unusedVariables false
set_option linter.unusedSimpArgs false
set_option linter.unusedVariables false

def Zero (T : Nat → Int) : Prop := ∀ k, T k = 0 ∨ T k = 1099511627776

theorem stepL_zero {cnt lst : Nat → Int} {j : Nat} (h0 : ∀ d, 0 ≤ lst d) (h : ∀ d, 0 < cnt d → lst d = 0) : ∀ d, 0 < stepN cnt j d → stepL cnt lst j 0 d = 0
  | 0, hp => by simp [stepN] at hp
  | d + 1, hp => by
    have hb := stepL_bound (cnt := cnt) (j := j) (Int.le_refl 0) h0 d
    have h0d := h0 d
    unfold stepN at hp
    unfold stepL
    by_cases hd : d ≠ j ∧ 0 < cnt d
    · rw [if_pos hd]
      have := h d hd.2
      split <;> omega
    · rw [if_neg hd] at hp ⊢
      exact stepL_zero h0 h d hp
theorem bestL_zero {cnt lst : Nat → Int} {but : Int} (hb : ∀ d, 0 ≤ lst d ∧ lst d ≤ 1099511627776) (h : ∀ d, 0 < cnt d → lst d = 0) : ∀ d, 0 < sumN cnt but d → bestL cnt lst but d = 0
  | 0, hp => by simp [sumN] at hp
  | d + 1, hp => by
    have hb' := bestL_bound (cnt := cnt) (but := but) hb d
    have h0d := hb d
    unfold sumN at hp
    unfold bestL
    by_cases hd : (d : Int) ≠ but ∧ 0 < cnt d
    · rw [if_pos hd]
      have := h d hd.2
      split <;> omega
    · rw [if_neg hd] at hp ⊢
      exact bestL_zero hb h d hp

theorem zero_nonneg {T : Nat → Int} (hz : Zero T) (k : Nat) : 0 ≤ T k := by rcases hz k with h | h <;> omega

theorem lstF_zero {T : Nat → Int} (hz : Zero T) : ∀ i j, 0 < cntF T i j → lstF T i j = 0
  | 0, j, h => by simp [cntF] at h
  | i + 1, j, h => by
    have h' : 0 < newN i (fun j => T (i * 5 + j)) (cntF T i) j := h
    show newL i (fun j => T (i * 5 + j)) (cntF T i) (lstF T i) j = 0
    unfold newN at h'
    unfold newL
    dsimp only at h' ⊢
    have hT := hz (i * 5 + j)
    by_cases hc : 1099511627776 ≤ T (i * 5 + j)
    · rw [if_pos hc] at h'; omega
    · rw [if_neg hc] at h' ⊢
      have h0 : T (i * 5 + j) = 0 := by omega
      by_cases hi : i = 0
      · rw [if_pos hi]; exact h0
      · rw [if_neg hi] at h' ⊢
        rw [h0]
        exact stepL_zero (fun d => (lstF_bound (zero_nonneg hz) i d).1) (lstF_zero hz i) 5 h'

theorem lineL_zero {T : Nat → Int} (hz : Zero T) {n : Nat} {but : Int} (h : 0 < lineN T n but) : lineL T n but = 0 :=
  bestL_zero (lstF_bound (zero_nonneg hz) n) (lstF_zero hz n) 5 h

theorem fix_zero {T : Nat → Int} (hz : Zero T) (b : Nat) (col : Int) : Zero (fixT T b col) := by
  intro k; unfold fixT fixP; split
  · exact .inr rfl
  · exact hz k

theorem lookL_zero {T : Nat → Int} (hz : Zero T) {n : Nat} (hn : n ≤ 20) : ∀ c, 0 < lookN T n c → lookL T n c = 0
  | 0, h => by simp [lookN] at h
  | c + 1, h => by
    have hb := lookL_bound (n := n) (zero_nonneg hz) c
    have hl := lineL_bound (n := n) (zero_nonneg (fix_zero hz 0 c)) c
    unfold lookN at h
    unfold lookL
    by_cases hc : 0 < lineN (fixT T 0 c) n c
    · have := lineL_zero (fix_zero hz 0 c) hc
      rw [this]
      split <;> omega
    · have h0 := (lineN_bound (T := fixT T 0 c) hn c).1
      have := lookL_zero hz hn c (by omega)
      rw [this]
      split <;> omega

theorem leastT_zero {T : Nat → Int} (hz : Zero T) {n : Nat} (hn : n ≤ 20) {around : Bool} (h : 0 < cntT T n around) : leastT T n around = 0 := by
  unfold cntT at h
  unfold leastT
  cases around with
  | true => exact lookL_zero hz hn 5 h
  | false => exact lineL_zero hz h

theorem free_zero {t : Nat} : Zero (freeT t) := by
  intro k; unfold freeT; split
  · exact .inr rfl
  · exact .inl rfl
end Go.AL
