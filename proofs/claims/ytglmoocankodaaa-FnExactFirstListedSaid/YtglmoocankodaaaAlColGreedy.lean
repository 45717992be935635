/-
  The fence of a rank, board by board.
-/
import Derived.Test.YtglmoocankodaaaAlColRank
namespace Go.AL
set_option linter.unusedSimpArgs false
set_option linter.unusedVariables false
open F
set_option linter.unusedSimpArgs false
set_option linter.unusedVariables false
variable {G : Env}

def pick (C : Nat → Int) : Nat → Nat → Int → Nat × Int
  | 0, c, r => (c, r)
  | k + 1, c, r => if r < C c then (c, r) else pick C k (c + 1) (r - C c)
theorem pick_found {C : Nat → Int} : ∀ k c r, 0 ≤ r → r < sm (fun j => C (c + j)) k → c ≤ (pick C k c r).1 ∧ (pick C k c r).1 < c + k ∧ 0 ≤ (pick C k c r).2 ∧ (pick C k c r).2 < C (pick C k c r).1
  | 0, c, r, h0, h => by simp [sm] at h; omega
  | k + 1, c, r, h0, h => by
    unfold pick
    split
    · exact ⟨Nat.le_refl _, by omega, h0, by assumption⟩
    · have e : ∀ k, sm (fun j => C (c + j)) (k + 1) = C c + sm (fun j => C (c + 1 + j)) k := by
        intro k
        induction k with
        | zero => simp [sm]
        | succ k ih =>
          have e1 : sm (fun j => C (c + j)) (k + 1 + 1) = sm (fun j => C (c + j)) (k + 1) + C (c + (k + 1)) := rfl
          have e2 : sm (fun j => C (c + 1 + j)) (k + 1) = sm (fun j => C (c + 1 + j)) k + C (c + 1 + k) := rfl
          rw [e1, e2, ih, show c + (k + 1) = c + 1 + k by omega, Int.add_assoc]
      rw [e k] at h
      have ih := pick_found (C := C) k (c + 1) (r - C c) (by omega) (by omega)
      exact ⟨by omega, by omega, ih.2.2.1, ih.2.2.2⟩

/-- How many fences have a colour at board i, behind the boards of p. -/
def stepC (s : List UInt8) (tn : Nat) (around : Bool) (p : Nat → Nat) (i c : Nat) : Int :=
  if (c < tn ∧ allow s i c = true) ∧ (i = 0 ∨ p (i - 1) ≠ c) then endsF s tn (i + 1) c (lastOf around (put1 p i c)) else 0
def remain (s : List UInt8) (tn : Nat) (around : Bool) (p : Nat → Nat) (i : Nat) : Int :=
  if i = 0 then fromF s tn around else endsF s tn i (p (i - 1)) (lastOf around p)

theorem ends_ways {s : List UInt8} {tn frm c : Nat} {last : Int} (hf : frm ≤ s.length) : endsF s tn frm c last = waysF s tn last (s.length - frm) c := by
  unfold endsF
  by_cases hl : frm = s.length
  · rw [if_pos hl, if_neg (by omega), show s.length - frm = 0 by omega]; rfl
  · rw [if_neg hl, show s.length - frm = (s.length - 1 - frm) + 1 by omega]
    show sumW _ _ tn = sumW _ _ tn
    rw [show s.length - 1 - (s.length - 1 - frm) = frm by omega, sumW_sm, sumW_sm]
    apply sm_congr; intro b _
    have : finP s frm c b = waysP s frm c b := by
      unfold finP waysP
      rw [show ((b : Int) != (c : Int)) = ((c : Int) != (b : Int)) from bne_comm]
    rw [this]

theorem remain_sum {s : List UInt8} {tn i : Nat} {around : Bool} {p : Nat → Nat} (hi : i < s.length) : remain s tn around p i = sm (fun c => stepC s tn around p i c) tn := by
  unfold remain
  by_cases h0 : i = 0
  · subst h0
    rw [if_pos rfl]
    unfold fromF
    cases around with
    | true =>
      show fromR s tn tn = _
      have hr : ∀ t, t ≤ tn → fromR s tn t = sm (fun c => stepC s tn true p 0 c) t := by
        intro t ht
        induction t with
        | zero => rfl
        | succ t ih =>
          unfold fromR sm
          rw [ih (by omega)]
          have e : stepC s tn true p 0 t = if allow s 0 t then endsF s tn 1 t t else 0 := by
            unfold stepC
            by_cases ha : allow s 0 t = true
            · rw [if_pos ⟨⟨by omega, ha⟩, .inl rfl⟩, if_pos ha]
              unfold lastOf put1; rfl
            · rw [if_neg (fun h => ha h.1.2), if_neg ha]
          rw [e]
          split
          · rfl
          · rw [Int.add_zero]
      exact hr tn (Nat.le_refl _)
    | false =>
      show endsF s tn 0 (-1) (-1) = _
      unfold endsF
      rw [if_neg (by omega), sumW_sm]
      apply sm_congr; intro c hc
      unfold stepC finP
      have hne : ((c : Int) != (-1)) = true := by rw [bne_iff_ne]; omega
      rw [hne, Bool.true_and]
      by_cases ha : allow s 0 c = true
      · rw [if_pos ha, if_pos ⟨⟨hc, ha⟩, .inl rfl⟩, ends_ways (by omega)]
        rfl
      · rw [if_neg ha, if_neg (fun h => ha h.1.2)]
  · rw [if_neg h0]
    unfold endsF
    rw [if_neg (by omega), sumW_sm]
    apply sm_congr; intro c hc
    unfold stepC finP
    have hlast : lastOf around (put1 p i c) = lastOf around p := by
      have : put1 p i c 0 = p 0 := by unfold put1; rw [if_neg (fun h => h0 h.symm)]
      unfold lastOf; rw [this]
    by_cases hok : (c < tn ∧ allow s i c = true) ∧ (i = 0 ∨ p (i - 1) ≠ c)
    · have hne : ((c : Int) != (p (i - 1) : Nat)) = true := by
        rw [bne_iff_ne]; rcases hok.2 with h | h <;> omega
      rw [hne, Bool.true_and, if_pos hok, if_pos hok.1.2, hlast, ends_ways (by omega), show s.length - (i + 1) = s.length - 1 - i by omega]
    · rw [if_neg hok]
      by_cases ha : allow s i c = true
      · have hne : ((c : Int) != (p (i - 1) : Nat)) = false := by
          rw [bne_eq_false_iff_eq]
          by_cases hp : p (i - 1) = c
          · omega
          · exact absurd ⟨⟨hc, ha⟩, .inr hp⟩ hok
        rw [hne]; rfl
      · have : allow s i c = false := by simpa using ha
        rw [this, Bool.and_false]; rfl

theorem stepC_bound {s : List UInt8} {tn i c : Nat} {around : Bool} {p : Nat → Nat} (ht : tn ≤ 5) (hs : s.length ≤ 20) : 0 ≤ stepC s tn around p i c ∧ stepC s tn around p i c ≤ 500000000000000000 := by
  unfold stepC
  split
  · exact endsF_bound ht hs
  · omega

/-- The first i boards of the fence of a rank, and what is left of the rank. -/
def walkR (s : List UInt8) (tn : Nat) (around : Bool) (r : Int) : Nat → (Nat → Nat) × Int
  | 0 => (fun _ => 0, r)
  | i + 1 => (put1 (walkR s tn around r i).1 i (pick (stepC s tn around (walkR s tn around r i).1 i) tn 0 (walkR s tn around r i).2).1,
      (pick (stepC s tn around (walkR s tn around r i).1 i) tn 0 (walkR s tn around r i).2).2)

def GoodP (s : List UInt8) (tn : Nat) (p : Nat → Nat) (i : Nat) : Prop := (∀ j, j < i → p j < tn ∧ allow s j (p j) = true) ∧ ∀ j, j + 1 < i → p (j + 1) ≠ p j

theorem walkR_ok {s : List UInt8} {tn : Nat} {around : Bool} {r : Int} (ht : tn ≤ 5) (hs : s.length ≤ 20) (h0 : 0 ≤ r) (hr : r < fromF s tn around) : ∀ i, i ≤ s.length →
    GoodP s tn (walkR s tn around r i).1 i ∧ 0 ≤ (walkR s tn around r i).2 ∧ (walkR s tn around r i).2 < remain s tn around (walkR s tn around r i).1 i
  | 0, _ => ⟨⟨fun j hj => by omega, fun j hj => by omega⟩, h0, by unfold remain; rw [if_pos rfl]; exact hr⟩
  | i + 1, hi => by
    obtain ⟨hg, h1, h2⟩ := walkR_ok ht hs h0 hr i (by omega)
    rw [remain_sum (by omega)] at h2
    have hf := pick_found (C := stepC s tn around (walkR s tn around r i).1 i) tn 0 (walkR s tn around r i).2 h1 (by simpa using h2)
    generalize hc : (pick (stepC s tn around (walkR s tn around r i).1 i) tn 0 (walkR s tn around r i).2) = cr at hf
    have hg1 : (walkR s tn around r (i + 1)).1 = put1 (walkR s tn around r i).1 i cr.1 := by show put1 _ _ (pick _ _ _ _).1 = _; rw [hc]
    have hg2 : (walkR s tn around r (i + 1)).2 = cr.2 := by show (pick _ _ _ _).2 = _; rw [hc]
    rw [hg1, hg2]
    generalize (walkR s tn around r i).1 = p at *
    obtain ⟨_, hlt, hr0, hr1⟩ := hf
    have hpos : 0 < stepC s tn around p i cr.1 := by omega
    have hcond : (cr.1 < tn ∧ allow s i cr.1 = true) ∧ (i = 0 ∨ p (i - 1) ≠ cr.1) := by
      by_cases h : (cr.1 < tn ∧ allow s i cr.1 = true) ∧ (i = 0 ∨ p (i - 1) ≠ cr.1)
      · exact h
      · unfold stepC at hpos; rw [if_neg h] at hpos; omega
    refine ⟨⟨fun j hj => ?_, fun j hj => ?_⟩, hr0, ?_⟩
    · unfold put1
      by_cases hji : j = i
      · rw [if_pos hji, hji]; exact hcond.1
      · rw [if_neg hji]; exact hg.1 j (by omega)
    · unfold put1
      rw [if_neg (show ¬ j = i by omega)]
      by_cases hji : j + 1 = i
      · rw [if_pos hji]
        rcases hcond.2 with h | h
        · omega
        · rw [show j = i - 1 by omega]; exact Ne.symm h
      · rw [if_neg hji]; exact hg.2 j (by omega)
    · unfold remain
      rw [if_neg (by omega)]
      have hpi : put1 p i cr.1 (i + 1 - 1) = cr.1 := by unfold put1; rw [if_pos (by omega)]
      rw [hpi]
      unfold stepC at hr1
      rw [if_pos hcond] at hr1
      exact hr1
end Go.AL
