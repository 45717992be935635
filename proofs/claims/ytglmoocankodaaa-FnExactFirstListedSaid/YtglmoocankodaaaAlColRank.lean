/-
  The reference's fence of a rank: fences with their first boards done.
-/
import Derived.Test.YtglmoocankodaaaAlColPre
namespace Go.AL
set_option linter.unusedSimpArgs false
set_option linter.unusedVariables false
open F
set_option linter.unusedSimpArgs false
set_option linter.unusedVariables false
variable {G : Env}

/-- The fence whose first i boards have the colours of p. -/
def nowS (s : List UInt8) (p : Nat → Nat) (i : Nat) : List UInt8 := (List.range s.length).map fun j => if j < i then UInt8.ofNat (97 + p j) else s.getD j 0
theorem nowS_len {s : List UInt8} {p : Nat → Nat} {i : Nat} : (nowS s p i).length = s.length := by simp [nowS]
theorem nowS_get {s : List UInt8} {p : Nat → Nat} {i j : Nat} (h : j < s.length) : (nowS s p i)[j]? = some (if j < i then UInt8.ofNat (97 + p j) else s.getD j 0) := by simp [nowS, h]
theorem nowS_zero {s : List UInt8} {p : Nat → Nat} : nowS s p 0 = s := by
  apply List.ext_getElem (by simp [nowS])
  intro j h1 h2
  simp [nowS, List.getD_eq_getElem?_getD, h2]
theorem nowS_with {s : List UInt8} {p : Nat → Nat} {i c : Nat} (hi : i < s.length) : (nowS s p i).take i ++ [UInt8.ofNat (97 + c)] ++ (nowS s p i).drop (i + 1) = nowS s (put1 p i c) (i + 1) := by
  apply List.ext_getElem?
  intro j
  by_cases hj : j < s.length
  · rw [nowS_get hj]
    by_cases h1 : j < i
    · rw [List.append_assoc, List.getElem?_append_left (by simp [nowS_len]; omega), List.getElem?_take_of_lt h1, nowS_get hj, if_pos h1, if_pos (by omega)]
      unfold put1; rw [if_neg (by omega)]
    · by_cases h2 : j = i
      · subst h2
        rw [List.append_assoc, List.getElem?_append_right (by simp [nowS_len]; omega)]
        simp [nowS_len, Nat.min_eq_left (Nat.le_of_lt hi), put1]
      · rw [List.getElem?_append_right (by simp [nowS_len]; omega)]
        simp only [List.length_append, List.length_take, nowS_len, List.length_cons, List.length_nil, List.getElem?_drop]
        rw [show i + 1 + (j - (min i s.length + (0 + 1))) = j by omega, nowS_get hj, if_neg h1, if_neg (by omega)]
  · rw [List.getElem?_eq_none (by simp [nowS_len]; omega), List.getElem?_eq_none (by simp [nowS_len]; omega)]

theorem lv_now {c : Nat} (hc : c < 5) : IntKind.u8.wrap (((UInt8.ofNat (97 + c)).toNat : Int) - 97) = c := by
  rw [IntKind.wrap_u8]
  have : (UInt8.ofNat (97 + c)).toNat = 97 + c := by simp; omega
  rw [this]; omega

theorem allow_congr {s s' : List UInt8} {i : Nat} {t : Int} (h : s[i]? = s'[i]?) : allow s i t = allow s' i t := by unfold allow; rw [h]
theorem waysF_congr {s s' : List UInt8} {T : Nat} {last : Int} (hl : s.length = s'.length) {frm : Nat} (h : ∀ j, frm ≤ j → s[j]? = s'[j]?) : ∀ k, frm + k ≤ s.length → ∀ a, waysF s T last k a = waysF s' T last k a
  | 0, _, a => rfl
  | k + 1, hk, a => by
    show sumW _ _ T = sumW _ _ T
    rw [sumW_sm, sumW_sm]
    apply sm_congr; intro b _
    rw [waysF_congr hl h k (by omega) b]
    have : waysP s (s.length - 1 - k) a b = waysP s' (s'.length - 1 - k) a b := by
      unfold waysP; rw [← hl, allow_congr (h _ (by omega))]
    rw [this]
theorem endsF_congr {s s' : List UInt8} {T frm : Nat} {before last : Int} (hl : s.length = s'.length) (hf : frm ≤ s.length) (h : ∀ j, frm ≤ j → s[j]? = s'[j]?) : endsF s T frm before last = endsF s' T frm before last := by
  unfold endsF
  rw [← hl]
  split
  · rfl
  · rw [sumW_sm, sumW_sm]
    apply sm_congr; intro b _
    rw [waysF_congr hl h _ (by omega) b]
    have : finP s frm before b = finP s' frm before b := by unfold finP; rw [allow_congr (h _ (Nat.le_refl _))]
    rw [this]
theorem nowS_rest {s : List UInt8} {p : Nat → Nat} {i j : Nat} (h : i ≤ j) : (nowS s p i)[j]? = s[j]? := by
  by_cases hj : j < s.length
  · rw [nowS_get hj, if_neg (by omega), List.getD_eq_getElem?_getD, List.getElem?_eq_getElem hj]; rfl
  · rw [List.getElem?_eq_none (by simp [nowS_len]; omega), List.getElem?_eq_none (by omega)]

/-- Ways behind the first boards, done. -/
theorem coFromD_ok (h : ColS G) {m : Mem} {s : List UInt8} {p : Nat → Nat} {T k : Nat} {around : Bool} (h1 : 1 ≤ k) (hk : k ≤ s.length) (hs : s.length ≤ 20) (hT : T ≤ 5) (hp0 : p 0 < T) (hp : p (k - 1) < T) :
    Rn G 537 [V.s (nowS s p k), V.i T, V.b around, V.i k] m fun v m' => v = V.i (endsF s T k (p (k - 1)) (lastOf around p)) ∧ Ext m m' := by
  refine Rn.code h.coFrom ?_
  have g0 : (nowS s p k)[0]? = some (UInt8.ofNat (97 + p 0)) := by rw [nowS_get (by omega), if_pos (by omega)]
  have g1 : (nowS s p k)[k - 1]? = some (UInt8.ofNat (97 + p (k - 1))) := by rw [nowS_get (by omega), if_pos (by omega)]
  have l0 := lv_now (c := p 0) (by omega)
  have l1 := lv_now (c := p (k - 1)) (by omega)
  have ek : (k : Int) - 1 = ((k - 1 : Nat) : Int) := by omega
  have e := endsF_congr (s := nowS s p k) (s' := s) (T := T) (frm := k) (before := p (k - 1)) (last := lastOf around p) nowS_len (by rw [nowS_len]; exact hk) (fun j hj => nowS_rest hj)
  have hc : decide ((0 : Int) < k) = true := by rw [decide_eq_true_eq]; omega
  unfold spec_coFrom
  cases around with
  | false =>
    simp (decide := true) (disch := first | omega | rfl) only [↓SD, SP, opE, fget, binA, Nat.reduceEqDiff, reduceIte, again, stepV, wanted, resE, resL, resU, wr, rd, known, fillE, U.cells, hc, ek, g1, l1]
    refine Wo.callR (by simp (decide := true) (disch := first | omega | rfl) only [↓SD, SP, opE, fget, binA, Nat.reduceEqDiff, reduceIte, again, stepV, wanted, resE, resL, resU, wr, rd, known, fillE, U.cells]; try rfl) (coEnds_ok (T := T) (frm := k) (before := p (k - 1)) (last := -1) h.coEnds h.coAllows (by rw [nowS_len]; exact hk) (by rw [nowS_len]; exact hs) hT (by omega)) ?_
    rintro _ _ ⟨rfl, he⟩
    simp (decide := true) (disch := first | omega | rfl) only [↓SD, SP, opE, fget, binA, Nat.reduceEqDiff, reduceIte, again, stepV, wanted, resE, resL, resU, wr, rd, known, fillE, U.cells]
    exact ⟨_, rfl, by rw [← e]; rfl, he⟩
  | true =>
    have z : ((0 : Int).toNat) = 0 := rfl
    simp (decide := true) (disch := first | omega | rfl) only [↓SD, SP, opE, fget, binA, Nat.reduceEqDiff, reduceIte, again, stepV, wanted, resE, resL, resU, wr, rd, known, fillE, U.cells, hc, z, g0, l0, ek, g1, l1]
    refine Wo.callR (by simp (decide := true) (disch := first | omega | rfl) only [↓SD, SP, opE, fget, binA, Nat.reduceEqDiff, reduceIte, again, stepV, wanted, resE, resL, resU, wr, rd, known, fillE, U.cells]; try rfl) (coEnds_ok (T := T) (frm := k) (before := p (k - 1)) (last := p 0) h.coEnds h.coAllows (by rw [nowS_len]; exact hk) (by rw [nowS_len]; exact hs) hT (by omega)) ?_
    rintro _ _ ⟨rfl, he⟩
    simp (decide := true) (disch := first | omega | rfl) only [↓SD, SP, opE, fget, binA, Nat.reduceEqDiff, reduceIte, again, stepV, wanted, resE, resL, resU, wr, rd, known, fillE, U.cells]
    exact ⟨_, rfl, by rw [← e]; rfl, he⟩

theorem coWith_ok (hG : G 891 = some (.code spec_coWith)) {m : Mem} {s : List UInt8} {p : Nat → Nat} {i c : Nat} (hi : i < s.length) (hs : s.length ≤ 20) (hc : c < 5) :
    Rn G 891 [V.s (nowS s p i), V.i i, V.i c] m fun v m' => v = V.s (nowS s (put1 p i c) (i + 1)) ∧ m' = m := by
  refine Rn.code hG ?_
  have hl : (nowS s p i).length = s.length := nowS_len
  have hw := nowS_with (p := p) (c := c) hi
  unfold spec_coWith
  have e1 : ((c : Int) + 1).toNat = c + 1 := by omega
  have e2 : ((i : Int) + 1).toNat = i + 1 := by omega
  have hab : List.drop c (List.take (c + 1) [(97 : UInt8), 98, 99, 100, 101]) = [UInt8.ofNat (97 + c)] := by
    have : c = 0 ∨ c = 1 ∨ c = 2 ∨ c = 3 ∨ c = 4 := by omega
    rcases this with rfl | rfl | rfl | rfl | rfl <;> rfl
  have lt : (List.take i (nowS s p i)).length = i := by rw [List.length_take, hl]; omega
  have ld : (List.drop (i + 1) (nowS s p i)).length = s.length - (i + 1) := by rw [List.length_drop, hl]
  have tk : List.take s.length (nowS s p i) = nowS s p i := List.take_of_length_le (by rw [hl]; exact Nat.le_refl _)
  simp (decide := true) (disch := first | omega | rfl) only [↓SD, SP, opE, fget, binA, Nat.reduceEqDiff, reduceIte, again, stepV, wanted, resE, resL, resU, wr, rd, known, fillE, U.cells, bnd, hl, e1, e2, hab, lt, ld, List.length_append, tk]
  exact ⟨_, rfl, by rw [hw]⟩
end Go.AL
