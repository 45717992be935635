/-
  Fences filled in: the table of a fence, and what the reference counts.
-/
import Derived.Test.YtglmoocankodaaaAlColFence
import Derived.Test.YtglmoocankodaaaAlColFp
namespace Go.AL
set_option linter.unusedSimpArgs false
set_option linter.unusedVariables false
open F
set_option linter.unusedSimpArgs false
set_option linter.unusedVariables false
variable {G : Env}

/-- The laws of a fence, a number and a mark: they read alike but for the two functions. -/
def lawStr3 (x y : Nat) : Fn := ⟨[.t 6],
 (.seq (.ops [⟨some 6,.mov (.k (.u (.a (.bool false)))),none⟩])
 (.seq (.seq (.ops [⟨some 11,.mov (.s 0),none⟩,⟨some 12,.lens (.s 11),none⟩,⟨some 13,.bin .gtr (.s 12) (.k (.u (.a (.int .i64 1048576)))),none⟩])
 (.cond (.s 13)
  (.seq (.ops [⟨some 6,.mov (.k (.u (.a (.bool true)))),none⟩])
  (.ret))
  (.skip)))
 (.seq (.ops [⟨some 15,.mov (.s 0),none⟩,⟨some 16,.mov (.s 1),none⟩,⟨some 17,.mov (.s 2),none⟩,⟨some 18,.call x [(.s 15),(.s 16),(.s 17)],none⟩,⟨some 14,.mov (.s 18),none⟩,⟨some 19,.ext (.s 14) 0,none⟩,⟨some 20,.ext (.s 14) 1,none⟩,⟨some 7,.mov (.s 19),none⟩,⟨some 8,.mov (.s 20),none⟩])
 (.seq (.ops [⟨some 22,.mov (.s 0),none⟩,⟨some 23,.mov (.s 1),none⟩,⟨some 24,.mov (.s 2),none⟩,⟨some 25,.call y [(.s 22),(.s 23),(.s 24)],none⟩,⟨some 21,.mov (.s 25),none⟩,⟨some 26,.ext (.s 21) 0,none⟩,⟨some 27,.ext (.s 21) 1,none⟩,⟨some 9,.mov (.s 26),none⟩,⟨some 10,.mov (.s 27),none⟩])
 (.seq (.seq (.ops [⟨some 28,.mov (.s 9),none⟩,⟨some 29,.mov (.s 7),none⟩,⟨some 30,.bin .neq (.s 28) (.s 29),none⟩,⟨some 31,.mov (.s 30),none⟩,⟨some 32,.mov (.s 10),some (31,false)⟩,⟨some 33,.mov (.s 8),some (31,false)⟩,⟨some 34,.beq true (.s 32) (.s 33),some (31,false)⟩,⟨some 35,.pick (.s 31) (.k (.u (.a (.bool true)))) (.s 34),none⟩])
 (.cond (.s 35)
  (.seq (.ops [⟨some 6,.mov (.k (.u (.a (.bool false)))),none⟩])
  (.ret))
  (.skip)))
 (.seq (.ops [⟨some 6,.mov (.k (.u (.a (.bool true)))),none⟩])
 (.ret)))))))⟩

theorem law3 {num x y : Nat} (hG : G num = some (.code (lawStr3 x y))) {s : List UInt8} {t : Int} {around : Bool} {val : V}
    (hv : (∃ a b, val = .t [.a (.int .i64 a), .a (.bool b)]) ∨ (∃ a b, val = .t [.a (.str a), .a (.bool b)]))
    (hx : s.length ≤ 1048576 → ∀ m, Rn G x [V.s s, V.i t, V.b around] m fun v m' => v = val) (hy : s.length ≤ 1048576 → ∀ m, Rn G y [V.s s, V.i t, V.b around] m fun v m' => v = val) :
    ∃ k m', run G k num [V.s s, V.i t, V.b around] [] = some (V.b true, m') := by
  have key : Rn G num [V.s s, V.i t, V.b around] [] fun v _ => v = V.b true := by
    refine Rn.code hG ?_
    unfold lawStr3
    simp (decide := true) (disch := first | omega | rfl) only [↓SD, SP, opE, fget, binA, Nat.reduceEqDiff, reduceIte, again, stepV, wanted, resE, resL, resU, wr, rd, known, fillE, U.cells]
    refine ⟨fun hb => ?_, fun hb => ?_⟩
    · simp (decide := true) (disch := first | omega | rfl) only [↓SD, SP, opE, fget, binA, Nat.reduceEqDiff, reduceIte, again, stepV, wanted, resE, resL, resU, wr, rd, known, fillE, U.cells]
    · have hl : s.length ≤ 1048576 := by have := of_decide_eq_false hb; omega
      simp (decide := true) (disch := first | omega | rfl) only [↓SD, SP, opE, fget, binA, Nat.reduceEqDiff, reduceIte, again, stepV, wanted, resE, resL, resU, wr, rd, known, fillE, U.cells]
      refine Wo.callR (by simp (decide := true) (disch := first | omega | rfl) only [↓SD, SP, opE, fget, binA, Nat.reduceEqDiff, reduceIte, again, stepV, wanted, resE, resL, resU, wr, rd, known, fillE, U.cells]; try rfl) (hx hl _) ?_
      rintro _ m1 rfl
      rcases hv with ⟨a, b, rfl⟩ | ⟨a, b, rfl⟩
      · simp (decide := true) (disch := first | omega | rfl) only [↓SD, SP, opE, fget, binA, Nat.reduceEqDiff, reduceIte, again, stepV, wanted, resE, resL, resU, wr, rd, known, fillE, U.cells]
        refine Wo.callR (by simp (decide := true) (disch := first | omega | rfl) only [↓SD, SP, opE, fget, binA, Nat.reduceEqDiff, reduceIte, again, stepV, wanted, resE, resL, resU, wr, rd, known, fillE, U.cells]; try rfl) (hy hl _) ?_
        rintro _ m2 rfl
        simp (decide := true) (disch := first | omega | rfl) only [↓SD, SP, opE, fget, binA, Nat.reduceEqDiff, reduceIte, again, stepV, wanted, resE, resL, resU, wr, rd, known, fillE, U.cells, bne_self_eq_false]
      · simp (decide := true) (disch := first | omega | rfl) only [↓SD, SP, opE, fget, binA, Nat.reduceEqDiff, reduceIte, again, stepV, wanted, resE, resL, resU, wr, rd, known, fillE, U.cells]
        refine Wo.callR (by simp (decide := true) (disch := first | omega | rfl) only [↓SD, SP, opE, fget, binA, Nat.reduceEqDiff, reduceIte, again, stepV, wanted, resE, resL, resU, wr, rd, known, fillE, U.cells]; try rfl) (hy hl _) ?_
        rintro _ m2 rfl
        simp (decide := true) (disch := first | omega | rfl) only [↓SD, SP, opE, fget, binA, Nat.reduceEqDiff, reduceIte, again, stepV, wanted, resE, resL, resU, wr, rd, known, fillE, U.cells, bne_self_eq_false]
  obtain ⟨k, v, m', h1, rfl⟩ := key
  exact ⟨k, m', h1⟩

def stoodB (s : List UInt8) (around : Bool) : Bool := goodB s && ringB s.length around
def filledB (s : List UInt8) (t : Int) (around : Bool) : Bool := stoodB s around && tintsB t

theorem isStood_ok (hi : ColI G) (hf : ColF G) (hG : G 584 = some (.code impl_isStood)) {m : Mem} {s : List UInt8} {around : Bool} : Rn G 584 [V.s s, V.b around] m fun v m' => v = V.b (stoodB s around) ∧ Ext m m' := by
  refine Rn.code hG ?_
  unfold impl_isStood stoodB
  simp (decide := true) (disch := first | omega | rfl) only [↓SD, SP, opE, fget, binA, Nat.reduceEqDiff, reduceIte, again, stepV, wanted, resE, resL, resU, wr, rd, known, fillE, U.cells]
  refine Wo.callR (by simp (decide := true) (disch := first | omega | rfl) only [↓SD, SP, opE, fget, binA, Nat.reduceEqDiff, reduceIte, again, stepV, wanted, resE, resL, resU, wr, rd, known, fillE, U.cells]; try rfl) (isFence_ok hi hf) ?_
  rintro _ m1 ⟨rfl, he⟩
  simp (decide := true) (disch := first | omega | rfl) only [↓SD, SP, opE, fget, binA, Nat.reduceEqDiff, reduceIte, again, stepV, wanted, resE, resL, resU, wr, rd, known, fillE, U.cells]
  cases goodB s with
  | false =>
    simp (decide := true) (disch := first | omega | rfl) only [↓SD, SP, opE, fget, binA, Nat.reduceEqDiff, reduceIte, again, stepV, wanted, resE, resL, resU, wr, rd, known, fillE, U.cells]
    exact ⟨_, rfl, rfl, he⟩
  | true =>
    simp (decide := true) (disch := first | omega | rfl) only [↓SD, SP, opE, fget, binA, Nat.reduceEqDiff, reduceIte, again, stepV, wanted, resE, resL, resU, wr, rd, known, fillE, U.cells]
    refine Wo.callR (by simp (decide := true) (disch := first | omega | rfl) only [↓SD, SP, opE, fget, binA, Nat.reduceEqDiff, reduceIte, again, stepV, wanted, resE, resL, resU, wr, rd, known, fillE, U.cells]; try rfl) (isRing_ok hi) ?_
    rintro _ m1 ⟨rfl, rfl⟩
    simp (decide := true) (disch := first | omega | rfl) only [↓SD, SP, opE, fget, binA, Nat.reduceEqDiff, reduceIte, again, stepV, wanted, resE, resL, resU, wr, rd, known, fillE, U.cells]
    exact ⟨_, rfl, rfl, he⟩
theorem isFilled_ok (hi : ColI G) (hf : ColF G) (h584 : G 584 = some (.code impl_isStood)) (hG : G 560 = some (.code impl_isFilled)) {m : Mem} {s : List UInt8} {t : Int} {around : Bool} : Rn G 560 [V.s s, V.i t, V.b around] m fun v m' => v = V.b (filledB s t around) ∧ Ext m m' := by
  refine Rn.code hG ?_
  unfold impl_isFilled filledB
  simp (decide := true) (disch := first | omega | rfl) only [↓SD, SP, opE, fget, binA, Nat.reduceEqDiff, reduceIte, again, stepV, wanted, resE, resL, resU, wr, rd, known, fillE, U.cells]
  refine Wo.callR (by simp (decide := true) (disch := first | omega | rfl) only [↓SD, SP, opE, fget, binA, Nat.reduceEqDiff, reduceIte, again, stepV, wanted, resE, resL, resU, wr, rd, known, fillE, U.cells]; try rfl) (isStood_ok hi hf h584) ?_
  rintro _ m1 ⟨rfl, he⟩
  simp (decide := true) (disch := first | omega | rfl) only [↓SD, SP, opE, fget, binA, Nat.reduceEqDiff, reduceIte, again, stepV, wanted, resE, resL, resU, wr, rd, known, fillE, U.cells]
  cases stoodB s around with
  | false =>
    simp (decide := true) (disch := first | omega | rfl) only [↓SD, SP, opE, fget, binA, Nat.reduceEqDiff, reduceIte, again, stepV, wanted, resE, resL, resU, wr, rd, known, fillE, U.cells]
    exact ⟨_, rfl, rfl, he⟩
  | true =>
    simp (decide := true) (disch := first | omega | rfl) only [↓SD, SP, opE, fget, binA, Nat.reduceEqDiff, reduceIte, again, stepV, wanted, resE, resL, resU, wr, rd, known, fillE, U.cells]
    refine Wo.callR (by simp (decide := true) (disch := first | omega | rfl) only [↓SD, SP, opE, fget, binA, Nat.reduceEqDiff, reduceIte, again, stepV, wanted, resE, resL, resU, wr, rd, known, fillE, U.cells]; try rfl) (isTints_ok hi) ?_
    rintro _ m1 ⟨rfl, rfl⟩
    simp (decide := true) (disch := first | omega | rfl) only [↓SD, SP, opE, fget, binA, Nat.reduceEqDiff, reduceIte, again, stepV, wanted, resE, resL, resU, wr, rd, known, fillE, U.cells]
    exact ⟨_, rfl, rfl, he⟩
theorem coFence_ok (hs : ColS0 G) (h715 : G 715 = some (.code spec_stGood)) (hG : G 557 = some (.code spec_coFence)) {m : Mem} {s : List UInt8} {around : Bool} : Rn G 557 [V.s s, V.b around] m fun v m' => v = V.b (stoodB s around) ∧ m' = m := by
  refine Rn.code hG ?_
  unfold spec_coFence stoodB
  simp (decide := true) (disch := first | omega | rfl) only [↓SD, SP, opE, fget, binA, Nat.reduceEqDiff, reduceIte, again, stepV, wanted, resE, resL, resU, wr, rd, known, fillE, U.cells]
  refine Wo.callR (by simp (decide := true) (disch := first | omega | rfl) only [↓SD, SP, opE, fget, binA, Nat.reduceEqDiff, reduceIte, again, stepV, wanted, resE, resL, resU, wr, rd, known, fillE, U.cells]; try rfl) (stGood_ok hs h715) ?_
  rintro _ m1 ⟨rfl, rfl⟩
  simp (decide := true) (disch := first | omega | rfl) only [↓SD, SP, opE, fget, binA, Nat.reduceEqDiff, reduceIte, again, stepV, wanted, resE, resL, resU, wr, rd, known, fillE, U.cells]
  cases goodB s with
  | false =>
    simp (decide := true) (disch := first | omega | rfl) only [↓SD, SP, opE, fget, binA, Nat.reduceEqDiff, reduceIte, again, stepV, wanted, resE, resL, resU, wr, rd, known, fillE, U.cells]
    exact ⟨_, rfl, rfl⟩
  | true =>
    simp (decide := true) (disch := first | omega | rfl) only [↓SD, SP, opE, fget, binA, Nat.reduceEqDiff, reduceIte, again, stepV, wanted, resE, resL, resU, wr, rd, known, fillE, U.cells]
    refine Wo.callR (by simp (decide := true) (disch := first | omega | rfl) only [↓SD, SP, opE, fget, binA, Nat.reduceEqDiff, reduceIte, again, stepV, wanted, resE, resL, resU, wr, rd, known, fillE, U.cells]; try rfl) (coSize_ok hs) ?_
    rintro _ m1 ⟨rfl, rfl⟩
    simp (decide := true) (disch := first | omega | rfl) only [↓SD, SP, opE, fget, binA, Nat.reduceEqDiff, reduceIte, again, stepV, wanted, resE, resL, resU, wr, rd, known, fillE, U.cells]
    exact ⟨_, rfl, rfl⟩

/-- What 'filled' and its neighbours let in. -/
theorem filledB_spec {s : List UInt8} {t : Int} {around : Bool} (h : filledB s t around = true) : (1 ≤ s.length ∧ s.length ≤ 20) ∧ (∀ x ∈ s, boardB x = true) ∧ (1 ≤ t ∧ t ≤ 5) ∧ (around = true → 3 ≤ s.length) := by
  unfold filledB stoodB at h
  simp only [Bool.and_eq_true] at h
  obtain ⟨⟨hg, hr⟩, ht⟩ := h
  obtain ⟨h1, h2⟩ := goodB_spec hg
  have := askB_spec (n := s.length) (t := t) (around := around) (by unfold askB; rw [hr, ht]; rfl)
  exact ⟨h1, h2, this.2.1, fun e => by have := this.2.2 e; omega⟩

/-- The table of a fence. -/
def fillT (T : Nat → Int) (s : List UInt8) : Nat → Nat → Int
  | 0 => T
  | i + 1 => if ((s.getD i 0).toNat : Int) ≠ 46 then fixT (fillT T s i) i (IntKind.u8.wrap (((s.getD i 0).toNat : Int) - 97)) else fillT T s i
theorem fillT_nonneg {T : Nat → Int} (hT : ∀ k, 0 ≤ T k) (s : List UInt8) : ∀ i k, 0 ≤ fillT T s i k
  | 0 => hT
  | i + 1 => by
    unfold fillT; split
    · exact fixT_nonneg (fillT_nonneg hT s i)
    · exact fillT_nonneg hT s i
theorem fillT_zero {T : Nat → Int} (hz : Zero T) (s : List UInt8) : ∀ i, Zero (fillT T s i)
  | 0 => hz
  | i + 1 => by
    unfold fillT; split
    · exact fix_zero (fillT_zero hz s i) _ _
    · exact fillT_zero hz s i
theorem allow_at {s : List UInt8} {i : Nat} (hi : i < s.length) {t : Int} : allow s i t = true ↔ ((s.getD i 0).toNat : Int) = 46 ∨ IntKind.u8.wrap (((s.getD i 0).toNat : Int) - 97) = t := by
  unfold allow
  have hs : s[i]? = some s[i] := List.getElem?_eq_getElem hi
  have hd : s.getD i 0 = s[i] := by simp [List.getD, hs]
  rw [hs, hd]
  simp
theorem fillT_may {T : Nat → Int} {s : List UInt8} : ∀ k, k ≤ s.length → ∀ i j, j < 5 → (may (fillT T s k) i j ↔ may T i j ∧ (i < k → allow s i j = true))
  | 0, _, i, j, hj => ⟨fun h => ⟨h, fun h => by omega⟩, fun h => h.1⟩
  | k + 1, hk, i, j, hj => by
    have ih := fillT_may (T := T) (s := s) k (by omega) i j hj
    have ha := allow_at (s := s) (i := k) (by omega) (t := j)
    unfold fillT
    by_cases h46 : ((s.getD k 0).toNat : Int) = 46
    · rw [if_neg (by simpa using h46), ih]
      constructor
      · rintro ⟨h1, h2⟩
        refine ⟨h1, fun h => ?_⟩
        by_cases hik : i = k
        · subst hik; exact ha.2 (.inl h46)
        · exact h2 (by omega)
      · exact fun h => ⟨h.1, fun h' => h.2 (by omega)⟩
    · rw [if_pos h46]
      by_cases hik : i = k
      · subst hik
        have e := fixT_own (T := fillT T s i) (b := i) (col := IntKind.u8.wrap (((s.getD i 0).toNat : Int) - 97)) hj
        unfold may
        rw [e]
        by_cases hp : (j : Int) ≠ IntKind.u8.wrap (((s.getD i 0).toNat : Int) - 97)
        · rw [if_pos hp]
          exact ⟨fun h => absurd h (by decide), fun h => by
            rcases ha.1 (h.2 (by omega)) with h' | h'
            · exact absurd h' h46
            · exact absurd h'.symm hp⟩
        · rw [if_neg hp]
          exact ⟨fun h => ⟨(ih.1 h).1, fun _ => ha.2 (.inr (by simpa using Eq.symm (Classical.not_not.1 hp)))⟩, fun h => ih.2 ⟨h.1, fun h' => by omega⟩⟩
      · have e := fixT_ge (T := fillT T s k) (b := k) (col := IntKind.u8.wrap (((s.getD k 0).toNat : Int) - 97)) hj hik
        unfold may at ih ⊢
        rw [e, ih]
        exact ⟨fun h => ⟨h.1, fun h' => h.2 (by omega)⟩, fun h => ⟨h.1, fun h' => h.2 (by omega)⟩⟩

theorem fill_tells {s : List UInt8} {t : Nat} : Tells (fillT (freeT t) s s.length) s t := by
  intro i hi b hb
  rw [fillT_may s.length (Nat.le_refl _) i b hb]
  have hf : may (freeT t) i b ↔ b < t := by
    unfold may freeT
    split
    · exact ⟨fun h => absurd h (by decide), fun h => by omega⟩
    · exact ⟨fun _ => by omega, fun _ => by decide⟩
  rw [hf]
  exact ⟨fun h => ⟨h.1, h.2 hi⟩, fun h => ⟨h.1, fun _ => h.2⟩⟩

theorem filled_ok (hi : ColI G) (hG : G 564 = some (.code impl_filled)) {m : Mem} {s : List UInt8} {t : Nat} (h1 : 1 ≤ s.length) (hl : s.length ≤ 20) :
    Rn G 564 [V.s s, V.i t] m fun v m' => (∃ b c, v = V.a (.sl b 0 s.length c) ∧ m'[b]? = some (.cells true (ints (s.length * 5) (fillT (freeT t) s s.length))) ∧ m.length ≤ b) ∧ Ext m m' := by
  refine Rn.code hG ?_
  unfold impl_filled
  simp (decide := true) (disch := first | omega | rfl) only [↓SD, SP, opE, fget, binA, Nat.reduceEqDiff, reduceIte, again, stepV, wanted, resE, resL, resU, wr, rd, known, fillE, U.cells]
  refine Wo.callR (by simp (decide := true) (disch := first | omega | rfl) only [↓SD, SP, opE, fget, binA, Nat.reduceEqDiff, reduceIte, again, stepV, wanted, resE, resL, resU, wr, rd, known, fillE, U.cells]; try rfl) (free_ints hi hl) ?_
  rintro _ m1 ⟨⟨b, c, rfl, hb, hlo⟩, he⟩
  simp (decide := true) (disch := first | omega | rfl) only [↓SD, SP, opE, fget, binA, Nat.reduceEqDiff, reduceIte, again, stepV, wanted, resE, resL, resU, wr, rd, known, fillE, U.cells]
  refine Wc.loopN (fun i f q => fget f 13 = V.i i ∧ fget f 12 = V.i s.length ∧ fget f 0 = V.s s ∧ Ext m q ∧ ∃ b c, fget f 5 = V.a (.sl b 0 s.length c) ∧ q[b]? = some (.cells true (ints (s.length * 5) (fillT (freeT t) s i))) ∧ m.length ≤ b) s.length (fun i f q hil hS => ?_)
    ⟨(by simp (decide := true) (disch := first | omega | rfl) only [↓SD, SP, opE, fget, binA, Nat.reduceEqDiff, reduceIte, again, stepV, wanted, resE, resL, resU, wr, rd, known, fillE, U.cells]; try rfl), (by simp (decide := true) (disch := first | omega | rfl) only [↓SD, SP, opE, fget, binA, Nat.reduceEqDiff, reduceIte, again, stepV, wanted, resE, resL, resU, wr, rd, known, fillE, U.cells]; try rfl), (by simp (decide := true) (disch := first | omega | rfl) only [↓SD, SP, opE, fget, binA, Nat.reduceEqDiff, reduceIte, again, stepV, wanted, resE, resL, resU, wr, rd, known, fillE, U.cells]; try rfl), he, b, c, (by simp (decide := true) (disch := first | omega | rfl) only [↓SD, SP, opE, fget, binA, Nat.reduceEqDiff, reduceIte, again, stepV, wanted, resE, resL, resU, wr, rd, known, fillE, U.cells]; try rfl), hb, hlo⟩
  obtain ⟨h13, h12, h0, heq, b', c', h5, hq, hlo'⟩ := hS
  unfold impl_filled_L0
  simp (decide := true) (disch := first | omega | rfl) only [↓SD, SP, opE, fget, binA, Nat.reduceEqDiff, reduceIte, again, stepV, wanted, resE, resL, resU, wr, rd, known, fillE, U.cells, h13, h12]
  refine ⟨fun hb => ?_, fun hb => ?_⟩
  · have hlt := of_decide_eq_true hb
    have hsi : s[i]? = some s[i] := List.getElem?_eq_getElem (by omega)
    have hd : s.getD i 0 = s[i] := by simp [List.getD, hsi]
    simp (decide := true) (disch := first | omega | rfl) only [↓SD, SP, opE, fget, binA, Nat.reduceEqDiff, reduceIte, again, stepV, wanted, resE, resL, resU, wr, rd, known, fillE, U.cells, h13, h0, hsi]
    refine ⟨fun hb => ?_, fun hb => ?_⟩
    · have h46 : ((s[i].toNat : Nat) : Int) ≠ 46 := bne_iff_ne.1 hb
      have hw := u8_in (x := (s[i].toNat : Int) - 97)
      simp (decide := true) (disch := first | omega | rfl) only [↓SD, SP, opE, fget, binA, Nat.reduceEqDiff, reduceIte, again, stepV, wanted, resE, resL, resU, wr, rd, known, fillE, U.cells, h13, h0, hsi, h5]
      refine Wo.callR (by simp (decide := true) (disch := first | omega | rfl) only [↓SD, SP, opE, fget, binA, Nat.reduceEqDiff, reduceIte, again, stepV, wanted, resE, resL, resU, wr, rd, known, fillE, U.cells]; try rfl) (fixed_ok hi.fixed hi.clone hq (by omega) (by omega)) ?_
      rintro _ m2 ⟨b2, rfl, hb2, he2, hlo2⟩
      simp (decide := true) (disch := first | omega | rfl) only [↓SD, SP, opE, fget, binA, Nat.reduceEqDiff, reduceIte, again, stepV, wanted, resE, resL, resU, wr, rd, known, fillE, U.cells, h13]
      have hle := heq.1
      refine ⟨by omega, by simp, h12, h0, heq.trans he2, b2, _, rfl, ?_, by omega⟩
      have e : fillT (freeT t) s (i + 1) = fixT (fillT (freeT t) s i) i (IntKind.u8.wrap ((s[i].toNat : Int) - 97)) := by
        show (if _ then _ else _) = _
        rw [hd, if_pos h46]
      rw [e]; exact hb2
    · have h46 : ((s[i].toNat : Nat) : Int) = 46 := bne_eq_false_iff_eq.1 hb
      simp (decide := true) (disch := first | omega | rfl) only [↓SD, SP, opE, fget, binA, Nat.reduceEqDiff, reduceIte, again, stepV, wanted, resE, resL, resU, wr, rd, known, fillE, U.cells, h13]
      refine ⟨by omega, by simp, h12, h0, heq, b', c', h5, ?_, hlo'⟩
      have e : fillT (freeT t) s (i + 1) = fillT (freeT t) s i := by
        show (if _ then _ else _) = _
        rw [hd, if_neg (by simpa using h46)]
      rw [e]; exact hq
  · have hlt := of_decide_eq_false hb
    have : i = s.length := by omega
    subst this
    simp (decide := true) (disch := first | omega | rfl) only [↓SD, SP, opE, fget, binA, Nat.reduceEqDiff, reduceIte, again, stepV, wanted, resE, resL, resU, wr, rd, known, fillE, U.cells, h5]
    exact ⟨_, rfl, ⟨b', c', rfl, hq, hlo'⟩, heq⟩

/-- Some board of a fence has no colour that is let in. -/
theorem sumW_none {p : Nat → Bool} {f : Nat → Int} : ∀ {n : Nat}, (∀ k, k < n → p k = false ∨ f k = 0) → sumW p f n = 0
  | 0, _ => rfl
  | n + 1, h => by
    unfold sumW
    rw [sumW_none fun k hk => h k (by omega)]
    rcases h n (by omega) with h' | h' <;> simp [h']
theorem waysF_dead {s : List UInt8} {T j : Nat} {last : Int} (hj : j < s.length) (hd : ∀ c : Nat, c < T → allow s j c = false) : ∀ k, k ≤ s.length → s.length ≤ j + k → ∀ a, waysF s T last k a = 0
  | 0, _, h, a => by omega
  | k + 1, hk, h, a => by
    show sumW _ _ T = 0
    apply sumW_none
    intro c hc
    by_cases hjk : j = s.length - 1 - k
    · exact .inl (by unfold waysP; rw [← hjk, hd c hc, Bool.and_false])
    · exact .inr (waysF_dead hj hd k (by omega) (by omega) c)
theorem endsF_dead {s : List UInt8} {T j frm : Nat} {before last : Int} (hj : j < s.length) (hf : frm ≤ j) (hd : ∀ c : Nat, c < T → allow s j c = false) : endsF s T frm before last = 0 := by
  unfold endsF
  rw [if_neg (by omega)]
  apply sumW_none
  intro c hc
  by_cases hjf : j = frm
  · exact .inl (by unfold finP; rw [← hjf, hd c hc, Bool.and_false])
  · exact .inr (waysF_dead hj hd _ (by omega) (by omega) c)
theorem fromR_dead {s : List UInt8} {T j : Nat} (hj : j < s.length) (hd : ∀ c : Nat, c < T → allow s j c = false) : ∀ t, t ≤ T → fromR s T t = 0
  | 0, _ => rfl
  | t + 1, ht => by
    unfold fromR
    rw [fromR_dead hj hd t (by omega)]
    by_cases h0 : j = 0
    · subst h0; rw [if_neg (by rw [hd t (by omega)]; decide)]
    · split
      · rw [endsF_dead hj (by omega) hd]; rfl
      · rfl
theorem fromF_dead {s : List UInt8} {T j : Nat} {around : Bool} (hj : j < s.length) (hd : ∀ c : Nat, c < T → allow s j c = false) : fromF s T around = 0 := by
  unfold fromF; split
  · exact fromR_dead hj hd T (Nat.le_refl _)
  · exact endsF_dead hj (Nat.zero_le _) hd

def insideC (t : Int) (x : UInt8) : Bool := !(((x.toNat : Int) != 46) && decide (t ≤ IntKind.u8.wrap ((x.toNat : Int) - 97)))
def insideB (s : List UInt8) (t : Int) : Bool := s.all (insideC t)
theorem inside_dead {s : List UInt8} {t : Nat} {around : Bool} (h : insideB s t = false) : fromF s t around = 0 := by
  unfold insideB at h
  obtain ⟨x, hx, hxf⟩ := List.all_eq_false.1 h
  obtain ⟨j, hj, rfl⟩ := List.getElem_of_mem hx
  refine fromF_dead hj fun c hc => ?_
  have hs : s[j]? = some s[j] := List.getElem?_eq_getElem hj
  unfold insideC at hxf
  simp at hxf
  unfold allow
  rw [hs]
  simp
  exact ⟨by omega, by omega⟩

theorem coInside_ok (hG : G 894 = some (.code spec_coInside)) {m : Mem} {s : List UInt8} {t : Int} (hl : s.length ≤ 20) (hasc : ∀ ch ∈ s, ch.toNat < 128) :
    Rn G 894 [V.s s, V.i t] m fun v m' => v = V.b (insideB s t) ∧ Ext m m' := by
  refine Rn.code hG ?_
  unfold spec_coInside
  simp (decide := true) (disch := first | omega | rfl) only [↓SD, SP, opE, fget, binA, Nat.reduceEqDiff, reduceIte, again, stepV, wanted, resE, resL, resU, wr, rd, known, fillE, U.cells]
  refine Wc.loopN (fun i f q => fget f 7 = V.a (.ptr m.length 0) ∧ fget f 0 = V.s s ∧ fget f 1 = V.i t ∧ Ext m q ∧ q[m.length]? = some (.iter s i) ∧ (s.take i).all (insideC t) = true) s.length (fun i f q hil hS => ?_)
    ⟨(by simp (decide := true) (disch := first | omega | rfl) only [↓SD, SP, opE, fget, binA, Nat.reduceEqDiff, reduceIte, again, stepV, wanted, resE, resL, resU, wr, rd, known, fillE, U.cells]; try rfl), (by simp (decide := true) (disch := first | omega | rfl) only [↓SD, SP, opE, fget, binA, Nat.reduceEqDiff, reduceIte, again, stepV, wanted, resE, resL, resU, wr, rd, known, fillE, U.cells]; try rfl), (by simp (decide := true) (disch := first | omega | rfl) only [↓SD, SP, opE, fget, binA, Nat.reduceEqDiff, reduceIte, again, stepV, wanted, resE, resL, resU, wr, rd, known, fillE, U.cells]; try rfl), Ext.push _ _, by simp, rfl⟩
  obtain ⟨h7, h0, h1, he, hq, ha⟩ := hS
  unfold spec_coInside_L0
  by_cases hi' : i < s.length
  · have hsi : s[i]? = some s[i] := List.getElem?_eq_getElem hi'
    have hasc' := hasc s[i] (List.getElem_mem hi')
    have e2 : (s.take (i + 1)).all (insideC t) = insideC t s[i] := by rw [List.take_add_one, hsi, List.all_append, ha]; simp
    have hw := u8_in (x := (s[i].toNat : Int) - 97)
    have hin : insideC t s[i] = !(((s[i].toNat : Int) != 46) && decide (t ≤ IntKind.u8.wrap ((s[i].toNat : Int) - 97))) := rfl
    have heq : Ext m (q.set m.length (.iter s (i + 1))) := he.set (Nat.le_refl _)
    have lq := lt_of_get hq
    cases g1 : ((s[i].toNat : Int) != 46) <;> cases g2 : decide (t ≤ IntKind.u8.wrap ((s[i].toNat : Int) - 97)) <;> rw [g1, g2] at hin <;> simp (decide := true) (disch := first | omega | rfl) only [↓SD, SP, opE, fget, binA, Nat.reduceEqDiff, reduceIte, again, stepV, wanted, resE, resL, resU, wr, rd, known, fillE, U.cells, h7, h0, h1, hq, hsi, g1, g2] <;>
      first
      | exact ⟨hi', heq, by rw [e2, hin]; rfl⟩
      | (refine ⟨_, rfl, ?_, heq⟩
         unfold insideB
         rw [← List.take_append_drop (i + 1) s, List.all_append, e2, hin]; rfl)
  · have : i = s.length := by omega
    subst this
    have hsi : s[s.length]? = none := List.getElem?_eq_none (Nat.le_refl _)
    rw [List.take_length] at ha
    simp (decide := true) (disch := first | omega | rfl) only [↓SD, SP, opE, fget, binA, Nat.reduceEqDiff, reduceIte, again, stepV, wanted, resE, resL, resU, wr, rd, known, fillE, U.cells, h7, hq, hsi]
    exact ⟨_, rfl, by unfold insideB; rw [ha], he⟩

theorem coFills_ok (hs : ColS G) (h894 : G 894 = some (.code spec_coInside)) (hG : G 563 = some (.code spec_coFills)) {m : Mem} {s : List UInt8} {t : Nat} {around : Bool} (h1 : 1 ≤ s.length) (hl : s.length ≤ 20) (ht : t ≤ 5) (hasc : ∀ ch ∈ s, ch.toNat < 128) :
    Rn G 563 [V.s s, V.i t, V.b around] m fun v m' => v = V.i (fromF s t around) ∧ Ext m m' := by
  refine Rn.code hG ?_
  unfold spec_coFills
  simp (decide := true) (disch := first | omega | rfl) only [↓SD, SP, opE, fget, binA, Nat.reduceEqDiff, reduceIte, again, stepV, wanted, resE, resL, resU, wr, rd, known, fillE, U.cells]
  refine Wo.callR (by simp (decide := true) (disch := first | omega | rfl) only [↓SD, SP, opE, fget, binA, Nat.reduceEqDiff, reduceIte, again, stepV, wanted, resE, resL, resU, wr, rd, known, fillE, U.cells]; try rfl) (coInside_ok h894 hl hasc) ?_
  rintro _ m1 ⟨rfl, he⟩
  simp (decide := true) (disch := first | omega | rfl) only [↓SD, SP, opE, fget, binA, Nat.reduceEqDiff, reduceIte, again, stepV, wanted, resE, resL, resU, wr, rd, known, fillE, U.cells]
  cases hin : insideB s t with
  | false =>
    simp (decide := true) (disch := first | omega | rfl) only [↓SD, SP, opE, fget, binA, Nat.reduceEqDiff, reduceIte, again, stepV, wanted, resE, resL, resU, wr, rd, known, fillE, U.cells]
    exact ⟨_, rfl, by rw [inside_dead hin], he⟩
  | true =>
    simp (decide := true) (disch := first | omega | rfl) only [↓SD, SP, opE, fget, binA, Nat.reduceEqDiff, reduceIte, again, stepV, wanted, resE, resL, resU, wr, rd, known, fillE, U.cells]
    refine Wo.callR (by simp (decide := true) (disch := first | omega | rfl) only [↓SD, SP, opE, fget, binA, Nat.reduceEqDiff, reduceIte, again, stepV, wanted, resE, resL, resU, wr, rd, known, fillE, U.cells]; try rfl) (coFrom0_ok hs h1 hl ht) ?_
    rintro _ m2 ⟨rfl, he2⟩
    simp (decide := true) (disch := first | omega | rfl) only [↓SD, SP, opE, fget, binA, Nat.reduceEqDiff, reduceIte, again, stepV, wanted, resE, resL, resU, wr, rd, known, fillE, U.cells]
    exact ⟨_, rfl, rfl, he.trans he2⟩
end Go.AL
