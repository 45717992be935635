/-
  isFence and stGood by the few functions that they reach.
-/
import Derived.Test.YtaamjlckaakenaaAlColFence
namespace Go.AL
set_option linter.unusedSimpArgs false
set_option linter.unusedVariables false
open F
set_option linter.unusedSimpArgs false
set_option linter.unusedVariables false
variable {G : Env}

theorem isFenceK_ok (hw : G 597 = some (.code impl_within)) (h : ColF G) {m : Mem} {s : List UInt8} : Rn G 315 [V.s s] m fun v m' => v = V.b (goodB s) ∧ Ext m m' := by
  refine Rn.code h.isFence ?_
  unfold impl_IsFence
  simp (decide := true) (disch := first | omega | rfl) only [↓SD, SP, opE, fget, binA, Nat.reduceEqDiff, reduceIte, again, stepV, wanted, resE, resL, resU, wr, rd, known, fillE, U.cells]
  refine Wo.callR (by simp (decide := true) (disch := first | omega | rfl) only [↓SD, SP, opE, fget, binA, Nat.reduceEqDiff, reduceIte, again, stepV, wanted, resE, resL, resU, wr, rd, known, fillE, U.cells]; try rfl) (within_ok' hw) ?_
  rintro _ m ⟨rfl, rfl⟩
  simp (decide := true) (disch := first | omega | rfl) only [↓SD, SP, opE, fget, binA, Nat.reduceEqDiff, reduceIte, again, stepV, wanted, resE, resL, resU, wr, rd, known, fillE, U.cells]
  refine ⟨fun hb => ?_, fun hb => ?_⟩
  · have hb' := hb
    simp only [Bool.and_eq_true, decide_eq_true_eq] at hb'
    simp (decide := true) (disch := first | omega | rfl) only [↓SD, SP, opE, fget, binA, Nat.reduceEqDiff, reduceIte, again, stepV, wanted, resE, resL, resU, wr, rd, known, fillE, U.cells, hb]
    refine Wo.callR (by simp (decide := true) (disch := first | omega | rfl) only [↓SD, SP, opE, fget, binA, Nat.reduceEqDiff, reduceIte, again, stepV, wanted, resE, resL, resU, wr, rd, known, fillE, U.cells]; try rfl) (contains_ok h (m := _) (s := s) (b := m.length) (w := true) (c := .rest 1) (by simp) (by omega)) ?_
    rintro _ _ ⟨rfl, rfl⟩
    simp (decide := true) (disch := first | omega | rfl) only [↓SD, SP, opE, fget, binA, Nat.reduceEqDiff, reduceIte, again, stepV, wanted, resE, resL, resU, wr, rd, known, fillE, U.cells, hb]
    refine ⟨_, rfl, ?_, Ext.push _ _⟩
    unfold goodB
    rw [hb, Bool.not_not, Bool.true_and]
  · simp (decide := true) (disch := first | omega | rfl) only [↓SD, SP, opE, fget, binA, Nat.reduceEqDiff, reduceIte, again, stepV, wanted, resE, resL, resU, wr, rd, known, fillE, U.cells, hb]
    refine ⟨_, rfl, ?_, Ext.refl _⟩
    unfold goodB
    rw [hb]; rfl

theorem stGoodK_ok (hw : G 598 = some (.code spec_l1In)) (h : G 715 = some (.code spec_stGood)) {m : Mem} {s : List UInt8} : Rn G 715 [V.s s] m fun v m' => v = V.b (goodB s) ∧ m' = m := by
  refine Rn.code h ?_
  unfold spec_stGood
  simp (decide := true) (disch := first | omega | rfl) only [↓SD, SP, opE, fget, binA, Nat.reduceEqDiff, reduceIte, again, stepV, wanted, resE, resL, resU, wr, rd, known, fillE, U.cells]
  refine Wo.callR (by simp (decide := true) (disch := first | omega | rfl) only [↓SD, SP, opE, fget, binA, Nat.reduceEqDiff, reduceIte, again, stepV, wanted, resE, resL, resU, wr, rd, known, fillE, U.cells]; try rfl) (l1In_ok hw) ?_
  rintro _ m ⟨rfl, rfl⟩
  simp (decide := true) (disch := first | omega | rfl) only [↓SD, SP, opE, fget, binA, Nat.reduceEqDiff, reduceIte, again, stepV, wanted, resE, resL, resU, wr, rd, known, fillE, U.cells]
  refine ⟨fun hb => ?_, fun hb => ?_⟩
  · simp (decide := true) (disch := first | omega | rfl) only [↓SD, SP, opE, fget, binA, Nat.reduceEqDiff, reduceIte, again, stepV, wanted, resE, resL, resU, wr, rd, known, fillE, U.cells]
    refine ⟨_, rfl, ?_⟩
    have hb' : (decide (1 ≤ (s.length : Int)) && decide ((s.length : Int) ≤ 20)) = false := by rw [← Bool.not_not (_ && _), hb]; rfl
    unfold goodB
    rw [hb']; rfl
  · have hb' : (decide (1 ≤ (s.length : Int)) && decide ((s.length : Int) ≤ 20)) = true := by rw [← Bool.not_not (_ && _), hb]; rfl
    have hb2 := hb'
    simp only [Bool.and_eq_true, decide_eq_true_eq] at hb2
    simp (decide := true) (disch := first | omega | rfl) only [↓SD, SP, opE, fget, binA, Nat.reduceEqDiff, reduceIte, again, stepV, wanted, resE, resL, resU, wr, rd, known, fillE, U.cells]
    refine Wc.loopN (fun i f q => fget f 3 = V.i i ∧ fget f 0 = V.s s ∧ q = m ∧ (s.take i).all boardB = true) s.length (fun i f q hil hS => ?_) ⟨(by simp (decide := true) (disch := first | omega | rfl) only [↓SD, SP, opE, fget, binA, Nat.reduceEqDiff, reduceIte, again, stepV, wanted, resE, resL, resU, wr, rd, known, fillE, U.cells]; try rfl), (by simp (decide := true) (disch := first | omega | rfl) only [↓SD, SP, opE, fget, binA, Nat.reduceEqDiff, reduceIte, again, stepV, wanted, resE, resL, resU, wr, rd, known, fillE, U.cells]; try rfl), rfl, rfl⟩
    obtain ⟨h3, h0, rfl, ha⟩ := hS
    unfold spec_stGood_L0
    simp (decide := true) (disch := first | omega | rfl) only [↓SD, SP, opE, fget, binA, Nat.reduceEqDiff, reduceIte, again, stepV, wanted, resE, resL, resU, wr, rd, known, fillE, U.cells, h3, h0]
    refine ⟨fun hb => ?_, fun hb => ?_⟩
    · have hlt := of_decide_eq_true hb
      have hs : s[i]? = some s[i] := List.getElem?_eq_getElem (by omega)
      have e2 : (s.take (i + 1)).all boardB = boardB s[i] := by rw [List.take_add_one, hs, List.all_append, ha]; simp
      have e3 : boardB s[i] = false → s.all boardB = false := fun hh => by
        rw [← List.take_append_drop (i + 1) s, List.all_append, e2, hh]; rfl
      have hbd : boardB s[i] = (!((s[i].toNat : Int) != 46) || (!decide ((s[i].toNat : Int) < 97) && !decide ((101 : Int) < s[i].toNat))) := boardB_int
      cases g1 : ((s[i].toNat : Int) != 46) <;> cases g2 : decide ((s[i].toNat : Int) < 97) <;> cases g3 : decide ((101 : Int) < s[i].toNat) <;> rw [g1, g2, g3] at hbd <;> simp (decide := true) (disch := first | omega | rfl) only [↓SD, SP, opE, fget, binA, Nat.reduceEqDiff, reduceIte, again, stepV, wanted, resE, resL, resU, wr, rd, known, fillE, U.cells, h3, h0, hs, g1, g2, g3] <;>
        first
        | exact ⟨by omega, by simp, by rw [e2, hbd]; rfl⟩
        | (refine ⟨_, rfl, ?_⟩; unfold goodB; rw [e3 (by rw [hbd]; rfl), Bool.and_false])
    · have hlt := of_decide_eq_false hb
      have : i = s.length := by omega
      subst this
      rw [List.take_length] at ha
      simp (decide := true) (disch := first | omega | rfl) only [↓SD, SP, opE, fget, binA, Nat.reduceEqDiff, reduceIte, again, stepV, wanted, resE, resL, resU, wr, rd, known, fillE, U.cells]
      refine ⟨_, rfl, ?_⟩
      unfold goodB
      rw [hb', ha]; rfl

end Go.AL
