/-
  LeastCost on both sides.
-/
import Derived.Test.YtaamjlckaakenaaAlCostF
import Derived.Test.YtaamjlckaakenaaAlColLook
namespace Go.AL
set_option linter.unusedSimpArgs false
set_option linter.unusedVariables false
open F
set_option linter.unusedSimpArgs false
set_option linter.unusedVariables false
variable {G : Env}

theorem cnt_nn {T : Nat → Int} {n : Nat} {around : Bool} (hn : n ≤ 20) : 0 ≤ cntT T n around := by
  unfold cntT; split
  · exact (lookN_bound hn 5).1
  · exact (lineN_bound hn _).1
def lcV (n : Nat) (nn : Nat → Nat) (ff : Nat → Nat → Int) : V :=
  if costB n nn ff = true ∧ 0 ≤ totL (costT n (nn 0) ff) n false then .t [.a (.int .i64 (totL (costT n (nn 0) ff) n false)), .a (.bool true)] else .t [.a (.int .i64 0), .a (.bool false)]
theorem lcV_no {n : Nat} {nn : Nat → Nat} {ff : Nat → Nat → Int} (h : ¬ (costB n nn ff = true ∧ 0 ≤ totL (costT n (nn 0) ff) n false)) : .t [.a (.int .i64 0), .a (.bool false)] = lcV n nn ff := (if_neg h).symm
theorem lcV_yes {n : Nat} {nn : Nat → Nat} {ff : Nat → Nat → Int} (h1 : costB n nn ff = true) (h2 : 0 ≤ totL (costT n (nn 0) ff) n false) : .t [.a (.int .i64 (totL (costT n (nn 0) ff) n false)), .a (.bool true)] = lcV n nn ff := (if_pos ⟨h1, h2⟩).symm
theorem specLc_ok (hs : CstS G) (h566 : G 566 = some (.code spec_coCheap)) (hG : G 82 = some (.code spec_LeastCost)) {m : Mem} {lo b n : Nat} {c : Cap} {nn : Nat → Nat} {ff : Nat → Nat → Int} (hq : Cst lo m b n nn ff) (hn : n ≤ 1048576) (hnn : ∀ i, i < n → nn i ≤ 1048576) :
    Rn G 82 [V.a (.sl b 0 n c)] m fun v m' => v = lcV n nn ff ∧ Ext m m' := by
  refine Rn.code hG ?_
  unfold spec_LeastCost
  simp (decide := true) (disch := first | omega | rfl) only [↓SD, SP, opE, fget, binA, Nat.reduceEqDiff, reduceIte, again, stepV, wanted, resE, resL, resU, wr, rd, known, fillE, U.cells]
  refine Wo.callR (by simp (decide := true) (disch := first | omega | rfl) only [↓SD, SP, opE, fget, binA, Nat.reduceEqDiff, reduceIte, again, stepV, wanted, resE, resL, resU, wr, rd, known, fillE, U.cells]; try rfl) (coCosts_ok hs hq hn hnn) ?_
  rintro _ m ⟨rfl, rfl⟩
  cases hc : costB n nn ff with
  | false =>
    simp (decide := true) (disch := first | omega | rfl) only [↓SD, SP, opE, fget, binA, Nat.reduceEqDiff, reduceIte, again, stepV, wanted, resE, resL, resU, wr, rd, known, fillE, U.cells]
    exact ⟨_, rfl, lcV_no (by rw [hc]; simp), Ext.refl _⟩
  | true =>
    have hR := Rows.of hc
    simp (decide := true) (disch := first | omega | rfl) only [↓SD, SP, opE, fget, binA, Nat.reduceEqDiff, reduceIte, again, stepV, wanted, resE, resL, resU, wr, rd, known, fillE, U.cells]
    refine Wo.callR (by simp (decide := true) (disch := first | omega | rfl) only [↓SD, SP, opE, fget, binA, Nat.reduceEqDiff, reduceIte, again, stepV, wanted, resE, resL, resU, wr, rd, known, fillE, U.cells]; try rfl) (coCheap_ok h566 (o := 0) (k := n) (a := 5) (bef := -1) hR hq (by omega) (.inl ⟨rfl, rfl⟩)) ?_
    rintro _ m1 ⟨rfl, e1⟩
    rw [show bL (costT n (nn 0) ff) n (-1) n 5 = totL (costT n (nn 0) ff) n false from rfl]
    simp (decide := true) (disch := first | omega | rfl) only [↓SD, SP, opE, fget, binA, Nat.reduceEqDiff, reduceIte, again, stepV, wanted, resE, resL, resU, wr, rd, known, fillE, U.cells]
    refine ⟨fun hb => ?_, fun hb => ?_⟩
    · have hlt := of_decide_eq_true hb
      simp (decide := true) (disch := first | omega | rfl) only [↓SD, SP, opE, fget, binA, Nat.reduceEqDiff, reduceIte, again, stepV, wanted, resE, resL, resU, wr, rd, known, fillE, U.cells]
      exact ⟨_, rfl, lcV_no (fun h => by have := h.2; omega), e1⟩
    · have hge := of_decide_eq_false hb
      simp (decide := true) (disch := first | omega | rfl) only [↓SD, SP, opE, fget, binA, Nat.reduceEqDiff, reduceIte, again, stepV, wanted, resE, resL, resU, wr, rd, known, fillE, U.cells]
      refine Wo.callR (by simp (decide := true) (disch := first | omega | rfl) only [↓SD, SP, opE, fget, binA, Nat.reduceEqDiff, reduceIte, again, stepV, wanted, resE, resL, resU, wr, rd, known, fillE, U.cells]; try rfl) (coCheap_ok h566 (o := 0) (k := n) (a := 5) (bef := -1) hR (hq.ext e1) (by omega) (.inl ⟨rfl, rfl⟩)) ?_
      rintro _ m2 ⟨rfl, e2⟩
      simp (decide := true) (disch := first | omega | rfl) only [↓SD, SP, opE, fget, binA, Nat.reduceEqDiff, reduceIte, again, stepV, wanted, resE, resL, resU, wr, rd, known, fillE, U.cells]
      exact ⟨_, rfl, lcV_yes hc (by omega), e1.trans e2⟩

theorem implLc_ok (hi : ColI G) (hd : DkI G) (h567 : G 567 = some (.code impl_costed)) (hG : G 84 = some (.code impl_LeastCost)) {m : Mem} {lo b n : Nat} {c : Cap} {nn : Nat → Nat} {ff : Nat → Nat → Int} (hq : Cst lo m b n nn ff) (hn : n ≤ 1048576) (hnn : ∀ i, i < n → nn i ≤ 1048576) :
    Rn G 84 [V.a (.sl b 0 n c)] m fun v m' => v = lcV n nn ff ∧ Ext m m' := by
  refine Rn.code hG ?_
  unfold impl_LeastCost
  simp (decide := true) (disch := first | omega | rfl) only [↓SD, SP, opE, fget, binA, Nat.reduceEqDiff, reduceIte, again, stepV, wanted, resE, resL, resU, wr, rd, known, fillE, U.cells]
  refine Wo.callR (by simp (decide := true) (disch := first | omega | rfl) only [↓SD, SP, opE, fget, binA, Nat.reduceEqDiff, reduceIte, again, stepV, wanted, resE, resL, resU, wr, rd, known, fillE, U.cells]; try rfl) (costed_ok hi hd h567 hq hn hnn) ?_
  rintro v m1 ⟨hv, e1⟩
  cases hc : costB n nn ff with
  | false =>
    rw [hc, if_neg (by simp)] at hv
    subst hv
    simp (decide := true) (disch := first | omega | rfl) only [↓SD, SP, opE, fget, binA, Nat.reduceEqDiff, reduceIte, again, stepV, wanted, resE, resL, resU, wr, rd, known, fillE, U.cells]
    exact ⟨_, rfl, lcV_no (by rw [hc]; simp), e1⟩
  | true =>
    have hR := Rows.of hc
    rw [hc, if_pos rfl] at hv
    obtain ⟨bt, cc, rfl, qt⟩ := hv
    simp (decide := true) (disch := first | omega | rfl) only [↓SD, SP, opE, fget, binA, Nat.reduceEqDiff, reduceIte, again, stepV, wanted, resE, resL, resU, wr, rd, known, fillE, U.cells]
    refine Wo.callR (by simp (decide := true) (disch := first | omega | rfl) only [↓SD, SP, opE, fget, binA, Nat.reduceEqDiff, reduceIte, again, stepV, wanted, resE, resL, resU, wr, rd, known, fillE, U.cells]; try rfl) (look_ok (around := false) hi.look hi.fixed hi.clone hi.line qt (by have := hR.n1; omega) hR.n20 hR.costs.nn) ?_
    rintro _ m2 ⟨rfl, e2⟩
    obtain ⟨t1, t2⟩ := total (around := false) hR.costs hR.n1 hR.n20
    have hcn := cnt_nn (T := costT n (nn 0) ff) (around := false) hR.n20
    simp (decide := true) (disch := first | omega | rfl) only [↓SD, SP, opE, fget, binA, Nat.reduceEqDiff, reduceIte, again, stepV, wanted, resE, resL, resU, wr, rd, known, fillE, U.cells]
    refine ⟨fun hb => ?_, fun hb => ?_⟩
    · have h0 : cntT (costT n (nn 0) ff) n false = 0 := by simpa using hb
      simp (decide := true) (disch := first | omega | rfl) only [↓SD, SP, opE, fget, binA, Nat.reduceEqDiff, reduceIte, again, stepV, wanted, resE, resL, resU, wr, rd, known, fillE, U.cells]
      exact ⟨_, rfl, lcV_no (fun h => by have := t1.2 h.2; omega), e1.trans e2⟩
    · have hne : cntT (costT n (nn 0) ff) n false ≠ 0 := by simpa using hb
      have hpos : 0 < cntT (costT n (nn 0) ff) n false := by omega
      simp (decide := true) (disch := first | omega | rfl) only [↓SD, SP, opE, fget, binA, Nat.reduceEqDiff, reduceIte, again, stepV, wanted, resE, resL, resU, wr, rd, known, fillE, U.cells]
      exact ⟨_, rfl, by rw [t2 hpos]; exact lcV_yes hc (t1.1 hpos), e1.trans e2⟩

end Go.AL
