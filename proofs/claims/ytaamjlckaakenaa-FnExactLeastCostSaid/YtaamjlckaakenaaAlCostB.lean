/-
  Costs of colours: what is a table of costs, on both sides.
-/
import Derived.Test.YtaamjlckaakenaaAlCostA
import Derived.Test.YtaamjlckaakenaaAlColFree
import Derived.Test.YtaamjlckaakenaaAlColGuard
import Derived.Test.YtaamjlckaakenaaAlColCost2
namespace Go.AL
set_option linter.unusedSimpArgs false
set_option linter.unusedVariables false
open F
set_option linter.unusedSimpArgs false
set_option linter.unusedVariables false
variable {G : Env}

def costRowB (nn : Nat → Nat) (ff : Nat → Nat → Int) (i : Nat) : Bool := tintsB (nn i) && (decide (nn i = nn 0) && allB 0 100 (nn i) (ff i))
def costB (n : Nat) (nn : Nat → Nat) (ff : Nat → Nat → Int) : Bool := inB 1 20 n && (List.range n).all (costRowB nn ff)
theorem cost_bad {n i : Nat} {nn : Nat → Nat} {ff : Nat → Nat → Int} (hi : i < n) (h : costRowB nn ff i = false) : costB n nn ff = false := by
  unfold costB
  rw [List.all_eq_false.2 ⟨i, List.mem_range.2 hi, by rw [h]; decide⟩, Bool.and_false]
theorem cost_good {n : Nat} {nn : Nat → Nat} {ff : Nat → Nat → Int} (h0 : inB 1 20 n = true) (h : ∀ j, j < n → costRowB nn ff j = true) : costB n nn ff = true := by
  unfold costB
  rw [h0, List.all_eq_true.2 fun j hj => h j (List.mem_range.1 hj)]; rfl

structure CstS (G : Env) : Prop where
  coCosts : G 565 = some (.code spec_coCosts)
  l1In : G 598 = some (.code spec_l1In)
  coTints : G 558 = some (.code spec_coTints)
  l1All : G 628 = some (.code spec_l1All)

theorem coTintsK_ok (hl : G 598 = some (.code spec_l1In)) (h : G 558 = some (.code spec_coTints)) {m : Mem} {n : Int} : Rn G 558 [V.i n] m fun v m' => v = V.b (tintsB n) ∧ m' = m := by
  refine Rn.code h ?_
  unfold spec_coTints
  simp (decide := true) (disch := first | omega | rfl) only [↓SD, SP, opE, fget, binA, Nat.reduceEqDiff, reduceIte, again, stepV, wanted, resE, resL, resU, wr, rd, known, fillE, U.cells]
  refine Wo.callR (by simp (decide := true) (disch := first | omega | rfl) only [↓SD, SP, opE, fget, binA, Nat.reduceEqDiff, reduceIte, again, stepV, wanted, resE, resL, resU, wr, rd, known, fillE, U.cells]; try rfl) (l1In_ok hl) ?_
  rintro _ _ ⟨rfl, rfl⟩
  simp (decide := true) (disch := first | omega | rfl) only [↓SD, SP, opE, fget, binA, Nat.reduceEqDiff, reduceIte, again, stepV, wanted, resE, resL, resU, wr, rd, known, fillE, U.cells]
  exact ⟨_, rfl, rfl⟩

theorem coCosts_ok (h : CstS G) {m : Mem} {lo b n : Nat} {c : Cap} {nn : Nat → Nat} {ff : Nat → Nat → Int} (hq : Cst lo m b n nn ff) (hn : n ≤ 1048576) (hnn : ∀ i, i < n → nn i ≤ 1048576) :
    Rn G 565 [V.a (.sl b 0 n c)] m fun v m' => v = V.b (costB n nn ff) ∧ m' = m := by
  refine Rn.code h.coCosts ?_
  unfold spec_coCosts
  simp (decide := true) (disch := first | omega | rfl) only [↓SD, SP, opE, fget, binA, Nat.reduceEqDiff, reduceIte, again, stepV, wanted, resE, resL, resU, wr, rd, known, fillE, U.cells]
  refine Wo.callR (by simp (decide := true) (disch := first | omega | rfl) only [↓SD, SP, opE, fget, binA, Nat.reduceEqDiff, reduceIte, again, stepV, wanted, resE, resL, resU, wr, rd, known, fillE, U.cells]; try rfl) (l1In_ok h.l1In) ?_
  rintro _ m ⟨rfl, rfl⟩
  have e : (decide (1 ≤ (n : Int)) && decide ((n : Int) ≤ 20)) = inB 1 20 n := rfl
  rw [e]
  cases hin : inB 1 20 n with
  | false =>
    simp (decide := true) (disch := first | omega | rfl) only [↓SD, SP, opE, fget, binA, Nat.reduceEqDiff, reduceIte, again, stepV, wanted, resE, resL, resU, wr, rd, known, fillE, U.cells]
    exact ⟨_, rfl, by unfold costB; rw [hin]; rfl⟩
  | true =>
    have hin' := hin
    unfold inB at hin'
    simp only [Bool.and_eq_true, decide_eq_true_eq] at hin'
    obtain ⟨_, g, hb0, hr⟩ := hq
    simp (decide := true) (disch := first | omega | rfl) only [↓SD, SP, opE, fget, binA, Nat.reduceEqDiff, reduceIte, again, stepV, wanted, resE, resL, resU, wr, rd, known, fillE, U.cells]
    refine Wc.loopN (fun i f' q => fget f' 11 = V.i i ∧ fget f' 10 = V.i n ∧ fget f' 9 = V.a (.sl b 0 n c) ∧ fget f' 0 = V.a (.sl b 0 n c) ∧ q = m ∧ ∀ j, j < i → costRowB nn ff j = true) n (fun i f' q hil hS => ?_) ⟨(by simp (decide := true) (disch := first | omega | rfl) only [↓SD, SP, opE, fget, binA, Nat.reduceEqDiff, reduceIte, again, stepV, wanted, resE, resL, resU, wr, rd, known, fillE, U.cells]; try rfl), (by simp (decide := true) (disch := first | omega | rfl) only [↓SD, SP, opE, fget, binA, Nat.reduceEqDiff, reduceIte, again, stepV, wanted, resE, resL, resU, wr, rd, known, fillE, U.cells]; try rfl), (by simp (decide := true) (disch := first | omega | rfl) only [↓SD, SP, opE, fget, binA, Nat.reduceEqDiff, reduceIte, again, stepV, wanted, resE, resL, resU, wr, rd, known, fillE, U.cells]; try rfl), (by simp (decide := true) (disch := first | omega | rfl) only [↓SD, SP, opE, fget, binA, Nat.reduceEqDiff, reduceIte, again, stepV, wanted, resE, resL, resU, wr, rd, known, fillE, U.cells]; try rfl), rfl, fun j hj => by omega⟩
    obtain ⟨h11, h10, h9, h0, rfl, ha⟩ := hS
    unfold spec_coCosts_L0
    simp (decide := true) (disch := first | omega | rfl) only [↓SD, SP, opE, fget, binA, Nat.reduceEqDiff, reduceIte, again, stepV, wanted, resE, resL, resU, wr, rd, known, fillE, U.cells, h11, h10]
    refine ⟨fun hb => ?_, fun hb => ?_⟩
    · have hlt := of_decide_eq_true hb
      have hc1 := rowsL_cell (n := n) (g := g) (j := i) (by omega)
      have hc0 : List.take 1 (List.drop (Int.toNat 0) (rowsL n g)) = [g 0] := rowsL_cell (n := n) (g := g) (j := 0) (by omega)
      have z0 : (Int.toNat 0) = 0 := rfl
      have hlen : ∀ g, (rowsL n g).length = n := fun g => rowsL_len
      obtain ⟨xi, ei, _, pi⟩ := hr i (by omega)
      obtain ⟨x0, e0, _, p0⟩ := hr 0 (by omega)
      simp (decide := true) (disch := first | omega | rfl) only [↓SD, SP, opE, fget, binA, Nat.reduceEqDiff, reduceIte, again, stepV, wanted, resE, resL, resU, wr, rd, known, fillE, U.cells, h11, h9, h0, hb0, hc1, hc0, hlen, ei, e0]
      refine Wo.callR (by simp (decide := true) (disch := first | omega | rfl) only [↓SD, SP, opE, fget, binA, Nat.reduceEqDiff, reduceIte, again, stepV, wanted, resE, resL, resU, wr, rd, known, fillE, U.cells]; try rfl) (coTintsK_ok h.l1In h.coTints) ?_
      rintro _ q ⟨rfl, rfl⟩
      have bad : costRowB nn ff i = false → costB n nn ff = false := cost_bad (by omega)
      cases ht : tintsB (nn i : Nat) with
      | false =>
        simp (decide := true) (disch := first | omega | rfl) only [↓SD, SP, opE, fget, binA, Nat.reduceEqDiff, reduceIte, again, stepV, wanted, resE, resL, resU, wr, rd, known, fillE, U.cells, h11, h9, h0, hb0, hc1, hc0, hlen, ei, e0]
        exact ⟨_, rfl, by rw [bad (by unfold costRowB; rw [ht]; rfl)]⟩
      | true =>
        by_cases hl : nn i = nn 0
        · have hd : ((nn i : Int) != (nn 0 : Int)) = false := by rw [hl]; exact bne_self_eq_false ..
          simp (decide := true) (disch := first | omega | rfl) only [↓SD, SP, opE, fget, binA, Nat.reduceEqDiff, reduceIte, again, stepV, wanted, resE, resL, resU, wr, rd, known, fillE, U.cells, h11, h9, h0, hb0, hc1, hc0, hlen, ei, e0, hd]
          refine Wo.callR (by simp (decide := true) (disch := first | omega | rfl) only [↓SD, SP, opE, fget, binA, Nat.reduceEqDiff, reduceIte, again, stepV, wanted, resE, resL, resU, wr, rd, known, fillE, U.cells, h11, h9, h0, hb0, hc1, hc0, hlen, ei, e0, hd]; try rfl) (l1All_ok h.l1In h.l1All pi (hnn i (by omega))) ?_
          rintro _ q ⟨rfl, rfl⟩
          cases hall : allB 0 100 (nn i) (ff i) with
          | false =>
            simp (decide := true) (disch := first | omega | rfl) only [↓SD, SP, opE, fget, binA, Nat.reduceEqDiff, reduceIte, again, stepV, wanted, resE, resL, resU, wr, rd, known, fillE, U.cells]
            exact ⟨_, rfl, by rw [bad (by unfold costRowB; rw [hall]; simp)]⟩
          | true =>
            simp (decide := true) (disch := first | omega | rfl) only [↓SD, SP, opE, fget, binA, Nat.reduceEqDiff, reduceIte, again, stepV, wanted, resE, resL, resU, wr, rd, known, fillE, U.cells, h11, h10, h9, h0]
            refine ⟨by omega, by simp, fun j hj => ?_⟩
            by_cases hji : j = i
            · rw [hji]; unfold costRowB; rw [ht, hall, hl]; simp
            · exact ha j (by omega)
        · have hd : ((nn i : Int) != (nn 0 : Int)) = true := by rw [bne_iff_ne]; omega
          simp (decide := true) (disch := first | omega | rfl) only [↓SD, SP, opE, fget, binA, Nat.reduceEqDiff, reduceIte, again, stepV, wanted, resE, resL, resU, wr, rd, known, fillE, U.cells, h11, h9, h0, hb0, hc1, hc0, hlen, ei, e0, hd]
          exact ⟨_, rfl, by rw [bad (by unfold costRowB; rw [decide_eq_false hl]; simp)]⟩
    · have hlt := of_decide_eq_false hb
      have : i = n := by omega
      subst this
      simp (decide := true) (disch := first | omega | rfl) only [↓SD, SP, opE, fget, binA, Nat.reduceEqDiff, reduceIte, again, stepV, wanted, resE, resL, resU, wr, rd, known, fillE, U.cells]
      exact ⟨_, rfl, by rw [cost_good hin ha]⟩
end Go.AL
