/-
  Land on both sides; desks.
-/
import Derived.Test.YtaamjlckaakenaaAlDeskB
namespace Go.AL
set_option linter.unusedSimpArgs false
set_option linter.unusedVariables false
open F
set_option linter.unusedSimpArgs false
set_option linter.unusedVariables false
variable {G : Env}

set_option maxHeartbeats 1000000 in
theorem fiGood_ok (hl1 : G 598 = some (.code spec_l1In)) (h957 : G 957 = some (.code spec_fiLetter)) (hG : G 783 = some (.code spec_fiGood)) {m : Mem} {b n : Nat} {w : Bool} {c : Cap} {f : Nat → List UInt8} (hq : m[b]? = some (.cells w (strsL n f))) (hn : n ≤ 1048576) (hf : ∀ i, (f i).length ≤ 9223372036854775807) :
    Rn G 783 [V.a (.sl b 0 n c)] m fun v m' => v = V.b (landB n f) ∧ m' = m := by
  refine Rn.code hG ?_
  unfold spec_fiGood
  have z : ((0 : Int).toNat) = 0 := rfl
  simp (decide := true) (disch := first | omega | rfl) only [↓SD, SP, opE, fget, binA, Nat.reduceEqDiff, reduceIte, again, stepV, wanted, resE, resL, resU, wr, rd, known, fillE, U.cells]
  refine Wo.callR (by simp (decide := true) (disch := first | omega | rfl) only [↓SD, SP, opE, fget, binA, Nat.reduceEqDiff, reduceIte, again, stepV, wanted, resE, resL, resU, wr, rd, known, fillE, U.cells]; try rfl) (l1In_ok hl1) ?_
  rintro _ m ⟨rfl, rfl⟩
  have e1 : (decide ((1 : Int) ≤ n) && decide ((n : Int) ≤ 12)) = inB 1 12 n := rfl
  rw [e1]
  cases hb1 : inB 1 12 (n : Int) with
  | false =>
    simp (decide := true) (disch := first | omega | rfl) only [↓SD, SP, opE, fget, binA, Nat.reduceEqDiff, reduceIte, again, stepV, wanted, resE, resL, resU, wr, rd, known, fillE, U.cells]
    exact ⟨_, rfl, by unfold landB; rw [hb1]; rfl⟩
  | true =>
    have hn1 : 1 ≤ n ∧ n ≤ 12 := by unfold inB at hb1; simp at hb1; omega
    have hcell0 : List.take 1 (strsL n f) = [A.str (f 0)] := strsL_cell (n := n) (f := f) (j := 0) (by omega)
    have hlen : (strsL n f).length = n := strsL_len
    have hf0 := hf 0
    simp (decide := true) (disch := first | omega | rfl) only [↓SD, SP, opE, fget, binA, Nat.reduceEqDiff, reduceIte, again, stepV, wanted, resE, resL, resU, wr, rd, known, fillE, U.cells, z, hq, hcell0, hlen]
    refine Wo.callR (by simp (decide := true) (disch := first | omega | rfl) only [↓SD, SP, opE, fget, binA, Nat.reduceEqDiff, reduceIte, again, stepV, wanted, resE, resL, resU, wr, rd, known, fillE, U.cells]; try rfl) (l1In_ok hl1) ?_
    rintro _ m ⟨rfl, rfl⟩
    have e2 : (decide ((1 : Int) ≤ (f 0).length) && decide (((f 0).length : Int) ≤ 12)) = inB 1 12 (f 0).length := rfl
    rw [e2]
    cases hb2 : inB 1 12 ((f 0).length : Int) with
    | false =>
      simp (decide := true) (disch := first | omega | rfl) only [↓SD, SP, opE, fget, binA, Nat.reduceEqDiff, reduceIte, again, stepV, wanted, resE, resL, resU, wr, rd, known, fillE, U.cells]
      exact ⟨_, rfl, by unfold landB; rw [hb2, Bool.false_and, Bool.and_false]⟩
    | true =>
      have hn2 : 1 ≤ (f 0).length ∧ (f 0).length ≤ 12 := by unfold inB at hb2; simp at hb2; omega
      simp (decide := true) (disch := first | omega | rfl) only [↓SD, SP, opE, fget, binA, Nat.reduceEqDiff, reduceIte, again, stepV, wanted, resE, resL, resU, wr, rd, known, fillE, U.cells]
      refine Wc.loopN (fun i f' q => fget f' 20 = V.i i ∧ fget f' 19 = V.i n ∧ fget f' 18 = V.a (.sl b 0 n c) ∧ fget f' 0 = V.a (.sl b 0 n c) ∧ q = m ∧ ∀ j, j < i → lineB f j = true) n (fun i f' q hil hS => ?_) ⟨(by simp (decide := true) (disch := first | omega | rfl) only [↓SD, SP, opE, fget, binA, Nat.reduceEqDiff, reduceIte, again, stepV, wanted, resE, resL, resU, wr, rd, known, fillE, U.cells]; try rfl), (by simp (decide := true) (disch := first | omega | rfl) only [↓SD, SP, opE, fget, binA, Nat.reduceEqDiff, reduceIte, again, stepV, wanted, resE, resL, resU, wr, rd, known, fillE, U.cells]; try rfl), (by simp (decide := true) (disch := first | omega | rfl) only [↓SD, SP, opE, fget, binA, Nat.reduceEqDiff, reduceIte, again, stepV, wanted, resE, resL, resU, wr, rd, known, fillE, U.cells]; try rfl), (by simp (decide := true) (disch := first | omega | rfl) only [↓SD, SP, opE, fget, binA, Nat.reduceEqDiff, reduceIte, again, stepV, wanted, resE, resL, resU, wr, rd, known, fillE, U.cells]; try rfl), rfl, fun j hj => by omega⟩
      obtain ⟨h20, h19, h18, h0, rfl, ha⟩ := hS
      unfold spec_fiGood_L0
      simp (decide := true) (disch := first | omega | rfl) only [↓SD, SP, opE, fget, binA, Nat.reduceEqDiff, reduceIte, again, stepV, wanted, resE, resL, resU, wr, rd, known, fillE, U.cells, h20, h19]
      refine ⟨fun hb => ?_, fun hb => ?_⟩
      · have hlt := of_decide_eq_true hb
        have hcell := strsL_cell (n := n) (f := f) (j := i) (by omega)
        have hfi := hf i
        have hline : lineB f i = (decide ((f i).length = (f 0).length) && (f i).all boardB) := rfl
        simp (decide := true) (disch := first | omega | rfl) only [↓SD, SP, opE, fget, binA, Nat.reduceEqDiff, reduceIte, again, stepV, wanted, resE, resL, resU, wr, rd, known, fillE, U.cells, h20, h18, h0, z, hq, hcell, hcell0, hlen]
        by_cases hl : (f i).length = (f 0).length
        · have hd : (((f i).length : Int) != ((f 0).length : Int)) = false := by rw [bne_eq_false_iff_eq]; omega
          simp (decide := true) (disch := first | omega | rfl) only [↓SD, SP, opE, fget, binA, Nat.reduceEqDiff, reduceIte, again, stepV, wanted, resE, resL, resU, wr, rd, known, fillE, U.cells, hd]
          refine (fiGood_L1 (l := f i) h957 (by simp (decide := true) (disch := first | omega | rfl) only [↓SD, SP, opE, fget, binA, Nat.reduceEqDiff, reduceIte, again, stepV, wanted, resE, resL, resU, wr, rd, known, fillE, U.cells]) (by simp (decide := true) (disch := first | omega | rfl) only [↓SD, SP, opE, fget, binA, Nat.reduceEqDiff, reduceIte, again, stepV, wanted, resE, resL, resU, wr, rd, known, fillE, U.cells]) (by omega)).mono ?_
          rintro e f2 q2 ⟨rfl, ⟨hno, rfl, h2⟩ | ⟨hyes, rfl, hk⟩⟩
          · simp (decide := true) (disch := first | omega | rfl) only [↓SD, SP, opE, fget, binA, Nat.reduceEqDiff, reduceIte, again, stepV, wanted, resE, resL, resU, wr, rd, known, fillE, U.cells, h2]
            exact ⟨_, rfl, by rw [land_bad (n := n) (i := i) (by omega) (by rw [hline, hno, Bool.and_false])]⟩
          · have j20 := hk 20 (by decide); have j19 := hk 19 (by decide); have j18 := hk 18 (by decide); have j0 := hk 0 (by decide)
            simp (decide := true) only [↓SD, SP, opE, fget, binA, Nat.reduceEqDiff, reduceIte, again, stepV, wanted, resE, resL, resU, wr, rd, known, fillE, U.cells, h20, h19, h18, h0] at j20 j19 j18 j0
            simp (decide := true) (disch := first | omega | rfl) only [↓SD, SP, opE, fget, binA, Nat.reduceEqDiff, reduceIte, again, stepV, wanted, resE, resL, resU, wr, rd, known, fillE, U.cells, j20]
            refine ⟨by omega, by simp, j19, j18, j0, fun j hj => ?_⟩
            by_cases hji : j = i
            · rw [hji, hline, hyes, decide_eq_true hl]; rfl
            · exact ha j (by omega)
        · have hd : (((f i).length : Int) != ((f 0).length : Int)) = true := by rw [bne_iff_ne]; omega
          simp (decide := true) (disch := first | omega | rfl) only [↓SD, SP, opE, fget, binA, Nat.reduceEqDiff, reduceIte, again, stepV, wanted, resE, resL, resU, wr, rd, known, fillE, U.cells, hd]
          exact ⟨_, rfl, by rw [land_bad (n := n) (i := i) (by omega) (by rw [hline, decide_eq_false hl, Bool.false_and])]⟩
      · have hlt := of_decide_eq_false hb
        have : i = n := by omega
        subst this
        simp (decide := true) (disch := first | omega | rfl) only [↓SD, SP, opE, fget, binA, Nat.reduceEqDiff, reduceIte, again, stepV, wanted, resE, resL, resU, wr, rd, known, fillE, U.cells]
        refine ⟨_, rfl, ?_⟩
        unfold landB
        rw [hb1, hb2, List.all_eq_true.2 fun j hj => ha j (List.mem_range.1 hj)]; rfl

set_option maxHeartbeats 1000000 in
theorem isLand_ok (h597 : G 597 = some (.code impl_within)) (h315 : ∀ {m : Mem} {s : List UInt8}, Rn G 315 [V.s s] m fun v m' => v = V.b (goodB s) ∧ Ext m m') (hG : G 388 = some (.code impl_IsLand)) {m : Mem} {b n : Nat} {w : Bool} {c : Cap} {f : Nat → List UInt8} (hq : m[b]? = some (.cells w (strsL n f))) (hn : n ≤ 1048576) (hf : ∀ i, (f i).length ≤ 9223372036854775807) :
    Rn G 388 [V.a (.sl b 0 n c)] m fun v m' => v = V.b (landB n f) ∧ Ext m m' := by
  refine Rn.code hG ?_
  unfold impl_IsLand
  have z : ((0 : Int).toNat) = 0 := rfl
  simp (decide := true) (disch := first | omega | rfl) only [↓SD, SP, opE, fget, binA, Nat.reduceEqDiff, reduceIte, again, stepV, wanted, resE, resL, resU, wr, rd, known, fillE, U.cells]
  refine Wo.callR (by simp (decide := true) (disch := first | omega | rfl) only [↓SD, SP, opE, fget, binA, Nat.reduceEqDiff, reduceIte, again, stepV, wanted, resE, resL, resU, wr, rd, known, fillE, U.cells]; try rfl) (within0_ok h597) ?_
  rintro _ m ⟨rfl, rfl⟩
  cases hb1 : inB 1 12 (n : Int) with
  | false =>
    simp (decide := true) (disch := first | omega | rfl) only [↓SD, SP, opE, fget, binA, Nat.reduceEqDiff, reduceIte, again, stepV, wanted, resE, resL, resU, wr, rd, known, fillE, U.cells]
    exact ⟨_, rfl, by unfold landB; rw [hb1]; rfl, Ext.refl _⟩
  | true =>
    have hn1 : 1 ≤ n ∧ n ≤ 12 := by unfold inB at hb1; simp at hb1; omega
    have hcell0 : List.take 1 (strsL n f) = [A.str (f 0)] := strsL_cell (n := n) (f := f) (j := 0) (by omega)
    have hlen : (strsL n f).length = n := strsL_len
    have hf0 := hf 0
    simp (decide := true) (disch := first | omega | rfl) only [↓SD, SP, opE, fget, binA, Nat.reduceEqDiff, reduceIte, again, stepV, wanted, resE, resL, resU, wr, rd, known, fillE, U.cells]
    refine Wc.loopN (fun i f' q => fget f' 11 = V.i i ∧ fget f' 10 = V.i n ∧ fget f' 9 = V.a (.sl b 0 n c) ∧ fget f' 0 = V.a (.sl b 0 n c) ∧ Ext m q ∧ (0 < i → inB 1 12 (f 0).length = true) ∧ ∀ j, j < i → lineB f j = true) n (fun i f' q hil hS => ?_) ⟨(by simp (decide := true) (disch := first | omega | rfl) only [↓SD, SP, opE, fget, binA, Nat.reduceEqDiff, reduceIte, again, stepV, wanted, resE, resL, resU, wr, rd, known, fillE, U.cells]; try rfl), (by simp (decide := true) (disch := first | omega | rfl) only [↓SD, SP, opE, fget, binA, Nat.reduceEqDiff, reduceIte, again, stepV, wanted, resE, resL, resU, wr, rd, known, fillE, U.cells]; try rfl), (by simp (decide := true) (disch := first | omega | rfl) only [↓SD, SP, opE, fget, binA, Nat.reduceEqDiff, reduceIte, again, stepV, wanted, resE, resL, resU, wr, rd, known, fillE, U.cells]; try rfl), (by simp (decide := true) (disch := first | omega | rfl) only [↓SD, SP, opE, fget, binA, Nat.reduceEqDiff, reduceIte, again, stepV, wanted, resE, resL, resU, wr, rd, known, fillE, U.cells]; try rfl), Ext.refl _, fun h => by omega, fun j hj => by omega⟩
    obtain ⟨h11, h10, h9, h0, he, h12, ha⟩ := hS
    have hq' := he.get hq
    unfold impl_IsLand_L0
    simp (decide := true) (disch := first | omega | rfl) only [↓SD, SP, opE, fget, binA, Nat.reduceEqDiff, reduceIte, again, stepV, wanted, resE, resL, resU, wr, rd, known, fillE, U.cells, h11, h10]
    refine ⟨fun hb => ?_, fun hb => ?_⟩
    · have hlt := of_decide_eq_true hb
      have hcell := strsL_cell (n := n) (f := f) (j := i) (by omega)
      have hfi := hf i
      have hline : lineB f i = (decide ((f i).length = (f 0).length) && (f i).all boardB) := rfl
      simp (decide := true) (disch := first | omega | rfl) only [↓SD, SP, opE, fget, binA, Nat.reduceEqDiff, reduceIte, again, stepV, wanted, resE, resL, resU, wr, rd, known, fillE, U.cells, h11, h9, hq', hcell, hlen]
      refine Wo.callR (by simp (decide := true) (disch := first | omega | rfl) only [↓SD, SP, opE, fget, binA, Nat.reduceEqDiff, reduceIte, again, stepV, wanted, resE, resL, resU, wr, rd, known, fillE, U.cells]; try rfl) (within0_ok h597) ?_
      rintro _ q ⟨rfl, rfl⟩
      cases hb2 : inB 1 12 ((f i).length : Int) with
      | false =>
        simp (decide := true) (disch := first | omega | rfl) only [↓SD, SP, opE, fget, binA, Nat.reduceEqDiff, reduceIte, again, stepV, wanted, resE, resL, resU, wr, rd, known, fillE, U.cells]
        refine ⟨_, rfl, ?_, he⟩
        have hlf : landB n f = false := by
          by_cases hl : (f i).length = (f 0).length
          · unfold landB; rw [← hl, hb2, Bool.false_and, Bool.and_false]
          · exact land_bad (n := n) (i := i) (by omega) (by rw [hline, decide_eq_false hl, Bool.false_and])
        rw [hlf]
      | true =>
        simp (decide := true) (disch := first | omega | rfl) only [↓SD, SP, opE, fget, binA, Nat.reduceEqDiff, reduceIte, again, stepV, wanted, resE, resL, resU, wr, rd, known, fillE, U.cells, h0, z, hq', hcell0, hlen]
        by_cases hl : (f i).length = (f 0).length
        · have hd : (((f i).length : Int) != ((f 0).length : Int)) = false := by rw [bne_eq_false_iff_eq]; omega
          have hin : 1 ≤ (f i).length ∧ (f i).length ≤ 12 := by unfold inB at hb2; simp at hb2; omega
          have hgood : goodB (f i) = (f i).all boardB := by
            unfold goodB
            rw [decide_eq_true (show (1 : Int) ≤ (f i).length by omega), decide_eq_true (show ((f i).length : Int) ≤ 20 by omega)]; rfl
          simp (decide := true) (disch := first | omega | rfl) only [↓SD, SP, opE, fget, binA, Nat.reduceEqDiff, reduceIte, again, stepV, wanted, resE, resL, resU, wr, rd, known, fillE, U.cells, hd]
          refine Wo.callR (by simp (decide := true) (disch := first | omega | rfl) only [↓SD, SP, opE, fget, binA, Nat.reduceEqDiff, reduceIte, again, stepV, wanted, resE, resL, resU, wr, rd, known, fillE, U.cells]; try rfl) h315 ?_
          rintro _ q2 ⟨rfl, he2⟩
          rw [hgood]
          cases hyes : (f i).all boardB with
          | false =>
            simp (decide := true) (disch := first | omega | rfl) only [↓SD, SP, opE, fget, binA, Nat.reduceEqDiff, reduceIte, again, stepV, wanted, resE, resL, resU, wr, rd, known, fillE, U.cells]
            exact ⟨_, rfl, by rw [land_bad (n := n) (i := i) (by omega) (by rw [hline, hyes, Bool.and_false])], he.trans he2⟩
          | true =>
            simp (decide := true) (disch := first | omega | rfl) only [↓SD, SP, opE, fget, binA, Nat.reduceEqDiff, reduceIte, again, stepV, wanted, resE, resL, resU, wr, rd, known, fillE, U.cells, h11]
            refine ⟨by omega, by simp, h10, h9, h0, he.trans he2, fun _ => by rw [← hl]; exact hb2, fun j hj => ?_⟩
            by_cases hji : j = i
            · rw [hji, hline, hyes, decide_eq_true hl]; rfl
            · exact ha j (by omega)
        · have hd : (((f i).length : Int) != ((f 0).length : Int)) = true := by rw [bne_iff_ne]; omega
          simp (decide := true) (disch := first | omega | rfl) only [↓SD, SP, opE, fget, binA, Nat.reduceEqDiff, reduceIte, again, stepV, wanted, resE, resL, resU, wr, rd, known, fillE, U.cells, hd]
          exact ⟨_, rfl, by rw [land_bad (n := n) (i := i) (by omega) (by rw [hline, decide_eq_false hl, Bool.false_and])], he⟩
    · have hlt := of_decide_eq_false hb
      have : i = n := by omega
      subst this
      simp (decide := true) (disch := first | omega | rfl) only [↓SD, SP, opE, fget, binA, Nat.reduceEqDiff, reduceIte, again, stepV, wanted, resE, resL, resU, wr, rd, known, fillE, U.cells]
      refine ⟨_, rfl, ?_, he⟩
      unfold landB
      rw [hb1, h12 (by omega), List.all_eq_true.2 fun j hj => ha j (List.mem_range.1 hj)]; rfl
end Go.AL
