/-
  The tables of free boards; rows set fixed.
-/
import Derived.Test.YtaamjlckaakenaaAlW
import Derived.Test.YtaamjlckaakenaaAlIrCol
namespace Go.AL
set_option linter.unusedSimpArgs false
set_option linter.unusedVariables false
open F
set_option linter.unusedSimpArgs false
set_option linter.unusedVariables false
variable {G : Env}

def freePart (t c : Nat) : List A := (List.range 5).map fun j => A.int .i64 (if j < c ∧ t ≤ j then 1099511627776 else 0)
theorem freePart_len {t c : Nat} : (freePart t c).length = 5 := by simp [freePart]

theorem within_ok (hG : G 597 = some (.code impl_within)) {m : Mem} {n a b : Int} : Rn G 597 [V.i n, V.i a, V.i b] m fun v m' => v = V.b (decide (a ≤ n ∧ n ≤ b)) ∧ m' = m := by
  refine Rn.code hG ?_
  unfold impl_within
  simp (decide := true) (disch := first | omega | rfl) only [↓SD, SP, opE, fget, binA, Nat.reduceEqDiff, reduceIte, again, stepV, wanted, resE, resL, resU, wr, rd, known, fillE, U.cells]
  refine ⟨fun hb => ?_, fun hb => ?_⟩
  · simp (decide := true) (disch := first | omega | rfl) only [↓SD, SP, opE, fget, binA, Nat.reduceEqDiff, reduceIte, again, stepV, wanted, resE, resL, resU, wr, rd, known, fillE, U.cells, hb]
    simp at hb
    simp [hb]
  · simp (decide := true) (disch := first | omega | rfl) only [↓SD, SP, opE, fget, binA, Nat.reduceEqDiff, reduceIte, again, stepV, wanted, resE, resL, resU, wr, rd, known, fillE, U.cells, hb]
    simp at hb
    simp [hb]
    omega

theorem freePart_set {t c : Nat} (hc : c < 5) (h : t ≤ c) : (freePart t c).set c (.int .i64 1099511627776) = freePart t (c + 1) := by
  apply List.ext_getElem (by simp [freePart])
  intro j h1 h2
  simp only [freePart, List.getElem_set, List.getElem_map, List.getElem_range]
  split
  · subst j; rw [if_pos (by omega)]
  · congr 1
    by_cases hj : j < c ∧ t ≤ j
    · rw [if_pos hj, if_pos (by omega)]
    · rw [if_neg hj, if_neg (by omega)]
theorem freePart_same {t c : Nat} (h : ¬ t ≤ c) : freePart t c = freePart t (c + 1) := by
  apply List.ext_getElem (by simp [freePart])
  intro j h1 h2
  simp only [freePart, List.getElem_map, List.getElem_range]
  congr 1
  by_cases hj : j < c ∧ t ≤ j
  · rw [if_pos hj, if_pos (by omega)]
  · rw [if_neg hj, if_neg (by omega)]

theorem free_L1 {t b : Nat} {fr : Fr} {q : Mem} (hs : fget fr 6 = .u (.a (.ptr b 0))) (ht : fget fr 1 = V.i t) (h0 : fget fr 13 = V.i 0) (hq : q[b]? = some (.cells true (freePart t 0))) :
    Wc G (.loop impl_free_L1) (fun e f' q' => e = .exit 2 ∧ q' = q.set b (.cells true (freePart t 5)) ∧ Keep [7, 13, 14, 15, 16, 17, 18, 19, 20, 21] fr f') fr q := by
  refine Wc.loopN (fun c f q' => fget f 13 = V.i c ∧ Keep [7, 13, 14, 15, 16, 17, 18, 19, 20, 21] fr f ∧ q' = q.set b (.cells true (freePart t c))) 5 (fun c f q' hc hS => ?_) ⟨h0, Keep.refl, ?_⟩
  · obtain ⟨h13, hk, rfl⟩ := hS
    have h6 := (hk 6 (by decide)).trans hs
    have h1 := (hk 1 (by decide)).trans ht
    have hb := lt_of_get hq
    unfold impl_free_L1
    simp (decide := true) (disch := first | omega | rfl) only [↓SD, SP, opE, fget, binA, Nat.reduceEqDiff, reduceIte, again, stepV, wanted, resE, resL, resU, wr, rd, known, fillE, U.cells, h13]
    refine ⟨fun hb => ?_, fun hb => ?_⟩
    · have h := of_decide_eq_true hb
      simp (decide := true) (disch := first | omega | rfl) only [↓SD, SP, opE, fget, binA, Nat.reduceEqDiff, reduceIte, again, stepV, wanted, resE, resL, resU, wr, rd, known, fillE, U.cells, h13, h6, h1, freePart_len]
      refine ⟨fun hb => ?_, fun hb => ?_⟩
      · have h := of_decide_eq_true hb
        simp (decide := true) (disch := first | omega | rfl) only [↓SD, SP, opE, fget, binA, Nat.reduceEqDiff, reduceIte, again, stepV, wanted, resE, resL, resU, wr, rd, known, fillE, U.cells, h13, h6, h1, freePart_len]
        refine ⟨by omega, by simp, (by (repeat (refine Keep.set ?_ (by decide))); exact hk), by rw [freePart_set (by omega) (by omega)]⟩
      · have h := of_decide_eq_false hb
        simp (decide := true) (disch := first | omega | rfl) only [↓SD, SP, opE, fget, binA, Nat.reduceEqDiff, reduceIte, again, stepV, wanted, resE, resL, resU, wr, rd, known, fillE, U.cells, h13, h6, h1, freePart_len]
        refine ⟨by omega, by simp, (by (repeat (refine Keep.set ?_ (by decide))); exact hk), by rw [freePart_same (by omega)]⟩
    · have h := of_decide_eq_false hb
      have : c = 5 := by omega
      subst this
      simp (decide := true) (disch := first | omega | rfl) only [↓SD, SP, opE, fget, binA, Nat.reduceEqDiff, reduceIte, again, stepV, wanted, resE, resL, resU, wr, rd, known, fillE, U.cells]
      exact (by (repeat (refine Keep.set ?_ (by decide))); exact hk)
  · obtain ⟨hb, hb2⟩ := List.getElem?_eq_some_iff.1 hq
    rw [← hb2]; simp

def freeRow (t : Nat) : List A := freePart t 5
def freeRows (t n : Nat) : List A := (List.replicate n (freeRow t)).flatten
theorem freeRows_succ {t n : Nat} : freeRows t (n + 1) = freeRows t n ++ freeRow t := by
  unfold freeRows
  rw [List.replicate_succ', List.flatten_append]
  simp
theorem freeRows_len {t n : Nat} : (freeRows t n).length = n * 5 := by
  induction n with
  | zero => rfl
  | succ n ih => rw [freeRows_succ, List.length_append, ih, freeRow, freePart_len]; omega
theorem freePart_zero {t : Nat} : freePart t 0 = List.replicate 5 (A.int .i64 0) := by
  simp [freePart]; rfl

theorem free_ok (hG : G 540 = some (.code impl_free)) {m : Mem} {n t : Nat} (hn : n ≤ 1000) :
    Rn G 540 [V.i n, V.i t] m fun v m' => Own m.length m' v 5 n (freeRows t n) ∧ Ext m m' := by
  refine Rn.code hG ?_
  unfold impl_free
  simp (decide := true) (disch := first | omega | rfl) only [↓SD, SP, opE, fget, binA, Nat.reduceEqDiff, reduceIte, again, stepV, wanted, resE, resL, resU, wr, rd, known, fillE, U.cells]
  refine Wc.loopN (fun i f q => fget f 10 = V.i i ∧ fget f 9 = V.i n ∧ fget f 1 = V.i t ∧ Ext m q ∧ Own m.length q (fget f 5) 5 i (freeRows t i)) n (fun i f q hi hS => ?_) ?_
  · obtain ⟨h10, h9, h1, he, b, c, h5, hc, hq, hl, hlo⟩ := hS
    unfold impl_free_L0
    simp (decide := true) (disch := first | omega | rfl) only [↓SD, SP, opE, fget, binA, Nat.reduceEqDiff, reduceIte, again, stepV, wanted, resE, resL, resU, wr, rd, known, fillE, U.cells, h10, h9, h5]
    refine ⟨fun hb => ?_, fun hb => ?_⟩
    · have h := of_decide_eq_true hb
      simp (decide := true) (disch := first | omega | rfl) only [↓SD, SP, opE, fget, binA, Nat.reduceEqDiff, reduceIte, again, stepV, wanted, resE, resL, resU, wr, rd, known, fillE, U.cells, h10, h9, h5]
      have hL : (freePart t 5).length = 5 := freePart_len
      refine (free_L1 (b := q.length) (t := t) (by simp (decide := true) (disch := first | omega | rfl) only [↓SD, SP, opE, fget, binA, Nat.reduceEqDiff, reduceIte, again, stepV, wanted, resE, resL, resU, wr, rd, known, fillE, U.cells]) (by simp (decide := true) (disch := first | omega | rfl) only [↓SD, SP, opE, fget, binA, Nat.reduceEqDiff, reduceIte, again, stepV, wanted, resE, resL, resU, wr, rd, known, fillE, U.cells, h1]) (by simp (decide := true) (disch := first | omega | rfl) only [↓SD, SP, opE, fget, binA, Nat.reduceEqDiff, reduceIte, again, stepV, wanted, resE, resL, resU, wr, rd, known, fillE, U.cells]) (by simp (decide := true) (disch := first | omega | rfl) only [↓SD, SP, opE, fget, binA, Nat.reduceEqDiff, reduceIte, again, stepV, wanted, resE, resL, resU, wr, rd, known, fillE, U.cells]; rw [freePart_zero]; rfl)).mono ?_
      rintro e f' q' ⟨rfl, rfl, hk⟩
      have k5 := hk 5 (by decide); have k6 := hk 6 (by decide); have k10 := hk 10 (by decide); have k9 := hk 9 (by decide); have k1 := hk 1 (by decide)
      simp (decide := true) only [↓SD, SP, opE, fget, binA, Nat.reduceEqDiff, reduceIte, again, stepV, wanted, resE, resL, resU, wr, rd, known, fillE, U.cells, h10, h9, h5, h1] at k5 k6 k10 k9 k1
      simp (decide := true) (disch := first | omega | rfl) only [↓SD, SP, opE, fget, binA, Nat.reduceEqDiff, reduceIte, again, stepV, wanted, resE, resL, resU, wr, rd, known, fillE, U.cells, k5, k6, k10, k9, k1, hL]
      obtain ⟨m', ha, hm1, hm2, hm3⟩ := appE_own (m := q ++ [Blk.cells true (freePart t 5)] ++ [Blk.cells true (freePart t 5)]) (s := 5) (bytes := 40) (b := b) (i := i) (n := 1) (c := c) (cs := freeRows t i) (new := freePart t 5)
        (y := .sl (q.length + 1) 0 1 (.ex 1)) rfl (by unfold srcCells; simp (decide := true) (disch := first | omega | rfl) only [↓SD, SP, opE, fget, binA, Nat.reduceEqDiff, reduceIte, again, stepV, wanted, resE, resL, resU, wr, rd, known, fillE, U.cells, hL]) (by omega) (by omega) (by have := lt_of_get hq; simp (decide := true) (disch := first | omega | rfl) only [↓SD, SP, opE, fget, binA, Nat.reduceEqDiff, reduceIte, again, stepV, wanted, resE, resL, resU, wr, rd, known, fillE, U.cells, hq]) hl hc (by omega) (by omega)
      rw [y88 (by rw [hL]; rfl), ha]
      simp (decide := true) (disch := first | omega | rfl) only [↓SD, SP, opE, fget, binA, Nat.reduceEqDiff, reduceIte, again, stepV, wanted, resE, resL, resU, wr, rd, known, fillE, U.cells]
      simp only [y102] at hm1 hm2 hm3
      have := lt_of_get hq
      simp (decide := true) (disch := first | omega | rfl) only [↓SD, SP, opE, fget, binA, Nat.reduceEqDiff, reduceIte, again, stepV, wanted, resE, resL, resU, wr, rd, known, fillE, U.cells, k10, k9, k1]
      refine ⟨by omega, by simp, ⟨by have := he.1; omega, fun x hx => ?_⟩, _, _, rfl, .inr rfl, by rw [hm1, freeRows_succ]; rfl, freeRows_len, by have := he.1; omega⟩
      have := he.1
      rw [hm3 x (by omega) (by omega), get_push2_lt (by omega)]
      exact he.2 x hx
    · have h := of_decide_eq_false hb
      have : i = n := by omega
      subst this
      simp (decide := true) (disch := first | omega | rfl) only [↓SD, SP, opE, fget, binA, Nat.reduceEqDiff, reduceIte, again, stepV, wanted, resE, resL, resU, wr, rd, known, fillE, U.cells, h10, h9, h5]
      refine ⟨_, rfl, ⟨b, c, rfl, hc, hq, hl, hlo⟩, he⟩
  · simp (decide := true) (disch := first | omega | rfl) only [↓SD, SP, opE, fget, binA, Nat.reduceEqDiff, reduceIte, again, stepV, wanted, resE, resL, resU, wr, rd, known, fillE, U.cells]
    refine ⟨Ext.push _ _, m.length, .ex 0, rfl, .inl rfl, by simp; rfl, rfl, Nat.le_refl _⟩
end Go.AL
