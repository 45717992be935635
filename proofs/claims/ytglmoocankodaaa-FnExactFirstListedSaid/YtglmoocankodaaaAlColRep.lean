/-
  Repainted fences: tables of costs, and the reference's least.
-/
import Derived.Test.YtglmoocankodaaaAlColCost2
import Derived.Test.YtglmoocankodaaaAlColFill
namespace Go.AL
set_option linter.unusedSimpArgs false
set_option linter.unusedVariables false
open F
set_option linter.unusedSimpArgs false
set_option linter.unusedVariables false
variable {G : Env}

/-- What the reference's round makes of the costs behind. -/
def rc (s : List UInt8) (i b : Nat) : Int := if ((s.getD i 0).toNat : Int) ≠ 97 + b then 1 else 0
def repT (s : List UInt8) (tn : Nat) (k : Nat) : Int := if tn ≤ k % 5 then 1099511627776 else rc s (k / 5) (k % 5)
def stepB (s : List UInt8) (i : Nat) (W : Nat → Int) (a : Nat) (d : Nat) : Int := bestB (fun b => W b + rc s i b) (fun b => decide (b ≠ a) && decide (0 ≤ W b)) d

theorem rc_01 {s : List UInt8} {i b : Nat} : 0 ≤ rc s i b ∧ rc s i b ≤ 1 := by unfold rc; split <;> omega
theorem rep_costs {s : List UInt8} {tn : Nat} : Costs (repT s tn) := by
  intro k; unfold repT; split
  · exact .inl rfl
  · have := rc_01 (s := s) (i := k / 5) (b := k % 5); exact .inr (by omega)
theorem rep_at {s : List UInt8} {tn i b : Nat} (hb : b < 5) : repT s tn (i * 5 + b) = if tn ≤ b then 1099511627776 else rc s i b := by
  unfold repT
  rw [show (i * 5 + b) % 5 = b by omega, show (i * 5 + b) / 5 = i by omega]
theorem rep_may {s : List UInt8} {tn i b : Nat} (hb : b < 5) : may (repT s tn) i b ↔ b < tn := by
  unfold may
  rw [rep_at hb]
  split
  · exact ⟨fun h => absurd h (by decide), fun h => by omega⟩
  · have := rc_01 (s := s) (i := i) (b := b); exact ⟨fun _ => by omega, fun _ => by omega⟩

theorem bL_step {s : List UInt8} {tn n k a : Nat} {but : Int} (ht : tn ≤ 5) : bL (repT s tn) n but (k + 1) a = stepB s (n - 1 - k) (bL (repT s tn) n but k) a tn := by
  show bestB _ _ 5 = bestB _ _ tn
  rw [bestB_cut ht]
  · apply bestB_congr
    intro b hb
    have hm := (rep_may (s := s) (tn := tn) (i := n - 1 - k) (b := b) (by omega)).2 hb
    refine ⟨by rw [decide_eq_true hm, Bool.true_and], fun _ => ?_⟩
    show _ + _ = _ + _
    rw [rep_at (by omega), if_neg (by omega)]
  · intro b h1 h2
    have hm : ¬ may (repT s tn) (n - 1 - k) b := fun h => by have := (rep_may (by omega)).1 h; omega
    rw [decide_eq_false hm, Bool.false_and, Bool.and_false]

theorem bL_ub {T : Nat → Int} {n : Nat} {but : Int} (hT : Costs T) : ∀ k a, bL T n but k a ≤ 100 * k
  | 0, a => by unfold bL; split <;> omega
  | k + 1, a => by
    have hb := bestB_least (f := fun b => bL T n but k b + T ((n - 1 - k) * 5 + b)) (p := fun b => decide (b ≠ a) && (decide (may T (n - 1 - k) b) && decide (0 ≤ bL T n but k b)))
      (fun b hb => by have h1 := (bL_p.1 hb).2.2; have h2 := hT.nn ((n - 1 - k) * 5 + b); show 0 ≤ _ + _; omega) 5
    by_cases h : 0 ≤ bL T n but (k + 1) a
    · obtain ⟨e, g1, g2, g3⟩ := hb.2.1 h
      clear hb
      have ih := bL_ub (n := n) (but := but) hT k e
      have hle := hT.le (bL_p.1 g2).2.1
      have e2 : bL T n but (k + 1) a = bL T n but k e + T ((n - 1 - k) * 5 + e) := g3
      omega
    · omega
theorem stepB_ge {s : List UInt8} {i a : Nat} {W : Nat → Int} (d : Nat) : -1 ≤ stepB s i W a d :=
  (bestB_least (f := fun b => W b + rc s i b) (p := fun b => decide (b ≠ a) && decide (0 ≤ W b)) (fun b hb => by simp at hb; have := rc_01 (s := s) (i := i) (b := b); show 0 ≤ _ + _; omega) d).2.2
theorem stepB_le {s : List UInt8} {i a : Nat} {W : Nat → Int} (hW : ∀ b, W b ≤ 10000) : ∀ d, stepB s i W a d ≤ 10001
  | 0 => by unfold stepB bestB; omega
  | d + 1 => by
    have ih := stepB_le (s := s) (i := i) (a := a) hW d
    have h1 := hW d
    have h2 := rc_01 (s := s) (i := i) (b := d)
    unfold stepB at ih
    unfold stepB bestB
    split
    · split
      · show _ + _ ≤ _; omega
      · exact ih
    · exact ih

abbrev slotsP3 : List Nat := 16 :: 17 :: List.range' 53 39

set_option maxHeartbeats 2000000 in
theorem coRepaint_L3 {bw bn T w i a : Nat} {c : Cap} {s : List UInt8} {W nx : Nat → Int} {fr : Fr} {q : Mem} (h0 : fget fr 0 = V.s s) (h13 : fget fr 13 = V.i i) (h15 : fget fr 15 = V.i a)
    (h14 : fget fr 14 = V.a (.sl bn 0 (T + 1) (.ex (T + 1)))) (h51 : fget fr 51 = V.a (.sl bw 0 T c)) (h52 : fget fr 52 = V.i T) (h53 : fget fr 53 = V.i 0)
    (qw : q[bw]? = some (.cells true (ints w W))) (hw : T ≤ w) (qn : q[bn]? = some (.cells true (ints (T + 1) nx))) (d : bw ≠ bn) (hi : i < s.length) (ha : a < T + 1) (hT : T ≤ 5) (hn : nx a = -1) (hW : ∀ k, -1 ≤ W k ∧ W k ≤ 10000) :
    Wc G (.loop spec_coRepaint_L3) (fun e f' q' => e = .exit 6 ∧ Upd [bn] q q' ∧ q'[bn]? = some (.cells true (ints (T + 1) (upd nx a (stepB s i W a T)))) ∧ Keep slotsP3 fr f') fr q := by
  refine Wc.loopN (fun b f q' => fget f 53 = V.i b ∧ Keep slotsP3 fr f ∧ Upd [bn] q q' ∧ q'[bn]? = some (.cells true (ints (T + 1) (upd nx a (stepB s i W a b))))) T (fun b f q' hb0 hS => ?_) ⟨h53, Keep.refl, Upd.refl, ?_⟩
  · obtain ⟨h53, hk, hu, hn⟩ := hS
    have k0 := (hk 0 (by decide)).trans h0; have k13 := (hk 13 (by decide)).trans h13; have k15 := (hk 15 (by decide)).trans h15; have k14 := (hk 14 (by decide)).trans h14
    have k51 := (hk 51 (by decide)).trans h51; have k52 := (hk 52 (by decide)).trans h52
    have hwq := (hu.2 bw (by simp [d])).trans qw
    have ln := lt_of_get hn
    have b2 := hW b
    have b3 := stepB_ge (s := s) (i := i) (a := a) (W := W) b
    have b4 := stepB_le (s := s) (i := i) (a := a) (W := W) (fun b => (hW b).2) b
    unfold spec_coRepaint_L3
    simp (decide := true) (disch := first | omega | rfl) only [↓SD, SP, opE, fget, binA, Nat.reduceEqDiff, reduceIte, again, stepV, wanted, resE, resL, resU, wr, rd, known, fillE, U.cells, h53, k52]
    refine ⟨fun hb => ?_, fun hb => ?_⟩
    · have hlt := of_decide_eq_true hb
      have hsi : s[i]? = some s[i] := List.getElem?_eq_getElem hi
      have hu8 := UInt8.toNat_lt s[i]
      have hgd : s.getD i 0 = s[i] := by simp [List.getD, hsi]
      have hrc : rc s i b = if ((s[i].toNat : Int) != 97 + b) = true then 1 else 0 := by
        unfold rc; rw [hgd]; simp only [bne_iff_ne]
      have e1 : stepB s i W a (b + 1) = if (decide (b ≠ a) && decide (0 ≤ W b)) = true then (if stepB s i W a b < 0 ∨ W b + rc s i b < stepB s i W a b then W b + rc s i b else stepB s i W a b) else stepB s i W a b := rfl
      by_cases hneg : W b < 0
      · have hg : decide (W b < 0) = true := decide_eq_true hneg
        have e2 : stepB s i W a (b + 1) = stepB s i W a b := by rw [e1, if_neg (by simp; omega)]
        simp (decide := true) (disch := first | omega | rfl) only [↓SD, SP, opE, fget, binA, Nat.reduceEqDiff, reduceIte, again, stepV, wanted, resE, resL, resU, wr, rd, known, fillE, U.cells, h53, k51, k52, hwq, hg]
        exact ⟨by omega, by simp, (by (repeat (refine Keep.set ?_ (by decide))); exact hk), hu, by rw [hn, e2]⟩
      · have hg : decide (W b < 0) = false := decide_eq_false hneg
        by_cases hab : a = b
        · have hg2 : ((a : Int) == (b : Int)) = true := by rw [beq_iff_eq]; omega
          have e2 : stepB s i W a (b + 1) = stepB s i W a b := by rw [e1, if_neg (by simp; omega)]
          simp (decide := true) (disch := first | omega | rfl) only [↓SD, SP, opE, fget, binA, Nat.reduceEqDiff, reduceIte, again, stepV, wanted, resE, resL, resU, wr, rd, known, fillE, U.cells, h53, k51, k52, k15, hwq, hg, hg2]
          exact ⟨by omega, by simp, (by (repeat (refine Keep.set ?_ (by decide))); exact hk), hu, by rw [hn, e2]⟩
        · have hg2 : ((a : Int) == (b : Int)) = false := by rw [beq_eq_false_iff_ne]; omega
          have e2 : stepB s i W a (b + 1) = if stepB s i W a b < 0 ∨ W b + rc s i b < stepB s i W a b then W b + rc s i b else stepB s i W a b := by rw [e1, if_pos (by simp; omega)]
          have fin : ∀ x : Int, x = W b + rc s i b → (stepB s i W a b < 0 → stepB s i W a (b + 1) = x) ∧ (¬ stepB s i W a b < 0 → x < stepB s i W a b → stepB s i W a (b + 1) = x) ∧ (¬ stepB s i W a b < 0 → ¬ x < stepB s i W a b → stepB s i W a (b + 1) = stepB s i W a b) := by
            intro x hx
            subst hx
            rw [e2]
            exact ⟨fun h => if_pos (.inl h), fun _ h => if_pos (.inr h), fun h1 h2 => if_neg (fun h => h.elim h1 h2)⟩
          cases g3 : ((s[i].toNat : Int) != 97 + (b : Int)) with
          | true =>
            rw [g3, if_pos rfl] at hrc
            have hf := fin (W b + 1) (by rw [hrc])
            simp (decide := true) (disch := first | omega | rfl) only [↓SD, SP, opE, fget, binA, Nat.reduceEqDiff, reduceIte, again, stepV, wanted, resE, resL, resU, wr, rd, known, fillE, U.cells, h53, k51, k52, k15, k0, k13, k14, hsi, hwq, hg, hg2, g3, hn, upd_same]
            by_cases h4 : stepB s i W a b < 0
            · have g4 : decide (stepB s i W a b < 0) = true := decide_eq_true h4
              simp (decide := true) (disch := first | omega | rfl) only [↓SD, SP, opE, fget, binA, Nat.reduceEqDiff, reduceIte, again, stepV, wanted, resE, resL, resU, wr, rd, known, fillE, U.cells, h53, k15, k14, hn, upd_same, upd_upd, g4]
              exact ⟨by omega, by simp, (by (repeat (refine Keep.set ?_ (by decide))); exact hk), (by (repeat (refine Upd.set ?_ (by simp))); exact hu), by rw [hf.1 h4]⟩
            · have g4 : decide (stepB s i W a b < 0) = false := decide_eq_false h4
              by_cases h5 : W b + 1 < stepB s i W a b
              · have g5 : decide (W b + 1 < stepB s i W a b) = true := decide_eq_true h5
                simp (decide := true) (disch := first | omega | rfl) only [↓SD, SP, opE, fget, binA, Nat.reduceEqDiff, reduceIte, again, stepV, wanted, resE, resL, resU, wr, rd, known, fillE, U.cells, h53, k15, k14, hn, upd_same, upd_upd, g4, g5]
                exact ⟨by omega, by simp, (by (repeat (refine Keep.set ?_ (by decide))); exact hk), (by (repeat (refine Upd.set ?_ (by simp))); exact hu), by rw [hf.2.1 h4 h5]⟩
              · have g5 : decide (W b + 1 < stepB s i W a b) = false := decide_eq_false h5
                simp (decide := true) (disch := first | omega | rfl) only [↓SD, SP, opE, fget, binA, Nat.reduceEqDiff, reduceIte, again, stepV, wanted, resE, resL, resU, wr, rd, known, fillE, U.cells, h53, k15, k14, hn, upd_same, upd_upd, g4, g5]
                exact ⟨by omega, by simp, (by (repeat (refine Keep.set ?_ (by decide))); exact hk), hu, by rw [hf.2.2 h4 h5]⟩
          | false =>
            rw [g3, if_neg (by decide)] at hrc
            have hf := fin (W b) (by rw [hrc, Int.add_zero])
            simp (decide := true) (disch := first | omega | rfl) only [↓SD, SP, opE, fget, binA, Nat.reduceEqDiff, reduceIte, again, stepV, wanted, resE, resL, resU, wr, rd, known, fillE, U.cells, h53, k51, k52, k15, k0, k13, k14, hsi, hwq, hg, hg2, g3, hn, upd_same]
            by_cases h4 : stepB s i W a b < 0
            · have g4 : decide (stepB s i W a b < 0) = true := decide_eq_true h4
              simp (decide := true) (disch := first | omega | rfl) only [↓SD, SP, opE, fget, binA, Nat.reduceEqDiff, reduceIte, again, stepV, wanted, resE, resL, resU, wr, rd, known, fillE, U.cells, h53, k15, k14, hn, upd_same, upd_upd, g4]
              exact ⟨by omega, by simp, (by (repeat (refine Keep.set ?_ (by decide))); exact hk), (by (repeat (refine Upd.set ?_ (by simp))); exact hu), by rw [hf.1 h4]⟩
            · have g4 : decide (stepB s i W a b < 0) = false := decide_eq_false h4
              by_cases h5 : W b < stepB s i W a b
              · have g5 : decide (W b < stepB s i W a b) = true := decide_eq_true h5
                simp (decide := true) (disch := first | omega | rfl) only [↓SD, SP, opE, fget, binA, Nat.reduceEqDiff, reduceIte, again, stepV, wanted, resE, resL, resU, wr, rd, known, fillE, U.cells, h53, k15, k14, hn, upd_same, upd_upd, g4, g5]
                exact ⟨by omega, by simp, (by (repeat (refine Keep.set ?_ (by decide))); exact hk), (by (repeat (refine Upd.set ?_ (by simp))); exact hu), by rw [hf.2.1 h4 h5]⟩
              · have g5 : decide (W b < stepB s i W a b) = false := decide_eq_false h5
                simp (decide := true) (disch := first | omega | rfl) only [↓SD, SP, opE, fget, binA, Nat.reduceEqDiff, reduceIte, again, stepV, wanted, resE, resL, resU, wr, rd, known, fillE, U.cells, h53, k15, k14, hn, upd_same, upd_upd, g4, g5]
                exact ⟨by omega, by simp, (by (repeat (refine Keep.set ?_ (by decide))); exact hk), hu, by rw [hf.2.2 h4 h5]⟩
    · have h := of_decide_eq_false hb
      have : b = T := by omega
      subst this
      simp (decide := true) (disch := first | omega | rfl) only [↓SD, SP, opE, fget, binA, Nat.reduceEqDiff, reduceIte, again, stepV, wanted, resE, resL, resU, wr, rd, known, fillE, U.cells]
      exact ⟨hu, hn, (by (repeat (refine Keep.set ?_ (by decide))); exact hk)⟩
  · rw [qn, show stepB s i W a 0 = nx a by rw [hn]; rfl, upd_id]
end Go.AL
