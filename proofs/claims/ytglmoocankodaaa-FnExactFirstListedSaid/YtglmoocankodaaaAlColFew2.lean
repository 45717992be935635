/-
  FewestRepaints on both sides.
-/
import Derived.Test.YtglmoocankodaaaAlColFew
namespace Go.AL
set_option linter.unusedSimpArgs false
set_option linter.unusedVariables false
open F
set_option linter.unusedSimpArgs false
set_option linter.unusedVariables false
variable {G : Env}

/-- The table while its boards are told: m places are done. -/
def repU (s : List UInt8) (t m : Nat) (k : Nat) : Int := if k < m then repT s t k else freeT t k
theorem repU_zero {s : List UInt8} {t : Nat} : repU s t 0 = freeT t := by funext k; unfold repU; rw [if_neg (by omega)]
theorem repU_all {s : List UInt8} {t n : Nat} : ints n (repU s t n) = ints n (repT s t) := ints_congr fun j hj => if_pos hj
theorem repU_set {s : List UInt8} {t m : Nat} {x : Int} (h : repT s t m = x) : upd (repU s t m) m x = repU s t (m + 1) := by
  subst h
  funext k; unfold upd repU
  by_cases h1 : k = m
  · subst h1; rw [if_pos rfl, if_pos (by omega)]
  · rw [if_neg h1]
    by_cases h2 : k < m
    · rw [if_pos h2, if_pos (by omega)]
    · rw [if_neg h2, if_neg (by omega)]
theorem repU_same {s : List UInt8} {t m : Nat} (h : repT s t m = freeT t m) : repU s t m = repU s t (m + 1) := by
  funext k; unfold repU
  by_cases h1 : k = m
  · subst h1; rw [if_neg (by omega), if_pos (by omega), h]
  · by_cases h2 : k < m
    · rw [if_pos h2, if_pos (by omega)]
    · rw [if_neg h2, if_neg (by omega)]
theorem repU_rest {s : List UInt8} {t i : Nat} : ∀ d c, c + d = 5 → t ≤ c → repU s t (i * 5 + c) = repU s t ((i + 1) * 5)
  | 0, c, h, _ => by rw [show (i + 1) * 5 = i * 5 + c by omega]
  | d + 1, c, h, hc => by
    rw [← repU_rest d (c + 1) (by omega) (by omega)]
    apply repU_same
    rw [rep_at (by omega), if_pos hc]
    unfold freeT
    rw [show (i * 5 + c) % 5 = c by omega, if_pos hc]

theorem repainted_ok (hi : ColI G) (hG : G 561 = some (.code impl_repainted)) {m : Mem} {s : List UInt8} {t : Nat} (h1 : 1 ≤ s.length) (hl : s.length ≤ 20) (ht : t ≤ 5) :
    Rn G 561 [V.s s, V.i t] m fun v m' => (∃ b c, v = V.a (.sl b 0 s.length c) ∧ m'[b]? = some (.cells true (ints (s.length * 5) (repT s t))) ∧ m.length ≤ b) ∧ Ext m m' := by
  refine Rn.code hG ?_
  unfold impl_repainted
  simp (decide := true) (disch := first | omega | rfl) only [↓SD, SP, opE, fget, binA, Nat.reduceEqDiff, reduceIte, again, stepV, wanted, resE, resL, resU, wr, rd, known, fillE, U.cells]
  refine Wo.callR (by simp (decide := true) (disch := first | omega | rfl) only [↓SD, SP, opE, fget, binA, Nat.reduceEqDiff, reduceIte, again, stepV, wanted, resE, resL, resU, wr, rd, known, fillE, U.cells]; try rfl) (free_ints hi hl) ?_
  rintro _ m1 ⟨⟨b, c, rfl, hb, hlo⟩, he⟩
  simp (decide := true) (disch := first | omega | rfl) only [↓SD, SP, opE, fget, binA, Nat.reduceEqDiff, reduceIte, again, stepV, wanted, resE, resL, resU, wr, rd, known, fillE, U.cells]
  refine Wc.loopN (fun i f q => fget f 14 = V.i i ∧ fget f 13 = V.i s.length ∧ fget f 0 = V.s s ∧ fget f 1 = V.i t ∧ Ext m q ∧ fget f 5 = V.a (.sl b 0 s.length c) ∧ q[b]? = some (.cells true (ints (s.length * 5) (repU s t (i * 5))))) s.length (fun i f q hil hS => ?_)
    ⟨(by simp (decide := true) (disch := first | omega | rfl) only [↓SD, SP, opE, fget, binA, Nat.reduceEqDiff, reduceIte, again, stepV, wanted, resE, resL, resU, wr, rd, known, fillE, U.cells]; try rfl), (by simp (decide := true) (disch := first | omega | rfl) only [↓SD, SP, opE, fget, binA, Nat.reduceEqDiff, reduceIte, again, stepV, wanted, resE, resL, resU, wr, rd, known, fillE, U.cells]; try rfl), (by simp (decide := true) (disch := first | omega | rfl) only [↓SD, SP, opE, fget, binA, Nat.reduceEqDiff, reduceIte, again, stepV, wanted, resE, resL, resU, wr, rd, known, fillE, U.cells]; try rfl), (by simp (decide := true) (disch := first | omega | rfl) only [↓SD, SP, opE, fget, binA, Nat.reduceEqDiff, reduceIte, again, stepV, wanted, resE, resL, resU, wr, rd, known, fillE, U.cells]; try rfl), he, (by simp (decide := true) (disch := first | omega | rfl) only [↓SD, SP, opE, fget, binA, Nat.reduceEqDiff, reduceIte, again, stepV, wanted, resE, resL, resU, wr, rd, known, fillE, U.cells]; try rfl), by rw [Nat.zero_mul, repU_zero]; exact hb⟩
  obtain ⟨h14, h13, h0, h1', heq, h5, hq⟩ := hS
  unfold impl_repainted_L0
  simp (decide := true) (disch := first | omega | rfl) only [↓SD, SP, opE, fget, binA, Nat.reduceEqDiff, reduceIte, again, stepV, wanted, resE, resL, resU, wr, rd, known, fillE, U.cells, h14, h13]
  refine ⟨fun hb => ?_, fun hb => ?_⟩
  · have hlt := of_decide_eq_true hb
    have hi' : i < s.length := by omega
    have hsi : s[i]? = some s[i] := List.getElem?_eq_getElem hi'
    have hgd : s.getD i 0 = s[i] := by simp [List.getD, hsi]
    have hu8 := UInt8.toNat_lt s[i]
    simp (decide := true) (disch := first | omega | rfl) only [↓SD, SP, opE, fget, binA, Nat.reduceEqDiff, reduceIte, again, stepV, wanted, resE, resL, resU, wr, rd, known, fillE, U.cells, h14, h1']
    refine Wc.loopN (fun c' f' q' => fget f' 18 = V.i c' ∧ fget f' 17 = V.i t ∧ fget f' 6 = V.i i ∧ fget f' 14 = V.i i ∧ fget f' 13 = V.i s.length ∧ fget f' 0 = V.s s ∧ fget f' 1 = V.i t ∧ Ext m q' ∧ fget f' 5 = V.a (.sl b 0 s.length c) ∧ q'[b]? = some (.cells true (ints (s.length * 5) (repU s t (i * 5 + c'))))) t (fun c' f' q' hct hS => ?_)
      ⟨(by simp (decide := true) (disch := first | omega | rfl) only [↓SD, SP, opE, fget, binA, Nat.reduceEqDiff, reduceIte, again, stepV, wanted, resE, resL, resU, wr, rd, known, fillE, U.cells]; try rfl), (by simp (decide := true) (disch := first | omega | rfl) only [↓SD, SP, opE, fget, binA, Nat.reduceEqDiff, reduceIte, again, stepV, wanted, resE, resL, resU, wr, rd, known, fillE, U.cells]; try rfl), (by simp (decide := true) (disch := first | omega | rfl) only [↓SD, SP, opE, fget, binA, Nat.reduceEqDiff, reduceIte, again, stepV, wanted, resE, resL, resU, wr, rd, known, fillE, U.cells]; try rfl), by simp (decide := true) (disch := first | omega | rfl) only [↓SD, SP, opE, fget, binA, Nat.reduceEqDiff, reduceIte, again, stepV, wanted, resE, resL, resU, wr, rd, known, fillE, U.cells, h14], by simp (decide := true) (disch := first | omega | rfl) only [↓SD, SP, opE, fget, binA, Nat.reduceEqDiff, reduceIte, again, stepV, wanted, resE, resL, resU, wr, rd, known, fillE, U.cells, h13], by simp (decide := true) (disch := first | omega | rfl) only [↓SD, SP, opE, fget, binA, Nat.reduceEqDiff, reduceIte, again, stepV, wanted, resE, resL, resU, wr, rd, known, fillE, U.cells, h0], by simp (decide := true) (disch := first | omega | rfl) only [↓SD, SP, opE, fget, binA, Nat.reduceEqDiff, reduceIte, again, stepV, wanted, resE, resL, resU, wr, rd, known, fillE, U.cells, h1'], heq, by simp (decide := true) (disch := first | omega | rfl) only [↓SD, SP, opE, fget, binA, Nat.reduceEqDiff, reduceIte, again, stepV, wanted, resE, resL, resU, wr, rd, known, fillE, U.cells, h5], hq⟩
    obtain ⟨h18, h17, h6, h14, h13, h0, h1', heq, h5, hq⟩ := hS
    have lq := lt_of_get hq
    unfold impl_repainted_L1
    simp (decide := true) (disch := first | omega | rfl) only [↓SD, SP, opE, fget, binA, Nat.reduceEqDiff, reduceIte, again, stepV, wanted, resE, resL, resU, wr, rd, known, fillE, U.cells, h18, h17]
    refine ⟨fun hb => ?_, fun hb => ?_⟩
    · have hlt2 := of_decide_eq_true hb
      have hw8 : IntKind.u8.wrap (97 + (c' : Int)) = 97 + c' := by rw [IntKind.wrap_u8]; omega
      have hrt : repT s t (i * 5 + c') = if ((s[i].toNat : Int) != 97 + c') = true then 1 else 0 := by
        rw [rep_at (by omega), if_neg (by omega)]
        unfold rc; rw [hgd]; simp only [bne_iff_ne]
      have hft : freeT t (i * 5 + c') = 0 := by unfold freeT; rw [show (i * 5 + c') % 5 = c' by omega, if_neg (by omega)]
      cases g : ((s[i].toNat : Int) != 97 + (c' : Int)) with
      | true =>
        rw [g, if_pos rfl] at hrt
        simp (decide := true) (disch := first | omega | rfl) only [↓SD, SP, opE, fget, binA, Nat.reduceEqDiff, reduceIte, again, stepV, wanted, resE, resL, resU, wr, rd, known, fillE, U.cells, h18, h6, h0, h5, hsi, hw8, g, hq]
        exact ⟨by omega, by simp, h17, h14, h13, h1', heq.set hlo, by rw [repU_set hrt, show i * 5 + (c' + 1) = i * 5 + c' + 1 by omega]⟩
      | false =>
        rw [g, if_neg (by decide)] at hrt
        simp (decide := true) (disch := first | omega | rfl) only [↓SD, SP, opE, fget, binA, Nat.reduceEqDiff, reduceIte, again, stepV, wanted, resE, resL, resU, wr, rd, known, fillE, U.cells, h18, h6, h0, h5, hsi, hw8, g]
        exact ⟨by omega, by simp, h17, h14, h13, h1', heq, by rw [show i * 5 + (c' + 1) = i * 5 + c' + 1 by omega, ← repU_same (by rw [hrt, hft])]; exact hq⟩
    · have hlt2 := of_decide_eq_false hb
      have : c' = t := by omega
      subst this
      simp (decide := true) (disch := first | omega | rfl) only [↓SD, SP, opE, fget, binA, Nat.reduceEqDiff, reduceIte, again, stepV, wanted, resE, resL, resU, wr, rd, known, fillE, U.cells, h14]
      exact ⟨by omega, by simp, h13, h0, h1', heq, h5, by rw [← repU_rest (5 - c') c' (by omega) (Nat.le_refl _)]; exact hq⟩
  · have hlt := of_decide_eq_false hb
    have : i = s.length := by omega
    subst this
    simp (decide := true) (disch := first | omega | rfl) only [↓SD, SP, opE, fget, binA, Nat.reduceEqDiff, reduceIte, again, stepV, wanted, resE, resL, resU, wr, rd, known, fillE, U.cells, h5]
    exact ⟨_, rfl, ⟨b, c, rfl, by rw [hq, repU_all], hlo⟩, heq⟩

theorem bL_none {s : List UInt8} {t n : Nat} {but : Int} (h1 : 1 ≤ n) (ht : t ≤ 5) : bL (repT s t) n but n t = bL (repT s t) n but n 5 := by
  obtain ⟨k, rfl⟩ : ∃ k, n = k + 1 := ⟨n - 1, by omega⟩
  rw [bL_step ht, bL_step ht]
  unfold stepB
  apply bestB_congr
  intro b hb
  refine ⟨?_, fun _ => rfl⟩
  rw [decide_eq_true (show b ≠ t by omega), decide_eq_true (show b ≠ 5 by omega)]

theorem tot_few {s : List UInt8} {t : Nat} {around : Bool} (h1 : 1 ≤ s.length) (ht : t ≤ 5) : totL (repT s t) s.length around = fewT s t around := by
  cases around with
  | false =>
    show bL (repT s t) s.length (-1) s.length 5 = repV s t 0 (-1) (-1)
    unfold repV
    rw [if_pos (by decide), Nat.sub_zero, bL_none h1 ht]
  | true =>
    show bestB (fun c => repT s t (0 * 5 + c) + bL (repT s t) s.length c (s.length - 1) c) (fun c => decide (may (repT s t) 0 c) && decide (0 ≤ bL (repT s t) s.length c (s.length - 1) c)) 5 = bestB (fewC s t) (fun c => decide (0 ≤ fewC s t c)) t
    have hcp : ∀ c : Nat, costP (repT s t) (fun _ => c) 1 = repT s t (0 * 5 + c) := fun c => by show (0 : Int) + repT s t (0 * 5 + c) = _; rw [Int.zero_add]
    have hfc : ∀ c : Nat, fewC s t c = if bL (repT s t) s.length c (s.length - 1) c < 0 then -1 else repT s t (0 * 5 + c) + bL (repT s t) s.length c (s.length - 1) c := by
      intro c
      show fewV s t true (fun _ => c) 1 = _
      unfold fewV
      rw [hcp]
      rfl
    rw [bestB_cut ht]
    · apply bestB_congr
      intro c hc
      have hm := (rep_may (s := s) (tn := t) (i := 0) (b := c) (by omega)).2 hc
      have hnn := (rep_costs (s := s) (tn := t)).nn (0 * 5 + c)
      rw [hfc]
      by_cases h : 0 ≤ bL (repT s t) s.length c (s.length - 1) c
      · rw [if_neg (by omega)]
        refine ⟨?_, fun _ => rfl⟩
        rw [decide_eq_true hm, decide_eq_true h, decide_eq_true (show 0 ≤ repT s t (0 * 5 + c) + bL (repT s t) s.length c (s.length - 1) c by omega)]
        rfl
      · rw [if_pos (by omega)]
        refine ⟨?_, fun h' => ?_⟩
        · rw [decide_eq_false h, Bool.and_false]; rfl
        · simp at h'; exact absurd h'.2 h
    · intro k k1 k2
      have hm : ¬ may (repT s t) 0 k := fun h => by have := (rep_may k2).1 h; omega
      rw [decide_eq_false hm, Bool.false_and]

theorem cnt_nonneg {T : Nat → Int} {n : Nat} {around : Bool} (hn : n ≤ 20) : 0 ≤ cntT T n around := by
  unfold cntT; split
  · exact (lookN_bound hn 5).1
  · exact (lineN_bound hn _).1

def fwV (s : List UInt8) (t : Int) (around : Bool) : V := if filledB s t around = true ∧ 0 ≤ fewT s t.toNat around then .t [.a (.int .i64 (fewT s t.toNat around)), .a (.bool true)] else .t [.a (.int .i64 0), .a (.bool false)]

theorem implFw_ok (hi : ColI G) (hf : ColF G) (hb : ColB G) (h561 : G 561 = some (.code impl_repainted)) (hG : G 78 = some (.code impl_FewestRepaints)) {m : Mem} {s : List UInt8} {t : Int} {around : Bool} :
    Rn G 78 [V.s s, V.i t, V.b around] m fun v m' => v = fwV s t around := by
  refine Rn.code hG ?_
  unfold impl_FewestRepaints fwV
  simp (decide := true) (disch := first | omega | rfl) only [↓SD, SP, opE, fget, binA, Nat.reduceEqDiff, reduceIte, again, stepV, wanted, resE, resL, resU, wr, rd, known, fillE, U.cells]
  refine Wo.callR (by simp (decide := true) (disch := first | omega | rfl) only [↓SD, SP, opE, fget, binA, Nat.reduceEqDiff, reduceIte, again, stepV, wanted, resE, resL, resU, wr, rd, known, fillE, U.cells]; try rfl) (isFilled_ok hi hf hb.isStood hb.isFilled) ?_
  rintro _ m1 ⟨rfl, he⟩
  simp (decide := true) (disch := first | omega | rfl) only [↓SD, SP, opE, fget, binA, Nat.reduceEqDiff, reduceIte, again, stepV, wanted, resE, resL, resU, wr, rd, known, fillE, U.cells]
  cases hq : filledB s t around with
  | false =>
    simp (decide := true) (disch := first | omega | rfl) only [↓SD, SP, opE, fget, binA, Nat.reduceEqDiff, reduceIte, again, stepV, wanted, resE, resL, resU, wr, rd, known, fillE, U.cells]
    exact ⟨_, rfl, by rw [if_neg (by simp)]⟩
  | true =>
    obtain ⟨⟨h1, h2⟩, h3, ⟨h4, h5⟩, h6⟩ := filledB_spec hq
    obtain ⟨t, rfl⟩ := Int.eq_ofNat_of_zero_le (show 0 ≤ t by omega)
    have ht : ((t : Int)).toNat = t := rfl
    obtain ⟨t1, t2⟩ := total (around := around) (rep_costs (s := s) (tn := t)) h1 h2
    rw [tot_few h1 (by omega)] at t1 t2
    have hnn := cnt_nonneg (T := repT s t) (around := around) h2
    simp (decide := true) (disch := first | omega | rfl) only [↓SD, SP, opE, fget, binA, Nat.reduceEqDiff, reduceIte, again, stepV, wanted, resE, resL, resU, wr, rd, known, fillE, U.cells]
    refine Wo.callR (by simp (decide := true) (disch := first | omega | rfl) only [↓SD, SP, opE, fget, binA, Nat.reduceEqDiff, reduceIte, again, stepV, wanted, resE, resL, resU, wr, rd, known, fillE, U.cells]; try rfl) (repainted_ok hi h561 h1 h2 (by omega)) ?_
    rintro _ m2 ⟨⟨b, c, rfl, hb, hlo⟩, he2⟩
    simp (decide := true) (disch := first | omega | rfl) only [↓SD, SP, opE, fget, binA, Nat.reduceEqDiff, reduceIte, again, stepV, wanted, resE, resL, resU, wr, rd, known, fillE, U.cells]
    refine Wo.callR (by simp (decide := true) (disch := first | omega | rfl) only [↓SD, SP, opE, fget, binA, Nat.reduceEqDiff, reduceIte, again, stepV, wanted, resE, resL, resU, wr, rd, known, fillE, U.cells]; try rfl) (look_ok (around := around) hi.look hi.fixed hi.clone hi.line hb (by omega) h2 (rep_costs (s := s) (tn := t)).nn) ?_
    rintro _ m3 ⟨rfl, he3⟩
    by_cases h0 : cntT (repT s t) s.length around = 0
    · have d : (cntT (repT s t) s.length around == 0) = true := by simpa using h0
      simp (decide := true) (disch := first | omega | rfl) only [↓SD, SP, opE, fget, binA, Nat.reduceEqDiff, reduceIte, again, stepV, wanted, resE, resL, resU, wr, rd, known, fillE, U.cells, d]
      exact ⟨_, rfl, by rw [if_neg (fun h => by first | (have := t1.2 h; omega) | (have := t1.2 h.2; omega))]⟩
    · have d : (cntT (repT s t) s.length around == 0) = false := by simpa using h0
      have hp : 0 < cntT (repT s t) s.length around := by omega
      rw [t2 hp]
      simp (decide := true) (disch := first | omega | rfl) only [↓SD, SP, opE, fget, binA, Nat.reduceEqDiff, reduceIte, again, stepV, wanted, resE, resL, resU, wr, rd, known, fillE, U.cells, d]
      exact ⟨_, rfl, by first | rfl | rw [if_pos ⟨rfl, t1.1 hp⟩]⟩

theorem specFw_ok (hs : ColS0 G) (hb : ColB G) (h715 : G 715 = some (.code spec_stGood)) (h559 : G 559 = some (.code spec_coFewest)) (h892 : G 892 = some (.code spec_coRepaint)) (hG : G 77 = some (.code spec_FewestRepaints)) {m : Mem} {s : List UInt8} {t : Int} {around : Bool} :
    Rn G 77 [V.s s, V.i t, V.b around] m fun v m' => v = fwV s t around := by
  refine Rn.code hG ?_
  unfold spec_FewestRepaints fwV
  simp (decide := true) (disch := first | omega | rfl) only [↓SD, SP, opE, fget, binA, Nat.reduceEqDiff, reduceIte, again, stepV, wanted, resE, resL, resU, wr, rd, known, fillE, U.cells]
  refine Wo.callR (by simp (decide := true) (disch := first | omega | rfl) only [↓SD, SP, opE, fget, binA, Nat.reduceEqDiff, reduceIte, again, stepV, wanted, resE, resL, resU, wr, rd, known, fillE, U.cells]; try rfl) (coFence_ok hs h715 hb.coFence) ?_
  rintro _ m1 ⟨rfl, rfl⟩
  have e : filledB s t around = (stoodB s around && tintsB t) := rfl
  rw [e]
  cases hs1 : stoodB s around with
  | false =>
    simp (decide := true) (disch := first | omega | rfl) only [↓SD, SP, opE, fget, binA, Nat.reduceEqDiff, reduceIte, again, stepV, wanted, resE, resL, resU, wr, rd, known, fillE, U.cells]
    exact ⟨_, rfl, by rw [if_neg (by simp)]⟩
  | true =>
    simp (decide := true) (disch := first | omega | rfl) only [↓SD, SP, opE, fget, binA, Nat.reduceEqDiff, reduceIte, again, stepV, wanted, resE, resL, resU, wr, rd, known, fillE, U.cells]
    refine Wo.callR (by simp (decide := true) (disch := first | omega | rfl) only [↓SD, SP, opE, fget, binA, Nat.reduceEqDiff, reduceIte, again, stepV, wanted, resE, resL, resU, wr, rd, known, fillE, U.cells]; try rfl) (coTints_ok hs) ?_
    rintro _ m1 ⟨rfl, rfl⟩
    cases hs2 : tintsB t with
    | false =>
      simp (decide := true) (disch := first | omega | rfl) only [↓SD, SP, opE, fget, binA, Nat.reduceEqDiff, reduceIte, again, stepV, wanted, resE, resL, resU, wr, rd, known, fillE, U.cells]
      exact ⟨_, rfl, by rw [if_neg (by simp)]⟩
    | true =>
      obtain ⟨⟨h1, h2⟩, h3, ⟨h4, h5⟩, h6⟩ := filledB_spec (by rw [e, hs1, hs2]; rfl : filledB s t around = true)
      obtain ⟨t, rfl⟩ := Int.eq_ofNat_of_zero_le (show 0 ≤ t by omega)
      simp (decide := true) (disch := first | omega | rfl) only [↓SD, SP, opE, fget, binA, Nat.reduceEqDiff, reduceIte, again, stepV, wanted, resE, resL, resU, wr, rd, known, fillE, U.cells]
      refine Wo.callR (by simp (decide := true) (disch := first | omega | rfl) only [↓SD, SP, opE, fget, binA, Nat.reduceEqDiff, reduceIte, again, stepV, wanted, resE, resL, resU, wr, rd, known, fillE, U.cells]; try rfl) (coFewest0_ok (T := t) (around := around) h892 h559 h1 h2 (by omega) (by omega)) ?_
      rintro _ m3 ⟨rfl, he3⟩
      simp (decide := true) (disch := first | omega | rfl) only [↓SD, SP, opE, fget, binA, Nat.reduceEqDiff, reduceIte, again, stepV, wanted, resE, resL, resU, wr, rd, known, fillE, U.cells]
      by_cases h0 : fewT s t around < 0
      · have d : decide (fewT s t around < 0) = true := decide_eq_true h0
        simp (decide := true) (disch := first | omega | rfl) only [↓SD, SP, opE, fget, binA, Nat.reduceEqDiff, reduceIte, again, stepV, wanted, resE, resL, resU, wr, rd, known, fillE, U.cells, d]
        exact ⟨_, rfl, by rw [if_neg (fun h => by omega)]⟩
      · have d : decide (fewT s t around < 0) = false := decide_eq_false h0
        simp (decide := true) (disch := first | omega | rfl) only [↓SD, SP, opE, fget, binA, Nat.reduceEqDiff, reduceIte, again, stepV, wanted, resE, resL, resU, wr, rd, known, fillE, U.cells, d]
        exact ⟨_, rfl, by first | rfl | rw [if_pos ⟨rfl, by omega⟩]⟩

theorem lawFw (hi : ColI G) (hs : ColS0 G) (hf : ColF G) (hb : ColB G) (h561 : G 561 = some (.code impl_repainted)) (h78 : G 78 = some (.code impl_FewestRepaints)) (h715 : G 715 = some (.code spec_stGood)) (h559 : G 559 = some (.code spec_coFewest)) (h892 : G 892 = some (.code spec_coRepaint)) (h77 : G 77 = some (.code spec_FewestRepaints))
    (h11 : G 11 = some (.code laws_FnExactFewestRepaints)) {s : List UInt8} {t : Int} {around : Bool} : ∃ k m', run G k 11 [V.s s, V.i t, V.b around] [] = some (V.b true, m') :=
  law3 (x := 77) (y := 78) (val := fwV s t around) h11 (.inl (by unfold fwV; split <;> exact ⟨_, _, rfl⟩)) (fun _ _ => specFw_ok hs hb h715 h559 h892 h77) (fun _ _ => implFw_ok hi hf hb h561 h78)
end Go.AL
