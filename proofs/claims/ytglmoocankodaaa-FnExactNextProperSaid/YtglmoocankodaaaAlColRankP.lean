/-
  RankOfProper and NextProper on both sides.
-/
import Derived.Test.YtglmoocankodaaaAlColRank2
import Derived.Test.YtglmoocankodaaaAlColFillP
namespace Go.AL
set_option linter.unusedSimpArgs false
set_option linter.unusedVariables false
open F
set_option linter.unusedSimpArgs false
set_option linter.unusedVariables false
variable {G : Env}

set_option maxHeartbeats 1000000 in
theorem coRank_ok (hs' : ColS G) (hB : G 538 = some (.code spec_coBare)) (hW : G 891 = some (.code spec_coWith)) (hG : G 583 = some (.code spec_coRank)) {m : Mem} {s : List UInt8} {t : Nat} {around : Bool} (h1 : 1 ≤ s.length) (hs : s.length ≤ 20) (hT : t ≤ 5) (hbd : ∀ x ∈ s, boardB x = true) (hp : properB s around = true) (hin : allIn s t) :
    Rn G 583 [V.s s, V.i t, V.b around] m fun v m' => v = V.i (rankR s.length t around (colS s) s.length) ∧ Ext m m' := by
  refine Rn.code hG ?_
  unfold spec_coRank
  simp (decide := true) (disch := first | omega | rfl) only [↓SD, SP, opE, fget, binA, Nat.reduceEqDiff, reduceIte, again, stepV, wanted, resE, resL, resU, wr, rd, known, fillE, U.cells]
  refine Wo.callR (by simp (decide := true) (disch := first | omega | rfl) only [↓SD, SP, opE, fget, binA, Nat.reduceEqDiff, reduceIte, again, stepV, wanted, resE, resL, resU, wr, rd, known, fillE, U.cells]; try rfl) (coBare_ok hB (by omega)) ?_
  rintro _ m ⟨rfl, rfl⟩
  simp (decide := true) (disch := first | omega | rfl) only [↓SD, SP, opE, fget, binA, Nat.reduceEqDiff, reduceIte, again, stepV, wanted, resE, resL, resU, wr, rd, known, fillE, U.cells]
  refine Wc.loopN (fun i f q => fget f 16 = V.a (.ptr m.length 0) ∧ fget f 0 = V.s s ∧ fget f 1 = V.i t ∧ fget f 2 = V.b around ∧ fget f 7 = V.i (rankR s.length t around (colS s) i) ∧ fget f 8 = V.s (nowS (bare s.length) (colS s) i) ∧ Ext m q ∧ q[m.length]? = some (.iter s i)) s.length (fun i f q hil hS => ?_)
    ⟨(by simp (decide := true) (disch := first | omega | rfl) only [↓SD, SP, opE, fget, binA, Nat.reduceEqDiff, reduceIte, again, stepV, wanted, resE, resL, resU, wr, rd, known, fillE, U.cells]; try rfl), (by simp (decide := true) (disch := first | omega | rfl) only [↓SD, SP, opE, fget, binA, Nat.reduceEqDiff, reduceIte, again, stepV, wanted, resE, resL, resU, wr, rd, known, fillE, U.cells]; try rfl), (by simp (decide := true) (disch := first | omega | rfl) only [↓SD, SP, opE, fget, binA, Nat.reduceEqDiff, reduceIte, again, stepV, wanted, resE, resL, resU, wr, rd, known, fillE, U.cells]; try rfl), (by simp (decide := true) (disch := first | omega | rfl) only [↓SD, SP, opE, fget, binA, Nat.reduceEqDiff, reduceIte, again, stepV, wanted, resE, resL, resU, wr, rd, known, fillE, U.cells]; try rfl), (by simp (decide := true) (disch := first | omega | rfl) only [↓SD, SP, opE, fget, binA, Nat.reduceEqDiff, reduceIte, again, stepV, wanted, resE, resL, resU, wr, rd, known, fillE, U.cells]; try rfl), by simp (decide := true) (disch := first | omega | rfl) only [↓SD, SP, opE, fget, binA, Nat.reduceEqDiff, reduceIte, again, stepV, wanted, resE, resL, resU, wr, rd, known, fillE, U.cells, nowS_zero], Ext.push _ _, by simp⟩
  obtain ⟨h16, h0, h1', h2, h7, h8, he, hq⟩ := hS
  have lq := lt_of_get hq
  unfold spec_coRank_L0
  by_cases hi' : i < s.length
  · have hsi : s[i]? = some s[i] := List.getElem?_eq_getElem hi'
    have hasc' := boards_ascii hbd s[i] (List.getElem_mem hi')
    obtain ⟨g1, g2, g3, g4, g5⟩ := has_spec hbd hp hi'
    have hw : IntKind.i64.wrap ((colS s i : Nat) : Int) = colS s i := by rw [IntKind.wrap_i64]; omega
    have hci := hin i hi'
    have hpr : Pr s.length t (colS s) i := ⟨fun j hj => hin j (by omega), fun j h0 hj => (has_spec hbd hp hj).2.2.2.2 h0⟩
    have heq : Ext m (q.set m.length (.iter s (i + 1))) := he.set (Nat.le_refl _)
    simp (decide := true) (disch := first | omega | rfl) only [↓SD, SP, opE, fget, binA, Nat.reduceEqDiff, reduceIte, again, stepV, wanted, resE, resL, resU, wr, rd, known, fillE, U.cells, h16, hq, hsi, h0, g4]
    refine (coRank_L1 (s := s) (t := t) (i := i) (around := around) hs' hW hT hs hi' hbd hp hpr hci (by simp (decide := true) (disch := first | omega | rfl) only [↓SD, SP, opE, fget, binA, Nat.reduceEqDiff, reduceIte, again, stepV, wanted, resE, resL, resU, wr, rd, known, fillE, U.cells, h0]) (by simp (decide := true) (disch := first | omega | rfl) only [↓SD, SP, opE, fget, binA, Nat.reduceEqDiff, reduceIte, again, stepV, wanted, resE, resL, resU, wr, rd, known, fillE, U.cells, h1']) (by simp (decide := true) (disch := first | omega | rfl) only [↓SD, SP, opE, fget, binA, Nat.reduceEqDiff, reduceIte, again, stepV, wanted, resE, resL, resU, wr, rd, known, fillE, U.cells, h2]) (by simp (decide := true) (disch := first | omega | rfl) only [↓SD, SP, opE, fget, binA, Nat.reduceEqDiff, reduceIte, again, stepV, wanted, resE, resL, resU, wr, rd, known, fillE, U.cells]) (by simp (decide := true) (disch := first | omega | rfl) only [↓SD, SP, opE, fget, binA, Nat.reduceEqDiff, reduceIte, again, stepV, wanted, resE, resL, resU, wr, rd, known, fillE, U.cells]) (by simp (decide := true) (disch := first | omega | rfl) only [↓SD, SP, opE, fget, binA, Nat.reduceEqDiff, reduceIte, again, stepV, wanted, resE, resL, resU, wr, rd, known, fillE, U.cells]) (by simp (decide := true) (disch := first | omega | rfl) only [↓SD, SP, opE, fget, binA, Nat.reduceEqDiff, reduceIte, again, stepV, wanted, resE, resL, resU, wr, rd, known, fillE, U.cells, h7]) (by simp (decide := true) (disch := first | omega | rfl) only [↓SD, SP, opE, fget, binA, Nat.reduceEqDiff, reduceIte, again, stepV, wanted, resE, resL, resU, wr, rd, known, fillE, U.cells, h8])).mono ?_
    rintro e f' q' ⟨rfl, he', g7, hk⟩
    have j16 := hk 16 (by decide); have j0 := hk 0 (by decide); have j1 := hk 1 (by decide); have j2 := hk 2 (by decide); have j8 := hk 8 (by decide); have j9 := hk 9 (by decide); have j10 := hk 10 (by decide)
    simp (decide := true) only [↓SD, SP, opE, fget, binA, Nat.reduceEqDiff, reduceIte, again, stepV, wanted, resE, resL, resU, wr, rd, known, fillE, U.cells, h16, h0, h1', h2, h8] at j16 j0 j1 j2 j8 j9 j10
    simp (decide := true) (disch := first | omega | rfl) only [↓SD, SP, opE, fget, binA, Nat.reduceEqDiff, reduceIte, again, stepV, wanted, resE, resL, resU, wr, rd, known, fillE, U.cells, j8, j9, j10]
    refine Wo.callR (by simp (decide := true) (disch := first | omega | rfl) only [↓SD, SP, opE, fget, binA, Nat.reduceEqDiff, reduceIte, again, stepV, wanted, resE, resL, resU, wr, rd, known, fillE, U.cells]; try rfl) (coWith_ok (s := bare s.length) (p := colS s) (i := i) (c := colS s i) hW (by simp; omega) (by simp; omega) (by omega)) ?_
    rintro _ m2 ⟨rfl, rfl⟩
    rw [put1_id]
    simp (decide := true) (disch := first | omega | rfl) only [↓SD, SP, opE, fget, binA, Nat.reduceEqDiff, reduceIte, again, stepV, wanted, resE, resL, resU, wr, rd, known, fillE, U.cells, j16, j0, j1, j2, g7]
    have hq' : m2[m.length]? = some (.iter s (i + 1)) := he'.get (by simp (decide := true) (disch := first | omega | rfl) only [↓SD, SP, opE, fget, binA, Nat.reduceEqDiff, reduceIte, again, stepV, wanted, resE, resL, resU, wr, rd, known, fillE, U.cells])
    exact ⟨hi', heq.trans he', hq'⟩
  · have : i = s.length := by omega
    subst this
    have hsi : s[s.length]? = none := List.getElem?_eq_none (Nat.le_refl _)
    simp (decide := true) (disch := first | omega | rfl) only [↓SD, SP, opE, fget, binA, Nat.reduceEqDiff, reduceIte, again, stepV, wanted, resE, resL, resU, wr, rd, known, fillE, U.cells, h16, hq, hsi, h7]
    exact ⟨_, rfl, rfl, he⟩

theorem below_all {s : List UInt8} {t : Nat} {around : Bool} (hbd : ∀ x ∈ s, boardB x = true) (hp : properB s around = true) : s.all (belowC t) = true ↔ allIn s t := by
  have hc : ∀ j, (hj : j < s.length) → (belowC t s[j] = true ↔ colS s j < t) := by
    intro j hj
    have g4 := (has_spec hbd hp hj).2.2.2.1
    unfold belowC
    rw [g4]
    simp
  constructor
  · intro h j hj
    exact (hc j hj).1 (List.all_eq_true.1 h _ (List.getElem_mem hj))
  · intro h
    apply List.all_eq_true.2
    intro x hx
    obtain ⟨j, hj, rfl⟩ := List.getElem_of_mem hx
    exact (hc j hj).2 (h j hj)

def ropB (s : List UInt8) (t : Int) (around : Bool) : Bool := filledB s t around && hasB s t around
def ropV (s : List UInt8) (t : Int) (around : Bool) : V := if ropB s t around = true then .t [.a (.int .i64 (rankR s.length t.toNat around (colS s) s.length)), .a (.bool true)] else .t [.a (.int .i64 0), .a (.bool false)]

structure ColD (G : Env) : Prop where
  isStood : G 584 = some (.code impl_isStood)
  coFence : G 557 = some (.code spec_coFence)
structure ColR (G : Env) : Prop where
  isProper : G 586 = some (.code impl_isProper)
  rank : G 587 = some (.code impl_rank)
  count : G 541 = some (.code impl_table_count)
  coProper : G 680 = some (.code spec_coProper)
  coHas : G 582 = some (.code spec_coHas)
  coRank : G 583 = some (.code spec_coRank)
  coWith : G 891 = some (.code spec_coWith)
  iRop : G 119 = some (.code impl_RankOfProper)
  sRop : G 118 = some (.code spec_RankOfProper)

theorem implRop_ok (hi : ColI G) (hf : ColF G) (hb : ColD G) (hr : ColR G) {m : Mem} {s : List UInt8} {t : Int} {around : Bool} :
    Rn G 119 [V.s s, V.i t, V.b around] m fun v m' => v = ropV s t around := by
  refine Rn.code hr.iRop ?_
  unfold impl_RankOfProper ropV ropB
  simp (decide := true) (disch := first | omega | rfl) only [↓SD, SP, opE, fget, binA, Nat.reduceEqDiff, reduceIte, again, stepV, wanted, resE, resL, resU, wr, rd, known, fillE, U.cells]
  refine Wo.callR (by simp (decide := true) (disch := first | omega | rfl) only [↓SD, SP, opE, fget, binA, Nat.reduceEqDiff, reduceIte, again, stepV, wanted, resE, resL, resU, wr, rd, known, fillE, U.cells]; try rfl) (isStood_ok hi hf hb.isStood) ?_
  rintro _ m1 ⟨rfl, he⟩
  have e : filledB s t around = (stoodB s around && tintsB t) := rfl
  rw [e]
  cases hs1 : stoodB s around with
  | false =>
    simp (decide := true) (disch := first | omega | rfl) only [↓SD, SP, opE, fget, binA, Nat.reduceEqDiff, reduceIte, again, stepV, wanted, resE, resL, resU, wr, rd, known, fillE, U.cells]
    exact ⟨_, rfl, rfl⟩
  | true =>
    simp (decide := true) (disch := first | omega | rfl) only [↓SD, SP, opE, fget, binA, Nat.reduceEqDiff, reduceIte, again, stepV, wanted, resE, resL, resU, wr, rd, known, fillE, U.cells]
    refine Wo.callR (by simp (decide := true) (disch := first | omega | rfl) only [↓SD, SP, opE, fget, binA, Nat.reduceEqDiff, reduceIte, again, stepV, wanted, resE, resL, resU, wr, rd, known, fillE, U.cells]; try rfl) (isTints_ok hi) ?_
    rintro _ m1 ⟨rfl, rfl⟩
    cases hs2 : tintsB t with
    | false =>
      simp (decide := true) (disch := first | omega | rfl) only [↓SD, SP, opE, fget, binA, Nat.reduceEqDiff, reduceIte, again, stepV, wanted, resE, resL, resU, wr, rd, known, fillE, U.cells]
      exact ⟨_, rfl, rfl⟩
    | true =>
      obtain ⟨⟨g1, g2⟩, h3, ⟨h4, h5⟩, h6⟩ := filledB_spec (by rw [e, hs1, hs2]; rfl : filledB s t around = true)
      obtain ⟨t, rfl⟩ := Int.eq_ofNat_of_zero_le (show 0 ≤ t by omega)
      simp (decide := true) (disch := first | omega | rfl) only [↓SD, SP, opE, fget, binA, Nat.reduceEqDiff, reduceIte, again, stepV, wanted, resE, resL, resU, wr, rd, known, fillE, U.cells]
      refine Wo.callR (by simp (decide := true) (disch := first | omega | rfl) only [↓SD, SP, opE, fget, binA, Nat.reduceEqDiff, reduceIte, again, stepV, wanted, resE, resL, resU, wr, rd, known, fillE, U.cells]; try rfl) (isProper_ok hr.isProper g1 g2) ?_
      rintro _ m1 ⟨rfl, rfl⟩
      cases hp : properB s around with
      | false =>
        simp (decide := true) (disch := first | omega | rfl) only [↓SD, SP, opE, fget, binA, Nat.reduceEqDiff, reduceIte, again, stepV, wanted, resE, resL, resU, wr, rd, known, fillE, U.cells]
        refine ⟨_, rfl, ?_⟩
        unfold hasB; rw [hp]; rfl
      | true =>
        simp (decide := true) (disch := first | omega | rfl) only [↓SD, SP, opE, fget, binA, Nat.reduceEqDiff, reduceIte, again, stepV, wanted, resE, resL, resU, wr, rd, known, fillE, U.cells]
        refine Wo.callR (by simp (decide := true) (disch := first | omega | rfl) only [↓SD, SP, opE, fget, binA, Nat.reduceEqDiff, reduceIte, again, stepV, wanted, resE, resL, resU, wr, rd, known, fillE, U.cells]; try rfl) (rank_ok (around := around) (t := t) hi hr.count hr.rank g1 g2 (by omega) h3 hp) ?_
        rintro _ m1 ⟨⟨hin, rfl⟩ | ⟨hin, rfl⟩, he⟩
        · simp (decide := true) (disch := first | omega | rfl) only [↓SD, SP, opE, fget, binA, Nat.reduceEqDiff, reduceIte, again, stepV, wanted, resE, resL, resU, wr, rd, known, fillE, U.cells]
          refine ⟨_, rfl, ?_⟩
          have : hasB s t around = true := by unfold hasB; rw [hp, (below_all h3 hp).2 hin]; rfl
          rw [this]; rfl
        · simp (decide := true) (disch := first | omega | rfl) only [↓SD, SP, opE, fget, binA, Nat.reduceEqDiff, reduceIte, again, stepV, wanted, resE, resL, resU, wr, rd, known, fillE, U.cells]
          refine ⟨_, rfl, ?_⟩
          have : hasB s t around = false := by
            unfold hasB; rw [hp, Bool.true_and]
            cases hb : s.all (belowC t) with
            | false => rfl
            | true => exact absurd ((below_all h3 hp).1 hb) hin
          rw [this]; rfl

theorem specRop_ok (hs : ColS G) (hB : G 538 = some (.code spec_coBare)) (hb : ColD G) (hr : ColR G) (h715 : G 715 = some (.code spec_stGood)) {m : Mem} {s : List UInt8} {t : Int} {around : Bool} :
    Rn G 118 [V.s s, V.i t, V.b around] m fun v m' => v = ropV s t around := by
  refine Rn.code hr.sRop ?_
  unfold spec_RankOfProper ropV ropB
  simp (decide := true) (disch := first | omega | rfl) only [↓SD, SP, opE, fget, binA, Nat.reduceEqDiff, reduceIte, again, stepV, wanted, resE, resL, resU, wr, rd, known, fillE, U.cells]
  refine Wo.callR (by simp (decide := true) (disch := first | omega | rfl) only [↓SD, SP, opE, fget, binA, Nat.reduceEqDiff, reduceIte, again, stepV, wanted, resE, resL, resU, wr, rd, known, fillE, U.cells]; try rfl) (coFence_ok hs.toColS0 h715 hb.coFence) ?_
  rintro _ m1 ⟨rfl, rfl⟩
  have e : filledB s t around = (stoodB s around && tintsB t) := rfl
  rw [e]
  cases hs1 : stoodB s around with
  | false =>
    simp (decide := true) (disch := first | omega | rfl) only [↓SD, SP, opE, fget, binA, Nat.reduceEqDiff, reduceIte, again, stepV, wanted, resE, resL, resU, wr, rd, known, fillE, U.cells]
    exact ⟨_, rfl, rfl⟩
  | true =>
    simp (decide := true) (disch := first | omega | rfl) only [↓SD, SP, opE, fget, binA, Nat.reduceEqDiff, reduceIte, again, stepV, wanted, resE, resL, resU, wr, rd, known, fillE, U.cells]
    refine Wo.callR (by simp (decide := true) (disch := first | omega | rfl) only [↓SD, SP, opE, fget, binA, Nat.reduceEqDiff, reduceIte, again, stepV, wanted, resE, resL, resU, wr, rd, known, fillE, U.cells]; try rfl) (coTints_ok hs.toColS0) ?_
    rintro _ m1 ⟨rfl, rfl⟩
    cases hs2 : tintsB t with
    | false =>
      simp (decide := true) (disch := first | omega | rfl) only [↓SD, SP, opE, fget, binA, Nat.reduceEqDiff, reduceIte, again, stepV, wanted, resE, resL, resU, wr, rd, known, fillE, U.cells]
      exact ⟨_, rfl, rfl⟩
    | true =>
      obtain ⟨⟨g1, g2⟩, h3, ⟨h4, h5⟩, h6⟩ := filledB_spec (by rw [e, hs1, hs2]; rfl : filledB s t around = true)
      obtain ⟨t, rfl⟩ := Int.eq_ofNat_of_zero_le (show 0 ≤ t by omega)
      simp (decide := true) (disch := first | omega | rfl) only [↓SD, SP, opE, fget, binA, Nat.reduceEqDiff, reduceIte, again, stepV, wanted, resE, resL, resU, wr, rd, known, fillE, U.cells]
      refine Wo.callR (by simp (decide := true) (disch := first | omega | rfl) only [↓SD, SP, opE, fget, binA, Nat.reduceEqDiff, reduceIte, again, stepV, wanted, resE, resL, resU, wr, rd, known, fillE, U.cells]; try rfl) (coHas_ok hr.coProper hr.coHas g1 g2 (boards_ascii h3)) ?_
      rintro _ m1 ⟨rfl, he1⟩
      cases hh : hasB s t around with
      | false =>
        simp (decide := true) (disch := first | omega | rfl) only [↓SD, SP, opE, fget, binA, Nat.reduceEqDiff, reduceIte, again, stepV, wanted, resE, resL, resU, wr, rd, known, fillE, U.cells]
        all_goals (exact ⟨_, rfl, rfl⟩)
      | true =>
        have hh' := hh
        unfold hasB at hh'
        simp only [Bool.and_eq_true] at hh'
        simp (decide := true) (disch := first | omega | rfl) only [↓SD, SP, opE, fget, binA, Nat.reduceEqDiff, reduceIte, again, stepV, wanted, resE, resL, resU, wr, rd, known, fillE, U.cells]
        refine Wo.callR (by simp (decide := true) (disch := first | omega | rfl) only [↓SD, SP, opE, fget, binA, Nat.reduceEqDiff, reduceIte, again, stepV, wanted, resE, resL, resU, wr, rd, known, fillE, U.cells]; try rfl) (coRank_ok (around := around) (t := t) hs hB hr.coWith hr.coRank g1 g2 (by omega) h3 hh'.1 ((below_all h3 hh'.1).1 hh'.2)) ?_
        rintro _ m1 ⟨rfl, he⟩
        simp (decide := true) (disch := first | omega | rfl) only [↓SD, SP, opE, fget, binA, Nat.reduceEqDiff, reduceIte, again, stepV, wanted, resE, resL, resU, wr, rd, known, fillE, U.cells]
        exact ⟨_, rfl, rfl⟩

theorem lawRop (hi : ColI G) (hs : ColS G) (hB : G 538 = some (.code spec_coBare)) (hf : ColF G) (hb : ColD G) (hr : ColR G) (h715 : G 715 = some (.code spec_stGood))
    (h18 : G 18 = some (.code laws_FnExactRankOfProper)) {s : List UInt8} {t : Int} {around : Bool} : ∃ k m', run G k 18 [V.s s, V.i t, V.b around] [] = some (V.b true, m') :=
  law3 (x := 118) (y := 119) (val := ropV s t around) h18 (.inl (by unfold ropV; split <;> exact ⟨_, _, rfl⟩)) (fun _ _ => specRop_ok hs hB hb hr h715) (fun _ _ => implRop_ok hi hf hb hr)

def nextV (s : List UInt8) (t : Int) (around : Bool) : V := if ropB s t around = true then porV s.length t around (rankR s.length t.toNat around (colS s) s.length + 1) else .t [.a (.str []), .a (.bool false)]
theorem porV_is (n t : Int) (around : Bool) (r : Int) : ∃ x y, porV n t around r = .t [.a (.str x), .a (.bool y)] := by
  unfold porV; split <;> exact ⟨_, _, rfl⟩
theorem rop_spec {s : List UInt8} {t : Int} {around : Bool} (h : ropB s t around = true) : (1 ≤ s.length ∧ s.length ≤ 20) ∧ (1 ≤ t ∧ t ≤ 5) ∧ (around = true → 3 ≤ s.length) ∧ askB s.length t around = true ∧ 0 ≤ rankR s.length t.toNat around (colS s) s.length ∧ rankR s.length t.toNat around (colS s) s.length ≤ 2500000000000000000 := by
  unfold ropB at h
  simp only [Bool.and_eq_true] at h
  obtain ⟨hf, hh⟩ := h
  obtain ⟨⟨g1, g2⟩, h3, ⟨h4, h5⟩, h6⟩ := filledB_spec hf
  refine ⟨⟨g1, g2⟩, ⟨h4, h5⟩, h6, ?_, ?_⟩
  · unfold filledB stoodB at hf
    simp only [Bool.and_eq_true] at hf
    unfold askB; rw [hf.1.2, hf.2]; rfl
  · obtain ⟨t, rfl⟩ := Int.eq_ofNat_of_zero_le (show 0 ≤ t by omega)
    unfold hasB at hh
    simp only [Bool.and_eq_true] at hh
    have hin := (below_all h3 hh.1).1 hh.2
    have hpr : Pr s.length t (colS s) s.length := ⟨hin, fun j h0 hj => (has_spec h3 hh.1 hj).2.2.2.2 h0⟩
    have hb := rank_bound (around := around) g2 (show t ≤ 5 by omega) s.length (Nat.le_refl _) hpr
    have hr := remain_nonneg (s := bare s.length) (t := t) (i := s.length) (around := around) (p := colS s) (by omega) (by simp; omega)
    have hF := fromF_le (s := bare s.length) (t := t) (around := around) (by omega) (by simp; omega)
    show 0 ≤ rankR s.length t around (colS s) s.length ∧ rankR s.length t around (colS s) s.length ≤ 2500000000000000000
    omega

theorem implNext_ok (hi : ColI G) (hf : ColF G) (hb : ColD G) (hr : ColR G) (h556 : G 556 = some (.code impl_ofRank)) (hG : G 128 = some (.code impl_NextProper)) {m : Mem} {s : List UInt8} {t : Int} {around : Bool} (hl : s.length ≤ 1048576) :
    Rn G 128 [V.s s, V.i t, V.b around] m fun v m' => v = nextV s t around := by
  refine Rn.code hG ?_
  unfold impl_NextProper nextV
  simp (decide := true) (disch := first | omega | rfl) only [↓SD, SP, opE, fget, binA, Nat.reduceEqDiff, reduceIte, again, stepV, wanted, resE, resL, resU, wr, rd, known, fillE, U.cells]
  refine Wo.callR (by simp (decide := true) (disch := first | omega | rfl) only [↓SD, SP, opE, fget, binA, Nat.reduceEqDiff, reduceIte, again, stepV, wanted, resE, resL, resU, wr, rd, known, fillE, U.cells]; try rfl) (implRop_ok hi hf hb hr) ?_
  rintro _ m1 rfl
  unfold ropV
  cases hq : ropB s t around with
  | false =>
    rw [if_neg (by simp)]
    simp (decide := true) (disch := first | omega | rfl) only [↓SD, SP, opE, fget, binA, Nat.reduceEqDiff, reduceIte, again, stepV, wanted, resE, resL, resU, wr, rd, known, fillE, U.cells]
    all_goals (exact ⟨_, rfl, rfl⟩)
  | true =>
    obtain ⟨⟨g1, g2⟩, ⟨h4, h5⟩, h6, h7, h8, h9⟩ := rop_spec hq
    obtain ⟨t, rfl⟩ := Int.eq_ofNat_of_zero_le (show 0 ≤ t by omega)
    have ht : ((t : Int)).toNat = t := rfl
    rw [ht] at h8 h9 ⊢
    rw [if_pos rfl]
    have hbl : (bare s.length).length = s.length := by simp
    have key := fun mm => ofRank_ok (G := G) (m := mm) (s := bare s.length) (T := t) (around := around) (r := rankR s.length t around (colS s) s.length + 1) hi hr.count h556 (by exact bare_tells) (by omega) (by omega) (by omega) (by rw [hbl]; exact h6) (by omega)
    simp only [hbl] at key
    simp (decide := true) (disch := first | omega | rfl) only [↓SD, SP, opE, fget, binA, Nat.reduceEqDiff, reduceIte, again, stepV, wanted, resE, resL, resU, wr, rd, known, fillE, U.cells]
    refine Wo.callR (by simp (decide := true) (disch := first | omega | rfl) only [↓SD, SP, opE, fget, binA, Nat.reduceEqDiff, reduceIte, again, stepV, wanted, resE, resL, resU, wr, rd, known, fillE, U.cells]; try rfl) (key _) ?_
    rintro _ m2 ⟨rfl, he2⟩
    unfold porV
    rw [h7]
    by_cases hok : 0 ≤ rankR s.length t around (colS s) s.length + 1 ∧ rankR s.length t around (colS s) s.length + 1 < fromF (bare s.length) t around
    · have hok' : true = true ∧ 0 ≤ rankR s.length t around (colS s) s.length + 1 ∧ rankR s.length t around (colS s) s.length + 1 < countF ((s.length : Int)).toNat ((t : Int)).toNat around := ⟨rfl, hok⟩
      rw [if_pos hok, if_pos hok']
      simp (decide := true) (disch := first | omega | rfl) only [↓SD, SP, opE, fget, binA, Nat.reduceEqDiff, reduceIte, again, stepV, wanted, resE, resL, resU, wr, rd, known, fillE, U.cells]
      exact ⟨_, rfl, rfl⟩
    · have hok' : ¬ (true = true ∧ 0 ≤ rankR s.length t around (colS s) s.length + 1 ∧ rankR s.length t around (colS s) s.length + 1 < countF ((s.length : Int)).toNat ((t : Int)).toNat around) := fun h => hok h.2
      rw [if_neg hok, if_neg hok']
      simp (decide := true) (disch := first | omega | rfl) only [↓SD, SP, opE, fget, binA, Nat.reduceEqDiff, reduceIte, again, stepV, wanted, resE, resL, resU, wr, rd, known, fillE, U.cells]
      all_goals (exact ⟨_, rfl, rfl⟩)

theorem specNext_ok (hs : ColS G) (hk : G 536 = some (.code spec_coAsked)) (hB : G 538 = some (.code spec_coBare)) (hb : ColD G) (hr : ColR G) (h715 : G 715 = some (.code spec_stGood)) (h555 : G 555 = some (.code spec_coRanked)) (h75 : G 75 = some (.code spec_ProperOfRank)) (hG : G 127 = some (.code spec_NextProper)) {m : Mem} {s : List UInt8} {t : Int} {around : Bool} :
    Rn G 127 [V.s s, V.i t, V.b around] m fun v m' => v = nextV s t around := by
  refine Rn.code hG ?_
  unfold spec_NextProper nextV
  simp (decide := true) (disch := first | omega | rfl) only [↓SD, SP, opE, fget, binA, Nat.reduceEqDiff, reduceIte, again, stepV, wanted, resE, resL, resU, wr, rd, known, fillE, U.cells]
  refine Wo.callR (by simp (decide := true) (disch := first | omega | rfl) only [↓SD, SP, opE, fget, binA, Nat.reduceEqDiff, reduceIte, again, stepV, wanted, resE, resL, resU, wr, rd, known, fillE, U.cells]; try rfl) (specRop_ok hs hB hb hr h715) ?_
  rintro _ m1 rfl
  unfold ropV
  cases hq : ropB s t around with
  | false =>
    rw [if_neg (by simp)]
    simp (decide := true) (disch := first | omega | rfl) only [↓SD, SP, opE, fget, binA, Nat.reduceEqDiff, reduceIte, again, stepV, wanted, resE, resL, resU, wr, rd, known, fillE, U.cells]
    all_goals (exact ⟨_, rfl, rfl⟩)
  | true =>
    obtain ⟨⟨g1, g2⟩, ⟨h4, h5⟩, h6, h7, h8, h9⟩ := rop_spec hq
    rw [if_pos rfl]
    simp (decide := true) (disch := first | omega | rfl) only [↓SD, SP, opE, fget, binA, Nat.reduceEqDiff, reduceIte, again, stepV, wanted, resE, resL, resU, wr, rd, known, fillE, U.cells]
    refine Wo.callR (by simp (decide := true) (disch := first | omega | rfl) only [↓SD, SP, opE, fget, binA, Nat.reduceEqDiff, reduceIte, again, stepV, wanted, resE, resL, resU, wr, rd, known, fillE, U.cells]; try rfl) (specPor_ok hs hk hB hr.coWith h555 h75) ?_
    rintro _ m2 ⟨rfl, he2⟩
    obtain ⟨x, y, hv⟩ := porV_is s.length t around (rankR s.length t.toNat around (colS s) s.length + 1)
    rw [hv]
    simp (decide := true) (disch := first | omega | rfl) only [↓SD, SP, opE, fget, binA, Nat.reduceEqDiff, reduceIte, again, stepV, wanted, resE, resL, resU, wr, rd, known, fillE, U.cells]
    exact ⟨_, rfl, rfl⟩

theorem lawNext (hi : ColI G) (hs : ColS G) (hk : G 536 = some (.code spec_coAsked)) (hB : G 538 = some (.code spec_coBare)) (hf : ColF G) (hb : ColD G) (hr : ColR G) (h715 : G 715 = some (.code spec_stGood)) (h556 : G 556 = some (.code impl_ofRank)) (h128 : G 128 = some (.code impl_NextProper)) (h555 : G 555 = some (.code spec_coRanked)) (h75 : G 75 = some (.code spec_ProperOfRank)) (h127 : G 127 = some (.code spec_NextProper))
    (h21 : G 21 = some (.code laws_FnExactNextProper)) {s : List UInt8} {t : Int} {around : Bool} : ∃ k m', run G k 21 [V.s s, V.i t, V.b around] [] = some (V.b true, m') :=
  law3 (x := 127) (y := 128) (val := nextV s t around) h21 (.inr (by unfold nextV; split; exact porV_is _ _ _ _; exact ⟨_, _, rfl⟩)) (fun _ _ => specNext_ok hs hk hB hb hr h715 h555 h75 h127) (fun hl _ => implNext_ok hi hf hb hr h556 h128 hl)
end Go.AL
