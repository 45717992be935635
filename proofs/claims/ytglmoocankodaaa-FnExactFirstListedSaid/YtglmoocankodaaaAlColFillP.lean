/-
  CountFills and FillProper on both sides.
-/
import Derived.Test.YtglmoocankodaaaAlColFill
namespace Go.AL
set_option linter.unusedSimpArgs false
set_option linter.unusedVariables false
open F
set_option linter.unusedSimpArgs false
set_option linter.unusedVariables false
variable {G : Env}

structure ColB (G : Env) : Prop where
  isStood : G 584 = some (.code impl_isStood)
  isFilled : G 560 = some (.code impl_isFilled)
  coFence : G 557 = some (.code spec_coFence)

theorem boards_ascii {s : List UInt8} (h : ∀ x ∈ s, boardB x = true) : ∀ ch ∈ s, ch.toNat < 128 := by
  intro x hx
  have := h x hx
  rw [boardB_int] at this
  simp at this
  omega

def cfV (s : List UInt8) (t : Int) (around : Bool) : V := if filledB s t around = true then .t [.a (.int .i64 (fromF s t.toNat around)), .a (.bool true)] else .t [.a (.int .i64 0), .a (.bool false)]
def fpV (s : List UInt8) (t : Int) (around : Bool) : V := if filledB s t around = true ∧ 0 < fromF s t.toNat around then .t [.a (.str (nowS s (walkR s t.toNat around 0 s.length).1 s.length)), .a (.bool true)] else .t [.a (.str []), .a (.bool false)]

theorem implCf_ok (hi : ColI G) (hf : ColF G) (hb : ColB G) (h564 : G 564 = some (.code impl_filled)) (h541 : G 541 = some (.code impl_table_count)) (hG : G 80 = some (.code impl_CountFills)) {m : Mem} {s : List UInt8} {t : Int} {around : Bool} :
    Rn G 80 [V.s s, V.i t, V.b around] m fun v m' => v = cfV s t around := by
  refine Rn.code hG ?_
  unfold impl_CountFills cfV
  simp (decide := true) (disch := first | omega | rfl) only [↓SD, SP, opE, fget, binA, Nat.reduceEqDiff, reduceIte, again, stepV, wanted, resE, resL, resU, wr, rd, known, fillE, U.cells]
  refine Wo.callR (by simp (decide := true) (disch := first | omega | rfl) only [↓SD, SP, opE, fget, binA, Nat.reduceEqDiff, reduceIte, again, stepV, wanted, resE, resL, resU, wr, rd, known, fillE, U.cells]; try rfl) (isFilled_ok hi hf hb.isStood hb.isFilled) ?_
  rintro _ m1 ⟨rfl, he⟩
  simp (decide := true) (disch := first | omega | rfl) only [↓SD, SP, opE, fget, binA, Nat.reduceEqDiff, reduceIte, again, stepV, wanted, resE, resL, resU, wr, rd, known, fillE, U.cells]
  cases hq : filledB s t around with
  | false =>
    simp (decide := true) (disch := first | omega | rfl) only [↓SD, SP, opE, fget, binA, Nat.reduceEqDiff, reduceIte, again, stepV, wanted, resE, resL, resU, wr, rd, known, fillE, U.cells]
    all_goals (exact ⟨_, rfl, rfl⟩)
  | true =>
    obtain ⟨⟨h1, h2⟩, h3, ⟨h4, h5⟩, h6⟩ := filledB_spec hq
    obtain ⟨t, rfl⟩ := Int.eq_ofNat_of_zero_le (show 0 ≤ t by omega)
    simp (decide := true) (disch := first | omega | rfl) only [↓SD, SP, opE, fget, binA, Nat.reduceEqDiff, reduceIte, again, stepV, wanted, resE, resL, resU, wr, rd, known, fillE, U.cells]
    refine Wo.callR (by simp (decide := true) (disch := first | omega | rfl) only [↓SD, SP, opE, fget, binA, Nat.reduceEqDiff, reduceIte, again, stepV, wanted, resE, resL, resU, wr, rd, known, fillE, U.cells]; try rfl) (filled_ok hi h564 h1 h2) ?_
    rintro _ m2 ⟨⟨b, c, rfl, hb, hlo⟩, he2⟩
    simp (decide := true) (disch := first | omega | rfl) only [↓SD, SP, opE, fget, binA, Nat.reduceEqDiff, reduceIte, again, stepV, wanted, resE, resL, resU, wr, rd, known, fillE, U.cells]
    refine Wo.callR (by simp (decide := true) (disch := first | omega | rfl) only [↓SD, SP, opE, fget, binA, Nat.reduceEqDiff, reduceIte, again, stepV, wanted, resE, resL, resU, wr, rd, known, fillE, U.cells]; try rfl) (count_ok (around := around) h541 hi.look hi.fixed hi.clone hi.line hb (by omega) h2 (fillT_nonneg freeT_nonneg s _)) ?_
    rintro _ m3 ⟨rfl, he3⟩
    rw [cnt_from fill_tells (by omega) h1 h6 h2]
    simp (decide := true) (disch := first | omega | rfl) only [↓SD, SP, opE, fget, binA, Nat.reduceEqDiff, reduceIte, again, stepV, wanted, resE, resL, resU, wr, rd, known, fillE, U.cells]
    exact ⟨_, rfl, rfl⟩

theorem specCf_ok (hs : ColS G) (hb : ColB G) (h715 : G 715 = some (.code spec_stGood)) (h894 : G 894 = some (.code spec_coInside)) (h563 : G 563 = some (.code spec_coFills)) (hG : G 79 = some (.code spec_CountFills)) {m : Mem} {s : List UInt8} {t : Int} {around : Bool} :
    Rn G 79 [V.s s, V.i t, V.b around] m fun v m' => v = cfV s t around := by
  refine Rn.code hG ?_
  unfold spec_CountFills cfV
  simp (decide := true) (disch := first | omega | rfl) only [↓SD, SP, opE, fget, binA, Nat.reduceEqDiff, reduceIte, again, stepV, wanted, resE, resL, resU, wr, rd, known, fillE, U.cells]
  refine Wo.callR (by simp (decide := true) (disch := first | omega | rfl) only [↓SD, SP, opE, fget, binA, Nat.reduceEqDiff, reduceIte, again, stepV, wanted, resE, resL, resU, wr, rd, known, fillE, U.cells]; try rfl) (coFence_ok hs.toColS0 h715 hb.coFence) ?_
  rintro _ m1 ⟨rfl, rfl⟩
  have e : filledB s t around = (stoodB s around && tintsB t) := rfl
  rw [e]
  cases h1 : stoodB s around with
  | false =>
    simp (decide := true) (disch := first | omega | rfl) only [↓SD, SP, opE, fget, binA, Nat.reduceEqDiff, reduceIte, again, stepV, wanted, resE, resL, resU, wr, rd, known, fillE, U.cells]
    exact ⟨_, rfl, rfl⟩
  | true =>
    simp (decide := true) (disch := first | omega | rfl) only [↓SD, SP, opE, fget, binA, Nat.reduceEqDiff, reduceIte, again, stepV, wanted, resE, resL, resU, wr, rd, known, fillE, U.cells]
    refine Wo.callR (by simp (decide := true) (disch := first | omega | rfl) only [↓SD, SP, opE, fget, binA, Nat.reduceEqDiff, reduceIte, again, stepV, wanted, resE, resL, resU, wr, rd, known, fillE, U.cells]; try rfl) (coTints_ok hs.toColS0) ?_
    rintro _ m1 ⟨rfl, rfl⟩
    simp (decide := true) (disch := first | omega | rfl) only [↓SD, SP, opE, fget, binA, Nat.reduceEqDiff, reduceIte, again, stepV, wanted, resE, resL, resU, wr, rd, known, fillE, U.cells]
    cases h2 : tintsB t with
    | false =>
      simp (decide := true) (disch := first | omega | rfl) only [↓SD, SP, opE, fget, binA, Nat.reduceEqDiff, reduceIte, again, stepV, wanted, resE, resL, resU, wr, rd, known, fillE, U.cells]
      all_goals (exact ⟨_, rfl, rfl⟩)
    | true =>
      obtain ⟨⟨g1, g2⟩, h3, ⟨h4, h5⟩, h6⟩ := filledB_spec (by rw [e, h1, h2]; rfl : filledB s t around = true)
      obtain ⟨t, rfl⟩ := Int.eq_ofNat_of_zero_le (show 0 ≤ t by omega)
      simp (decide := true) (disch := first | omega | rfl) only [↓SD, SP, opE, fget, binA, Nat.reduceEqDiff, reduceIte, again, stepV, wanted, resE, resL, resU, wr, rd, known, fillE, U.cells]
      refine Wo.callR (by simp (decide := true) (disch := first | omega | rfl) only [↓SD, SP, opE, fget, binA, Nat.reduceEqDiff, reduceIte, again, stepV, wanted, resE, resL, resU, wr, rd, known, fillE, U.cells]; try rfl) (coFills_ok hs h894 h563 g1 g2 (by omega) (boards_ascii h3)) ?_
      rintro _ m3 ⟨rfl, he3⟩
      simp (decide := true) (disch := first | omega | rfl) only [↓SD, SP, opE, fget, binA, Nat.reduceEqDiff, reduceIte, again, stepV, wanted, resE, resL, resU, wr, rd, known, fillE, U.cells]
      exact ⟨_, rfl, rfl⟩

theorem implFil_ok (hi : ColI G) (hf : ColF G) (hb : ColB G) (h564 : G 564 = some (.code impl_filled)) (h547 : G 547 = some (.code impl_table_first)) (hG : G 117 = some (.code impl_FillProper)) {m : Mem} {s : List UInt8} {t : Int} {around : Bool} :
    Rn G 117 [V.s s, V.i t, V.b around] m fun v m' => v = fpV s t around := by
  refine Rn.code hG ?_
  unfold impl_FillProper fpV
  simp (decide := true) (disch := first | omega | rfl) only [↓SD, SP, opE, fget, binA, Nat.reduceEqDiff, reduceIte, again, stepV, wanted, resE, resL, resU, wr, rd, known, fillE, U.cells]
  refine Wo.callR (by simp (decide := true) (disch := first | omega | rfl) only [↓SD, SP, opE, fget, binA, Nat.reduceEqDiff, reduceIte, again, stepV, wanted, resE, resL, resU, wr, rd, known, fillE, U.cells]; try rfl) (isFilled_ok hi hf hb.isStood hb.isFilled) ?_
  rintro _ m1 ⟨rfl, he⟩
  simp (decide := true) (disch := first | omega | rfl) only [↓SD, SP, opE, fget, binA, Nat.reduceEqDiff, reduceIte, again, stepV, wanted, resE, resL, resU, wr, rd, known, fillE, U.cells]
  cases hq : filledB s t around with
  | false =>
    simp (decide := true) (disch := first | omega | rfl) only [↓SD, SP, opE, fget, binA, Nat.reduceEqDiff, reduceIte, again, stepV, wanted, resE, resL, resU, wr, rd, known, fillE, U.cells]
    simp
  | true =>
    obtain ⟨⟨h1, h2⟩, h3, ⟨h4, h5⟩, h6⟩ := filledB_spec hq
    obtain ⟨t, rfl⟩ := Int.eq_ofNat_of_zero_le (show 0 ≤ t by omega)
    simp (decide := true) (disch := first | omega | rfl) only [↓SD, SP, opE, fget, binA, Nat.reduceEqDiff, reduceIte, again, stepV, wanted, resE, resL, resU, wr, rd, known, fillE, U.cells]
    refine Wo.callR (by simp (decide := true) (disch := first | omega | rfl) only [↓SD, SP, opE, fget, binA, Nat.reduceEqDiff, reduceIte, again, stepV, wanted, resE, resL, resU, wr, rd, known, fillE, U.cells]; try rfl) (filled_ok hi h564 h1 h2) ?_
    rintro _ m2 ⟨⟨b, c, rfl, hb, hlo⟩, he2⟩
    simp (decide := true) (disch := first | omega | rfl) only [↓SD, SP, opE, fget, binA, Nat.reduceEqDiff, reduceIte, again, stepV, wanted, resE, resL, resU, wr, rd, known, fillE, U.cells]
    refine Wo.callR (by simp (decide := true) (disch := first | omega | rfl) only [↓SD, SP, opE, fget, binA, Nat.reduceEqDiff, reduceIte, again, stepV, wanted, resE, resL, resU, wr, rd, known, fillE, U.cells]; try rfl) (first_ok (T := t) (around := around) hi h547 hb rfl fill_tells (fillT_zero freeT_zero s _) (by omega) h1 h2 h6) ?_
    rintro _ m3 ⟨rfl, he3⟩
    by_cases hok : 0 < fromF s t around
    · rw [if_pos hok]
      simp (decide := true) (disch := first | omega | rfl) only [↓SD, SP, opE, fget, binA, Nat.reduceEqDiff, reduceIte, again, stepV, wanted, resE, resL, resU, wr, rd, known, fillE, U.cells, hok]
      exact ⟨_, rfl, rfl⟩
    · rw [if_neg hok]
      simp (decide := true) (disch := first | omega | rfl) only [↓SD, SP, opE, fget, binA, Nat.reduceEqDiff, reduceIte, again, stepV, wanted, resE, resL, resU, wr, rd, known, fillE, U.cells, hok]
      all_goals simp

theorem specFil_ok (hs : ColS G) (hb : ColB G) (h715 : G 715 = some (.code spec_stGood)) (h894 : G 894 = some (.code spec_coInside)) (h563 : G 563 = some (.code spec_coFills)) (hW : G 891 = some (.code spec_coWith)) (h555 : G 555 = some (.code spec_coRanked)) (hG : G 116 = some (.code spec_FillProper)) {m : Mem} {s : List UInt8} {t : Int} {around : Bool} :
    Rn G 116 [V.s s, V.i t, V.b around] m fun v m' => v = fpV s t around := by
  refine Rn.code hG ?_
  unfold spec_FillProper fpV
  simp (decide := true) (disch := first | omega | rfl) only [↓SD, SP, opE, fget, binA, Nat.reduceEqDiff, reduceIte, again, stepV, wanted, resE, resL, resU, wr, rd, known, fillE, U.cells]
  refine Wo.callR (by simp (decide := true) (disch := first | omega | rfl) only [↓SD, SP, opE, fget, binA, Nat.reduceEqDiff, reduceIte, again, stepV, wanted, resE, resL, resU, wr, rd, known, fillE, U.cells]; try rfl) (coFence_ok hs.toColS0 h715 hb.coFence) ?_
  rintro _ m1 ⟨rfl, rfl⟩
  have e : filledB s t around = (stoodB s around && tintsB t) := rfl
  rw [e]
  cases h1 : stoodB s around with
  | false =>
    simp (decide := true) (disch := first | omega | rfl) only [↓SD, SP, opE, fget, binA, Nat.reduceEqDiff, reduceIte, again, stepV, wanted, resE, resL, resU, wr, rd, known, fillE, U.cells]
    simp
  | true =>
    simp (decide := true) (disch := first | omega | rfl) only [↓SD, SP, opE, fget, binA, Nat.reduceEqDiff, reduceIte, again, stepV, wanted, resE, resL, resU, wr, rd, known, fillE, U.cells]
    refine Wo.callR (by simp (decide := true) (disch := first | omega | rfl) only [↓SD, SP, opE, fget, binA, Nat.reduceEqDiff, reduceIte, again, stepV, wanted, resE, resL, resU, wr, rd, known, fillE, U.cells]; try rfl) (coTints_ok hs.toColS0) ?_
    rintro _ m1 ⟨rfl, rfl⟩
    simp (decide := true) (disch := first | omega | rfl) only [↓SD, SP, opE, fget, binA, Nat.reduceEqDiff, reduceIte, again, stepV, wanted, resE, resL, resU, wr, rd, known, fillE, U.cells]
    cases h2 : tintsB t with
    | false =>
      simp (decide := true) (disch := first | omega | rfl) only [↓SD, SP, opE, fget, binA, Nat.reduceEqDiff, reduceIte, again, stepV, wanted, resE, resL, resU, wr, rd, known, fillE, U.cells]
      simp
    | true =>
      obtain ⟨⟨g1, g2⟩, h3, ⟨h4, h5⟩, h6⟩ := filledB_spec (by rw [e, h1, h2]; rfl : filledB s t around = true)
      obtain ⟨t, rfl⟩ := Int.eq_ofNat_of_zero_le (show 0 ≤ t by omega)
      simp (decide := true) (disch := first | omega | rfl) only [↓SD, SP, opE, fget, binA, Nat.reduceEqDiff, reduceIte, again, stepV, wanted, resE, resL, resU, wr, rd, known, fillE, U.cells]
      refine Wo.callR (by simp (decide := true) (disch := first | omega | rfl) only [↓SD, SP, opE, fget, binA, Nat.reduceEqDiff, reduceIte, again, stepV, wanted, resE, resL, resU, wr, rd, known, fillE, U.cells]; try rfl) (coFills_ok hs h894 h563 g1 g2 (by omega) (boards_ascii h3)) ?_
      rintro _ m3 ⟨rfl, he3⟩
      have hfb : 0 ≤ fromF s t around := by
        unfold fromF
        split
        · have := fromR_bound (s := s) (show t ≤ 5 by omega) g2 t; omega
        · have := endsF_bound (s := s) (T := t) (frm := 0) (before := -1) (last := -1) (by omega) g2; omega
      simp (decide := true) (disch := first | omega | rfl) only [↓SD, SP, opE, fget, binA, Nat.reduceEqDiff, reduceIte, again, stepV, wanted, resE, resL, resU, wr, rd, known, fillE, U.cells]
      by_cases h0 : fromF s t around = 0
      · simp (decide := true) (disch := first | omega | rfl) only [↓SD, SP, opE, fget, binA, Nat.reduceEqDiff, reduceIte, again, stepV, wanted, resE, resL, resU, wr, rd, known, fillE, U.cells, h0]
        all_goals simp
      · have hb0 : (fromF s t around == 0) = false := by simpa using h0
        simp (decide := true) (disch := first | omega | rfl) only [↓SD, SP, opE, fget, binA, Nat.reduceEqDiff, reduceIte, again, stepV, wanted, resE, resL, resU, wr, rd, known, fillE, U.cells, hb0]
        refine Wo.callR (by simp (decide := true) (disch := first | omega | rfl) only [↓SD, SP, opE, fget, binA, Nat.reduceEqDiff, reduceIte, again, stepV, wanted, resE, resL, resU, wr, rd, known, fillE, U.cells]; try rfl) (coRanked_ok (s := s) (T := t) (around := around) (r := 0) hs hW h555 (by omega) g2 (boards_ascii h3) (by omega) (by omega)) ?_
        rintro _ m3 ⟨rfl, he3⟩
        simp (decide := true) (disch := first | omega | rfl) only [↓SD, SP, opE, fget, binA, Nat.reduceEqDiff, reduceIte, again, stepV, wanted, resE, resL, resU, wr, rd, known, fillE, U.cells]
        exact ⟨_, rfl, rfl⟩

theorem lawCf {num : Nat} (hi : ColI G) (hs : ColS G) (hf : ColF G) (hb : ColB G) (h564 : G 564 = some (.code impl_filled)) (h541 : G 541 = some (.code impl_table_count)) (h80 : G 80 = some (.code impl_CountFills)) (h715 : G 715 = some (.code spec_stGood)) (h894 : G 894 = some (.code spec_coInside)) (h563 : G 563 = some (.code spec_coFills)) (h79 : G 79 = some (.code spec_CountFills))
    (h12 : G 12 = some (.code laws_FnExactCountFills)) {s : List UInt8} {t : Int} {around : Bool} : ∃ k m', run G k 12 [V.s s, V.i t, V.b around] [] = some (V.b true, m') :=
  law3 (x := 79) (y := 80) (val := cfV s t around) h12 (.inl (by unfold cfV; split <;> exact ⟨_, _, rfl⟩)) (fun _ _ => specCf_ok hs hb h715 h894 h563 h79) (fun _ _ => implCf_ok hi hf hb h564 h541 h80)

theorem lawFil {num : Nat} (hi : ColI G) (hs : ColS G) (hf : ColF G) (hb : ColB G) (h564 : G 564 = some (.code impl_filled)) (h547 : G 547 = some (.code impl_table_first)) (h117 : G 117 = some (.code impl_FillProper)) (h715 : G 715 = some (.code spec_stGood)) (h894 : G 894 = some (.code spec_coInside)) (h563 : G 563 = some (.code spec_coFills)) (hW : G 891 = some (.code spec_coWith)) (h555 : G 555 = some (.code spec_coRanked)) (h116 : G 116 = some (.code spec_FillProper))
    (h17 : G 17 = some (.code laws_FnExactFillProper)) {s : List UInt8} {t : Int} {around : Bool} : ∃ k m', run G k 17 [V.s s, V.i t, V.b around] [] = some (V.b true, m') :=
  law3 (x := 116) (y := 117) (val := fpV s t around) h17 (.inr (by unfold fpV; split <;> exact ⟨_, _, rfl⟩)) (fun _ _ => specFil_ok hs hb h715 h894 h563 hW h555 h116) (fun _ _ => implFil_ok hi hf hb h564 h547 h117)
end Go.AL
