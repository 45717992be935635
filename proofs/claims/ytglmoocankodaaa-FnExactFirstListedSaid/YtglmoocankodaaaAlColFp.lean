/-
  FirstProper on both sides.
-/
import Derived.Test.YtglmoocankodaaaAlColFirst
import Derived.Test.YtglmoocankodaaaAlColPor
namespace Go.AL
set_option linter.unusedSimpArgs false
set_option linter.unusedVariables false
open F
set_option linter.unusedSimpArgs false
set_option linter.unusedVariables false
variable {G : Env}

theorem freeT_zero {t : Nat} : Zero (freeT t) := by
  intro k
  unfold freeT
  split
  · exact Or.inr rfl
  · exact Or.inl rfl

theorem free_ints (hi : ColI G) {m : Mem} {n t : Nat} (hn : n ≤ 20) :
    Rn G 540 [V.i n, V.i t] m fun v m' => (∃ b c, v = V.a (.sl b 0 n c) ∧ m'[b]? = some (.cells true (ints (n * 5) (freeT t))) ∧ m.length ≤ b) ∧ Ext m m' := by
  refine (free_ok hi.free (by omega)).mono ?_
  rintro v m' ⟨⟨b, c, h1, h2, h3, h4, h5⟩, he⟩
  exact ⟨⟨b, c, h1, by rw [h3, freeRows_ints], h5⟩, he⟩

theorem implFp_ok (hi : ColI G) (ha : ColA G) (h547 : G 547 = some (.code impl_table_first)) (hG : G 72 = some (.code impl_FirstProper)) {m : Mem} {n t : Int} {around : Bool} :
    Rn G 72 [V.i n, V.i t, V.b around] m fun v m' => v = porV n t around 0 ∧ Ext m m' := by
  refine Rn.code hG ?_
  unfold impl_FirstProper porV
  simp (decide := true) (disch := first | omega | rfl) only [↓SD, SP, opE, fget, binA, Nat.reduceEqDiff, reduceIte, again, stepV, wanted, resE, resL, resU, wr, rd, known, fillE, U.cells]
  refine Wo.callR (by simp (decide := true) (disch := first | omega | rfl) only [↓SD, SP, opE, fget, binA, Nat.reduceEqDiff, reduceIte, again, stepV, wanted, resE, resL, resU, wr, rd, known, fillE, U.cells]; try rfl) (isTinted_ok hi ha.isTinted) ?_
  rintro _ _ ⟨rfl, rfl⟩
  show Wo G _ _ (put _ _ (V.b (askB n t around))) _
  simp (decide := true) (disch := first | omega | rfl) only [↓SD, SP, opE, fget, binA, Nat.reduceEqDiff, reduceIte, again, stepV, wanted, resE, resL, resU, wr, rd, known, fillE, U.cells]
  cases hq : askB n t around with
  | false =>
    simp (decide := true) (disch := first | omega | rfl) only [↓SD, SP, opE, fget, binA, Nat.reduceEqDiff, reduceIte, again, stepV, wanted, resE, resL, resU, wr, rd, known, fillE, U.cells]
    exact ⟨_, rfl, by rw [if_neg (by simp)], Ext.refl _⟩
  | true =>
    obtain ⟨⟨h1, h2⟩, ⟨h3, h4⟩, h5⟩ := askB_spec hq
    obtain ⟨n, rfl⟩ := Int.eq_ofNat_of_zero_le (show 0 ≤ n by omega)
    obtain ⟨t, rfl⟩ := Int.eq_ofNat_of_zero_le (show 0 ≤ t by omega)
    have hl : (List.replicate n (46 : UInt8)).length = n := by simp
    simp (decide := true) (disch := first | omega | rfl) only [↓SD, SP, opE, fget, binA, Nat.reduceEqDiff, reduceIte, again, stepV, wanted, resE, resL, resU, wr, rd, known, fillE, U.cells]
    refine Wo.callR (by simp (decide := true) (disch := first | omega | rfl) only [↓SD, SP, opE, fget, binA, Nat.reduceEqDiff, reduceIte, again, stepV, wanted, resE, resL, resU, wr, rd, known, fillE, U.cells]; try rfl) (free_ints hi (n := n) (t := t) (by omega)) ?_
    rintro _ m2 ⟨⟨b, c, rfl, hb, hlo⟩, he2⟩
    simp (decide := true) (disch := first | omega | rfl) only [↓SD, SP, opE, fget, binA, Nat.reduceEqDiff, reduceIte, again, stepV, wanted, resE, resL, resU, wr, rd, known, fillE, U.cells]
    have key := fun mm (q : mm[b]? = some (.cells true (ints (n * 5) (freeT t)))) => first_ok (G := G) (m := mm) (s := List.replicate n 46) (T := t) (around := around) (cc := c) (bt := b) (T0 := freeT t) hi h547 (by rw [hl]; exact q) rfl (by exact bare_tells) freeT_zero (by omega) (by rw [hl]; omega) (by rw [hl]; omega) (by rw [hl]; intro h; have := h5 h; omega)
    simp only [hl] at key
    refine Wo.callR (by simp (decide := true) (disch := first | omega | rfl) only [↓SD, SP, opE, fget, binA, Nat.reduceEqDiff, reduceIte, again, stepV, wanted, resE, resL, resU, wr, rd, known, fillE, U.cells]; try rfl) (key _ hb) ?_
    rintro _ m3 ⟨rfl, he3⟩
    by_cases hok : 0 < fromF (List.replicate n 46) t around
    · have hok' : 0 < countF n t around := hok
      rw [if_pos hok]
      simp (decide := true) (disch := first | omega | rfl) only [↓SD, SP, opE, fget, binA, Nat.reduceEqDiff, reduceIte, again, stepV, wanted, resE, resL, resU, wr, rd, known, fillE, U.cells]
      exact ⟨_, rfl, by first | rfl | rw [if_pos ⟨rfl, Int.le_refl 0, hok'⟩], he2.trans he3⟩
    · have hok' : ¬ (0 < countF n t around) := hok
      rw [if_neg hok]
      simp (decide := true) (disch := first | omega | rfl) only [↓SD, SP, opE, fget, binA, Nat.reduceEqDiff, reduceIte, again, stepV, wanted, resE, resL, resU, wr, rd, known, fillE, U.cells]
      exact ⟨_, rfl, by rw [if_neg (fun e => hok' (by first | exact e | exact e.2 | exact e.2.2))], he2.trans he3⟩

theorem specFp_ok (hs : ColS G) (ha : ColA G) (hW : G 891 = some (.code spec_coWith)) (h555 : G 555 = some (.code spec_coRanked)) (h75 : G 75 = some (.code spec_ProperOfRank)) (hG : G 71 = some (.code spec_FirstProper)) {m : Mem} {n t : Int} {around : Bool} :
    Rn G 71 [V.i n, V.i t, V.b around] m fun v m' => v = porV n t around 0 ∧ Ext m m' := by
  refine Rn.code hG ?_
  unfold spec_FirstProper
  simp (decide := true) (disch := first | omega | rfl) only [↓SD, SP, opE, fget, binA, Nat.reduceEqDiff, reduceIte, again, stepV, wanted, resE, resL, resU, wr, rd, known, fillE, U.cells]
  refine Wo.callR (by simp (decide := true) (disch := first | omega | rfl) only [↓SD, SP, opE, fget, binA, Nat.reduceEqDiff, reduceIte, again, stepV, wanted, resE, resL, resU, wr, rd, known, fillE, U.cells]; try rfl) (specPor_ok hs ha.coAsked ha.coBare hW h555 h75) ?_
  rintro _ m1 ⟨rfl, he⟩
  obtain ⟨x, y, hv⟩ : ∃ x y, porV n t around 0 = .t [.a (.str x), .a (.bool y)] := by
    unfold porV; split <;> exact ⟨_, _, rfl⟩
  rw [hv]
  simp (decide := true) (disch := first | omega | rfl) only [↓SD, SP, opE, fget, binA, Nat.reduceEqDiff, reduceIte, again, stepV, wanted, resE, resL, resU, wr, rd, known, fillE, U.cells]
  exact ⟨_, rfl, rfl, he⟩

theorem lawFp (hi : ColI G) (hs : ColS G) (ha : ColA G) (h547 : G 547 = some (.code impl_table_first)) (hW : G 891 = some (.code spec_coWith)) (h555 : G 555 = some (.code spec_coRanked)) (h75 : G 75 = some (.code spec_ProperOfRank)) (h71 : G 71 = some (.code spec_FirstProper)) (h72 : G 72 = some (.code impl_FirstProper))
    (h8 : G 8 = some (.code laws_FnExactFirstProper)) {n t : Int} {around : Bool} :
    ∃ k m', run G k 8 [V.i n, V.i t, V.b around] [] = some (V.b true, m') := by
  have key : Rn G 8 [V.i n, V.i t, V.b around] [] fun v _ => v = V.b true := by
    refine Rn.code h8 ?_
    unfold laws_FnExactFirstProper
    simp (decide := true) (disch := first | omega | rfl) only [↓SD, SP, opE, fget, binA, Nat.reduceEqDiff, reduceIte, again, stepV, wanted, resE, resL, resU, wr, rd, known, fillE, U.cells]
    refine Wo.callR (by simp (decide := true) (disch := first | omega | rfl) only [↓SD, SP, opE, fget, binA, Nat.reduceEqDiff, reduceIte, again, stepV, wanted, resE, resL, resU, wr, rd, known, fillE, U.cells]; try rfl) (specFp_ok hs ha hW h555 h75 h71) ?_
    rintro _ m1 ⟨rfl, he⟩
    obtain ⟨x, y, hv⟩ : ∃ x y, porV n t around 0 = .t [.a (.str x), .a (.bool y)] := by
      unfold porV; split <;> exact ⟨_, _, rfl⟩
    rw [hv]
    simp (decide := true) (disch := first | omega | rfl) only [↓SD, SP, opE, fget, binA, Nat.reduceEqDiff, reduceIte, again, stepV, wanted, resE, resL, resU, wr, rd, known, fillE, U.cells]
    refine Wo.callR (by simp (decide := true) (disch := first | omega | rfl) only [↓SD, SP, opE, fget, binA, Nat.reduceEqDiff, reduceIte, again, stepV, wanted, resE, resL, resU, wr, rd, known, fillE, U.cells]; try rfl) (implFp_ok hi ha h547 h72) ?_
    rintro _ m2 ⟨rfl, he2⟩
    rw [hv]
    simp (decide := true) (disch := first | omega | rfl) only [↓SD, SP, opE, fget, binA, Nat.reduceEqDiff, reduceIte, again, stepV, wanted, resE, resL, resU, wr, rd, known, fillE, U.cells, bne_self_eq_false]
  obtain ⟨k, v, m', h1, rfl⟩ := key
  exact ⟨k, m', h1⟩
end Go.AL
