/-
  CountProper on both sides.
-/
import Derived.Test.YtaamjlckaakenaaAlColMath
namespace Go.AL
set_option linter.unusedSimpArgs false
set_option linter.unusedVariables false
open F
set_option linter.unusedSimpArgs false
set_option linter.unusedVariables false
variable {G : Env}

/-- What CountProper gives. -/
def askB (n t : Int) (around : Bool) : Bool := ringB n around && tintsB t
theorem askB_spec {n t : Int} {around : Bool} (h : askB n t around = true) : (1 ≤ n ∧ n ≤ 20) ∧ (1 ≤ t ∧ t ≤ 5) ∧ (around = true → 3 ≤ n) := by
  unfold askB ringB tintsB at h
  cases around <;> simp at h <;> refine ⟨⟨by omega, by omega⟩, ⟨by omega, by omega⟩, fun hh => ?_⟩ <;> first | omega | cases hh

def countF (n t : Nat) (around : Bool) : Int := fromF (List.replicate n 46) t around
theorem free_count (hi : ColI G) (hc : G 541 = some (.code impl_table_count)) {m : Mem} {n t : Nat} {around : Bool} (hn1 : 1 ≤ n) (hn : n ≤ 20) (ht : t ≤ 5) (ha : around = true → 3 ≤ n) {d d' : Option Nat} {K : Fr → Mem → Prop} {fr : Fr} :
    Rn G 540 [V.i n, V.i t] m fun v m' => (∃ b c, v = V.a (.sl b 0 n c) ∧ m'[b]? = some (.cells true (ints (n * 5) (freeT t))) ∧ m.length ≤ b) ∧ Ext m m' := by
  refine (free_ok hi.free (by omega)).mono ?_
  rintro v m' ⟨⟨b, c, h1, h2, h3, h4, h5⟩, he⟩
  exact ⟨⟨b, c, h1, by rw [h3, freeRows_ints], h5⟩, he⟩

theorem count_free (hi : ColI G) (hc : G 541 = some (.code impl_table_count)) {m m0 : Mem} {b n t : Nat} {c : Cap} {around : Bool} (hb : m[b]? = some (.cells true (ints (n * 5) (freeT t)))) (hn1 : 1 ≤ n) (hn : n ≤ 20) (ht : t ≤ 5) (ha : around = true → 3 ≤ n) :
    Rn G 541 [V.a (.sl b 0 n c), V.b around] m fun v m' => v = V.i (countF n t around) ∧ Ext m m' := by
  refine (count_ok hc hi.look hi.fixed hi.clone hi.line hb (by omega) hn freeT_nonneg).mono ?_
  rintro v m' ⟨rfl, he⟩
  exact ⟨by rw [cnt_bare ht hn1 ha hn]; rfl, he⟩

theorem from_bare (hs : ColS G) {m : Mem} {n t : Nat} {around : Bool} (hn1 : 1 ≤ n) (hn : n ≤ 20) (ht : t ≤ 5) :
    Rn G 537 [V.s (List.replicate n 46), V.i t, V.b around, V.i 0] m fun v m' => v = V.i (countF n t around) ∧ Ext m m' :=
  coFrom0_ok hs (by simpa using hn1) (by simpa using hn) ht

theorem countF_bound {n t : Nat} {around : Bool} (hn : n ≤ 20) (ht : t ≤ 5) : 0 ≤ countF n t around ∧ countF n t around ≤ 2500000000000000000 := by
  unfold countF fromF
  split
  · have := fromR_bound (s := List.replicate n 46) ht (by simpa using hn) t
    omega
  · have := endsF_bound (s := List.replicate n 46) (frm := 0) (before := -1) (last := -1) ht (by simpa using hn)
    omega

theorem implCountProper_ok (hi : ColI G) (ha : ColA G) (hc : G 541 = some (.code impl_table_count)) (hG : G 62 = some (.code impl_CountProper)) {m : Mem} {n t : Int} {around : Bool} :
    Rn G 62 [V.i n, V.i t, V.b around] m fun v m' => v = .t [.a (.int .i64 (if askB n t around then countF n.toNat t.toNat around else 0)), .a (.bool (askB n t around))] ∧ Ext m m' := by
  refine Rn.code hG ?_
  unfold impl_CountProper
  simp (decide := true) (disch := first | omega | rfl) only [↓SD, SP, opE, fget, binA, Nat.reduceEqDiff, reduceIte, again, stepV, wanted, resE, resL, resU, wr, rd, known, fillE, U.cells]
  refine Wo.callR (by simp (decide := true) (disch := first | omega | rfl) only [↓SD, SP, opE, fget, binA, Nat.reduceEqDiff, reduceIte, again, stepV, wanted, resE, resL, resU, wr, rd, known, fillE, U.cells]; try rfl) (isTinted_ok hi ha.isTinted) ?_
  rintro _ _ ⟨rfl, rfl⟩
  show Wo G _ _ (put _ _ (V.b (askB n t around))) _
  simp (decide := true) (disch := first | omega | rfl) only [↓SD, SP, opE, fget, binA, Nat.reduceEqDiff, reduceIte, again, stepV, wanted, resE, resL, resU, wr, rd, known, fillE, U.cells]
  cases hq : askB n t around with
  | false =>
    simp (decide := true) (disch := first | omega | rfl) only [↓SD, SP, opE, fget, binA, Nat.reduceEqDiff, reduceIte, again, stepV, wanted, resE, resL, resU, wr, rd, known, fillE, U.cells]
    exact ⟨_, rfl, rfl, Ext.refl _⟩
  | true =>
    obtain ⟨⟨h1, h2⟩, ⟨h3, h4⟩, h5⟩ := askB_spec hq
    obtain ⟨n, rfl⟩ := Int.eq_ofNat_of_zero_le (show 0 ≤ n by omega)
    obtain ⟨t, rfl⟩ := Int.eq_ofNat_of_zero_le (show 0 ≤ t by omega)
    simp (decide := true) (disch := first | omega | rfl) only [↓SD, SP, opE, fget, binA, Nat.reduceEqDiff, reduceIte, again, stepV, wanted, resE, resL, resU, wr, rd, known, fillE, U.cells]
    refine Wo.callR (by simp (decide := true) (disch := first | omega | rfl) only [↓SD, SP, opE, fget, binA, Nat.reduceEqDiff, reduceIte, again, stepV, wanted, resE, resL, resU, wr, rd, known, fillE, U.cells]; try rfl) (free_count (around := around) hi hc (by omega) (by omega) (by omega) (fun h => by have := h5 h; omega) (d := none) (d' := none) (K := fun _ _ => True) (fr := [])) ?_
    rintro _ m1 ⟨⟨b, c, rfl, hb, hlo⟩, he⟩
    simp (decide := true) (disch := first | omega | rfl) only [↓SD, SP, opE, fget, binA, Nat.reduceEqDiff, reduceIte, again, stepV, wanted, resE, resL, resU, wr, rd, known, fillE, U.cells]
    refine Wo.callR (by simp (decide := true) (disch := first | omega | rfl) only [↓SD, SP, opE, fget, binA, Nat.reduceEqDiff, reduceIte, again, stepV, wanted, resE, resL, resU, wr, rd, known, fillE, U.cells]; try rfl) (count_free (m0 := m1) hi hc hb (by omega) (by omega) (by omega) (fun h => by have := h5 h; omega)) ?_
    rintro _ m2 ⟨rfl, he2⟩
    simp (decide := true) (disch := first | omega | rfl) only [↓SD, SP, opE, fget, binA, Nat.reduceEqDiff, reduceIte, again, stepV, wanted, resE, resL, resU, wr, rd, known, fillE, U.cells]
    exact ⟨_, rfl, rfl, he.trans he2⟩

theorem specCountProper_ok (hs : ColS G) (ha : ColA G) (hG : G 61 = some (.code spec_CountProper)) {m : Mem} {n t : Int} {around : Bool} :
    Rn G 61 [V.i n, V.i t, V.b around] m fun v m' => v = .t [.a (.int .i64 (if askB n t around then countF n.toNat t.toNat around else 0)), .a (.bool (askB n t around))] ∧ Ext m m' := by
  refine Rn.code hG ?_
  unfold spec_CountProper
  simp (decide := true) (disch := first | omega | rfl) only [↓SD, SP, opE, fget, binA, Nat.reduceEqDiff, reduceIte, again, stepV, wanted, resE, resL, resU, wr, rd, known, fillE, U.cells]
  refine Wo.callR (by simp (decide := true) (disch := first | omega | rfl) only [↓SD, SP, opE, fget, binA, Nat.reduceEqDiff, reduceIte, again, stepV, wanted, resE, resL, resU, wr, rd, known, fillE, U.cells]; try rfl) (coAsked_ok hs ha.coAsked) ?_
  rintro _ _ ⟨rfl, rfl⟩
  show Wo G _ _ (put _ _ (V.b (askB n t around))) _
  simp (decide := true) (disch := first | omega | rfl) only [↓SD, SP, opE, fget, binA, Nat.reduceEqDiff, reduceIte, again, stepV, wanted, resE, resL, resU, wr, rd, known, fillE, U.cells]
  cases hq : askB n t around with
  | false =>
    simp (decide := true) (disch := first | omega | rfl) only [↓SD, SP, opE, fget, binA, Nat.reduceEqDiff, reduceIte, again, stepV, wanted, resE, resL, resU, wr, rd, known, fillE, U.cells]
    exact ⟨_, rfl, rfl, Ext.refl _⟩
  | true =>
    obtain ⟨⟨h1, h2⟩, ⟨h3, h4⟩, h5⟩ := askB_spec hq
    obtain ⟨n, rfl⟩ := Int.eq_ofNat_of_zero_le (show 0 ≤ n by omega)
    obtain ⟨t, rfl⟩ := Int.eq_ofNat_of_zero_le (show 0 ≤ t by omega)
    simp (decide := true) (disch := first | omega | rfl) only [↓SD, SP, opE, fget, binA, Nat.reduceEqDiff, reduceIte, again, stepV, wanted, resE, resL, resU, wr, rd, known, fillE, U.cells]
    refine Wo.callR (by simp (decide := true) (disch := first | omega | rfl) only [↓SD, SP, opE, fget, binA, Nat.reduceEqDiff, reduceIte, again, stepV, wanted, resE, resL, resU, wr, rd, known, fillE, U.cells]; try rfl) (coBare_ok ha.coBare (by omega)) ?_
    rintro _ _ ⟨rfl, rfl⟩
    simp (decide := true) (disch := first | omega | rfl) only [↓SD, SP, opE, fget, binA, Nat.reduceEqDiff, reduceIte, again, stepV, wanted, resE, resL, resU, wr, rd, known, fillE, U.cells]
    refine Wo.callR (by simp (decide := true) (disch := first | omega | rfl) only [↓SD, SP, opE, fget, binA, Nat.reduceEqDiff, reduceIte, again, stepV, wanted, resE, resL, resU, wr, rd, known, fillE, U.cells]; try rfl) (from_bare hs (n := n) (by omega) (by omega) (by omega)) ?_
    rintro _ m2 ⟨rfl, he2⟩
    simp (decide := true) (disch := first | omega | rfl) only [↓SD, SP, opE, fget, binA, Nat.reduceEqDiff, reduceIte, again, stepV, wanted, resE, resL, resU, wr, rd, known, fillE, U.cells]
    exact ⟨_, rfl, rfl, he2⟩

theorem lawCountProper (hi : ColI G) (hs : ColS G) (ha : ColA G) (hc : G 541 = some (.code impl_table_count)) (h61 : G 61 = some (.code spec_CountProper)) (h62 : G 62 = some (.code impl_CountProper)) (h4 : G 4 = some (.code laws_FnExactCountProper)) {n t : Int} {around : Bool} :
    ∃ k m', run G k 4 [V.i n, V.i t, V.b around] [] = some (V.b true, m') := by
  have key : Rn G 4 [V.i n, V.i t, V.b around] [] fun v _ => v = V.b true := by
    refine Rn.code h4 ?_
    unfold laws_FnExactCountProper
    simp (decide := true) (disch := first | omega | rfl) only [↓SD, SP, opE, fget, binA, Nat.reduceEqDiff, reduceIte, again, stepV, wanted, resE, resL, resU, wr, rd, known, fillE, U.cells]
    refine Wo.callR (by simp (decide := true) (disch := first | omega | rfl) only [↓SD, SP, opE, fget, binA, Nat.reduceEqDiff, reduceIte, again, stepV, wanted, resE, resL, resU, wr, rd, known, fillE, U.cells]; try rfl) (specCountProper_ok hs ha h61) ?_
    rintro _ m1 ⟨rfl, he⟩
    simp (decide := true) (disch := first | omega | rfl) only [↓SD, SP, opE, fget, binA, Nat.reduceEqDiff, reduceIte, again, stepV, wanted, resE, resL, resU, wr, rd, known, fillE, U.cells]
    refine Wo.callR (by simp (decide := true) (disch := first | omega | rfl) only [↓SD, SP, opE, fget, binA, Nat.reduceEqDiff, reduceIte, again, stepV, wanted, resE, resL, resU, wr, rd, known, fillE, U.cells]; try rfl) (implCountProper_ok hi ha hc h62) ?_
    rintro _ m2 ⟨rfl, he2⟩
    simp (decide := true) (disch := first | omega | rfl) only [↓SD, SP, opE, fget, binA, Nat.reduceEqDiff, reduceIte, again, stepV, wanted, resE, resL, resU, wr, rd, known, fillE, U.cells, bne_self_eq_false]
  obtain ⟨k, v, m', h1, rfl⟩ := key
  exact ⟨k, m', h1⟩
end Go.AL
