/-
  ProperOfRank on both sides.
-/
import Derived.Test.YtglmoocankodaaaAlColOf
namespace Go.AL
set_option linter.unusedSimpArgs false
set_option linter.unusedVariables false
open F
set_option linter.unusedSimpArgs false
set_option linter.unusedVariables false
variable {G : Env}

def porV (n t : Int) (around : Bool) (r : Int) : V :=
  if askB n t around = true ∧ 0 ≤ r ∧ r < countF n.toNat t.toNat around then .t [.a (.str (nowS (List.replicate n.toNat 46) (walkR (List.replicate n.toNat 46) t.toNat around r n.toNat).1 n.toNat)), .a (.bool true)] else .t [.a (.str []), .a (.bool false)]

theorem implPor_ok (hi : ColI G) (ha : ColA G) (hc : G 541 = some (.code impl_table_count)) (h556 : G 556 = some (.code impl_ofRank)) (hG : G 76 = some (.code impl_ProperOfRank)) {m : Mem} {n t r : Int} {around : Bool} (hr : -9223372036854775808 ≤ r ∧ r ≤ 9223372036854775807) :
    Rn G 76 [V.i n, V.i t, V.b around, V.i r] m fun v m' => v = porV n t around r ∧ Ext m m' := by
  refine Rn.code hG ?_
  unfold impl_ProperOfRank porV
  simp (decide := true) (disch := first | omega | rfl) only [↓SD, SP, opE, fget, binA, Nat.reduceEqDiff, reduceIte, again, stepV, wanted, resE, resL, resU, wr, rd, known, fillE, U.cells]
  refine Wo.callR (by simp (decide := true) (disch := first | omega | rfl) only [↓SD, SP, opE, fget, binA, Nat.reduceEqDiff, reduceIte, again, stepV, wanted, resE, resL, resU, wr, rd, known, fillE, U.cells]; try rfl) (isTinted_ok hi ha.isTinted) ?_
  rintro _ _ ⟨rfl, rfl⟩
  show Wo G _ _ (put _ _ (V.b (askB n t around))) _
  simp (decide := true) (disch := first | omega | rfl) only [↓SD, SP, opE, fget, binA, Nat.reduceEqDiff, reduceIte, again, stepV, wanted, resE, resL, resU, wr, rd, known, fillE, U.cells]
  cases hq : askB n t around with
  | false =>
    simp (decide := true) (disch := first | omega | rfl) only [↓SD, SP, opE, fget, binA, Nat.reduceEqDiff, reduceIte, again, stepV, wanted, resE, resL, resU, wr, rd, known, fillE, U.cells]
    exact ⟨_, rfl, by rw [if_neg (by simp)], Ext.refl _⟩
  | true =>
    obtain ⟨⟨h1, h2⟩, ⟨h3, h4⟩, h5⟩ := askB_spec hq
    obtain ⟨n, rfl⟩ := Int.eq_ofNat_of_zero_le (show 0 ≤ n by omega)
    obtain ⟨t, rfl⟩ := Int.eq_ofNat_of_zero_le (show 0 ≤ t by omega)
    have hl : (List.replicate n (46 : UInt8)).length = n := by simp
    have key := fun mm => ofRank_ok (G := G) (m := mm) (s := List.replicate n 46) (T := t) (around := around) (r := r) hi hc h556 (by exact bare_tells) (by omega) (by rw [hl]; omega) (by rw [hl]; omega) (by rw [hl]; intro h; have := h5 h; omega) hr
    simp only [hl] at key
    simp (decide := true) (disch := first | omega | rfl) only [↓SD, SP, opE, fget, binA, Nat.reduceEqDiff, reduceIte, again, stepV, wanted, resE, resL, resU, wr, rd, known, fillE, U.cells]
    refine Wo.callR (by simp (decide := true) (disch := first | omega | rfl) only [↓SD, SP, opE, fget, binA, Nat.reduceEqDiff, reduceIte, again, stepV, wanted, resE, resL, resU, wr, rd, known, fillE, U.cells]; try rfl) (key _) ?_
    rintro _ m2 ⟨rfl, he2⟩
    by_cases hok : 0 ≤ r ∧ r < countF n t around
    · have hok' : 0 ≤ r ∧ r < fromF (List.replicate n 46) t around := hok
      rw [if_pos hok']
      simp (decide := true) (disch := first | omega | rfl) only [↓SD, SP, opE, fget, binA, Nat.reduceEqDiff, reduceIte, again, stepV, wanted, resE, resL, resU, wr, rd, known, fillE, U.cells]
      exact ⟨_, rfl, rfl, he2⟩
    · have hok' : ¬ (0 ≤ r ∧ r < fromF (List.replicate n 46) t around) := hok
      rw [if_neg hok']
      simp (decide := true) (disch := first | omega | rfl) only [↓SD, SP, opE, fget, binA, Nat.reduceEqDiff, reduceIte, again, stepV, wanted, resE, resL, resU, wr, rd, known, fillE, U.cells]
      exact ⟨_, rfl, by rw [if_neg (by simpa using hok)], he2⟩

theorem specPor_ok (hs : ColS G) (hk : G 536 = some (.code spec_coAsked)) (hB : G 538 = some (.code spec_coBare)) (hW : G 891 = some (.code spec_coWith)) (h555 : G 555 = some (.code spec_coRanked)) (hG : G 75 = some (.code spec_ProperOfRank)) {m : Mem} {n t r : Int} {around : Bool} :
    Rn G 75 [V.i n, V.i t, V.b around, V.i r] m fun v m' => v = porV n t around r ∧ Ext m m' := by
  refine Rn.code hG ?_
  unfold spec_ProperOfRank porV
  simp (decide := true) (disch := first | omega | rfl) only [↓SD, SP, opE, fget, binA, Nat.reduceEqDiff, reduceIte, again, stepV, wanted, resE, resL, resU, wr, rd, known, fillE, U.cells]
  refine Wo.callR (by simp (decide := true) (disch := first | omega | rfl) only [↓SD, SP, opE, fget, binA, Nat.reduceEqDiff, reduceIte, again, stepV, wanted, resE, resL, resU, wr, rd, known, fillE, U.cells]; try rfl) (coAsked_ok hs hk) ?_
  rintro _ _ ⟨rfl, rfl⟩
  show Wo G _ _ (put _ _ (V.b (askB n t around))) _
  simp (decide := true) (disch := first | omega | rfl) only [↓SD, SP, opE, fget, binA, Nat.reduceEqDiff, reduceIte, again, stepV, wanted, resE, resL, resU, wr, rd, known, fillE, U.cells]
  cases hq : askB n t around with
  | false =>
    simp (decide := true) (disch := first | omega | rfl) only [↓SD, SP, opE, fget, binA, Nat.reduceEqDiff, reduceIte, again, stepV, wanted, resE, resL, resU, wr, rd, known, fillE, U.cells]
    exact ⟨_, rfl, by rw [if_neg (by simp)], Ext.refl _⟩
  | true =>
    obtain ⟨⟨h1, h2⟩, ⟨h3, h4⟩, h5⟩ := askB_spec hq
    obtain ⟨n, rfl⟩ := Int.eq_ofNat_of_zero_le (show 0 ≤ n by omega)
    obtain ⟨t, rfl⟩ := Int.eq_ofNat_of_zero_le (show 0 ≤ t by omega)
    simp (decide := true) (disch := first | omega | rfl) only [↓SD, SP, opE, fget, binA, Nat.reduceEqDiff, reduceIte, again, stepV, wanted, resE, resL, resU, wr, rd, known, fillE, U.cells]
    refine ⟨fun hb => ?_, fun hb => ?_⟩
    · have h0 := of_decide_eq_true hb
      simp (decide := true) (disch := first | omega | rfl) only [↓SD, SP, opE, fget, binA, Nat.reduceEqDiff, reduceIte, again, stepV, wanted, resE, resL, resU, wr, rd, known, fillE, U.cells, hb]
      exact ⟨_, rfl, by rw [if_neg (by omega)], Ext.refl _⟩
    · have h0 := of_decide_eq_false hb
      simp (decide := true) (disch := first | omega | rfl) only [↓SD, SP, opE, fget, binA, Nat.reduceEqDiff, reduceIte, again, stepV, wanted, resE, resL, resU, wr, rd, known, fillE, U.cells, hb]
      refine Wo.callR (by simp (decide := true) (disch := first | omega | rfl) only [↓SD, SP, opE, fget, binA, Nat.reduceEqDiff, reduceIte, again, stepV, wanted, resE, resL, resU, wr, rd, known, fillE, U.cells]; try rfl) (coBare_ok hB (by omega)) ?_
      rintro _ _ ⟨rfl, rfl⟩
      simp (decide := true) (disch := first | omega | rfl) only [↓SD, SP, opE, fget, binA, Nat.reduceEqDiff, reduceIte, again, stepV, wanted, resE, resL, resU, wr, rd, known, fillE, U.cells, hb]
      refine Wo.callR (by simp (decide := true) (disch := first | omega | rfl) only [↓SD, SP, opE, fget, binA, Nat.reduceEqDiff, reduceIte, again, stepV, wanted, resE, resL, resU, wr, rd, known, fillE, U.cells]; try rfl) (from_bare hs (n := n) (around := around) (by omega) (by omega) (by omega)) ?_
      rintro _ m2 ⟨rfl, he2⟩
      simp (decide := true) (disch := first | omega | rfl) only [↓SD, SP, opE, fget, binA, Nat.reduceEqDiff, reduceIte, again, stepV, wanted, resE, resL, resU, wr, rd, known, fillE, U.cells, hb]
      refine ⟨fun hb => ?_, fun hb => ?_⟩
      · have h6 := of_decide_eq_true hb
        simp (decide := true) (disch := first | omega | rfl) only [↓SD, SP, opE, fget, binA, Nat.reduceEqDiff, reduceIte, again, stepV, wanted, resE, resL, resU, wr, rd, known, fillE, U.cells]
        exact ⟨_, rfl, by first | rfl | rw [if_neg (fun e => by omega)], he2⟩
      · have h6 := of_decide_eq_false hb
        simp (decide := true) (disch := first | omega | rfl) only [↓SD, SP, opE, fget, binA, Nat.reduceEqDiff, reduceIte, again, stepV, wanted, resE, resL, resU, wr, rd, known, fillE, U.cells]
        refine Wo.callR (by simp (decide := true) (disch := first | omega | rfl) only [↓SD, SP, opE, fget, binA, Nat.reduceEqDiff, reduceIte, again, stepV, wanted, resE, resL, resU, wr, rd, known, fillE, U.cells]; try rfl) (coBare_ok hB (by omega)) ?_
        rintro _ _ ⟨rfl, rfl⟩
        simp (decide := true) (disch := first | omega | rfl) only [↓SD, SP, opE, fget, binA, Nat.reduceEqDiff, reduceIte, again, stepV, wanted, resE, resL, resU, wr, rd, known, fillE, U.cells]
        have hl : (List.replicate n (46 : UInt8)).length = n := by simp
        refine Wo.callR (by simp (decide := true) (disch := first | omega | rfl) only [↓SD, SP, opE, fget, binA, Nat.reduceEqDiff, reduceIte, again, stepV, wanted, resE, resL, resU, wr, rd, known, fillE, U.cells]; try rfl) (coRanked_ok (s := List.replicate n 46) (T := t) (around := around) (r := r) hs hW h555 (by omega) (by rw [hl]; omega) (by intro ch hch; rw [(List.mem_replicate.1 hch).2]; decide) (by omega) (by have e : countF n t around = fromF (List.replicate n 46) t around := rfl; omega)) ?_
        rintro _ m3 ⟨rfl, he3⟩
        simp (decide := true) (disch := first | omega | rfl) only [↓SD, SP, opE, fget, binA, Nat.reduceEqDiff, reduceIte, again, stepV, wanted, resE, resL, resU, wr, rd, known, fillE, U.cells]
        refine ⟨_, rfl, ?_, he2.trans he3⟩
        simp only [hl]

theorem lawPor (hi : ColI G) (hs : ColS G) (ha : ColA G) (hc : G 541 = some (.code impl_table_count)) (h556 : G 556 = some (.code impl_ofRank)) (hW : G 891 = some (.code spec_coWith)) (h555 : G 555 = some (.code spec_coRanked)) (h75 : G 75 = some (.code spec_ProperOfRank)) (h76 : G 76 = some (.code impl_ProperOfRank))
    (h10 : G 10 = some (.code laws_FnExactProperOfRank)) {n t r : Int} {around : Bool} (hr : -9223372036854775808 ≤ r ∧ r ≤ 9223372036854775807) :
    ∃ k m', run G k 10 [V.i n, V.i t, V.b around, V.i r] [] = some (V.b true, m') := by
  have key : Rn G 10 [V.i n, V.i t, V.b around, V.i r] [] fun v _ => v = V.b true := by
    refine Rn.code h10 ?_
    unfold laws_FnExactProperOfRank
    simp (decide := true) (disch := first | omega | rfl) only [↓SD, SP, opE, fget, binA, Nat.reduceEqDiff, reduceIte, again, stepV, wanted, resE, resL, resU, wr, rd, known, fillE, U.cells]
    refine Wo.callR (by simp (decide := true) (disch := first | omega | rfl) only [↓SD, SP, opE, fget, binA, Nat.reduceEqDiff, reduceIte, again, stepV, wanted, resE, resL, resU, wr, rd, known, fillE, U.cells]; try rfl) (specPor_ok hs ha.coAsked ha.coBare hW h555 h75) ?_
    rintro _ m1 ⟨rfl, he⟩
    obtain ⟨x, y, hv⟩ : ∃ x y, porV n t around r = .t [.a (.str x), .a (.bool y)] := by
      unfold porV; split <;> exact ⟨_, _, rfl⟩
    rw [hv]
    simp (decide := true) (disch := first | omega | rfl) only [↓SD, SP, opE, fget, binA, Nat.reduceEqDiff, reduceIte, again, stepV, wanted, resE, resL, resU, wr, rd, known, fillE, U.cells]
    refine Wo.callR (by simp (decide := true) (disch := first | omega | rfl) only [↓SD, SP, opE, fget, binA, Nat.reduceEqDiff, reduceIte, again, stepV, wanted, resE, resL, resU, wr, rd, known, fillE, U.cells]; try rfl) (implPor_ok hi ha hc h556 h76 hr) ?_
    rintro _ m2 ⟨rfl, he2⟩
    rw [hv]
    simp (decide := true) (disch := first | omega | rfl) only [↓SD, SP, opE, fget, binA, Nat.reduceEqDiff, reduceIte, again, stepV, wanted, resE, resL, resU, wr, rd, known, fillE, U.cells, bne_self_eq_false]
  obtain ⟨k, v, m', h1, rfl⟩ := key
  exact ⟨k, m', h1⟩
end Go.AL
