/-
  FirstRepainted on both sides.
-/
import Derived.Test.YtaamjlckaakenaaAlColFirstG
namespace Go.AL
set_option linter.unusedSimpArgs false
set_option linter.unusedVariables false
open F
set_option linter.unusedSimpArgs false
set_option linter.unusedVariables false
variable {G : Env}

theorem doneS_next {p : Nat → Nat} {i c : Nat} : doneS p i ++ doneS (fun _ => c) 1 = doneS (put1 p i c) (i + 1) := by
  have e0 : doneS (fun _ => c) 1 = [UInt8.ofNat (97 + c)] := rfl
  rw [e0]
  unfold doneS
  rw [List.range_succ, List.map_append]
  congr 1
  · apply List.map_congr_left
    intro j hj
    have : j < i := by simpa using hj
    unfold put1; rw [if_neg (by omega)]
  · simp [put1]

theorem few_ok {s : List UInt8} {T n i c : Nat} {around : Bool} {p : Nat → Nat} {x : Int} (hT : T ≤ 5) (hx : 0 ≤ x) (hn : n = s.length) (hc : c < T) (hne : i = 0 ∨ p (i - 1) ≠ c) : fewV s T around (put1 p i c) (i + 1) = x ↔ okL (repT s T) n around p i c x := by
  subst hn
  have hpi : put1 p i c (i + 1 - 1) = c := by unfold put1; rw [if_pos (by omega)]
  have hm := (rep_may (s := s) (tn := T) (i := i) (b := c) (by omega)).2 hc
  unfold fewV okL
  rw [hpi]
  constructor
  · intro h
    by_cases hb : bL (repT s T) s.length (lastOf around (put1 p i c)) (s.length - (i + 1)) c < 0
    · rw [if_pos hb] at h; omega
    · rw [if_neg hb] at h; exact ⟨hne, hm, by omega, h⟩
  · rintro ⟨_, _, h3, h4⟩
    rw [if_neg (by omega)]; exact h4

abbrev slotsG1 : List Nat := 10 :: 12 :: 13 :: List.range' 28 33

set_option maxHeartbeats 2000000 in
theorem frp_L1 (h892 : G 892 = some (.code spec_coRepaint)) (h559 : G 559 = some (.code spec_coFewest)) {s : List UInt8} {T i : Nat} {around : Bool} {x : Int} {p : Nat → Nat} {fr : Fr} {q : Mem} (hT : T ≤ 5) (hs : s.length ≤ 20) (hil : i < s.length) (hx : 0 ≤ x) (hp : ∀ j, j < i → p j < T) (hex : ∃ c, c < 5 ∧ okL (repT s T) s.length around p i c x)
    (f0 : fget fr 0 = V.s s) (f1 : fget fr 1 = V.i T) (f2 : fget fr 2 = V.b around) (f8 : fget fr 8 = V.i x) (f11 : fget fr 11 = V.i i) (f12 : fget fr 12 = V.i 0) (f10 : fget fr 10 = V.s (doneS p i)) :
    Wc G (.loop spec_FirstRepainted_L1) (fun e f' q' => e = .exit 2 ∧ Ext q q' ∧ fget f' 10 = V.s (doneS (put1 p i (nextL (repT s T) s.length around p i x)) (i + 1)) ∧ Keep slotsG1 fr f') fr q := by
  refine Wc.loopN (fun c f q' => fget f 12 = V.i c ∧ Keep slotsG1 fr f ∧ Ext q q' ∧ fget f 10 = V.s (doneS p i) ∧ ∀ d, d < c → ¬ okL (repT s T) s.length around p i d x) T (fun c f q' hcT hS => ?_)
    ⟨f12, Keep.refl, Ext.refl _, f10, fun d hd => by omega⟩
  obtain ⟨h12, hk, heq, h10, hno⟩ := hS
  have k0 := (hk 0 (by decide)).trans f0; have k1 := (hk 1 (by decide)).trans f1; have k2 := (hk 2 (by decide)).trans f2; have k8 := (hk 8 (by decide)).trans f8; have k11 := (hk 11 (by decide)).trans f11
  have hlt : c < T := by
    obtain ⟨d, h1, h2⟩ := hex
    by_cases h : c < T
    · exact h
    · exact absurd h2 (hno d (by have := (rep_may h1).1 h2.2.1; omega))
  have no : ¬ okL (repT s T) s.length around p i c x → ∀ d, d < c + 1 → ¬ okL (repT s T) s.length around p i d x := fun h d hd => by
    by_cases hdc : d = c
    · rw [hdc]; exact h
    · exact hno d (by omega)
  have hab := abc (c := c) (by omega)
  have e1 : ((c : Int) + 1).toNat = c + 1 := by omega
  have hnx := doneS_next (p := p) (i := i) (c := c)
  have hl1 : (doneS p i).length = i := doneS_len
  have hl2 : (doneS (fun _ => c) 1).length = 1 := doneS_len
  have hd : decide ((c : Int) < T) = true := decide_eq_true (by omega)
  have hpi : put1 p i c i = c := by unfold put1; rw [if_pos rfl]
  have g1 := doneS_get (p := put1 p i c) (k := i + 1) (j := i) (by omega)
  rw [hpi] at g1
  have t1 := ofNat_toNat (c := c) (by omega)
  have found : okL (repT s T) s.length around p i c x → nextL (repT s T) s.length around p i x = c := fun hok => firstB_eq 5 0 (Nat.zero_le _) (by omega) (fun d _ hd => decide_eq_false (hno d hd)) (decide_eq_true hok)
  have hput : ∀ j, j < i + 1 → put1 p i c j < T := by
    intro j hj; unfold put1
    split
    · exact hlt
    · exact hp j (by omega)
  have go := fun mm => coFewestD_ok (G := G) (m := mm) (s := s) (T := T) (k := i + 1) (around := around) (p := put1 p i c) h892 h559 (by omega) (by omega) hs hT hput
  unfold spec_FirstRepainted_L1
  simp (decide := true) (disch := first | omega | rfl) only [↓SD, SP, opE, fget, binA, Nat.reduceEqDiff, reduceIte, again, stepV, wanted, resE, resL, resU, wr, rd, known, fillE, U.cells, h12, k1, hd, h10, bnd, e1, hab, hnx, hl1, hl2, k11]
  by_cases hi0 : i = 0
  · have hz : ((i : Int) == 0) = true := by rw [beq_iff_eq]; omega
    have hfk := few_ok (s := s) (T := T) (around := around) (p := p) (x := x) hT hx rfl hlt (.inl hi0)
    simp (decide := true) (disch := first | omega | rfl) only [↓SD, SP, opE, fget, binA, Nat.reduceEqDiff, reduceIte, again, stepV, wanted, resE, resL, resU, wr, rd, known, fillE, U.cells, hz, k0, k1, k2, k8]
    refine Wo.callR (by simp (decide := true) (disch := first | omega | rfl) only [↓SD, SP, opE, fget, binA, Nat.reduceEqDiff, reduceIte, again, stepV, wanted, resE, resL, resU, wr, rd, known, fillE, U.cells]; try rfl) (go _) ?_
    rintro _ m2 ⟨rfl, he2⟩
    simp (decide := true) (disch := first | omega | rfl) only [↓SD, SP, opE, fget, binA, Nat.reduceEqDiff, reduceIte, again, stepV, wanted, resE, resL, resU, wr, rd, known, fillE, U.cells]
    by_cases hv : fewV s T around (put1 p i c) (i + 1) = x
    · have hvb : (fewV s T around (put1 p i c) (i + 1) == x) = true := by rw [beq_iff_eq]; exact hv
      rw [found (hfk.1 hv)]
      simp (decide := true) (disch := first | omega | rfl) only [↓SD, SP, opE, fget, binA, Nat.reduceEqDiff, reduceIte, again, stepV, wanted, resE, resL, resU, wr, rd, known, fillE, U.cells, hvb]
      exact ⟨heq.trans he2, (by (repeat (refine Keep.set ?_ (by decide))); exact hk)⟩
    · have hvb : (fewV s T around (put1 p i c) (i + 1) == x) = false := by rw [beq_eq_false_iff_ne]; exact hv
      simp (decide := true) (disch := first | omega | rfl) only [↓SD, SP, opE, fget, binA, Nat.reduceEqDiff, reduceIte, again, stepV, wanted, resE, resL, resU, wr, rd, known, fillE, U.cells, hvb, h12]
      exact ⟨hlt, by simp, (by (repeat (refine Keep.set ?_ (by decide))); exact hk), heq.trans he2, h10, no (fun h => hv (hfk.2 h))⟩
  · have hz : ((i : Int) == 0) = false := by rw [beq_eq_false_iff_ne]; omega
    have ek : (i : Int) - 1 = ((i - 1 : Nat) : Int) := by omega
    have g2 := doneS_get (p := put1 p i c) (k := i + 1) (j := i - 1) (by omega)
    have hpj : put1 p i c (i - 1) = p (i - 1) := by unfold put1; rw [if_neg (by omega)]
    rw [hpj] at g2
    have hpi5 := hp (i - 1) (by omega)
    have t2 := ofNat_toNat (c := p (i - 1)) (by omega)
    by_cases hne : p (i - 1) = c
    · have hnb : (((97 + c : Nat) : Int) != ((97 + p (i - 1) : Nat) : Int)) = false := by rw [bne_eq_false_iff_eq]; omega
      simp (decide := true) (disch := first | omega | rfl) only [↓SD, SP, opE, fget, binA, Nat.reduceEqDiff, reduceIte, again, stepV, wanted, resE, resL, resU, wr, rd, known, fillE, U.cells, hz, g1, ek, g2, t1, t2, hnb, h12, k11]
      exact ⟨hlt, by simp, (by (repeat (refine Keep.set ?_ (by decide))); exact hk), heq, h10, no (fun h => h.1.elim hi0 (fun h => h hne))⟩
    · have hnb : (((97 + c : Nat) : Int) != ((97 + p (i - 1) : Nat) : Int)) = true := by rw [bne_iff_ne]; omega
      have hfk := few_ok (s := s) (T := T) (around := around) (p := p) (x := x) hT hx rfl hlt (.inr hne)
      simp (decide := true) (disch := first | omega | rfl) only [↓SD, SP, opE, fget, binA, Nat.reduceEqDiff, reduceIte, again, stepV, wanted, resE, resL, resU, wr, rd, known, fillE, U.cells, hz, g1, ek, g2, t1, t2, hnb, k0, k1, k2, k8, k11]
      refine Wo.callR (by simp (decide := true) (disch := first | omega | rfl) only [↓SD, SP, opE, fget, binA, Nat.reduceEqDiff, reduceIte, again, stepV, wanted, resE, resL, resU, wr, rd, known, fillE, U.cells]; try rfl) (go _) ?_
      rintro _ m2 ⟨rfl, he2⟩
      simp (decide := true) (disch := first | omega | rfl) only [↓SD, SP, opE, fget, binA, Nat.reduceEqDiff, reduceIte, again, stepV, wanted, resE, resL, resU, wr, rd, known, fillE, U.cells]
      by_cases hv : fewV s T around (put1 p i c) (i + 1) = x
      · have hvb : (fewV s T around (put1 p i c) (i + 1) == x) = true := by rw [beq_iff_eq]; exact hv
        rw [found (hfk.1 hv)]
        simp (decide := true) (disch := first | omega | rfl) only [↓SD, SP, opE, fget, binA, Nat.reduceEqDiff, reduceIte, again, stepV, wanted, resE, resL, resU, wr, rd, known, fillE, U.cells, hvb]
        exact ⟨heq.trans he2, (by (repeat (refine Keep.set ?_ (by decide))); exact hk)⟩
      · have hvb : (fewV s T around (put1 p i c) (i + 1) == x) = false := by rw [beq_eq_false_iff_ne]; exact hv
        simp (decide := true) (disch := first | omega | rfl) only [↓SD, SP, opE, fget, binA, Nat.reduceEqDiff, reduceIte, again, stepV, wanted, resE, resL, resU, wr, rd, known, fillE, U.cells, hvb, h12]
        exact ⟨hlt, by simp, (by (repeat (refine Keep.set ?_ (by decide))); exact hk), heq.trans he2, h10, no (fun h => hv (hfk.2 h))⟩

def frpV (s : List UInt8) (t : Int) (around : Bool) : V := if filledB s t around = true ∧ 0 ≤ fewT s t.toNat around then .t [.a (.str (doneS (walkL (repT s t.toNat) s.length around (fewT s t.toNat around) s.length) s.length)), .a (.bool true)] else .t [.a (.str []), .a (.bool false)]

theorem implFrp_ok (hi : ColI G) (hf : ColF G) (hb : ColB G) (h561 : G 561 = some (.code impl_repainted)) (h547 : G 547 = some (.code impl_table_first)) (hG : G 115 = some (.code impl_FirstRepainted)) {m : Mem} {s : List UInt8} {t : Int} {around : Bool} :
    Rn G 115 [V.s s, V.i t, V.b around] m fun v m' => v = frpV s t around := by
  refine Rn.code hG ?_
  unfold impl_FirstRepainted frpV
  simp (decide := true) (disch := first | omega | rfl) only [↓SD, SP, opE, fget, binA, Nat.reduceEqDiff, reduceIte, again, stepV, wanted, resE, resL, resU, wr, rd, known, fillE, U.cells]
  refine Wo.callR (by simp (decide := true) (disch := first | omega | rfl) only [↓SD, SP, opE, fget, binA, Nat.reduceEqDiff, reduceIte, again, stepV, wanted, resE, resL, resU, wr, rd, known, fillE, U.cells]; try rfl) (isFilled_ok hi hf hb.isStood hb.isFilled) ?_
  rintro _ m1 ⟨rfl, he⟩
  simp (decide := true) (disch := first | omega | rfl) only [↓SD, SP, opE, fget, binA, Nat.reduceEqDiff, reduceIte, again, stepV, wanted, resE, resL, resU, wr, rd, known, fillE, U.cells]
  cases hq : filledB s t around with
  | false =>
    simp (decide := true) (disch := first | omega | rfl) only [↓SD, SP, opE, fget, binA, Nat.reduceEqDiff, reduceIte, again, stepV, wanted, resE, resL, resU, wr, rd, known, fillE, U.cells]
    exact ⟨_, rfl, by rw [if_neg (by simp)]⟩
  | true =>
    obtain ⟨⟨h1, h2⟩, h3, ⟨h4, h5⟩, h6⟩ := filledB_spec hq
    obtain ⟨t, rfl⟩ := Int.eq_ofNat_of_zero_le (show 0 ≤ t by omega)
    have ht : ((t : Int)).toNat = t := rfl
    have htf := tot_few (s := s) (t := t) (around := around) h1 (by omega)
    simp (decide := true) (disch := first | omega | rfl) only [↓SD, SP, opE, fget, binA, Nat.reduceEqDiff, reduceIte, again, stepV, wanted, resE, resL, resU, wr, rd, known, fillE, U.cells]
    refine Wo.callR (by simp (decide := true) (disch := first | omega | rfl) only [↓SD, SP, opE, fget, binA, Nat.reduceEqDiff, reduceIte, again, stepV, wanted, resE, resL, resU, wr, rd, known, fillE, U.cells]; try rfl) (repainted_ok hi h561 h1 h2 (by omega)) ?_
    rintro _ m2 ⟨⟨b, c, rfl, hb, hlo⟩, he2⟩
    simp (decide := true) (disch := first | omega | rfl) only [↓SD, SP, opE, fget, binA, Nat.reduceEqDiff, reduceIte, again, stepV, wanted, resE, resL, resU, wr, rd, known, fillE, U.cells]
    refine Wo.callR (by simp (decide := true) (disch := first | omega | rfl) only [↓SD, SP, opE, fget, binA, Nat.reduceEqDiff, reduceIte, again, stepV, wanted, resE, resL, resU, wr, rd, known, fillE, U.cells]; try rfl) (firstG_ok (around := around) hi h547 hb (rep_costs (s := s) (tn := t)) h1 h2) ?_
    rintro _ m3 ⟨rfl, he3⟩
    rw [htf]
    by_cases h0 : 0 ≤ fewT s t around
    · rw [if_pos h0]
      simp (decide := true) (disch := first | omega | rfl) only [↓SD, SP, opE, fget, binA, Nat.reduceEqDiff, reduceIte, again, stepV, wanted, resE, resL, resU, wr, rd, known, fillE, U.cells]
      exact ⟨_, rfl, by first | rfl | rw [if_pos ⟨rfl, h0⟩]⟩
    · rw [if_neg h0]
      simp (decide := true) (disch := first | omega | rfl) only [↓SD, SP, opE, fget, binA, Nat.reduceEqDiff, reduceIte, again, stepV, wanted, resE, resL, resU, wr, rd, known, fillE, U.cells]
      all_goals exact ⟨_, rfl, by rw [if_neg (fun h => by first | exact h0 h | exact h0 h.2)]⟩

theorem specFrp_ok (hs : ColS0 G) (hb : ColB G) (h715 : G 715 = some (.code spec_stGood)) (h559 : G 559 = some (.code spec_coFewest)) (h892 : G 892 = some (.code spec_coRepaint)) (h77 : G 77 = some (.code spec_FewestRepaints)) (hG : G 114 = some (.code spec_FirstRepainted)) {m : Mem} {s : List UInt8} {t : Int} {around : Bool} :
    Rn G 114 [V.s s, V.i t, V.b around] m fun v m' => v = frpV s t around := by
  refine Rn.code hG ?_
  unfold spec_FirstRepainted frpV
  simp (decide := true) (disch := first | omega | rfl) only [↓SD, SP, opE, fget, binA, Nat.reduceEqDiff, reduceIte, again, stepV, wanted, resE, resL, resU, wr, rd, known, fillE, U.cells]
  refine Wo.callR (by simp (decide := true) (disch := first | omega | rfl) only [↓SD, SP, opE, fget, binA, Nat.reduceEqDiff, reduceIte, again, stepV, wanted, resE, resL, resU, wr, rd, known, fillE, U.cells]; try rfl) (specFw_ok hs hb h715 h559 h892 h77) ?_
  rintro _ m rfl
  unfold fwV
  by_cases hok : filledB s t around = true ∧ 0 ≤ fewT s t.toNat around
  · rw [if_pos hok, if_pos hok]
    obtain ⟨hq, h0⟩ := hok
    obtain ⟨⟨h1, h2⟩, h3, ⟨h4, h5⟩, h6⟩ := filledB_spec hq
    obtain ⟨t, rfl⟩ := Int.eq_ofNat_of_zero_le (show 0 ≤ t by omega)
    have ht : ((t : Int)).toNat = t := rfl
    rw [ht] at h0 ⊢
    have hasc := boards_ascii h3
    have htf := tot_few (s := s) (t := t) (around := around) h1 (by omega)
    generalize hx : fewT s t around = x at h0 ⊢
    rw [hx] at htf
    have hC := rep_costs (s := s) (tn := t)
    have hwalk := walkL_ok (n := s.length) (around := around) hC (by rw [htf]; exact h0) htf
    have hpT : ∀ i, i ≤ s.length → ∀ j, j < i → walkL (repT s t) s.length around x i j < t := by
      intro i hi j hj
      have := (hwalk i hi).1.1 j hj
      exact (rep_may this.1).1 this.2
    simp (decide := true) (disch := first | omega | rfl) only [↓SD, SP, opE, fget, binA, Nat.reduceEqDiff, reduceIte, again, stepV, wanted, resE, resL, resU, wr, rd, known, fillE, U.cells]
    refine Wc.loopN (fun i f q => fget f 24 = V.a (.ptr m.length 0) ∧ fget f 0 = V.s s ∧ fget f 1 = V.i t ∧ fget f 2 = V.b around ∧ fget f 8 = V.i x ∧ fget f 10 = V.s (doneS (walkL (repT s t) s.length around x i) i) ∧ Ext m q ∧ q[m.length]? = some (.iter s i)) s.length (fun i f q hil hS => ?_)
      ⟨(by simp (decide := true) (disch := first | omega | rfl) only [↓SD, SP, opE, fget, binA, Nat.reduceEqDiff, reduceIte, again, stepV, wanted, resE, resL, resU, wr, rd, known, fillE, U.cells]; try rfl), (by simp (decide := true) (disch := first | omega | rfl) only [↓SD, SP, opE, fget, binA, Nat.reduceEqDiff, reduceIte, again, stepV, wanted, resE, resL, resU, wr, rd, known, fillE, U.cells]; try rfl), (by simp (decide := true) (disch := first | omega | rfl) only [↓SD, SP, opE, fget, binA, Nat.reduceEqDiff, reduceIte, again, stepV, wanted, resE, resL, resU, wr, rd, known, fillE, U.cells]; try rfl), (by simp (decide := true) (disch := first | omega | rfl) only [↓SD, SP, opE, fget, binA, Nat.reduceEqDiff, reduceIte, again, stepV, wanted, resE, resL, resU, wr, rd, known, fillE, U.cells]; try rfl), (by simp (decide := true) (disch := first | omega | rfl) only [↓SD, SP, opE, fget, binA, Nat.reduceEqDiff, reduceIte, again, stepV, wanted, resE, resL, resU, wr, rd, known, fillE, U.cells]; try rfl), by simp (decide := true) (disch := first | omega | rfl) only [↓SD, SP, opE, fget, binA, Nat.reduceEqDiff, reduceIte, again, stepV, wanted, resE, resL, resU, wr, rd, known, fillE, U.cells]; rfl, Ext.push _ _, by simp⟩
    obtain ⟨h24, h0', h1', h2', h8, h10, he, hq'⟩ := hS
    have lq := lt_of_get hq'
    unfold spec_FirstRepainted_L0
    by_cases hi' : i < s.length
    · have hsi : s[i]? = some s[i] := List.getElem?_eq_getElem hi'
      have hasc' := hasc s[i] (List.getElem_mem hi')
      have heq : Ext m (q.set m.length (.iter s (i + 1))) := he.set (Nat.le_refl _)
      obtain ⟨hg, hw⟩ := hwalk i hil
      have hex := way_on hC hi' hw
      simp (decide := true) (disch := first | omega | rfl) only [↓SD, SP, opE, fget, binA, Nat.reduceEqDiff, reduceIte, again, stepV, wanted, resE, resL, resU, wr, rd, known, fillE, U.cells, h24, hq', hsi]
      refine (frp_L1 (s := s) (T := t) (i := i) (around := around) (x := x) (p := walkL (repT s t) s.length around x i) h892 h559 (by omega) h2 hi' h0 (hpT i hil) hex (by simp (decide := true) (disch := first | omega | rfl) only [↓SD, SP, opE, fget, binA, Nat.reduceEqDiff, reduceIte, again, stepV, wanted, resE, resL, resU, wr, rd, known, fillE, U.cells, h0']) (by simp (decide := true) (disch := first | omega | rfl) only [↓SD, SP, opE, fget, binA, Nat.reduceEqDiff, reduceIte, again, stepV, wanted, resE, resL, resU, wr, rd, known, fillE, U.cells, h1']) (by simp (decide := true) (disch := first | omega | rfl) only [↓SD, SP, opE, fget, binA, Nat.reduceEqDiff, reduceIte, again, stepV, wanted, resE, resL, resU, wr, rd, known, fillE, U.cells, h2']) (by simp (decide := true) (disch := first | omega | rfl) only [↓SD, SP, opE, fget, binA, Nat.reduceEqDiff, reduceIte, again, stepV, wanted, resE, resL, resU, wr, rd, known, fillE, U.cells, h8]) (by simp (decide := true) (disch := first | omega | rfl) only [↓SD, SP, opE, fget, binA, Nat.reduceEqDiff, reduceIte, again, stepV, wanted, resE, resL, resU, wr, rd, known, fillE, U.cells]) (by simp (decide := true) (disch := first | omega | rfl) only [↓SD, SP, opE, fget, binA, Nat.reduceEqDiff, reduceIte, again, stepV, wanted, resE, resL, resU, wr, rd, known, fillE, U.cells]) (by simp (decide := true) (disch := first | omega | rfl) only [↓SD, SP, opE, fget, binA, Nat.reduceEqDiff, reduceIte, again, stepV, wanted, resE, resL, resU, wr, rd, known, fillE, U.cells, h10])).mono ?_
      rintro e f' q' ⟨rfl, he', g10, hk⟩
      have j24 := hk 24 (by decide); have j0 := hk 0 (by decide); have j1 := hk 1 (by decide); have j2 := hk 2 (by decide); have j8 := hk 8 (by decide)
      simp (decide := true) only [↓SD, SP, opE, fget, binA, Nat.reduceEqDiff, reduceIte, again, stepV, wanted, resE, resL, resU, wr, rd, known, fillE, U.cells, h24, h0', h1', h2', h8] at j24 j0 j1 j2 j8
      simp (decide := true) (disch := first | omega | rfl) only [↓SD, SP, opE, fget, binA, Nat.reduceEqDiff, reduceIte, again, stepV, wanted, resE, resL, resU, wr, rd, known, fillE, U.cells, j24, j0, j1, j2, j8, g10]
      have hq2 : q'[m.length]? = some (.iter s (i + 1)) := he'.get (by simp (decide := true) (disch := first | omega | rfl) only [↓SD, SP, opE, fget, binA, Nat.reduceEqDiff, reduceIte, again, stepV, wanted, resE, resL, resU, wr, rd, known, fillE, U.cells])
      first
      | exact ⟨hi', heq.trans he', hq2⟩
      | exact ⟨hi', rfl, heq.trans he', hq2⟩
    · have : i = s.length := by omega
      subst this
      have hsi : s[s.length]? = none := List.getElem?_eq_none (Nat.le_refl _)
      simp (decide := true) (disch := first | omega | rfl) only [↓SD, SP, opE, fget, binA, Nat.reduceEqDiff, reduceIte, again, stepV, wanted, resE, resL, resU, wr, rd, known, fillE, U.cells, h24, hq', hsi, h10]
      exact ⟨_, rfl, rfl⟩
  · rw [if_neg hok, if_neg hok]
    simp (decide := true) (disch := first | omega | rfl) only [↓SD, SP, opE, fget, binA, Nat.reduceEqDiff, reduceIte, again, stepV, wanted, resE, resL, resU, wr, rd, known, fillE, U.cells]

theorem lawFrp (hi : ColI G) (hs : ColS0 G) (hf : ColF G) (hb : ColB G) (h561 : G 561 = some (.code impl_repainted)) (h547 : G 547 = some (.code impl_table_first)) (h115 : G 115 = some (.code impl_FirstRepainted)) (h715 : G 715 = some (.code spec_stGood)) (h559 : G 559 = some (.code spec_coFewest)) (h892 : G 892 = some (.code spec_coRepaint)) (h77 : G 77 = some (.code spec_FewestRepaints)) (h114 : G 114 = some (.code spec_FirstRepainted))
    (h16 : G 16 = some (.code laws_FnExactFirstRepainted)) {s : List UInt8} {t : Int} {around : Bool} : ∃ k m', run G k 16 [V.s s, V.i t, V.b around] [] = some (V.b true, m') :=
  law3 (x := 114) (y := 115) (val := frpV s t around) h16 (.inr (by unfold frpV; split <;> exact ⟨_, _, rfl⟩)) (fun _ _ => specFrp_ok hs hb h715 h559 h892 h77 h114) (fun _ _ => implFrp_ok hi hf hb h561 h547 h115)
end Go.AL
