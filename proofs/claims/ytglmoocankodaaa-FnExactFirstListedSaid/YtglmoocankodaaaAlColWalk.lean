/-
  The reference's and the program's fence of a rank are both that of the walk.
-/
import Derived.Test.YtglmoocankodaaaAlColGreedy
namespace Go.AL
set_option linter.unusedSimpArgs false
set_option linter.unusedVariables false
open F
set_option linter.unusedSimpArgs false
set_option linter.unusedVariables false
variable {G : Env}

theorem sm_head {f : Nat → Int} {c : Nat} : ∀ k, sm (fun j => f (c + j)) (k + 1) = f c + sm (fun j => f (c + 1 + j)) k
  | 0 => by simp [sm]
  | k + 1 => by
    have e1 : sm (fun j => f (c + j)) (k + 1 + 1) = sm (fun j => f (c + j)) (k + 1) + f (c + (k + 1)) := rfl
    have e2 : sm (fun j => f (c + 1 + j)) (k + 1) = sm (fun j => f (c + 1 + j)) k + f (c + 1 + k) := rfl
    rw [e1, e2, sm_head k, show c + (k + 1) = c + 1 + k by omega, Int.add_assoc]

abbrev slotsR1 : List Nat := 3 :: 9 :: 11 :: 12 :: 13 :: List.range' 20 41

set_option maxHeartbeats 2000000 in
theorem coRanked_L1 (h : ColS G) (hW : G 891 = some (.code spec_coWith)) {s : List UInt8} {T i : Nat} {around : Bool} {p : Nat → Nat} {r : Int} {fr : Fr} {q : Mem} (hT : T ≤ 5) (hs : s.length ≤ 20) (hi : i < s.length) (hg : GoodP s T p i)
    (hr0 : 0 ≤ r) (hr : r < sm (stepC s T around p i) T) (f0 : fget fr 0 = V.s s) (f1 : fget fr 1 = V.i T) (f2 : fget fr 2 = V.b around) (f10 : fget fr 10 = V.i i) (f9 : fget fr 9 = V.s (nowS s p i)) (f3 : fget fr 3 = V.i r) (f11 : fget fr 11 = V.i 0) :
    Wc G (.loop spec_coRanked_L1) (fun e f' q' => e = .exit 2 ∧ Ext q q' ∧ fget f' 9 = V.s (nowS s (put1 p i (pick (stepC s T around p i) T 0 r).1) (i + 1)) ∧ fget f' 3 = V.i (pick (stepC s T around p i) T 0 r).2 ∧ Keep slotsR1 fr f') fr q := by
  refine Wc.loopN (fun c f q' => fget f 11 = V.i c ∧ Keep slotsR1 fr f ∧ Ext q q' ∧ fget f 9 = V.s (nowS s p i) ∧ ∃ rc, fget f 3 = V.i rc ∧ 0 ≤ rc ∧ rc ≤ r ∧ rc < sm (fun j => stepC s T around p i (c + j)) (T - c) ∧ pick (stepC s T around p i) T 0 r = pick (stepC s T around p i) (T - c) c rc) T (fun c f q' hc hS => ?_)
    ⟨f11, Keep.refl, Ext.refl _, f9, r, f3, hr0, Int.le_refl _, by simpa using hr, by simp⟩
  obtain ⟨h11, hk, he, h9, rc, h3, hrc0, hrcr, hrc, hpk⟩ := hS
  have k0 := (hk 0 (by decide)).trans f0; have k1 := (hk 1 (by decide)).trans f1; have k2 := (hk 2 (by decide)).trans f2; have k10 := (hk 10 (by decide)).trans f10
  have hrB : r ≤ 9000000000000000000 := by
    have hb : ∀ d, 0 ≤ stepC s T around p i d ∧ stepC s T around p i d ≤ 500000000000000000 := fun d => stepC_bound hT hs
    have := sumW_bound (p := fun _ => true) hb T
    rw [sumW_sm] at this
    simp only [if_true] at this
    have e : sm (fun k => stepC s T around p i k) T = sm (stepC s T around p i) T := rfl
    omega
  unfold spec_coRanked_L1
  simp (decide := true) (disch := first | omega | rfl) only [↓SD, SP, opE, fget, binA, Nat.reduceEqDiff, reduceIte, again, stepV, wanted, resE, resL, resU, wr, rd, known, fillE, U.cells, h11, k1]
  refine ⟨fun hb => ?_, fun hb => ?_⟩
  · have hlt := of_decide_eq_true hb
    obtain ⟨d, hd⟩ : ∃ d, T - c = d + 1 := ⟨T - c - 1, by omega⟩
    have hd' : T - (c + 1) = d := by omega
    rw [hd, sm_head] at hrc
    have hps : pick (stepC s T around p i) (d + 1) c rc = if rc < stepC s T around p i c then (c, rc) else pick (stepC s T around p i) d (c + 1) (rc - stepC s T around p i c) := rfl
    rw [hd, hps] at hpk
    have hCb := stepC_bound (i := i) (c := c) (around := around) (p := p) hT hs
    simp (decide := true) (disch := first | omega | rfl) only [↓SD, SP, opE, fget, binA, Nat.reduceEqDiff, reduceIte, again, stepV, wanted, resE, resL, resU, wr, rd, known, fillE, U.cells, h11, k0, k10]
    refine Wo.callR (by simp (decide := true) (disch := first | omega | rfl) only [↓SD, SP, opE, fget, binA, Nat.reduceEqDiff, reduceIte, again, stepV, wanted, resE, resL, resU, wr, rd, known, fillE, U.cells, k0, k10, h11]; try rfl) (coAllows_ok (t := c) h.coAllows hi) ?_
    rintro _ _ ⟨rfl, rfl⟩
    simp (decide := true) (disch := first | omega | rfl) only [↓SD, SP, opE, fget, binA, Nat.reduceEqDiff, reduceIte, again, stepV, wanted, resE, resL, resU, wr, rd, known, fillE, U.cells]
    refine ⟨fun hb => ?_, fun hb => ?_⟩
    · have ha : allow s i c = false := by simpa using hb
      have hz : stepC s T around p i c = 0 := by unfold stepC; rw [if_neg (fun e => by rw [ha] at e; simp at e)]
      simp (decide := true) (disch := first | omega | rfl) only [↓SD, SP, opE, fget, binA, Nat.reduceEqDiff, reduceIte, again, stepV, wanted, resE, resL, resU, wr, rd, known, fillE, U.cells, hb, h11]
      exact ⟨by omega, by simp, (by (repeat (refine Keep.set ?_ (by decide))); exact hk), he, h9, rc, h3, hrc0, hrcr, by rw [hd']; omega, by rw [hpk, hd', if_neg (by omega), hz, Int.sub_zero]⟩
    · have ha : allow s i c = true := by simpa using hb
      simp (decide := true) (disch := first | omega | rfl) only [↓SD, SP, opE, fget, binA, Nat.reduceEqDiff, reduceIte, again, stepV, wanted, resE, resL, resU, wr, rd, known, fillE, U.cells, hb, k10]
      refine ⟨fun hb => ?_, fun hb => ?_⟩
      · have hi0 := of_decide_eq_true hb
        have ei : (i : Int) - 1 = ((i - 1 : Nat) : Int) := by omega
        have g1 : (nowS s p i)[i - 1]? = some (UInt8.ofNat (97 + p (i - 1))) := by rw [nowS_get (by omega), if_pos (by omega)]
        have hp5 := (hg.1 (i - 1) (by omega)).1
        have l1 := lv_now (c := p (i - 1)) (by omega)
        simp (decide := true) (disch := first | omega | rfl) only [↓SD, SP, opE, fget, binA, Nat.reduceEqDiff, reduceIte, again, stepV, wanted, resE, resL, resU, wr, rd, known, fillE, U.cells, hb, ha, k10, h9, ei, g1, l1, h11]
        refine ⟨fun hb => ?_, fun hb => ?_⟩
        · have hpc : p (i - 1) = c := by have := beq_iff_eq.1 hb; omega
          have hz : stepC s T around p i c = 0 := by unfold stepC; rw [if_neg (fun e => by rcases e.2 with e | e <;> omega)]
          simp (decide := true) (disch := first | omega | rfl) only [↓SD, SP, opE, fget, binA, Nat.reduceEqDiff, reduceIte, again, stepV, wanted, resE, resL, resU, wr, rd, known, fillE, U.cells, hb, h11]
          exact ⟨by omega, by simp, (by (repeat (refine Keep.set ?_ (by decide))); exact hk), he, h9, rc, h3, hrc0, hrcr, by rw [hd']; omega, by rw [hpk, hd', if_neg (by omega), hz, Int.sub_zero]⟩
        · have hpc : p (i - 1) ≠ c := by have := beq_eq_false_iff_ne.1 hb; omega
          simp (decide := true) (disch := first | omega | rfl) only [↓SD, SP, opE, fget, binA, Nat.reduceEqDiff, reduceIte, again, stepV, wanted, resE, resL, resU, wr, rd, known, fillE, U.cells, hb, h9, h11, k10]
          have hok : (c < T ∧ allow s i c = true) ∧ (i = 0 ∨ p (i - 1) ≠ c) := ⟨⟨by omega, ha⟩, .inr hpc⟩
          refine Wo.callR (by simp (decide := true) (disch := first | omega | rfl) only [↓SD, SP, opE, fget, binA, Nat.reduceEqDiff, reduceIte, again, stepV, wanted, resE, resL, resU, wr, rd, known, fillE, U.cells, h9, h11, k10]; try rfl) (coWith_ok (p := p) (i := i) (c := c) hW hi hs (by omega)) ?_
          rintro _ _ ⟨rfl, rfl⟩
          simp (decide := true) (disch := first | omega | rfl) only [↓SD, SP, opE, fget, binA, Nat.reduceEqDiff, reduceIte, again, stepV, wanted, resE, resL, resU, wr, rd, known, fillE, U.cells, k1, k2, k10]
          have hv : endsF s T (i + 1) ((put1 p i c (i + 1 - 1) : Nat) : Int) (lastOf around (put1 p i c)) = stepC s T around p i c := by
            have : put1 p i c (i + 1 - 1) = c := by unfold put1; rw [if_pos (by omega)]
            unfold stepC
            rw [this, if_pos hok]
          have hq0 : put1 p i c 0 < T := by
            unfold put1
            split
            · omega
            · exact (hg.1 0 (by omega)).1
          have hq1 : put1 p i c (i + 1 - 1) < T := by unfold put1; rw [if_pos (by omega)]; omega
          refine Wo.callR (by simp (decide := true) (disch := first | omega | rfl) only [↓SD, SP, opE, fget, binA, Nat.reduceEqDiff, reduceIte, again, stepV, wanted, resE, resL, resU, wr, rd, known, fillE, U.cells]; try rfl) (coFromD_ok (p := put1 p i c) (k := i + 1) (T := T) (around := around) h (by omega) (by omega) hs hT hq0 hq1) ?_
          rintro _ m2 ⟨rfl, he2⟩
          rw [hv]
          simp (decide := true) (disch := first | omega | rfl) only [↓SD, SP, opE, fget, binA, Nat.reduceEqDiff, reduceIte, again, stepV, wanted, resE, resL, resU, wr, rd, known, fillE, U.cells, h3]
          refine ⟨fun hb => ?_, fun hb => ?_⟩
          · have h6 := of_decide_eq_true hb
            simp (decide := true) (disch := first | omega | rfl) only [↓SD, SP, opE, fget, binA, Nat.reduceEqDiff, reduceIte, again, stepV, wanted, resE, resL, resU, wr, rd, known, fillE, U.cells]
            have e : pick (stepC s T around p i) T 0 r = (c, rc) := by rw [hpk, if_pos h6]
            rw [e]
            exact ⟨he.trans he2, rfl, h3, (by (repeat (refine Keep.set ?_ (by decide))); exact hk)⟩
          · have h6 := of_decide_eq_false hb
            simp (decide := true) (disch := first | omega | rfl) only [↓SD, SP, opE, fget, binA, Nat.reduceEqDiff, reduceIte, again, stepV, wanted, resE, resL, resU, wr, rd, known, fillE, U.cells, h3, h11]
            exact ⟨by omega, by simp, (by (repeat (refine Keep.set ?_ (by decide))); exact hk), he.trans he2, h9, _, rfl, by omega, by omega, by rw [hd']; omega, by rw [hpk, hd', if_neg h6]⟩
      · have hi0 : i = 0 := by have := of_decide_eq_false hb; omega
        simp (decide := true) (disch := first | omega | rfl) only [↓SD, SP, opE, fget, binA, Nat.reduceEqDiff, reduceIte, again, stepV, wanted, resE, resL, resU, wr, rd, known, fillE, U.cells, hb, ha, k10, h9, h11]
        have hok : (c < T ∧ allow s i c = true) ∧ (i = 0 ∨ p (i - 1) ≠ c) := ⟨⟨by omega, ha⟩, .inl hi0⟩
        refine Wo.callR (by simp (decide := true) (disch := first | omega | rfl) only [↓SD, SP, opE, fget, binA, Nat.reduceEqDiff, reduceIte, again, stepV, wanted, resE, resL, resU, wr, rd, known, fillE, U.cells, h9, h11, k10]; try rfl) (coWith_ok (p := p) (i := i) (c := c) hW hi hs (by omega)) ?_
        rintro _ _ ⟨rfl, rfl⟩
        simp (decide := true) (disch := first | omega | rfl) only [↓SD, SP, opE, fget, binA, Nat.reduceEqDiff, reduceIte, again, stepV, wanted, resE, resL, resU, wr, rd, known, fillE, U.cells, k1, k2, k10]
        have hv : endsF s T (i + 1) ((put1 p i c (i + 1 - 1) : Nat) : Int) (lastOf around (put1 p i c)) = stepC s T around p i c := by
          have : put1 p i c (i + 1 - 1) = c := by unfold put1; rw [if_pos (by omega)]
          unfold stepC
          rw [this, if_pos hok]
        have hq0 : put1 p i c 0 < T := by
          unfold put1
          split
          · omega
          · exact (hg.1 0 (by omega)).1
        have hq1 : put1 p i c (i + 1 - 1) < T := by unfold put1; rw [if_pos (by omega)]; omega
        refine Wo.callR (by simp (decide := true) (disch := first | omega | rfl) only [↓SD, SP, opE, fget, binA, Nat.reduceEqDiff, reduceIte, again, stepV, wanted, resE, resL, resU, wr, rd, known, fillE, U.cells]; try rfl) (coFromD_ok (p := put1 p i c) (k := i + 1) (T := T) (around := around) h (by omega) (by omega) hs hT hq0 hq1) ?_
        rintro _ m2 ⟨rfl, he2⟩
        rw [hv]
        simp (decide := true) (disch := first | omega | rfl) only [↓SD, SP, opE, fget, binA, Nat.reduceEqDiff, reduceIte, again, stepV, wanted, resE, resL, resU, wr, rd, known, fillE, U.cells, h3]
        refine ⟨fun hb => ?_, fun hb => ?_⟩
        · have h6 := of_decide_eq_true hb
          simp (decide := true) (disch := first | omega | rfl) only [↓SD, SP, opE, fget, binA, Nat.reduceEqDiff, reduceIte, again, stepV, wanted, resE, resL, resU, wr, rd, known, fillE, U.cells]
          have e : pick (stepC s T around p i) T 0 r = (c, rc) := by rw [hpk, if_pos h6]
          rw [e]
          exact ⟨he.trans he2, rfl, h3, (by (repeat (refine Keep.set ?_ (by decide))); exact hk)⟩
        · have h6 := of_decide_eq_false hb
          simp (decide := true) (disch := first | omega | rfl) only [↓SD, SP, opE, fget, binA, Nat.reduceEqDiff, reduceIte, again, stepV, wanted, resE, resL, resU, wr, rd, known, fillE, U.cells, h3, h11]
          exact ⟨by omega, by simp, (by (repeat (refine Keep.set ?_ (by decide))); exact hk), he.trans he2, h9, _, rfl, by omega, by omega, by rw [hd']; omega, by rw [hpk, hd', if_neg h6]⟩
  · have hlt := of_decide_eq_false hb
    exfalso
    rw [show T - c = 0 by omega] at hrc
    simp [sm] at hrc
    omega

theorem remain_lt {s : List UInt8} {T i : Nat} {around : Bool} {p : Nat → Nat} {r : Int} (hi : i < s.length) (h : r < remain s T around p i) : r < sm (stepC s T around p i) T := by
  rw [remain_sum hi] at h; exact h

set_option maxHeartbeats 2000000 in
theorem coRanked_ok (h : ColS G) (hW : G 891 = some (.code spec_coWith)) (hG : G 555 = some (.code spec_coRanked)) {m : Mem} {s : List UInt8} {T : Nat} {around : Bool} {r : Int} (hT : T ≤ 5) (hs : s.length ≤ 20) (hasc : ∀ ch ∈ s, ch.toNat < 128) (hr0 : 0 ≤ r) (hr : r < fromF s T around) :
    Rn G 555 [V.s s, V.i T, V.b around, V.i r] m fun v m' => v = V.s (nowS s (walkR s T around r s.length).1 s.length) ∧ Ext m m' := by
  refine Rn.code hG ?_
  unfold spec_coRanked
  simp (decide := true) (disch := first | omega | rfl) only [↓SD, SP, opE, fget, binA, Nat.reduceEqDiff, reduceIte, again, stepV, wanted, resE, resL, resU, wr, rd, known, fillE, U.cells]
  refine Wc.loopN (fun i f q => fget f 16 = V.a (.ptr m.length 0) ∧ fget f 0 = V.s s ∧ fget f 1 = V.i T ∧ fget f 2 = V.b around ∧ fget f 9 = V.s (nowS s (walkR s T around r i).1 i) ∧ fget f 3 = V.i (walkR s T around r i).2 ∧ Ext m q ∧ q[m.length]? = some (.iter s i)) s.length (fun i f q hi hS => ?_)
    ⟨(by simp (decide := true) (disch := first | omega | rfl) only [↓SD, SP, opE, fget, binA, Nat.reduceEqDiff, reduceIte, again, stepV, wanted, resE, resL, resU, wr, rd, known, fillE, U.cells]; try rfl), (by simp (decide := true) (disch := first | omega | rfl) only [↓SD, SP, opE, fget, binA, Nat.reduceEqDiff, reduceIte, again, stepV, wanted, resE, resL, resU, wr, rd, known, fillE, U.cells]; try rfl), (by simp (decide := true) (disch := first | omega | rfl) only [↓SD, SP, opE, fget, binA, Nat.reduceEqDiff, reduceIte, again, stepV, wanted, resE, resL, resU, wr, rd, known, fillE, U.cells]; try rfl), (by simp (decide := true) (disch := first | omega | rfl) only [↓SD, SP, opE, fget, binA, Nat.reduceEqDiff, reduceIte, again, stepV, wanted, resE, resL, resU, wr, rd, known, fillE, U.cells]; try rfl), by simp (decide := true) (disch := first | omega | rfl) only [↓SD, SP, opE, fget, binA, Nat.reduceEqDiff, reduceIte, again, stepV, wanted, resE, resL, resU, wr, rd, known, fillE, U.cells, nowS_zero], (by simp (decide := true) (disch := first | omega | rfl) only [↓SD, SP, opE, fget, binA, Nat.reduceEqDiff, reduceIte, again, stepV, wanted, resE, resL, resU, wr, rd, known, fillE, U.cells]; try rfl), Ext.push _ _, by simp⟩
  obtain ⟨h16, h0, h1, h2, h9, h3, he, hq⟩ := hS
  have lq := lt_of_get hq
  unfold spec_coRanked_L0
  by_cases hi' : i < s.length
  · have hsi : s[i]? = some s[i] := List.getElem?_eq_getElem hi'
    have ha := hasc s[i] (List.getElem_mem hi')
    obtain ⟨hg, w0, w1⟩ := walkR_ok (around := around) (tn := T) hT hs hr0 hr i hi
    simp (decide := true) (disch := first | omega | rfl) only [↓SD, SP, opE, fget, binA, Nat.reduceEqDiff, reduceIte, again, stepV, wanted, resE, resL, resU, wr, rd, known, fillE, U.cells, h16, hq, hsi]
    refine (coRanked_L1 (s := s) (T := T) (i := i) (around := around) (p := (walkR s T around r i).1) (r := (walkR s T around r i).2) h hW hT hs hi' hg w0 (remain_lt hi' w1) (by simp (decide := true) (disch := first | omega | rfl) only [↓SD, SP, opE, fget, binA, Nat.reduceEqDiff, reduceIte, again, stepV, wanted, resE, resL, resU, wr, rd, known, fillE, U.cells, h0]) (by simp (decide := true) (disch := first | omega | rfl) only [↓SD, SP, opE, fget, binA, Nat.reduceEqDiff, reduceIte, again, stepV, wanted, resE, resL, resU, wr, rd, known, fillE, U.cells, h1]) (by simp (decide := true) (disch := first | omega | rfl) only [↓SD, SP, opE, fget, binA, Nat.reduceEqDiff, reduceIte, again, stepV, wanted, resE, resL, resU, wr, rd, known, fillE, U.cells, h2]) (by simp (decide := true) (disch := first | omega | rfl) only [↓SD, SP, opE, fget, binA, Nat.reduceEqDiff, reduceIte, again, stepV, wanted, resE, resL, resU, wr, rd, known, fillE, U.cells]) (by simp (decide := true) (disch := first | omega | rfl) only [↓SD, SP, opE, fget, binA, Nat.reduceEqDiff, reduceIte, again, stepV, wanted, resE, resL, resU, wr, rd, known, fillE, U.cells, h9]) (by simp (decide := true) (disch := first | omega | rfl) only [↓SD, SP, opE, fget, binA, Nat.reduceEqDiff, reduceIte, again, stepV, wanted, resE, resL, resU, wr, rd, known, fillE, U.cells, h3]) (by simp (decide := true) (disch := first | omega | rfl) only [↓SD, SP, opE, fget, binA, Nat.reduceEqDiff, reduceIte, again, stepV, wanted, resE, resL, resU, wr, rd, known, fillE, U.cells])).mono ?_
    rintro e f' q' ⟨rfl, he', g9, g3, hk⟩
    have j16 := hk 16 (by decide); have j0 := hk 0 (by decide); have j1 := hk 1 (by decide); have j2 := hk 2 (by decide)
    simp (decide := true) only [↓SD, SP, opE, fget, binA, Nat.reduceEqDiff, reduceIte, again, stepV, wanted, resE, resL, resU, wr, rd, known, fillE, U.cells, h16, h0, h1, h2] at j16 j0 j1 j2
    simp (decide := true) (disch := first | omega | rfl) only [↓SD, SP, opE, fget, binA, Nat.reduceEqDiff, reduceIte, again, stepV, wanted, resE, resL, resU, wr, rd, known, fillE, U.cells, j16, j0, j1, j2, g9, g3]
    have hq' : q'[m.length]? = some (.iter s (i + 1)) := he'.get (by simp (decide := true) (disch := first | omega | rfl) only [↓SD, SP, opE, fget, binA, Nat.reduceEqDiff, reduceIte, again, stepV, wanted, resE, resL, resU, wr, rd, known, fillE, U.cells])
    have heq : Ext m (q.set m.length (.iter s (i + 1))) := he.set (Nat.le_refl _)
    exact ⟨hi', rfl, rfl, heq.trans he', hq'⟩
  · have : i = s.length := by omega
    subst this
    have hsi : s[s.length]? = none := List.getElem?_eq_none (Nat.le_refl _)
    simp (decide := true) (disch := first | omega | rfl) only [↓SD, SP, opE, fget, binA, Nat.reduceEqDiff, reduceIte, again, stepV, wanted, resE, resL, resU, wr, rd, known, fillE, U.cells, h16, hq, hsi, h9]
    exact ⟨_, rfl, rfl, he⟩
end Go.AL
