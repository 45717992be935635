/-
  The reference's fewest repaints, and the table of repainted boards.
-/
import Derived.Test.YtglmoocankodaaaAlColRep2
import Derived.Test.YtglmoocankodaaaAlColFillP
namespace Go.AL
set_option linter.unusedSimpArgs false
set_option linter.unusedVariables false
open F
set_option linter.unusedSimpArgs false
set_option linter.unusedVariables false
variable {G : Env}

def doneS (p : Nat → Nat) (k : Nat) : List UInt8 := (List.range k).map fun j => UInt8.ofNat (97 + p j)
theorem doneS_len {p : Nat → Nat} {k : Nat} : (doneS p k).length = k := by simp [doneS]
theorem doneS_get {p : Nat → Nat} {k j : Nat} (h : j < k) : (doneS p k)[j]? = some (UInt8.ofNat (97 + p j)) := by simp [doneS, h]
theorem ofNat_toNat {c : Nat} (h : c < 5) : (UInt8.ofNat (97 + c)).toNat = 97 + c := by
  have : c = 0 ∨ c = 1 ∨ c = 2 ∨ c = 3 ∨ c = 4 := by omega
  rcases this with rfl | rfl | rfl | rfl | rfl <;> rfl

/-- What coFewest gives behind done boards. -/
def fewV (s : List UInt8) (T : Nat) (around : Bool) (p : Nat → Nat) (k : Nat) : Int :=
  if bL (repT s T) s.length (lastOf around p) (s.length - k) (p (k - 1)) < 0 then -1 else costP (repT s T) p k + bL (repT s T) s.length (lastOf around p) (s.length - k) (p (k - 1))

theorem costP_rep {s : List UInt8} {T : Nat} {p : Nat → Nat} (hT : T ≤ 5) : ∀ k, (∀ j, j < k → p j < T) → costP (repT s T) p k = sm (fun j => rc s j (p j)) k
  | 0, _ => rfl
  | k + 1, h => by
    have h1 := h k (by omega)
    show costP (repT s T) p k + repT s T (k * 5 + p k) = sm (fun j => rc s j (p j)) k + rc s k (p k)
    rw [costP_rep hT k fun j hj => h j (by omega), rep_at (by omega), if_neg (by omega)]
theorem rcsum_bound {s : List UInt8} {p : Nat → Nat} : ∀ k, 0 ≤ sm (fun j => rc s j (p j)) k ∧ sm (fun j => rc s j (p j)) k ≤ k
  | 0 => by simp [sm]
  | k + 1 => by
    have ih := rcsum_bound (s := s) (p := p) k
    have h := rc_01 (s := s) (i := k) (b := p k)
    show 0 ≤ sm _ k + rc s k (p k) ∧ sm _ k + rc s k (p k) ≤ _
    omega

set_option maxHeartbeats 1000000 in
theorem coFewestD_ok (h892 : G 892 = some (.code spec_coRepaint)) (hG : G 559 = some (.code spec_coFewest)) {m : Mem} {s : List UInt8} {T k : Nat} {around : Bool} {p : Nat → Nat} (h1 : 1 ≤ k) (hk : k ≤ s.length) (hs : s.length ≤ 20) (hT : T ≤ 5) (hp : ∀ j, j < k → p j < T) :
    Rn G 559 [V.s s, V.s (doneS p k), V.i T, V.b around] m fun v m' => v = V.i (fewV s T around p k) ∧ Ext m m' := by
  refine Rn.code hG ?_
  unfold spec_coFewest
  have hl : (doneS p k).length = k := doneS_len
  simp (decide := true) (disch := first | omega | rfl) only [↓SD, SP, opE, fget, binA, Nat.reduceEqDiff, reduceIte, again, stepV, wanted, resE, resL, resU, wr, rd, known, fillE, U.cells]
  refine Wc.loopN (fun i f q => fget f 18 = V.a (.ptr m.length 0) ∧ fget f 0 = V.s s ∧ fget f 1 = V.s (doneS p k) ∧ fget f 2 = V.i T ∧ fget f 3 = V.b around ∧ fget f 9 = V.i (sm (fun j => rc s j (p j)) i) ∧ Ext m q ∧ q[m.length]? = some (.iter (doneS p k) i)) k (fun i f q hil hS => ?_)
    ⟨(by simp (decide := true) (disch := first | omega | rfl) only [↓SD, SP, opE, fget, binA, Nat.reduceEqDiff, reduceIte, again, stepV, wanted, resE, resL, resU, wr, rd, known, fillE, U.cells]; try rfl), (by simp (decide := true) (disch := first | omega | rfl) only [↓SD, SP, opE, fget, binA, Nat.reduceEqDiff, reduceIte, again, stepV, wanted, resE, resL, resU, wr, rd, known, fillE, U.cells]; try rfl), (by simp (decide := true) (disch := first | omega | rfl) only [↓SD, SP, opE, fget, binA, Nat.reduceEqDiff, reduceIte, again, stepV, wanted, resE, resL, resU, wr, rd, known, fillE, U.cells]; try rfl), (by simp (decide := true) (disch := first | omega | rfl) only [↓SD, SP, opE, fget, binA, Nat.reduceEqDiff, reduceIte, again, stepV, wanted, resE, resL, resU, wr, rd, known, fillE, U.cells]; try rfl), (by simp (decide := true) (disch := first | omega | rfl) only [↓SD, SP, opE, fget, binA, Nat.reduceEqDiff, reduceIte, again, stepV, wanted, resE, resL, resU, wr, rd, known, fillE, U.cells]; try rfl), by simp (decide := true) (disch := first | omega | rfl) only [↓SD, SP, opE, fget, binA, Nat.reduceEqDiff, reduceIte, again, stepV, wanted, resE, resL, resU, wr, rd, known, fillE, U.cells]; rfl, Ext.push _ _, by simp⟩
  obtain ⟨h18, h0, h1', h2, h3, h9, he, hq⟩ := hS
  have lq := lt_of_get hq
  unfold spec_coFewest_L0
  by_cases hi' : i < k
  · have hdi := doneS_get (p := p) hi'
    have hsi : s[i]? = some s[i] := List.getElem?_eq_getElem (by omega)
    have hgd : s.getD i 0 = s[i] := by simp [List.getD, hsi]
    have hpi := hp i hi'
    have ht := ofNat_toNat (c := p i) (by omega)
    have hasc' : (UInt8.ofNat (97 + p i)).toNat < 128 := by omega
    have heq : Ext m (q.set m.length (.iter (doneS p k) (i + 1))) := he.set (Nat.le_refl _)
    have hb := rcsum_bound (s := s) (p := p) i
    have hrc : rc s i (p i) = if (((97 + p i : Nat) : Int) != (s[i].toNat : Int)) = true then 1 else 0 := by
      unfold rc; rw [hgd]; simp only [bne_iff_ne]
      by_cases h : (s[i].toNat : Int) = 97 + p i
      · rw [if_neg (by simpa using h), if_neg (by omega)]
      · rw [if_pos h, if_pos (by omega)]
    have e1 : sm (fun j => rc s j (p j)) (i + 1) = sm (fun j => rc s j (p j)) i + rc s i (p i) := rfl
    cases g : (((97 + p i : Nat) : Int) != (s[i].toNat : Int)) with
    | true =>
      rw [g, if_pos rfl] at hrc
      simp (decide := true) (disch := first | omega | rfl) only [↓SD, SP, opE, fget, binA, Nat.reduceEqDiff, reduceIte, again, stepV, wanted, resE, resL, resU, wr, rd, known, fillE, U.cells, h18, hq, hdi, h1', h0, hsi, ht, g, h9]
      refine ⟨hi', h2, h3, ?_, heq⟩
      rw [e1, hrc]
    | false =>
      rw [g, if_neg (by decide)] at hrc
      simp (decide := true) (disch := first | omega | rfl) only [↓SD, SP, opE, fget, binA, Nat.reduceEqDiff, reduceIte, again, stepV, wanted, resE, resL, resU, wr, rd, known, fillE, U.cells, h18, hq, hdi, h1', h0, hsi, ht, g, h9]
      refine ⟨hi', h2, h3, ?_, heq⟩
      rw [e1, hrc, Int.add_zero]
  · have : i = k := by omega
    subst this
    have hdi : (doneS p i)[i]? = none := List.getElem?_eq_none (by rw [hl]; exact Nat.le_refl _)
    have hd0 := doneS_get (p := p) (k := i) (j := 0) (by omega)
    have hdl := doneS_get (p := p) (k := i) (j := i - 1) (by omega)
    have hp0 := hp 0 (by omega)
    have hpl := hp (i - 1) (by omega)
    have l0 := lv_now (c := p 0) (by omega)
    have ll := lv_now (c := p (i - 1)) (by omega)
    have ek : (i : Int) - 1 = ((i - 1 : Nat) : Int) := by omega
    have z : ((0 : Int).toNat) = 0 := rfl
    have hpos : decide ((0 : Int) < i) = true := decide_eq_true (by omega)
    have hb := rcsum_bound (s := s) (p := p) i
    have hcost := costP_rep (s := s) (p := p) hT i hp
    have hub := bL_ub (n := s.length) (but := lastOf around p) (rep_costs (s := s) (tn := T)) (s.length - i) (p (i - 1))
    have hrv : repV s T i (p (i - 1)) (lastOf around p) = bL (repT s T) s.length (lastOf around p) (s.length - i) (p (i - 1)) := by
      unfold repV; rw [if_neg (by omega)]; rfl
    have go := fun mm => coRepaint_ok (G := G) (m := mm) (s := s) (T := T) (frm := i) (before := (p (i - 1) : Nat)) (last := lastOf around p) h892 hk (fun h => by omega) hs hT (by omega)
    rw [hrv] at go
    unfold fewV
    rw [hcost]
    cases around with
    | true =>
      have hlo : lastOf true p = ((p 0 : Nat) : Int) := rfl
      rw [hlo] at go hub ⊢
      generalize bL (repT s T) s.length ((p 0 : Nat) : Int) (s.length - i) (p (i - 1)) = B at go hub ⊢
      simp (decide := true) (disch := first | omega | rfl) only [↓SD, SP, opE, fget, binA, Nat.reduceEqDiff, reduceIte, again, stepV, wanted, resE, resL, resU, wr, rd, known, fillE, U.cells, h18, hq, hdi, h1', hl, hpos, h3, z, hd0, l0]
      simp (decide := true) (disch := first | omega | rfl) only [↓SD, SP, opE, fget, binA, Nat.reduceEqDiff, reduceIte, again, stepV, wanted, resE, resL, resU, wr, rd, known, fillE, U.cells, h0, h1', h2, ek, hdl, ll]
      refine Wo.callR (by simp (decide := true) (disch := first | omega | rfl) only [↓SD, SP, opE, fget, binA, Nat.reduceEqDiff, reduceIte, again, stepV, wanted, resE, resL, resU, wr, rd, known, fillE, U.cells]; try rfl) (go _) ?_
      rintro _ m2 ⟨rfl, he2⟩
      simp (decide := true) (disch := first | omega | rfl) only [↓SD, SP, opE, fget, binA, Nat.reduceEqDiff, reduceIte, again, stepV, wanted, resE, resL, resU, wr, rd, known, fillE, U.cells]
      refine ⟨fun hb => ?_, fun hb => ?_⟩
      · have h6 := of_decide_eq_true hb
        simp (decide := true) (disch := first | omega | rfl) only [↓SD, SP, opE, fget, binA, Nat.reduceEqDiff, reduceIte, again, stepV, wanted, resE, resL, resU, wr, rd, known, fillE, U.cells]
        exact ⟨_, rfl, by first | rfl | rw [if_pos h6], he.trans he2⟩
      · have h6 := of_decide_eq_false hb
        simp (decide := true) (disch := first | omega | rfl) only [↓SD, SP, opE, fget, binA, Nat.reduceEqDiff, reduceIte, again, stepV, wanted, resE, resL, resU, wr, rd, known, fillE, U.cells, h9]
        exact ⟨_, rfl, by first | rfl | rw [if_neg h6], he.trans he2⟩
    | false =>
      have hlo : lastOf false p = -1 := rfl
      rw [hlo] at go hub ⊢
      generalize bL (repT s T) s.length (-1) (s.length - i) (p (i - 1)) = B at go hub ⊢
      simp (decide := true) (disch := first | omega | rfl) only [↓SD, SP, opE, fget, binA, Nat.reduceEqDiff, reduceIte, again, stepV, wanted, resE, resL, resU, wr, rd, known, fillE, U.cells, h18, hq, hdi, h1', hl, hpos, h3]
      simp (decide := true) (disch := first | omega | rfl) only [↓SD, SP, opE, fget, binA, Nat.reduceEqDiff, reduceIte, again, stepV, wanted, resE, resL, resU, wr, rd, known, fillE, U.cells, h0, h1', h2, ek, hdl, ll]
      refine Wo.callR (by simp (decide := true) (disch := first | omega | rfl) only [↓SD, SP, opE, fget, binA, Nat.reduceEqDiff, reduceIte, again, stepV, wanted, resE, resL, resU, wr, rd, known, fillE, U.cells]; try rfl) (go _) ?_
      rintro _ m2 ⟨rfl, he2⟩
      simp (decide := true) (disch := first | omega | rfl) only [↓SD, SP, opE, fget, binA, Nat.reduceEqDiff, reduceIte, again, stepV, wanted, resE, resL, resU, wr, rd, known, fillE, U.cells]
      refine ⟨fun hb => ?_, fun hb => ?_⟩
      · have h6 := of_decide_eq_true hb
        simp (decide := true) (disch := first | omega | rfl) only [↓SD, SP, opE, fget, binA, Nat.reduceEqDiff, reduceIte, again, stepV, wanted, resE, resL, resU, wr, rd, known, fillE, U.cells]
        exact ⟨_, rfl, by first | rfl | rw [if_pos h6], he.trans he2⟩
      · have h6 := of_decide_eq_false hb
        simp (decide := true) (disch := first | omega | rfl) only [↓SD, SP, opE, fget, binA, Nat.reduceEqDiff, reduceIte, again, stepV, wanted, resE, resL, resU, wr, rd, known, fillE, U.cells, h9]
        exact ⟨_, rfl, by first | rfl | rw [if_neg h6], he.trans he2⟩

/-- What coFewest gives of the whole fence. -/
def fewC (s : List UInt8) (T : Nat) (c : Nat) : Int := fewV s T true (fun _ => c) 1
def fewT (s : List UInt8) (T : Nat) (around : Bool) : Int := if around then bestB (fewC s T) (fun c => decide (0 ≤ fewC s T c)) T else repV s T 0 (-1) (-1)

theorem abc {c : Nat} (hc : c < 5) : List.drop c (List.take (c + 1) [(97 : UInt8), 98, 99, 100, 101]) = doneS (fun _ => c) 1 := by
  have : c = 0 ∨ c = 1 ∨ c = 2 ∨ c = 3 ∨ c = 4 := by omega
  rcases this with rfl | rfl | rfl | rfl | rfl <;> rfl

theorem fewC_ub {s : List UInt8} {T c : Nat} (hs : s.length ≤ 20) (h1 : 1 ≤ s.length) (hT : T ≤ 5) (hc : c < T) : -1 ≤ fewC s T c ∧ fewC s T c ≤ 10000 := by
  unfold fewC fewV
  have h1' := costP_rep (s := s) (p := fun _ => c) hT 1 (fun j hj => hc)
  have h2 := rcsum_bound (s := s) (p := fun _ => c) 1
  have h3 := bL_ub (n := s.length) (but := lastOf true (fun _ => c)) (rep_costs (s := s) (tn := T)) (s.length - 1) c
  rw [h1']
  split
  · omega
  · rename_i h
    have h : ¬ bL (repT s T) s.length (lastOf true (fun _ => c)) (s.length - 1) c < 0 := h
    show -1 ≤ _ + bL (repT s T) s.length (lastOf true (fun _ => c)) (s.length - 1) c ∧ _ + bL (repT s T) s.length (lastOf true (fun _ => c)) (s.length - 1) c ≤ _
    omega

set_option maxHeartbeats 1000000 in
theorem coFewest0_ok (h892 : G 892 = some (.code spec_coRepaint)) (hG : G 559 = some (.code spec_coFewest)) {m : Mem} {s : List UInt8} {T : Nat} {around : Bool} (h1 : 1 ≤ s.length) (hs : s.length ≤ 20) (hT : T ≤ 5) (hT1 : 1 ≤ T) :
    Rn G 559 [V.s s, V.s [], V.i T, V.b around] m fun v m' => v = V.i (fewT s T around) ∧ Ext m m' := by
  refine Rn.code hG ?_
  unfold spec_coFewest
  simp (decide := true) (disch := first | omega | rfl) only [↓SD, SP, opE, fget, binA, Nat.reduceEqDiff, reduceIte, again, stepV, wanted, resE, resL, resU, wr, rd, known, fillE, U.cells]
  refine Wc.loopN (fun i f q => fget f 18 = V.a (.ptr m.length 0) ∧ fget f 0 = V.s s ∧ fget f 1 = V.s [] ∧ fget f 2 = V.i T ∧ fget f 3 = V.b around ∧ fget f 9 = V.i 0 ∧ Ext m q ∧ q[m.length]? = some (.iter [] i)) 0 (fun i f q hil hS => ?_)
    ⟨(by simp (decide := true) (disch := first | omega | rfl) only [↓SD, SP, opE, fget, binA, Nat.reduceEqDiff, reduceIte, again, stepV, wanted, resE, resL, resU, wr, rd, known, fillE, U.cells]; try rfl), (by simp (decide := true) (disch := first | omega | rfl) only [↓SD, SP, opE, fget, binA, Nat.reduceEqDiff, reduceIte, again, stepV, wanted, resE, resL, resU, wr, rd, known, fillE, U.cells]; try rfl), (by simp (decide := true) (disch := first | omega | rfl) only [↓SD, SP, opE, fget, binA, Nat.reduceEqDiff, reduceIte, again, stepV, wanted, resE, resL, resU, wr, rd, known, fillE, U.cells]; try rfl), (by simp (decide := true) (disch := first | omega | rfl) only [↓SD, SP, opE, fget, binA, Nat.reduceEqDiff, reduceIte, again, stepV, wanted, resE, resL, resU, wr, rd, known, fillE, U.cells]; try rfl), (by simp (decide := true) (disch := first | omega | rfl) only [↓SD, SP, opE, fget, binA, Nat.reduceEqDiff, reduceIte, again, stepV, wanted, resE, resL, resU, wr, rd, known, fillE, U.cells]; try rfl), by simp (decide := true) (disch := first | omega | rfl) only [↓SD, SP, opE, fget, binA, Nat.reduceEqDiff, reduceIte, again, stepV, wanted, resE, resL, resU, wr, rd, known, fillE, U.cells], Ext.push _ _, by simp⟩
  obtain ⟨h18, h0, h1', h2, h3, h9, he, hq⟩ := hS
  have lq := lt_of_get hq
  unfold spec_coFewest_L0
  have : i = 0 := by omega
  subst this
  have hdi : ([] : List UInt8)[0]? = none := rfl
  cases around with
  | false =>
    simp (decide := true) (disch := first | omega | rfl) only [↓SD, SP, opE, fget, binA, Nat.reduceEqDiff, reduceIte, again, stepV, wanted, resE, resL, resU, wr, rd, known, fillE, U.cells, h18, hq, hdi, h1', h3]
    simp (decide := true) (disch := first | omega | rfl) only [↓SD, SP, opE, fget, binA, Nat.reduceEqDiff, reduceIte, again, stepV, wanted, resE, resL, resU, wr, rd, known, fillE, U.cells, h0, h2]
    refine Wo.callR (by simp (decide := true) (disch := first | omega | rfl) only [↓SD, SP, opE, fget, binA, Nat.reduceEqDiff, reduceIte, again, stepV, wanted, resE, resL, resU, wr, rd, known, fillE, U.cells]; try rfl) (coRepaint_ok (s := s) (T := T) (frm := 0) (before := -1) (last := -1) h892 (by omega) (fun h => by omega) hs hT (by omega)) ?_
    rintro _ m2 ⟨rfl, he2⟩
    simp (decide := true) (disch := first | omega | rfl) only [↓SD, SP, opE, fget, binA, Nat.reduceEqDiff, reduceIte, again, stepV, wanted, resE, resL, resU, wr, rd, known, fillE, U.cells]
    exact ⟨_, rfl, rfl, he.trans he2⟩
  | true =>
    simp (decide := true) (disch := first | omega | rfl) only [↓SD, SP, opE, fget, binA, Nat.reduceEqDiff, reduceIte, again, stepV, wanted, resE, resL, resU, wr, rd, known, fillE, U.cells, h18, hq, hdi, h1', h3]
    refine Wc.loopN (fun c f q => fget f 15 = V.i c ∧ fget f 0 = V.s s ∧ fget f 2 = V.i T ∧ fget f 3 = V.b true ∧ fget f 14 = V.i (bestB (fewC s T) (fun c => decide (0 ≤ fewC s T c)) c) ∧ Ext m q) T (fun c f q hcT hS => ?_)
      ⟨(by simp (decide := true) (disch := first | omega | rfl) only [↓SD, SP, opE, fget, binA, Nat.reduceEqDiff, reduceIte, again, stepV, wanted, resE, resL, resU, wr, rd, known, fillE, U.cells]; try rfl), by simp (decide := true) (disch := first | omega | rfl) only [↓SD, SP, opE, fget, binA, Nat.reduceEqDiff, reduceIte, again, stepV, wanted, resE, resL, resU, wr, rd, known, fillE, U.cells, h0], by simp (decide := true) (disch := first | omega | rfl) only [↓SD, SP, opE, fget, binA, Nat.reduceEqDiff, reduceIte, again, stepV, wanted, resE, resL, resU, wr, rd, known, fillE, U.cells, h2], by simp (decide := true) (disch := first | omega | rfl) only [↓SD, SP, opE, fget, binA, Nat.reduceEqDiff, reduceIte, again, stepV, wanted, resE, resL, resU, wr, rd, known, fillE, U.cells, h3], by simp (decide := true) (disch := first | omega | rfl) only [↓SD, SP, opE, fget, binA, Nat.reduceEqDiff, reduceIte, again, stepV, wanted, resE, resL, resU, wr, rd, known, fillE, U.cells]; rfl, he⟩
    obtain ⟨h15, h0, h2, h3, h14, he⟩ := hS
    unfold spec_coFewest_L1
    simp (decide := true) (disch := first | omega | rfl) only [↓SD, SP, opE, fget, binA, Nat.reduceEqDiff, reduceIte, again, stepV, wanted, resE, resL, resU, wr, rd, known, fillE, U.cells, h15, h2]
    refine ⟨fun hb => ?_, fun hb => ?_⟩
    · have hlt := of_decide_eq_true hb
      have hc5 : c < T := by omega
      have hab := abc (c := c) (by omega)
      have e1 : ((c : Int) + 1).toNat = c + 1 := by omega
      have hbb := fewC_ub hs h1 hT hc5
      have e2 : bestB (fewC s T) (fun c => decide (0 ≤ fewC s T c)) (c + 1) = if decide (0 ≤ fewC s T c) = true then (if bestB (fewC s T) (fun c => decide (0 ≤ fewC s T c)) c < 0 ∨ fewC s T c < bestB (fewC s T) (fun c => decide (0 ≤ fewC s T c)) c then fewC s T c else bestB (fewC s T) (fun c => decide (0 ≤ fewC s T c)) c) else bestB (fewC s T) (fun c => decide (0 ≤ fewC s T c)) c := rfl
      simp (decide := true) (disch := first | omega | rfl) only [↓SD, SP, opE, fget, binA, Nat.reduceEqDiff, reduceIte, again, stepV, wanted, resE, resL, resU, wr, rd, known, fillE, U.cells, h15, h0, h2, h3, bnd, e1, hab]
      refine Wo.callR (by simp (decide := true) (disch := first | omega | rfl) only [↓SD, SP, opE, fget, binA, Nat.reduceEqDiff, reduceIte, again, stepV, wanted, resE, resL, resU, wr, rd, known, fillE, U.cells]; try rfl) (coFewestD_ok (s := s) (T := T) (k := 1) (around := true) (p := fun _ => c) h892 hG (Nat.le_refl 1) h1 hs hT (fun j hj => hc5)) ?_
      rintro _ m2 ⟨rfl, he2⟩
      have efc : fewV s T true (fun _ => c) 1 = fewC s T c := rfl
      rw [efc]
      generalize fewC s T c = x at e2 hbb ⊢
      rw [e2]
      generalize bestB (fewC s T) (fun c => decide (0 ≤ fewC s T c)) c = y at h14 ⊢
      by_cases g1 : 0 ≤ x
      · have d1 : decide (0 ≤ x) = true := decide_eq_true g1
        rw [d1]
        by_cases g2 : y < 0
        · have d2 : decide (y < 0) = true := decide_eq_true g2
          simp (decide := true) (disch := first | omega | rfl) only [↓SD, SP, opE, fget, binA, Nat.reduceEqDiff, reduceIte, again, stepV, wanted, resE, resL, resU, wr, rd, known, fillE, U.cells, h15, h14, d1, d2]
          first | exact ⟨by omega, by simp, h0, h2, h3, he.trans he2⟩ | exact ⟨by omega, by simp, h0, h2, h3, by rw [if_pos (.inl g2)], he.trans he2⟩
        · have d2 : decide (y < 0) = false := decide_eq_false g2
          by_cases g3 : x < y
          · have d3 : decide (x < y) = true := decide_eq_true g3
            simp (decide := true) (disch := first | omega | rfl) only [↓SD, SP, opE, fget, binA, Nat.reduceEqDiff, reduceIte, again, stepV, wanted, resE, resL, resU, wr, rd, known, fillE, U.cells, h15, h14, d1, d2, d3]
            first | exact ⟨by omega, by simp, h0, h2, h3, he.trans he2⟩ | exact ⟨by omega, by simp, h0, h2, h3, by rw [if_pos (.inr g3)], he.trans he2⟩
          · have d3 : decide (x < y) = false := decide_eq_false g3
            simp (decide := true) (disch := first | omega | rfl) only [↓SD, SP, opE, fget, binA, Nat.reduceEqDiff, reduceIte, again, stepV, wanted, resE, resL, resU, wr, rd, known, fillE, U.cells, h15, h14, d1, d2, d3]
            first | exact ⟨by omega, by simp, h0, h2, h3, he.trans he2⟩ | exact ⟨by omega, by simp, h0, h2, h3, by rw [if_neg (fun h => h.elim g2 g3)], he.trans he2⟩
      · have d1 : decide (0 ≤ x) = false := decide_eq_false g1
        rw [d1]
        simp (decide := true) (disch := first | omega | rfl) only [↓SD, SP, opE, fget, binA, Nat.reduceEqDiff, reduceIte, again, stepV, wanted, resE, resL, resU, wr, rd, known, fillE, U.cells, h15, h14, d1]
        exact ⟨by omega, by simp, h0, h2, h3, he.trans he2⟩
    · have hlt := of_decide_eq_false hb
      have : c = T := by omega
      subst this
      simp (decide := true) (disch := first | omega | rfl) only [↓SD, SP, opE, fget, binA, Nat.reduceEqDiff, reduceIte, again, stepV, wanted, resE, resL, resU, wr, rd, known, fillE, U.cells, h14]
      exact ⟨_, rfl, rfl, he⟩
end Go.AL
