/-
  Proper fences and their ranks, on both sides.
-/
import Derived.Test.YtglmoocankodaaaAlColFill
import Derived.Test.YtglmoocankodaaaAlColPor
namespace Go.AL
set_option linter.unusedSimpArgs false
set_option linter.unusedVariables false
open F
set_option linter.unusedSimpArgs false
set_option linter.unusedVariables false
variable {G : Env}

def chr (s : List UInt8) (i : Nat) : Int := ((s.getD i 0).toNat : Int)
theorem chr_at {s : List UInt8} {i : Nat} (h : i < s.length) : chr s i = (s[i].toNat : Int) := by
  unfold chr; simp [List.getD, List.getElem?_eq_getElem h]
def okAt (s : List UInt8) (i : Nat) : Bool := !(chr s i == 46 || (decide (0 < i) && chr s i == chr s (i - 1)))
def properB (s : List UInt8) (around : Bool) : Bool := (List.range s.length).all (okAt s) && (!around || chr s 0 != chr s (s.length - 1))

theorem all_bad {s : List UInt8} {i : Nat} (hi : i < s.length) (h : okAt s i = false) : (List.range s.length).all (okAt s) = false :=
  List.all_eq_false.2 ⟨i, List.mem_range.2 hi, by rw [h]; decide⟩
theorem all_good {s : List UInt8} (h : ∀ j, j < s.length → okAt s j = true) : (List.range s.length).all (okAt s) = true :=
  List.all_eq_true.2 fun j hj => h j (List.mem_range.1 hj)

theorem isProper_ok (hG : G 586 = some (.code impl_isProper)) {m : Mem} {s : List UInt8} {around : Bool} (h1 : 1 ≤ s.length) (hl : s.length ≤ 20) :
    Rn G 586 [V.s s, V.b around] m fun v m' => v = V.b (properB s around) ∧ m' = m := by
  refine Rn.code hG ?_
  unfold impl_isProper
  simp (decide := true) (disch := first | omega | rfl) only [↓SD, SP, opE, fget, binA, Nat.reduceEqDiff, reduceIte, again, stepV, wanted, resE, resL, resU, wr, rd, known, fillE, U.cells]
  refine Wc.loopN (fun i f q => fget f 8 = V.i i ∧ fget f 7 = V.i s.length ∧ fget f 0 = V.s s ∧ fget f 1 = V.b around ∧ q = m ∧ ∀ j, j < i → okAt s j = true) s.length (fun i f q hil hS => ?_) ⟨(by simp (decide := true) (disch := first | omega | rfl) only [↓SD, SP, opE, fget, binA, Nat.reduceEqDiff, reduceIte, again, stepV, wanted, resE, resL, resU, wr, rd, known, fillE, U.cells]; try rfl), (by simp (decide := true) (disch := first | omega | rfl) only [↓SD, SP, opE, fget, binA, Nat.reduceEqDiff, reduceIte, again, stepV, wanted, resE, resL, resU, wr, rd, known, fillE, U.cells]; try rfl), (by simp (decide := true) (disch := first | omega | rfl) only [↓SD, SP, opE, fget, binA, Nat.reduceEqDiff, reduceIte, again, stepV, wanted, resE, resL, resU, wr, rd, known, fillE, U.cells]; try rfl), (by simp (decide := true) (disch := first | omega | rfl) only [↓SD, SP, opE, fget, binA, Nat.reduceEqDiff, reduceIte, again, stepV, wanted, resE, resL, resU, wr, rd, known, fillE, U.cells]; try rfl), rfl, fun j hj => by omega⟩
  obtain ⟨h8, h7, h0, hr, rfl, ha⟩ := hS
  unfold impl_isProper_L0
  simp (decide := true) (disch := first | omega | rfl) only [↓SD, SP, opE, fget, binA, Nat.reduceEqDiff, reduceIte, again, stepV, wanted, resE, resL, resU, wr, rd, known, fillE, U.cells, h8, h7]
  refine ⟨fun hb => ?_, fun hb => ?_⟩
  · have hlt := of_decide_eq_true hb
    have hi : i < s.length := by omega
    have hsi : s[i]? = some s[i] := List.getElem?_eq_getElem hi
    have hc := chr_at hi
    have hok : okAt s i = !(chr s i == 46 || (decide (0 < i) && chr s i == chr s (i - 1))) := rfl
    rw [hc] at hok
    by_cases hi0 : i = 0
    · subst hi0
      cases g1 : ((s[0].toNat : Int) == 46) <;> rw [g1] at hok <;> simp (decide := true) (disch := first | omega | rfl) only [↓SD, SP, opE, fget, binA, Nat.reduceEqDiff, reduceIte, again, stepV, wanted, resE, resL, resU, wr, rd, known, fillE, U.cells, h8, h0, hsi, g1]
      · refine ⟨hi, h7, hr, fun j hj => ?_⟩
        rw [show j = 0 by omega, hok]; rfl
      · refine ⟨_, rfl, ?_⟩
        unfold properB; rw [all_bad hi (by rw [hok]; rfl)]; rfl
    · have hsp : s[i - 1]? = some s[i - 1] := List.getElem?_eq_getElem (by omega)
      have hcp := chr_at (s := s) (i := i - 1) (by omega)
      have ek : (i : Int) - 1 = ((i - 1 : Nat) : Int) := by omega
      have hd : decide ((0 : Int) < i) = true := decide_eq_true (by omega)
      have hd' : decide (0 < i) = true := decide_eq_true (by omega)
      rw [hcp, hd'] at hok
      cases g1 : ((s[i].toNat : Int) == 46) <;> cases g2 : ((s[i].toNat : Int) == (s[i - 1].toNat : Int)) <;> rw [g1, g2] at hok <;> simp (decide := true) (disch := first | omega | rfl) only [↓SD, SP, opE, fget, binA, Nat.reduceEqDiff, reduceIte, again, stepV, wanted, resE, resL, resU, wr, rd, known, fillE, U.cells, h8, h0, hsi, hsp, ek, hd, g1, g2] <;>
        first
        | (refine ⟨hi, by simp, h7, hr, fun j hj => ?_⟩
           by_cases hji : j = i
           · rw [hji, hok]; rfl
           · exact ha j (by omega))
        | (refine ⟨_, rfl, ?_⟩
           unfold properB; rw [all_bad hi (by rw [hok]; rfl)]; rfl)
        | skip
  · have hlt := of_decide_eq_false hb
    have : i = s.length := by omega
    subst this
    have hs0 : s[0]? = some s[0] := List.getElem?_eq_getElem (by omega)
    have hsl : s[s.length - 1]? = some s[s.length - 1] := List.getElem?_eq_getElem (by omega)
    have hc0 := chr_at (s := s) (i := 0) (by omega)
    have hcl := chr_at (s := s) (i := s.length - 1) (by omega)
    have ek : (s.length : Int) - 1 = ((s.length - 1 : Nat) : Int) := by omega
    have e : properB s around = (!around || chr s 0 != chr s (s.length - 1)) := by unfold properB; rw [all_good ha, Bool.true_and]
    rw [hc0, hcl] at e
    have z : ((0 : Int).toNat) = 0 := rfl
    rw [e]
    cases around with
    | true =>
      simp (decide := true) (disch := first | omega | rfl) only [↓SD, SP, opE, fget, binA, Nat.reduceEqDiff, reduceIte, again, stepV, wanted, resE, resL, resU, wr, rd, known, fillE, U.cells, h0, hr, hs0, hsl, ek, z]
      exact ⟨_, rfl, by rw [Bool.false_or]⟩
    | false =>
      simp (decide := true) (disch := first | omega | rfl) only [↓SD, SP, opE, fget, binA, Nat.reduceEqDiff, reduceIte, again, stepV, wanted, resE, resL, resU, wr, rd, known, fillE, U.cells, h0, hr]
      exact ⟨_, rfl, rfl⟩

theorem coProper_ok (hG : G 680 = some (.code spec_coProper)) {m : Mem} {s : List UInt8} {around : Bool} (h1 : 1 ≤ s.length) (hl : s.length ≤ 20) :
    Rn G 680 [V.s s, V.b around] m fun v m' => v = V.b (properB s around) ∧ m' = m := by
  refine Rn.code hG ?_
  unfold spec_coProper
  simp (decide := true) (disch := first | omega | rfl) only [↓SD, SP, opE, fget, binA, Nat.reduceEqDiff, reduceIte, again, stepV, wanted, resE, resL, resU, wr, rd, known, fillE, U.cells]
  refine Wc.loopN (fun i f q => fget f 5 = V.i i ∧ fget f 0 = V.s s ∧ fget f 1 = V.b around ∧ q = m ∧ ∀ j, j < i → okAt s j = true) s.length (fun i f q hil hS => ?_) ⟨(by simp (decide := true) (disch := first | omega | rfl) only [↓SD, SP, opE, fget, binA, Nat.reduceEqDiff, reduceIte, again, stepV, wanted, resE, resL, resU, wr, rd, known, fillE, U.cells]; try rfl), (by simp (decide := true) (disch := first | omega | rfl) only [↓SD, SP, opE, fget, binA, Nat.reduceEqDiff, reduceIte, again, stepV, wanted, resE, resL, resU, wr, rd, known, fillE, U.cells]; try rfl), (by simp (decide := true) (disch := first | omega | rfl) only [↓SD, SP, opE, fget, binA, Nat.reduceEqDiff, reduceIte, again, stepV, wanted, resE, resL, resU, wr, rd, known, fillE, U.cells]; try rfl), rfl, fun j hj => by omega⟩
  obtain ⟨h5, h0, hr, rfl, ha⟩ := hS
  unfold spec_coProper_L0
  simp (decide := true) (disch := first | omega | rfl) only [↓SD, SP, opE, fget, binA, Nat.reduceEqDiff, reduceIte, again, stepV, wanted, resE, resL, resU, wr, rd, known, fillE, U.cells, h5, h0]
  refine ⟨fun hb => ?_, fun hb => ?_⟩
  · have hlt := of_decide_eq_true hb
    have hi : i < s.length := by omega
    have hsi : s[i]? = some s[i] := List.getElem?_eq_getElem hi
    have hc := chr_at hi
    have hok : okAt s i = !(chr s i == 46 || (decide (0 < i) && chr s i == chr s (i - 1))) := rfl
    rw [hc] at hok
    by_cases hi0 : i = 0
    · subst hi0
      cases g1 : ((s[0].toNat : Int) == 46) <;> rw [g1] at hok <;> simp (decide := true) (disch := first | omega | rfl) only [↓SD, SP, opE, fget, binA, Nat.reduceEqDiff, reduceIte, again, stepV, wanted, resE, resL, resU, wr, rd, known, fillE, U.cells, h5, h0, hsi, g1]
      · first
        | (refine ⟨hi, hr, fun j hj => ?_⟩
           rw [show j = 0 by omega, hok]; rfl)
        | skip
      · refine ⟨_, rfl, ?_⟩
        unfold properB; rw [all_bad hi (by rw [hok]; rfl)]; rfl
    · have hsp : s[i - 1]? = some s[i - 1] := List.getElem?_eq_getElem (by omega)
      have hcp := chr_at (s := s) (i := i - 1) (by omega)
      have ek : (i : Int) - 1 = ((i - 1 : Nat) : Int) := by omega
      have hd : decide ((0 : Int) < i) = true := decide_eq_true (by omega)
      have hd' : decide (0 < i) = true := decide_eq_true (by omega)
      rw [hcp, hd'] at hok
      cases g1 : ((s[i].toNat : Int) == 46) <;> cases g2 : ((s[i].toNat : Int) == (s[i - 1].toNat : Int)) <;> rw [g1, g2] at hok <;> simp (decide := true) (disch := first | omega | rfl) only [↓SD, SP, opE, fget, binA, Nat.reduceEqDiff, reduceIte, again, stepV, wanted, resE, resL, resU, wr, rd, known, fillE, U.cells, h5, h0, hsi, hsp, ek, hd, g1, g2] <;>
        first
        | (refine ⟨hi, by simp, hr, fun j hj => ?_⟩
           by_cases hji : j = i
           · rw [hji, hok]; rfl
           · exact ha j (by omega))
        | (refine ⟨_, rfl, ?_⟩
           unfold properB; rw [all_bad hi (by rw [hok]; rfl)]; rfl)
        | skip
  · have hlt := of_decide_eq_false hb
    have : i = s.length := by omega
    subst this
    have hs0 : s[0]? = some s[0] := List.getElem?_eq_getElem (by omega)
    have hsl : s[s.length - 1]? = some s[s.length - 1] := List.getElem?_eq_getElem (by omega)
    have hc0 := chr_at (s := s) (i := 0) (by omega)
    have hcl := chr_at (s := s) (i := s.length - 1) (by omega)
    have ek : (s.length : Int) - 1 = ((s.length - 1 : Nat) : Int) := by omega
    have e : properB s around = (!around || chr s 0 != chr s (s.length - 1)) := by unfold properB; rw [all_good ha, Bool.true_and]
    rw [hc0, hcl] at e
    have z : ((0 : Int).toNat) = 0 := rfl
    rw [e]
    cases around with
    | true =>
      simp (decide := true) (disch := first | omega | rfl) only [↓SD, SP, opE, fget, binA, Nat.reduceEqDiff, reduceIte, again, stepV, wanted, resE, resL, resU, wr, rd, known, fillE, U.cells, h0, hr, hs0, hsl, ek, z]
      exact ⟨_, rfl, by rw [Bool.false_or]⟩
    | false =>
      simp (decide := true) (disch := first | omega | rfl) only [↓SD, SP, opE, fget, binA, Nat.reduceEqDiff, reduceIte, again, stepV, wanted, resE, resL, resU, wr, rd, known, fillE, U.cells, h0, hr]
      exact ⟨_, rfl, rfl⟩

def belowC (t : Int) (x : UInt8) : Bool := !decide (t ≤ IntKind.u8.wrap ((x.toNat : Int) - 97))
def hasB (s : List UInt8) (t : Int) (around : Bool) : Bool := properB s around && s.all (belowC t)

theorem coHas_ok (h680 : G 680 = some (.code spec_coProper)) (hG : G 582 = some (.code spec_coHas)) {m : Mem} {s : List UInt8} {t : Int} {around : Bool} (h1 : 1 ≤ s.length) (hl : s.length ≤ 20) (hasc : ∀ ch ∈ s, ch.toNat < 128) :
    Rn G 582 [V.s s, V.i t, V.b around] m fun v m' => v = V.b (hasB s t around) ∧ Ext m m' := by
  refine Rn.code hG ?_
  unfold spec_coHas hasB
  simp (decide := true) (disch := first | omega | rfl) only [↓SD, SP, opE, fget, binA, Nat.reduceEqDiff, reduceIte, again, stepV, wanted, resE, resL, resU, wr, rd, known, fillE, U.cells]
  refine Wo.callR (by simp (decide := true) (disch := first | omega | rfl) only [↓SD, SP, opE, fget, binA, Nat.reduceEqDiff, reduceIte, again, stepV, wanted, resE, resL, resU, wr, rd, known, fillE, U.cells]; try rfl) (coProper_ok h680 h1 hl) ?_
  rintro _ m ⟨rfl, rfl⟩
  cases hp : properB s around with
  | false =>
    simp (decide := true) (disch := first | omega | rfl) only [↓SD, SP, opE, fget, binA, Nat.reduceEqDiff, reduceIte, again, stepV, wanted, resE, resL, resU, wr, rd, known, fillE, U.cells]
    exact ⟨_, rfl, rfl, Ext.refl _⟩
  | true =>
    simp (decide := true) (disch := first | omega | rfl) only [↓SD, SP, opE, fget, binA, Nat.reduceEqDiff, reduceIte, again, stepV, wanted, resE, resL, resU, wr, rd, known, fillE, U.cells]
    refine Wc.loopN (fun i f q => fget f 13 = V.a (.ptr m.length 0) ∧ fget f 0 = V.s s ∧ fget f 1 = V.i t ∧ Ext m q ∧ q[m.length]? = some (.iter s i) ∧ (s.take i).all (belowC t) = true) s.length (fun i f q hil hS => ?_)
      ⟨(by simp (decide := true) (disch := first | omega | rfl) only [↓SD, SP, opE, fget, binA, Nat.reduceEqDiff, reduceIte, again, stepV, wanted, resE, resL, resU, wr, rd, known, fillE, U.cells]; try rfl), (by simp (decide := true) (disch := first | omega | rfl) only [↓SD, SP, opE, fget, binA, Nat.reduceEqDiff, reduceIte, again, stepV, wanted, resE, resL, resU, wr, rd, known, fillE, U.cells]; try rfl), (by simp (decide := true) (disch := first | omega | rfl) only [↓SD, SP, opE, fget, binA, Nat.reduceEqDiff, reduceIte, again, stepV, wanted, resE, resL, resU, wr, rd, known, fillE, U.cells]; try rfl), Ext.push _ _, by simp, rfl⟩
    obtain ⟨h13, h0, h1, he, hq, ha⟩ := hS
    unfold spec_coHas_L0
    by_cases hi' : i < s.length
    · have hsi : s[i]? = some s[i] := List.getElem?_eq_getElem hi'
      have hasc' := hasc s[i] (List.getElem_mem hi')
      have e2 : (s.take (i + 1)).all (belowC t) = belowC t s[i] := by rw [List.take_add_one, hsi, List.all_append, ha]; simp
      have hw := u8_in (x := (s[i].toNat : Int) - 97)
      have hin : belowC t s[i] = !(decide (t ≤ IntKind.u8.wrap ((s[i].toNat : Int) - 97))) := rfl
      have heq : Ext m (q.set m.length (.iter s (i + 1))) := he.set (Nat.le_refl _)
      have lq := lt_of_get hq
      cases g2 : decide (t ≤ IntKind.u8.wrap ((s[i].toNat : Int) - 97)) <;> rw [g2] at hin <;> simp (decide := true) (disch := first | omega | rfl) only [↓SD, SP, opE, fget, binA, Nat.reduceEqDiff, reduceIte, again, stepV, wanted, resE, resL, resU, wr, rd, known, fillE, U.cells, h13, h0, h1, hq, hsi, g2] <;>
        first
        | exact ⟨hi', heq, by rw [e2, hin]; rfl⟩
        | (refine ⟨_, rfl, ?_, heq⟩
           rw [← List.take_append_drop (i + 1) s, List.all_append, e2, hin]; rfl)
        | skip
    · have : i = s.length := by omega
      subst this
      have hsi : s[s.length]? = none := List.getElem?_eq_none (Nat.le_refl _)
      rw [List.take_length] at ha
      simp (decide := true) (disch := first | omega | rfl) only [↓SD, SP, opE, fget, binA, Nat.reduceEqDiff, reduceIte, again, stepV, wanted, resE, resL, resU, wr, rd, known, fillE, U.cells, h13, hq, hsi]
      exact ⟨_, rfl, by rw [ha]; rfl, he⟩

/-- The colours of a proper fence. -/
def colS (s : List UInt8) (i : Nat) : Nat := (s.getD i 0).toNat - 97
theorem has_spec {s : List UInt8} {around : Bool} (hbd : ∀ x ∈ s, boardB x = true) (hp : properB s around = true) {i : Nat} (hi : i < s.length) :
    97 ≤ s[i].toNat ∧ s[i].toNat ≤ 101 ∧ (s[i].toNat : Int) = ((97 + colS s i : Nat) : Int) ∧ IntKind.u8.wrap ((s[i].toNat : Int) - 97) = colS s i ∧ (0 < i → colS s i ≠ colS s (i - 1)) := by
  unfold properB at hp
  simp only [Bool.and_eq_true] at hp
  have hall := List.all_eq_true.1 hp.1
  have good : ∀ j, (hj : j < s.length) → 97 ≤ s[j].toNat ∧ s[j].toNat ≤ 101 := by
    intro j hj
    have h1 := hall j (List.mem_range.2 hj)
    have h2 := hbd s[j] (List.getElem_mem hj)
    rw [boardB_int] at h2
    unfold okAt at h1
    rw [chr_at hj] at h1
    simp at h1 h2
    omega
  have cs : ∀ j, (hj : j < s.length) → colS s j = s[j].toNat - 97 := fun j hj => by unfold colS; simp [List.getD, List.getElem?_eq_getElem hj]
  obtain ⟨g1, g2⟩ := good i hi
  have hc := cs i hi
  refine ⟨g1, g2, by omega, by rw [IntKind.wrap_u8]; omega, fun h0 => ?_⟩
  have h1 := hall i (List.mem_range.2 hi)
  unfold okAt at h1
  rw [chr_at hi, chr_at (show i - 1 < s.length by omega), decide_eq_true h0] at h1
  simp at h1
  have hc' := cs (i - 1) (by omega)
  obtain ⟨g3, g4⟩ := good (i - 1) (by omega)
  omega
end Go.AL
