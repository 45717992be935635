/-
  What may be asked; ways from the first board on; counts of both sides.
-/
import Derived.Test.YtaamjlckaakenaaAlColEnds
namespace Go.AL
set_option linter.unusedSimpArgs false
set_option linter.unusedVariables false
open F
set_option linter.unusedSimpArgs false
set_option linter.unusedVariables false
variable {G : Env}

structure ColI (G : Env) : Prop where
  within : G 597 = some (.code impl_within)
  isRing : G 877 = some (.code impl_isRing)
  isTints : G 585 = some (.code impl_isTints)
  free : G 540 = some (.code impl_free)
  line : G 893 = some (.code impl_table_line)
  clone : G 966 = some (.code slices_Clone_impl_table_5_int)
  fixed : G 878 = some (.code impl_table_fixed)
  look : G 562 = some (.code impl_table_look)
structure ColS0 (G : Env) : Prop where
  l1In : G 598 = some (.code spec_l1In)
  coTints : G 558 = some (.code spec_coTints)
  coSize : G 874 = some (.code spec_coSize)
structure ColS (G : Env) : Prop extends ColS0 G where
  coAllows : G 876 = some (.code spec_coAllows)
  coEnds : G 875 = some (.code spec_coEnds)
  coFrom : G 537 = some (.code spec_coFrom)
structure ColA (G : Env) : Prop where
  isTinted : G 539 = some (.code impl_isTinted)
  coAsked : G 536 = some (.code spec_coAsked)
  coBare : G 538 = some (.code spec_coBare)

theorem l1In_ok (hG : G 598 = some (.code spec_l1In)) {m : Mem} {n a b : Int} : Rn G 598 [V.i n, V.i a, V.i b] m fun v m' => v = V.b (decide (a ≤ n) && decide (n ≤ b)) ∧ m' = m := by
  refine Rn.code hG ?_
  unfold spec_l1In
  simp (decide := true) (disch := first | omega | rfl) only [↓SD, SP, opE, fget, binA, Nat.reduceEqDiff, reduceIte, again, stepV, wanted, resE, resL, resU, wr, rd, known, fillE, U.cells]
  refine ⟨fun hb => ?_, fun hb => ?_⟩
  · simp (decide := true) (disch := first | omega | rfl) only [↓SD, SP, opE, fget, binA, Nat.reduceEqDiff, reduceIte, again, stepV, wanted, resE, resL, resU, wr, rd, known, fillE, U.cells, hb]
    exact ⟨_, rfl, rfl⟩
  · simp (decide := true) (disch := first | omega | rfl) only [↓SD, SP, opE, fget, binA, Nat.reduceEqDiff, reduceIte, again, stepV, wanted, resE, resL, resU, wr, rd, known, fillE, U.cells, hb]
    exact ⟨_, rfl, rfl⟩
theorem within_ok' (hG : G 597 = some (.code impl_within)) {m : Mem} {n a b : Int} : Rn G 597 [V.i n, V.i a, V.i b] m fun v m' => v = V.b (decide (a ≤ n) && decide (n ≤ b)) ∧ m' = m := by
  refine Rn.code hG ?_
  unfold impl_within
  simp (decide := true) (disch := first | omega | rfl) only [↓SD, SP, opE, fget, binA, Nat.reduceEqDiff, reduceIte, again, stepV, wanted, resE, resL, resU, wr, rd, known, fillE, U.cells]
  refine ⟨fun hb => ?_, fun hb => ?_⟩
  · simp (decide := true) (disch := first | omega | rfl) only [↓SD, SP, opE, fget, binA, Nat.reduceEqDiff, reduceIte, again, stepV, wanted, resE, resL, resU, wr, rd, known, fillE, U.cells, hb]
    exact ⟨_, rfl, rfl⟩
  · simp (decide := true) (disch := first | omega | rfl) only [↓SD, SP, opE, fget, binA, Nat.reduceEqDiff, reduceIte, again, stepV, wanted, resE, resL, resU, wr, rd, known, fillE, U.cells, hb]
    exact ⟨_, rfl, rfl⟩

def ringB (n : Int) (around : Bool) : Bool := decide (1 ≤ n) && decide (n ≤ 20) && (!around || decide (3 ≤ n))
def tintsB (t : Int) : Bool := decide (1 ≤ t) && decide (t ≤ 5)

theorem isRing_ok (h : ColI G) {m : Mem} {n : Int} {around : Bool} : Rn G 877 [V.i n, V.b around] m fun v m' => v = V.b (ringB n around) ∧ m' = m := by
  refine Rn.code h.isRing ?_
  unfold impl_isRing
  simp (decide := true) (disch := first | omega | rfl) only [↓SD, SP, opE, fget, binA, Nat.reduceEqDiff, reduceIte, again, stepV, wanted, resE, resL, resU, wr, rd, known, fillE, U.cells]
  refine Wo.callR (by simp (decide := true) (disch := first | omega | rfl) only [↓SD, SP, opE, fget, binA, Nat.reduceEqDiff, reduceIte, again, stepV, wanted, resE, resL, resU, wr, rd, known, fillE, U.cells]; try rfl) (within_ok' h.within) ?_
  rintro _ _ ⟨rfl, rfl⟩
  unfold ringB
  generalize (decide (1 ≤ n) && decide (n ≤ 20)) = w
  cases w <;> cases around <;> simp (decide := true) (disch := first | omega | rfl) only [↓SD, SP, opE, fget, binA, Nat.reduceEqDiff, reduceIte, again, stepV, wanted, resE, resL, resU, wr, rd, known, fillE, U.cells] <;> first | exact ⟨_, rfl, by simp, rfl⟩ | exact ⟨_, rfl, by simp⟩
theorem coSize_ok (h : ColS0 G) {m : Mem} {n : Int} {around : Bool} : Rn G 874 [V.i n, V.b around] m fun v m' => v = V.b (ringB n around) ∧ m' = m := by
  refine Rn.code h.coSize ?_
  unfold spec_coSize
  simp (decide := true) (disch := first | omega | rfl) only [↓SD, SP, opE, fget, binA, Nat.reduceEqDiff, reduceIte, again, stepV, wanted, resE, resL, resU, wr, rd, known, fillE, U.cells]
  refine Wo.callR (by simp (decide := true) (disch := first | omega | rfl) only [↓SD, SP, opE, fget, binA, Nat.reduceEqDiff, reduceIte, again, stepV, wanted, resE, resL, resU, wr, rd, known, fillE, U.cells]; try rfl) (l1In_ok h.l1In) ?_
  rintro _ _ ⟨rfl, rfl⟩
  unfold ringB
  generalize (decide (1 ≤ n) && decide (n ≤ 20)) = w
  generalize hd : decide (3 ≤ n) = d
  cases w <;> cases around <;> cases d <;> simp (decide := true) (disch := first | omega | rfl) only [↓SD, SP, opE, fget, binA, Nat.reduceEqDiff, reduceIte, again, stepV, wanted, resE, resL, resU, wr, rd, known, fillE, U.cells, hd] <;> first | exact ⟨_, rfl, by simp, rfl⟩ | exact ⟨_, rfl, by simp⟩
theorem isTints_ok (h : ColI G) {m : Mem} {n : Int} : Rn G 585 [V.i n] m fun v m' => v = V.b (tintsB n) ∧ m' = m := by
  refine Rn.code h.isTints ?_
  unfold impl_isTints
  simp (decide := true) (disch := first | omega | rfl) only [↓SD, SP, opE, fget, binA, Nat.reduceEqDiff, reduceIte, again, stepV, wanted, resE, resL, resU, wr, rd, known, fillE, U.cells]
  refine Wo.callR (by simp (decide := true) (disch := first | omega | rfl) only [↓SD, SP, opE, fget, binA, Nat.reduceEqDiff, reduceIte, again, stepV, wanted, resE, resL, resU, wr, rd, known, fillE, U.cells]; try rfl) (within_ok' h.within) ?_
  rintro _ _ ⟨rfl, rfl⟩
  simp (decide := true) (disch := first | omega | rfl) only [↓SD, SP, opE, fget, binA, Nat.reduceEqDiff, reduceIte, again, stepV, wanted, resE, resL, resU, wr, rd, known, fillE, U.cells]
  exact ⟨_, rfl, rfl⟩
theorem coTints_ok (h : ColS0 G) {m : Mem} {n : Int} : Rn G 558 [V.i n] m fun v m' => v = V.b (tintsB n) ∧ m' = m := by
  refine Rn.code h.coTints ?_
  unfold spec_coTints
  simp (decide := true) (disch := first | omega | rfl) only [↓SD, SP, opE, fget, binA, Nat.reduceEqDiff, reduceIte, again, stepV, wanted, resE, resL, resU, wr, rd, known, fillE, U.cells]
  refine Wo.callR (by simp (decide := true) (disch := first | omega | rfl) only [↓SD, SP, opE, fget, binA, Nat.reduceEqDiff, reduceIte, again, stepV, wanted, resE, resL, resU, wr, rd, known, fillE, U.cells]; try rfl) (l1In_ok h.l1In) ?_
  rintro _ _ ⟨rfl, rfl⟩
  simp (decide := true) (disch := first | omega | rfl) only [↓SD, SP, opE, fget, binA, Nat.reduceEqDiff, reduceIte, again, stepV, wanted, resE, resL, resU, wr, rd, known, fillE, U.cells]
  exact ⟨_, rfl, rfl⟩
theorem isTinted_ok (h : ColI G) (ha : G 539 = some (.code impl_isTinted)) {m : Mem} {n t : Int} {around : Bool} : Rn G 539 [V.i n, V.i t, V.b around] m fun v m' => v = V.b (ringB n around && tintsB t) ∧ m' = m := by
  refine Rn.code ha ?_
  unfold impl_isTinted
  simp (decide := true) (disch := first | omega | rfl) only [↓SD, SP, opE, fget, binA, Nat.reduceEqDiff, reduceIte, again, stepV, wanted, resE, resL, resU, wr, rd, known, fillE, U.cells]
  refine Wo.callR (by simp (decide := true) (disch := first | omega | rfl) only [↓SD, SP, opE, fget, binA, Nat.reduceEqDiff, reduceIte, again, stepV, wanted, resE, resL, resU, wr, rd, known, fillE, U.cells]; try rfl) (isRing_ok h) ?_
  rintro _ _ ⟨rfl, rfl⟩
  simp (decide := true) (disch := first | omega | rfl) only [↓SD, SP, opE, fget, binA, Nat.reduceEqDiff, reduceIte, again, stepV, wanted, resE, resL, resU, wr, rd, known, fillE, U.cells]
  refine ⟨fun hb => ?_, fun hb => ?_⟩
  · simp (decide := true) (disch := first | omega | rfl) only [↓SD, SP, opE, fget, binA, Nat.reduceEqDiff, reduceIte, again, stepV, wanted, resE, resL, resU, wr, rd, known, fillE, U.cells, hb]
    refine Wo.callR (by simp (decide := true) (disch := first | omega | rfl) only [↓SD, SP, opE, fget, binA, Nat.reduceEqDiff, reduceIte, again, stepV, wanted, resE, resL, resU, wr, rd, known, fillE, U.cells]; try rfl) (isTints_ok h) ?_
    rintro _ _ ⟨rfl, rfl⟩
    simp (decide := true) (disch := first | omega | rfl) only [↓SD, SP, opE, fget, binA, Nat.reduceEqDiff, reduceIte, again, stepV, wanted, resE, resL, resU, wr, rd, known, fillE, U.cells, hb]
    exact ⟨_, rfl, rfl⟩
  · simp (decide := true) (disch := first | omega | rfl) only [↓SD, SP, opE, fget, binA, Nat.reduceEqDiff, reduceIte, again, stepV, wanted, resE, resL, resU, wr, rd, known, fillE, U.cells, hb]
    exact ⟨_, rfl, rfl⟩
theorem coAsked_ok (h : ColS G) (ha : G 536 = some (.code spec_coAsked)) {m : Mem} {n t : Int} {around : Bool} : Rn G 536 [V.i n, V.i t, V.b around] m fun v m' => v = V.b (ringB n around && tintsB t) ∧ m' = m := by
  refine Rn.code ha ?_
  unfold spec_coAsked
  simp (decide := true) (disch := first | omega | rfl) only [↓SD, SP, opE, fget, binA, Nat.reduceEqDiff, reduceIte, again, stepV, wanted, resE, resL, resU, wr, rd, known, fillE, U.cells]
  refine Wo.callR (by simp (decide := true) (disch := first | omega | rfl) only [↓SD, SP, opE, fget, binA, Nat.reduceEqDiff, reduceIte, again, stepV, wanted, resE, resL, resU, wr, rd, known, fillE, U.cells]; try rfl) (coSize_ok h.toColS0) ?_
  rintro _ _ ⟨rfl, rfl⟩
  simp (decide := true) (disch := first | omega | rfl) only [↓SD, SP, opE, fget, binA, Nat.reduceEqDiff, reduceIte, again, stepV, wanted, resE, resL, resU, wr, rd, known, fillE, U.cells]
  refine ⟨fun hb => ?_, fun hb => ?_⟩
  · simp (decide := true) (disch := first | omega | rfl) only [↓SD, SP, opE, fget, binA, Nat.reduceEqDiff, reduceIte, again, stepV, wanted, resE, resL, resU, wr, rd, known, fillE, U.cells, hb]
    refine Wo.callR (by simp (decide := true) (disch := first | omega | rfl) only [↓SD, SP, opE, fget, binA, Nat.reduceEqDiff, reduceIte, again, stepV, wanted, resE, resL, resU, wr, rd, known, fillE, U.cells]; try rfl) (coTints_ok h.toColS0) ?_
    rintro _ _ ⟨rfl, rfl⟩
    simp (decide := true) (disch := first | omega | rfl) only [↓SD, SP, opE, fget, binA, Nat.reduceEqDiff, reduceIte, again, stepV, wanted, resE, resL, resU, wr, rd, known, fillE, U.cells, hb]
    exact ⟨_, rfl, rfl⟩
  · simp (decide := true) (disch := first | omega | rfl) only [↓SD, SP, opE, fget, binA, Nat.reduceEqDiff, reduceIte, again, stepV, wanted, resE, resL, resU, wr, rd, known, fillE, U.cells, hb]
    exact ⟨_, rfl, rfl⟩

def freeT (t : Nat) (k : Nat) : Int := if t ≤ k % 5 then 1099511627776 else 0
theorem freeRows_ints {t n : Nat} : freeRows t n = ints (n * 5) (freeT t) := by
  induction n with
  | zero => rfl
  | succ n ih =>
    rw [freeRows_succ, ih, show (n + 1) * 5 = n * 5 + 5 by omega, ints_app]
    congr 1
    show freePart t 5 = ints 5 _
    apply List.ext_getElem (by simp [freePart, ints])
    intro j h1 h2
    have hj : j < 5 := by simpa [freePart] using h1
    simp only [freePart, ints, List.getElem_map, List.getElem_range, freeT]
    congr 1
    by_cases h : t ≤ j
    · rw [if_pos (by omega), if_pos (by omega)]
    · rw [if_neg (by omega), if_neg (by omega)]
theorem freeT_nonneg {t : Nat} : ∀ k, 0 ≤ freeT t k := by intro k; unfold freeT; split <;> decide

theorem coBare_ok (ha : G 538 = some (.code spec_coBare)) {m : Mem} {n : Nat} (hn : n ≤ 1000) : Rn G 538 [V.i n] m fun v m' => v = V.s (List.replicate n 46) ∧ m' = m := by
  refine Rn.code ha ?_
  unfold spec_coBare
  simp (decide := true) (disch := first | omega | rfl) only [↓SD, SP, opE, fget, binA, Nat.reduceEqDiff, reduceIte, again, stepV, wanted, resE, resL, resU, wr, rd, known, fillE, U.cells]
  refine Wc.loopN (fun i f q => fget f 0 = V.i ((n - i : Nat) : Int) ∧ fget f 3 = V.s (List.replicate i 46) ∧ q = m) n (fun i f q hi hS => ?_) ⟨(by simp (decide := true) (disch := first | omega | rfl) only [↓SD, SP, opE, fget, binA, Nat.reduceEqDiff, reduceIte, again, stepV, wanted, resE, resL, resU, wr, rd, known, fillE, U.cells]; try rfl), (by simp (decide := true) (disch := first | omega | rfl) only [↓SD, SP, opE, fget, binA, Nat.reduceEqDiff, reduceIte, again, stepV, wanted, resE, resL, resU, wr, rd, known, fillE, U.cells]; try rfl), rfl⟩
  obtain ⟨h0, h3, rfl⟩ := hS
  unfold spec_coBare_L0
  simp (decide := true) (disch := first | omega | rfl) only [↓SD, SP, opE, fget, binA, Nat.reduceEqDiff, reduceIte, again, stepV, wanted, resE, resL, resU, wr, rd, known, fillE, U.cells, h0, h3]
  refine ⟨fun hb => ?_, fun hb => ?_⟩
  · have h := of_decide_eq_true hb
    have hl : (List.replicate i (46 : UInt8)).length + 1 ≤ 9223372036854775807 := by simp; omega
    simp (decide := true) (disch := first | omega | rfl) only [↓SD, SP, opE, fget, binA, Nat.reduceEqDiff, reduceIte, again, stepV, wanted, resE, resL, resU, wr, rd, known, fillE, U.cells, h0, h3, hl]
    exact ⟨by omega, by congr 3; omega, by rw [List.replicate_succ']⟩
  · have h := of_decide_eq_false hb
    have : i = n := by omega
    subst this
    simp (decide := true) (disch := first | omega | rfl) only [↓SD, SP, opE, fget, binA, Nat.reduceEqDiff, reduceIte, again, stepV, wanted, resE, resL, resU, wr, rd, known, fillE, U.cells, h3]
    exact ⟨_, rfl, rfl⟩

def fromR (s : List UInt8) (T : Nat) : Nat → Int
  | 0 => 0
  | t + 1 => if allow s 0 t then fromR s T t + endsF s T 1 t t else fromR s T t
def fromF (s : List UInt8) (T : Nat) (around : Bool) : Int := if around then fromR s T T else endsF s T 0 (-1) (-1)

theorem endsF_bound {s : List UInt8} {T frm : Nat} {before last : Int} (hT : T ≤ 5) (hs : s.length ≤ 20) : 0 ≤ endsF s T frm before last ∧ endsF s T frm before last ≤ 500000000000000000 := by
  have h := sumW_bound (p := finP s frm before) (waysF_bound' (s := s) (last := last) hT (show s.length - 1 - frm ≤ 20 by omega)) T
  unfold endsF waysE
  split
  · split
    · omega
    · split <;> omega
  · omega
theorem fromR_bound {s : List UInt8} {T : Nat} (hT : T ≤ 5) (hs : s.length ≤ 20) : ∀ t, 0 ≤ fromR s T t ∧ fromR s T t ≤ t * 500000000000000000
  | 0 => by simp [fromR]
  | t + 1 => by
    have h1 := fromR_bound (s := s) hT hs t
    have h2 := endsF_bound (s := s) (frm := 1) (before := t) (last := t) hT hs
    unfold fromR
    split <;> omega

theorem coFrom0_ok (h : ColS G) {m : Mem} {s : List UInt8} {T : Nat} {around : Bool} (h1 : 1 ≤ s.length) (hs : s.length ≤ 20) (hT : T ≤ 5) :
    Rn G 537 [V.s s, V.i T, V.b around, V.i 0] m fun v m' => v = V.i (fromF s T around) ∧ Ext m m' := by
  refine Rn.code h.coFrom ?_
  unfold spec_coFrom
  simp (decide := true) (disch := first | omega | rfl) only [↓SD, SP, opE, fget, binA, Nat.reduceEqDiff, reduceIte, again, stepV, wanted, resE, resL, resU, wr, rd, known, fillE, U.cells]
  cases around with
  | false =>
    simp (decide := true) (disch := first | omega | rfl) only [↓SD, SP, opE, fget, binA, Nat.reduceEqDiff, reduceIte, again, stepV, wanted, resE, resL, resU, wr, rd, known, fillE, U.cells]
    refine Wo.callR (by simp (decide := true) (disch := first | omega | rfl) only [↓SD, SP, opE, fget, binA, Nat.reduceEqDiff, reduceIte, again, stepV, wanted, resE, resL, resU, wr, rd, known, fillE, U.cells]; try rfl) (coEnds_ok (frm := 0) (before := -1) (last := -1) h.coEnds h.coAllows (by omega) hs hT (by omega)) ?_
    rintro _ _ ⟨rfl, he⟩
    simp (decide := true) (disch := first | omega | rfl) only [↓SD, SP, opE, fget, binA, Nat.reduceEqDiff, reduceIte, again, stepV, wanted, resE, resL, resU, wr, rd, known, fillE, U.cells]
    exact ⟨_, rfl, rfl, he⟩
  | true =>
    simp (decide := true) (disch := first | omega | rfl) only [↓SD, SP, opE, fget, binA, Nat.reduceEqDiff, reduceIte, again, stepV, wanted, resE, resL, resU, wr, rd, known, fillE, U.cells]
    refine Wc.loopN (fun t f q => fget f 11 = V.i t ∧ fget f 0 = V.s s ∧ fget f 1 = V.i T ∧ fget f 10 = V.i (fromR s T t) ∧ Ext m q) T (fun t f q ht hS => ?_) ?_
    · obtain ⟨h11, h0, h1', h10, he⟩ := hS
      unfold spec_coFrom_L0
      simp (decide := true) (disch := first | omega | rfl) only [↓SD, SP, opE, fget, binA, Nat.reduceEqDiff, reduceIte, again, stepV, wanted, resE, resL, resU, wr, rd, known, fillE, U.cells, h11, h1']
      refine ⟨fun hb => ?_, fun hb => ?_⟩
      · have hlt := of_decide_eq_true hb
        simp (decide := true) (disch := first | omega | rfl) only [↓SD, SP, opE, fget, binA, Nat.reduceEqDiff, reduceIte, again, stepV, wanted, resE, resL, resU, wr, rd, known, fillE, U.cells, h11, h0, h1']
        refine Wo.callR (by simp (decide := true) (disch := first | omega | rfl) only [↓SD, SP, opE, fget, binA, Nat.reduceEqDiff, reduceIte, again, stepV, wanted, resE, resL, resU, wr, rd, known, fillE, U.cells, h11, h0]; try rfl) (coAllows_ok (i := 0) (t := t) h.coAllows (by omega)) ?_
        rintro _ _ ⟨rfl, rfl⟩
        have b1 := fromR_bound (s := s) hT hs t
        have b2 := endsF_bound (s := s) (frm := 1) (before := t) (last := t) hT hs
        simp (decide := true) (disch := first | omega | rfl) only [↓SD, SP, opE, fget, binA, Nat.reduceEqDiff, reduceIte, again, stepV, wanted, resE, resL, resU, wr, rd, known, fillE, U.cells]
        refine ⟨fun hb => ?_, fun hb => ?_⟩
        · simp (decide := true) (disch := first | omega | rfl) only [↓SD, SP, opE, fget, binA, Nat.reduceEqDiff, reduceIte, again, stepV, wanted, resE, resL, resU, wr, rd, known, fillE, U.cells, h11, h0, h1', h10]
          refine Wo.callR (by simp (decide := true) (disch := first | omega | rfl) only [↓SD, SP, opE, fget, binA, Nat.reduceEqDiff, reduceIte, again, stepV, wanted, resE, resL, resU, wr, rd, known, fillE, U.cells, h11, h0, h1']; try rfl) (coEnds_ok (T := T) (frm := 1) (before := t) (last := t) h.coEnds h.coAllows (by omega) hs hT (by omega)) ?_
          rintro _ _ ⟨rfl, he2⟩
          have e1 : fromR s T (t + 1) = fromR s T t + endsF s T 1 t t := by rw [fromR, if_pos hb]
          simp (decide := true) (disch := first | omega | rfl) only [↓SD, SP, opE, fget, binA, Nat.reduceEqDiff, reduceIte, again, stepV, wanted, resE, resL, resU, wr, rd, known, fillE, U.cells, h11, h0, h1', h10, e1]
          exact ⟨by omega, by simp, he.trans he2⟩
        · have e1 : fromR s T (t + 1) = fromR s T t := by rw [fromR, if_neg (by rw [hb]; simp)]
          simp (decide := true) (disch := first | omega | rfl) only [↓SD, SP, opE, fget, binA, Nat.reduceEqDiff, reduceIte, again, stepV, wanted, resE, resL, resU, wr, rd, known, fillE, U.cells, h11, h0, h1', h10, e1]
          exact ⟨by omega, by simp, he⟩
      · have hlt := of_decide_eq_false hb
        have : t = T := by omega
        subst this
        simp (decide := true) (disch := first | omega | rfl) only [↓SD, SP, opE, fget, binA, Nat.reduceEqDiff, reduceIte, again, stepV, wanted, resE, resL, resU, wr, rd, known, fillE, U.cells, h10]
        exact ⟨_, rfl, rfl, he⟩
    · simp (decide := true) (disch := first | omega | rfl) only [↓SD, SP, opE, fget, binA, Nat.reduceEqDiff, reduceIte, again, stepV, wanted, resE, resL, resU, wr, rd, known, fillE, U.cells]
      exact ⟨rfl, Ext.refl m⟩
end Go.AL
