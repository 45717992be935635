/-
  Lists of colours: which are lists, and their table.
-/
import Derived.Test.YtglmoocankodaaaAlListIn
import Derived.Test.YtglmoocankodaaaAlColRop
namespace Go.AL
set_option linter.unusedSimpArgs false
set_option linter.unusedVariables false
open F
set_option linter.unusedSimpArgs false
set_option linter.unusedVariables false
variable {G : Env}

def okC (l : List UInt8) (j : Nat) : Bool := (decide (97 ≤ chr l j) && decide (chr l j ≤ 101)) && (decide (j = 0) || decide (chr l (j - 1) < chr l j))
def incB (l : List UInt8) : Bool := (List.range l.length).all (okC l)
def listB (l : List UInt8) : Bool := incB l && decide (1 ≤ l.length)

theorem inc_bad {l : List UInt8} {i : Nat} (hi : i < l.length) (h : okC l i = false) : incB l = false :=
  List.all_eq_false.2 ⟨i, List.mem_range.2 hi, by rw [h]; decide⟩
theorem inc_good {l : List UInt8} (h : ∀ j, j < l.length → okC l j = true) : incB l = true :=
  List.all_eq_true.2 fun j hj => h j (List.mem_range.1 hj)
theorem inc_at {l : List UInt8} (h : incB l = true) {j : Nat} (hj : j < l.length) : okC l j = true := List.all_eq_true.1 h j (List.mem_range.2 hj)
theorem okC_spec {l : List UInt8} {j : Nat} (h : okC l j = true) : (97 ≤ chr l j ∧ chr l j ≤ 101) ∧ (j = 0 ∨ chr l (j - 1) < chr l j) := by
  unfold okC at h
  simpa using h
theorem inc_ge {l : List UInt8} (h : incB l = true) : ∀ j, j < l.length → 97 + (j : Int) ≤ chr l j
  | 0, hj => by have := (okC_spec (inc_at h hj)).1; omega
  | j + 1, hj => by
    have ih := inc_ge h j (by omega)
    have := (okC_spec (inc_at h hj)).2
    rcases this with h0 | h0
    · omega
    · rw [show j + 1 - 1 = j by omega] at h0; omega
theorem inc_len {l : List UInt8} (h : incB l = true) : l.length ≤ 5 := by
  rcases Nat.lt_or_ge 5 l.length with h' | h'
  · have h1 := inc_ge h 5 h'
    have h2 := (okC_spec (inc_at h h')).1
    omega
  · exact h'

theorem ix_colour {x : UInt8} : (Lib.indexByte [97, 98, 99, 100, 101] x < 0) ↔ ¬ (97 ≤ (x.toNat : Int) ∧ (x.toNat : Int) ≤ 101) := by
  have h := boardB_ix2 x.toNat (UInt8.toNat_lt x)
  have e : (UInt8.ofNat x.toNat) = x := by simp
  rw [e] at h
  omega

theorem isList_ok (h930 : ∀ {m : Mem} {s : List UInt8} {c : Int}, Rn G 930 [V.s s, V.a (.int .u8 c)] m fun v m' => v = V.i (Lib.indexByte s c.toNat.toUInt8) ∧ m' = m) (hG : G 896 = some (.code impl_isList)) {m : Mem} {l : List UInt8} (hl : l.length ≤ 9223372036854775807) :
    Rn G 896 [V.s l] m fun v m' => v = V.b (listB l) ∧ m' = m := by
  refine Rn.code hG ?_
  unfold impl_isList
  simp (decide := true) (disch := first | omega | rfl) only [↓SD, SP, opE, fget, binA, Nat.reduceEqDiff, reduceIte, again, stepV, wanted, resE, resL, resU, wr, rd, known, fillE, U.cells]
  refine Wc.loopN (fun i f q => fget f 6 = V.i i ∧ fget f 5 = V.i l.length ∧ fget f 0 = V.s l ∧ q = m ∧ ∀ j, j < i → okC l j = true) l.length (fun i f q hil hS => ?_) ⟨(by simp (decide := true) (disch := first | omega | rfl) only [↓SD, SP, opE, fget, binA, Nat.reduceEqDiff, reduceIte, again, stepV, wanted, resE, resL, resU, wr, rd, known, fillE, U.cells]; try rfl), (by simp (decide := true) (disch := first | omega | rfl) only [↓SD, SP, opE, fget, binA, Nat.reduceEqDiff, reduceIte, again, stepV, wanted, resE, resL, resU, wr, rd, known, fillE, U.cells]; try rfl), (by simp (decide := true) (disch := first | omega | rfl) only [↓SD, SP, opE, fget, binA, Nat.reduceEqDiff, reduceIte, again, stepV, wanted, resE, resL, resU, wr, rd, known, fillE, U.cells]; try rfl), rfl, fun j hj => by omega⟩
  obtain ⟨h6, h5, h0, rfl, ha⟩ := hS
  unfold impl_isList_L0
  simp (decide := true) (disch := first | omega | rfl) only [↓SD, SP, opE, fget, binA, Nat.reduceEqDiff, reduceIte, again, stepV, wanted, resE, resL, resU, wr, rd, known, fillE, U.cells, h6, h5]
  refine ⟨fun hb => ?_, fun hb => ?_⟩
  · have hlt := of_decide_eq_true hb
    have hi : i < l.length := by omega
    have hsi : l[i]? = some l[i] := List.getElem?_eq_getElem hi
    have hc := chr_at hi
    have hix := ix_colour (x := l[i])
    have e5 : ((l[i].toNat : Int)).toNat.toUInt8 = l[i] := by simp
    simp (decide := true) (disch := first | omega | rfl) only [↓SD, SP, opE, fget, binA, Nat.reduceEqDiff, reduceIte, again, stepV, wanted, resE, resL, resU, wr, rd, known, fillE, U.cells, h6, h0, hsi]
    refine Wo.callR (by simp (decide := true) (disch := first | omega | rfl) only [↓SD, SP, opE, fget, binA, Nat.reduceEqDiff, reduceIte, again, stepV, wanted, resE, resL, resU, wr, rd, known, fillE, U.cells]; try rfl) h930 ?_
    rintro _ m ⟨rfl, rfl⟩
    rw [e5]
    have hbad : okC l i = false → listB l = false := fun h => by unfold listB; rw [inc_bad hi h]; rfl
    have hnext : okC l i = true → ∀ j, j < i + 1 → okC l j = true := fun h j hj => by
      by_cases hji : j = i
      · rw [hji]; exact h
      · exact ha j (by omega)
    by_cases g1 : Lib.indexByte [97, 98, 99, 100, 101] l[i] < 0
    · have d1 : decide (Lib.indexByte [97, 98, 99, 100, 101] l[i] < 0) = true := decide_eq_true g1
      have hno : okC l i = false := by
        cases hh : okC l i with
        | false => rfl
        | true => have := (okC_spec hh).1; rw [hc] at this; exact absurd this (hix.1 g1)
      simp (decide := true) (disch := first | omega | rfl) only [↓SD, SP, opE, fget, binA, Nat.reduceEqDiff, reduceIte, again, stepV, wanted, resE, resL, resU, wr, rd, known, fillE, U.cells, d1]
      exact ⟨_, rfl, by rw [hbad hno]⟩
    · have d1 : decide (Lib.indexByte [97, 98, 99, 100, 101] l[i] < 0) = false := decide_eq_false g1
      have hin : 97 ≤ (l[i].toNat : Int) ∧ (l[i].toNat : Int) ≤ 101 := Classical.not_not.1 (fun h => g1 (hix.2 h))
      by_cases hi0 : i = 0
      · have hd : decide ((0 : Int) < i) = false := decide_eq_false (by omega)
        have hyes : okC l i = true := by
          unfold okC; rw [hc, decide_eq_true hin.1, decide_eq_true hin.2, decide_eq_true hi0]; rfl
        simp (decide := true) (disch := first | omega | rfl) only [↓SD, SP, opE, fget, binA, Nat.reduceEqDiff, reduceIte, again, stepV, wanted, resE, resL, resU, wr, rd, known, fillE, U.cells, d1, hd, h6]
        exact ⟨hi, by simp, h5, h0, hnext hyes⟩
      · have hd : decide ((0 : Int) < i) = true := decide_eq_true (by omega)
        have hsp : l[i - 1]? = some l[i - 1] := List.getElem?_eq_getElem (by omega)
        have hcp := chr_at (s := l) (i := i - 1) (by omega)
        have ek : (i : Int) - 1 = ((i - 1 : Nat) : Int) := by omega
        by_cases g2 : (l[i].toNat : Int) ≤ (l[i - 1].toNat : Int)
        · have d2 : decide ((l[i].toNat : Int) ≤ (l[i - 1].toNat : Int)) = true := decide_eq_true g2
          have hno : okC l i = false := by
            cases hh : okC l i with
            | false => rfl
            | true =>
              have := (okC_spec hh).2
              rw [hc, hcp] at this
              omega
          simp (decide := true) (disch := first | omega | rfl) only [↓SD, SP, opE, fget, binA, Nat.reduceEqDiff, reduceIte, again, stepV, wanted, resE, resL, resU, wr, rd, known, fillE, U.cells, d1, hd, h0, h6, hsi, hsp, ek, d2]
          exact ⟨_, rfl, by rw [hbad hno]⟩
        · have d2 : decide ((l[i].toNat : Int) ≤ (l[i - 1].toNat : Int)) = false := decide_eq_false g2
          have hyes : okC l i = true := by
            unfold okC; rw [hc, hcp, decide_eq_true hin.1, decide_eq_true hin.2, decide_eq_true (show (l[i - 1].toNat : Int) < l[i].toNat by omega)]; simp
          simp (decide := true) (disch := first | omega | rfl) only [↓SD, SP, opE, fget, binA, Nat.reduceEqDiff, reduceIte, again, stepV, wanted, resE, resL, resU, wr, rd, known, fillE, U.cells, d1, hd, h0, h6, hsi, hsp, ek, d2]
          exact ⟨hi, by simp, h5, hnext hyes⟩
  · have hlt := of_decide_eq_false hb
    have : i = l.length := by omega
    subst this
    have hall := inc_good ha
    simp (decide := true) (disch := first | omega | rfl) only [↓SD, SP, opE, fget, binA, Nat.reduceEqDiff, reduceIte, again, stepV, wanted, resE, resL, resU, wr, rd, known, fillE, U.cells, h0]
    refine ⟨_, rfl, ?_⟩
    unfold listB
    rw [hall]
    cases l with
    | nil => rfl
    | cons a as => simp

def listsB (n : Nat) (f : Nat → List UInt8) : Bool := ringB n false && (List.range n).all fun i => listB (f i)
theorem lists_bad {n i : Nat} {f : Nat → List UInt8} (hi : i < n) (h : listB (f i) = false) : listsB n f = false := by
  unfold listsB
  have : (List.range n).all (fun i => listB (f i)) = false := List.all_eq_false.2 ⟨i, List.mem_range.2 hi, by rw [h]; decide⟩
  rw [this, Bool.and_false]
theorem lists_spec {n : Nat} {f : Nat → List UInt8} (h : listsB n f = true) : (1 ≤ n ∧ n ≤ 20) ∧ ∀ i, i < n → listB (f i) = true := by
  unfold listsB at h
  simp only [Bool.and_eq_true] at h
  have h1 := h.1
  unfold ringB at h1
  simp at h1
  exact ⟨by omega, fun i hi => List.all_eq_true.1 h.2 i (List.mem_range.2 hi)⟩

set_option maxHeartbeats 2000000 in
theorem coLists_L1 {l : List UInt8} {fr : Fr} {q : Mem} (f4 : fget fr 4 = V.s l) (f25 : fget fr 25 = V.i l.length) (f26 : fget fr 26 = V.i 0) (hl : l.length ≤ 5) :
    Wc G (.loop spec_coLists_L1) (fun e f' q' => q' = q ∧ ((incB l = false ∧ e = .ret ∧ fget f' 2 = V.b false) ∨ (incB l = true ∧ e = .exit 2 ∧ Keep (5 :: List.range' 26 28) fr f'))) fr q := by
  refine Wc.loopN (fun i f q' => fget f 26 = V.i i ∧ Keep (5 :: List.range' 26 28) fr f ∧ q' = q ∧ ∀ j, j < i → okC l j = true) l.length (fun i f q' hil hS => ?_) ⟨f26, Keep.refl, rfl, fun j hj => by omega⟩
  obtain ⟨h26, hk, rfl, ha⟩ := hS
  have k4 := (hk 4 (by decide)).trans f4; have k25 := (hk 25 (by decide)).trans f25
  unfold spec_coLists_L1
  simp (decide := true) (disch := first | omega | rfl) only [↓SD, SP, opE, fget, binA, Nat.reduceEqDiff, reduceIte, again, stepV, wanted, resE, resL, resU, wr, rd, known, fillE, U.cells, h26, k25]
  refine ⟨fun hb => ?_, fun hb => ?_⟩
  · have hlt := of_decide_eq_true hb
    have hi : i < l.length := by omega
    have hsi : l[i]? = some l[i] := List.getElem?_eq_getElem hi
    have hc := chr_at hi
    have hnext : okC l i = true → ∀ j, j < i + 1 → okC l j = true := fun h j hj => by
      by_cases hji : j = i
      · rw [hji]; exact h
      · exact ha j (by omega)
    by_cases g1 : (l[i].toNat : Int) < 97
    · have d1 : decide ((l[i].toNat : Int) < 97) = true := decide_eq_true g1
      have hno : okC l i = false := by
        cases hh : okC l i with
        | false => rfl
        | true => have := (okC_spec hh).1; rw [hc] at this; omega
      simp (decide := true) (disch := first | omega | rfl) only [↓SD, SP, opE, fget, binA, Nat.reduceEqDiff, reduceIte, again, stepV, wanted, resE, resL, resU, wr, rd, known, fillE, U.cells, h26, k4, hsi, d1]
      exact .inl (inc_bad hi hno)
    · have d1 : decide ((l[i].toNat : Int) < 97) = false := decide_eq_false g1
      by_cases g2 : 101 < (l[i].toNat : Int)
      · have d2 : decide (101 < (l[i].toNat : Int)) = true := decide_eq_true g2
        have hno : okC l i = false := by
          cases hh : okC l i with
          | false => rfl
          | true => have := (okC_spec hh).1; rw [hc] at this; omega
        simp (decide := true) (disch := first | omega | rfl) only [↓SD, SP, opE, fget, binA, Nat.reduceEqDiff, reduceIte, again, stepV, wanted, resE, resL, resU, wr, rd, known, fillE, U.cells, h26, k4, hsi, d1, d2]
        exact .inl (inc_bad hi hno)
      · have d2 : decide (101 < (l[i].toNat : Int)) = false := decide_eq_false g2
        by_cases hi0 : i = 0
        · have hd : decide ((0 : Int) < i) = false := decide_eq_false (by omega)
          have hyes : okC l i = true := by
            unfold okC; rw [hc, decide_eq_true (show (97 : Int) ≤ l[i].toNat by omega), decide_eq_true (show (l[i].toNat : Int) ≤ 101 by omega), decide_eq_true hi0]; rfl
          simp (decide := true) (disch := first | omega | rfl) only [↓SD, SP, opE, fget, binA, Nat.reduceEqDiff, reduceIte, again, stepV, wanted, resE, resL, resU, wr, rd, known, fillE, U.cells, h26, k4, hsi, d1, d2, hd]
          exact ⟨hi, by simp, (by (repeat (refine Keep.set ?_ (by decide))); exact hk), hnext hyes⟩
        · have hd : decide ((0 : Int) < i) = true := decide_eq_true (by omega)
          have hsp : l[i - 1]? = some l[i - 1] := List.getElem?_eq_getElem (by omega)
          have hcp := chr_at (s := l) (i := i - 1) (by omega)
          have ek : (i : Int) - 1 = ((i - 1 : Nat) : Int) := by omega
          by_cases g3 : (l[i].toNat : Int) ≤ (l[i - 1].toNat : Int)
          · have d3 : decide ((l[i].toNat : Int) ≤ (l[i - 1].toNat : Int)) = true := decide_eq_true g3
            have hno : okC l i = false := by
              cases hh : okC l i with
              | false => rfl
              | true => have := (okC_spec hh).2; rw [hc, hcp] at this; omega
            simp (decide := true) (disch := first | omega | rfl) only [↓SD, SP, opE, fget, binA, Nat.reduceEqDiff, reduceIte, again, stepV, wanted, resE, resL, resU, wr, rd, known, fillE, U.cells, h26, k4, hsi, hsp, ek, d1, d2, hd, d3]
            exact .inl (inc_bad hi hno)
          · have d3 : decide ((l[i].toNat : Int) ≤ (l[i - 1].toNat : Int)) = false := decide_eq_false g3
            have hyes : okC l i = true := by
              unfold okC; rw [hc, hcp, decide_eq_true (show (97 : Int) ≤ l[i].toNat by omega), decide_eq_true (show (l[i].toNat : Int) ≤ 101 by omega), decide_eq_true (show (l[i - 1].toNat : Int) < l[i].toNat by omega)]; simp
            simp (decide := true) (disch := first | omega | rfl) only [↓SD, SP, opE, fget, binA, Nat.reduceEqDiff, reduceIte, again, stepV, wanted, resE, resL, resU, wr, rd, known, fillE, U.cells, h26, k4, hsi, hsp, ek, d1, d2, hd, d3]
            exact ⟨hi, by simp, (by (repeat (refine Keep.set ?_ (by decide))); exact hk), hnext hyes⟩
  · have hlt := of_decide_eq_false hb
    have : i = l.length := by omega
    subst this
    simp (decide := true) (disch := first | omega | rfl) only [↓SD, SP, opE, fget, binA, Nat.reduceEqDiff, reduceIte, again, stepV, wanted, resE, resL, resU, wr, rd, known, fillE, U.cells]
    exact .inr ⟨inc_good ha, (by (repeat (refine Keep.set ?_ (by decide))); exact hk)⟩

theorem coLists_ok (hl1 : G 598 = some (.code spec_l1In)) (hG : G 588 = some (.code spec_coLists)) {m : Mem} {b n : Nat} {c : Cap} {w : Bool} {f : Nat → List UInt8} (hq : m[b]? = some (.cells w (strsL n f))) (hn : n ≤ 1048576) (hf : ∀ i, (f i).length ≤ 9223372036854775807) :
    Rn G 588 [V.a (.sl b 0 n c)] m fun v m' => v = V.b (listsB n f) ∧ m' = m := by
  refine Rn.code hG ?_
  unfold spec_coLists
  simp (decide := true) (disch := first | omega | rfl) only [↓SD, SP, opE, fget, binA, Nat.reduceEqDiff, reduceIte, again, stepV, wanted, resE, resL, resU, wr, rd, known, fillE, U.cells]
  refine Wo.callR (by simp (decide := true) (disch := first | omega | rfl) only [↓SD, SP, opE, fget, binA, Nat.reduceEqDiff, reduceIte, again, stepV, wanted, resE, resL, resU, wr, rd, known, fillE, U.cells]; try rfl) (l1In_ok hl1) ?_
  rintro _ m ⟨rfl, rfl⟩
  have hring : ringB n false = (decide (1 ≤ (n : Int)) && decide ((n : Int) ≤ 20)) := by unfold ringB; simp
  simp (decide := true) (disch := first | omega | rfl) only [↓SD, SP, opE, fget, binA, Nat.reduceEqDiff, reduceIte, again, stepV, wanted, resE, resL, resU, wr, rd, known, fillE, U.cells]
  refine ⟨fun hb => ?_, fun hb => ?_⟩
  · simp (decide := true) (disch := first | omega | rfl) only [↓SD, SP, opE, fget, binA, Nat.reduceEqDiff, reduceIte, again, stepV, wanted, resE, resL, resU, wr, rd, known, fillE, U.cells]
    refine ⟨_, rfl, ?_⟩
    unfold listsB
    have hr0 : (decide (1 ≤ (n : Int)) && decide ((n : Int) ≤ 20)) = false := by rw [← Bool.not_not (decide (1 ≤ (n : Int)) && decide ((n : Int) ≤ 20)), hb]; rfl
    rw [hring, hr0]; rfl
  · have hr : (decide (1 ≤ (n : Int)) && decide ((n : Int) ≤ 20)) = true := by rw [← Bool.not_not (_ && _), hb]; rfl
    simp (decide := true) (disch := first | omega | rfl) only [↓SD, SP, opE, fget, binA, Nat.reduceEqDiff, reduceIte, again, stepV, wanted, resE, resL, resU, wr, rd, known, fillE, U.cells]
    refine Wc.loopN (fun i f' q => fget f' 12 = V.i i ∧ fget f' 11 = V.i n ∧ fget f' 10 = V.a (.sl b 0 n c) ∧ q = m ∧ ∀ j, j < i → listB (f j) = true) n (fun i f' q hil hS => ?_) ⟨(by simp (decide := true) (disch := first | omega | rfl) only [↓SD, SP, opE, fget, binA, Nat.reduceEqDiff, reduceIte, again, stepV, wanted, resE, resL, resU, wr, rd, known, fillE, U.cells]; try rfl), (by simp (decide := true) (disch := first | omega | rfl) only [↓SD, SP, opE, fget, binA, Nat.reduceEqDiff, reduceIte, again, stepV, wanted, resE, resL, resU, wr, rd, known, fillE, U.cells]; try rfl), (by simp (decide := true) (disch := first | omega | rfl) only [↓SD, SP, opE, fget, binA, Nat.reduceEqDiff, reduceIte, again, stepV, wanted, resE, resL, resU, wr, rd, known, fillE, U.cells]; try rfl), rfl, fun j hj => by omega⟩
    obtain ⟨h12, h11, h10, rfl, ha⟩ := hS
    unfold spec_coLists_L0
    simp (decide := true) (disch := first | omega | rfl) only [↓SD, SP, opE, fget, binA, Nat.reduceEqDiff, reduceIte, again, stepV, wanted, resE, resL, resU, wr, rd, known, fillE, U.cells, h12, h11]
    refine ⟨fun hb => ?_, fun hb => ?_⟩
    · have hlt := of_decide_eq_true hb
      have hcell := strsL_cell (n := n) (f := f) (j := i) (by omega)
      have hlen : (strsL n f).length = n := strsL_len
      have hfi := hf i
      have hcase : listB (f i) = (incB (f i) && decide (1 ≤ (f i).length)) := rfl
      simp (decide := true) (disch := first | omega | rfl) only [↓SD, SP, opE, fget, binA, Nat.reduceEqDiff, reduceIte, again, stepV, wanted, resE, resL, resU, wr, rd, known, fillE, U.cells, h12, h10, hq, hcell, hlen]
      by_cases g1 : (f i).length = 0
      · have d1 : (((f i).length : Int) == 0) = true := by rw [beq_iff_eq]; omega
        simp (decide := true) (disch := first | omega | rfl) only [↓SD, SP, opE, fget, binA, Nat.reduceEqDiff, reduceIte, again, stepV, wanted, resE, resL, resU, wr, rd, known, fillE, U.cells, d1]
        refine ⟨_, rfl, ?_⟩
        rw [lists_bad (n := n) (i := i) (by omega) (by rw [hcase, decide_eq_false (by omega), Bool.and_false])]
      · have d1 : (((f i).length : Int) == 0) = false := by rw [beq_eq_false_iff_ne]; omega
        by_cases g2 : 5 < (f i).length
        · have d2 : decide (5 < ((f i).length : Int)) = true := decide_eq_true (by omega)
          simp (decide := true) (disch := first | omega | rfl) only [↓SD, SP, opE, fget, binA, Nat.reduceEqDiff, reduceIte, again, stepV, wanted, resE, resL, resU, wr, rd, known, fillE, U.cells, d1, d2]
          refine ⟨_, rfl, ?_⟩
          have : incB (f i) = false := by
            cases hh : incB (f i) with
            | false => rfl
            | true => have := inc_len hh; omega
          rw [lists_bad (n := n) (i := i) (by omega) (by rw [hcase, this, Bool.false_and])]
        · have d2 : decide (5 < ((f i).length : Int)) = false := decide_eq_false (by omega)
          simp (decide := true) (disch := first | omega | rfl) only [↓SD, SP, opE, fget, binA, Nat.reduceEqDiff, reduceIte, again, stepV, wanted, resE, resL, resU, wr, rd, known, fillE, U.cells, d1, d2]
          refine (coLists_L1 (l := f i) (by simp (decide := true) (disch := first | omega | rfl) only [↓SD, SP, opE, fget, binA, Nat.reduceEqDiff, reduceIte, again, stepV, wanted, resE, resL, resU, wr, rd, known, fillE, U.cells]) (by simp (decide := true) (disch := first | omega | rfl) only [↓SD, SP, opE, fget, binA, Nat.reduceEqDiff, reduceIte, again, stepV, wanted, resE, resL, resU, wr, rd, known, fillE, U.cells]) (by simp (decide := true) (disch := first | omega | rfl) only [↓SD, SP, opE, fget, binA, Nat.reduceEqDiff, reduceIte, again, stepV, wanted, resE, resL, resU, wr, rd, known, fillE, U.cells]) (by omega)).mono ?_
          rintro e f2 q2 ⟨rfl, ⟨hno, rfl, h2⟩ | ⟨hyes, rfl, hk⟩⟩
          · simp (decide := true) (disch := first | omega | rfl) only [↓SD, SP, opE, fget, binA, Nat.reduceEqDiff, reduceIte, again, stepV, wanted, resE, resL, resU, wr, rd, known, fillE, U.cells, h2]
            exact ⟨_, rfl, by rw [lists_bad (n := n) (i := i) (by omega) (by rw [hcase, hno, Bool.false_and])]⟩
          · have j12 := hk 12 (by decide); have j11 := hk 11 (by decide); have j10 := hk 10 (by decide)
            simp (decide := true) only [↓SD, SP, opE, fget, binA, Nat.reduceEqDiff, reduceIte, again, stepV, wanted, resE, resL, resU, wr, rd, known, fillE, U.cells, h12, h11, h10] at j12 j11 j10
            simp (decide := true) (disch := first | omega | rfl) only [↓SD, SP, opE, fget, binA, Nat.reduceEqDiff, reduceIte, again, stepV, wanted, resE, resL, resU, wr, rd, known, fillE, U.cells, j12]
            refine ⟨by omega, by simp, j11, j10, fun j hj => ?_⟩
            by_cases hji : j = i
            · rw [hji, hcase, hyes, decide_eq_true (by omega)]; rfl
            · exact ha j (by omega)
    · have hlt := of_decide_eq_false hb
      have : i = n := by omega
      subst this
      simp (decide := true) (disch := first | omega | rfl) only [↓SD, SP, opE, fget, binA, Nat.reduceEqDiff, reduceIte, again, stepV, wanted, resE, resL, resU, wr, rd, known, fillE, U.cells]
      refine ⟨_, rfl, ?_⟩
      unfold listsB
      rw [hring, hr, List.all_eq_true.2 fun j hj => ha j (List.mem_range.1 hj)]; rfl
end Go.AL
