/-
  Lines of a table: how many, the least cost.
-/
import Derived.Test.YtaamjlckaakenaaAlColFree
namespace Go.AL
set_option linter.unusedSimpArgs false
set_option linter.unusedVariables false
open F
set_option linter.unusedSimpArgs false
set_option linter.unusedVariables false
variable {G : Env}

/-- Ways from the colours of the board before. -/
def stepN (cnt : Nat → Int) (j : Nat) : Nat → Int
  | 0 => 0
  | d + 1 => if d ≠ j ∧ 0 < cnt d then stepN cnt j d + cnt d else stepN cnt j d
def stepL (cnt lst : Nat → Int) (j : Nat) (x : Int) : Nat → Int
  | 0 => 1099511627776
  | d + 1 => if d ≠ j ∧ 0 < cnt d then (if lst d + x < stepL cnt lst j x d then lst d + x else stepL cnt lst j x d) else stepL cnt lst j x d

theorem stepN_bound {cnt : Nat → Int} {B : Int} {j : Nat} (h : ∀ d, 0 ≤ cnt d ∧ cnt d ≤ B) : ∀ d, 0 ≤ stepN cnt j d ∧ stepN cnt j d ≤ d * B
  | 0 => by simp [stepN]
  | d + 1 => by
    obtain ⟨h1, h2⟩ := stepN_bound (j := j) h d
    have h3 := h d
    unfold stepN
    have : ((d + 1 : Nat) : Int) * B = d * B + B := by rw [Int.natCast_add, Int.add_mul]; simp
    rw [this]
    split <;> omega
theorem stepL_bound {cnt lst : Nat → Int} {j : Nat} {x : Int} (hx : 0 ≤ x) (h : ∀ d, 0 ≤ lst d) : ∀ d, 0 ≤ stepL cnt lst j x d ∧ stepL cnt lst j x d ≤ 1099511627776
  | 0 => by simp [stepL]
  | d + 1 => by
    obtain ⟨h1, h2⟩ := stepL_bound (cnt := cnt) (j := j) hx h d
    have h3 := h d
    unfold stepL
    split
    · split <;> omega
    · omega

theorem line_L2 {bc bl bn bm j : Nat} {x : Int} {cnt lst nc nl : Nat → Int} {fr : Fr} {q : Mem} (h6 : fget fr 6 = V.a (.ptr bc 0)) (h7 : fget fr 7 = V.a (.ptr bl 0)) (h10 : fget fr 10 = V.a (.ptr bn 0)) (h11 : fget fr 11 = V.a (.ptr bm 0))
    (h12 : fget fr 12 = V.i j) (h13 : fget fr 13 = V.i x) (h46 : fget fr 46 = V.i 0) (hj : j < 5)
    (qc : q[bc]? = some (.cells true (ints 5 cnt))) (ql : q[bl]? = some (.cells true (ints 5 lst))) (qn : q[bn]? = some (.cells true (ints 5 nc))) (qm : q[bm]? = some (.cells true (ints 5 nl)))
    (d1 : bc ≠ bn) (d2 : bc ≠ bm) (d3 : bl ≠ bn) (d4 : bl ≠ bm) (d5 : bn ≠ bm) (hn0 : nc j = 0) (hm0 : nl j = 1099511627776)
    (hx : 0 ≤ x ∧ x < 1099511627776) (hc : ∀ d, 0 ≤ cnt d ∧ cnt d ≤ 100000000000000000) (hl : ∀ d, 0 ≤ lst d ∧ lst d ≤ 1099511627776) :
    Wc G (.loop impl_table_line_L2) (fun e f' q' => e = .exit 4 ∧ Upd [bn, bm] q q' ∧ q'[bn]? = some (.cells true (ints 5 (upd nc j (stepN cnt j 5)))) ∧ q'[bm]? = some (.cells true (ints 5 (upd nl j (stepL cnt lst j x 5)))) ∧
      Keep (14 :: List.range' 46 32) fr f') fr q := by
  refine Wc.loopN (fun d f q' => fget f 46 = V.i d ∧ Keep (14 :: List.range' 46 32) fr f ∧ Upd [bn, bm] q q' ∧
      q'[bn]? = some (.cells true (ints 5 (upd nc j (stepN cnt j d)))) ∧ q'[bm]? = some (.cells true (ints 5 (upd nl j (stepL cnt lst j x d))))) 5 (fun d f q' hd hS => ?_) ⟨h46, Keep.refl, Upd.refl, ?_, ?_⟩
  · obtain ⟨h46, hk, hu, hn, hm⟩ := hS
    have k6 := (hk 6 (by decide)).trans h6; have k7 := (hk 7 (by decide)).trans h7; have k10 := (hk 10 (by decide)).trans h10; have k11 := (hk 11 (by decide)).trans h11
    have k12 := (hk 12 (by decide)).trans h12; have k13 := (hk 13 (by decide)).trans h13
    have hc' := (hu.2 bc (by simp [d1, d2])).trans qc; have hl' := (hu.2 bl (by simp [d3, d4])).trans ql
    have ln := lt_of_get hn; have lm := lt_of_get hm
    have hb1 := stepN_bound (j := j) hc d; have hb2 := stepL_bound (cnt := cnt) (j := j) hx.1 (fun d => (hl d).1) d
    have hcd := hc d; have hld := hl d
    unfold impl_table_line_L2
    simp (decide := true) (disch := first | omega | rfl) only [↓SD, SP, opE, fget, binA, Nat.reduceEqDiff, reduceIte, again, stepV, wanted, resE, resL, resU, wr, rd, known, fillE, U.cells, h46]
    refine ⟨fun hb => ?_, fun hb => ?_⟩
    · have h := of_decide_eq_true hb
      simp (decide := true) (disch := first | omega | rfl) only [↓SD, SP, opE, fget, binA, Nat.reduceEqDiff, reduceIte, again, stepV, wanted, resE, resL, resU, wr, rd, known, fillE, U.cells, h46, k6, k7, k10, k11, k12, k13, hc', hl', hn, hm, upd_same]
      refine ⟨fun hb => ?_, fun hb => ?_⟩
      · have h2 := bne_iff_ne.1 hb
        simp (decide := true) (disch := first | omega | rfl) only [↓SD, SP, opE, fget, binA, Nat.reduceEqDiff, reduceIte, again, stepV, wanted, resE, resL, resU, wr, rd, known, fillE, U.cells, hb, h46, k6, k7, k10, k11, k12, k13, hc', hl', hn, hm, upd_same]
        refine ⟨fun hb => ?_, fun hb => ?_⟩
        · have h3 := of_decide_eq_true hb
          have e1 : stepN cnt j (d + 1) = stepN cnt j d + cnt d := by rw [stepN, if_pos ⟨by omega, h3⟩]
          have e2 : stepL cnt lst j x (d + 1) = (if lst d + x < stepL cnt lst j x d then lst d + x else stepL cnt lst j x d) := by rw [stepL, if_pos ⟨by omega, h3⟩]
          simp (decide := true) (disch := first | omega | rfl) only [↓SD, SP, opE, fget, binA, Nat.reduceEqDiff, reduceIte, again, stepV, wanted, resE, resL, resU, wr, rd, known, fillE, U.cells, hb, h46, k6, k7, k10, k11, k12, k13, hc', hl', hn, hm, upd_same, upd_upd, e1, e2]
          exact ⟨by omega, by simp, (by (repeat (refine Keep.set ?_ (by decide))); exact hk), (by (repeat (refine Upd.set ?_ (by simp))); exact hu)⟩
        · have h3 := of_decide_eq_false hb
          have e1 : stepN cnt j (d + 1) = stepN cnt j d := by rw [stepN, if_neg (by omega)]
          have e2 : stepL cnt lst j x (d + 1) = stepL cnt lst j x d := by rw [stepL, if_neg (by omega)]
          simp (decide := true) (disch := first | omega | rfl) only [↓SD, SP, opE, fget, binA, Nat.reduceEqDiff, reduceIte, again, stepV, wanted, resE, resL, resU, wr, rd, known, fillE, U.cells, h46]
          exact ⟨by omega, by simp, (by (repeat (refine Keep.set ?_ (by decide))); exact hk), hu, by rw [hn, e1], by rw [hm, e2]⟩
      · have h3 : d = j := by
          have := bne_eq_false_iff_eq.1 hb
          omega
        have e1 : stepN cnt j (d + 1) = stepN cnt j d := by rw [stepN, if_neg (by omega)]
        have e2 : stepL cnt lst j x (d + 1) = stepL cnt lst j x d := by rw [stepL, if_neg (by omega)]
        simp (decide := true) (disch := first | omega | rfl) only [↓SD, SP, opE, fget, binA, Nat.reduceEqDiff, reduceIte, again, stepV, wanted, resE, resL, resU, wr, rd, known, fillE, U.cells, hb, h46, k6, k7, k10, k11, k12, k13, hc', hl', hn, hm, upd_same]
        exact ⟨by omega, by simp, (by (repeat (refine Keep.set ?_ (by decide))); exact hk), hu, by rw [e1], by rw [e2]⟩
    · have h := of_decide_eq_false hb
      have : d = 5 := by omega
      subst this
      simp (decide := true) (disch := first | omega | rfl) only [↓SD, SP, opE, fget, binA, Nat.reduceEqDiff, reduceIte, again, stepV, wanted, resE, resL, resU, wr, rd, known, fillE, U.cells]
      exact ⟨hu, hn, hm, (by (repeat (refine Keep.set ?_ (by decide))); exact hk)⟩
  · rw [qn, show stepN cnt j 0 = nc j by rw [hn0]; rfl, upd_id]
  · rw [qm, show stepL cnt lst j x 0 = nl j by rw [hm0]; rfl, upd_id]

def newN (i : Nat) (row cnt : Nat → Int) (k : Nat) : Int := if 1099511627776 ≤ row k then 0 else if i = 0 then 1 else stepN cnt k 5
def newL (i : Nat) (row cnt lst : Nat → Int) (k : Nat) : Int := if 1099511627776 ≤ row k then 1099511627776 else if i = 0 then row k else stepL cnt lst k (row k) 5
def upto (f : Nat → Int) (j : Nat) : Nat → Int := fun k => if k < j then f k else 0
theorem upto_zero {f : Nat → Int} : upto f 0 = fun _ => 0 := by funext k; simp [upto]
theorem upto_upd {f : Nat → Int} {j : Nat} {x : Int} (h : f j = x) : upd (upto f j) j x = upto f (j + 1) := by
  subst h
  funext k; unfold upd upto
  by_cases h1 : k = j
  · subst k; rw [if_pos rfl, if_pos (by omega)]
  · rw [if_neg h1]
    by_cases h2 : k < j
    · rw [if_pos h2, if_pos (by omega)]
    · rw [if_neg h2, if_neg (by omega)]
theorem upto_zero_at {f : Nat → Int} {j : Nat} (h : f j = 0) : upto f j = upto f (j + 1) := by
  rw [← upto_upd h]; funext k; unfold upd upto
  by_cases h1 : k = j
  · subst k; simp
  · rw [if_neg h1]
theorem upto_all {f : Nat → Int} {n : Nat} : ints n (upto f n) = ints n f := ints_congr fun j hj => if_pos hj
theorem upto_self {f : Nat → Int} {j : Nat} : upto f j j = 0 := if_neg (by omega)

abbrev slotsL1 : List Nat := 12 :: 13 :: 14 :: List.range' 31 48

theorem line_L1 {bc bl bn bm i : Nat} {row cnt lst : Nat → Int} {fr : Fr} {q : Mem} (h6 : fget fr 6 = V.a (.ptr bc 0)) (h7 : fget fr 7 = V.a (.ptr bl 0)) (h10 : fget fr 10 = V.a (.ptr bn 0)) (h11 : fget fr 11 = V.a (.ptr bm 0))
    (h8 : fget fr 8 = V.i i) (h30 : fget fr 30 = V.g (ints 5 row)) (h31 : fget fr 31 = V.i 0)
    (qc : q[bc]? = some (.cells true (ints 5 cnt))) (ql : q[bl]? = some (.cells true (ints 5 lst))) (qn : q[bn]? = some (.cells true (ints 5 (fun _ => 0)))) (qm : q[bm]? = some (.cells true (ints 5 (fun _ => 0))))
    (d1 : bc ≠ bn) (d2 : bc ≠ bm) (d3 : bl ≠ bn) (d4 : bl ≠ bm) (d5 : bn ≠ bm)
    (hx : ∀ j, 0 ≤ row j) (hc : ∀ d, 0 ≤ cnt d ∧ cnt d ≤ 100000000000000000) (hl : ∀ d, 0 ≤ lst d ∧ lst d ≤ 1099511627776) :
    Wc G (.loop impl_table_line_L1) (fun e f' q' => e = .exit 2 ∧ Upd [bn, bm] q q' ∧ q'[bn]? = some (.cells true (ints 5 (newN i row cnt))) ∧ q'[bm]? = some (.cells true (ints 5 (newL i row cnt lst))) ∧ Keep slotsL1 fr f') fr q := by
  refine Wc.loopN (fun j f q' => fget f 31 = V.i j ∧ Keep slotsL1 fr f ∧ Upd [bn, bm] q q' ∧
      q'[bn]? = some (.cells true (ints 5 (upto (newN i row cnt) j))) ∧ q'[bm]? = some (.cells true (ints 5 (upto (newL i row cnt lst) j)))) 5 (fun j f q' hj hS => ?_) ⟨h31, Keep.refl, Upd.refl, ?_, ?_⟩
  · obtain ⟨h31, hk, hu, hn, hm⟩ := hS
    have k6 := (hk 6 (by decide)).trans h6; have k7 := (hk 7 (by decide)).trans h7; have k10 := (hk 10 (by decide)).trans h10; have k11 := (hk 11 (by decide)).trans h11
    have k8 := (hk 8 (by decide)).trans h8; have k30 := (hk 30 (by decide)).trans h30
    have hc' := (hu.2 bc (by simp [d1, d2])).trans qc; have hl' := (hu.2 bl (by simp [d3, d4])).trans ql
    have ln := lt_of_get hn; have lm := lt_of_get hm
    have hxj := hx j
    unfold impl_table_line_L1
    simp (decide := true) (disch := first | omega | rfl) only [↓SD, SP, opE, fget, binA, Nat.reduceEqDiff, reduceIte, again, stepV, wanted, resE, resL, resU, wr, rd, known, fillE, U.cells, h31]
    refine ⟨fun hb => ?_, fun hb => ?_⟩
    · have h := of_decide_eq_true hb
      simp (decide := true) (disch := first | omega | rfl) only [↓SD, SP, opE, fget, binA, Nat.reduceEqDiff, reduceIte, again, stepV, wanted, resE, resL, resU, wr, rd, known, fillE, U.cells, h31, k6, k7, k10, k11, k8, k30, hc', hl', hn, hm]
      refine ⟨fun hb => ?_, fun hb => ?_⟩
      · have h2 := of_decide_eq_true hb
        have e1 : newN i row cnt j = 0 := by rw [newN, if_pos h2]
        have e2 : newL i row cnt lst j = 1099511627776 := by rw [newL, if_pos h2]
        simp (decide := true) (disch := first | omega | rfl) only [↓SD, SP, opE, fget, binA, Nat.reduceEqDiff, reduceIte, again, stepV, wanted, resE, resL, resU, wr, rd, known, fillE, U.cells, h31]
        refine ⟨by omega, by simp, (by (repeat (refine Keep.set ?_ (by decide))); exact hk), (by (repeat (refine Upd.set ?_ (by simp))); exact hu), by rw [hn, upto_zero_at e1], by rw [upto_upd e2]⟩
      · have h2 := of_decide_eq_false hb
        simp (decide := true) (disch := first | omega | rfl) only [↓SD, SP, opE, fget, binA, Nat.reduceEqDiff, reduceIte, again, stepV, wanted, resE, resL, resU, wr, rd, known, fillE, U.cells, h31, k6, k7, k10, k11, k8, k30, hc', hl', hn, hm]
        refine ⟨fun hb => ?_, fun hb => ?_⟩
        · have h3 := of_decide_eq_true hb
          have e1 : newN i row cnt j = 1 := by rw [newN, if_neg h2, if_pos (by omega)]
          have e2 : newL i row cnt lst j = row j := by rw [newL, if_neg h2, if_pos (by omega)]
          simp (decide := true) (disch := first | omega | rfl) only [↓SD, SP, opE, fget, binA, Nat.reduceEqDiff, reduceIte, again, stepV, wanted, resE, resL, resU, wr, rd, known, fillE, U.cells, h31, k6, k7, k10, k11, k8, k30, hc', hl', hn, hm, upd_upd]
          exact ⟨by omega, by simp, (by (repeat (refine Keep.set ?_ (by decide))); exact hk), (by (repeat (refine Upd.set ?_ (by simp))); exact hu), by rw [upto_upd e1], by rw [upto_upd e2]⟩
        · have h3 : i ≠ 0 := by have := of_decide_eq_false hb; omega
          have e1 : newN i row cnt j = stepN cnt j 5 := by rw [newN, if_neg h2, if_neg h3]
          have e2 : newL i row cnt lst j = stepL cnt lst j (row j) 5 := by rw [newL, if_neg h2, if_neg h3]
          simp (decide := true) (disch := first | omega | rfl) only [↓SD, SP, opE, fget, binA, Nat.reduceEqDiff, reduceIte, again, stepV, wanted, resE, resL, resU, wr, rd, known, fillE, U.cells, h31]
          refine (line_L2 (bc := bc) (bl := bl) (bn := bn) (bm := bm) (j := j) (x := row j) (cnt := cnt) (lst := lst) (nc := upto (newN i row cnt) j) (nl := upd (upto (newL i row cnt lst) j) j 1099511627776)
            (by simp (decide := true) (disch := first | omega | rfl) only [↓SD, SP, opE, fget, binA, Nat.reduceEqDiff, reduceIte, again, stepV, wanted, resE, resL, resU, wr, rd, known, fillE, U.cells, k6]) (by simp (decide := true) (disch := first | omega | rfl) only [↓SD, SP, opE, fget, binA, Nat.reduceEqDiff, reduceIte, again, stepV, wanted, resE, resL, resU, wr, rd, known, fillE, U.cells, k7]) (by simp (decide := true) (disch := first | omega | rfl) only [↓SD, SP, opE, fget, binA, Nat.reduceEqDiff, reduceIte, again, stepV, wanted, resE, resL, resU, wr, rd, known, fillE, U.cells, k10]) (by simp (decide := true) (disch := first | omega | rfl) only [↓SD, SP, opE, fget, binA, Nat.reduceEqDiff, reduceIte, again, stepV, wanted, resE, resL, resU, wr, rd, known, fillE, U.cells, k11]) (by simp (decide := true) (disch := first | omega | rfl) only [↓SD, SP, opE, fget, binA, Nat.reduceEqDiff, reduceIte, again, stepV, wanted, resE, resL, resU, wr, rd, known, fillE, U.cells]) (by simp (decide := true) (disch := first | omega | rfl) only [↓SD, SP, opE, fget, binA, Nat.reduceEqDiff, reduceIte, again, stepV, wanted, resE, resL, resU, wr, rd, known, fillE, U.cells]) (by simp (decide := true) (disch := first | omega | rfl) only [↓SD, SP, opE, fget, binA, Nat.reduceEqDiff, reduceIte, again, stepV, wanted, resE, resL, resU, wr, rd, known, fillE, U.cells]) (by omega) (by simp (decide := true) (disch := first | omega | rfl) only [↓SD, SP, opE, fget, binA, Nat.reduceEqDiff, reduceIte, again, stepV, wanted, resE, resL, resU, wr, rd, known, fillE, U.cells, hc']) (by simp (decide := true) (disch := first | omega | rfl) only [↓SD, SP, opE, fget, binA, Nat.reduceEqDiff, reduceIte, again, stepV, wanted, resE, resL, resU, wr, rd, known, fillE, U.cells, hl']) (by simp (decide := true) (disch := first | omega | rfl) only [↓SD, SP, opE, fget, binA, Nat.reduceEqDiff, reduceIte, again, stepV, wanted, resE, resL, resU, wr, rd, known, fillE, U.cells, hn]) (by simp (decide := true) (disch := first | omega | rfl) only [↓SD, SP, opE, fget, binA, Nat.reduceEqDiff, reduceIte, again, stepV, wanted, resE, resL, resU, wr, rd, known, fillE, U.cells]) d1 d2 d3 d4 d5 upto_self upd_same (by omega) hc hl).mono ?_
          rintro e f' q2 ⟨rfl, hu2, hn2, hm2, hk2⟩
          have k31 := hk2 31 (by decide)
          simp (decide := true) only [↓SD, SP, opE, fget, binA, Nat.reduceEqDiff, reduceIte, again, stepV, wanted, resE, resL, resU, wr, rd, known, fillE, U.cells, h31] at k31
          simp (decide := true) (disch := first | omega | rfl) only [↓SD, SP, opE, fget, binA, Nat.reduceEqDiff, reduceIte, again, stepV, wanted, resE, resL, resU, wr, rd, known, fillE, U.cells, k31]
          exact ⟨by omega, by simp, (by (repeat (refine Keep.set ?_ (by decide))); exact Keep.trans (L := slotsL1) (by (repeat (refine Keep.set ?_ (by decide))); exact hk) hk2 (by decide)), Upd.trans (by (repeat (refine Upd.set ?_ (by simp))); exact hu) hu2, by rw [hn2, upto_upd e1], by rw [hm2, upd_upd, upto_upd e2]⟩
    · have h := of_decide_eq_false hb
      have : j = 5 := by omega
      subst this
      simp (decide := true) (disch := first | omega | rfl) only [↓SD, SP, opE, fget, binA, Nat.reduceEqDiff, reduceIte, again, stepV, wanted, resE, resL, resU, wr, rd, known, fillE, U.cells]
      exact ⟨hu, by rw [hn, upto_all], by rw [hm, upto_all], (by (repeat (refine Keep.set ?_ (by decide))); exact hk)⟩
  · rw [qn, upto_zero]
  · rw [qm, upto_zero]

def cntF (T : Nat → Int) : Nat → Nat → Int
  | 0 => fun _ => 0
  | i + 1 => newN i (fun j => T (i * 5 + j)) (cntF T i)
def lstF (T : Nat → Int) : Nat → Nat → Int
  | 0 => fun _ => 0
  | i + 1 => newL i (fun j => T (i * 5 + j)) (cntF T i) (lstF T i)

theorem cntF_bound {T : Nat → Int} : ∀ i, i ≤ 20 → ∀ j, 0 ≤ cntF T i j ∧ cntF T i j ≤ 5 ^ i
  | 0, _, j => by simp [cntF]
  | i + 1, hi, j => by
    have ih := cntF_bound (T := T) i (by omega)
    have hs := stepN_bound (j := j) ih 5
    have h5 : ((5 : Nat) : Int) * 5 ^ i = 5 ^ (i + 1) := by rw [Int.pow_succ, Int.mul_comm]; rfl
    have hp : (0 : Int) < 5 ^ (i + 1) := Int.pow_pos (by decide)
    rw [h5] at hs
    show 0 ≤ newN i _ _ j ∧ newN i _ _ j ≤ _
    unfold newN
    split
    · omega
    · split <;> omega
theorem cntF_bound' {T : Nat → Int} {i : Nat} (hi : i ≤ 20) (j : Nat) : 0 ≤ cntF T i j ∧ cntF T i j ≤ 100000000000000000 := by
  have h := cntF_bound (T := T) i hi j
  have : (5 : Int) ^ i ≤ 5 ^ 20 := by
    have := Nat.pow_le_pow_right (n := 5) (by decide) hi
    exact_mod_cast this
  have h20 : (5 : Int) ^ 20 = 95367431640625 := by decide
  omega
theorem lstF_bound {T : Nat → Int} (hT : ∀ k, 0 ≤ T k) : ∀ i j, 0 ≤ lstF T i j ∧ lstF T i j ≤ 1099511627776
  | 0, j => by simp [lstF]
  | i + 1, j => by
    have ih := lstF_bound (T := T) hT i
    have hs := stepL_bound (cnt := cntF T i) (j := j) (hT (i * 5 + j)) (fun d => (ih d).1) 5
    have ht := hT (i * 5 + j)
    show 0 ≤ newL i _ _ _ j ∧ newL i _ _ _ j ≤ _
    unfold newL
    dsimp only
    split
    · omega
    · split <;> omega

abbrev slotsL0 : List Nat := 8 :: 9 :: 10 :: 11 :: 12 :: 13 :: 14 :: List.range' 23 59

theorem line_L0 {bt bc bl n : Nat} {w : Bool} {c : Cap} {T : Nat → Int} {fr : Fr} {m q : Mem} (h6 : fget fr 6 = V.a (.ptr bc 0)) (h7 : fget fr 7 = V.a (.ptr bl 0)) (h21 : fget fr 21 = V.a (.sl bt 0 n c)) (h22 : fget fr 22 = V.i n) (h23 : fget fr 23 = V.i 0)
    (qc : q[bc]? = some (.cells true (ints 5 (fun _ => 0)))) (ql : q[bl]? = some (.cells true (ints 5 (fun _ => 0)))) (qt : m[bt]? = some (.cells w (ints (n * 5) T)))
    (d1 : bc ≠ bl) (d2 : m.length ≤ bc) (d3 : m.length ≤ bl) (he : Ext m q) (hn : n ≤ 20) (hT : ∀ k, 0 ≤ T k) :
    Wc G (.loop impl_table_line_L0) (fun e f' q' => e = .exit 0 ∧ Ext m q' ∧ q'[bc]? = some (.cells true (ints 5 (cntF T n))) ∧ q'[bl]? = some (.cells true (ints 5 (lstF T n))) ∧ Keep slotsL0 fr f') fr q := by
  refine Wc.loopN (fun i f q' => fget f 23 = V.i i ∧ Keep slotsL0 fr f ∧ Ext m q' ∧ q'[bc]? = some (.cells true (ints 5 (cntF T i))) ∧ q'[bl]? = some (.cells true (ints 5 (lstF T i)))) n (fun i f q' hi hS => ?_) ⟨h23, Keep.refl, he, qc, ql⟩
  obtain ⟨h23, hk, he, hc, hl⟩ := hS
  have k6 := (hk 6 (by decide)).trans h6; have k7 := (hk 7 (by decide)).trans h7; have k21 := (hk 21 (by decide)).trans h21; have k22 := (hk 22 (by decide)).trans h22
  have ht := he.get qt
  have lc := lt_of_get hc; have ll := lt_of_get hl; have lt := lt_of_get ht
  unfold impl_table_line_L0
  simp (decide := true) (disch := first | omega | rfl) only [↓SD, SP, opE, fget, binA, Nat.reduceEqDiff, reduceIte, again, stepV, wanted, resE, resL, resU, wr, rd, known, fillE, U.cells, h23, k22]
  refine ⟨fun hb => ?_, fun hb => ?_⟩
  · have h := of_decide_eq_true hb
    simp (decide := true) (disch := first | omega | rfl) only [↓SD, SP, opE, fget, binA, Nat.reduceEqDiff, reduceIte, again, stepV, wanted, resE, resL, resU, wr, rd, known, fillE, U.cells, h23, k6, k7, k21, k22, ht, ints_sub, lit5]
    refine (line_L1 (bc := bc) (bl := bl) (bn := q'.length + 1) (bm := q'.length + 1 + 1) (i := i) (row := fun j => T (i * 5 + j)) (cnt := cntF T i) (lst := lstF T i)
      (by simp (decide := true) (disch := first | omega | rfl) only [↓SD, SP, opE, fget, binA, Nat.reduceEqDiff, reduceIte, again, stepV, wanted, resE, resL, resU, wr, rd, known, fillE, U.cells, k6]) (by simp (decide := true) (disch := first | omega | rfl) only [↓SD, SP, opE, fget, binA, Nat.reduceEqDiff, reduceIte, again, stepV, wanted, resE, resL, resU, wr, rd, known, fillE, U.cells, k7]) (by simp (decide := true) (disch := first | omega | rfl) only [↓SD, SP, opE, fget, binA, Nat.reduceEqDiff, reduceIte, again, stepV, wanted, resE, resL, resU, wr, rd, known, fillE, U.cells]) (by simp (decide := true) (disch := first | omega | rfl) only [↓SD, SP, opE, fget, binA, Nat.reduceEqDiff, reduceIte, again, stepV, wanted, resE, resL, resU, wr, rd, known, fillE, U.cells]) (by simp (decide := true) (disch := first | omega | rfl) only [↓SD, SP, opE, fget, binA, Nat.reduceEqDiff, reduceIte, again, stepV, wanted, resE, resL, resU, wr, rd, known, fillE, U.cells]) (by simp (decide := true) (disch := first | omega | rfl) only [↓SD, SP, opE, fget, binA, Nat.reduceEqDiff, reduceIte, again, stepV, wanted, resE, resL, resU, wr, rd, known, fillE, U.cells]) (by simp (decide := true) (disch := first | omega | rfl) only [↓SD, SP, opE, fget, binA, Nat.reduceEqDiff, reduceIte, again, stepV, wanted, resE, resL, resU, wr, rd, known, fillE, U.cells]) (by simp (decide := true) (disch := first | omega | rfl) only [↓SD, SP, opE, fget, binA, Nat.reduceEqDiff, reduceIte, again, stepV, wanted, resE, resL, resU, wr, rd, known, fillE, U.cells, hc]) (by simp (decide := true) (disch := first | omega | rfl) only [↓SD, SP, opE, fget, binA, Nat.reduceEqDiff, reduceIte, again, stepV, wanted, resE, resL, resU, wr, rd, known, fillE, U.cells, hl]) (by simp (decide := true) (disch := first | omega | rfl) only [↓SD, SP, opE, fget, binA, Nat.reduceEqDiff, reduceIte, again, stepV, wanted, resE, resL, resU, wr, rd, known, fillE, U.cells]) (by simp (decide := true) (disch := first | omega | rfl) only [↓SD, SP, opE, fget, binA, Nat.reduceEqDiff, reduceIte, again, stepV, wanted, resE, resL, resU, wr, rd, known, fillE, U.cells])
      (by omega) (by omega) (by omega) (by omega) (by omega) (fun j => hT _) (cntF_bound' (by omega)) (lstF_bound hT i)).mono ?_
    rintro e f' q2 ⟨rfl, hu2, hn2, hm2, hk2⟩
    have j23 := hk2 23 (by decide); have j6 := hk2 6 (by decide); have j7 := hk2 7 (by decide); have j10 := hk2 10 (by decide); have j11 := hk2 11 (by decide)
    simp (decide := true) only [↓SD, SP, opE, fget, binA, Nat.reduceEqDiff, reduceIte, again, stepV, wanted, resE, resL, resU, wr, rd, known, fillE, U.cells, h23, k6, k7] at j23 j6 j7 j10 j11
    have c2 := hu2.2 bc (by simp; omega); have l2 := hu2.2 bl (by simp; omega)
    rw [get_push3_lt (by omega), hc] at c2
    rw [get_push3_lt (by omega), hl] at l2
    have lc2 := lt_of_get c2; have ll2 := lt_of_get l2; have ln2 := lt_of_get hn2; have lm2 := lt_of_get hm2
    simp (decide := true) (disch := first | omega | rfl) only [↓SD, SP, opE, fget, binA, Nat.reduceEqDiff, reduceIte, again, stepV, wanted, resE, resL, resU, wr, rd, known, fillE, U.cells, j23, j6, j7, j10, j11, c2, l2, hn2, hm2]
    have he2 : Ext m q2 := Upd.ext (he.trans ((Ext.push _ _).trans ((Ext.push _ _).trans (Ext.push _ _)))) hu2 (by intro b hb; have := he.1; simp at hb; omega)
    exact ⟨by omega, by simp, (by (repeat (refine Keep.set ?_ (by decide))); exact Keep.trans (L := slotsL0) (by (repeat (refine Keep.set ?_ (by decide))); exact hk) hk2 (by decide)), (he2.set d2).set d3, rfl, rfl⟩
  · have h := of_decide_eq_false hb
    have : i = n := by omega
    subst this
    simp (decide := true) (disch := first | omega | rfl) only [↓SD, SP, opE, fget, binA, Nat.reduceEqDiff, reduceIte, again, stepV, wanted, resE, resL, resU, wr, rd, known, fillE, U.cells]
    exact ⟨he, hc, hl, (by (repeat (refine Keep.set ?_ (by decide))); exact hk)⟩

def sumN (cnt : Nat → Int) (but : Int) : Nat → Int
  | 0 => 0
  | k + 1 => if (k : Int) ≠ but ∧ 0 < cnt k then sumN cnt but k + cnt k else sumN cnt but k
def bestL (cnt lst : Nat → Int) (but : Int) : Nat → Int
  | 0 => 1099511627776
  | k + 1 => if (k : Int) ≠ but ∧ 0 < cnt k then (if lst k < bestL cnt lst but k then lst k else bestL cnt lst but k) else bestL cnt lst but k
theorem sumN_bound {cnt : Nat → Int} {B but : Int} (h : ∀ d, 0 ≤ cnt d ∧ cnt d ≤ B) : ∀ d, 0 ≤ sumN cnt but d ∧ sumN cnt but d ≤ d * B
  | 0 => by simp [sumN]
  | d + 1 => by
    obtain ⟨h1, h2⟩ := sumN_bound (but := but) h d
    have h3 := h d
    unfold sumN
    have : ((d + 1 : Nat) : Int) * B = d * B + B := by rw [Int.natCast_add, Int.add_mul]; simp
    rw [this]
    split <;> omega
theorem bestL_bound {cnt lst : Nat → Int} {but : Int} (h : ∀ d, 0 ≤ lst d ∧ lst d ≤ 1099511627776) : ∀ d, 0 ≤ bestL cnt lst but d ∧ bestL cnt lst but d ≤ 1099511627776
  | 0 => by simp [bestL]
  | d + 1 => by
    obtain ⟨h1, h2⟩ := bestL_bound (cnt := cnt) (but := but) h d
    have h3 := h d
    unfold bestL
    split
    · split <;> omega
    · omega

def lineN (T : Nat → Int) (n : Nat) (but : Int) : Int := sumN (cntF T n) but 5
def lineL (T : Nat → Int) (n : Nat) (but : Int) : Int := bestL (cntF T n) (lstF T n) but 5

theorem line_L3 {bl : Nat} {but : Int} {cnt lst : Nat → Int} {fr : Fr} {q : Mem} (h7 : fget fr 7 = V.a (.ptr bl 0)) (h1 : fget fr 1 = V.i but) (h82 : fget fr 82 = V.g (ints 5 cnt)) (h83 : fget fr 83 = V.i 0) (h15 : fget fr 15 = V.i 0) (h16 : fget fr 16 = V.i 1099511627776)
    (ql : q[bl]? = some (.cells true (ints 5 lst))) (hc : ∀ d, 0 ≤ cnt d ∧ cnt d ≤ 100000000000000000) (hl : ∀ d, 0 ≤ lst d ∧ lst d ≤ 1099511627776) :
    Wc G (.loop impl_table_line_L3) (fun e f' q' => e = .exit 6 ∧ q' = q ∧ fget f' 15 = V.i (sumN cnt but 5) ∧ fget f' 16 = V.i (bestL cnt lst but 5)) fr q := by
  refine Wc.loopN (fun d f q' => fget f 83 = V.i d ∧ Keep (15 :: 16 :: 17 :: 18 :: List.range' 83 20) fr f ∧ q' = q ∧ fget f 15 = V.i (sumN cnt but d) ∧ fget f 16 = V.i (bestL cnt lst but d)) 5 (fun d f q' hd hS => ?_) ⟨h83, Keep.refl, rfl, h15, h16⟩
  obtain ⟨h83, hk, rfl, h15, h16⟩ := hS
  have k7 := (hk 7 (by decide)).trans h7; have k1 := (hk 1 (by decide)).trans h1; have k82 := (hk 82 (by decide)).trans h82
  have ll := lt_of_get ql
  have hb1 := sumN_bound (but := but) hc d; have hb2 := bestL_bound (cnt := cnt) (but := but) hl d
  have hcd := hc d; have hld := hl d
  unfold impl_table_line_L3
  simp (decide := true) (disch := first | omega | rfl) only [↓SD, SP, opE, fget, binA, Nat.reduceEqDiff, reduceIte, again, stepV, wanted, resE, resL, resU, wr, rd, known, fillE, U.cells, h83]
  refine ⟨fun hb => ?_, fun hb => ?_⟩
  · have h := of_decide_eq_true hb
    simp (decide := true) (disch := first | omega | rfl) only [↓SD, SP, opE, fget, binA, Nat.reduceEqDiff, reduceIte, again, stepV, wanted, resE, resL, resU, wr, rd, known, fillE, U.cells, h83, k7, k1, k82, h15, h16]
    refine ⟨fun hb => ?_, fun hb => ?_⟩
    · have h2 := bne_iff_ne.1 hb
      simp (decide := true) (disch := first | omega | rfl) only [↓SD, SP, opE, fget, binA, Nat.reduceEqDiff, reduceIte, again, stepV, wanted, resE, resL, resU, wr, rd, known, fillE, U.cells, hb, h83, k7, k1, k82, h15, h16]
      refine ⟨fun hb => ?_, fun hb => ?_⟩
      · have h3 := of_decide_eq_true hb
        have e1 : sumN cnt but (d + 1) = sumN cnt but d + cnt d := by rw [sumN, if_pos ⟨h2, h3⟩]
        have e2 : bestL cnt lst but (d + 1) = (if lst d < bestL cnt lst but d then lst d else bestL cnt lst but d) := by rw [bestL, if_pos ⟨h2, h3⟩]
        simp (decide := true) (disch := first | omega | rfl) only [↓SD, SP, opE, fget, binA, Nat.reduceEqDiff, reduceIte, again, stepV, wanted, resE, resL, resU, wr, rd, known, fillE, U.cells, hb, h83, k7, k1, k82, h15, h16, ql, e1, e2]
        exact ⟨by omega, by simp, (by (repeat (refine Keep.set ?_ (by decide))); exact hk)⟩
      · have h3 := of_decide_eq_false hb
        have e1 : sumN cnt but (d + 1) = sumN cnt but d := by rw [sumN, if_neg (fun h => h3 h.2)]
        have e2 : bestL cnt lst but (d + 1) = bestL cnt lst but d := by rw [bestL, if_neg (fun h => h3 h.2)]
        simp (decide := true) (disch := first | omega | rfl) only [↓SD, SP, opE, fget, binA, Nat.reduceEqDiff, reduceIte, again, stepV, wanted, resE, resL, resU, wr, rd, known, fillE, U.cells, hb, h83, k7, k1, k82, h15, h16, ql, e1, e2]
        exact ⟨by omega, by simp, (by (repeat (refine Keep.set ?_ (by decide))); exact hk)⟩
    · have h3 : (d : Int) = but := bne_eq_false_iff_eq.1 hb
      have e1 : sumN cnt but (d + 1) = sumN cnt but d := by rw [sumN, if_neg (fun h => h.1 h3)]
      have e2 : bestL cnt lst but (d + 1) = bestL cnt lst but d := by rw [bestL, if_neg (fun h => h.1 h3)]
      simp (decide := true) (disch := first | omega | rfl) only [↓SD, SP, opE, fget, binA, Nat.reduceEqDiff, reduceIte, again, stepV, wanted, resE, resL, resU, wr, rd, known, fillE, U.cells, hb, h83, k7, k1, k82, h15, h16, ql, e1, e2]
      exact ⟨by omega, by simp, (by (repeat (refine Keep.set ?_ (by decide))); exact hk)⟩
  · have h := of_decide_eq_false hb
    have : d = 5 := by omega
    subst this
    simp (decide := true) (disch := first | omega | rfl) only [↓SD, SP, opE, fget, binA, Nat.reduceEqDiff, reduceIte, again, stepV, wanted, resE, resL, resU, wr, rd, known, fillE, U.cells, h15, h16]

theorem line_ok (hG : G 893 = some (.code impl_table_line)) {m : Mem} {bt n : Nat} {w : Bool} {c : Cap} {T : Nat → Int} {but : Int} (qt : m[bt]? = some (.cells w (ints (n * 5) T))) (hn : n ≤ 20) (hT : ∀ k, 0 ≤ T k) :
    Rn G 893 [V.a (.sl bt 0 n c), V.i but] m fun v m' => v = .t [.a (.int .i64 (lineN T n but)), .a (.int .i64 (lineL T n but))] ∧ Ext m m' := by
  refine Rn.code hG ?_
  unfold impl_table_line
  simp (decide := true) (disch := first | omega | rfl) only [↓SD, SP, opE, fget, binA, Nat.reduceEqDiff, reduceIte, again, stepV, wanted, resE, resL, resU, wr, rd, known, fillE, U.cells, lit5]
  refine (line_L0 (bt := bt) (bc := m.length) (bl := m.length + 1) (n := n) (c := c) (T := T) (m := m) (by simp (decide := true) (disch := first | omega | rfl) only [↓SD, SP, opE, fget, binA, Nat.reduceEqDiff, reduceIte, again, stepV, wanted, resE, resL, resU, wr, rd, known, fillE, U.cells]) (by simp (decide := true) (disch := first | omega | rfl) only [↓SD, SP, opE, fget, binA, Nat.reduceEqDiff, reduceIte, again, stepV, wanted, resE, resL, resU, wr, rd, known, fillE, U.cells]) (by simp (decide := true) (disch := first | omega | rfl) only [↓SD, SP, opE, fget, binA, Nat.reduceEqDiff, reduceIte, again, stepV, wanted, resE, resL, resU, wr, rd, known, fillE, U.cells]) (by simp (decide := true) (disch := first | omega | rfl) only [↓SD, SP, opE, fget, binA, Nat.reduceEqDiff, reduceIte, again, stepV, wanted, resE, resL, resU, wr, rd, known, fillE, U.cells]) (by simp (decide := true) (disch := first | omega | rfl) only [↓SD, SP, opE, fget, binA, Nat.reduceEqDiff, reduceIte, again, stepV, wanted, resE, resL, resU, wr, rd, known, fillE, U.cells]) (by simp (decide := true) (disch := first | omega | rfl) only [↓SD, SP, opE, fget, binA, Nat.reduceEqDiff, reduceIte, again, stepV, wanted, resE, resL, resU, wr, rd, known, fillE, U.cells]) (by simp (decide := true) (disch := first | omega | rfl) only [↓SD, SP, opE, fget, binA, Nat.reduceEqDiff, reduceIte, again, stepV, wanted, resE, resL, resU, wr, rd, known, fillE, U.cells]) qt (by omega) (by omega) (by omega) ((Ext.push _ _).trans (Ext.push _ _)) hn hT).mono ?_
  rintro e f' q ⟨rfl, he, hc, hl, hk⟩
  have j1 := hk 1 (by decide); have j6 := hk 6 (by decide); have j7 := hk 7 (by decide)
  simp (decide := true) only [↓SD, SP, opE, fget, binA, Nat.reduceEqDiff, reduceIte, again, stepV, wanted, resE, resL, resU, wr, rd, known, fillE, U.cells] at j1 j6 j7
  simp (decide := true) (disch := first | omega | rfl) only [↓SD, SP, opE, fget, binA, Nat.reduceEqDiff, reduceIte, again, stepV, wanted, resE, resL, resU, wr, rd, known, fillE, U.cells, j1, j6, j7, hc, hl]
  refine (line_L3 (bl := m.length + 1) (but := but) (cnt := cntF T n) (lst := lstF T n) (by simp (decide := true) (disch := first | omega | rfl) only [↓SD, SP, opE, fget, binA, Nat.reduceEqDiff, reduceIte, again, stepV, wanted, resE, resL, resU, wr, rd, known, fillE, U.cells, j7]) (by simp (decide := true) (disch := first | omega | rfl) only [↓SD, SP, opE, fget, binA, Nat.reduceEqDiff, reduceIte, again, stepV, wanted, resE, resL, resU, wr, rd, known, fillE, U.cells, j1]) (by simp (decide := true) (disch := first | omega | rfl) only [↓SD, SP, opE, fget, binA, Nat.reduceEqDiff, reduceIte, again, stepV, wanted, resE, resL, resU, wr, rd, known, fillE, U.cells]) (by simp (decide := true) (disch := first | omega | rfl) only [↓SD, SP, opE, fget, binA, Nat.reduceEqDiff, reduceIte, again, stepV, wanted, resE, resL, resU, wr, rd, known, fillE, U.cells]) (by simp (decide := true) (disch := first | omega | rfl) only [↓SD, SP, opE, fget, binA, Nat.reduceEqDiff, reduceIte, again, stepV, wanted, resE, resL, resU, wr, rd, known, fillE, U.cells]) (by simp (decide := true) (disch := first | omega | rfl) only [↓SD, SP, opE, fget, binA, Nat.reduceEqDiff, reduceIte, again, stepV, wanted, resE, resL, resU, wr, rd, known, fillE, U.cells]) hl (cntF_bound' hn) (lstF_bound hT n)).mono ?_
  rintro e f2 q2 ⟨rfl, rfl, h15, h16⟩
  simp (decide := true) (disch := first | omega | rfl) only [↓SD, SP, opE, fget, binA, Nat.reduceEqDiff, reduceIte, again, stepV, wanted, resE, resL, resU, wr, rd, known, fillE, U.cells, h15, h16]
  exact ⟨_, rfl, rfl, he⟩
end Go.AL
