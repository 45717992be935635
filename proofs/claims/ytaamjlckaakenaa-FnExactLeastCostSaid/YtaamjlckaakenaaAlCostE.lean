/-
  The least cost from a board on: the reference's rows and the whole.
-/
import Derived.Test.YtaamjlckaakenaaAlCostD
namespace Go.AL
set_option linter.unusedSimpArgs false
set_option linter.unusedVariables false
open F
set_option linter.unusedSimpArgs false
set_option linter.unusedVariables false
variable {G : Env}

def slotsC1 : List Nat := 8 :: 34 :: 35 :: 36 :: 37 :: 38 :: 39 :: 40 :: 41 :: 42 :: 43 :: 44 :: 90 :: slotsC2

theorem bestB_congr' {f g : Nat → Int} {p q : Nat → Bool} (d : Nat) (h : ∀ b, b < d → p b = q b ∧ (p b = true → f b = g b)) : bestB f p d = bestB g q d := bestB_congr d h

structure Rows (n t : Nat) (nn : Nat → Nat) (ff : Nat → Nat → Int) : Prop where
  one : 1 ≤ t
  five : t ≤ 5
  n1 : 1 ≤ n
  n20 : n ≤ 20
  nn : ∀ i, i < n → nn i = t
  lo : ∀ i j, i < n → j < t → 0 ≤ ff i j ∧ ff i j ≤ 100

theorem Rows.of {n : Nat} {nn : Nat → Nat} {ff : Nat → Nat → Int} (h : costB n nn ff = true) : Rows n (nn 0) nn ff := by
  unfold costB at h
  rw [Bool.and_eq_true] at h
  obtain ⟨h1, h2⟩ := h
  unfold inB at h1
  simp only [Bool.and_eq_true, decide_eq_true_eq] at h1
  have hr := fun j hj => List.all_eq_true.1 h2 j (List.mem_range.2 hj)
  have h0 := hr 0 (by omega)
  unfold costRowB tintsB at h0
  simp only [Bool.and_eq_true, decide_eq_true_eq] at h0
  refine ⟨by omega, by omega, by omega, by omega, fun i hi => ?_, fun i j hi hj => ?_⟩
  · have := hr i hi
    unfold costRowB at this
    simp only [Bool.and_eq_true, decide_eq_true_eq] at this
    exact this.2.1
  · have := hr i hi
    unfold costRowB at this
    simp only [Bool.and_eq_true, decide_eq_true_eq] at this
    have h3 := List.all_eq_true.1 this.2.2 j (List.mem_range.2 (by omega))
    unfold inB at h3
    simp only [Bool.and_eq_true, decide_eq_true_eq] at h3
    exact h3

theorem Rows.costs {n t : Nat} {nn : Nat → Nat} {ff : Nat → Nat → Int} (h : Rows n t nn ff) : Costs (costT n t ff) := by
  intro k
  unfold costT
  by_cases hk : k % 5 < t ∧ k / 5 < n
  · rw [if_pos hk]; exact .inr (h.lo _ _ hk.2 hk.1)
  · rw [if_neg hk]; exact .inl rfl
theorem Rows.may {n t i j : Nat} {nn : Nat → Nat} {ff : Nat → Nat → Int} (h : Rows n t nn ff) (hi : i < n) (hj : j < 5) : may (costT n t ff) i j ↔ j < t := by
  show costT n t ff (i * 5 + j) < _ ↔ _
  unfold costT
  have e1 : (i * 5 + j) % 5 = j := by omega
  have e2 : (i * 5 + j) / 5 = i := by omega
  rw [e1, e2]
  by_cases hjt : j < t
  · rw [if_pos ⟨hjt, hi⟩]; have := h.lo i j hi hjt; exact ⟨fun _ => hjt, fun _ => by omega⟩
  · rw [if_neg (fun h' => hjt h'.1)]; exact ⟨fun h' => absurd h' (by decide), fun h' => absurd h' hjt⟩
theorem Rows.cost {n t i j : Nat} {nn : Nat → Nat} {ff : Nat → Nat → Int} (h : Rows n t nn ff) (hi : i < n) (hj : j < t) : costT n t ff (i * 5 + j) = ff i j := by
  have := h.five
  unfold costT
  have e1 : (i * 5 + j) % 5 = j := by omega
  have e2 : (i * 5 + j) / 5 = i := by omega
  rw [e1, e2, if_pos ⟨hj, hi⟩]

theorem bL_cap {T : Nat → Int} {n : Nat} {but : Int} (hT : Costs T) : ∀ k a, -1 ≤ bL T n but k a ∧ bL T n but k a ≤ 100 * k
  | 0, a => by unfold bL; split <;> omega
  | k + 1, a => by
    have ih := bL_cap (n := n) (but := but) hT k
    unfold bL
    constructor
    · apply bestB_ge
      intro b hb
      have h1 := (bL_p.1 hb).2.2
      have h2 := hT.nn ((n - 1 - k) * 5 + b)
      show 0 ≤ _ + _; omega
    · apply bestB_le
      · intro b hb
        have h1 := (ih b).2
        have h2 := hT.le (bL_p.1 hb).2.1
        show _ + _ ≤ _; omega
      · omega

/-- One row further from the end. -/
theorem bL_row {n t s a : Nat} {nn : Nat → Nat} {ff : Nat → Nat → Int} (h : Rows n t nn ff) (hs : s < n) :
    bL (costT n t ff) n (-1) (s + 1) a = stepK (bL (costT n t ff) n (-1) s) (ff (n - 1 - s)) a t := by
  have h5 := h.five
  show bestB _ _ 5 = _
  rw [bestB_cut (m := t) h5 (fun k h1 h2 => by
    have : ¬ may (costT n t ff) (n - 1 - s) k := fun hm => by have := (h.may (by omega) h2).1 hm; omega
    simp [this])]
  apply bestB_congr
  intro b hb
  have hm : may (costT n t ff) (n - 1 - s) b := (h.may (by omega) (by omega)).2 hb
  refine ⟨?_, fun _ => ?_⟩
  · show (decide (b ≠ a) && (decide (may _ _ _) && decide (0 ≤ _))) = (decide (b ≠ a) && decide (0 ≤ _))
    rw [decide_eq_true hm, Bool.true_and]
  · show _ + costT n t ff ((n - 1 - s) * 5 + b) = _ + _
    rw [h.cost (by omega) hb]

set_option maxHeartbeats 1000000 in
theorem cheap_L1 {fr : Fr} {q : Mem} {s t b o k i n bn bx xr : Nat} {c cn cx cr : Cap} {nn : Nat → Nat} {ff : Nat → Nat → Int} {g : Nat → A} {wb wr' : Bool} (hR : Rows n t nn ff) (hs : s < n) (hi : o + i = n - 1 - s) (hik : i < k) (hok : o + k = n)
    (f33 : fget fr 33 = V.i t) (f34 : fget fr 34 = V.i 0) (f0 : fget fr 0 = V.a (.sl b o k c)) (f6 : fget fr 6 = V.i i) (f5 : fget fr 5 = V.a (.sl bn 0 t cn)) (f7 : fget fr 7 = V.a (.sl bx 0 t cx))
    (qb : q[b]? = some (.cells wb (rowsL n g))) (hg : g (n - 1 - s) = .sl xr 0 t cr) (qr : q[xr]? = some (.cells wr' (ints t (ff (n - 1 - s))))) (qn : q[bn]? = some (.cells true (ints t (bL (costT n t ff) n (-1) s)))) (qx : q[bx]? = some (.cells true (ints t (fun _ => 0))))
    (n0 : bx ≠ b) (n1 : bx ≠ xr) (n2 : bx ≠ bn) :
    Wc G (.loop spec_coCheap_L1) (fun e f' q' => e = .exit 2 ∧ q'[bx]? = some (.cells true (ints t (bL (costT n t ff) n (-1) (s + 1)))) ∧ Upd [bx] q q' ∧ Keep slotsC1 fr f') fr q := by
  have h5' := hR.five
  have hrow : (fun a => bL (costT n t ff) n (-1) (s + 1) a) = fun a => stepK (bL (costT n t ff) n (-1) s) (ff (n - 1 - s)) a t := by funext a; exact bL_row hR hs
  have hcap := bL_cap (n := n) (but := -1) hR.costs s
  have h20 := hR.n20
  refine (Wc.loopN (fun a f' q' => fget f' 34 = V.i a ∧ q'[bx]? = some (.cells true (ints t (upto (fun a => stepK (bL (costT n t ff) n (-1) s) (ff (n - 1 - s)) a t) a))) ∧ Upd [bx] q q' ∧ Keep slotsC1 fr f') t (fun a f' q' hal hS => ?_) ⟨f34, by rw [upto_zero]; exact qx, Upd.refl, Keep.refl⟩ :
    Wc G (.loop spec_coCheap_L1) (fun e f' q' => e = .exit 2 ∧ q'[bx]? = some (.cells true (ints t (fun a => stepK (bL (costT n t ff) n (-1) s) (ff (n - 1 - s)) a t))) ∧ Upd [bx] q q' ∧ Keep slotsC1 fr f') fr q).mono (by
      rintro e f' q' ⟨h1, h2, h3⟩
      refine ⟨h1, ?_, h3⟩
      rw [h2]; rw [show bL (costT n t ff) n (-1) (s + 1) = _ from hrow])
  obtain ⟨h34, hx, hu, hk⟩ := hS
  have h33 := (hk 33 (by decide)).trans f33
  have h0 := (hk 0 (by decide)).trans f0
  have h6 := (hk 6 (by decide)).trans f6
  have h5 := (hk 5 (by decide)).trans f5
  have h7 := (hk 7 (by decide)).trans f7
  have hb' := (hu.2 b (by simp; omega)).trans qb
  have hr := (hu.2 xr (by simp; omega)).trans qr
  have hn := (hu.2 bn (by simp; omega)).trans qn
  have lbx := lt_of_get hx
  unfold spec_coCheap_L1
  simp (decide := true) (disch := first | omega | rfl) only [↓SD, SP, opE, fget, binA, Nat.reduceEqDiff, reduceIte, again, stepV, wanted, resE, resL, resU, wr, rd, known, fillE, U.cells, h34, h33]
  refine ⟨fun hb => ?_, fun hb => ?_⟩
  · have hlt := of_decide_eq_true hb
    have hc1 : List.take 1 (List.drop (o + i) (rowsL n g)) = [g (o + i)] := rowsL_cell (by omega)
    have hlen : (rowsL n g).length = n := rowsL_len
    have hg' : g (o + i) = .sl xr 0 t cr := by rw [hi]; exact hg
    have lxr := lt_of_get hr
    have lb := lt_of_get hb'
    simp (decide := true) (disch := first | omega | rfl) only [↓SD, SP, opE, fget, binA, Nat.reduceEqDiff, reduceIte, again, stepV, wanted, resE, resL, resU, wr, rd, known, fillE, U.cells, h34, h33, h0, h6, h5, h7, hx, hb', hc1, hlen, hg']
    refine (cheap_L2 (q := q'.set bx (Blk.cells true (ints t (upd (upto (fun a => stepK (bL (costT n t ff) n (-1) s) (ff (n - 1 - s)) a t) a) a (-1))))) (a := a) (t := t) (xr := xr) (bn := bn) (bx := bx) (cr := cr) (cn := cn) (cx := cx) (N := bL (costT n t ff) n (-1) s) (C := ff (n - 1 - s)) (wr' := wr')
      (by omega) h5' (by simp (decide := true) (disch := first | omega | rfl) only [↓SD, SP, opE, fget, binA, Nat.reduceEqDiff, reduceIte, again, stepV, wanted, resE, resL, resU, wr, rd, known, fillE, U.cells]) (by simp (decide := true) (disch := first | omega | rfl) only [↓SD, SP, opE, fget, binA, Nat.reduceEqDiff, reduceIte, again, stepV, wanted, resE, resL, resU, wr, rd, known, fillE, U.cells]) (by simp (decide := true) (disch := first | omega | rfl) only [↓SD, SP, opE, fget, binA, Nat.reduceEqDiff, reduceIte, again, stepV, wanted, resE, resL, resU, wr, rd, known, fillE, U.cells]) (by simp (decide := true) (disch := first | omega | rfl) only [↓SD, SP, opE, fget, binA, Nat.reduceEqDiff, reduceIte, again, stepV, wanted, resE, resL, resU, wr, rd, known, fillE, U.cells]) (by simp (decide := true) (disch := first | omega | rfl) only [↓SD, SP, opE, fget, binA, Nat.reduceEqDiff, reduceIte, again, stepV, wanted, resE, resL, resU, wr, rd, known, fillE, U.cells, h5]) (by simp (decide := true) (disch := first | omega | rfl) only [↓SD, SP, opE, fget, binA, Nat.reduceEqDiff, reduceIte, again, stepV, wanted, resE, resL, resU, wr, rd, known, fillE, U.cells, h7]) (by rw [List.getElem?_set_ne n1]; exact hr) (by rw [List.getElem?_set_ne n2]; exact hn) (List.getElem?_set_self lbx) n1 n2 (fun b => by have := hcap b; omega) (fun j hj => hR.lo _ j (by omega) hj)).mono ?_
    rintro e f2 q2 ⟨rfl, hx2, hu2, hk2⟩
    have j34 := hk2 34 (by decide)
    simp (decide := true) only [↓SD, SP, opE, fget, binA, Nat.reduceEqDiff, reduceIte, again, stepV, wanted, resE, resL, resU, wr, rd, known, fillE, U.cells, h34] at j34
    rw [upto_upd (f := fun a => stepK (bL (costT n t ff) n (-1) s) (ff (n - 1 - s)) a t) rfl] at hx2
    simp (decide := true) (disch := first | omega | rfl) only [↓SD, SP, opE, fget, binA, Nat.reduceEqDiff, reduceIte, again, stepV, wanted, resE, resL, resU, wr, rd, known, fillE, U.cells, j34]
    refine ⟨by omega, by simp, hx2, ((by (repeat (refine Upd.set ?_ (by simp))); exact hu) : Upd [bx] q (q'.set bx _)).trans hu2, ?_⟩
    repeat (refine Keep.set ?_ (by decide))
    refine Keep.trans ?_ hk2 (by decide)
    exact (by (repeat (refine Keep.set ?_ (by decide))); exact hk)
  · have hlt := of_decide_eq_false hb
    have : a = t := by omega
    subst this
    simp (decide := true) (disch := first | omega | rfl) only [↓SD, SP, opE, fget, binA, Nat.reduceEqDiff, reduceIte, again, stepV, wanted, resE, resL, resU, wr, rd, known, fillE, U.cells]
    exact ⟨by rw [hx, upto_all], hu, (by (repeat (refine Keep.set ?_ (by decide))); exact hk)⟩
end Go.AL
