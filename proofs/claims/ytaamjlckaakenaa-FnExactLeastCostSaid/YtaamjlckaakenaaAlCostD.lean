/-
  The least cost from a board on: the reference's.
-/
import Derived.Test.YtaamjlckaakenaaAlCostC
namespace Go.AL
set_option linter.unusedSimpArgs false
set_option linter.unusedVariables false
open F
set_option linter.unusedSimpArgs false
set_option linter.unusedVariables false
variable {G : Env}

def slotsC2 : List Nat := [9, 10, 45, 46, 47, 48, 49, 50, 51, 52, 53, 54, 55, 56, 57, 58, 59, 60, 61, 62, 63, 64, 65, 66, 67, 68, 69, 70, 71, 72, 73, 74, 75, 76, 77, 78, 79, 80, 81, 82, 83, 84, 85, 86, 87, 88, 89]

theorem bestB_le {f : Nat → Int} {p : Nat → Bool} {B : Int} (h : ∀ b, p b = true → f b ≤ B) (h0 : 0 ≤ B) : ∀ d, bestB f p d ≤ B
  | 0 => by unfold bestB; omega
  | d + 1 => by
    have ih := bestB_le h h0 d
    unfold bestB
    by_cases hd : p d = true
    · rw [if_pos hd]; have := h d hd; split <;> omega
    · rw [if_neg hd]; exact ih
theorem bestB_ge {f : Nat → Int} {p : Nat → Bool} (h : ∀ b, p b = true → 0 ≤ f b) : ∀ d, -1 ≤ bestB f p d
  | 0 => by unfold bestB; omega
  | d + 1 => by
    have ih := bestB_ge h d
    unfold bestB
    by_cases hd : p d = true
    · rw [if_pos hd]; have := h d hd; split <;> omega
    · rw [if_neg hd]; exact ih

/-- The step's own least: over the colours that are not a. -/
abbrev stepK (N C : Nat → Int) (a : Nat) (d : Nat) : Int := bestB (fun b => N b + C b) (fun b => decide (b ≠ a) && decide (0 ≤ N b)) d

set_option maxHeartbeats 2000000 in
theorem cheap_L2 {fr : Fr} {q : Mem} {a t xr bn bx : Nat} {cr cn cx : Cap} {N C Y : Nat → Int} {wr' : Bool} (ha : a < t) (ht : t ≤ 5) (f8 : fget fr 8 = V.i a) (f44 : fget fr 44 = V.i t) (f45 : fget fr 45 = V.i 0) (f43 : fget fr 43 = V.a (.sl xr 0 t cr)) (f5 : fget fr 5 = V.a (.sl bn 0 t cn)) (f7 : fget fr 7 = V.a (.sl bx 0 t cx))
    (qr : q[xr]? = some (.cells wr' (ints t C))) (qn : q[bn]? = some (.cells true (ints t N))) (qx : q[bx]? = some (.cells true (ints t (upd Y a (-1))))) (n1 : bx ≠ xr) (n2 : bx ≠ bn) (hN : ∀ b, -1 ≤ N b ∧ N b ≤ 10000) (hC : ∀ b, b < t → 0 ≤ C b ∧ C b ≤ 100) :
    Wc G (.loop spec_coCheap_L2) (fun e f' q' => e = .exit 4 ∧ q'[bx]? = some (.cells true (ints t (upd Y a (stepK N C a t)))) ∧ Upd [bx] q q' ∧ Keep slotsC2 fr f') fr q := by
  refine Wc.loopN (fun j f' q' => fget f' 45 = V.i j ∧ q'[bx]? = some (.cells true (ints t (upd Y a (stepK N C a j)))) ∧ Upd [bx] q q' ∧ Keep slotsC2 fr f') t (fun j f' q' hjl hS => ?_) ⟨f45, qx, Upd.refl, Keep.refl⟩
  obtain ⟨h45, hx, hu, hk⟩ := hS
  have h8 := (hk 8 (by decide)).trans f8
  have h44 := (hk 44 (by decide)).trans f44
  have h43 := (hk 43 (by decide)).trans f43
  have h5 := (hk 5 (by decide)).trans f5
  have h7 := (hk 7 (by decide)).trans f7
  have hr := (hu.2 xr (by simp; omega)).trans qr
  have hn := (hu.2 bn (by simp; omega)).trans qn
  have lbx := lt_of_get hx
  unfold spec_coCheap_L2
  simp (decide := true) (disch := first | omega | rfl) only [↓SD, SP, opE, fget, binA, Nat.reduceEqDiff, reduceIte, again, stepV, wanted, resE, resL, resU, wr, rd, known, fillE, U.cells, h45, h44]
  refine ⟨fun hb => ?_, fun hb => ?_⟩
  · have hlt := of_decide_eq_true hb
    have hNj := hN j
    have hCj := hC j (by omega)
    have hS : stepK N C a (j + 1) = if decide (j ≠ a) && decide (0 ≤ N j) then (if stepK N C a j < 0 ∨ N j + C j < stepK N C a j then N j + C j else stepK N C a j) else stepK N C a j := rfl
    have hua : upd Y a (stepK N C a j) a = stepK N C a j := upd_same
    by_cases haj : a = j
    · have hd : ((a : Int) != (j : Int)) = false := by rw [haj]; exact bne_self_eq_false ..
      simp (decide := true) (disch := first | omega | rfl) only [↓SD, SP, opE, fget, binA, Nat.reduceEqDiff, reduceIte, again, stepV, wanted, resE, resL, resU, wr, rd, known, fillE, U.cells, h45, h44, h43, h5, h7, h8, hr, hn, hx, hd]
      have hSj : stepK N C a (j + 1) = stepK N C a j := by rw [hS, decide_eq_false (by omega)]; simp
      exact ⟨by omega, by simp, by rw [hSj], hu, (by (repeat (refine Keep.set ?_ (by decide))); exact hk)⟩
    · have hd : ((a : Int) != (j : Int)) = true := by rw [bne_iff_ne]; omega
      by_cases hge : 0 ≤ N j
      · have hg : decide (0 ≤ N j) = true := decide_eq_true hge
        have hSj : stepK N C a (j + 1) = if stepK N C a j < 0 ∨ N j + C j < stepK N C a j then N j + C j else stepK N C a j := by rw [hS, hg, decide_eq_true (by omega)]; rfl
        by_cases hneg : stepK N C a j < 0
        · have h3 : decide (stepK N C a j < 0) = true := decide_eq_true hneg
          simp (decide := true) (maxSteps := 1000000) (disch := first | omega | rfl) only [↓SD, SP, opE, fget, binA, Nat.reduceEqDiff, reduceIte, again, stepV, wanted, resE, resL, resU, wr, rd, known, fillE, U.cells, h45, h44, h43, h5, h7, h8, hr, hn, hx, hd, hg, hua, h3, upd_upd]
          exact ⟨by omega, by simp, by rw [hSj, if_pos (.inl hneg)], (by (repeat (refine Upd.set ?_ (by simp))); exact hu), (by (repeat (refine Keep.set ?_ (by decide))); exact hk)⟩
        · have h3 : decide (stepK N C a j < 0) = false := decide_eq_false hneg
          by_cases hless : N j + C j < stepK N C a j
          · have h4 : decide (N j + C j < stepK N C a j) = true := decide_eq_true hless
            simp (decide := true) (maxSteps := 1000000) (disch := first | omega | rfl) only [↓SD, SP, opE, fget, binA, Nat.reduceEqDiff, reduceIte, again, stepV, wanted, resE, resL, resU, wr, rd, known, fillE, U.cells, h45, h44, h43, h5, h7, h8, hr, hn, hx, hd, hg, hua, h3, h4, upd_upd]
            exact ⟨by omega, by simp, by rw [hSj, if_pos (.inr hless)], (by (repeat (refine Upd.set ?_ (by simp))); exact hu), (by (repeat (refine Keep.set ?_ (by decide))); exact hk)⟩
          · have h4 : decide (N j + C j < stepK N C a j) = false := decide_eq_false hless
            simp (decide := true) (maxSteps := 1000000) (disch := first | omega | rfl) only [↓SD, SP, opE, fget, binA, Nat.reduceEqDiff, reduceIte, again, stepV, wanted, resE, resL, resU, wr, rd, known, fillE, U.cells, h45, h44, h43, h5, h7, h8, hr, hn, hx, hd, hg, hua, h3, h4]
            exact ⟨by omega, by simp, by rw [hSj, if_neg (by omega)], hu, (by (repeat (refine Keep.set ?_ (by decide))); exact hk)⟩
      · have hg : decide (0 ≤ N j) = false := decide_eq_false hge
        simp (decide := true) (disch := first | omega | rfl) only [↓SD, SP, opE, fget, binA, Nat.reduceEqDiff, reduceIte, again, stepV, wanted, resE, resL, resU, wr, rd, known, fillE, U.cells, h45, h44, h43, h5, h7, h8, hr, hn, hx, hd, hg]
        have hSj : stepK N C a (j + 1) = stepK N C a j := by rw [hS, hg]; simp
        exact ⟨by omega, by simp, by rw [hSj], hu, (by (repeat (refine Keep.set ?_ (by decide))); exact hk)⟩
  · have hlt := of_decide_eq_false hb
    have : j = t := by omega
    subst this
    simp (decide := true) (disch := first | omega | rfl) only [↓SD, SP, opE, fget, binA, Nat.reduceEqDiff, reduceIte, again, stepV, wanted, resE, resL, resU, wr, rd, known, fillE, U.cells]
    exact ⟨hx, hu, (by (repeat (refine Keep.set ?_ (by decide))); exact hk)⟩
end Go.AL
