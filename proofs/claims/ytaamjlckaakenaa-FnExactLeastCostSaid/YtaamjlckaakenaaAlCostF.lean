/-
  The least cost from a board on: the reference's whole.
-/
import Derived.Test.YtaamjlckaakenaaAlCostE
namespace Go.AL
set_option linter.unusedSimpArgs false
set_option linter.unusedVariables false
open F
set_option linter.unusedSimpArgs false
set_option linter.unusedVariables false
variable {G : Env}

abbrev bestA (N C : Nat → Int) (d : Nat) : Int := bestB (fun b => N b + C b) (fun b => decide (0 ≤ N b)) d
theorem bestA_step {N C : Nat → Int} {t : Nat} (ht : t ≤ 5) : bestA N C t = stepK N C 5 t := by
  apply bestB_congr
  intro b hb
  refine ⟨?_, fun _ => rfl⟩
  show decide (0 ≤ N b) = (decide (b ≠ 5) && decide (0 ≤ N b))
  rw [decide_eq_true (show b ≠ 5 by omega), Bool.true_and]

set_option maxHeartbeats 1000000 in
theorem cheap_L3 {fr : Fr} {q : Mem} {t xr bn : Nat} {cr cn : Cap} {N C : Nat → Int} {wr' : Bool} (ht : t ≤ 5) (f100 : fget fr 100 = V.i t) (f101 : fget fr 101 = V.i 0) (f99 : fget fr 99 = V.a (.sl xr 0 t cr)) (f5 : fget fr 5 = V.a (.sl bn 0 t cn)) (f11 : fget fr 11 = V.i (-1))
    (qr : q[xr]? = some (.cells wr' (ints t C))) (qn : q[bn]? = some (.cells true (ints t N))) (hN : ∀ b, -1 ≤ N b ∧ N b ≤ 10000) (hC : ∀ b, b < t → 0 ≤ C b ∧ C b ≤ 100) :
    Wc G (.loop spec_coCheap_L3) (fun e f' q' => e = .exit 6 ∧ fget f' 11 = V.i (bestA N C t) ∧ q' = q) fr q := by
  refine Wc.loopN (fun j f' q' => fget f' 101 = V.i j ∧ fget f' 100 = V.i t ∧ fget f' 99 = V.a (.sl xr 0 t cr) ∧ fget f' 5 = V.a (.sl bn 0 t cn) ∧ fget f' 11 = V.i (bestA N C j) ∧ q' = q) t (fun j f' q' hjl hS => ?_) ⟨f101, f100, f99, f5, f11, rfl⟩
  obtain ⟨h101, h100, h99, h5, h11, rfl⟩ := hS
  unfold spec_coCheap_L3
  simp (decide := true) (disch := first | omega | rfl) only [↓SD, SP, opE, fget, binA, Nat.reduceEqDiff, reduceIte, again, stepV, wanted, resE, resL, resU, wr, rd, known, fillE, U.cells, h101, h100]
  refine ⟨fun hb => ?_, fun hb => ?_⟩
  · have hlt := of_decide_eq_true hb
    have hNj := hN j
    have hCj := hC j (by omega)
    have hS : bestA N C (j + 1) = if decide (0 ≤ N j) then (if bestA N C j < 0 ∨ N j + C j < bestA N C j then N j + C j else bestA N C j) else bestA N C j := rfl
    by_cases hge : 0 ≤ N j
    · have hg : decide (0 ≤ N j) = true := decide_eq_true hge
      have hSj : bestA N C (j + 1) = if bestA N C j < 0 ∨ N j + C j < bestA N C j then N j + C j else bestA N C j := by rw [hS, hg]; rfl
      by_cases hneg : bestA N C j < 0
      · have h3 : decide (bestA N C j < 0) = true := decide_eq_true hneg
        simp (decide := true) (maxSteps := 1000000) (disch := first | omega | rfl) only [↓SD, SP, opE, fget, binA, Nat.reduceEqDiff, reduceIte, again, stepV, wanted, resE, resL, resU, wr, rd, known, fillE, U.cells, h101, h100, h99, h5, h11, qr, qn, hg, h3]
        exact ⟨by omega, by simp, by rw [hSj, if_pos (.inl hneg)]⟩
      · have h3 : decide (bestA N C j < 0) = false := decide_eq_false hneg
        by_cases hless : N j + C j < bestA N C j
        · have h4 : decide (N j + C j < bestA N C j) = true := decide_eq_true hless
          simp (decide := true) (maxSteps := 1000000) (disch := first | omega | rfl) only [↓SD, SP, opE, fget, binA, Nat.reduceEqDiff, reduceIte, again, stepV, wanted, resE, resL, resU, wr, rd, known, fillE, U.cells, h101, h100, h99, h5, h11, qr, qn, hg, h3, h4]
          exact ⟨by omega, by simp, by rw [hSj, if_pos (.inr hless)]⟩
        · have h4 : decide (N j + C j < bestA N C j) = false := decide_eq_false hless
          simp (decide := true) (maxSteps := 1000000) (disch := first | omega | rfl) only [↓SD, SP, opE, fget, binA, Nat.reduceEqDiff, reduceIte, again, stepV, wanted, resE, resL, resU, wr, rd, known, fillE, U.cells, h101, h100, h99, h5, h11, qr, qn, hg, h3, h4]
          exact ⟨by omega, by simp, by rw [hSj, if_neg (by omega)]⟩
    · have hg : decide (0 ≤ N j) = false := decide_eq_false hge
      simp (decide := true) (maxSteps := 1000000) (disch := first | omega | rfl) only [↓SD, SP, opE, fget, binA, Nat.reduceEqDiff, reduceIte, again, stepV, wanted, resE, resL, resU, wr, rd, known, fillE, U.cells, h101, h100, h99, h5, h11, qr, qn, hg]
      have hSj : bestA N C (j + 1) = bestA N C j := by rw [hS, hg]; simp
      exact ⟨by omega, by simp, by rw [hSj]⟩
  · have hlt := of_decide_eq_false hb
    have : j = t := by omega
    subst this
    simp (decide := true) (disch := first | omega | rfl) only [↓SD, SP, opE, fget, binA, Nat.reduceEqDiff, reduceIte, again, stepV, wanted, resE, resL, resU, wr, rd, known, fillE, U.cells]
    exact h11

theorem bL_zero {T : Nat → Int} {n a : Nat} : bL T n (-1) 0 a = 0 := by
  show (if (a : Int) = -1 then (-1 : Int) else 0) = 0
  rw [if_neg (by omega)]

set_option maxHeartbeats 2000000 in
theorem coCheap_ok (hG : G 566 = some (.code spec_coCheap)) {m : Mem} {lo b n o k a : Nat} {bef : Int} {c : Cap} {nn : Nat → Nat} {ff : Nat → Nat → Int} (hR : Rows n (nn 0) nn ff) (hq : Cst lo m b n nn ff) (hok : o + k = n) (hbef : (bef = -1 ∧ a = 5) ∨ (bef = a ∧ a < nn 0)) :
    Rn G 566 [V.a (.sl b o k c), V.i bef] m fun v m' => v = V.i (bL (costT n (nn 0) ff) n (-1) k a) ∧ Ext m m' := by
  refine Rn.code hG ?_
  unfold spec_coCheap
  generalize htt : nn 0 = t at *
  have h1 := hR.one
  have h5 := hR.five
  have h20 := hR.n20
  obtain ⟨_, g, hb0, hr⟩ := hq
  have hlen : (rowsL n g).length = n := rowsL_len
  by_cases hk0 : k = 0
  · subst hk0
    have hd : (((0 : Nat) : Int) == 0) = true := rfl
    simp (decide := true) (disch := first | omega | rfl) only [↓SD, SP, opE, fget, binA, Nat.reduceEqDiff, reduceIte, again, stepV, wanted, resE, resL, resU, wr, rd, known, fillE, U.cells, hd]
    exact ⟨_, rfl, by rw [bL_zero], Ext.refl _⟩
  · have hd : ((k : Int) == 0) = false := by rw [beq_eq_false_iff_ne]; omega
    have hc0 : List.take 1 (List.drop o (rowsL n g)) = [g o] := rowsL_cell (by omega)
    obtain ⟨x0, e0, _, p0⟩ := hr o (by omega)
    rw [hR.nn o (by omega)] at e0
    have z0 : (Int.toNat 0) = 0 := rfl
    simp (decide := true) (disch := first | omega | rfl) only [↓SD, SP, opE, fget, binA, Nat.reduceEqDiff, reduceIte, again, stepV, wanted, resE, resL, resU, wr, rd, known, fillE, U.cells, hd, hb0, z0, hc0, hlen, e0]
    refine Wc.loopN (fun s f' q' => fget f' 6 = V.i ((k : Int) - 1 - s) ∧ fget f' 0 = V.a (.sl b o k c) ∧ fget f' 1 = V.i bef ∧ (∃ bn cn, fget f' 5 = V.a (.sl bn 0 t cn) ∧ q'[bn]? = some (.cells true (ints t (bL (costT n t ff) n (-1) s))) ∧ m.length ≤ bn) ∧ Ext m q' ∧ (bef = -1 → s < k)) k (fun s f' q' hsl hS => ?_)
      ⟨by rw [show ((k : Int) - 1 - ((0 : Nat) : Int)) = k - 1 by omega]; simp (decide := true) (disch := first | omega | rfl) only [↓SD, SP, opE, fget, binA, Nat.reduceEqDiff, reduceIte, again, stepV, wanted, resE, resL, resU, wr, rd, known, fillE, U.cells, hd, hb0, z0, hc0, hlen, e0], (by simp (decide := true) (disch := first | omega | rfl) only [↓SD, SP, opE, fget, binA, Nat.reduceEqDiff, reduceIte, again, stepV, wanted, resE, resL, resU, wr, rd, known, fillE, U.cells, hd, hb0, z0, hc0, hlen, e0]; try rfl), (by simp (decide := true) (disch := first | omega | rfl) only [↓SD, SP, opE, fget, binA, Nat.reduceEqDiff, reduceIte, again, stepV, wanted, resE, resL, resU, wr, rd, known, fillE, U.cells, hd, hb0, z0, hc0, hlen, e0]; try rfl), ⟨m.length, .ex t, (by simp (decide := true) (disch := first | omega | rfl) only [↓SD, SP, opE, fget, binA, Nat.reduceEqDiff, reduceIte, again, stepV, wanted, resE, resL, resU, wr, rd, known, fillE, U.cells, hd, hb0, z0, hc0, hlen, e0]; try rfl), by
        rw [y97]
        congr 2, Nat.le_refl _⟩, Ext.push _ _, fun _ => by omega⟩
    obtain ⟨h6, h0, h1', ⟨bn, cn, h5', hn, hlo⟩, he, hbk⟩ := hS
    unfold spec_coCheap_L0
    by_cases hsk : s < k
    · have hiz : (k : Int) - 1 - s = ((k - 1 - s : Nat) : Int) := by omega
      have hge : decide ((0 : Int) ≤ ((k - 1 - s : Nat) : Int)) = true := decide_eq_true (by omega)
      rw [hiz] at h6
      have hbq := he.get hb0
      obtain ⟨xr, er, _, pr⟩ := hr (n - 1 - s) (by omega)
      rw [hR.nn (n - 1 - s) (by omega)] at er pr
      have prq := he.get pr
      have lb := lt_of_get hbq
      have lxr := lt_of_get prq
      have lbn := lt_of_get hn
      simp (decide := true) (disch := first | omega | rfl) only [↓SD, SP, opE, fget, binA, Nat.reduceEqDiff, reduceIte, again, stepV, wanted, resE, resL, resU, wr, rd, known, fillE, U.cells, h6, hge, h5']
      refine (cheap_L1 (q := q' ++ [Blk.cells true (ints t fun _ => 0)]) (s := s) (t := t) (b := b) (o := o) (k := k) (i := k - 1 - s) (n := n) (bn := bn) (bx := q'.length) (xr := xr) (c := c) (cn := cn) (nn := nn) (ff := ff) (g := g) (wb := true) (wr' := true) hR (by omega) (by omega) (by omega) hok
        (by simp (decide := true) (disch := first | omega | rfl) only [↓SD, SP, opE, fget, binA, Nat.reduceEqDiff, reduceIte, again, stepV, wanted, resE, resL, resU, wr, rd, known, fillE, U.cells, h5']) (by simp (decide := true) (disch := first | omega | rfl) only [↓SD, SP, opE, fget, binA, Nat.reduceEqDiff, reduceIte, again, stepV, wanted, resE, resL, resU, wr, rd, known, fillE, U.cells]) (by simp (decide := true) (disch := first | omega | rfl) only [↓SD, SP, opE, fget, binA, Nat.reduceEqDiff, reduceIte, again, stepV, wanted, resE, resL, resU, wr, rd, known, fillE, U.cells, h0]) (by simp (decide := true) (disch := first | omega | rfl) only [↓SD, SP, opE, fget, binA, Nat.reduceEqDiff, reduceIte, again, stepV, wanted, resE, resL, resU, wr, rd, known, fillE, U.cells, h6]) (by simp (decide := true) (disch := first | omega | rfl) only [↓SD, SP, opE, fget, binA, Nat.reduceEqDiff, reduceIte, again, stepV, wanted, resE, resL, resU, wr, rd, known, fillE, U.cells, h5']) (by simp (decide := true) (disch := first | omega | rfl) only [↓SD, SP, opE, fget, binA, Nat.reduceEqDiff, reduceIte, again, stepV, wanted, resE, resL, resU, wr, rd, known, fillE, U.cells]; rfl) (by rw [y96 lb]; exact hbq) er (by rw [y96 lxr]; exact prq) (by rw [y96 lbn]; exact hn) (by rw [y97]) (by omega) (by omega) (by omega)).mono ?_
      rintro e f2 q2 ⟨rfl, hx2, hu2, hk2⟩
      have j6 := hk2 6 (by decide)
      have j0 := hk2 0 (by decide)
      have j1 := hk2 1 (by decide)
      have j5 := hk2 5 (by decide)
      have j7 := hk2 7 (by decide)
      simp (decide := true) only [↓SD, SP, opE, fget, binA, Nat.reduceEqDiff, reduceIte, again, stepV, wanted, resE, resL, resU, wr, rd, known, fillE, U.cells, h6, h0, h1', h5'] at j6 j0 j1 j5 j7
      have he2 : Ext m q2 := Upd.ext (he.trans (Ext.push _ _)) hu2 (by simp; exact he.1)
      have hb2 := he2.get hb0
      have pr2 := he2.get pr
      have hn2 : q2[bn]? = some (.cells true (ints t (bL (costT n t ff) n (-1) s))) := by rw [hu2.2 bn (by simp; omega), y96 lbn]; exact hn
      by_cases hz : k - 1 - s = 0
      · have hdz : (((k - 1 - s : Nat) : Int) == 0) = true := by rw [hz]; rfl
        rcases hbef with ⟨rfl, rfl⟩ | ⟨rfl, hat⟩
        · have ho0 : o = n - 1 - s := by omega
          rw [ho0] at hc0 e0
          have hc0' : List.take 1 (List.drop o (rowsL n g)) = [g (n - 1 - s)] := by rw [ho0]; exact hc0
          simp (decide := true) (disch := first | omega | rfl) only [↓SD, SP, opE, fget, binA, Nat.reduceEqDiff, reduceIte, again, stepV, wanted, resE, resL, resU, wr, rd, known, fillE, U.cells, j6, j0, j1, j5, hdz, hb2, z0, hc0', hlen, er]
          refine (cheap_L3 (q := q2) (t := t) (xr := xr) (bn := bn) (cr := .ex t) (cn := cn) (N := bL (costT n t ff) n (-1) s) (C := ff (n - 1 - s)) (wr' := true) h5 (by simp (decide := true) (disch := first | omega | rfl) only [↓SD, SP, opE, fget, binA, Nat.reduceEqDiff, reduceIte, again, stepV, wanted, resE, resL, resU, wr, rd, known, fillE, U.cells]) (by simp (decide := true) (disch := first | omega | rfl) only [↓SD, SP, opE, fget, binA, Nat.reduceEqDiff, reduceIte, again, stepV, wanted, resE, resL, resU, wr, rd, known, fillE, U.cells]) (by simp (decide := true) (disch := first | omega | rfl) only [↓SD, SP, opE, fget, binA, Nat.reduceEqDiff, reduceIte, again, stepV, wanted, resE, resL, resU, wr, rd, known, fillE, U.cells]) (by simp (decide := true) (disch := first | omega | rfl) only [↓SD, SP, opE, fget, binA, Nat.reduceEqDiff, reduceIte, again, stepV, wanted, resE, resL, resU, wr, rd, known, fillE, U.cells, j5]) (by simp (decide := true) (disch := first | omega | rfl) only [↓SD, SP, opE, fget, binA, Nat.reduceEqDiff, reduceIte, again, stepV, wanted, resE, resL, resU, wr, rd, known, fillE, U.cells]) pr2 hn2
            (fun b => by have := bL_cap (n := n) (but := -1) hR.costs s b; omega) (fun j hj => hR.lo _ j (by omega) hj)).mono ?_
          rintro e f3 q3 ⟨rfl, g11, rfl⟩
          simp (decide := true) (disch := first | omega | rfl) only [↓SD, SP, opE, fget, binA, Nat.reduceEqDiff, reduceIte, again, stepV, wanted, resE, resL, resU, wr, rd, known, fillE, U.cells, g11]
          refine ⟨_, rfl, ?_, he2⟩
          rw [bestA_step h5, ← bL_row hR (by omega), show s + 1 = k by omega]
        · have hdn : decide ((a : Int) < 0) = false := decide_eq_false (by omega)
          simp (decide := true) (disch := first | omega | rfl) only [↓SD, SP, opE, fget, binA, Nat.reduceEqDiff, reduceIte, again, stepV, wanted, resE, resL, resU, wr, rd, known, fillE, U.cells, j6, j0, j1, j5, j7, hdz, hdn]
          exact ⟨by omega, congrArg (fun z : Int => V.i z) (by omega), ⟨_, _, rfl, hx2, he.1⟩, he2, fun h => by omega⟩
      · have hdz : (((k - 1 - s : Nat) : Int) == 0) = false := by rw [beq_eq_false_iff_ne]; omega
        simp (decide := true) (disch := first | omega | rfl) only [↓SD, SP, opE, fget, binA, Nat.reduceEqDiff, reduceIte, again, stepV, wanted, resE, resL, resU, wr, rd, known, fillE, U.cells, j6, j0, j1, j5, j7, hdz]
        exact ⟨by omega, congrArg (fun z : Int => V.i z) (by omega), ⟨_, _, rfl, hx2, he.1⟩, he2, fun h => by omega⟩
    · have hsk' : s = k := by omega
      subst hsk'
      have hge : decide ((0 : Int) ≤ (s : Int) - 1 - s) = false := decide_eq_false (by omega)
      rcases hbef with ⟨rfl, rfl⟩ | ⟨rfl, hat⟩
      · exact absurd (hbk rfl) (by omega)
      · simp (decide := true) (disch := first | omega | rfl) only [↓SD, SP, opE, fget, binA, Nat.reduceEqDiff, reduceIte, again, stepV, wanted, resE, resL, resU, wr, rd, known, fillE, U.cells, h6, hge, h5', h1', hn]
        exact ⟨_, rfl, rfl, he⟩
end Go.AL
