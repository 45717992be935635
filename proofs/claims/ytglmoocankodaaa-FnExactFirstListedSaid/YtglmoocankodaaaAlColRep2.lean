/-
  The reference's least number of boards that are painted anew, behind done ones.
-/
import Derived.Test.YtglmoocankodaaaAlColRep
namespace Go.AL
set_option linter.unusedSimpArgs false
set_option linter.unusedVariables false
open F
set_option linter.unusedSimpArgs false
set_option linter.unusedVariables false
variable {G : Env}

abbrev slotsP2 : List Nat := 15 :: 16 :: 17 :: List.range' 45 48

set_option maxHeartbeats 1000000 in
theorem coRepaint_L2 {bw bn T w i : Nat} {c : Cap} {s : List UInt8} {W : Nat → Int} {fr : Fr} {q : Mem} (h0 : fget fr 0 = V.s s) (h13 : fget fr 13 = V.i i) (h11 : fget fr 11 = V.a (.sl bw 0 T c))
    (h14 : fget fr 14 = V.a (.sl bn 0 (T + 1) (.ex (T + 1)))) (h44 : fget fr 44 = V.i ((T + 1 : Nat) : Int)) (h45 : fget fr 45 = V.i 0)
    (qw : q[bw]? = some (.cells true (ints w W))) (hw : T ≤ w) (qn : q[bn]? = some (.cells true (ints (T + 1) (fun _ => 0)))) (d : bw ≠ bn) (hi : i < s.length) (hT : T ≤ 5) (hW : ∀ k, -1 ≤ W k ∧ W k ≤ 10000) :
    Wc G (.loop spec_coRepaint_L2) (fun e f' q' => e = .exit 4 ∧ Upd [bn] q q' ∧ q'[bn]? = some (.cells true (ints (T + 1) (fun a => stepB s i W a T))) ∧ Keep slotsP2 fr f') fr q := by
  refine Wc.loopN (fun a f q' => fget f 45 = V.i a ∧ Keep slotsP2 fr f ∧ Upd [bn] q q' ∧ q'[bn]? = some (.cells true (ints (T + 1) (upto (fun a => stepB s i W a T) a)))) (T + 1) (fun a f q' ha0 hS => ?_) ⟨h45, Keep.refl, Upd.refl, by rw [qn, upto_zero]⟩
  obtain ⟨h45, hk, hu, hn⟩ := hS
  have k0 := (hk 0 (by decide)).trans h0; have k13 := (hk 13 (by decide)).trans h13; have k11 := (hk 11 (by decide)).trans h11; have k14 := (hk 14 (by decide)).trans h14; have k44 := (hk 44 (by decide)).trans h44
  have hwq := (hu.2 bw (by simp [d])).trans qw
  have ln := lt_of_get hn
  unfold spec_coRepaint_L2
  simp (decide := true) (disch := first | omega | rfl) only [↓SD, SP, opE, fget, binA, Nat.reduceEqDiff, reduceIte, again, stepV, wanted, resE, resL, resU, wr, rd, known, fillE, U.cells, h45, k44]
  refine ⟨fun hb => ?_, fun hb => ?_⟩
  · have h := of_decide_eq_true hb
    simp (decide := true) (disch := first | omega | rfl) only [↓SD, SP, opE, fget, binA, Nat.reduceEqDiff, reduceIte, again, stepV, wanted, resE, resL, resU, wr, rd, known, fillE, U.cells, h45, k14, k11, hn]
    refine (coRepaint_L3 (bw := bw) (bn := bn) (T := T) (w := w) (i := i) (a := a) (c := c) (s := s) (W := W) (nx := upd (upto (fun a => stepB s i W a T) a) a (-1)) (by simp (decide := true) (disch := first | omega | rfl) only [↓SD, SP, opE, fget, binA, Nat.reduceEqDiff, reduceIte, again, stepV, wanted, resE, resL, resU, wr, rd, known, fillE, U.cells, k0]) (by simp (decide := true) (disch := first | omega | rfl) only [↓SD, SP, opE, fget, binA, Nat.reduceEqDiff, reduceIte, again, stepV, wanted, resE, resL, resU, wr, rd, known, fillE, U.cells, k13]) (by simp (decide := true) (disch := first | omega | rfl) only [↓SD, SP, opE, fget, binA, Nat.reduceEqDiff, reduceIte, again, stepV, wanted, resE, resL, resU, wr, rd, known, fillE, U.cells]) (by simp (decide := true) (disch := first | omega | rfl) only [↓SD, SP, opE, fget, binA, Nat.reduceEqDiff, reduceIte, again, stepV, wanted, resE, resL, resU, wr, rd, known, fillE, U.cells, k14]) (by simp (decide := true) (disch := first | omega | rfl) only [↓SD, SP, opE, fget, binA, Nat.reduceEqDiff, reduceIte, again, stepV, wanted, resE, resL, resU, wr, rd, known, fillE, U.cells]) (by simp (decide := true) (disch := first | omega | rfl) only [↓SD, SP, opE, fget, binA, Nat.reduceEqDiff, reduceIte, again, stepV, wanted, resE, resL, resU, wr, rd, known, fillE, U.cells]) (by simp (decide := true) (disch := first | omega | rfl) only [↓SD, SP, opE, fget, binA, Nat.reduceEqDiff, reduceIte, again, stepV, wanted, resE, resL, resU, wr, rd, known, fillE, U.cells]) (by rw [List.getElem?_set_ne (Ne.symm d)]; exact hwq) hw (by simp (decide := true) (disch := first | omega | rfl) only [↓SD, SP, opE, fget, binA, Nat.reduceEqDiff, reduceIte, again, stepV, wanted, resE, resL, resU, wr, rd, known, fillE, U.cells]) d hi (by omega) hT upd_same hW).mono ?_
    rintro e f' q2 ⟨rfl, hu2, hn2, hk2⟩
    have k45 := hk2 45 (by decide)
    simp (decide := true) only [↓SD, SP, opE, fget, binA, Nat.reduceEqDiff, reduceIte, again, stepV, wanted, resE, resL, resU, wr, rd, known, fillE, U.cells, h45] at k45
    simp (decide := true) (disch := first | omega | rfl) only [↓SD, SP, opE, fget, binA, Nat.reduceEqDiff, reduceIte, again, stepV, wanted, resE, resL, resU, wr, rd, known, fillE, U.cells, k45]
    refine ⟨by omega, by simp, (by (repeat (refine Keep.set ?_ (by decide))); exact Keep.trans (L := slotsP2) (by (repeat (refine Keep.set ?_ (by decide))); exact hk) hk2 (by decide)), (hu.set (by simp)).trans hu2, ?_⟩
    rw [hn2, upd_upd, upto_upd rfl]
  · have h := of_decide_eq_false hb
    have : a = T + 1 := by omega
    subst this
    simp (decide := true) (disch := first | omega | rfl) only [↓SD, SP, opE, fget, binA, Nat.reduceEqDiff, reduceIte, again, stepV, wanted, resE, resL, resU, wr, rd, known, fillE, U.cells]
    exact ⟨hu, by rw [hn, upto_all], (by (repeat (refine Keep.set ?_ (by decide))); exact hk)⟩

abbrev slotsP1 : List Nat := 11 :: 13 :: 14 :: 15 :: 16 :: 17 :: List.range' 35 72

set_option maxHeartbeats 1000000 in
theorem coRepaint_L1 {T frm : Nat} {s : List UInt8} {before last : Int} {fr : Fr} {m q : Mem} (h0 : fget fr 0 = V.s s) (h1 : fget fr 1 = V.i T) (h2 : fget fr 2 = V.i frm) (h3 : fget fr 3 = V.i before) (h13 : fget fr 13 = V.i ((s.length : Int) - 1))
    (h11 : ∃ bw c w, fget fr 11 = V.a (.sl bw 0 T c) ∧ q[bw]? = some (.cells true (ints w (bL (repT s T) s.length last 0))) ∧ T ≤ w) (he : Ext m q) (hf : frm ≤ s.length) (hbf : before < 0 → frm < s.length) (hs : s.length ≤ 20) (hT : T ≤ 5) :
    Wc G (.loop spec_coRepaint_L1) (fun e f' q' => Ext m q' ∧ ((before < 0 ∧ e = .ret ∧ fget f' 10 = V.i (bL (repT s T) s.length last (s.length - frm) T)) ∨
      (¬ before < 0 ∧ e = .exit 2 ∧ Keep slotsP1 fr f' ∧ ∃ bw c w, fget f' 11 = V.a (.sl bw 0 T c) ∧ q'[bw]? = some (.cells true (ints w (bL (repT s T) s.length last (s.length - frm)))) ∧ T ≤ w))) fr q := by
  have hub : ∀ k, k ≤ 20 → ∀ a, -1 ≤ bL (repT s T) s.length last k a ∧ bL (repT s T) s.length last k a ≤ 10000 := by
    intro k hk a
    have h1 := (bL_least (n := s.length) (but := last) (fun j => (rep_costs (s := s) (tn := T)).nn j) k a).2.2
    have h2 := bL_ub (n := s.length) (but := last) (rep_costs (s := s) (tn := T)) k a
    omega
  refine Wc.loopN (fun k f q' => fget f 13 = V.i ((s.length : Int) - 1 - k) ∧ Keep slotsP1 fr f ∧ Ext m q' ∧ (before < 0 → k < s.length - frm) ∧ (∃ bw c w, fget f 11 = V.a (.sl bw 0 T c) ∧ q'[bw]? = some (.cells true (ints w (bL (repT s T) s.length last k))) ∧ T ≤ w)) (s.length - frm) (fun k f q' hk0 hS => ?_) ⟨by rw [h13, Int.natCast_zero, Int.sub_zero], Keep.refl, he, fun h => by have := hbf h; omega, h11⟩
  obtain ⟨h13, hk, he, hbk, bw, c, w, h11, hw, hTw⟩ := hS
  have k0 := (hk 0 (by decide)).trans h0; have k1 := (hk 1 (by decide)).trans h1; have k2 := (hk 2 (by decide)).trans h2; have k3 := (hk 3 (by decide)).trans h3
  have lw := lt_of_get hw
  unfold spec_coRepaint_L1
  simp (decide := true) (disch := first | omega | rfl) only [↓SD, SP, opE, fget, binA, Nat.reduceEqDiff, reduceIte, again, stepV, wanted, resE, resL, resU, wr, rd, known, fillE, U.cells, h13, k2]
  refine ⟨fun hb => ?_, fun hb => ?_⟩
  · have h := of_decide_eq_true hb
    have ei : (s.length : Int) - 1 - k = ((s.length - 1 - k : Nat) : Int) := by omega
    have eT : ((T : Int) + 1).toNat = T + 1 := by omega
    simp (decide := true) (disch := first | omega | rfl) only [↓SD, SP, opE, fget, binA, Nat.reduceEqDiff, reduceIte, again, stepV, wanted, resE, resL, resU, wr, rd, known, fillE, U.cells, h13, k1, eT]
    refine (coRepaint_L2 (bw := bw) (bn := q'.length) (T := T) (w := w) (i := s.length - 1 - k) (c := c) (s := s) (W := bL (repT s T) s.length last k) (by simp (decide := true) (disch := first | omega | rfl) only [↓SD, SP, opE, fget, binA, Nat.reduceEqDiff, reduceIte, again, stepV, wanted, resE, resL, resU, wr, rd, known, fillE, U.cells, k0]) (by simp (decide := true) (disch := first | omega | rfl) only [↓SD, SP, opE, fget, binA, Nat.reduceEqDiff, reduceIte, again, stepV, wanted, resE, resL, resU, wr, rd, known, fillE, U.cells, h13, ei]) (by simp (decide := true) (disch := first | omega | rfl) only [↓SD, SP, opE, fget, binA, Nat.reduceEqDiff, reduceIte, again, stepV, wanted, resE, resL, resU, wr, rd, known, fillE, U.cells, h11]) (by simp (decide := true) (disch := first | omega | rfl) only [↓SD, SP, opE, fget, binA, Nat.reduceEqDiff, reduceIte, again, stepV, wanted, resE, resL, resU, wr, rd, known, fillE, U.cells]) (by simp (decide := true) (disch := first | omega | rfl) only [↓SD, SP, opE, fget, binA, Nat.reduceEqDiff, reduceIte, again, stepV, wanted, resE, resL, resU, wr, rd, known, fillE, U.cells]) (by simp (decide := true) (disch := first | omega | rfl) only [↓SD, SP, opE, fget, binA, Nat.reduceEqDiff, reduceIte, again, stepV, wanted, resE, resL, resU, wr, rd, known, fillE, U.cells]) (by simp (decide := true) (disch := first | omega | rfl) only [↓SD, SP, opE, fget, binA, Nat.reduceEqDiff, reduceIte, again, stepV, wanted, resE, resL, resU, wr, rd, known, fillE, U.cells, hw]) hTw (by simp (decide := true) (disch := first | omega | rfl) only [↓SD, SP, opE, fget, binA, Nat.reduceEqDiff, reduceIte, again, stepV, wanted, resE, resL, resU, wr, rd, known, fillE, U.cells]) (by omega) (by omega) hT (hub k (by omega))).mono ?_
    rintro e f' q2 ⟨rfl, hu2, hn2, hk2⟩
    have j14 := hk2 14 (by decide); have j13 := hk2 13 (by decide); have j2 := hk2 2 (by decide); have j3 := hk2 3 (by decide); have j1 := hk2 1 (by decide)
    simp (decide := true) only [↓SD, SP, opE, fget, binA, Nat.reduceEqDiff, reduceIte, again, stepV, wanted, resE, resL, resU, wr, rd, known, fillE, U.cells, h13, k2, k3, k1] at j14 j13 j2 j3 j1
    have hn3 : q2[q'.length]? = some (.cells true (ints (T + 1) (bL (repT s T) s.length last (k + 1)))) := by
      rw [hn2]; congr 2; apply ints_congr; intro a _; exact (bL_step hT).symm
    have he2 : Ext m q2 := Upd.ext (he.trans (Ext.push _ _)) hu2 (by intro b hb; have := he.1; simp at hb; omega)
    by_cases hfi : (s.length : Int) - 1 - k = frm
    · have hfb : (((s.length : Int) - 1 - k) == (frm : Int)) = true := by rw [beq_iff_eq]; exact hfi
      by_cases hneg : before < 0
      · have hnb : decide (before < 0) = true := decide_eq_true hneg
        have hk1 : s.length - frm = k + 1 := by omega
        simp (decide := true) (disch := first | omega | rfl) only [↓SD, SP, opE, fget, binA, Nat.reduceEqDiff, reduceIte, again, stepV, wanted, resE, resL, resU, wr, rd, known, fillE, U.cells, j14, j13, j2, j3, j1, hfb, hnb, hn3]
        exact ⟨he2, .inl ⟨hneg, by rw [hk1]⟩⟩
      · have hnb : decide (before < 0) = false := decide_eq_false hneg
        simp (decide := true) (disch := first | omega | rfl) only [↓SD, SP, opE, fget, binA, Nat.reduceEqDiff, reduceIte, again, stepV, wanted, resE, resL, resU, wr, rd, known, fillE, U.cells, j14, j13, j2, j3, j1, hfb, hnb, bnd, ite_self]
        refine ⟨by omega, congrArg V.i (by omega), (by (repeat (refine Keep.set ?_ (by decide))); exact Keep.trans (L := slotsP1) (by (repeat (refine Keep.set ?_ (by decide))); exact hk) hk2 (by decide)), he2, fun h => absurd h hneg, q'.length, _, T + 1, rfl, hn3, by omega⟩
    · have hfb : (((s.length : Int) - 1 - k) == (frm : Int)) = false := by rw [beq_eq_false_iff_ne]; exact hfi
      simp (decide := true) (disch := first | omega | rfl) only [↓SD, SP, opE, fget, binA, Nat.reduceEqDiff, reduceIte, again, stepV, wanted, resE, resL, resU, wr, rd, known, fillE, U.cells, j14, j13, j2, j3, j1, hfb, bnd, ite_self]
      refine ⟨by omega, congrArg V.i (by omega), (by (repeat (refine Keep.set ?_ (by decide))); exact Keep.trans (L := slotsP1) (by (repeat (refine Keep.set ?_ (by decide))); exact hk) hk2 (by decide)), he2, fun h => by omega, q'.length, _, T + 1, rfl, hn3, by omega⟩
  · have h := of_decide_eq_false hb
    have : k = s.length - frm := by omega
    subst this
    simp (decide := true) (disch := first | omega | rfl) only [↓SD, SP, opE, fget, binA, Nat.reduceEqDiff, reduceIte, again, stepV, wanted, resE, resL, resU, wr, rd, known, fillE, U.cells, h11]
    exact ⟨he, .inr ⟨fun h => by have := hbk h; omega, (by (repeat (refine Keep.set ?_ (by decide))); exact hk), bw, c, w, rfl, hw, hTw⟩⟩

theorem coRepaint_L0 {bw T : Nat} {last : Int} {X : Nat → Int} {n : Nat} {fr : Fr} {q : Mem} (hX : ∀ j : Nat, X j = if (j : Int) = last then -1 else 0) (h4 : fget fr 4 = V.i last) (h11 : fget fr 11 = V.a (.sl bw 0 T (.ex T))) (h21 : fget fr 21 = V.i T) (h22 : fget fr 22 = V.i 0)
    (qw : q[bw]? = some (.cells true (ints T (fun _ => 0)))) (hT : T ≤ 5) :
    Wc G (.loop spec_coRepaint_L0) (fun e f' q' => e = .exit 0 ∧ Upd [bw] q q' ∧ q'[bw]? = some (.cells true (ints T X)) ∧ Keep (12 :: List.range' 22 10) fr f') fr q := by
  refine Wc.loopN (fun j f q' => fget f 22 = V.i j ∧ Keep (12 :: List.range' 22 10) fr f ∧ Upd [bw] q q' ∧ q'[bw]? = some (.cells true (ints T (upto X j)))) T (fun j f q' hj0 hS => ?_) ⟨h22, Keep.refl, Upd.refl, by rw [qw, upto_zero]⟩
  obtain ⟨h22, hk, hu, hw⟩ := hS
  have k4 := (hk 4 (by decide)).trans h4; have k11 := (hk 11 (by decide)).trans h11; have k21 := (hk 21 (by decide)).trans h21
  have lw := lt_of_get hw
  unfold spec_coRepaint_L0
  simp (decide := true) (disch := first | omega | rfl) only [↓SD, SP, opE, fget, binA, Nat.reduceEqDiff, reduceIte, again, stepV, wanted, resE, resL, resU, wr, rd, known, fillE, U.cells, h22, k21]
  refine ⟨fun hb => ?_, fun hb => ?_⟩
  · have h := of_decide_eq_true hb
    simp (decide := true) (disch := first | omega | rfl) only [↓SD, SP, opE, fget, binA, Nat.reduceEqDiff, reduceIte, again, stepV, wanted, resE, resL, resU, wr, rd, known, fillE, U.cells, h22, k4, k11, hw]
    refine ⟨fun hb => ?_, fun hb => ?_⟩
    · have e1 : X j = -1 := by rw [hX, if_pos (by simpa using hb)]
      simp (decide := true) (disch := first | omega | rfl) only [↓SD, SP, opE, fget, binA, Nat.reduceEqDiff, reduceIte, again, stepV, wanted, resE, resL, resU, wr, rd, known, fillE, U.cells, h22, k4, k11, hw, upd_upd]
      exact ⟨by omega, by simp, (by (repeat (refine Keep.set ?_ (by decide))); exact hk), (by (repeat (refine Upd.set ?_ (by simp))); exact hu), by rw [upto_upd e1]⟩
    · have e1 : X j = 0 := by rw [hX, if_neg (by simpa using hb)]
      simp (decide := true) (disch := first | omega | rfl) only [↓SD, SP, opE, fget, binA, Nat.reduceEqDiff, reduceIte, again, stepV, wanted, resE, resL, resU, wr, rd, known, fillE, U.cells, h22]
      exact ⟨by omega, by simp, (by (repeat (refine Keep.set ?_ (by decide))); exact hk), hu, by rw [hw, upto_zero_at e1]⟩
  · have h := of_decide_eq_false hb
    have : j = T := by omega
    subst this
    simp (decide := true) (disch := first | omega | rfl) only [↓SD, SP, opE, fget, binA, Nat.reduceEqDiff, reduceIte, again, stepV, wanted, resE, resL, resU, wr, rd, known, fillE, U.cells]
    exact ⟨hu, by rw [hw, upto_all], (by (repeat (refine Keep.set ?_ (by decide))); exact hk)⟩

/-- What coRepaint gives. -/
def repV (s : List UInt8) (T frm : Nat) (before last : Int) : Int := if before < 0 then bL (repT s T) s.length last (s.length - frm) T else bL (repT s T) s.length last (s.length - frm) before.toNat

theorem coRepaint_ok (hG : G 892 = some (.code spec_coRepaint)) {m : Mem} {s : List UInt8} {T frm : Nat} {before last : Int} (hf : frm ≤ s.length) (hbf : before < 0 → frm < s.length) (hs : s.length ≤ 20) (hT : T ≤ 5) (hb : before < T) :
    Rn G 892 [V.s s, V.i T, V.i frm, V.i before, V.i last] m fun v m' => v = V.i (repV s T frm before last) ∧ Ext m m' := by
  refine Rn.code hG ?_
  unfold spec_coRepaint
  simp (decide := true) (disch := first | omega | rfl) only [↓SD, SP, opE, fget, binA, Nat.reduceEqDiff, reduceIte, again, stepV, wanted, resE, resL, resU, wr, rd, known, fillE, U.cells]
  refine (coRepaint_L0 (bw := m.length) (T := T) (last := last) (X := bL (repT s T) s.length last 0) (n := 0) (fun j => rfl) (by simp (decide := true) (disch := first | omega | rfl) only [↓SD, SP, opE, fget, binA, Nat.reduceEqDiff, reduceIte, again, stepV, wanted, resE, resL, resU, wr, rd, known, fillE, U.cells]) (by simp (decide := true) (disch := first | omega | rfl) only [↓SD, SP, opE, fget, binA, Nat.reduceEqDiff, reduceIte, again, stepV, wanted, resE, resL, resU, wr, rd, known, fillE, U.cells]) (by simp (decide := true) (disch := first | omega | rfl) only [↓SD, SP, opE, fget, binA, Nat.reduceEqDiff, reduceIte, again, stepV, wanted, resE, resL, resU, wr, rd, known, fillE, U.cells]) (by simp (decide := true) (disch := first | omega | rfl) only [↓SD, SP, opE, fget, binA, Nat.reduceEqDiff, reduceIte, again, stepV, wanted, resE, resL, resU, wr, rd, known, fillE, U.cells]) (by simp (decide := true) (disch := first | omega | rfl) only [↓SD, SP, opE, fget, binA, Nat.reduceEqDiff, reduceIte, again, stepV, wanted, resE, resL, resU, wr, rd, known, fillE, U.cells]) hT).mono ?_
  rintro e f q ⟨rfl, hu, hw, hk⟩
  have he : Ext m q := Upd.ext (Ext.push _ _) hu (by intro b hb; simp at hb; omega)
  have j0 := hk 0 (by decide); have j1 := hk 1 (by decide); have j2 := hk 2 (by decide); have j3 := hk 3 (by decide); have j11 := hk 11 (by decide)
  simp (decide := true) only [↓SD, SP, opE, fget, binA, Nat.reduceEqDiff, reduceIte, again, stepV, wanted, resE, resL, resU, wr, rd, known, fillE, U.cells] at j0 j1 j2 j3 j11
  simp (decide := true) (disch := first | omega | rfl) only [↓SD, SP, opE, fget, binA, Nat.reduceEqDiff, reduceIte, again, stepV, wanted, resE, resL, resU, wr, rd, known, fillE, U.cells, j0]
  refine (coRepaint_L1 (T := T) (frm := frm) (s := s) (before := before) (last := last) (m := m) (by simp (decide := true) (disch := first | omega | rfl) only [↓SD, SP, opE, fget, binA, Nat.reduceEqDiff, reduceIte, again, stepV, wanted, resE, resL, resU, wr, rd, known, fillE, U.cells, j0]) (by simp (decide := true) (disch := first | omega | rfl) only [↓SD, SP, opE, fget, binA, Nat.reduceEqDiff, reduceIte, again, stepV, wanted, resE, resL, resU, wr, rd, known, fillE, U.cells, j1]) (by simp (decide := true) (disch := first | omega | rfl) only [↓SD, SP, opE, fget, binA, Nat.reduceEqDiff, reduceIte, again, stepV, wanted, resE, resL, resU, wr, rd, known, fillE, U.cells, j2]) (by simp (decide := true) (disch := first | omega | rfl) only [↓SD, SP, opE, fget, binA, Nat.reduceEqDiff, reduceIte, again, stepV, wanted, resE, resL, resU, wr, rd, known, fillE, U.cells, j3]) (by simp (decide := true) (disch := first | omega | rfl) only [↓SD, SP, opE, fget, binA, Nat.reduceEqDiff, reduceIte, again, stepV, wanted, resE, resL, resU, wr, rd, known, fillE, U.cells]) ⟨m.length, .ex T, T, by simp (decide := true) (disch := first | omega | rfl) only [↓SD, SP, opE, fget, binA, Nat.reduceEqDiff, reduceIte, again, stepV, wanted, resE, resL, resU, wr, rd, known, fillE, U.cells, j11], hw, Nat.le_refl _⟩ he hf hbf hs hT).mono ?_
  rintro e f2 q2 ⟨he2, ⟨hneg, rfl, h10⟩ | ⟨hneg, rfl, hk2, bw, c, w, h11, hw2, hTw⟩⟩
  · simp (decide := true) (disch := first | omega | rfl) only [↓SD, SP, opE, fget, binA, Nat.reduceEqDiff, reduceIte, again, stepV, wanted, resE, resL, resU, wr, rd, known, fillE, U.cells, h10]
    exact ⟨_, rfl, by unfold repV; rw [if_pos hneg], he2⟩
  · obtain ⟨bt, rfl⟩ := Int.eq_ofNat_of_zero_le (show 0 ≤ before by omega)
    have i3 := hk2 3 (by decide)
    simp (decide := true) only [↓SD, SP, opE, fget, binA, Nat.reduceEqDiff, reduceIte, again, stepV, wanted, resE, resL, resU, wr, rd, known, fillE, U.cells, j3] at i3
    simp (decide := true) (disch := first | omega | rfl) only [↓SD, SP, opE, fget, binA, Nat.reduceEqDiff, reduceIte, again, stepV, wanted, resE, resL, resU, wr, rd, known, fillE, U.cells, h11, i3, hw2]
    exact ⟨_, rfl, by unfold repV; rw [if_neg hneg]; rfl, he2⟩
end Go.AL
