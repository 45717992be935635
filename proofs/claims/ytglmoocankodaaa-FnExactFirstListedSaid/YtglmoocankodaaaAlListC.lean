/-
  What the reference counts of lists.
-/
import Derived.Test.YtglmoocankodaaaAlListM
namespace Go.AL
set_option linter.unusedSimpArgs false
set_option linter.unusedVariables false
open F
set_option linter.unusedSimpArgs false
set_option linter.unusedVariables false
variable {G : Env}

/-- A part of a list in memory: k texts from place o on. -/
structure Part (q : Mem) (b o k N : Nat) (f : Nat → List UInt8) : Prop where
  blk : 0 < k → ∃ w, q[b]? = some (.cells w (strsL N f))
  le : o + k ≤ N
  ok : ∀ i, i < N → listB (f i) = true
theorem Part.ext {q q' : Mem} {b o k N : Nat} {f : Nat → List UInt8} (h : Part q b o k N f) (he : Ext q q') : Part q' b o k N f :=
  ⟨fun hk => by obtain ⟨w, h1⟩ := h.blk hk; exact ⟨w, he.get h1⟩, h.le, h.ok⟩
theorem listB_spec {l : List UInt8} (h : listB l = true) : incB l = true ∧ 1 ≤ l.length ∧ l.length ≤ 5 := by
  unfold listB at h
  simp only [Bool.and_eq_true, decide_eq_true_eq] at h
  exact ⟨h.1, h.2, inc_len h.1⟩

abbrev slotsJ2 : List Nat := 9 :: 10 :: List.range' 27 30
set_option maxHeartbeats 1000000 in
theorem coListed_L2 {b o k N i a bw bn : Nat} {cc : Cap} {f : Nat → List UInt8} {W nx : Nat → Int} {fr : Fr} {q : Mem} (hP : Part q b o k N f) (hik : i < k) (ha : a < 5)
    (f0 : fget fr 0 = V.a (.sl b o k cc)) (f6 : fget fr 6 = V.i i) (f8 : fget fr 8 = V.i a) (f7 : fget fr 7 = V.a (.sl bn 0 5 (.ex 5))) (f5 : fget fr 5 = V.a (.sl bw 0 5 (.ex 5))) (f9 : fget fr 9 = V.i 0)
    (qw : q[bw]? = some (.cells true (ints 5 W))) (qn : q[bn]? = some (.cells true (ints 5 nx))) (d : bw ≠ bn) (db : b ≠ bn) (hn : nx a = 0) (hW : ∀ d, 0 ≤ W d ∧ W d ≤ 100000000000000000) :
    Wc G (.loop spec_coListed_L2) (fun e f' q' => e = .exit 4 ∧ Upd [bn] q q' ∧ q'[bn]? = some (.cells true (ints 5 (upd nx a (pS (f (o + i)) W a (f (o + i)).length)))) ∧ Keep slotsJ2 fr f') fr q := by
  obtain ⟨w, qb⟩ := hP.blk (by omega)
  have hle := hP.le
  obtain ⟨hinc, hl1, hl5⟩ := listB_spec (hP.ok (o + i) (by omega))
  have hcell := strsL_cell (n := N) (f := f) (j := o + i) (by omega)
  have hlen : (strsL N f).length = N := strsL_len
  refine Wc.loopN (fun j f' q' => fget f' 9 = V.i j ∧ Keep slotsJ2 fr f' ∧ Upd [bn] q q' ∧ q'[bn]? = some (.cells true (ints 5 (upd nx a (pS (f (o + i)) W a j))))) (f (o + i)).length (fun j f' q' hj0 hS => ?_) ⟨f9, Keep.refl, Upd.refl, by rw [qn, show pS (f (o + i)) W a 0 = nx a by rw [hn]; rfl, upd_id]⟩
  obtain ⟨h9, hk, hu, hn'⟩ := hS
  have k0 := (hk 0 (by decide)).trans f0; have k6 := (hk 6 (by decide)).trans f6; have k8 := (hk 8 (by decide)).trans f8; have k7 := (hk 7 (by decide)).trans f7; have k5 := (hk 5 (by decide)).trans f5
  have qb' := (hu.2 b (by simp [db])).trans qb; have qw' := (hu.2 bw (by simp [d])).trans qw
  have ln := lt_of_get hn'
  unfold spec_coListed_L2
  simp (decide := true) (disch := first | omega | rfl) only [↓SD, SP, opE, fget, binA, Nat.reduceEqDiff, reduceIte, again, stepV, wanted, resE, resL, resU, wr, rd, known, fillE, U.cells, h9, k0, k6, qb', hcell, hlen]
  refine ⟨fun hb => ?_, fun hb => ?_⟩
  · have hlt := of_decide_eq_true hb
    have hj : j < (f (o + i)).length := by omega
    have hsi : (f (o + i))[j]? = some (f (o + i))[j] := List.getElem?_eq_getElem hj
    have hc := chr_at hj
    obtain ⟨⟨g1, g2⟩, _⟩ := okC_spec (inc_at hinc hj)
    obtain ⟨x, hx⟩ := Int.eq_ofNat_of_zero_le (show 0 ≤ chr (f (o + i)) j - 97 by omega)
    have hx5 : x < 5 := by omega
    have hw8 : IntKind.u8.wrap (((f (o + i))[j].toNat : Int) - 97) = x := by rw [← hc, IntKind.wrap_u8]; omega
    have hwx := hW x
    have hpb := pS_bound (l := f (o + i)) (W := W) (a := a) hW j (by omega)
    have hstep : pS (f (o + i)) W a (j + 1) = if (a : Int) ≠ (x : Int) then pS (f (o + i)) W a j + W x else pS (f (o + i)) W a j := by
      show (if (a : Int) ≠ chr (f (o + i)) j - 97 then pS (f (o + i)) W a j + W (chr (f (o + i)) j - 97).toNat else _) = _
      rw [hx]; rfl
    simp (decide := true) (disch := first | omega | rfl) only [↓SD, SP, opE, fget, binA, Nat.reduceEqDiff, reduceIte, again, stepV, wanted, resE, resL, resU, wr, rd, known, fillE, U.cells, h9, k0, k6, k8, qb', hcell, hlen, hsi, hw8]
    by_cases hax : a = x
    · have hb1 : ((a : Int) != (x : Int)) = false := by rw [bne_eq_false_iff_eq]; omega
      rw [if_neg (by omega)] at hstep
      simp (decide := true) (disch := first | omega | rfl) only [↓SD, SP, opE, fget, binA, Nat.reduceEqDiff, reduceIte, again, stepV, wanted, resE, resL, resU, wr, rd, known, fillE, U.cells, hb1, h9]
      exact ⟨hj, by simp, (by (repeat (refine Keep.set ?_ (by decide))); exact hk), hu, by rw [hn', hstep]⟩
    · have hb1 : ((a : Int) != (x : Int)) = true := by rw [bne_iff_ne]; omega
      rw [if_pos (by omega)] at hstep
      simp (decide := true) (disch := first | omega | rfl) only [↓SD, SP, opE, fget, binA, Nat.reduceEqDiff, reduceIte, again, stepV, wanted, resE, resL, resU, wr, rd, known, fillE, U.cells, hb1, h9, k7, k8, k5, hn', qw', upd_same, upd_upd]
      first
      | exact ⟨hj, by simp, (by (repeat (refine Keep.set ?_ (by decide))); exact hk), (by (repeat (refine Upd.set ?_ (by simp))); exact hu), by rw [hstep]⟩
  · have hlt := of_decide_eq_false hb
    have : j = (f (o + i)).length := by omega
    subst this
    simp (decide := true) (disch := first | omega | rfl) only [↓SD, SP, opE, fget, binA, Nat.reduceEqDiff, reduceIte, again, stepV, wanted, resE, resL, resU, wr, rd, known, fillE, U.cells]
    exact ⟨hu, hn', (by (repeat (refine Keep.set ?_ (by decide))); exact hk)⟩

abbrev slotsJ1 : List Nat := 8 :: 9 :: 10 :: List.range' 24 34
theorem coListed_L1 {b o k N i bw bn : Nat} {cc : Cap} {f : Nat → List UInt8} {W : Nat → Int} {fr : Fr} {q : Mem} (hP : Part q b o k N f) (hik : i < k)
    (f0 : fget fr 0 = V.a (.sl b o k cc)) (f6 : fget fr 6 = V.i i) (f7 : fget fr 7 = V.a (.sl bn 0 5 (.ex 5))) (f5 : fget fr 5 = V.a (.sl bw 0 5 (.ex 5))) (f23 : fget fr 23 = V.i 5) (f24 : fget fr 24 = V.i 0)
    (qw : q[bw]? = some (.cells true (ints 5 W))) (qn : q[bn]? = some (.cells true (ints 5 (fun _ => 0)))) (d : bw ≠ bn) (db : b ≠ bn) (hW : ∀ d, 0 ≤ W d ∧ W d ≤ 100000000000000000) :
    Wc G (.loop spec_coListed_L1) (fun e f' q' => e = .exit 2 ∧ Upd [bn] q q' ∧ q'[bn]? = some (.cells true (ints 5 (fun a => pS (f (o + i)) W a (f (o + i)).length))) ∧ Keep slotsJ1 fr f') fr q := by
  refine Wc.loopN (fun a f' q' => fget f' 24 = V.i a ∧ Keep slotsJ1 fr f' ∧ Upd [bn] q q' ∧ q'[bn]? = some (.cells true (ints 5 (upto (fun a => pS (f (o + i)) W a (f (o + i)).length) a)))) 5 (fun a f' q' ha0 hS => ?_) ⟨f24, Keep.refl, Upd.refl, by rw [qn, upto_zero]⟩
  obtain ⟨h24, hk, hu, hn⟩ := hS
  have k0 := (hk 0 (by decide)).trans f0; have k6 := (hk 6 (by decide)).trans f6; have k7 := (hk 7 (by decide)).trans f7; have k5 := (hk 5 (by decide)).trans f5; have k23 := (hk 23 (by decide)).trans f23
  have qw' := (hu.2 bw (by simp [d])).trans qw
  have hP' : Part q' b o k N f := ⟨fun h => by obtain ⟨w, h1⟩ := hP.blk h; exact ⟨w, (hu.2 b (by simp [db])).trans h1⟩, hP.le, hP.ok⟩
  unfold spec_coListed_L1
  simp (decide := true) (disch := first | omega | rfl) only [↓SD, SP, opE, fget, binA, Nat.reduceEqDiff, reduceIte, again, stepV, wanted, resE, resL, resU, wr, rd, known, fillE, U.cells, h24, k23]
  refine ⟨fun hb => ?_, fun hb => ?_⟩
  · have hlt := of_decide_eq_true hb
    simp (decide := true) (disch := first | omega | rfl) only [↓SD, SP, opE, fget, binA, Nat.reduceEqDiff, reduceIte, again, stepV, wanted, resE, resL, resU, wr, rd, known, fillE, U.cells, h24]
    refine (coListed_L2 (b := b) (o := o) (k := k) (N := N) (i := i) (a := a) (bw := bw) (bn := bn) (f := f) (W := W) (nx := upto (fun a => pS (f (o + i)) W a (f (o + i)).length) a) hP' hik (by omega) (by simp (decide := true) (disch := first | omega | rfl) only [↓SD, SP, opE, fget, binA, Nat.reduceEqDiff, reduceIte, again, stepV, wanted, resE, resL, resU, wr, rd, known, fillE, U.cells, k0]; rfl) (by simp (decide := true) (disch := first | omega | rfl) only [↓SD, SP, opE, fget, binA, Nat.reduceEqDiff, reduceIte, again, stepV, wanted, resE, resL, resU, wr, rd, known, fillE, U.cells, k6]) (by simp (decide := true) (disch := first | omega | rfl) only [↓SD, SP, opE, fget, binA, Nat.reduceEqDiff, reduceIte, again, stepV, wanted, resE, resL, resU, wr, rd, known, fillE, U.cells]) (by simp (decide := true) (disch := first | omega | rfl) only [↓SD, SP, opE, fget, binA, Nat.reduceEqDiff, reduceIte, again, stepV, wanted, resE, resL, resU, wr, rd, known, fillE, U.cells, k7]) (by simp (decide := true) (disch := first | omega | rfl) only [↓SD, SP, opE, fget, binA, Nat.reduceEqDiff, reduceIte, again, stepV, wanted, resE, resL, resU, wr, rd, known, fillE, U.cells, k5]) (by simp (decide := true) (disch := first | omega | rfl) only [↓SD, SP, opE, fget, binA, Nat.reduceEqDiff, reduceIte, again, stepV, wanted, resE, resL, resU, wr, rd, known, fillE, U.cells]) qw' hn d db upto_self hW).mono ?_
    rintro e f2 q2 ⟨rfl, hu2, hn2, hk2⟩
    have j24 := hk2 24 (by decide)
    simp (decide := true) only [↓SD, SP, opE, fget, binA, Nat.reduceEqDiff, reduceIte, again, stepV, wanted, resE, resL, resU, wr, rd, known, fillE, U.cells, h24] at j24
    simp (decide := true) (disch := first | omega | rfl) only [↓SD, SP, opE, fget, binA, Nat.reduceEqDiff, reduceIte, again, stepV, wanted, resE, resL, resU, wr, rd, known, fillE, U.cells, j24]
    exact ⟨by omega, by simp, (by (repeat (refine Keep.set ?_ (by decide))); exact Keep.trans (L := slotsJ1) (by (repeat (refine Keep.set ?_ (by decide))); exact hk) hk2 (by decide)), hu.trans hu2, by rw [hn2, upto_upd rfl]⟩
  · have hlt := of_decide_eq_false hb
    have : a = 5 := by omega
    subst this
    simp (decide := true) (disch := first | omega | rfl) only [↓SD, SP, opE, fget, binA, Nat.reduceEqDiff, reduceIte, again, stepV, wanted, resE, resL, resU, wr, rd, known, fillE, U.cells]
    exact ⟨hu, by rw [hn, upto_all], (by (repeat (refine Keep.set ?_ (by decide))); exact hk)⟩

abbrev slotsJ0 : List Nat := 5 :: 6 :: 7 :: 8 :: 9 :: 10 :: List.range' 17 42
theorem coListed_L0 {b o k N bw : Nat} {cc : Cap} {f : Nat → List UInt8} {fr : Fr} {m q : Mem} (hP : Part q b o k N f) (hN : N ≤ 20) (hk1 : 1 ≤ k) (hm : m.length ≤ bw) (hbm : b < m.length) (he : Ext m q)
    (f0 : fget fr 0 = V.a (.sl b o k cc)) (f6 : fget fr 6 = V.i ((k - 1 : Nat) : Int)) (f5 : fget fr 5 = V.a (.sl bw 0 5 (.ex 5)))
    (qw : q[bw]? = some (.cells true (ints 5 (bwd (listT f) (o + k) (-1) 0)))) :
    Wc G (.loop spec_coListed_L0) (fun e f' q' => e = .exit 0 ∧ Ext m q' ∧ (∃ bw, fget f' 5 = V.a (.sl bw 0 5 (.ex 5)) ∧ q'[bw]? = some (.cells true (ints 5 (bwd (listT f) (o + k) (-1) (k - 1))))) ∧ Part q' b o k N f ∧ Keep slotsJ0 fr f') fr q := by
  refine Wc.loopN (fun r f' q' => fget f' 6 = V.i ((k - 1 - r : Nat) : Int) ∧ Keep slotsJ0 fr f' ∧ Ext m q' ∧ Part q' b o k N f ∧ ∃ bw, fget f' 5 = V.a (.sl bw 0 5 (.ex 5)) ∧ q'[bw]? = some (.cells true (ints 5 (bwd (listT f) (o + k) (-1) r)))) (k - 1) (fun r f' q' hr0 hS => ?_) ⟨f6, Keep.refl, he, hP, bw, f5, qw⟩
  obtain ⟨h6, hk, he, hP, bw, h5, hw⟩ := hS
  have k0 := (hk 0 (by decide)).trans f0
  have lw := lt_of_get hw
  have hle := hP.le
  have hlen := he.1
  unfold spec_coListed_L0
  simp (decide := true) (disch := first | omega | rfl) only [↓SD, SP, opE, fget, binA, Nat.reduceEqDiff, reduceIte, again, stepV, wanted, resE, resL, resU, wr, rd, known, fillE, U.cells, h6]
  refine ⟨fun hb => ?_, fun hb => ?_⟩
  · have hlt := of_decide_eq_true hb
    have z5 : ((5 : Int).toNat) = 5 := rfl
    simp (decide := true) (disch := first | omega | rfl) only [↓SD, SP, opE, fget, binA, Nat.reduceEqDiff, reduceIte, again, stepV, wanted, resE, resL, resU, wr, rd, known, fillE, U.cells, h6, z5]
    have hPn : Part (q' ++ [Blk.cells true (List.replicate 5 [A.int .i64 0]).flatten]) b o k N f := hP.ext (Ext.push _ _)
    refine (coListed_L1 (b := b) (o := o) (k := k) (N := N) (i := k - 1 - r) (bw := bw) (bn := q'.length) (f := f) (W := bwd (listT f) (o + k) (-1) r) (by first | exact hPn | (have := hPn; simpa using this)) (by omega) (by simp (decide := true) (disch := first | omega | rfl) only [↓SD, SP, opE, fget, binA, Nat.reduceEqDiff, reduceIte, again, stepV, wanted, resE, resL, resU, wr, rd, known, fillE, U.cells, k0]; rfl) (by simp (decide := true) (disch := first | omega | rfl) only [↓SD, SP, opE, fget, binA, Nat.reduceEqDiff, reduceIte, again, stepV, wanted, resE, resL, resU, wr, rd, known, fillE, U.cells, h6]) (by simp (decide := true) (disch := first | omega | rfl) only [↓SD, SP, opE, fget, binA, Nat.reduceEqDiff, reduceIte, again, stepV, wanted, resE, resL, resU, wr, rd, known, fillE, U.cells]) (by simp (decide := true) (disch := first | omega | rfl) only [↓SD, SP, opE, fget, binA, Nat.reduceEqDiff, reduceIte, again, stepV, wanted, resE, resL, resU, wr, rd, known, fillE, U.cells, h5]) (by simp (decide := true) (disch := first | omega | rfl) only [↓SD, SP, opE, fget, binA, Nat.reduceEqDiff, reduceIte, again, stepV, wanted, resE, resL, resU, wr, rd, known, fillE, U.cells]) (by simp (decide := true) (disch := first | omega | rfl) only [↓SD, SP, opE, fget, binA, Nat.reduceEqDiff, reduceIte, again, stepV, wanted, resE, resL, resU, wr, rd, known, fillE, U.cells]) (by simp (decide := true) (disch := first | omega | rfl) only [↓SD, SP, opE, fget, binA, Nat.reduceEqDiff, reduceIte, again, stepV, wanted, resE, resL, resU, wr, rd, known, fillE, U.cells, hw]) (by simp (decide := true) (disch := first | omega | rfl) only [↓SD, SP, opE, fget, binA, Nat.reduceEqDiff, reduceIte, again, stepV, wanted, resE, resL, resU, wr, rd, known, fillE, U.cells]) (by omega) (by omega) (fun d => bwd_bound' (by omega) d)).mono ?_
    rintro e f2 q2 ⟨rfl, hu2, hn2, hk2⟩
    have j7 := hk2 7 (by decide); have j6 := hk2 6 (by decide)
    simp (decide := true) only [↓SD, SP, opE, fget, binA, Nat.reduceEqDiff, reduceIte, again, stepV, wanted, resE, resL, resU, wr, rd, known, fillE, U.cells, h6, z5] at j7 j6
    simp (decide := true) (disch := first | omega | rfl) only [↓SD, SP, opE, fget, binA, Nat.reduceEqDiff, reduceIte, again, stepV, wanted, resE, resL, resU, wr, rd, known, fillE, U.cells, j7, j6]
    have hrow : ∀ a, bwd (listT f) (o + k) (-1) (r + 1) a = pS (f (o + (k - 1 - r))) (bwd (listT f) (o + k) (-1) r) a (f (o + (k - 1 - r))).length := by
      intro a
      have e1 : o + k - 1 - r = o + (k - 1 - r) := by omega
      have := bwd_row (f := f) (n := o + k) (k := r) (a := a) (by rw [e1]; exact (listB_spec (hP.ok _ (by omega))).1)
      rw [e1] at this; exact this
    refine ⟨by omega, by congr 3; omega, (by (repeat (refine Keep.set ?_ (by decide))); exact Keep.trans (L := slotsJ0) (by (repeat (refine Keep.set ?_ (by decide))); exact hk) hk2 (by decide)), Upd.ext (he.trans (Ext.push _ _)) hu2 (by intro b hb; simp at hb; omega), ?_, q'.length, rfl, ?_⟩
    · exact ⟨fun h => by obtain ⟨w, h1⟩ := hPn.blk h; exact ⟨w, (hu2.2 b (by simp; omega)).trans (by first | exact h1 | simpa using h1)⟩, hP.le, hP.ok⟩
    · rw [hn2]; congr 2; exact ints_congr fun a _ => (hrow a).symm
  · have hlt := of_decide_eq_false hb
    have : r = k - 1 := by omega
    subst this
    simp (decide := true) (disch := first | omega | rfl) only [↓SD, SP, opE, fget, binA, Nat.reduceEqDiff, reduceIte, again, stepV, wanted, resE, resL, resU, wr, rd, known, fillE, U.cells]
    exact ⟨he, ⟨bw, h5, hw⟩, hP, (by (repeat (refine Keep.set ?_ (by decide))); exact hk)⟩
end Go.AL
