/-
  Desks: what they weigh, their copies, what is compared; IsDesk.
-/
import Derived.Test.YtaamjlckaakenaaAlDeskC
namespace Go.AL
set_option linter.unusedSimpArgs false
set_option linter.unusedVariables false
open F
set_option linter.unusedSimpArgs false
set_option linter.unusedVariables false
variable {G : Env}

theorem szStringS2_ok (hG : G 122 = some (.code laws_szStringS)) {m : Mem} {v : V} {n : Nat} {f : Nat → List UInt8} {x0 : Int} (h : TxL m v n f) (hn : n ≤ 9223372036854775807) (hf : ∀ i, (f i).length ≤ 9223372036854775807) (hx0 : 0 ≤ x0 ∧ x0 ≤ 1048576) :
    Rn G 122 [v, V.i x0] m fun r m' => (∃ x : Int, r = V.i x ∧ (0 ≤ x → n ≤ 1048576 ∧ x ≤ 1048576)) ∧ m' = m := by
  refine Rn.code hG ?_
  unfold laws_szStringS
  rcases h with ⟨rfl, rfl⟩ | ⟨b, w, cap, c, rfl, hle, hq⟩
  · have hd : decide (x0 - 0 < 0) = false := decide_eq_false (by omega)
    simp (decide := true) (disch := first | omega | rfl) only [↓SD, SP, opE, fget, binA, Nat.reduceEqDiff, reduceIte, again, stepV, wanted, resE, resL, resU, wr, rd, known, fillE, U.cells, hd]
    refine Wc.loopN (fun i f q => fget f 5 = V.i 0 ∧ fget f 0 = V.a .nils ∧ fget f 1 = V.i (x0 - 0) ∧ q = m) 0 (fun i f q hil hS => ?_) ⟨(by simp (decide := true) (disch := first | omega | rfl) only [↓SD, SP, opE, fget, binA, Nat.reduceEqDiff, reduceIte, again, stepV, wanted, resE, resL, resU, wr, rd, known, fillE, U.cells]; try rfl), (by simp (decide := true) (disch := first | omega | rfl) only [↓SD, SP, opE, fget, binA, Nat.reduceEqDiff, reduceIte, again, stepV, wanted, resE, resL, resU, wr, rd, known, fillE, U.cells]; try rfl), (by simp (decide := true) (disch := first | omega | rfl) only [↓SD, SP, opE, fget, binA, Nat.reduceEqDiff, reduceIte, again, stepV, wanted, resE, resL, resU, wr, rd, known, fillE, U.cells]; try rfl), rfl⟩
    obtain ⟨h5, h0, h1, rfl⟩ := hS
    unfold laws_szStringS_L0
    simp (decide := true) (disch := first | omega | rfl) only [↓SD, SP, opE, fget, binA, Nat.reduceEqDiff, reduceIte, again, stepV, wanted, resE, resL, resU, wr, rd, known, fillE, U.cells, h5, h0, h1]
    exact ⟨_, rfl, _, rfl, fun _ => by omega⟩
  · simp (decide := true) (disch := first | omega | rfl) only [↓SD, SP, opE, fget, binA, Nat.reduceEqDiff, reduceIte, again, stepV, wanted, resE, resL, resU, wr, rd, known, fillE, U.cells]
    refine ⟨fun hb => ?_, fun hb => ?_⟩
    · have hlt := of_decide_eq_true hb
      simp (decide := true) (disch := first | omega | rfl) only [↓SD, SP, opE, fget, binA, Nat.reduceEqDiff, reduceIte, again, stepV, wanted, resE, resL, resU, wr, rd, known, fillE, U.cells]
      exact ⟨_, rfl, _, rfl, fun h => by omega⟩
    · have hge := of_decide_eq_false hb
      simp (decide := true) (disch := first | omega | rfl) only [↓SD, SP, opE, fget, binA, Nat.reduceEqDiff, reduceIte, again, stepV, wanted, resE, resL, resU, wr, rd, known, fillE, U.cells]
      refine Wc.loopN (fun i f' q => fget f' 5 = V.i i ∧ fget f' 0 = V.a (.sl b 0 n c) ∧ (∃ x : Int, fget f' 1 = V.i x ∧ 0 ≤ x ∧ x ≤ 1048576) ∧ q = m) n (fun i f' q hil hS => ?_) ⟨(by simp (decide := true) (disch := first | omega | rfl) only [↓SD, SP, opE, fget, binA, Nat.reduceEqDiff, reduceIte, again, stepV, wanted, resE, resL, resU, wr, rd, known, fillE, U.cells]; try rfl), (by simp (decide := true) (disch := first | omega | rfl) only [↓SD, SP, opE, fget, binA, Nat.reduceEqDiff, reduceIte, again, stepV, wanted, resE, resL, resU, wr, rd, known, fillE, U.cells]; try rfl), ⟨_, (by simp (decide := true) (disch := first | omega | rfl) only [↓SD, SP, opE, fget, binA, Nat.reduceEqDiff, reduceIte, again, stepV, wanted, resE, resL, resU, wr, rd, known, fillE, U.cells]; try rfl), by omega, by omega⟩, rfl⟩
      obtain ⟨h5, h0, ⟨x, h1, hx0, hx1⟩, rfl⟩ := hS
      unfold laws_szStringS_L0
      simp (decide := true) (disch := first | omega | rfl) only [↓SD, SP, opE, fget, binA, Nat.reduceEqDiff, reduceIte, again, stepV, wanted, resE, resL, resU, wr, rd, known, fillE, U.cells, h5, h0]
      refine ⟨fun hb => ?_, fun hb => ?_⟩
      · have hlt := of_decide_eq_true hb
        have hq' := hq (by omega)
        have hcell := strsL_cell (n := cap) (f := f) (j := i) (by omega)
        have hlen : (strsL cap f).length = cap := strsL_len
        have hfi := hf i
        simp (decide := true) (disch := first | omega | rfl) only [↓SD, SP, opE, fget, binA, Nat.reduceEqDiff, reduceIte, again, stepV, wanted, resE, resL, resU, wr, rd, known, fillE, U.cells, h5, h0, h1, hq', hcell, hlen]
        refine ⟨fun hb => ?_, fun hb => ?_⟩
        · have hneg := of_decide_eq_true hb
          simp (decide := true) (disch := first | omega | rfl) only [↓SD, SP, opE, fget, binA, Nat.reduceEqDiff, reduceIte, again, stepV, wanted, resE, resL, resU, wr, rd, known, fillE, U.cells]
          exact ⟨_, rfl, _, rfl, fun h => by omega⟩
        · have hneg := of_decide_eq_false hb
          simp (decide := true) (disch := first | omega | rfl) only [↓SD, SP, opE, fget, binA, Nat.reduceEqDiff, reduceIte, again, stepV, wanted, resE, resL, resU, wr, rd, known, fillE, U.cells, h5]
          exact ⟨by omega, by simp, h0, ⟨_, rfl, by omega, by omega⟩⟩
      · simp (decide := true) (disch := first | omega | rfl) only [↓SD, SP, opE, fget, binA, Nat.reduceEqDiff, reduceIte, again, stepV, wanted, resE, resL, resU, wr, rd, known, fillE, U.cells, h1]
        exact ⟨_, rfl, _, rfl, fun h => by omega⟩

/-- A desk in memory. -/
structure Dsk (m : Mem) (a1 a2 a3 : A) (n1 n2 n3 : Nat) (f1 f2 : Nat → Int) (f3 : Nat → List UInt8) : Prop where
  rails : TxI m (V.a a1) n1 f1
  heights : TxI m (V.a a2) n2 f2
  land : TxL m (V.a a3) n3 f3
theorem Dsk.ext {m m' : Mem} {a1 a2 a3 : A} {n1 n2 n3 : Nat} {f1 f2 : Nat → Int} {f3 : Nat → List UInt8} (h : Dsk m a1 a2 a3 n1 n2 n3 f1 f2 f3) (he : Ext m m') : Dsk m' a1 a2 a3 n1 n2 n3 f1 f2 f3 :=
  ⟨h.rails.ext he, h.heights.ext he, h.land.ext he⟩

set_option maxHeartbeats 1000000 in
theorem szDesk_ok (h542 : G 542 = some (.code laws_szIntS)) (h122 : G 122 = some (.code laws_szStringS)) (hG : G 65 = some (.code laws_szDesk)) {m : Mem} {s : List UInt8} {a1 a2 a3 : A} {n1 n2 n3 : Nat} {f1 f2 : Nat → Int} {f3 : Nat → List UInt8} (h : Dsk m a1 a2 a3 n1 n2 n3 f1 f2 f3)
    (hs : s.length ≤ 9223372036854775807) (hn1 : n1 ≤ 9223372036854775807) (hn2 : n2 ≤ 9223372036854775807) (hn3 : n3 ≤ 9223372036854775807) (hf : ∀ i, (f3 i).length ≤ 9223372036854775807) :
    Rn G 65 [V.g [.str s, a1, a2, a3], V.i 1048576] m fun r m' => (∃ x : Int, r = V.i x ∧ (0 ≤ x → n1 ≤ 1048576 ∧ n2 ≤ 1048576 ∧ n3 ≤ 1048576)) ∧ Ext m m' := by
  refine Rn.code hG ?_
  unfold laws_szDesk
  have hE : Ext m (m ++ [Blk.cells true [A.str s, a1, a2, a3]]) := Ext.push _ _
  have hD := h.ext hE
  simp (decide := true) (disch := first | omega | rfl) only [↓SD, SP, opE, fget, binA, Nat.reduceEqDiff, reduceIte, again, stepV, wanted, resE, resL, resU, wr, rd, known, fillE, U.cells, List.take_succ_cons, List.take_zero, List.drop_succ_cons]
  refine ⟨fun hb => ?_, fun hb => ?_⟩
  · have h0 := of_decide_eq_true hb
    simp (decide := true) (disch := first | omega | rfl) only [↓SD, SP, opE, fget, binA, Nat.reduceEqDiff, reduceIte, again, stepV, wanted, resE, resL, resU, wr, rd, known, fillE, U.cells]
    exact ⟨_, rfl, ⟨_, rfl, fun h => by omega⟩, hE⟩
  · have h0 := of_decide_eq_false hb
    simp (decide := true) (disch := first | omega | rfl) only [↓SD, SP, opE, fget, binA, Nat.reduceEqDiff, reduceIte, again, stepV, wanted, resE, resL, resU, wr, rd, known, fillE, U.cells, List.take_succ_cons, List.take_zero, List.drop_succ_cons]
    refine Wo.callR (by simp (decide := true) (disch := first | omega | rfl) only [↓SD, SP, opE, fget, binA, Nat.reduceEqDiff, reduceIte, again, stepV, wanted, resE, resL, resU, wr, rd, known, fillE, U.cells]; try rfl) (szIntS_ok h542 hD.rails hn1 (by omega)) ?_
    rintro _ _ ⟨⟨y1, rfl, hy1⟩, rfl⟩
    simp (decide := true) (disch := first | omega | rfl) only [↓SD, SP, opE, fget, binA, Nat.reduceEqDiff, reduceIte, again, stepV, wanted, resE, resL, resU, wr, rd, known, fillE, U.cells]
    refine ⟨fun hb => ?_, fun hb => ?_⟩
    · have g0 := of_decide_eq_true hb
      simp (decide := true) (disch := first | omega | rfl) only [↓SD, SP, opE, fget, binA, Nat.reduceEqDiff, reduceIte, again, stepV, wanted, resE, resL, resU, wr, rd, known, fillE, U.cells]
      exact ⟨_, rfl, ⟨_, rfl, fun h => by omega⟩, hE⟩
    · have g0 := of_decide_eq_false hb
      have hy1' := hy1 (by omega)
      simp (decide := true) (disch := first | omega | rfl) only [↓SD, SP, opE, fget, binA, Nat.reduceEqDiff, reduceIte, again, stepV, wanted, resE, resL, resU, wr, rd, known, fillE, U.cells, List.take_succ_cons, List.take_zero, List.drop_succ_cons]
      refine Wo.callR (by simp (decide := true) (disch := first | omega | rfl) only [↓SD, SP, opE, fget, binA, Nat.reduceEqDiff, reduceIte, again, stepV, wanted, resE, resL, resU, wr, rd, known, fillE, U.cells]; try rfl) (szIntS_ok h542 hD.heights hn2 (by omega)) ?_
      rintro _ _ ⟨⟨y2, rfl, hy2⟩, rfl⟩
      simp (decide := true) (disch := first | omega | rfl) only [↓SD, SP, opE, fget, binA, Nat.reduceEqDiff, reduceIte, again, stepV, wanted, resE, resL, resU, wr, rd, known, fillE, U.cells]
      refine ⟨fun hb => ?_, fun hb => ?_⟩
      · have k0 := of_decide_eq_true hb
        simp (decide := true) (disch := first | omega | rfl) only [↓SD, SP, opE, fget, binA, Nat.reduceEqDiff, reduceIte, again, stepV, wanted, resE, resL, resU, wr, rd, known, fillE, U.cells]
        exact ⟨_, rfl, ⟨_, rfl, fun h => by omega⟩, hE⟩
      · have k0 := of_decide_eq_false hb
        have hy2' := hy2 (by omega)
        simp (decide := true) (disch := first | omega | rfl) only [↓SD, SP, opE, fget, binA, Nat.reduceEqDiff, reduceIte, again, stepV, wanted, resE, resL, resU, wr, rd, known, fillE, U.cells, List.take_succ_cons, List.take_zero, List.drop_succ_cons]
        refine Wo.callR (by simp (decide := true) (disch := first | omega | rfl) only [↓SD, SP, opE, fget, binA, Nat.reduceEqDiff, reduceIte, again, stepV, wanted, resE, resL, resU, wr, rd, known, fillE, U.cells]; try rfl) (szStringS2_ok h122 hD.land hn3 hf (by omega)) ?_
        rintro _ _ ⟨⟨y3, rfl, hy3⟩, rfl⟩
        simp (decide := true) (disch := first | omega | rfl) only [↓SD, SP, opE, fget, binA, Nat.reduceEqDiff, reduceIte, again, stepV, wanted, resE, resL, resU, wr, rd, known, fillE, U.cells]
        refine ⟨fun hb => ?_, fun hb => ?_⟩
        · have j0 := of_decide_eq_true hb
          simp (decide := true) (disch := first | omega | rfl) only [↓SD, SP, opE, fget, binA, Nat.reduceEqDiff, reduceIte, again, stepV, wanted, resE, resL, resU, wr, rd, known, fillE, U.cells]
          exact ⟨_, rfl, ⟨_, rfl, fun h => by omega⟩, hE⟩
        · have j0 := of_decide_eq_false hb
          simp (decide := true) (disch := first | omega | rfl) only [↓SD, SP, opE, fget, binA, Nat.reduceEqDiff, reduceIte, again, stepV, wanted, resE, resL, resU, wr, rd, known, fillE, U.cells]
          exact ⟨_, rfl, ⟨_, rfl, fun h => ⟨hy1'.1, hy2'.1, (hy3 h).1⟩⟩, hE⟩

/-- A desk whose lists are its own. -/
structure Own3 (lo : Nat) (m : Mem) (b1 b2 b3 : Nat) (n1 n2 n3 : Nat) (f1 f2 : Nat → Int) (f3 : Nat → List UInt8) : Prop where
  rails : m[b1]? = some (.cells true (ints n1 f1))
  heights : m[b2]? = some (.cells true (ints n2 f2))
  land : m[b3]? = some (.cells true (strsL n3 f3))
theorem Own3.ext {lo : Nat} {m m' : Mem} {b1 b2 b3 n1 n2 n3 : Nat} {f1 f2 : Nat → Int} {f3 : Nat → List UInt8} (h : Own3 lo m b1 b2 b3 n1 n2 n3 f1 f2 f3) (he : Ext m m') : Own3 lo m' b1 b2 b3 n1 n2 n3 f1 f2 f3 :=
  ⟨he.get h.rails, he.get h.heights, he.get h.land⟩

set_option maxHeartbeats 1000000 in
theorem toDesk_ok (h544 : G 544 = some (.code laws_toIntS)) (h124 : G 124 = some (.code laws_toStringS)) (hG : G 67 = some (.code laws_toDesk)) {m : Mem} {s : List UInt8} {a1 a2 a3 : A} {n1 n2 n3 : Nat} {f1 f2 : Nat → Int} {f3 : Nat → List UInt8} (h : Dsk m a1 a2 a3 n1 n2 n3 f1 f2 f3)
    (hn1 : n1 ≤ 1048576) (hn2 : n2 ≤ 1048576) (hn3 : n3 ≤ 1048576) :
    Rn G 67 [V.g [.str s, a1, a2, a3]] m fun r m' => (∃ b1 b2 b3, r = V.g [.str s, .sl b1 0 n1 (.ex n1), .sl b2 0 n2 (.ex n2), .sl b3 0 n3 (.ex n3)] ∧ Own3 0 m' b1 b2 b3 n1 n2 n3 f1 f2 f3) ∧ Ext m m' := by
  refine Rn.code hG ?_
  unfold laws_toDesk
  simp (decide := true) (disch := first | omega | rfl) only [↓SD, SP, opE, fget, binA, Nat.reduceEqDiff, reduceIte, again, stepV, wanted, resE, resL, resU, wr, rd, known, fillE, U.cells, List.take_succ_cons, List.take_zero, List.drop_succ_cons]
  have eS : ([A.str [], A.nils, A.nils, A.nils].set 0 (A.str s)) = [A.str s, A.nils, A.nils, A.nils] := rfl
  rw [eS]
  have he0 : Ext m (m ++ [Blk.cells true [A.str s, a1, a2, a3]] ++ [Blk.cells true [A.str [], A.nils, A.nils, A.nils]] ++ [Blk.cells true [A.str s, A.nils, A.nils, A.nils]]) := ((Ext.push _ _).trans (Ext.push _ _)).trans (Ext.push _ _)
  have q0 : (m ++ [Blk.cells true [A.str s, a1, a2, a3]] ++ [Blk.cells true [A.str [], A.nils, A.nils, A.nils]] ++ [Blk.cells true [A.str s, A.nils, A.nils, A.nils]])[m.length]? = some (.cells true [A.str s, a1, a2, a3]) := by simp
  have q1 : (m ++ [Blk.cells true [A.str s, a1, a2, a3]] ++ [Blk.cells true [A.str [], A.nils, A.nils, A.nils]] ++ [Blk.cells true [A.str s, A.nils, A.nils, A.nils]])[m.length + 1]? = some (.cells true [A.str [], A.nils, A.nils, A.nils]) := by simp
  have q2 : (m ++ [Blk.cells true [A.str s, a1, a2, a3]] ++ [Blk.cells true [A.str [], A.nils, A.nils, A.nils]] ++ [Blk.cells true [A.str s, A.nils, A.nils, A.nils]])[m.length + 1 + 1]? = some (.cells true [A.str s, A.nils, A.nils, A.nils]) := by rw [List.getElem?_append_right (by simp)]; simp
  generalize (m ++ [Blk.cells true [A.str s, a1, a2, a3]] ++ [Blk.cells true [A.str [], A.nils, A.nils, A.nils]] ++ [Blk.cells true [A.str s, A.nils, A.nils, A.nils]]) = M0 at he0 q0 q1 q2 ⊢
  refine Wo.callR (by simp (decide := true) (disch := first | omega | rfl) only [↓SD, SP, opE, fget, binA, Nat.reduceEqDiff, reduceIte, again, stepV, wanted, resE, resL, resU, wr, rd, known, fillE, U.cells]; try rfl) (toIntS_ok h544 (h.rails.ext he0) hn1) ?_
  rintro _ M1 ⟨⟨b1, rfl, r1, l1⟩, e1⟩
  have q0' := e1.get q0; have q1' := e1.get q1; have q2' := e1.get q2
  have L1 := lt_of_get q2'
  have M0l := lt_of_get q2
  have he1 : Ext m (M1.set (m.length + 1 + 1) (.cells true [A.str s, .sl b1 0 n1 (.ex n1), A.nils, A.nils])) := (he0.trans e1).set (by omega)
  have p0 : (M1.set (m.length + 1 + 1) (.cells true [A.str s, .sl b1 0 n1 (.ex n1), A.nils, A.nils]))[m.length]? = some (.cells true [A.str s, a1, a2, a3]) := by rw [List.getElem?_set_ne (by omega)]; exact q0'
  have p1 : (M1.set (m.length + 1 + 1) (.cells true [A.str s, .sl b1 0 n1 (.ex n1), A.nils, A.nils]))[m.length + 1]? = some (.cells true [A.str [], A.nils, A.nils, A.nils]) := by rw [List.getElem?_set_ne (by omega)]; exact q1'
  have p2 : (M1.set (m.length + 1 + 1) (.cells true [A.str s, .sl b1 0 n1 (.ex n1), A.nils, A.nils]))[m.length + 1 + 1]? = some (.cells true [A.str s, .sl b1 0 n1 (.ex n1), A.nils, A.nils]) := by rw [List.getElem?_set_self L1]
  have pb1 : (M1.set (m.length + 1 + 1) (.cells true [A.str s, .sl b1 0 n1 (.ex n1), A.nils, A.nils]))[b1]? = some (.cells true (ints n1 f1)) := by rw [List.getElem?_set_ne (by omega)]; exact r1
  simp (decide := true) (disch := first | omega | rfl) only [↓SD, SP, opE, fget, binA, Nat.reduceEqDiff, reduceIte, again, stepV, wanted, resE, resL, resU, wr, rd, known, fillE, U.cells, q0', q1', q2', List.take_succ_cons, List.take_zero, List.drop_succ_cons, List.set_cons_succ, List.set_cons_zero]
  generalize (M1.set (m.length + 1 + 1) (.cells true [A.str s, .sl b1 0 n1 (.ex n1), A.nils, A.nils])) = M2 at he1 p0 p1 p2 pb1 ⊢
  refine Wo.callR (by simp (decide := true) (disch := first | omega | rfl) only [↓SD, SP, opE, fget, binA, Nat.reduceEqDiff, reduceIte, again, stepV, wanted, resE, resL, resU, wr, rd, known, fillE, U.cells]; try rfl) (toIntS_ok h544 (h.heights.ext he1) hn2) ?_
  rintro _ M3 ⟨⟨b2, rfl, r2, l2⟩, e3⟩
  have q0'' := e3.get p0; have q1'' := e3.get p1; have q2'' := e3.get p2; have qb1 := e3.get pb1
  have L2 := lt_of_get q2''
  have M2l := lt_of_get p2
  have he2 : Ext m (M3.set (m.length + 1 + 1) (.cells true [A.str s, .sl b1 0 n1 (.ex n1), .sl b2 0 n2 (.ex n2), A.nils])) := (he1.trans e3).set (by omega)
  have t0 : (M3.set (m.length + 1 + 1) (.cells true [A.str s, .sl b1 0 n1 (.ex n1), .sl b2 0 n2 (.ex n2), A.nils]))[m.length]? = some (.cells true [A.str s, a1, a2, a3]) := by rw [List.getElem?_set_ne (by omega)]; exact q0''
  have t1 : (M3.set (m.length + 1 + 1) (.cells true [A.str s, .sl b1 0 n1 (.ex n1), .sl b2 0 n2 (.ex n2), A.nils]))[m.length + 1]? = some (.cells true [A.str [], A.nils, A.nils, A.nils]) := by rw [List.getElem?_set_ne (by omega)]; exact q1''
  have t2 : (M3.set (m.length + 1 + 1) (.cells true [A.str s, .sl b1 0 n1 (.ex n1), .sl b2 0 n2 (.ex n2), A.nils]))[m.length + 1 + 1]? = some (.cells true [A.str s, .sl b1 0 n1 (.ex n1), .sl b2 0 n2 (.ex n2), A.nils]) := by rw [List.getElem?_set_self L2]
  have hb1l : m.length + 1 + 1 < b1 := by omega
  have tb1 : (M3.set (m.length + 1 + 1) (.cells true [A.str s, .sl b1 0 n1 (.ex n1), .sl b2 0 n2 (.ex n2), A.nils]))[b1]? = some (.cells true (ints n1 f1)) := by rw [List.getElem?_set_ne (by omega)]; exact qb1
  have tb2 : (M3.set (m.length + 1 + 1) (.cells true [A.str s, .sl b1 0 n1 (.ex n1), .sl b2 0 n2 (.ex n2), A.nils]))[b2]? = some (.cells true (ints n2 f2)) := by rw [List.getElem?_set_ne (by omega)]; exact r2
  have hb2l : m.length + 1 + 1 < b2 := by omega
  simp (decide := true) (disch := first | omega | rfl) only [↓SD, SP, opE, fget, binA, Nat.reduceEqDiff, reduceIte, again, stepV, wanted, resE, resL, resU, wr, rd, known, fillE, U.cells, q0'', q1'', q2'', List.take_succ_cons, List.take_zero, List.drop_succ_cons, List.set_cons_succ, List.set_cons_zero]
  generalize (M3.set (m.length + 1 + 1) (.cells true [A.str s, .sl b1 0 n1 (.ex n1), .sl b2 0 n2 (.ex n2), A.nils])) = M4 at he2 t0 t1 t2 tb1 tb2 ⊢
  refine Wo.callR (by simp (decide := true) (disch := first | omega | rfl) only [↓SD, SP, opE, fget, binA, Nat.reduceEqDiff, reduceIte, again, stepV, wanted, resE, resL, resU, wr, rd, known, fillE, U.cells]; try rfl) (toStringS_ok h124 (h.land.ext he2) hn3) ?_
  rintro _ M5 ⟨⟨b3, rfl, r3, l3⟩, e5⟩
  have u0 := e5.get t0; have u1 := e5.get t1; have u2 := e5.get t2; have ub1 := e5.get tb1; have ub2 := e5.get tb2
  have L3 := lt_of_get u2
  have M4l := lt_of_get t2
  have L31 := lt_of_get u1
  have hb3l : m.length + 1 + 1 < b3 := by omega
  simp (decide := true) (disch := first | omega | rfl) only [↓SD, SP, opE, fget, binA, Nat.reduceEqDiff, reduceIte, again, stepV, wanted, resE, resL, resU, wr, rd, known, fillE, U.cells, u0, u1, u2, List.take_succ_cons, List.take_zero, List.drop_succ_cons, List.set_cons_succ, List.set_cons_zero]
  refine ⟨_, rfl, ⟨b1, b2, b3, rfl, ⟨?_, ?_, ?_⟩⟩, ((he2.trans e5).set (by omega)).set (by omega)⟩
  · rw [List.getElem?_set_ne (by omega), List.getElem?_set_ne (by omega)]; exact ub1
  · rw [List.getElem?_set_ne (by omega), List.getElem?_set_ne (by omega)]; exact ub2
  · rw [List.getElem?_set_ne (by omega), List.getElem?_set_ne (by omega)]; exact r3

theorem Own3.dsk {lo : Nat} {m : Mem} {b1 b2 b3 n1 n2 n3 : Nat} {f1 f2 : Nat → Int} {f3 : Nat → List UInt8} (h : Own3 lo m b1 b2 b3 n1 n2 n3 f1 f2 f3) : Dsk m (.sl b1 0 n1 (.ex n1)) (.sl b2 0 n2 (.ex n2)) (.sl b3 0 n3 (.ex n3)) n1 n2 n3 f1 f2 f3 :=
  ⟨.inr (.inl ⟨b1, true, n1, _, rfl, Nat.le_refl _, fun _ => h.rails⟩), .inr (.inl ⟨b2, true, n2, _, rfl, Nat.le_refl _, fun _ => h.heights⟩), .inr ⟨b3, true, n3, _, rfl, Nat.le_refl _, fun _ => h.land⟩⟩

set_option maxHeartbeats 1000000 in
theorem eqDesk_ok (h270 : G 270 = some (.code laws_eqIntS)) (h126 : G 126 = some (.code laws_eqStringS)) (hG : G 58 = some (.code laws_eqDesk)) {m : Mem} {s : List UInt8} {b1 b2 b3 c1 c2 c3 n1 n2 n3 : Nat} {f1 f2 : Nat → Int} {f3 : Nat → List UInt8} (h : Own3 0 m b1 b2 b3 n1 n2 n3 f1 f2 f3) (h' : Own3 0 m c1 c2 c3 n1 n2 n3 f1 f2 f3)
    (hn1 : n1 ≤ 1048576) (hn2 : n2 ≤ 1048576) (hn3 : n3 ≤ 1048576) :
    Rn G 58 [V.g [.str s, .sl b1 0 n1 (.ex n1), .sl b2 0 n2 (.ex n2), .sl b3 0 n3 (.ex n3)], V.g [.str s, .sl c1 0 n1 (.ex n1), .sl c2 0 n2 (.ex n2), .sl c3 0 n3 (.ex n3)]] m fun r m' => r = V.b true ∧ Ext m m' := by
  refine Rn.code hG ?_
  unfold laws_eqDesk
  have hE : Ext m (m ++ [Blk.cells true [A.str s, .sl b1 0 n1 (.ex n1), .sl b2 0 n2 (.ex n2), .sl b3 0 n3 (.ex n3)]] ++ [Blk.cells true [A.str s, .sl c1 0 n1 (.ex n1), .sl c2 0 n2 (.ex n2), .sl c3 0 n3 (.ex n3)]]) := (Ext.push _ _).trans (Ext.push _ _)
  have h2 := h.ext hE; have h2' := h'.ext hE
  simp (decide := true) (disch := first | omega | rfl) only [↓SD, SP, opE, fget, binA, Nat.reduceEqDiff, reduceIte, again, stepV, wanted, resE, resL, resU, wr, rd, known, fillE, U.cells, List.take_succ_cons, List.take_zero, List.drop_succ_cons, bne_self_eq_false]
  refine Wo.callR (by simp (decide := true) (disch := first | omega | rfl) only [↓SD, SP, opE, fget, binA, Nat.reduceEqDiff, reduceIte, again, stepV, wanted, resE, resL, resU, wr, rd, known, fillE, U.cells, bne_self_eq_false]; try rfl) (eqIntS_ok h270 h2.rails h2'.rails hn1) ?_
  rintro _ _ ⟨rfl, rfl⟩
  simp (decide := true) (disch := first | omega | rfl) only [↓SD, SP, opE, fget, binA, Nat.reduceEqDiff, reduceIte, again, stepV, wanted, resE, resL, resU, wr, rd, known, fillE, U.cells, List.take_succ_cons, List.take_zero, List.drop_succ_cons, bne_self_eq_false]
  refine Wo.callR (by simp (decide := true) (disch := first | omega | rfl) only [↓SD, SP, opE, fget, binA, Nat.reduceEqDiff, reduceIte, again, stepV, wanted, resE, resL, resU, wr, rd, known, fillE, U.cells, bne_self_eq_false]; try rfl) (eqIntS_ok h270 h2.heights h2'.heights hn2) ?_
  rintro _ _ ⟨rfl, rfl⟩
  simp (decide := true) (disch := first | omega | rfl) only [↓SD, SP, opE, fget, binA, Nat.reduceEqDiff, reduceIte, again, stepV, wanted, resE, resL, resU, wr, rd, known, fillE, U.cells, List.take_succ_cons, List.take_zero, List.drop_succ_cons, bne_self_eq_false]
  refine Wo.callR (by simp (decide := true) (disch := first | omega | rfl) only [↓SD, SP, opE, fget, binA, Nat.reduceEqDiff, reduceIte, again, stepV, wanted, resE, resL, resU, wr, rd, known, fillE, U.cells, bne_self_eq_false]; try rfl) (eqStringS_ok h126 h2.land h2'.land hn3) ?_
  rintro _ _ ⟨rfl, rfl⟩
  simp (decide := true) (disch := first | omega | rfl) only [↓SD, SP, opE, fget, binA, Nat.reduceEqDiff, reduceIte, again, stepV, wanted, resE, resL, resU, wr, rd, known, fillE, U.cells]
  exact ⟨_, rfl, rfl, hE⟩

def deskB (s : List UInt8) (n1 n2 n3 : Nat) (f1 f2 : Nat → Int) (f3 : Nat → List UInt8) : Bool := goodB s && (rowB 1 500 8 n1 f1 && (rowB 0 50 20 n2 f2 && landB n3 f3))

structure DkC (G : Env) : Prop where
  l1In : G 598 = some (.code spec_l1In)
  l1All : G 628 = some (.code spec_l1All)
  stGood : G 715 = some (.code spec_stGood)
  poGood : G 846 = some (.code spec_poGood)
  caGood : G 675 = some (.code spec_caGood)
  fiGood : G 783 = some (.code spec_fiGood)
  fiLetter : G 957 = some (.code spec_fiLetter)
  cnGood : G 543 = some (.code spec_cnGood)
  spec : G 66 = some (.code spec_IsDesk)
structure DkP (G : Env) : Prop where
  areLong : G 569 = some (.code impl_areLong)
  rails : G 507 = some (.code impl_AreRails)
  heights : G 417 = some (.code impl_AreHeights)
  land : G 388 = some (.code impl_IsLand)
  impl : G 68 = some (.code impl_IsDesk)

theorem stGood0_ok (hl1 : G 598 = some (.code spec_l1In)) (h : G 715 = some (.code spec_stGood)) {m : Mem} {s : List UInt8} (hst : ∀ mm, Rn G 715 [V.s s] mm fun v m' => v = V.b (goodB s) ∧ m' = mm) : Rn G 715 [V.s s] m fun v m' => v = V.b (goodB s) ∧ m' = m := hst m

set_option maxHeartbeats 1000000 in
theorem specDesk_ok (h : DkC G) (hst : ∀ mm s, Rn G 715 [V.s s] mm fun v m' => v = V.b (goodB s) ∧ m' = mm) {m : Mem} {s : List UInt8} {b1 b2 b3 n1 n2 n3 : Nat} {f1 f2 : Nat → Int} {f3 : Nat → List UInt8} (ho : Own3 0 m b1 b2 b3 n1 n2 n3 f1 f2 f3)
    (hn1 : n1 ≤ 1048576) (hn2 : n2 ≤ 1048576) (hn3 : n3 ≤ 1048576) (hf : ∀ i, (f3 i).length ≤ 9223372036854775807) :
    Rn G 66 [V.g [.str s, .sl b1 0 n1 (.ex n1), .sl b2 0 n2 (.ex n2), .sl b3 0 n3 (.ex n3)]] m fun r m' => r = V.b (deskB s n1 n2 n3 f1 f2 f3) ∧ Ext m m' := by
  have good : ∀ mm, Own3 0 mm b1 b2 b3 n1 n2 n3 f1 f2 f3 → Rn G 543 [V.g [.str s, .sl b1 0 n1 (.ex n1), .sl b2 0 n2 (.ex n2), .sl b3 0 n3 (.ex n3)]] mm fun r m' => r = V.b (deskB s n1 n2 n3 f1 f2 f3) ∧ Ext mm m' := by
    intro mm ho
    refine Rn.code h.cnGood ?_
    unfold spec_cnGood deskB
    have hE : Ext mm (mm ++ [Blk.cells true [A.str s, .sl b1 0 n1 (.ex n1), .sl b2 0 n2 (.ex n2), .sl b3 0 n3 (.ex n3)]]) := Ext.push _ _
    have h2 := ho.ext hE
    simp (decide := true) (disch := first | omega | rfl) only [↓SD, SP, opE, fget, binA, Nat.reduceEqDiff, reduceIte, again, stepV, wanted, resE, resL, resU, wr, rd, known, fillE, U.cells, List.take_succ_cons, List.take_zero, List.drop_succ_cons]
    refine Wo.callR (by simp (decide := true) (disch := first | omega | rfl) only [↓SD, SP, opE, fget, binA, Nat.reduceEqDiff, reduceIte, again, stepV, wanted, resE, resL, resU, wr, rd, known, fillE, U.cells]; try rfl) (hst _ s) ?_
    rintro _ _ ⟨rfl, rfl⟩
    cases goodB s with
    | false =>
      simp (decide := true) (disch := first | omega | rfl) only [↓SD, SP, opE, fget, binA, Nat.reduceEqDiff, reduceIte, again, stepV, wanted, resE, resL, resU, wr, rd, known, fillE, U.cells]
      exact ⟨_, rfl, rfl, hE⟩
    | true =>
      simp (decide := true) (disch := first | omega | rfl) only [↓SD, SP, opE, fget, binA, Nat.reduceEqDiff, reduceIte, again, stepV, wanted, resE, resL, resU, wr, rd, known, fillE, U.cells, List.take_succ_cons, List.take_zero, List.drop_succ_cons]
      refine Wo.callR (by simp (decide := true) (disch := first | omega | rfl) only [↓SD, SP, opE, fget, binA, Nat.reduceEqDiff, reduceIte, again, stepV, wanted, resE, resL, resU, wr, rd, known, fillE, U.cells]; try rfl) (poGood_ok h.l1In h.l1All h.poGood h2.rails hn1) ?_
      rintro _ _ ⟨rfl, rfl⟩
      cases rowB 1 500 8 n1 f1 with
      | false =>
        simp (decide := true) (disch := first | omega | rfl) only [↓SD, SP, opE, fget, binA, Nat.reduceEqDiff, reduceIte, again, stepV, wanted, resE, resL, resU, wr, rd, known, fillE, U.cells]
        exact ⟨_, rfl, rfl, hE⟩
      | true =>
        simp (decide := true) (disch := first | omega | rfl) only [↓SD, SP, opE, fget, binA, Nat.reduceEqDiff, reduceIte, again, stepV, wanted, resE, resL, resU, wr, rd, known, fillE, U.cells, List.take_succ_cons, List.take_zero, List.drop_succ_cons]
        refine Wo.callR (by simp (decide := true) (disch := first | omega | rfl) only [↓SD, SP, opE, fget, binA, Nat.reduceEqDiff, reduceIte, again, stepV, wanted, resE, resL, resU, wr, rd, known, fillE, U.cells]; try rfl) (caGood_ok h.l1In h.l1All h.caGood h2.heights hn2) ?_
        rintro _ _ ⟨rfl, rfl⟩
        cases rowB 0 50 20 n2 f2 with
        | false =>
          simp (decide := true) (disch := first | omega | rfl) only [↓SD, SP, opE, fget, binA, Nat.reduceEqDiff, reduceIte, again, stepV, wanted, resE, resL, resU, wr, rd, known, fillE, U.cells]
          exact ⟨_, rfl, rfl, hE⟩
        | true =>
          simp (decide := true) (disch := first | omega | rfl) only [↓SD, SP, opE, fget, binA, Nat.reduceEqDiff, reduceIte, again, stepV, wanted, resE, resL, resU, wr, rd, known, fillE, U.cells, List.take_succ_cons, List.take_zero, List.drop_succ_cons]
          refine Wo.callR (by simp (decide := true) (disch := first | omega | rfl) only [↓SD, SP, opE, fget, binA, Nat.reduceEqDiff, reduceIte, again, stepV, wanted, resE, resL, resU, wr, rd, known, fillE, U.cells]; try rfl) (fiGood_ok h.l1In h.fiLetter h.fiGood h2.land hn3 hf) ?_
          rintro _ _ ⟨rfl, rfl⟩
          simp (decide := true) (disch := first | omega | rfl) only [↓SD, SP, opE, fget, binA, Nat.reduceEqDiff, reduceIte, again, stepV, wanted, resE, resL, resU, wr, rd, known, fillE, U.cells]
          exact ⟨_, rfl, rfl, hE⟩
  refine Rn.code h.spec ?_
  unfold spec_IsDesk
  have hE : Ext m (m ++ [Blk.cells true [A.str s, .sl b1 0 n1 (.ex n1), .sl b2 0 n2 (.ex n2), .sl b3 0 n3 (.ex n3)]]) := Ext.push _ _
  simp (decide := true) (disch := first | omega | rfl) only [↓SD, SP, opE, fget, binA, Nat.reduceEqDiff, reduceIte, again, stepV, wanted, resE, resL, resU, wr, rd, known, fillE, U.cells, List.take_succ_cons, List.take_zero, List.drop_succ_cons]
  refine Wo.callR (by simp (decide := true) (disch := first | omega | rfl) only [↓SD, SP, opE, fget, binA, Nat.reduceEqDiff, reduceIte, again, stepV, wanted, resE, resL, resU, wr, rd, known, fillE, U.cells]; try rfl) (good _ (ho.ext hE)) ?_
  rintro _ m1 ⟨rfl, he⟩
  simp (decide := true) (disch := first | omega | rfl) only [↓SD, SP, opE, fget, binA, Nat.reduceEqDiff, reduceIte, again, stepV, wanted, resE, resL, resU, wr, rd, known, fillE, U.cells]
  exact ⟨_, rfl, rfl, hE.trans he⟩

set_option maxHeartbeats 1000000 in
theorem implDesk_ok (hi : DkI G) (h : DkP G) (h315 : ∀ {m : Mem} {s : List UInt8}, Rn G 315 [V.s s] m fun v m' => v = V.b (goodB s) ∧ Ext m m') {m : Mem} {s : List UInt8} {b1 b2 b3 n1 n2 n3 : Nat} {f1 f2 : Nat → Int} {f3 : Nat → List UInt8} (ho : Own3 0 m b1 b2 b3 n1 n2 n3 f1 f2 f3)
    (hn1 : n1 ≤ 1048576) (hn2 : n2 ≤ 1048576) (hn3 : n3 ≤ 1048576) (hf : ∀ i, (f3 i).length ≤ 9223372036854775807) :
    Rn G 68 [V.g [.str s, .sl b1 0 n1 (.ex n1), .sl b2 0 n2 (.ex n2), .sl b3 0 n3 (.ex n3)]] m fun r m' => r = V.b (deskB s n1 n2 n3 f1 f2 f3) ∧ Ext m m' := by
  refine Rn.code h.impl ?_
  unfold impl_IsDesk deskB
  have hE : Ext m (m ++ [Blk.cells true [A.str s, .sl b1 0 n1 (.ex n1), .sl b2 0 n2 (.ex n2), .sl b3 0 n3 (.ex n3)]]) := Ext.push _ _
  have qd : (m ++ [Blk.cells true [A.str s, .sl b1 0 n1 (.ex n1), .sl b2 0 n2 (.ex n2), .sl b3 0 n3 (.ex n3)]])[m.length]? = some (.cells true [A.str s, .sl b1 0 n1 (.ex n1), .sl b2 0 n2 (.ex n2), .sl b3 0 n3 (.ex n3)]) := by simp
  simp (decide := true) (disch := first | omega | rfl) only [↓SD, SP, opE, fget, binA, Nat.reduceEqDiff, reduceIte, again, stepV, wanted, resE, resL, resU, wr, rd, known, fillE, U.cells, List.take_succ_cons, List.take_zero, List.drop_succ_cons]
  refine Wo.callR (by simp (decide := true) (disch := first | omega | rfl) only [↓SD, SP, opE, fget, binA, Nat.reduceEqDiff, reduceIte, again, stepV, wanted, resE, resL, resU, wr, rd, known, fillE, U.cells]; try rfl) (h315 (s := s)) ?_
  rintro _ m1 ⟨rfl, e1⟩
  have he1 := hE.trans e1
  have q1 := e1.get qd
  cases goodB s with
  | false =>
    simp (decide := true) (disch := first | omega | rfl) only [↓SD, SP, opE, fget, binA, Nat.reduceEqDiff, reduceIte, again, stepV, wanted, resE, resL, resU, wr, rd, known, fillE, U.cells]
    exact ⟨_, rfl, rfl, he1⟩
  | true =>
    simp (decide := true) (disch := first | omega | rfl) only [↓SD, SP, opE, fget, binA, Nat.reduceEqDiff, reduceIte, again, stepV, wanted, resE, resL, resU, wr, rd, known, fillE, U.cells, q1, List.take_succ_cons, List.take_zero, List.drop_succ_cons]
    refine Wo.callR (by simp (decide := true) (disch := first | omega | rfl) only [↓SD, SP, opE, fget, binA, Nat.reduceEqDiff, reduceIte, again, stepV, wanted, resE, resL, resU, wr, rd, known, fillE, U.cells]; try rfl) (areRails_ok hi h.areLong h.rails (ho.ext he1).rails hn1) ?_
    rintro _ m2 ⟨rfl, e2⟩
    have he2 := he1.trans e2
    have q2 := e2.get q1
    cases rowB 1 500 8 n1 f1 with
    | false =>
      simp (decide := true) (disch := first | omega | rfl) only [↓SD, SP, opE, fget, binA, Nat.reduceEqDiff, reduceIte, again, stepV, wanted, resE, resL, resU, wr, rd, known, fillE, U.cells]
      exact ⟨_, rfl, rfl, he2⟩
    | true =>
      simp (decide := true) (disch := first | omega | rfl) only [↓SD, SP, opE, fget, binA, Nat.reduceEqDiff, reduceIte, again, stepV, wanted, resE, resL, resU, wr, rd, known, fillE, U.cells, q2, List.take_succ_cons, List.take_zero, List.drop_succ_cons]
      refine Wo.callR (by simp (decide := true) (disch := first | omega | rfl) only [↓SD, SP, opE, fget, binA, Nat.reduceEqDiff, reduceIte, again, stepV, wanted, resE, resL, resU, wr, rd, known, fillE, U.cells]; try rfl) (areHeights_ok hi h.heights (ho.ext he2).heights hn2) ?_
      rintro _ m3 ⟨rfl, e3⟩
      have he3 := he2.trans e3
      have q3 := e3.get q2
      cases rowB 0 50 20 n2 f2 with
      | false =>
        simp (decide := true) (disch := first | omega | rfl) only [↓SD, SP, opE, fget, binA, Nat.reduceEqDiff, reduceIte, again, stepV, wanted, resE, resL, resU, wr, rd, known, fillE, U.cells]
        exact ⟨_, rfl, rfl, he3⟩
      | true =>
        simp (decide := true) (disch := first | omega | rfl) only [↓SD, SP, opE, fget, binA, Nat.reduceEqDiff, reduceIte, again, stepV, wanted, resE, resL, resU, wr, rd, known, fillE, U.cells, q3, List.take_succ_cons, List.take_zero, List.drop_succ_cons]
        refine Wo.callR (by simp (decide := true) (disch := first | omega | rfl) only [↓SD, SP, opE, fget, binA, Nat.reduceEqDiff, reduceIte, again, stepV, wanted, resE, resL, resU, wr, rd, known, fillE, U.cells]; try rfl) (isLand_ok hi.within h315 h.land (ho.ext he3).land hn3 hf) ?_
        rintro _ m4 ⟨rfl, e4⟩
        simp (decide := true) (disch := first | omega | rfl) only [↓SD, SP, opE, fget, binA, Nat.reduceEqDiff, reduceIte, again, stepV, wanted, resE, resL, resU, wr, rd, known, fillE, U.cells]
        exact ⟨_, rfl, rfl, he3.trans e4⟩
end Go.AL
