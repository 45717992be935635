/-
  The law of IsDesk.
-/
import Derived.Test.YtaamjlckaakenaaAlDeskD
namespace Go.AL
set_option linter.unusedSimpArgs false
set_option linter.unusedVariables false
open F
set_option linter.unusedSimpArgs false
set_option linter.unusedVariables false
variable {G : Env}

structure DkL (G : Env) : Prop where
  szIntS : G 542 = some (.code laws_szIntS)
  toIntS : G 544 = some (.code laws_toIntS)
  eqIntS : G 270 = some (.code laws_eqIntS)
  szStringS : G 122 = some (.code laws_szStringS)
  toStringS : G 124 = some (.code laws_toStringS)
  eqStringS : G 126 = some (.code laws_eqStringS)
  szDesk : G 65 = some (.code laws_szDesk)
  toDesk : G 67 = some (.code laws_toDesk)
  eqDesk : G 58 = some (.code laws_eqDesk)

set_option maxHeartbeats 2000000 in
theorem lawDesk (hl : DkL G) (hi : DkI G) (hp : DkP G) (hc : DkC G) (hst : ∀ mm s, Rn G 715 [V.s s] mm fun v m' => v = V.b (goodB s) ∧ m' = mm) (h315 : ∀ {m : Mem} {s : List UInt8}, Rn G 315 [V.s s] m fun v m' => v = V.b (goodB s) ∧ Ext m m')
    (h6 : G 6 = some (.code laws_FnExactIsDesk)) {m : Mem} {s : List UInt8} {a1 a2 a3 : A} {n1 n2 n3 : Nat} {f1 f2 : Nat → Int} {f3 : Nat → List UInt8} (h : Dsk m a1 a2 a3 n1 n2 n3 f1 f2 f3)
    (hs : s.length ≤ 9223372036854775807) (hn1 : n1 ≤ 9223372036854775807) (hn2 : n2 ≤ 9223372036854775807) (hn3 : n3 ≤ 9223372036854775807) (hf : ∀ i, (f3 i).length ≤ 9223372036854775807) :
    ∃ k m', run G k 6 [V.g [.str s, a1, a2, a3]] m = some (V.b true, m') := by
  have key : Rn G 6 [V.g [.str s, a1, a2, a3]] m fun v _ => v = V.b true := by
    refine Rn.code h6 ?_
    unfold laws_FnExactIsDesk
    have hE : Ext m (m ++ [Blk.cells true [A.str s, a1, a2, a3]]) := Ext.push _ _
    have h0 := h.ext hE
    have q0 : (m ++ [Blk.cells true [A.str s, a1, a2, a3]])[m.length]? = some (.cells true [A.str s, a1, a2, a3]) := by simp
    simp (decide := true) (disch := first | omega | rfl) only [↓SD, SP, opE, fget, binA, Nat.reduceEqDiff, reduceIte, again, stepV, wanted, resE, resL, resU, wr, rd, known, fillE, U.cells, List.take_succ_cons, List.take_zero, List.drop_succ_cons]
    refine Wo.callR (by simp (decide := true) (disch := first | omega | rfl) only [↓SD, SP, opE, fget, binA, Nat.reduceEqDiff, reduceIte, again, stepV, wanted, resE, resL, resU, wr, rd, known, fillE, U.cells]; try rfl) (szDesk_ok hl.szIntS hl.szStringS hl.szDesk h0 hs hn1 hn2 hn3 hf) ?_
    rintro _ m1 ⟨⟨x, rfl, hx⟩, e1⟩
    have q1 := e1.get q0
    have h1 := h0.ext e1
    simp (decide := true) (disch := first | omega | rfl) only [↓SD, SP, opE, fget, binA, Nat.reduceEqDiff, reduceIte, again, stepV, wanted, resE, resL, resU, wr, rd, known, fillE, U.cells]
    refine ⟨fun hb => ?_, fun hb => ?_⟩
    · simp (decide := true) (disch := first | omega | rfl) only [↓SD, SP, opE, fget, binA, Nat.reduceEqDiff, reduceIte, again, stepV, wanted, resE, resL, resU, wr, rd, known, fillE, U.cells]
    · obtain ⟨k1, k2, k3⟩ := hx (by have := of_decide_eq_false hb; omega)
      simp (decide := true) (disch := first | omega | rfl) only [↓SD, SP, opE, fget, binA, Nat.reduceEqDiff, reduceIte, again, stepV, wanted, resE, resL, resU, wr, rd, known, fillE, U.cells, q1, List.take_succ_cons, List.take_zero, List.drop_succ_cons]
      refine Wo.callR (by simp (decide := true) (disch := first | omega | rfl) only [↓SD, SP, opE, fget, binA, Nat.reduceEqDiff, reduceIte, again, stepV, wanted, resE, resL, resU, wr, rd, known, fillE, U.cells]; try rfl) (toDesk_ok hl.toIntS hl.toStringS hl.toDesk h1 k1 k2 k3) ?_
      rintro _ m2 ⟨⟨b1, b2, b3, rfl, o2⟩, e2⟩
      have q2 := e2.get q1
      have h2 := h1.ext e2
      simp (decide := true) (disch := first | omega | rfl) only [↓SD, SP, opE, fget, binA, Nat.reduceEqDiff, reduceIte, again, stepV, wanted, resE, resL, resU, wr, rd, known, fillE, U.cells]
      refine Wo.callR (by simp (decide := true) (disch := first | omega | rfl) only [↓SD, SP, opE, fget, binA, Nat.reduceEqDiff, reduceIte, again, stepV, wanted, resE, resL, resU, wr, rd, known, fillE, U.cells]; try rfl) (specDesk_ok hc hst o2 k1 k2 k3 hf) ?_
      rintro _ m3 ⟨rfl, e3⟩
      have q3 := e3.get q2
      have h3 := h2.ext e3
      simp (decide := true) (disch := first | omega | rfl) only [↓SD, SP, opE, fget, binA, Nat.reduceEqDiff, reduceIte, again, stepV, wanted, resE, resL, resU, wr, rd, known, fillE, U.cells, q3, List.take_succ_cons, List.take_zero, List.drop_succ_cons]
      refine Wo.callR (by simp (decide := true) (disch := first | omega | rfl) only [↓SD, SP, opE, fget, binA, Nat.reduceEqDiff, reduceIte, again, stepV, wanted, resE, resL, resU, wr, rd, known, fillE, U.cells]; try rfl) (toDesk_ok hl.toIntS hl.toStringS hl.toDesk h3 k1 k2 k3) ?_
      rintro _ m4 ⟨⟨c1, c2, c3, rfl, o4⟩, e4⟩
      have q4 := e4.get q3
      have h4 := h3.ext e4
      have eS : splice [A.str [], A.nils, A.nils, A.nils] 0 [A.str s, .sl c1 0 n1 (.ex n1), .sl c2 0 n2 (.ex n2), .sl c3 0 n3 (.ex n3)] = [A.str s, .sl c1 0 n1 (.ex n1), .sl c2 0 n2 (.ex n2), .sl c3 0 n3 (.ex n3)] := rfl
      have hE5 : Ext m4 (m4 ++ [Blk.cells true [A.str s, .sl c1 0 n1 (.ex n1), .sl c2 0 n2 (.ex n2), .sl c3 0 n3 (.ex n3)]]) := Ext.push _ _
      have q5 := hE5.get q4
      have o5 := o4.ext hE5
      have h5 := h4.ext hE5
      have p5 : (m4 ++ [Blk.cells true [A.str s, .sl c1 0 n1 (.ex n1), .sl c2 0 n2 (.ex n2), .sl c3 0 n3 (.ex n3)]])[m4.length]? = some (.cells true [A.str s, .sl c1 0 n1 (.ex n1), .sl c2 0 n2 (.ex n2), .sl c3 0 n3 (.ex n3)]) := by simp
      simp (decide := true) (disch := first | omega | rfl) only [↓SD, SP, opE, fget, binA, Nat.reduceEqDiff, reduceIte, again, stepV, wanted, resE, resL, resU, wr, rd, known, fillE, U.cells, List.take_succ_cons, List.take_zero, List.drop_succ_cons, eS]
      refine Wo.callR (by simp (decide := true) (disch := first | omega | rfl) only [↓SD, SP, opE, fget, binA, Nat.reduceEqDiff, reduceIte, again, stepV, wanted, resE, resL, resU, wr, rd, known, fillE, U.cells]; try rfl) (implDesk_ok hi hp h315 o5 k1 k2 k3 hf) ?_
      rintro _ m6 ⟨rfl, e6⟩
      have q6 := e6.get q5
      have p6 := e6.get p5
      have o6 := o5.ext e6
      have h6 := h5.ext e6
      simp (decide := true) (disch := first | omega | rfl) only [↓SD, SP, opE, fget, binA, Nat.reduceEqDiff, reduceIte, again, stepV, wanted, resE, resL, resU, wr, rd, known, fillE, U.cells, bne_self_eq_false, p6, q6, List.take_succ_cons, List.take_zero, List.drop_succ_cons]
      refine Wo.callR (by simp (decide := true) (disch := first | omega | rfl) only [↓SD, SP, opE, fget, binA, Nat.reduceEqDiff, reduceIte, again, stepV, wanted, resE, resL, resU, wr, rd, known, fillE, U.cells, bne_self_eq_false]; try rfl) (toDesk_ok hl.toIntS hl.toStringS hl.toDesk h6 k1 k2 k3) ?_
      rintro _ m7 ⟨⟨d1, d2, d3, rfl, o7⟩, e7⟩
      have p7 := e7.get p6
      have o6' := o6.ext e7
      simp (decide := true) (disch := first | omega | rfl) only [↓SD, SP, opE, fget, binA, Nat.reduceEqDiff, reduceIte, again, stepV, wanted, resE, resL, resU, wr, rd, known, fillE, U.cells, bne_self_eq_false, p7, List.take_succ_cons, List.take_zero, List.drop_succ_cons]
      refine Wo.callR (by simp (decide := true) (disch := first | omega | rfl) only [↓SD, SP, opE, fget, binA, Nat.reduceEqDiff, reduceIte, again, stepV, wanted, resE, resL, resU, wr, rd, known, fillE, U.cells, bne_self_eq_false]; try rfl) (eqDesk_ok hl.eqIntS hl.eqStringS hl.eqDesk o6' o7 k1 k2 k3) ?_
      rintro _ m8 ⟨rfl, e8⟩
      simp (decide := true) (disch := first | omega | rfl) only [↓SD, SP, opE, fget, binA, Nat.reduceEqDiff, reduceIte, again, stepV, wanted, resE, resL, resU, wr, rd, known, fillE, U.cells]
  obtain ⟨k, v, m', h1, rfl⟩ := key
  exact ⟨k, m', h1⟩
end Go.AL
