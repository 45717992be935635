/-
  Fences: isFence on both sides.
-/
import Derived.Test.YtaamjlckaakenaaAlW
import Derived.Test.YtaamjlckaakenaaAlColCount
namespace Go.AL
set_option linter.unusedSimpArgs false
set_option linter.unusedVariables false
open F
set_option linter.unusedSimpArgs false
set_option linter.unusedVariables false
variable {G : Env}

theorem Wo.callvR {K : Fr → Mem → Prop} {fr : Fr} {m : Mem} {d : Option Nat} {g : Nat} {x : X} {xs : List X} {r : List I} {args : List V} {Q : V → Mem → Prop} (hx : evA fr x = some (.fn g [])) (ha : xs.map (ev fr) = args) (h : Rn G g args m Q)
    (hk : ∀ v m', Q v m' → Wo G r K (put fr d v) m') : Wo G (⟨d, .callv x xs, none⟩ :: r) K fr m :=
  Wo.callv hx (by rw [ha, List.map_nil, List.append_nil]; exact h.mono hk)

def boardB (x : UInt8) : Bool := x == 46 || (decide (97 ≤ x.toNat) && decide (x.toNat ≤ 101))
def goodB (s : List UInt8) : Bool := (decide (1 ≤ (s.length : Int)) && decide ((s.length : Int) ≤ 20)) && s.all boardB

structure ColF (G : Env) : Prop where
  isFence : G 315 = some (.code impl_IsFence)
  contains : G 721 = some (.code slices_ContainsFunc_byte_byte)
  index : G 929 = some (.code slices_IndexFunc_byte_byte)
  clos : G 722 = some (.code impl_IsFence_1)
  isBoard : G 723 = some (.code impl_isBoard)
  ixb : G 930 = some (.code strings_IndexByte)
  prim : G 992 = some (.prim idxPrim)
  stGood : G 715 = some (.code spec_stGood)

theorem boardB_ix : ∀ n : Nat, n < 256 → (n = 46 ∨ (97 ≤ n ∧ n ≤ 101) ↔ n = 46 ∨ 0 ≤ Lib.indexByte [97, 98, 99, 100, 101] (UInt8.ofNat n)) := by decide +kernel
theorem boardB_ix2 : ∀ n : Nat, n < 256 → (97 ≤ n ∧ n ≤ 101 ↔ 0 ≤ Lib.indexByte [97, 98, 99, 100, 101] (UInt8.ofNat n)) := by decide +kernel

theorem ixb_ok (h : ColF G) {m : Mem} {s : List UInt8} {c : Int} : Rn G 930 [V.s s, V.a (.int .u8 c)] m fun v m' => v = V.i (Lib.indexByte s c.toNat.toUInt8) ∧ m' = m := by
  refine Rn.code h.ixb ?_
  unfold strings_IndexByte
  simp (decide := true) (disch := first | omega | rfl) only [↓SD, SP, opE, fget, binA, Nat.reduceEqDiff, reduceIte, again, stepV, wanted, resE, resL, resU, wr, rd, known, fillE, U.cells]
  refine Wo.callR (by simp (decide := true) (disch := first | omega | rfl) only [↓SD, SP, opE, fget, binA, Nat.reduceEqDiff, reduceIte, again, stepV, wanted, resE, resL, resU, wr, rd, known, fillE, U.cells]; try rfl) (idx_ok h.prim) ?_
  rintro _ _ ⟨rfl, rfl⟩
  simp (decide := true) (disch := first | omega | rfl) only [↓SD, SP, opE, fget, binA, Nat.reduceEqDiff, reduceIte, again, stepV, wanted, resE, resL, resU, wr, rd, known, fillE, U.cells]
  exact ⟨_, rfl, rfl⟩

theorem isBoard_ok (h : ColF G) {m : Mem} {x : UInt8} : Rn G 723 [V.a (.int .u8 x.toNat)] m fun v m' => v = V.b (boardB x) ∧ m' = m := by
  refine Rn.code h.isBoard ?_
  have hx := UInt8.toNat_lt x
  have h2 := boardB_ix2 x.toNat hx
  have e : (UInt8.ofNat x.toNat) = x := by simp
  have h46 : (x == 46) = ((x.toNat : Int) == 46) := by
    rw [Bool.eq_iff_iff, beq_iff_eq, beq_iff_eq]
    exact ⟨fun h => by rw [h]; rfl, fun h => by rw [← e, show x.toNat = 46 by omega]; rfl⟩
  unfold impl_isBoard
  simp (decide := true) (disch := first | omega | rfl) only [↓SD, SP, opE, fget, binA, Nat.reduceEqDiff, reduceIte, again, stepV, wanted, resE, resL, resU, wr, rd, known, fillE, U.cells]
  refine ⟨fun hb => ?_, fun hb => ?_⟩
  · simp (decide := true) (disch := first | omega | rfl) only [↓SD, SP, opE, fget, binA, Nat.reduceEqDiff, reduceIte, again, stepV, wanted, resE, resL, resU, wr, rd, known, fillE, U.cells, hb]
    refine ⟨_, rfl, ?_⟩
    unfold boardB; rw [h46, hb]; rfl
  · simp (decide := true) (disch := first | omega | rfl) only [↓SD, SP, opE, fget, binA, Nat.reduceEqDiff, reduceIte, again, stepV, wanted, resE, resL, resU, wr, rd, known, fillE, U.cells, hb]
    refine Wo.callR (by simp (decide := true) (disch := first | omega | rfl) only [↓SD, SP, opE, fget, binA, Nat.reduceEqDiff, reduceIte, again, stepV, wanted, resE, resL, resU, wr, rd, known, fillE, U.cells]; try rfl) (ixb_ok h) ?_
    rintro _ _ ⟨rfl, rfl⟩
    simp (decide := true) (disch := first | omega | rfl) only [↓SD, SP, opE, fget, binA, Nat.reduceEqDiff, reduceIte, again, stepV, wanted, resE, resL, resU, wr, rd, known, fillE, U.cells, hb]
    refine ⟨_, rfl, ?_⟩
    unfold boardB
    rw [h46, hb, Bool.false_or]
    have e5 : x.toNat.toUInt8 = UInt8.ofNat x.toNat := rfl
    rw [e5, ← Bool.decide_and]
    exact congrArg (fun b => V.u (U.a (A.bool b))) (decide_eq_decide.2 h2.symm)

theorem u8_cell {s : List UInt8} {i : Nat} {x : UInt8} (h : s[i]? = some x) : List.take 1 (List.drop i (u8s s)) = [A.int .u8 x.toNat] := by
  unfold u8s
  have hi := (List.getElem?_eq_some_iff.1 h).1
  have hx := (List.getElem?_eq_some_iff.1 h).2
  rw [← List.map_drop, List.drop_eq_getElem_cons hi, hx, List.map_cons, List.take_succ_cons, List.take_zero]

theorem clos_ok (h : ColF G) {m : Mem} {x : UInt8} : Rn G 722 [V.a (.int .u8 x.toNat)] m fun v m' => v = V.b (!boardB x) ∧ m' = m := by
  refine Rn.code h.clos ?_
  unfold impl_IsFence_1
  simp (decide := true) (disch := first | omega | rfl) only [↓SD, SP, opE, fget, binA, Nat.reduceEqDiff, reduceIte, again, stepV, wanted, resE, resL, resU, wr, rd, known, fillE, U.cells]
  refine Wo.callR (by simp (decide := true) (disch := first | omega | rfl) only [↓SD, SP, opE, fget, binA, Nat.reduceEqDiff, reduceIte, again, stepV, wanted, resE, resL, resU, wr, rd, known, fillE, U.cells]; try rfl) (isBoard_ok h) ?_
  rintro _ _ ⟨rfl, rfl⟩
  simp (decide := true) (disch := first | omega | rfl) only [↓SD, SP, opE, fget, binA, Nat.reduceEqDiff, reduceIte, again, stepV, wanted, resE, resL, resU, wr, rd, known, fillE, U.cells]
  exact ⟨_, rfl, rfl⟩

theorem indexFunc_ok (h : ColF G) {m : Mem} {s : List UInt8} {b : Nat} {w : Bool} {c : Cap} (hq : m[b]? = some (.cells w (u8s s))) (hl : s.length ≤ 100) :
    Rn G 929 [V.a (.sl b 0 s.length c), V.a (.fn 722 [])] m fun v m' => (∃ r : Int, v = V.i r ∧ decide (r ≥ 0) = !s.all boardB) ∧ m' = m := by
  refine Rn.code h.index ?_
  unfold slices_IndexFunc_byte_byte
  have hul : (u8s s).length = s.length := by unfold u8s; simp
  simp (decide := true) (disch := first | omega | rfl) only [↓SD, SP, opE, fget, binA, Nat.reduceEqDiff, reduceIte, again, stepV, wanted, resE, resL, resU, wr, rd, known, fillE, U.cells]
  refine Wc.loopN (fun i f q => fget f 8 = V.i i ∧ fget f 7 = V.i s.length ∧ fget f 1 = V.a (.fn 722 []) ∧ fget f 0 = V.a (.sl b 0 s.length c) ∧ q = m ∧ (s.take i).all boardB = true) s.length (fun i f q hil hS => ?_) ⟨(by simp (decide := true) (disch := first | omega | rfl) only [↓SD, SP, opE, fget, binA, Nat.reduceEqDiff, reduceIte, again, stepV, wanted, resE, resL, resU, wr, rd, known, fillE, U.cells]; try rfl), (by simp (decide := true) (disch := first | omega | rfl) only [↓SD, SP, opE, fget, binA, Nat.reduceEqDiff, reduceIte, again, stepV, wanted, resE, resL, resU, wr, rd, known, fillE, U.cells]; try rfl), (by simp (decide := true) (disch := first | omega | rfl) only [↓SD, SP, opE, fget, binA, Nat.reduceEqDiff, reduceIte, again, stepV, wanted, resE, resL, resU, wr, rd, known, fillE, U.cells]; try rfl), (by simp (decide := true) (disch := first | omega | rfl) only [↓SD, SP, opE, fget, binA, Nat.reduceEqDiff, reduceIte, again, stepV, wanted, resE, resL, resU, wr, rd, known, fillE, U.cells]; try rfl), rfl, rfl⟩
  obtain ⟨h8, h7, h1, h0, rfl, ha⟩ := hS
  unfold slices_IndexFunc_byte_byte_L0
  simp (decide := true) (disch := first | omega | rfl) only [↓SD, SP, opE, fget, binA, Nat.reduceEqDiff, reduceIte, again, stepV, wanted, resE, resL, resU, wr, rd, known, fillE, U.cells, h8, h7]
  refine ⟨fun hb => ?_, fun hb => ?_⟩
  · have hlt := of_decide_eq_true hb
    have hs : s[i]? = some s[i] := List.getElem?_eq_getElem (by omega)
    have hu : List.take 1 (List.drop i (u8s s)) = [A.int .u8 s[i].toNat] := u8_cell hs
    simp (decide := true) (disch := first | omega | rfl) only [↓SD, SP, opE, fget, binA, Nat.reduceEqDiff, reduceIte, again, stepV, wanted, resE, resL, resU, wr, rd, known, fillE, U.cells, h8, h0, h1, hq, hul, hu]
    refine Wo.callvR (by simp (decide := true) (disch := first | omega | rfl) only [↓SD, SP, opE, fget, binA, Nat.reduceEqDiff, reduceIte, again, stepV, wanted, resE, resL, resU, wr, rd, known, fillE, U.cells]; try rfl) (by simp (decide := true) (disch := first | omega | rfl) only [↓SD, SP, opE, fget, binA, Nat.reduceEqDiff, reduceIte, again, stepV, wanted, resE, resL, resU, wr, rd, known, fillE, U.cells]; try rfl) (clos_ok h (x := s[i])) ?_
    rintro _ _ ⟨rfl, rfl⟩
    have e2 : (s.take (i + 1)).all boardB = boardB s[i] := by rw [List.take_add_one, hs, List.all_append, ha]; simp
    simp (decide := true) (disch := first | omega | rfl) only [↓SD, SP, opE, fget, binA, Nat.reduceEqDiff, reduceIte, again, stepV, wanted, resE, resL, resU, wr, rd, known, fillE, U.cells]
    cases hbd : boardB s[i] with
    | false =>
      simp (decide := true) (disch := first | omega | rfl) only [↓SD, SP, opE, fget, binA, Nat.reduceEqDiff, reduceIte, again, stepV, wanted, resE, resL, resU, wr, rd, known, fillE, U.cells]
      have e3 : s.all boardB = false := by
        rw [← List.take_append_drop (i + 1) s, List.all_append, e2, hbd]; rfl
      exact ⟨_, rfl, i, rfl, by rw [e3]; simp⟩
    | true =>
      simp (decide := true) (disch := first | omega | rfl) only [↓SD, SP, opE, fget, binA, Nat.reduceEqDiff, reduceIte, again, stepV, wanted, resE, resL, resU, wr, rd, known, fillE, U.cells, h8]
      exact ⟨by omega, by simp, h7, h1, h0, by rw [e2, hbd]⟩
  · have hlt := of_decide_eq_false hb
    have : i = s.length := by omega
    subst this
    rw [List.take_length] at ha
    simp (decide := true) (disch := first | omega | rfl) only [↓SD, SP, opE, fget, binA, Nat.reduceEqDiff, reduceIte, again, stepV, wanted, resE, resL, resU, wr, rd, known, fillE, U.cells]
    exact ⟨_, rfl, -1, rfl, by rw [ha]; rfl⟩

theorem contains_ok (h : ColF G) {m : Mem} {s : List UInt8} {b : Nat} {w : Bool} {c : Cap} (hq : m[b]? = some (.cells w (u8s s))) (hl : s.length ≤ 100) :
    Rn G 721 [V.a (.sl b 0 s.length c), V.a (.fn 722 [])] m fun v m' => v = V.b (!s.all boardB) ∧ m' = m := by
  refine Rn.code h.contains ?_
  unfold slices_ContainsFunc_byte_byte
  simp (decide := true) (disch := first | omega | rfl) only [↓SD, SP, opE, fget, binA, Nat.reduceEqDiff, reduceIte, again, stepV, wanted, resE, resL, resU, wr, rd, known, fillE, U.cells]
  refine Wo.callR (by simp (decide := true) (disch := first | omega | rfl) only [↓SD, SP, opE, fget, binA, Nat.reduceEqDiff, reduceIte, again, stepV, wanted, resE, resL, resU, wr, rd, known, fillE, U.cells]; try rfl) (indexFunc_ok h hq hl) ?_
  rintro _ _ ⟨⟨r, rfl, hr⟩, rfl⟩
  simp (decide := true) (disch := first | omega | rfl) only [↓SD, SP, opE, fget, binA, Nat.reduceEqDiff, reduceIte, again, stepV, wanted, resE, resL, resU, wr, rd, known, fillE, U.cells]
  refine ⟨_, rfl, ?_⟩
  rw [← hr]

theorem isFence_ok (hi : ColI G) (h : ColF G) {m : Mem} {s : List UInt8} : Rn G 315 [V.s s] m fun v m' => v = V.b (goodB s) ∧ Ext m m' := by
  refine Rn.code h.isFence ?_
  unfold impl_IsFence
  simp (decide := true) (disch := first | omega | rfl) only [↓SD, SP, opE, fget, binA, Nat.reduceEqDiff, reduceIte, again, stepV, wanted, resE, resL, resU, wr, rd, known, fillE, U.cells]
  refine Wo.callR (by simp (decide := true) (disch := first | omega | rfl) only [↓SD, SP, opE, fget, binA, Nat.reduceEqDiff, reduceIte, again, stepV, wanted, resE, resL, resU, wr, rd, known, fillE, U.cells]; try rfl) (within_ok' hi.within) ?_
  rintro _ m ⟨rfl, rfl⟩
  simp (decide := true) (disch := first | omega | rfl) only [↓SD, SP, opE, fget, binA, Nat.reduceEqDiff, reduceIte, again, stepV, wanted, resE, resL, resU, wr, rd, known, fillE, U.cells]
  refine ⟨fun hb => ?_, fun hb => ?_⟩
  · have hb' := hb
    simp only [Bool.and_eq_true, decide_eq_true_eq] at hb'
    simp (decide := true) (disch := first | omega | rfl) only [↓SD, SP, opE, fget, binA, Nat.reduceEqDiff, reduceIte, again, stepV, wanted, resE, resL, resU, wr, rd, known, fillE, U.cells, hb]
    refine Wo.callR (by simp (decide := true) (disch := first | omega | rfl) only [↓SD, SP, opE, fget, binA, Nat.reduceEqDiff, reduceIte, again, stepV, wanted, resE, resL, resU, wr, rd, known, fillE, U.cells]; try rfl) (contains_ok h (m := _) (s := s) (b := m.length) (w := true) (c := .rest 1) (by simp) (by omega)) ?_
    rintro _ _ ⟨rfl, rfl⟩
    simp (decide := true) (disch := first | omega | rfl) only [↓SD, SP, opE, fget, binA, Nat.reduceEqDiff, reduceIte, again, stepV, wanted, resE, resL, resU, wr, rd, known, fillE, U.cells, hb]
    refine ⟨_, rfl, ?_, Ext.push _ _⟩
    unfold goodB
    rw [hb, Bool.not_not, Bool.true_and]
  · simp (decide := true) (disch := first | omega | rfl) only [↓SD, SP, opE, fget, binA, Nat.reduceEqDiff, reduceIte, again, stepV, wanted, resE, resL, resU, wr, rd, known, fillE, U.cells, hb]
    refine ⟨_, rfl, ?_, Ext.refl _⟩
    unfold goodB
    rw [hb]; rfl

theorem goodB_spec {s : List UInt8} (h : goodB s = true) : (1 ≤ s.length ∧ s.length ≤ 20) ∧ ∀ x ∈ s, boardB x = true := by
  unfold goodB at h
  simp only [Bool.and_eq_true, decide_eq_true_eq] at h
  exact ⟨⟨by omega, by omega⟩, List.all_eq_true.1 h.2⟩

theorem boardB_int {x : UInt8} : boardB x = (!((x.toNat : Int) != 46) || (!decide ((x.toNat : Int) < 97) && !decide ((101 : Int) < x.toNat))) := by
  have e : (UInt8.ofNat x.toNat) = x := by simp
  have h46 : (x == 46) = ((x.toNat : Int) == 46) := by
    rw [Bool.eq_iff_iff, beq_iff_eq, beq_iff_eq]
    exact ⟨fun h => by rw [h]; rfl, fun h => by rw [← e, show x.toNat = 46 by omega]; rfl⟩
  unfold boardB
  rw [h46]
  simp only [bne, Bool.not_not]
  congr 1
  rw [Bool.eq_iff_iff]
  simp
  omega

theorem stGood_ok (hs : ColS0 G) (h : G 715 = some (.code spec_stGood)) {m : Mem} {s : List UInt8} : Rn G 715 [V.s s] m fun v m' => v = V.b (goodB s) ∧ m' = m := by
  refine Rn.code h ?_
  unfold spec_stGood
  simp (decide := true) (disch := first | omega | rfl) only [↓SD, SP, opE, fget, binA, Nat.reduceEqDiff, reduceIte, again, stepV, wanted, resE, resL, resU, wr, rd, known, fillE, U.cells]
  refine Wo.callR (by simp (decide := true) (disch := first | omega | rfl) only [↓SD, SP, opE, fget, binA, Nat.reduceEqDiff, reduceIte, again, stepV, wanted, resE, resL, resU, wr, rd, known, fillE, U.cells]; try rfl) (l1In_ok hs.l1In) ?_
  rintro _ m ⟨rfl, rfl⟩
  simp (decide := true) (disch := first | omega | rfl) only [↓SD, SP, opE, fget, binA, Nat.reduceEqDiff, reduceIte, again, stepV, wanted, resE, resL, resU, wr, rd, known, fillE, U.cells]
  refine ⟨fun hb => ?_, fun hb => ?_⟩
  · simp (decide := true) (disch := first | omega | rfl) only [↓SD, SP, opE, fget, binA, Nat.reduceEqDiff, reduceIte, again, stepV, wanted, resE, resL, resU, wr, rd, known, fillE, U.cells]
    refine ⟨_, rfl, ?_⟩
    have hb' : (decide (1 ≤ (s.length : Int)) && decide ((s.length : Int) ≤ 20)) = false := by rw [← Bool.not_not (_ && _), hb]; rfl
    unfold goodB
    rw [hb']; rfl
  · have hb' : (decide (1 ≤ (s.length : Int)) && decide ((s.length : Int) ≤ 20)) = true := by rw [← Bool.not_not (_ && _), hb]; rfl
    have hb2 := hb'
    simp only [Bool.and_eq_true, decide_eq_true_eq] at hb2
    simp (decide := true) (disch := first | omega | rfl) only [↓SD, SP, opE, fget, binA, Nat.reduceEqDiff, reduceIte, again, stepV, wanted, resE, resL, resU, wr, rd, known, fillE, U.cells]
    refine Wc.loopN (fun i f q => fget f 3 = V.i i ∧ fget f 0 = V.s s ∧ q = m ∧ (s.take i).all boardB = true) s.length (fun i f q hil hS => ?_) ⟨(by simp (decide := true) (disch := first | omega | rfl) only [↓SD, SP, opE, fget, binA, Nat.reduceEqDiff, reduceIte, again, stepV, wanted, resE, resL, resU, wr, rd, known, fillE, U.cells]; try rfl), (by simp (decide := true) (disch := first | omega | rfl) only [↓SD, SP, opE, fget, binA, Nat.reduceEqDiff, reduceIte, again, stepV, wanted, resE, resL, resU, wr, rd, known, fillE, U.cells]; try rfl), rfl, rfl⟩
    obtain ⟨h3, h0, rfl, ha⟩ := hS
    unfold spec_stGood_L0
    simp (decide := true) (disch := first | omega | rfl) only [↓SD, SP, opE, fget, binA, Nat.reduceEqDiff, reduceIte, again, stepV, wanted, resE, resL, resU, wr, rd, known, fillE, U.cells, h3, h0]
    refine ⟨fun hb => ?_, fun hb => ?_⟩
    · have hlt := of_decide_eq_true hb
      have hs : s[i]? = some s[i] := List.getElem?_eq_getElem (by omega)
      have e2 : (s.take (i + 1)).all boardB = boardB s[i] := by rw [List.take_add_one, hs, List.all_append, ha]; simp
      have e3 : boardB s[i] = false → s.all boardB = false := fun hh => by
        rw [← List.take_append_drop (i + 1) s, List.all_append, e2, hh]; rfl
      have hbd : boardB s[i] = (!((s[i].toNat : Int) != 46) || (!decide ((s[i].toNat : Int) < 97) && !decide ((101 : Int) < s[i].toNat))) := boardB_int
      cases g1 : ((s[i].toNat : Int) != 46) <;> cases g2 : decide ((s[i].toNat : Int) < 97) <;> cases g3 : decide ((101 : Int) < s[i].toNat) <;> rw [g1, g2, g3] at hbd <;> simp (decide := true) (disch := first | omega | rfl) only [↓SD, SP, opE, fget, binA, Nat.reduceEqDiff, reduceIte, again, stepV, wanted, resE, resL, resU, wr, rd, known, fillE, U.cells, h3, h0, hs, g1, g2, g3] <;>
        first
        | exact ⟨by omega, by simp, by rw [e2, hbd]; rfl⟩
        | (refine ⟨_, rfl, ?_⟩; unfold goodB; rw [e3 (by rw [hbd]; rfl), Bool.and_false])
    · have hlt := of_decide_eq_false hb
      have : i = s.length := by omega
      subst this
      rw [List.take_length] at ha
      simp (decide := true) (disch := first | omega | rfl) only [↓SD, SP, opE, fget, binA, Nat.reduceEqDiff, reduceIte, again, stepV, wanted, resE, resL, resU, wr, rd, known, fillE, U.cells]
      refine ⟨_, rfl, ?_⟩
      unfold goodB
      rw [hb', ha]; rfl

end Go.AL
