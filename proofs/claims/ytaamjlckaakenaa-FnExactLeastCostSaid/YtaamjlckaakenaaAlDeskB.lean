/-
  Rails, heights and land, on both sides.
-/
import Derived.Test.YtaamjlckaakenaaAlDeskA
namespace Go.AL
set_option linter.unusedSimpArgs false
set_option linter.unusedVariables false
open F
set_option linter.unusedSimpArgs false
set_option linter.unusedVariables false
variable {G : Env}

theorem containsI_ok (h : DkI G) {m : Mem} {b n : Nat} {w : Bool} {c : Cap} {f : Nat → Int} {lo hi : Int} {p1 p2 : Nat} (hq : m[b]? = some (.cells w (ints n f))) (hn : n ≤ 1048576) (q1 : m[p1]? = some (.cells true [A.int .i64 lo])) (q2 : m[p2]? = some (.cells true [A.int .i64 hi])) :
    Rn G 906 [V.a (.sl b 0 n c), V.a (.fn 907 [(p1, 0), (p2, 0)])] m fun v m' => v = V.b (!allB lo hi n f) ∧ m' = m := by
  refine Rn.code h.contains ?_
  unfold slices_ContainsFunc_int_int
  simp (decide := true) (disch := first | omega | rfl) only [↓SD, SP, opE, fget, binA, Nat.reduceEqDiff, reduceIte, again, stepV, wanted, resE, resL, resU, wr, rd, known, fillE, U.cells]
  refine Wo.callR (by simp (decide := true) (disch := first | omega | rfl) only [↓SD, SP, opE, fget, binA, Nat.reduceEqDiff, reduceIte, again, stepV, wanted, resE, resL, resU, wr, rd, known, fillE, U.cells]; try rfl) (indexI_ok h hq hn q1 q2) ?_
  rintro _ _ ⟨⟨r, rfl, hr⟩, rfl⟩
  simp (decide := true) (disch := first | omega | rfl) only [↓SD, SP, opE, fget, binA, Nat.reduceEqDiff, reduceIte, again, stepV, wanted, resE, resL, resU, wr, rd, known, fillE, U.cells]
  exact ⟨_, rfl, by rw [← hr]⟩

theorem allWithin_ok (h : DkI G) {m : Mem} {b n : Nat} {w : Bool} {c : Cap} {f : Nat → Int} {lo hi : Int} (hq : m[b]? = some (.cells w (ints n f))) (hn : n ≤ 1048576) :
    Rn G 617 [V.a (.sl b 0 n c), V.i lo, V.i hi] m fun v m' => v = V.b (allB lo hi n f) ∧ Ext m m' := by
  refine Rn.code h.allWithin ?_
  unfold impl_allWithin
  simp (decide := true) (disch := first | omega | rfl) only [↓SD, SP, opE, fget, binA, Nat.reduceEqDiff, reduceIte, again, stepV, wanted, resE, resL, resU, wr, rd, known, fillE, U.cells]
  have lb := lt_of_get hq
  refine Wo.callR (by simp (decide := true) (disch := first | omega | rfl) only [↓SD, SP, opE, fget, binA, Nat.reduceEqDiff, reduceIte, again, stepV, wanted, resE, resL, resU, wr, rd, known, fillE, U.cells]; try rfl) (containsI_ok (b := b) (n := n) (w := w) (c := c) (f := f) (lo := lo) (hi := hi) (p1 := m.length) (p2 := m.length + 1) h (by simp; rw [List.getElem?_append_left (by omega)]; exact hq) hn (by simp) (by simp)) ?_
  rintro _ _ ⟨rfl, rfl⟩
  simp (decide := true) (disch := first | omega | rfl) only [↓SD, SP, opE, fget, binA, Nat.reduceEqDiff, reduceIte, again, stepV, wanted, resE, resL, resU, wr, rd, known, fillE, U.cells]
  exact ⟨_, rfl, by simp, (Ext.push _ _).trans (Ext.push _ _)⟩

theorem l1All_ok (hl1 : G 598 = some (.code spec_l1In)) (hG : G 628 = some (.code spec_l1All)) {m : Mem} {b n : Nat} {w : Bool} {c : Cap} {f : Nat → Int} {lo hi : Int} (hq : m[b]? = some (.cells w (ints n f))) (hn : n ≤ 1048576) :
    Rn G 628 [V.a (.sl b 0 n c), V.i lo, V.i hi] m fun v m' => v = V.b (allB lo hi n f) ∧ m' = m := by
  refine Rn.code hG ?_
  unfold spec_l1All
  simp (decide := true) (disch := first | omega | rfl) only [↓SD, SP, opE, fget, binA, Nat.reduceEqDiff, reduceIte, again, stepV, wanted, resE, resL, resU, wr, rd, known, fillE, U.cells]
  refine Wc.loopN (fun i f' q => fget f' 11 = V.i i ∧ fget f' 10 = V.i n ∧ fget f' 9 = V.a (.sl b 0 n c) ∧ fget f' 1 = V.i lo ∧ fget f' 2 = V.i hi ∧ q = m ∧ ∀ j, j < i → inB lo hi (f j) = true) n (fun i f' q hil hS => ?_) ⟨(by simp (decide := true) (disch := first | omega | rfl) only [↓SD, SP, opE, fget, binA, Nat.reduceEqDiff, reduceIte, again, stepV, wanted, resE, resL, resU, wr, rd, known, fillE, U.cells]; try rfl), (by simp (decide := true) (disch := first | omega | rfl) only [↓SD, SP, opE, fget, binA, Nat.reduceEqDiff, reduceIte, again, stepV, wanted, resE, resL, resU, wr, rd, known, fillE, U.cells]; try rfl), (by simp (decide := true) (disch := first | omega | rfl) only [↓SD, SP, opE, fget, binA, Nat.reduceEqDiff, reduceIte, again, stepV, wanted, resE, resL, resU, wr, rd, known, fillE, U.cells]; try rfl), (by simp (decide := true) (disch := first | omega | rfl) only [↓SD, SP, opE, fget, binA, Nat.reduceEqDiff, reduceIte, again, stepV, wanted, resE, resL, resU, wr, rd, known, fillE, U.cells]; try rfl), (by simp (decide := true) (disch := first | omega | rfl) only [↓SD, SP, opE, fget, binA, Nat.reduceEqDiff, reduceIte, again, stepV, wanted, resE, resL, resU, wr, rd, known, fillE, U.cells]; try rfl), rfl, fun j hj => by omega⟩
  obtain ⟨h11, h10, h9, h1, h2, rfl, ha⟩ := hS
  unfold spec_l1All_L0
  simp (decide := true) (disch := first | omega | rfl) only [↓SD, SP, opE, fget, binA, Nat.reduceEqDiff, reduceIte, again, stepV, wanted, resE, resL, resU, wr, rd, known, fillE, U.cells, h11, h10]
  refine ⟨fun hb => ?_, fun hb => ?_⟩
  · have hlt := of_decide_eq_true hb
    simp (decide := true) (disch := first | omega | rfl) only [↓SD, SP, opE, fget, binA, Nat.reduceEqDiff, reduceIte, again, stepV, wanted, resE, resL, resU, wr, rd, known, fillE, U.cells, h11, h9, h1, h2, hq]
    refine Wo.callR (by simp (decide := true) (disch := first | omega | rfl) only [↓SD, SP, opE, fget, binA, Nat.reduceEqDiff, reduceIte, again, stepV, wanted, resE, resL, resU, wr, rd, known, fillE, U.cells]; try rfl) (l1In_ok hl1) ?_
    rintro _ q ⟨rfl, rfl⟩
    have e : (decide (lo ≤ f i) && decide (f i ≤ hi)) = inB lo hi (f i) := rfl
    rw [e]
    cases hbd : inB lo hi (f i) with
    | false =>
      simp (decide := true) (disch := first | omega | rfl) only [↓SD, SP, opE, fget, binA, Nat.reduceEqDiff, reduceIte, again, stepV, wanted, resE, resL, resU, wr, rd, known, fillE, U.cells]
      exact ⟨_, rfl, by rw [allB_bad (show i < n by omega) hbd]⟩
    | true =>
      simp (decide := true) (disch := first | omega | rfl) only [↓SD, SP, opE, fget, binA, Nat.reduceEqDiff, reduceIte, again, stepV, wanted, resE, resL, resU, wr, rd, known, fillE, U.cells, h11]
      refine ⟨by omega, by simp, h10, h9, h1, h2, fun j hj => ?_⟩
      by_cases hji : j = i
      · rw [hji]; exact hbd
      · exact ha j (by omega)
  · have hlt := of_decide_eq_false hb
    have : i = n := by omega
    subst this
    simp (decide := true) (disch := first | omega | rfl) only [↓SD, SP, opE, fget, binA, Nat.reduceEqDiff, reduceIte, again, stepV, wanted, resE, resL, resU, wr, rd, known, fillE, U.cells]
    exact ⟨_, rfl, by rw [allB_good ha]⟩

def rowB (lo hi most : Int) (n : Nat) (f : Nat → Int) : Bool := inB 1 most n && allB lo hi n f

theorem areRails_ok (h : DkI G) (h569 : G 569 = some (.code impl_areLong)) (hG : G 507 = some (.code impl_AreRails)) {m : Mem} {b n : Nat} {w : Bool} {c : Cap} {f : Nat → Int} (hq : m[b]? = some (.cells w (ints n f))) (hn : n ≤ 1048576) :
    Rn G 507 [V.a (.sl b 0 n c)] m fun v m' => v = V.b (rowB 1 500 8 n f) ∧ Ext m m' := by
  refine Rn.code hG ?_
  unfold impl_AreRails rowB
  simp (decide := true) (disch := first | omega | rfl) only [↓SD, SP, opE, fget, binA, Nat.reduceEqDiff, reduceIte, again, stepV, wanted, resE, resL, resU, wr, rd, known, fillE, U.cells]
  refine Wo.callR (by simp (decide := true) (disch := first | omega | rfl) only [↓SD, SP, opE, fget, binA, Nat.reduceEqDiff, reduceIte, again, stepV, wanted, resE, resL, resU, wr, rd, known, fillE, U.cells]; try rfl) (within0_ok h.within) ?_
  rintro _ m ⟨rfl, rfl⟩
  cases hb1 : inB 1 8 (n : Int) with
  | false =>
    simp (decide := true) (disch := first | omega | rfl) only [↓SD, SP, opE, fget, binA, Nat.reduceEqDiff, reduceIte, again, stepV, wanted, resE, resL, resU, wr, rd, known, fillE, U.cells]
    exact ⟨_, rfl, rfl, Ext.refl _⟩
  | true =>
    simp (decide := true) (disch := first | omega | rfl) only [↓SD, SP, opE, fget, binA, Nat.reduceEqDiff, reduceIte, again, stepV, wanted, resE, resL, resU, wr, rd, known, fillE, U.cells]
    have long : Rn G 569 [V.a (.sl b 0 n c)] m fun v m' => v = V.b (allB 1 500 n f) ∧ Ext m m' := by
      refine Rn.code h569 ?_
      unfold impl_areLong
      simp (decide := true) (disch := first | omega | rfl) only [↓SD, SP, opE, fget, binA, Nat.reduceEqDiff, reduceIte, again, stepV, wanted, resE, resL, resU, wr, rd, known, fillE, U.cells]
      refine Wo.callR (by simp (decide := true) (disch := first | omega | rfl) only [↓SD, SP, opE, fget, binA, Nat.reduceEqDiff, reduceIte, again, stepV, wanted, resE, resL, resU, wr, rd, known, fillE, U.cells]; try rfl) (allWithin_ok h hq hn) ?_
      rintro _ m1 ⟨rfl, he⟩
      simp (decide := true) (disch := first | omega | rfl) only [↓SD, SP, opE, fget, binA, Nat.reduceEqDiff, reduceIte, again, stepV, wanted, resE, resL, resU, wr, rd, known, fillE, U.cells]
      exact ⟨_, rfl, rfl, he⟩
    refine Wo.callR (by simp (decide := true) (disch := first | omega | rfl) only [↓SD, SP, opE, fget, binA, Nat.reduceEqDiff, reduceIte, again, stepV, wanted, resE, resL, resU, wr, rd, known, fillE, U.cells]; try rfl) long ?_
    rintro _ m1 ⟨rfl, he⟩
    simp (decide := true) (disch := first | omega | rfl) only [↓SD, SP, opE, fget, binA, Nat.reduceEqDiff, reduceIte, again, stepV, wanted, resE, resL, resU, wr, rd, known, fillE, U.cells]
    exact ⟨_, rfl, rfl, he⟩

theorem areHeights_ok (h : DkI G) (hG : G 417 = some (.code impl_AreHeights)) {m : Mem} {b n : Nat} {w : Bool} {c : Cap} {f : Nat → Int} (hq : m[b]? = some (.cells w (ints n f))) (hn : n ≤ 1048576) :
    Rn G 417 [V.a (.sl b 0 n c)] m fun v m' => v = V.b (rowB 0 50 20 n f) ∧ Ext m m' := by
  refine Rn.code hG ?_
  unfold impl_AreHeights rowB
  simp (decide := true) (disch := first | omega | rfl) only [↓SD, SP, opE, fget, binA, Nat.reduceEqDiff, reduceIte, again, stepV, wanted, resE, resL, resU, wr, rd, known, fillE, U.cells]
  refine Wo.callR (by simp (decide := true) (disch := first | omega | rfl) only [↓SD, SP, opE, fget, binA, Nat.reduceEqDiff, reduceIte, again, stepV, wanted, resE, resL, resU, wr, rd, known, fillE, U.cells]; try rfl) (within0_ok h.within) ?_
  rintro _ m ⟨rfl, rfl⟩
  cases hb1 : inB 1 20 (n : Int) with
  | false =>
    simp (decide := true) (disch := first | omega | rfl) only [↓SD, SP, opE, fget, binA, Nat.reduceEqDiff, reduceIte, again, stepV, wanted, resE, resL, resU, wr, rd, known, fillE, U.cells]
    exact ⟨_, rfl, rfl, Ext.refl _⟩
  | true =>
    simp (decide := true) (disch := first | omega | rfl) only [↓SD, SP, opE, fget, binA, Nat.reduceEqDiff, reduceIte, again, stepV, wanted, resE, resL, resU, wr, rd, known, fillE, U.cells]
    refine Wo.callR (by simp (decide := true) (disch := first | omega | rfl) only [↓SD, SP, opE, fget, binA, Nat.reduceEqDiff, reduceIte, again, stepV, wanted, resE, resL, resU, wr, rd, known, fillE, U.cells]; try rfl) (allWithin_ok h hq hn) ?_
    rintro _ m1 ⟨rfl, he⟩
    simp (decide := true) (disch := first | omega | rfl) only [↓SD, SP, opE, fget, binA, Nat.reduceEqDiff, reduceIte, again, stepV, wanted, resE, resL, resU, wr, rd, known, fillE, U.cells]
    exact ⟨_, rfl, rfl, he⟩

theorem poGood_ok (hl1 : G 598 = some (.code spec_l1In)) (h628 : G 628 = some (.code spec_l1All)) (hG : G 846 = some (.code spec_poGood)) {m : Mem} {b n : Nat} {w : Bool} {c : Cap} {f : Nat → Int} (hq : m[b]? = some (.cells w (ints n f))) (hn : n ≤ 1048576) :
    Rn G 846 [V.a (.sl b 0 n c)] m fun v m' => v = V.b (rowB 1 500 8 n f) ∧ m' = m := by
  refine Rn.code hG ?_
  unfold spec_poGood rowB inB
  simp (decide := true) (disch := first | omega | rfl) only [↓SD, SP, opE, fget, binA, Nat.reduceEqDiff, reduceIte, again, stepV, wanted, resE, resL, resU, wr, rd, known, fillE, U.cells]
  refine Wo.callR (by simp (decide := true) (disch := first | omega | rfl) only [↓SD, SP, opE, fget, binA, Nat.reduceEqDiff, reduceIte, again, stepV, wanted, resE, resL, resU, wr, rd, known, fillE, U.cells]; try rfl) (l1In_ok hl1) ?_
  rintro _ m ⟨rfl, rfl⟩
  cases hb1 : (decide ((1 : Int) ≤ n) && decide ((n : Int) ≤ 8)) with
  | false =>
    simp (decide := true) (disch := first | omega | rfl) only [↓SD, SP, opE, fget, binA, Nat.reduceEqDiff, reduceIte, again, stepV, wanted, resE, resL, resU, wr, rd, known, fillE, U.cells]
    exact ⟨_, rfl, rfl⟩
  | true =>
    simp (decide := true) (disch := first | omega | rfl) only [↓SD, SP, opE, fget, binA, Nat.reduceEqDiff, reduceIte, again, stepV, wanted, resE, resL, resU, wr, rd, known, fillE, U.cells]
    refine Wo.callR (by simp (decide := true) (disch := first | omega | rfl) only [↓SD, SP, opE, fget, binA, Nat.reduceEqDiff, reduceIte, again, stepV, wanted, resE, resL, resU, wr, rd, known, fillE, U.cells]; try rfl) (l1All_ok hl1 h628 hq hn) ?_
    rintro _ m1 ⟨rfl, rfl⟩
    simp (decide := true) (disch := first | omega | rfl) only [↓SD, SP, opE, fget, binA, Nat.reduceEqDiff, reduceIte, again, stepV, wanted, resE, resL, resU, wr, rd, known, fillE, U.cells]
    exact ⟨_, rfl, rfl⟩

theorem caGood_ok (hl1 : G 598 = some (.code spec_l1In)) (h628 : G 628 = some (.code spec_l1All)) (hG : G 675 = some (.code spec_caGood)) {m : Mem} {b n : Nat} {w : Bool} {c : Cap} {f : Nat → Int} (hq : m[b]? = some (.cells w (ints n f))) (hn : n ≤ 1048576) :
    Rn G 675 [V.a (.sl b 0 n c)] m fun v m' => v = V.b (rowB 0 50 20 n f) ∧ m' = m := by
  refine Rn.code hG ?_
  unfold spec_caGood rowB inB
  simp (decide := true) (disch := first | omega | rfl) only [↓SD, SP, opE, fget, binA, Nat.reduceEqDiff, reduceIte, again, stepV, wanted, resE, resL, resU, wr, rd, known, fillE, U.cells]
  refine Wo.callR (by simp (decide := true) (disch := first | omega | rfl) only [↓SD, SP, opE, fget, binA, Nat.reduceEqDiff, reduceIte, again, stepV, wanted, resE, resL, resU, wr, rd, known, fillE, U.cells]; try rfl) (l1In_ok hl1) ?_
  rintro _ m ⟨rfl, rfl⟩
  cases hb1 : (decide ((1 : Int) ≤ n) && decide ((n : Int) ≤ 20)) with
  | false =>
    simp (decide := true) (disch := first | omega | rfl) only [↓SD, SP, opE, fget, binA, Nat.reduceEqDiff, reduceIte, again, stepV, wanted, resE, resL, resU, wr, rd, known, fillE, U.cells]
    exact ⟨_, rfl, rfl⟩
  | true =>
    simp (decide := true) (disch := first | omega | rfl) only [↓SD, SP, opE, fget, binA, Nat.reduceEqDiff, reduceIte, again, stepV, wanted, resE, resL, resU, wr, rd, known, fillE, U.cells]
    refine Wo.callR (by simp (decide := true) (disch := first | omega | rfl) only [↓SD, SP, opE, fget, binA, Nat.reduceEqDiff, reduceIte, again, stepV, wanted, resE, resL, resU, wr, rd, known, fillE, U.cells]; try rfl) (l1All_ok hl1 h628 hq hn) ?_
    rintro _ m1 ⟨rfl, rfl⟩
    simp (decide := true) (disch := first | omega | rfl) only [↓SD, SP, opE, fget, binA, Nat.reduceEqDiff, reduceIte, again, stepV, wanted, resE, resL, resU, wr, rd, known, fillE, U.cells]
    exact ⟨_, rfl, rfl⟩

/-! ### Land -/
def lineB (f : Nat → List UInt8) (i : Nat) : Bool := decide ((f i).length = (f 0).length) && (f i).all boardB
def landB (n : Nat) (f : Nat → List UInt8) : Bool := inB 1 12 n && (inB 1 12 (f 0).length && (List.range n).all (lineB f))
theorem land_bad {n i : Nat} {f : Nat → List UInt8} (hi : i < n) (h : lineB f i = false) : landB n f = false := by
  unfold landB
  have : (List.range n).all (lineB f) = false := List.all_eq_false.2 ⟨i, List.mem_range.2 hi, by rw [h]; decide⟩
  rw [this, Bool.and_false, Bool.and_false]

theorem fiLetter_ok (hG : G 957 = some (.code spec_fiLetter)) {m : Mem} {x : UInt8} : Rn G 957 [V.a (.int .u8 x.toNat)] m fun v m' => v = V.b (decide (97 ≤ (x.toNat : Int)) && decide ((x.toNat : Int) ≤ 101)) ∧ m' = m := by
  refine Rn.code hG ?_
  unfold spec_fiLetter
  simp (decide := true) (disch := first | omega | rfl) only [↓SD, SP, opE, fget, binA, Nat.reduceEqDiff, reduceIte, again, stepV, wanted, resE, resL, resU, wr, rd, known, fillE, U.cells]
  refine ⟨fun hb => ?_, fun hb => ?_⟩
  · simp (decide := true) (disch := first | omega | rfl) only [↓SD, SP, opE, fget, binA, Nat.reduceEqDiff, reduceIte, again, stepV, wanted, resE, resL, resU, wr, rd, known, fillE, U.cells, hb]
    exact ⟨_, rfl, rfl⟩
  · simp (decide := true) (disch := first | omega | rfl) only [↓SD, SP, opE, fget, binA, Nat.reduceEqDiff, reduceIte, again, stepV, wanted, resE, resL, resU, wr, rd, known, fillE, U.cells, hb]
    exact ⟨_, rfl, rfl⟩

theorem board_let {x : UInt8} : boardB x = (!((x.toNat : Int) != 46) || (decide (97 ≤ (x.toNat : Int)) && decide ((x.toNat : Int) ≤ 101))) := by
  rw [boardB_int]
  congr 1
  rw [Bool.eq_iff_iff]
  simp

set_option maxHeartbeats 1000000 in
theorem fiGood_L1 (h957 : G 957 = some (.code spec_fiLetter)) {l : List UInt8} {fr : Fr} {q : Mem} (f4 : fget fr 4 = V.s l) (f5 : fget fr 5 = V.i 0) (hl : l.length ≤ 12) :
    Wc G (.loop spec_fiGood_L1) (fun e f' q' => q' = q ∧ ((l.all boardB = false ∧ e = .ret ∧ fget f' 2 = V.b false) ∨ (l.all boardB = true ∧ e = .exit 2 ∧ Keep (5 :: List.range' 31 17) fr f'))) fr q := by
  refine Wc.loopN (fun i f q' => fget f 5 = V.i i ∧ Keep (5 :: List.range' 31 17) fr f ∧ q' = q ∧ (l.take i).all boardB = true) l.length (fun i f q' hil hS => ?_) ⟨f5, Keep.refl, rfl, rfl⟩
  obtain ⟨h5, hk, rfl, ha⟩ := hS
  have k4 := (hk 4 (by decide)).trans f4
  unfold spec_fiGood_L1
  simp (decide := true) (disch := first | omega | rfl) only [↓SD, SP, opE, fget, binA, Nat.reduceEqDiff, reduceIte, again, stepV, wanted, resE, resL, resU, wr, rd, known, fillE, U.cells, h5, k4]
  refine ⟨fun hb => ?_, fun hb => ?_⟩
  · have hlt := of_decide_eq_true hb
    have hsi : l[i]? = some l[i] := List.getElem?_eq_getElem (by omega)
    have e2 : (l.take (i + 1)).all boardB = boardB l[i] := by rw [List.take_add_one, hsi, List.all_append, ha]; simp
    have e3 : boardB l[i] = false → l.all boardB = false := fun hh => by
      rw [← List.take_append_drop (i + 1) l, List.all_append, e2, hh]; rfl
    have hbl := board_let (x := l[i])
    cases g1 : ((l[i].toNat : Int) != 46) with
    | false =>
      rw [g1] at hbl
      simp (decide := true) (disch := first | omega | rfl) only [↓SD, SP, opE, fget, binA, Nat.reduceEqDiff, reduceIte, again, stepV, wanted, resE, resL, resU, wr, rd, known, fillE, U.cells, h5, k4, hsi, g1]
      exact ⟨by omega, by simp, (by (repeat (refine Keep.set ?_ (by decide))); exact hk), by rw [e2, hbl]; rfl⟩
    | true =>
      rw [g1, Bool.not_true, Bool.false_or] at hbl
      simp (decide := true) (disch := first | omega | rfl) only [↓SD, SP, opE, fget, binA, Nat.reduceEqDiff, reduceIte, again, stepV, wanted, resE, resL, resU, wr, rd, known, fillE, U.cells, h5, k4, hsi, g1]
      refine Wo.callR (by simp (decide := true) (disch := first | omega | rfl) only [↓SD, SP, opE, fget, binA, Nat.reduceEqDiff, reduceIte, again, stepV, wanted, resE, resL, resU, wr, rd, known, fillE, U.cells]; try rfl) (fiLetter_ok h957) ?_
      rintro _ q ⟨rfl, rfl⟩
      rw [← hbl]
      cases g2 : boardB l[i] with
      | false =>
        simp (decide := true) (disch := first | omega | rfl) only [↓SD, SP, opE, fget, binA, Nat.reduceEqDiff, reduceIte, again, stepV, wanted, resE, resL, resU, wr, rd, known, fillE, U.cells]
        exact .inl (e3 g2)
      | true =>
        simp (decide := true) (disch := first | omega | rfl) only [↓SD, SP, opE, fget, binA, Nat.reduceEqDiff, reduceIte, again, stepV, wanted, resE, resL, resU, wr, rd, known, fillE, U.cells, h5]
        exact ⟨by omega, by simp, (by (repeat (refine Keep.set ?_ (by decide))); exact hk), by rw [e2, g2]⟩
  · have hlt := of_decide_eq_false hb
    have : i = l.length := by omega
    subst this
    rw [List.take_length] at ha
    simp (decide := true) (disch := first | omega | rfl) only [↓SD, SP, opE, fget, binA, Nat.reduceEqDiff, reduceIte, again, stepV, wanted, resE, resL, resU, wr, rd, known, fillE, U.cells]
    exact .inr ⟨ha, (by (repeat (refine Keep.set ?_ (by decide))); exact hk)⟩
end Go.AL
