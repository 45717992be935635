/-
  Tables with a board set fixed; how many proper fences a table has.
-/
import Derived.Test.YtaamjlckaakenaaAlColLine
namespace Go.AL
set_option linter.unusedSimpArgs false
set_option linter.unusedVariables false
open F
set_option linter.unusedSimpArgs false
set_option linter.unusedVariables false
variable {G : Env}

theorem clone_ok (hG : G 966 = some (.code slices_Clone_impl_table_5_int)) {m : Mem} {bt n : Nat} {w : Bool} {c : Cap} {T : Nat → Int} (qt : m[bt]? = some (.cells w (ints (n * 5) T))) (h0 : 0 < n) (hn : n ≤ 1000) :
    Rn G 966 [V.a (.sl bt 0 n c)] m fun v m' => ∃ b, v = V.a (.sl b 0 n (.rest 5)) ∧ m'[b]? = some (.cells true (ints (n * 5) T)) ∧ Ext m m' ∧ m.length ≤ b := by
  refine Rn.code hG ?_
  unfold slices_Clone_impl_table_5_int
  have lt := lt_of_get qt
  obtain ⟨m', ha, hm1, hm2, hm3⟩ := appE_own (m := m ++ [Blk.cells true []]) (s := 5) (bytes := 40) (b := m.length) (i := 0) (n := n) (c := .ex 0) (cs := []) (new := ints (n * 5) T) (y := .sl bt 0 n c) rfl
    (by unfold srcCells; simp (decide := true) (disch := first | omega | rfl) only [↓SD, SP, opE, fget, binA, Nat.reduceEqDiff, reduceIte, again, stepV, wanted, resE, resL, resU, wr, rd, known, fillE, U.cells, qt]) h0 (by omega) (by simp) rfl (.inl rfl) (by omega) (by omega)
  simp only [y102, Nat.zero_add, List.nil_append] at ha hm1 hm2 hm3
  simp (decide := true) (disch := first | omega | rfl) only [↓SD, SP, opE, fget, binA, Nat.reduceEqDiff, reduceIte, again, stepV, wanted, resE, resL, resU, wr, rd, known, fillE, U.cells, isNil, bne_self_eq_false, ha]
  refine ⟨_, rfl, _, rfl, hm1, ⟨by omega, fun x hx => ?_⟩, by omega⟩
  rw [hm3 x (by omega) (by omega), y96 hx]

def fixP (T : Nat → Int) (board : Nat) (col : Int) (c : Nat) : Nat → Int := fun k => if board * 5 ≤ k ∧ k < board * 5 + c ∧ (k : Int) - board * 5 ≠ col then 1099511627776 else T k
def fixT (T : Nat → Int) (board : Nat) (col : Int) : Nat → Int := fixP T board col 5
theorem fixP_zero {T : Nat → Int} {board : Nat} {col : Int} : fixP T board col 0 = T := by
  funext k; unfold fixP; rw [if_neg (by omega)]
theorem fixP_upd {T : Nat → Int} {board c : Nat} {col : Int} (h : (c : Int) ≠ col) : upd (fixP T board col c) (board * 5 + c) 1099511627776 = fixP T board col (c + 1) := by
  funext k; unfold upd fixP
  by_cases h1 : k = board * 5 + c
  · rw [if_pos h1, if_pos (by omega)]
  · rw [if_neg h1]
    by_cases h2 : board * 5 ≤ k ∧ k < board * 5 + c ∧ (k : Int) - board * 5 ≠ col
    · rw [if_pos h2, if_pos (by omega)]
    · rw [if_neg h2, if_neg (by omega)]
theorem fixP_same {T : Nat → Int} {board c : Nat} {col : Int} (h : (c : Int) = col) : fixP T board col c = fixP T board col (c + 1) := by
  funext k; unfold fixP
  by_cases h2 : board * 5 ≤ k ∧ k < board * 5 + c ∧ (k : Int) - board * 5 ≠ col
  · rw [if_pos h2, if_pos (by omega)]
  · rw [if_neg h2, if_neg (by omega)]
theorem fixT_nonneg {T : Nat → Int} {board : Nat} {col : Int} (hT : ∀ k, 0 ≤ T k) : ∀ k, 0 ≤ fixT T board col k := by
  intro k; unfold fixT fixP; split
  · decide
  · exact hT k

theorem fixed_ok (hG : G 878 = some (.code impl_table_fixed)) (hC : G 966 = some (.code slices_Clone_impl_table_5_int)) {m : Mem} {bt n board : Nat} {w : Bool} {c : Cap} {T : Nat → Int} {col : Int}
    (qt : m[bt]? = some (.cells w (ints (n * 5) T))) (h0 : board < n) (hn : n ≤ 1000) :
    Rn G 878 [V.a (.sl bt 0 n c), V.i board, V.i col] m fun v m' => ∃ b, v = V.a (.sl b 0 n (.rest 5)) ∧ m'[b]? = some (.cells true (ints (n * 5) (fixT T board col))) ∧ Ext m m' ∧ m.length ≤ b := by
  refine Rn.code hG ?_
  unfold impl_table_fixed
  simp (decide := true) (disch := first | omega | rfl) only [↓SD, SP, opE, fget, binA, Nat.reduceEqDiff, reduceIte, again, stepV, wanted, resE, resL, resU, wr, rd, known, fillE, U.cells]
  refine Wo.callR (by simp (decide := true) (disch := first | omega | rfl) only [↓SD, SP, opE, fget, binA, Nat.reduceEqDiff, reduceIte, again, stepV, wanted, resE, resL, resU, wr, rd, known, fillE, U.cells]; try rfl) (clone_ok hC qt (by omega) hn) ?_
  rintro _ m1 ⟨b, rfl, hb, he, hlo⟩
  simp (decide := true) (disch := first | omega | rfl) only [↓SD, SP, opE, fget, binA, Nat.reduceEqDiff, reduceIte, again, stepV, wanted, resE, resL, resU, wr, rd, known, fillE, U.cells]
  refine Wc.loopN (fun c f q => fget f 11 = V.i c ∧ fget f 7 = V.a (.sl b 0 n (.rest 5)) ∧ fget f 1 = V.i board ∧ fget f 2 = V.i col ∧ Ext m q ∧ q[b]? = some (.cells true (ints (n * 5) (fixP T board col c)))) 5 (fun c f q hi hS => ?_) ?_
  · obtain ⟨h11, h7, h1, h2, he, hq⟩ := hS
    have lb := lt_of_get hq
    unfold impl_table_fixed_L0
    simp (decide := true) (disch := first | omega | rfl) only [↓SD, SP, opE, fget, binA, Nat.reduceEqDiff, reduceIte, again, stepV, wanted, resE, resL, resU, wr, rd, known, fillE, U.cells, h11]
    refine ⟨fun hb => ?_, fun hb => ?_⟩
    · have h := of_decide_eq_true hb
      simp (decide := true) (disch := first | omega | rfl) only [↓SD, SP, opE, fget, binA, Nat.reduceEqDiff, reduceIte, again, stepV, wanted, resE, resL, resU, wr, rd, known, fillE, U.cells, h11, h7, h1, h2]
      refine ⟨fun hb => ?_, fun hb => ?_⟩
      · have h3 : (c : Int) ≠ col := bne_iff_ne.1 hb
        simp (decide := true) (disch := first | omega | rfl) only [↓SD, SP, opE, fget, binA, Nat.reduceEqDiff, reduceIte, again, stepV, wanted, resE, resL, resU, wr, rd, known, fillE, U.cells, h11, h7, h1, h2, hq, fixP_upd h3]
        exact ⟨by omega, by simp, he.set hlo⟩
      · have h3 : (c : Int) = col := bne_eq_false_iff_eq.1 hb
        simp (decide := true) (disch := first | omega | rfl) only [↓SD, SP, opE, fget, binA, Nat.reduceEqDiff, reduceIte, again, stepV, wanted, resE, resL, resU, wr, rd, known, fillE, U.cells, h11, h7, h1, h2]
        exact ⟨by omega, by simp, he, by rw [hq, fixP_same h3]⟩
    · have h := of_decide_eq_false hb
      have : c = 5 := by omega
      subst this
      simp (decide := true) (disch := first | omega | rfl) only [↓SD, SP, opE, fget, binA, Nat.reduceEqDiff, reduceIte, again, stepV, wanted, resE, resL, resU, wr, rd, known, fillE, U.cells, h7]
      exact ⟨_, rfl, b, rfl, hq, he, hlo⟩
  · simp (decide := true) (disch := first | omega | rfl) only [↓SD, SP, opE, fget, binA, Nat.reduceEqDiff, reduceIte, again, stepV, wanted, resE, resL, resU, wr, rd, known, fillE, U.cells]
    exact ⟨he, by rw [hb, fixP_zero]⟩

def lookN (T : Nat → Int) (n : Nat) : Nat → Int
  | 0 => 0
  | c + 1 => lookN T n c + lineN (fixT T 0 c) n c
def lookL (T : Nat → Int) (n : Nat) : Nat → Int
  | 0 => 1099511627776
  | c + 1 => if lineL (fixT T 0 c) n c < lookL T n c then lineL (fixT T 0 c) n c else lookL T n c
theorem lineN_bound {T : Nat → Int} {n : Nat} (hn : n ≤ 20) (but : Int) : 0 ≤ lineN T n but ∧ lineN T n but ≤ 500000000000000000 := by
  have := sumN_bound (but := but) (cntF_bound' (T := T) hn) 5
  unfold lineN; omega
theorem lineL_bound {T : Nat → Int} {n : Nat} (hT : ∀ k, 0 ≤ T k) (but : Int) : 0 ≤ lineL T n but ∧ lineL T n but ≤ 1099511627776 := bestL_bound (lstF_bound hT n) 5
theorem lookN_bound {T : Nat → Int} {n : Nat} (hn : n ≤ 20) : ∀ c, 0 ≤ lookN T n c ∧ lookN T n c ≤ c * 500000000000000000
  | 0 => by simp [lookN]
  | c + 1 => by
    have h1 := lookN_bound (T := T) hn c
    have h2 := lineN_bound (T := fixT T 0 c) hn c
    unfold lookN
    omega
theorem lookL_bound {T : Nat → Int} {n : Nat} (hT : ∀ k, 0 ≤ T k) : ∀ c, 0 ≤ lookL T n c ∧ lookL T n c ≤ 1099511627776
  | 0 => by simp [lookL]
  | c + 1 => by
    have h1 := lookL_bound (n := n) hT c
    have h2 := lineL_bound (T := fixT T 0 c) (n := n) (fixT_nonneg hT) c
    unfold lookL
    split <;> omega

def cntT (T : Nat → Int) (n : Nat) (around : Bool) : Int := if around then lookN T n 5 else lineN T n (-1)
def leastT (T : Nat → Int) (n : Nat) (around : Bool) : Int := if around then lookL T n 5 else lineL T n (-1)

theorem look_ok (hG : G 562 = some (.code impl_table_look)) (hF : G 878 = some (.code impl_table_fixed)) (hC : G 966 = some (.code slices_Clone_impl_table_5_int)) (hL : G 893 = some (.code impl_table_line))
    {m : Mem} {bt n : Nat} {w around : Bool} {c : Cap} {T : Nat → Int} (qt : m[bt]? = some (.cells w (ints (n * 5) T))) (h0 : 0 < n) (hn : n ≤ 20) (hT : ∀ k, 0 ≤ T k) :
    Rn G 562 [V.a (.sl bt 0 n c), V.b around] m fun v m' => v = .t [.a (.int .i64 (cntT T n around)), .a (.int .i64 (leastT T n around))] ∧ Ext m m' := by
  refine Rn.code hG ?_
  unfold impl_table_look
  cases around with
  | false =>
    simp (decide := true) (disch := first | omega | rfl) only [↓SD, SP, opE, fget, binA, Nat.reduceEqDiff, reduceIte, again, stepV, wanted, resE, resL, resU, wr, rd, known, fillE, U.cells]
    refine Wo.callR (by simp (decide := true) (disch := first | omega | rfl) only [↓SD, SP, opE, fget, binA, Nat.reduceEqDiff, reduceIte, again, stepV, wanted, resE, resL, resU, wr, rd, known, fillE, U.cells]; try rfl) (line_ok hL qt hn hT) ?_
    rintro _ m1 ⟨rfl, he⟩
    simp (decide := true) (disch := first | omega | rfl) only [↓SD, SP, opE, fget, binA, Nat.reduceEqDiff, reduceIte, again, stepV, wanted, resE, resL, resU, wr, rd, known, fillE, U.cells]
    exact ⟨_, rfl, rfl, he⟩
  | true =>
    simp (decide := true) (disch := first | omega | rfl) only [↓SD, SP, opE, fget, binA, Nat.reduceEqDiff, reduceIte, again, stepV, wanted, resE, resL, resU, wr, rd, known, fillE, U.cells]
    refine Wc.loopN (fun c' f q => fget f 17 = V.i c' ∧ fget f 0 = V.a (.sl bt 0 n c) ∧ fget f 6 = V.i (lookN T n c') ∧ fget f 7 = V.i (lookL T n c') ∧ Ext m q) 5 (fun c' f q hi hS => ?_) ?_
    · obtain ⟨h17, h0', h6, h7, he⟩ := hS
      unfold impl_table_look_L0
      simp (decide := true) (disch := first | omega | rfl) only [↓SD, SP, opE, fget, binA, Nat.reduceEqDiff, reduceIte, again, stepV, wanted, resE, resL, resU, wr, rd, known, fillE, U.cells, h17]
      refine ⟨fun hb => ?_, fun hb => ?_⟩
      · have h := of_decide_eq_true hb
        simp (decide := true) (disch := first | omega | rfl) only [↓SD, SP, opE, fget, binA, Nat.reduceEqDiff, reduceIte, again, stepV, wanted, resE, resL, resU, wr, rd, known, fillE, U.cells, h17, h0', h6, h7]
        refine Wo.callR (by simp (decide := true) (disch := first | omega | rfl) only [↓SD, SP, opE, fget, binA, Nat.reduceEqDiff, reduceIte, again, stepV, wanted, resE, resL, resU, wr, rd, known, fillE, U.cells, h0']; try rfl) (fixed_ok (board := 0) (col := c') hF hC (he.get qt) h0 (by omega)) ?_
        rintro _ m1 ⟨b, rfl, hb1, he1, hlo⟩
        simp (decide := true) (disch := first | omega | rfl) only [↓SD, SP, opE, fget, binA, Nat.reduceEqDiff, reduceIte, again, stepV, wanted, resE, resL, resU, wr, rd, known, fillE, U.cells]
        refine Wo.callR (by simp (decide := true) (disch := first | omega | rfl) only [↓SD, SP, opE, fget, binA, Nat.reduceEqDiff, reduceIte, again, stepV, wanted, resE, resL, resU, wr, rd, known, fillE, U.cells]; try rfl) (line_ok hL hb1 hn (fixT_nonneg hT)) ?_
        rintro _ m2 ⟨rfl, he2⟩
        have b1 := lookN_bound (T := T) hn c'
        have b2 := lineN_bound (T := fixT T 0 c') hn c'
        simp (decide := true) (disch := first | omega | rfl) only [↓SD, SP, opE, fget, binA, Nat.reduceEqDiff, reduceIte, again, stepV, wanted, resE, resL, resU, wr, rd, known, fillE, U.cells, h17, h0', h6, h7]
        exact ⟨by omega, by simp, rfl, rfl, (he.trans he1).trans he2⟩
      · have h := of_decide_eq_false hb
        have : c' = 5 := by omega
        subst this
        simp (decide := true) (disch := first | omega | rfl) only [↓SD, SP, opE, fget, binA, Nat.reduceEqDiff, reduceIte, again, stepV, wanted, resE, resL, resU, wr, rd, known, fillE, U.cells, h6, h7]
        exact ⟨_, rfl, rfl, he⟩
    · simp (decide := true) (disch := first | omega | rfl) only [↓SD, SP, opE, fget, binA, Nat.reduceEqDiff, reduceIte, again, stepV, wanted, resE, resL, resU, wr, rd, known, fillE, U.cells]
      exact ⟨rfl, rfl, Ext.refl m⟩

theorem count_ok (hG : G 541 = some (.code impl_table_count)) (hK : G 562 = some (.code impl_table_look)) (hF : G 878 = some (.code impl_table_fixed)) (hC : G 966 = some (.code slices_Clone_impl_table_5_int)) (hL : G 893 = some (.code impl_table_line))
    {m : Mem} {bt n : Nat} {w around : Bool} {c : Cap} {T : Nat → Int} (qt : m[bt]? = some (.cells w (ints (n * 5) T))) (h0 : 0 < n) (hn : n ≤ 20) (hT : ∀ k, 0 ≤ T k) :
    Rn G 541 [V.a (.sl bt 0 n c), V.b around] m fun v m' => v = V.i (cntT T n around) ∧ Ext m m' := by
  refine Rn.code hG ?_
  unfold impl_table_count
  simp (decide := true) (disch := first | omega | rfl) only [↓SD, SP, opE, fget, binA, Nat.reduceEqDiff, reduceIte, again, stepV, wanted, resE, resL, resU, wr, rd, known, fillE, U.cells]
  refine Wo.callR (by simp (decide := true) (disch := first | omega | rfl) only [↓SD, SP, opE, fget, binA, Nat.reduceEqDiff, reduceIte, again, stepV, wanted, resE, resL, resU, wr, rd, known, fillE, U.cells]; try rfl) (look_ok hK hF hC hL qt h0 hn hT) ?_
  rintro _ m1 ⟨rfl, he⟩
  simp (decide := true) (disch := first | omega | rfl) only [↓SD, SP, opE, fget, binA, Nat.reduceEqDiff, reduceIte, again, stepV, wanted, resE, resL, resU, wr, rd, known, fillE, U.cells]
  exact ⟨_, rfl, rfl, he⟩
end Go.AL
