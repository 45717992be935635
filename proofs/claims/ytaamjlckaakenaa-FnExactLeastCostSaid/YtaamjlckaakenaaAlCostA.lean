/-
  Lists of lists of numbers: what they weigh, their copies, what is compared; the laws on them.
-/
import Derived.Test.YtaamjlckaakenaaAlDeskB
namespace Go.AL
set_option linter.unusedSimpArgs false
set_option linter.unusedVariables false
open F
set_option linter.unusedSimpArgs false
set_option linter.unusedVariables false
variable {G : Env}

def rowsL (n : Nat) (g : Nat → A) : List A := (List.range n).map g
theorem rowsL_len {n : Nat} {g : Nat → A} : (rowsL n g).length = n := by simp [rowsL]
theorem rowsL_cell {n j : Nat} {g : Nat → A} (h : j < n) : List.take 1 (List.drop j (rowsL n g)) = [g j] := by
  have hl : (rowsL n g).length = n := rowsL_len
  have hj : (rowsL n g)[j]'(by omega) = g j := by simp [rowsL]
  rw [List.drop_eq_getElem_cons (by omega), hj, List.take_succ_cons, List.take_zero]
def updA (g : Nat → A) (j : Nat) (x : A) : Nat → A := fun k => if k = j then x else g k
theorem rowsL_set {n j : Nat} {g : Nat → A} {x : A} : (rowsL n g).set j x = rowsL n (updA g j x) := by
  apply List.ext_getElem?
  intro k
  unfold rowsL updA
  by_cases hk : k = j
  · subst hk
    by_cases hn : k < n
    · simp [hn]
    · simp [hn]
  · rw [List.getElem?_set_ne (Ne.symm hk)]
    by_cases hn : k < n
    · simp [hn, hk]
    · simp [hn]
theorem rowsL_nil {n : Nat} : (List.replicate n [A.nils]).flatten = rowsL n (fun _ => A.nils) := by
  rw [List.flatten_replicate_singleton]
  unfold rowsL
  apply List.ext_getElem
  · simp
  · intro k h1 h2; simp

/-- A slice of slices of numbers in memory. -/
def TxII (m : Mem) (v : V) (n : Nat) (nn : Nat → Nat) (ff : Nat → Nat → Int) : Prop :=
  (v = V.a .nils ∧ n = 0) ∨ ∃ b w cap c g, v = V.a (.sl b 0 n c) ∧ n ≤ cap ∧ (0 < cap → m[b]? = some (.cells w (rowsL cap g))) ∧ ∀ i, i < n → TxI m (V.a (g i)) (nn i) (ff i)
theorem TxII.ext {m m' : Mem} {v : V} {n : Nat} {nn : Nat → Nat} {ff : Nat → Nat → Int} (h : TxII m v n nn ff) (he : Ext m m') : TxII m' v n nn ff := by
  rcases h with h | ⟨b, w, cap, c, g, h1, h2, h3, h4⟩
  · exact .inl h
  · exact .inr ⟨b, w, cap, c, g, h1, h2, fun hc => he.get (h3 hc), fun i hi => (h4 i hi).ext he⟩

theorem szIntSS_ok (h542 : G 542 = some (.code laws_szIntS)) (hG : G 81 = some (.code laws_szIntSS)) {m : Mem} {v : V} {n : Nat} {nn : Nat → Nat} {ff : Nat → Nat → Int} (h : TxII m v n nn ff) (hn : n ≤ 9223372036854775807) (hnn : ∀ i, nn i ≤ 9223372036854775807) :
    Rn G 81 [v, V.i 1048576] m fun r m' => (∃ y : Int, r = V.i y ∧ (0 ≤ y → n ≤ 1048576 ∧ ∀ i, i < n → nn i ≤ 1048576)) ∧ m' = m := by
  refine Rn.code hG ?_
  unfold laws_szIntSS
  rcases h with ⟨rfl, rfl⟩ | ⟨b, w, cap, c, g, rfl, hle, hq, hr⟩
  · simp (decide := true) (disch := first | omega | rfl) only [↓SD, SP, opE, fget, binA, Nat.reduceEqDiff, reduceIte, again, stepV, wanted, resE, resL, resU, wr, rd, known, fillE, U.cells]
    refine Wc.loopN (fun i f q => fget f 5 = V.i 0 ∧ fget f 0 = V.a .nils ∧ fget f 1 = V.i 1048576 ∧ q = m) 0 (fun i f q hil hS => ?_) ⟨(by simp (decide := true) (disch := first | omega | rfl) only [↓SD, SP, opE, fget, binA, Nat.reduceEqDiff, reduceIte, again, stepV, wanted, resE, resL, resU, wr, rd, known, fillE, U.cells]; try rfl), (by simp (decide := true) (disch := first | omega | rfl) only [↓SD, SP, opE, fget, binA, Nat.reduceEqDiff, reduceIte, again, stepV, wanted, resE, resL, resU, wr, rd, known, fillE, U.cells]; try rfl), (by simp (decide := true) (disch := first | omega | rfl) only [↓SD, SP, opE, fget, binA, Nat.reduceEqDiff, reduceIte, again, stepV, wanted, resE, resL, resU, wr, rd, known, fillE, U.cells]; try rfl), rfl⟩
    obtain ⟨h5, h0, h1, rfl⟩ := hS
    unfold laws_szIntSS_L0
    simp (decide := true) (disch := first | omega | rfl) only [↓SD, SP, opE, fget, binA, Nat.reduceEqDiff, reduceIte, again, stepV, wanted, resE, resL, resU, wr, rd, known, fillE, U.cells, h5, h0, h1]
    exact ⟨_, rfl, _, rfl, fun _ i hi => by omega⟩
  · simp (decide := true) (disch := first | omega | rfl) only [↓SD, SP, opE, fget, binA, Nat.reduceEqDiff, reduceIte, again, stepV, wanted, resE, resL, resU, wr, rd, known, fillE, U.cells]
    refine ⟨fun hb => ?_, fun hb => ?_⟩
    · have hlt := of_decide_eq_true hb
      simp (decide := true) (disch := first | omega | rfl) only [↓SD, SP, opE, fget, binA, Nat.reduceEqDiff, reduceIte, again, stepV, wanted, resE, resL, resU, wr, rd, known, fillE, U.cells]
      exact ⟨_, rfl, _, rfl, fun h => by omega⟩
    · have hge := of_decide_eq_false hb
      simp (decide := true) (disch := first | omega | rfl) only [↓SD, SP, opE, fget, binA, Nat.reduceEqDiff, reduceIte, again, stepV, wanted, resE, resL, resU, wr, rd, known, fillE, U.cells]
      refine Wc.loopN (fun i f' q => fget f' 5 = V.i i ∧ fget f' 0 = V.a (.sl b 0 n c) ∧ (∃ x : Int, fget f' 1 = V.i x ∧ 0 ≤ x ∧ x ≤ 1048576) ∧ q = m ∧ ∀ j, j < i → nn j ≤ 1048576) n (fun i f' q hil hS => ?_) ⟨(by simp (decide := true) (disch := first | omega | rfl) only [↓SD, SP, opE, fget, binA, Nat.reduceEqDiff, reduceIte, again, stepV, wanted, resE, resL, resU, wr, rd, known, fillE, U.cells]; try rfl), (by simp (decide := true) (disch := first | omega | rfl) only [↓SD, SP, opE, fget, binA, Nat.reduceEqDiff, reduceIte, again, stepV, wanted, resE, resL, resU, wr, rd, known, fillE, U.cells]; try rfl), ⟨_, (by simp (decide := true) (disch := first | omega | rfl) only [↓SD, SP, opE, fget, binA, Nat.reduceEqDiff, reduceIte, again, stepV, wanted, resE, resL, resU, wr, rd, known, fillE, U.cells]; try rfl), by omega, by omega⟩, rfl, fun j hj => by omega⟩
      obtain ⟨h5, h0, ⟨x, h1, hx0, hx1⟩, rfl, hj⟩ := hS
      unfold laws_szIntSS_L0
      simp (decide := true) (disch := first | omega | rfl) only [↓SD, SP, opE, fget, binA, Nat.reduceEqDiff, reduceIte, again, stepV, wanted, resE, resL, resU, wr, rd, known, fillE, U.cells, h5, h0]
      refine ⟨fun hb => ?_, fun hb => ?_⟩
      · have hlt := of_decide_eq_true hb
        have hq' := hq (by omega)
        have hcell := rowsL_cell (n := cap) (g := g) (j := i) (by omega)
        have hlen : (rowsL cap g).length = cap := rowsL_len
        simp (decide := true) (disch := first | omega | rfl) only [↓SD, SP, opE, fget, binA, Nat.reduceEqDiff, reduceIte, again, stepV, wanted, resE, resL, resU, wr, rd, known, fillE, U.cells, h5, h0, h1, hq', hcell, hlen]
        refine Wo.callR (by simp (decide := true) (disch := first | omega | rfl) only [↓SD, SP, opE, fget, binA, Nat.reduceEqDiff, reduceIte, again, stepV, wanted, resE, resL, resU, wr, rd, known, fillE, U.cells, h1]; try rfl) (szIntS_ok h542 (hr i (by omega)) (hnn i) ⟨hx0, hx1⟩) ?_
        rintro _ q ⟨⟨y, rfl, hy⟩, rfl⟩
        simp (decide := true) (disch := first | omega | rfl) only [↓SD, SP, opE, fget, binA, Nat.reduceEqDiff, reduceIte, again, stepV, wanted, resE, resL, resU, wr, rd, known, fillE, U.cells]
        refine ⟨fun hb => ?_, fun hb => ?_⟩
        · have hneg := of_decide_eq_true hb
          simp (decide := true) (disch := first | omega | rfl) only [↓SD, SP, opE, fget, binA, Nat.reduceEqDiff, reduceIte, again, stepV, wanted, resE, resL, resU, wr, rd, known, fillE, U.cells]
          exact ⟨_, rfl, _, rfl, fun h => by omega⟩
        · have hneg := of_decide_eq_false hb
          obtain ⟨y1, y2⟩ := hy (by omega)
          simp (decide := true) (disch := first | omega | rfl) only [↓SD, SP, opE, fget, binA, Nat.reduceEqDiff, reduceIte, again, stepV, wanted, resE, resL, resU, wr, rd, known, fillE, U.cells, h5]
          refine ⟨by omega, by simp, h0, ⟨_, rfl, by omega, y2⟩, fun j hji => ?_⟩
          by_cases h : j = i
          · rw [h]; exact y1
          · exact hj j (by omega)
      · have hle' := of_decide_eq_false hb
        simp (decide := true) (disch := first | omega | rfl) only [↓SD, SP, opE, fget, binA, Nat.reduceEqDiff, reduceIte, again, stepV, wanted, resE, resL, resU, wr, rd, known, fillE, U.cells, h1]
        exact ⟨_, rfl, _, rfl, fun h => ⟨by omega, fun j hjn => hj j (by omega)⟩⟩

/-- A copy of the laws' own: an outer block, and a block for each row. -/
def Cst (lo : Nat) (m : Mem) (b n : Nat) (nn : Nat → Nat) (ff : Nat → Nat → Int) : Prop :=
  lo ≤ b ∧ ∃ g, m[b]? = some (.cells true (rowsL n g)) ∧ ∀ i, i < n → ∃ bi, g i = .sl bi 0 (nn i) (.ex (nn i)) ∧ b < bi ∧ m[bi]? = some (.cells true (ints (nn i) (ff i)))
theorem Cst.ext {lo : Nat} {m m' : Mem} {b n : Nat} {nn : Nat → Nat} {ff : Nat → Nat → Int} (h : Cst lo m b n nn ff) (he : Ext m m') : Cst lo m' b n nn ff := by
  obtain ⟨h0, g, h1, h2⟩ := h
  exact ⟨h0, g, he.get h1, fun i hi => by obtain ⟨bi, e1, e2, e3⟩ := h2 i hi; exact ⟨bi, e1, e2, he.get e3⟩⟩

theorem toIntSS_ok (h544 : G 544 = some (.code laws_toIntS)) (hG : G 83 = some (.code laws_toIntSS)) {m : Mem} {v : V} {n : Nat} {nn : Nat → Nat} {ff : Nat → Nat → Int} (h : TxII m v n nn ff) (hn : n ≤ 1048576) (hnn : ∀ i, i < n → nn i ≤ 1048576) :
    Rn G 83 [v] m fun r m' => (∃ b, r = V.a (.sl b 0 n (.ex n)) ∧ Cst m.length m' b n nn ff) ∧ Ext m m' := by
  refine Rn.code hG ?_
  unfold laws_toIntSS
  have key : ∀ fr q, fget fr 0 = v → Ext m q → ∀ b, m.length ≤ b → (∃ g, q[b]? = some (.cells true (rowsL n g))) → fget fr 3 = V.a (.sl b 0 n (.ex n)) → fget fr 4 = V.i 0 →
      Wc G (.loop laws_toIntSS_L0) (fun e f' q' => e = .exit 0 ∧ Ext m q' ∧ Cst m.length q' b n nn ff ∧ fget f' 3 = V.a (.sl b 0 n (.ex n))) fr q := by
    intro fr q g0 he b hlo qb g3 g4
    refine Wc.loopN (fun i f' q' => fget f' 4 = V.i i ∧ fget f' 0 = v ∧ fget f' 3 = V.a (.sl b 0 n (.ex n)) ∧ Ext m q' ∧
      ∃ g, q'[b]? = some (.cells true (rowsL n g)) ∧ ∀ j, j < i → ∃ bi, g j = .sl bi 0 (nn j) (.ex (nn j)) ∧ b < bi ∧ q'[bi]? = some (.cells true (ints (nn j) (ff j)))) n (fun i f' q' hil hS => ?_)
      ⟨g4, g0, g3, he, by obtain ⟨g, qb⟩ := qb; exact ⟨g, qb, fun j hj => by omega⟩⟩
    obtain ⟨h4, h0, h3, he, g, qb, hrow⟩ := hS
    have lb := lt_of_get qb
    unfold laws_toIntSS_L0
    rcases h.ext he with ⟨rfl, rfl⟩ | ⟨b', w, cap, c, g', rfl, hle, hq, hr⟩
    · have hi0 : i = 0 := by omega
      subst hi0
      simp (decide := true) (disch := first | omega | rfl) only [↓SD, SP, opE, fget, binA, Nat.reduceEqDiff, reduceIte, again, stepV, wanted, resE, resL, resU, wr, rd, known, fillE, U.cells, h4, h0, h3]
      exact ⟨he, hlo, g, qb, fun j hj => by omega⟩
    · simp (decide := true) (disch := first | omega | rfl) only [↓SD, SP, opE, fget, binA, Nat.reduceEqDiff, reduceIte, again, stepV, wanted, resE, resL, resU, wr, rd, known, fillE, U.cells, h4, h0]
      refine ⟨fun hb => ?_, fun hb => ?_⟩
      · have hlt := of_decide_eq_true hb
        have hq' := hq (by omega)
        have hcell := rowsL_cell (n := cap) (g := g') (j := i) (by omega)
        have hlen : (rowsL cap g').length = cap := rowsL_len
        have hlen2 : ∀ g, (rowsL n g).length = n := fun g => rowsL_len
        simp (decide := true) (disch := first | omega | rfl) only [↓SD, SP, opE, fget, binA, Nat.reduceEqDiff, reduceIte, again, stepV, wanted, resE, resL, resU, wr, rd, known, fillE, U.cells, h4, h0, h3, hq', hcell, hlen]
        refine Wo.callR (by simp (decide := true) (disch := first | omega | rfl) only [↓SD, SP, opE, fget, binA, Nat.reduceEqDiff, reduceIte, again, stepV, wanted, resE, resL, resU, wr, rd, known, fillE, U.cells]; try rfl) (toIntS_ok h544 (hr i (by omega)) (hnn i (by omega))) ?_
        rintro _ q2 ⟨⟨bi, rfl, qi, li⟩, e2⟩
        have qb2 := e2.get qb
        have lb2 := lt_of_get qb2
        have li2 := lt_of_get qi
        simp (decide := true) (disch := first | omega | rfl) only [↓SD, SP, opE, fget, binA, Nat.reduceEqDiff, reduceIte, again, stepV, wanted, resE, resL, resU, wr, rd, known, fillE, U.cells, h4, h0, h3, qb2, hlen2, rowsL_set]
        refine ⟨by omega, by simp, (he.trans e2).set hlo, _, rfl, fun j hj => ?_⟩
        unfold updA
        by_cases hji : j = i
        · subst hji
          exact ⟨bi, if_pos rfl, by omega, by rw [List.getElem?_set_ne (by omega)]; exact qi⟩
        · obtain ⟨bj, e1, e3, e4⟩ := hrow j (by omega)
          exact ⟨bj, by rw [if_neg hji]; exact e1, e3, by rw [List.getElem?_set_ne (by omega)]; exact e2.get e4⟩
      · have : i = n := by have := of_decide_eq_false hb; omega
        subst this
        simp (decide := true) (disch := first | omega | rfl) only [↓SD, SP, opE, fget, binA, Nat.reduceEqDiff, reduceIte, again, stepV, wanted, resE, resL, resU, wr, rd, known, fillE, U.cells, h3]
        exact ⟨he, hlo, g, qb, hrow⟩
  have z : ((0 : Int).toNat) = 0 := rfl
  rcases h with ⟨rfl, rfl⟩ | ⟨b', w, cap, c, g', rfl, hle, hq, hr⟩
  · simp (decide := true) (disch := first | omega | rfl) only [↓SD, SP, opE, fget, binA, Nat.reduceEqDiff, reduceIte, again, stepV, wanted, resE, resL, resU, wr, rd, known, fillE, U.cells, z]
    refine (key _ (m ++ [Blk.cells true (List.replicate 0 [A.nils]).flatten]) (by simp (decide := true) (disch := first | omega | rfl) only [↓SD, SP, opE, fget, binA, Nat.reduceEqDiff, reduceIte, again, stepV, wanted, resE, resL, resU, wr, rd, known, fillE, U.cells]) (Ext.push _ _) m.length (Nat.le_refl _) ⟨fun _ => A.nils, by rw [rowsL_nil]; simp⟩ (by simp (decide := true) (disch := first | omega | rfl) only [↓SD, SP, opE, fget, binA, Nat.reduceEqDiff, reduceIte, again, stepV, wanted, resE, resL, resU, wr, rd, known, fillE, U.cells]) (by simp (decide := true) (disch := first | omega | rfl) only [↓SD, SP, opE, fget, binA, Nat.reduceEqDiff, reduceIte, again, stepV, wanted, resE, resL, resU, wr, rd, known, fillE, U.cells])).mono ?_
    rintro e f' q' ⟨rfl, he, hb, g3⟩
    simp (decide := true) (disch := first | omega | rfl) only [↓SD, SP, opE, fget, binA, Nat.reduceEqDiff, reduceIte, again, stepV, wanted, resE, resL, resU, wr, rd, known, fillE, U.cells, g3]
    exact ⟨_, rfl, ⟨_, rfl, hb⟩, he⟩
  · simp (decide := true) (disch := first | omega | rfl) only [↓SD, SP, opE, fget, binA, Nat.reduceEqDiff, reduceIte, again, stepV, wanted, resE, resL, resU, wr, rd, known, fillE, U.cells]
    refine (key _ (m ++ [Blk.cells true (List.replicate n [A.nils]).flatten]) (by simp (decide := true) (disch := first | omega | rfl) only [↓SD, SP, opE, fget, binA, Nat.reduceEqDiff, reduceIte, again, stepV, wanted, resE, resL, resU, wr, rd, known, fillE, U.cells]) (Ext.push _ _) m.length (Nat.le_refl _) ⟨fun _ => A.nils, by rw [rowsL_nil]; simp⟩ (by simp (decide := true) (disch := first | omega | rfl) only [↓SD, SP, opE, fget, binA, Nat.reduceEqDiff, reduceIte, again, stepV, wanted, resE, resL, resU, wr, rd, known, fillE, U.cells]) (by simp (decide := true) (disch := first | omega | rfl) only [↓SD, SP, opE, fget, binA, Nat.reduceEqDiff, reduceIte, again, stepV, wanted, resE, resL, resU, wr, rd, known, fillE, U.cells])).mono ?_
    rintro e f' q' ⟨rfl, he, hb, g3⟩
    simp (decide := true) (disch := first | omega | rfl) only [↓SD, SP, opE, fget, binA, Nat.reduceEqDiff, reduceIte, again, stepV, wanted, resE, resL, resU, wr, rd, known, fillE, U.cells, g3]
    exact ⟨_, rfl, ⟨_, rfl, hb⟩, he⟩

theorem eqIntSS_ok (h270 : G 270 = some (.code laws_eqIntS)) (hG : G 85 = some (.code laws_eqIntSS)) {m : Mem} {lo lo' b1 b2 n : Nat} {c1 c2 : Cap} {nn : Nat → Nat} {ff : Nat → Nat → Int} (q1 : Cst lo m b1 n nn ff) (q2 : Cst lo' m b2 n nn ff) (hn : n ≤ 1048576) (hnn : ∀ i, i < n → nn i ≤ 1048576) :
    Rn G 85 [V.a (.sl b1 0 n c1), V.a (.sl b2 0 n c2)] m fun r m' => r = V.b true ∧ m' = m := by
  refine Rn.code hG ?_
  unfold laws_eqIntSS
  simp (decide := true) (disch := first | omega | rfl) only [↓SD, SP, opE, fget, binA, Nat.reduceEqDiff, reduceIte, again, stepV, wanted, resE, resL, resU, wr, rd, known, fillE, U.cells, bne_self_eq_false]
  obtain ⟨_, g1, q1, r1⟩ := q1
  obtain ⟨_, g2, q2, r2⟩ := q2
  refine Wc.loopN (fun i f' q => fget f' 5 = V.i i ∧ fget f' 0 = V.a (.sl b1 0 n c1) ∧ fget f' 1 = V.a (.sl b2 0 n c2) ∧ q = m) n (fun i f' q hil hS => ?_) ⟨(by simp (decide := true) (disch := first | omega | rfl) only [↓SD, SP, opE, fget, binA, Nat.reduceEqDiff, reduceIte, again, stepV, wanted, resE, resL, resU, wr, rd, known, fillE, U.cells, bne_self_eq_false]; try rfl), (by simp (decide := true) (disch := first | omega | rfl) only [↓SD, SP, opE, fget, binA, Nat.reduceEqDiff, reduceIte, again, stepV, wanted, resE, resL, resU, wr, rd, known, fillE, U.cells, bne_self_eq_false]; try rfl), (by simp (decide := true) (disch := first | omega | rfl) only [↓SD, SP, opE, fget, binA, Nat.reduceEqDiff, reduceIte, again, stepV, wanted, resE, resL, resU, wr, rd, known, fillE, U.cells, bne_self_eq_false]; try rfl), rfl⟩
  obtain ⟨h5, h0, h1, rfl⟩ := hS
  unfold laws_eqIntSS_L0
  simp (decide := true) (disch := first | omega | rfl) only [↓SD, SP, opE, fget, binA, Nat.reduceEqDiff, reduceIte, again, stepV, wanted, resE, resL, resU, wr, rd, known, fillE, U.cells, h5, h0]
  refine ⟨fun hb => ?_, fun hb => ?_⟩
  · have hlt := of_decide_eq_true hb
    have hc1 := rowsL_cell (n := n) (g := g1) (j := i) (by omega)
    have hc2 := rowsL_cell (n := n) (g := g2) (j := i) (by omega)
    have hlen : ∀ g, (rowsL n g).length = n := fun g => rowsL_len
    obtain ⟨x1, e1, _, p1⟩ := r1 i (by omega)
    obtain ⟨x2, e2, _, p2⟩ := r2 i (by omega)
    simp (decide := true) (disch := first | omega | rfl) only [↓SD, SP, opE, fget, binA, Nat.reduceEqDiff, reduceIte, again, stepV, wanted, resE, resL, resU, wr, rd, known, fillE, U.cells, h5, h0, h1, q1, q2, hc1, hc2, hlen, e1, e2]
    refine Wo.callR (by simp (decide := true) (disch := first | omega | rfl) only [↓SD, SP, opE, fget, binA, Nat.reduceEqDiff, reduceIte, again, stepV, wanted, resE, resL, resU, wr, rd, known, fillE, U.cells]; try rfl) (eqIntS_ok h270 p1 p2 (hnn i (by omega))) ?_
    rintro _ q ⟨rfl, rfl⟩
    simp (decide := true) (disch := first | omega | rfl) only [↓SD, SP, opE, fget, binA, Nat.reduceEqDiff, reduceIte, again, stepV, wanted, resE, resL, resU, wr, rd, known, fillE, U.cells, h5, h0, h1]
    exact ⟨by omega, by simp⟩
  · simp (decide := true) (disch := first | omega | rfl) only [↓SD, SP, opE, fget, binA, Nat.reduceEqDiff, reduceIte, again, stepV, wanted, resE, resL, resU, wr, rd, known, fillE, U.cells]
end Go.AL
