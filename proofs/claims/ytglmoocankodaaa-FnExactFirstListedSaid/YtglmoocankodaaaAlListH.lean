/-
  FirstListed: both sides and the law.
-/
import Derived.Test.YtglmoocankodaaaAlListG
namespace Go.AL
set_option linter.unusedSimpArgs false
set_option linter.unusedVariables false
open F
set_option linter.unusedSimpArgs false
set_option linter.unusedVariables false
variable {G : Env}

def flV (n : Nat) (f : Nat → List UInt8) : V := if listsB n f = true ∧ 0 ≤ totL (listT f) n false then .t [.a (.str (doneS (walkL (listT f) n false 0 n) n)), .a (.bool true)] else .t [.a (.str []), .a (.bool false)]

theorem implFl_ok (h : ColL G) (hi : ColQ G) (h547 : G 547 = some (.code impl_table_first)) (h930 : ∀ {m : Mem} {s : List UInt8} {c : Int}, Rn G 930 [V.s s, V.a (.int .u8 c)] m fun v m' => v = V.i (Lib.indexByte s c.toNat.toUInt8) ∧ m' = m) (hG : G 158 = some (.code impl_FirstListed))
    {m : Mem} {b n : Nat} {c : Cap} {f : Nat → List UInt8} (hq : m[b]? = some (.cells true (strsL n f))) (hn : n ≤ 1048576) (hf : ∀ i, (f i).length ≤ 9223372036854775807) :
    Rn G 158 [V.a (.sl b 0 n c)] m fun v m' => v = flV n f ∧ Ext m m' := by
  refine Rn.code hG ?_
  unfold impl_FirstListed flV
  simp (decide := true) (disch := first | omega | rfl) only [↓SD, SP, opE, fget, binA, Nat.reduceEqDiff, reduceIte, again, stepV, wanted, resE, resL, resU, wr, rd, known, fillE, U.cells]
  refine Wo.callR (by simp (decide := true) (disch := first | omega | rfl) only [↓SD, SP, opE, fget, binA, Nat.reduceEqDiff, reduceIte, again, stepV, wanted, resE, resL, resU, wr, rd, known, fillE, U.cells]; try rfl) (listed_ok h h930 hq hn hf) ?_
  rintro _ m1 ⟨⟨hl, bt, ct, rfl, hbt, hlo⟩ | ⟨hl, rfl⟩, he⟩
  · obtain ⟨⟨h1, h2⟩, _⟩ := lists_spec hl
    rw [hl]
    simp (decide := true) (disch := first | omega | rfl) only [↓SD, SP, opE, fget, binA, Nat.reduceEqDiff, reduceIte, again, stepV, wanted, resE, resL, resU, wr, rd, known, fillE, U.cells]
    refine Wo.callR (by simp (decide := true) (disch := first | omega | rfl) only [↓SD, SP, opE, fget, binA, Nat.reduceEqDiff, reduceIte, again, stepV, wanted, resE, resL, resU, wr, rd, known, fillE, U.cells]; try rfl) (firstG_ok (around := false) hi h547 hbt (zero_costs listT_zero) h1 h2) ?_
    rintro _ m2 ⟨rfl, he2⟩
    by_cases h0 : 0 ≤ totL (listT f) n false
    · simp only [if_pos h0, tot_zero listT_zero h0, true_and]
      simp (decide := true) (disch := first | omega | rfl) only [↓SD, SP, opE, fget, binA, Nat.reduceEqDiff, reduceIte, again, stepV, wanted, resE, resL, resU, wr, rd, known, fillE, U.cells]
      exact ⟨_, rfl, by first | rfl | rw [if_pos (by omega)], he.trans he2⟩
    · simp only [if_neg h0, true_and]
      simp (decide := true) (disch := first | omega | rfl) only [↓SD, SP, opE, fget, binA, Nat.reduceEqDiff, reduceIte, again, stepV, wanted, resE, resL, resU, wr, rd, known, fillE, U.cells]
      exact ⟨_, rfl, by first | rfl | rw [if_neg h0], he.trans he2⟩
  · simp (decide := true) (disch := first | omega | rfl) only [↓SD, SP, opE, fget, binA, Nat.reduceEqDiff, reduceIte, again, stepV, wanted, resE, resL, resU, wr, rd, known, fillE, U.cells]
    exact ⟨_, rfl, by rw [if_neg (by rw [hl]; simp)], he⟩

theorem specFl_ok (hl1 : G 598 = some (.code spec_l1In)) (h588 : G 588 = some (.code spec_coLists)) (h589 : G 589 = some (.code spec_coListed)) (hG : G 157 = some (.code spec_FirstListed))
    {m : Mem} {b n : Nat} {f : Nat → List UInt8} (hq : m[b]? = some (.cells true (strsL n f))) (hn : n ≤ 1048576) (hf : ∀ i, (f i).length ≤ 9223372036854775807) :
    Rn G 157 [V.a (.sl b 0 n (.ex n))] m fun v m' => v = flV n f ∧ Ext m m' := by
  refine Rn.code hG ?_
  unfold spec_FirstListed flV
  simp (decide := true) (disch := first | omega | rfl) only [↓SD, SP, opE, fget, binA, Nat.reduceEqDiff, reduceIte, again, stepV, wanted, resE, resL, resU, wr, rd, known, fillE, U.cells]
  refine Wo.callR (by simp (decide := true) (disch := first | omega | rfl) only [↓SD, SP, opE, fget, binA, Nat.reduceEqDiff, reduceIte, again, stepV, wanted, resE, resL, resU, wr, rd, known, fillE, U.cells]; try rfl) (coLists_ok hl1 h588 hq hn hf) ?_
  rintro _ m ⟨rfl, rfl⟩
  cases hl : listsB n f with
  | false =>
    simp (decide := true) (disch := first | omega | rfl) only [↓SD, SP, opE, fget, binA, Nat.reduceEqDiff, reduceIte, again, stepV, wanted, resE, resL, resU, wr, rd, known, fillE, U.cells]
    exact ⟨_, rfl, by rw [if_neg (by simp)], Ext.refl _⟩
  | true =>
    obtain ⟨⟨h1, h2⟩, h3⟩ := lists_spec hl
    have hP : Part m b 0 n n f := ⟨fun _ => ⟨true, hq⟩, by omega, h3⟩
    have hz : Zero (listT f) := listT_zero
    have htb : totL (listT f) n false = bL (listT f) n (-1) n 5 := rfl
    have hbb := (bwd_bL (n := n) (but := -1) hz n 5).1
    have hbn := (bwd_bound (T := listT f) (n := n) (but := -1) n 5).1
    simp (decide := true) (disch := first | omega | rfl) only [↓SD, SP, opE, fget, binA, Nat.reduceEqDiff, reduceIte, again, stepV, wanted, resE, resL, resU, wr, rd, known, fillE, U.cells]
    refine Wo.callR (by simp (decide := true) (disch := first | omega | rfl) only [↓SD, SP, opE, fget, binA, Nat.reduceEqDiff, reduceIte, again, stepV, wanted, resE, resL, resU, wr, rd, known, fillE, U.cells]; try rfl) (coListed_ok (a := 5) (β := 0) h589 hP h2 (lt_of_get hq) none_ok) ?_
    rintro _ m1 ⟨rfl, he⟩
    rw [show bwd (listT f) (0 + n) (-1) n 5 = bwd (listT f) n (-1) n 5 by rw [Nat.zero_add]]
    by_cases hb0 : bwd (listT f) n (-1) n 5 = 0
    · have hd : (bwd (listT f) n (-1) n 5 == 0) = true := by simpa using hb0
      have h0 : ¬ 0 ≤ totL (listT f) n false := fun h => by have := hbb.2 (by rw [← htb]; exact h); omega
      simp (decide := true) (disch := first | omega | rfl) only [↓SD, SP, opE, fget, binA, Nat.reduceEqDiff, reduceIte, again, stepV, wanted, resE, resL, resU, wr, rd, known, fillE, U.cells, hd]
      exact ⟨_, rfl, by rw [if_neg (fun h => by first | exact h0 h | exact h0 h.2)], he⟩
    · have hd : (bwd (listT f) n (-1) n 5 == 0) = false := by simpa using hb0
      have h0 : 0 ≤ totL (listT f) n false := by rw [htb]; exact hbb.1 (by omega)
      have hx := tot_zero hz h0
      have hC := zero_costs hz
      have hwalk := walkL_ok (n := n) (around := false) hC h0 hx
      simp (decide := true) (disch := first | omega | rfl) only [↓SD, SP, opE, fget, binA, Nat.reduceEqDiff, reduceIte, again, stepV, wanted, resE, resL, resU, wr, rd, known, fillE, U.cells, hd]
      refine Wc.loopN (fun i f' q => fget f' 19 = V.i i ∧ fget f' 18 = V.i n ∧ fget f' 17 = V.a (.sl b 0 n (.ex n)) ∧ fget f' 0 = V.a (.sl b 0 n (.ex n)) ∧ fget f' 4 = V.s (doneS (walkL (listT f) n false 0 i) i) ∧ Ext m q ∧
          ∃ β : Int, fget f' 5 = V.a (.int .u8 β) ∧ ((i = 0 ∧ β = 0) ∨ (0 < i ∧ β = ((97 + walkL (listT f) n false 0 i (i - 1) : Nat) : Int)))) n (fun i f' q hil hS => ?_)
        ⟨(by simp (decide := true) (disch := first | omega | rfl) only [↓SD, SP, opE, fget, binA, Nat.reduceEqDiff, reduceIte, again, stepV, wanted, resE, resL, resU, wr, rd, known, fillE, U.cells]; try rfl), (by simp (decide := true) (disch := first | omega | rfl) only [↓SD, SP, opE, fget, binA, Nat.reduceEqDiff, reduceIte, again, stepV, wanted, resE, resL, resU, wr, rd, known, fillE, U.cells]; try rfl), (by simp (decide := true) (disch := first | omega | rfl) only [↓SD, SP, opE, fget, binA, Nat.reduceEqDiff, reduceIte, again, stepV, wanted, resE, resL, resU, wr, rd, known, fillE, U.cells]; try rfl), (by simp (decide := true) (disch := first | omega | rfl) only [↓SD, SP, opE, fget, binA, Nat.reduceEqDiff, reduceIte, again, stepV, wanted, resE, resL, resU, wr, rd, known, fillE, U.cells]; try rfl), by simp (decide := true) (disch := first | omega | rfl) only [↓SD, SP, opE, fget, binA, Nat.reduceEqDiff, reduceIte, again, stepV, wanted, resE, resL, resU, wr, rd, known, fillE, U.cells]; rfl, he, 0, (by simp (decide := true) (disch := first | omega | rfl) only [↓SD, SP, opE, fget, binA, Nat.reduceEqDiff, reduceIte, again, stepV, wanted, resE, resL, resU, wr, rd, known, fillE, U.cells]; try rfl), .inl ⟨rfl, rfl⟩⟩
      obtain ⟨h19, h18, h17, h0', h4, heq, β, h5, hβ⟩ := hS
      unfold spec_FirstListed_L0
      simp (decide := true) (disch := first | omega | rfl) only [↓SD, SP, opE, fget, binA, Nat.reduceEqDiff, reduceIte, again, stepV, wanted, resE, resL, resU, wr, rd, known, fillE, U.cells, h19, h18]
      refine ⟨fun hb => ?_, fun hb => ?_⟩
      · have hlt := of_decide_eq_true hb
        have hi' : i < n := by omega
        have hq' := heq.get hq
        have hcell := strsL_cell (n := n) (f := f) (j := i) hi'
        have hlen : (strsL n f).length = n := strsL_len
        obtain ⟨hg, hw⟩ := hwalk i hil
        have hex := way_on hC hi' hw
        simp (decide := true) (disch := first | omega | rfl) only [↓SD, SP, opE, fget, binA, Nat.reduceEqDiff, reduceIte, again, stepV, wanted, resE, resL, resU, wr, rd, known, fillE, U.cells, h19, h17, hq', hcell, hlen]
        refine (fl_L1 (b := b) (n := n) (i := i) (cc := .ex n) (f := f) (p := walkL (listT f) n false 0 i) (β := β) h589 (hP.ext heq) h2 hi' (lt_of_get hq') hg hex hβ (by simp (decide := true) (disch := first | omega | rfl) only [↓SD, SP, opE, fget, binA, Nat.reduceEqDiff, reduceIte, again, stepV, wanted, resE, resL, resU, wr, rd, known, fillE, U.cells, h0']) (by simp (decide := true) (disch := first | omega | rfl) only [↓SD, SP, opE, fget, binA, Nat.reduceEqDiff, reduceIte, again, stepV, wanted, resE, resL, resU, wr, rd, known, fillE, U.cells]) (by simp (decide := true) (disch := first | omega | rfl) only [↓SD, SP, opE, fget, binA, Nat.reduceEqDiff, reduceIte, again, stepV, wanted, resE, resL, resU, wr, rd, known, fillE, U.cells]) (by simp (decide := true) (disch := first | omega | rfl) only [↓SD, SP, opE, fget, binA, Nat.reduceEqDiff, reduceIte, again, stepV, wanted, resE, resL, resU, wr, rd, known, fillE, U.cells, h5]) (by simp (decide := true) (disch := first | omega | rfl) only [↓SD, SP, opE, fget, binA, Nat.reduceEqDiff, reduceIte, again, stepV, wanted, resE, resL, resU, wr, rd, known, fillE, U.cells]) (by simp (decide := true) (disch := first | omega | rfl) only [↓SD, SP, opE, fget, binA, Nat.reduceEqDiff, reduceIte, again, stepV, wanted, resE, resL, resU, wr, rd, known, fillE, U.cells, h4])).mono ?_
        rintro e f2 q2 ⟨rfl, he2, g4, g5, hk⟩
        have j19 := hk 19 (by decide); have j18 := hk 18 (by decide); have j17 := hk 17 (by decide); have j0 := hk 0 (by decide)
        simp (decide := true) only [↓SD, SP, opE, fget, binA, Nat.reduceEqDiff, reduceIte, again, stepV, wanted, resE, resL, resU, wr, rd, known, fillE, U.cells, h19, h18, h17, h0'] at j19 j18 j17 j0
        simp (decide := true) (disch := first | omega | rfl) only [↓SD, SP, opE, fget, binA, Nat.reduceEqDiff, reduceIte, again, stepV, wanted, resE, resL, resU, wr, rd, known, fillE, U.cells, j19]
        refine ⟨hi', by simp, j18, j17, j0, g4, heq.trans he2, _, g5, .inr ⟨by omega, ?_⟩⟩
        have : walkL (listT f) n false 0 (i + 1) (i + 1 - 1) = nextL (listT f) n false (walkL (listT f) n false 0 i) i 0 := by
          show put1 _ i _ (i + 1 - 1) = _
          unfold put1; rw [if_pos (by omega)]
        rw [this]
      · have hlt := of_decide_eq_false hb
        have : i = n := by omega
        subst this
        simp (decide := true) (disch := first | omega | rfl) only [↓SD, SP, opE, fget, binA, Nat.reduceEqDiff, reduceIte, again, stepV, wanted, resE, resL, resU, wr, rd, known, fillE, U.cells, h4]
        exact ⟨_, rfl, by first | rfl | rw [if_pos ⟨rfl, h0⟩], heq⟩

theorem lawFl (h : ColL G) (hi : ColQ G) (h547 : G 547 = some (.code impl_table_first)) (h930 : ∀ {m : Mem} {s : List UInt8} {c : Int}, Rn G 930 [V.s s, V.a (.int .u8 c)] m fun v m' => v = V.i (Lib.indexByte s c.toNat.toUInt8) ∧ m' = m) (h158 : G 158 = some (.code impl_FirstListed))
    (hl1 : G 598 = some (.code spec_l1In)) (h588 : G 588 = some (.code spec_coLists)) (h589 : G 589 = some (.code spec_coListed)) (h157 : G 157 = some (.code spec_FirstListed))
    (h122 : G 122 = some (.code laws_szStringS)) (h124 : G 124 = some (.code laws_toStringS)) (h126 : G 126 = some (.code laws_eqStringS)) {num : Nat} (hnum : G num = some (.code laws_FnExactFirstListed))
    {m : Mem} {v : V} {f : Nat → List UInt8} (hv : IsRow m v (fun i => .str (f i))) (hf : ∀ i, (f i).length ≤ 9223372036854775807) : ∃ k m', run G k num [v] m = some (V.b true, m') := by
  obtain ⟨n, hn, hT⟩ := TxL.of hv
  exact lawTx_ok (x := 157) (y := 158) (val := flV n f) hnum h122 h124 h126 hT hn hf (.inr (by unfold flV; split <;> exact ⟨_, _, rfl⟩)) (fun mm b hq hn => specFl_ok hl1 h588 h589 h157 hq hn hf) (fun mm b hq hn => implFl_ok h hi h547 h930 h158 hq hn hf)
end Go.AL
