/-
  The program's first fence of the least cost, for any table of costs.
-/
import Derived.Test.YtglmoocankodaaaAlColCost2
import Derived.Test.YtglmoocankodaaaAlColFirst
import Derived.Test.YtglmoocankodaaaAlColFew2
namespace Go.AL
set_option linter.unusedSimpArgs false
set_option linter.unusedVariables false
open F
set_option linter.unusedSimpArgs false
set_option linter.unusedVariables false
variable {G : Env}

theorem firstB_eq {P : Nat → Bool} {c : Nat} : ∀ k c0, c0 ≤ c → c < c0 + k → (∀ d, c0 ≤ d → d < c → P d = false) → P c = true → firstB P k c0 = c
  | 0, c0, h1, h2, _, _ => by omega
  | k + 1, c0, h1, h2, h3, h4 => by
    unfold firstB
    by_cases h : c0 = c
    · rw [h, if_pos h4]
    · rw [if_neg (by rw [h3 c0 (Nat.le_refl _) (by omega)]; decide)]
      exact firstB_eq k (c0 + 1) (by omega) (by omega) (fun d g1 g2 => h3 d (by omega) g2) h4

theorem bytesOf_done {p : Nat → Nat} {n : Nat} : bytesOf (bytesP p n) = some (doneS p n) := by
  have : ∀ l : List Nat, bytesOf (l.map fun j => A.int .u8 ((97 + p j : Nat) : Int)) = some (l.map fun j => UInt8.ofNat (97 + p j)) := by
    intro l
    induction l with
    | nil => rfl
    | cons j l ih => simp only [List.map_cons, bytesOf, ih, Int.toNat_natCast]
  exact this _

structure ColQ (G : Env) : Prop where
  look : G 562 = some (.code impl_table_look)
  fixed : G 878 = some (.code impl_table_fixed)
  clone : G 966 = some (.code slices_Clone_impl_table_5_int)
  line : G 893 = some (.code impl_table_line)
/-- The next colour on the way. -/
abbrev nextL (T : Nat → Int) (n : Nat) (around : Bool) (p : Nat → Nat) (i : Nat) (x : Int) : Nat := firstB (fun c => decide (okL T n around p i c x)) 5 0

set_option maxHeartbeats 2000000 in
theorem firstG_L1 (hi : ColQ G) {T0 : Nat → Int} {n i : Nat} {around : Bool} {x : Int} {p : Nat → Nat} {fr : Fr} {m q : Mem} (hC : Costs T0) (hs : n ≤ 20) (hil : i < n) (hg : Good T0 p i) (hex : ∃ c, c < 5 ∧ okL T0 n around p i c x)
    (he : Ext m q) (f1 : fget fr 1 = V.b around) (f7 : fget fr 7 = V.i x) (f9 : fget fr 9 = V.i i) (f28 : fget fr 28 = V.i 0)
    (ft : ∃ b cc, fget fr 0 = V.a (.sl b 0 n cc) ∧ q[b]? = some (.cells true (ints (n * 5) (preT T0 p i))) ) (fo : Own m.length q (fget fr 8) 1 i (bytesP p i)) :
    Wc G (.loop impl_table_first_L1) (fun e f' q' => e = .exit 2 ∧ Ext m q' ∧ (∃ b cc, fget f' 0 = V.a (.sl b 0 n cc) ∧ q'[b]? = some (.cells true (ints (n * 5) (preT T0 (put1 p i (nextL T0 n around p i x)) (i + 1))))) ∧
      Own m.length q' (fget f' 8) 1 (i + 1) (bytesP (put1 p i (nextL T0 n around p i x)) (i + 1)) ∧ Keep slotsF1 fr f') fr q := by
  obtain ⟨bt, ct, f0, qt⟩ := ft
  obtain ⟨bo, co, f8, hco, qo, hol, hlo⟩ := fo
  refine Wc.loopN (fun c f q' => fget f 28 = V.i c ∧ Keep slotsF1 fr f ∧ Ext q q' ∧ fget f 0 = V.a (.sl bt 0 n ct) ∧ fget f 8 = V.a (.sl bo 0 i co) ∧ ∀ d, d < c → ¬ okL T0 n around p i d x) 5 (fun c f q' hcT hS => ?_)
    ⟨f28, Keep.refl, Ext.refl _, f0, f8, fun d hd => by omega⟩
  obtain ⟨h28, hk, heq, h0, h8, hno⟩ := hS
  have k1 := (hk 1 (by decide)).trans f1; have k7 := (hk 7 (by decide)).trans f7; have k9 := (hk 9 (by decide)).trans f9
  have qt' := heq.get qt; have qo' := heq.get qo
  have lo' := lt_of_get qo'
  have hlt : c < 5 := by
    obtain ⟨d, h1, h2⟩ := hex
    by_cases h : c < 5
    · exact h
    · exact absurd h2 (hno d (by omega))
  have hst := look_step (x := x) (around := around) hC hil hs hlt hg
  have hnn : ∀ k, 0 ≤ fixT (preT T0 p i) i c k := ((hC.pre (p := p) i).fix i c).nn
  unfold impl_table_first_L1
  have hd5 : decide ((c : Int) < 5) = true := by rw [decide_eq_true_eq]; omega
  simp (decide := true) (disch := first | omega | rfl) only [↓SD, SP, opE, fget, binA, Nat.reduceEqDiff, reduceIte, again, stepV, wanted, resE, resL, resU, wr, rd, known, fillE, U.cells, h28, hd5, k9, h0]
  refine Wo.callR (by simp (decide := true) (disch := first | omega | rfl) only [↓SD, SP, opE, fget, binA, Nat.reduceEqDiff, reduceIte, again, stepV, wanted, resE, resL, resU, wr, rd, known, fillE, U.cells]; try rfl) (fixed_ok (board := i) (col := c) hi.fixed hi.clone qt' hil (by omega)) ?_
  rintro _ m1 ⟨b1, rfl, hb1, he1, hlo1⟩
  simp (decide := true) (disch := first | omega | rfl) only [↓SD, SP, opE, fget, binA, Nat.reduceEqDiff, reduceIte, again, stepV, wanted, resE, resL, resU, wr, rd, known, fillE, U.cells, k1]
  refine Wo.callR (by simp (decide := true) (disch := first | omega | rfl) only [↓SD, SP, opE, fget, binA, Nat.reduceEqDiff, reduceIte, again, stepV, wanted, resE, resL, resU, wr, rd, known, fillE, U.cells]; try rfl) (look_ok hi.look hi.fixed hi.clone hi.line hb1 (by omega) hs hnn) ?_
  rintro _ m2 ⟨rfl, he2⟩
  have no : ¬ okL T0 n around p i c x → ∀ d, d < c + 1 → ¬ okL T0 n around p i d x := fun h d hd => by
    by_cases hdc : d = c
    · rw [hdc]; exact h
    · exact hno d (by omega)
  simp (decide := true) (disch := first | omega | rfl) only [↓SD, SP, opE, fget, binA, Nat.reduceEqDiff, reduceIte, again, stepV, wanted, resE, resL, resU, wr, rd, known, fillE, U.cells, k7]
  refine ⟨fun hb => ?_, fun hb => ?_⟩
  · have h6 := of_decide_eq_true hb
    by_cases h7 : leastT (fixT (preT T0 p i) i c) n around = x
    · have hd7 : (leastT (fixT (preT T0 p i) i c) n around == x) = true := by rw [beq_iff_eq]; exact h7
      have hok := hst.1 ⟨h6, h7⟩
      have hw : IntKind.u8.wrap (97 + (c : Int)) = ((97 + c : Nat) : Int) := by rw [IntKind.wrap_u8]; omega
      have qo2 := he2.get (he1.get qo')
      have lo2 := lt_of_get qo2
      obtain ⟨m', hap, hm1, hm2, hm3⟩ := appE_own (m := m2 ++ [Blk.cells true [A.int .u8 ((97 + c : Nat) : Int)]]) (s := 1) (bytes := 1) (b := bo) (i := i) (n := 1) (c := co) (cs := bytesP p i) (new := [A.int .u8 ((97 + c : Nat) : Int)])
        (y := .sl m2.length 0 1 (.ex 1)) rfl (by unfold srcCells; simp (decide := true) (disch := first | omega | rfl) only [↓SD, SP, opE, fget, binA, Nat.reduceEqDiff, reduceIte, again, stepV, wanted, resE, resL, resU, wr, rd, known, fillE, U.cells]; rfl) (by omega) (by omega) (by simp (decide := true) (disch := first | omega | rfl) only [↓SD, SP, opE, fget, binA, Nat.reduceEqDiff, reduceIte, again, stepV, wanted, resE, resL, resU, wr, rd, known, fillE, U.cells, qo2]) hol hco (by omega) (by omega)
      simp only [y102] at hap hm1 hm2 hm3
      simp (decide := true) (disch := first | omega | rfl) only [↓SD, SP, opE, fget, binA, Nat.reduceEqDiff, reduceIte, again, stepV, wanted, resE, resL, resU, wr, rd, known, fillE, U.cells, hb, hd7, k7, h8, hw, List.set_cons_zero, hap]
      have e : nextL T0 n around p i x = c := firstB_eq 5 0 (Nat.zero_le _) (by omega) (fun d _ hd => decide_eq_false (hno d hd)) (decide_eq_true hok)
      rw [e]
      have hE : Ext m m2 := ((he.trans heq).trans he1).trans he2
      have hEl := hE.1
      have lb1 := lt_of_get (he2.get hb1)
      refine ⟨⟨by omega, fun x hx => ?_⟩, ⟨b1, _, rfl, ?_⟩, ⟨_, _, rfl, .inr rfl, by rw [hm1, bytesP_put], by rw [bytesP_len]; omega, by omega⟩, (by (repeat (refine Keep.set ?_ (by decide))); exact hk)⟩
      · rw [hm3 x (by omega) (by omega), y96 (by omega)]; exact hE.2 x hx
      · rw [hm3 b1 (by omega) (by omega), y96 lb1, he2.get hb1, preT_succ]
    · have hd7 : (leastT (fixT (preT T0 p i) i c) n around == x) = false := by rw [beq_eq_false_iff_ne]; exact h7
      simp (decide := true) (disch := first | omega | rfl) only [↓SD, SP, opE, fget, binA, Nat.reduceEqDiff, reduceIte, again, stepV, wanted, resE, resL, resU, wr, rd, known, fillE, U.cells, hb, hd7, k7, h28]
      exact ⟨hlt, by simp, (by (repeat (refine Keep.set ?_ (by decide))); exact hk), (heq.trans he1).trans he2, h0, h8, no (fun h => h7 (hst.2 h).2)⟩
  · have h6 := of_decide_eq_false hb
    simp (decide := true) (disch := first | omega | rfl) only [↓SD, SP, opE, fget, binA, Nat.reduceEqDiff, reduceIte, again, stepV, wanted, resE, resL, resU, wr, rd, known, fillE, U.cells, hb, h28]
    exact ⟨hlt, by simp, (by (repeat (refine Keep.set ?_ (by decide))); exact hk), (heq.trans he1).trans he2, h0, h8, no (fun h => h6 (hst.2 h).1)⟩

set_option maxHeartbeats 2000000 in
theorem firstG_ok (hi : ColQ G) (hG : G 547 = some (.code impl_table_first)) {m : Mem} {n bt : Nat} {cc : Cap} {T0 : Nat → Int} {around : Bool} (qt : m[bt]? = some (.cells true (ints (n * 5) T0))) (hC : Costs T0) (h1 : 1 ≤ n) (hs : n ≤ 20) :
    Rn G 547 [V.a (.sl bt 0 n cc), V.b around] m fun v m' => (v = if 0 ≤ totL T0 n around then .t [.a (.str (doneS (walkL T0 n around (totL T0 n around) n) n)), .a (.bool true)] else .t [.a (.str []), .a (.bool false)]) ∧ Ext m m' := by
  refine Rn.code hG ?_
  unfold impl_table_first
  simp (decide := true) (disch := first | omega | rfl) only [↓SD, SP, opE, fget, binA, Nat.reduceEqDiff, reduceIte, again, stepV, wanted, resE, resL, resU, wr, rd, known, fillE, U.cells]
  refine Wo.callR (by simp (decide := true) (disch := first | omega | rfl) only [↓SD, SP, opE, fget, binA, Nat.reduceEqDiff, reduceIte, again, stepV, wanted, resE, resL, resU, wr, rd, known, fillE, U.cells]; try rfl) (look_ok (around := around) hi.look hi.fixed hi.clone hi.line qt (by omega) hs hC.nn) ?_
  rintro _ m1 ⟨rfl, he⟩
  obtain ⟨t1, t2⟩ := total (around := around) hC h1 hs
  have hcn := cnt_nonneg (T := T0) (around := around) hs
  simp (decide := true) (disch := first | omega | rfl) only [↓SD, SP, opE, fget, binA, Nat.reduceEqDiff, reduceIte, again, stepV, wanted, resE, resL, resU, wr, rd, known, fillE, U.cells]
  refine ⟨fun hb => ?_, fun hb => ?_⟩
  · have h0 : cntT T0 n around = 0 := by simpa using hb
    have hn : ¬ 0 ≤ totL T0 n around := fun h => by have := t1.2 h; omega
    simp (decide := true) (disch := first | omega | rfl) only [↓SD, SP, opE, fget, binA, Nat.reduceEqDiff, reduceIte, again, stepV, wanted, resE, resL, resU, wr, rd, known, fillE, U.cells]
    exact ⟨_, rfl, by rw [if_neg hn], he⟩
  · have hne : cntT T0 n around ≠ 0 := by simpa using hb
    have hpos : 0 < cntT T0 n around := by omega
    have htot := t1.1 hpos
    rw [if_pos htot, t2 hpos]
    generalize hx : totL T0 n around = x at htot ⊢
    rw [← hx] at htot
    have lb := lt_of_get (he.get qt)
    have hE : Ext m (m1 ++ [Blk.cells true []]) := he.trans (Ext.push _ _)
    simp (decide := true) (disch := first | omega | rfl) only [↓SD, SP, opE, fget, binA, Nat.reduceEqDiff, reduceIte, again, stepV, wanted, resE, resL, resU, wr, rd, known, fillE, U.cells]
    refine Wc.loopN (fun i f q => fget f 25 = V.i i ∧ fget f 24 = V.i n ∧ fget f 1 = V.b around ∧ fget f 7 = V.i x ∧ Ext m q ∧
      (∃ b cc, fget f 0 = V.a (.sl b 0 n cc) ∧ q[b]? = some (.cells true (ints (n * 5) (preT T0 (walkL T0 n around x i) i)))) ∧ Own m.length q (fget f 8) 1 i (bytesP (walkL T0 n around x i) i)) n (fun i f q hil hS => ?_)
      ⟨(by simp (decide := true) (disch := first | omega | rfl) only [↓SD, SP, opE, fget, binA, Nat.reduceEqDiff, reduceIte, again, stepV, wanted, resE, resL, resU, wr, rd, known, fillE, U.cells]; try rfl), (by simp (decide := true) (disch := first | omega | rfl) only [↓SD, SP, opE, fget, binA, Nat.reduceEqDiff, reduceIte, again, stepV, wanted, resE, resL, resU, wr, rd, known, fillE, U.cells]; try rfl), (by simp (decide := true) (disch := first | omega | rfl) only [↓SD, SP, opE, fget, binA, Nat.reduceEqDiff, reduceIte, again, stepV, wanted, resE, resL, resU, wr, rd, known, fillE, U.cells]; try rfl), (by simp (decide := true) (disch := first | omega | rfl) only [↓SD, SP, opE, fget, binA, Nat.reduceEqDiff, reduceIte, again, stepV, wanted, resE, resL, resU, wr, rd, known, fillE, U.cells]; try rfl), hE, ⟨bt, cc, (by simp (decide := true) (disch := first | omega | rfl) only [↓SD, SP, opE, fget, binA, Nat.reduceEqDiff, reduceIte, again, stepV, wanted, resE, resL, resU, wr, rd, known, fillE, U.cells]; try rfl), by rw [y96 lb]; exact he.get qt⟩, by simp (decide := true) (disch := first | omega | rfl) only [↓SD, SP, opE, fget, binA, Nat.reduceEqDiff, reduceIte, again, stepV, wanted, resE, resL, resU, wr, rd, known, fillE, U.cells]; exact ⟨m1.length, .ex 0, rfl, .inl rfl, by simp; rfl, rfl, he.1⟩⟩
    obtain ⟨h25, h24, h1', h7, heq, ht, ho⟩ := hS
    unfold impl_table_first_L0
    simp (decide := true) (disch := first | omega | rfl) only [↓SD, SP, opE, fget, binA, Nat.reduceEqDiff, reduceIte, again, stepV, wanted, resE, resL, resU, wr, rd, known, fillE, U.cells, h25, h24]
    refine ⟨fun hb => ?_, fun hb => ?_⟩
    · have hlt := of_decide_eq_true hb
      obtain ⟨hg, hw⟩ := walkL_ok hC htot hx i hil
      have hex := way_on hC (show i < n by omega) hw
      simp (decide := true) (disch := first | omega | rfl) only [↓SD, SP, opE, fget, binA, Nat.reduceEqDiff, reduceIte, again, stepV, wanted, resE, resL, resU, wr, rd, known, fillE, U.cells, h25]
      refine (firstG_L1 (T0 := T0) (n := n) (i := i) (around := around) (x := x) (p := walkL T0 n around x i) (m := m) hi hC hs (by omega) hg hex heq (by simp (decide := true) (disch := first | omega | rfl) only [↓SD, SP, opE, fget, binA, Nat.reduceEqDiff, reduceIte, again, stepV, wanted, resE, resL, resU, wr, rd, known, fillE, U.cells, h1']) (by simp (decide := true) (disch := first | omega | rfl) only [↓SD, SP, opE, fget, binA, Nat.reduceEqDiff, reduceIte, again, stepV, wanted, resE, resL, resU, wr, rd, known, fillE, U.cells, h7]) (by simp (decide := true) (disch := first | omega | rfl) only [↓SD, SP, opE, fget, binA, Nat.reduceEqDiff, reduceIte, again, stepV, wanted, resE, resL, resU, wr, rd, known, fillE, U.cells]) (by simp (decide := true) (disch := first | omega | rfl) only [↓SD, SP, opE, fget, binA, Nat.reduceEqDiff, reduceIte, again, stepV, wanted, resE, resL, resU, wr, rd, known, fillE, U.cells])
        (by obtain ⟨b, cc, g1, g2⟩ := ht; exact ⟨b, cc, by simp (decide := true) (disch := first | omega | rfl) only [↓SD, SP, opE, fget, binA, Nat.reduceEqDiff, reduceIte, again, stepV, wanted, resE, resL, resU, wr, rd, known, fillE, U.cells, g1], g2⟩) (by simp (decide := true) (disch := first | omega | rfl) only [↓SD, SP, opE, fget, binA, Nat.reduceEqDiff, reduceIte, again, stepV, wanted, resE, resL, resU, wr, rd, known, fillE, U.cells]; exact ho)).mono ?_
      rintro e f' q' ⟨rfl, he', ht', ho', hk⟩
      have j25 := hk 25 (by decide); have j24 := hk 24 (by decide); have j1 := hk 1 (by decide); have j7 := hk 7 (by decide)
      simp (decide := true) only [↓SD, SP, opE, fget, binA, Nat.reduceEqDiff, reduceIte, again, stepV, wanted, resE, resL, resU, wr, rd, known, fillE, U.cells, h25, h24, h1', h7] at j25 j24 j1 j7
      simp (decide := true) (disch := first | omega | rfl) only [↓SD, SP, opE, fget, binA, Nat.reduceEqDiff, reduceIte, again, stepV, wanted, resE, resL, resU, wr, rd, known, fillE, U.cells, j25]
      exact ⟨by omega, by simp, j24, j1, j7, he', ht', ho'⟩
    · have hlt := of_decide_eq_false hb
      have : i = n := by omega
      subst this
      obtain ⟨bo, co, g8, hco, qo, hol, hlo'⟩ := ho
      have hbl : (bytesP (walkL T0 i around x i) i).length = i := bytesP_len
      have tk : List.take i (bytesP (walkL T0 i around x i) i) = bytesP (walkL T0 i around x i) i := List.take_of_length_le (by rw [hbl]; exact Nat.le_refl _)
      simp (decide := true) (disch := first | omega | rfl) only [↓SD, SP, opE, fget, binA, Nat.reduceEqDiff, reduceIte, again, stepV, wanted, resE, resL, resU, wr, rd, known, fillE, U.cells, g8, qo, hbl, tk, bytesOf_done]
      exact ⟨_, rfl, rfl, heq⟩
end Go.AL
