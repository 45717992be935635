/-
  The program's first fence, of tables that cost nothing.
-/
import Derived.Test.YtglmoocankodaaaAlColOf
import Derived.Test.YtglmoocankodaaaAlColZero
namespace Go.AL
set_option linter.unusedSimpArgs false
set_option linter.unusedVariables false
open F
set_option linter.unusedSimpArgs false
set_option linter.unusedVariables false
variable {G : Env}

theorem preT_zero {T : Nat → Int} {p : Nat → Nat} (hz : Zero T) : ∀ k, Zero (preT T p k)
  | 0 => hz
  | k + 1 => fix_zero (preT_zero hz k) k _

/-- At rank 0 the walk takes the first colour that has a fence. -/
theorem pick_zero {C : Nat → Int} (h : ∀ c, 0 ≤ C c) : ∀ k c, (pick C k c 0).2 = 0
  | 0, c => rfl
  | k + 1, c => by
    have := h c
    unfold pick
    split
    · rfl
    · rw [show (0 : Int) - C c = 0 by omega]; exact pick_zero h k (c + 1)
theorem walk_zero {s : List UInt8} {tn : Nat} {around : Bool} (ht : tn ≤ 5) (hs : s.length ≤ 20) : ∀ i, (walkR s tn around 0 i).2 = 0
  | 0 => rfl
  | i + 1 => by
    show (pick _ tn 0 (walkR s tn around 0 i).2).2 = 0
    rw [walk_zero ht hs i]
    exact pick_zero (fun c => (stepC_bound ht hs).1) _ _

abbrev slotsF1 : List Nat := 0 :: 8 :: 10 :: 11 :: 12 :: 13 :: List.range' 28 28

set_option maxHeartbeats 2000000 in
theorem first_L1 (hi : ColI G) {T0 : Nat → Int} {s : List UInt8} {T i : Nat} {around : Bool} {p : Nat → Nat} {fr : Fr} {m q : Mem} (H : Tells T0 s T) (hz : Zero T0) (hT : T ≤ 5) (hs : s.length ≤ 20) (hil : i < s.length) (hg : GoodP s T p i)
    (hr : 0 < sm (stepC s T around p i) T) (he : Ext m q) (f1 : fget fr 1 = V.b around) (f7 : fget fr 7 = V.i 0) (f9 : fget fr 9 = V.i i) (f28 : fget fr 28 = V.i 0)
    (ft : ∃ b cc, fget fr 0 = V.a (.sl b 0 s.length cc) ∧ q[b]? = some (.cells true (ints (s.length * 5) (preT T0 p i))) ) (fo : Own m.length q (fget fr 8) 1 i (bytesP p i)) :
    Wc G (.loop impl_table_first_L1) (fun e f' q' => e = .exit 2 ∧ Ext m q' ∧ (∃ b cc, fget f' 0 = V.a (.sl b 0 s.length cc) ∧ q'[b]? = some (.cells true (ints (s.length * 5) (preT T0 (put1 p i (pick (stepC s T around p i) T 0 0).1) (i + 1))))) ∧
      Own m.length q' (fget f' 8) 1 (i + 1) (bytesP (put1 p i (pick (stepC s T around p i) T 0 0).1) (i + 1)) ∧ Keep slotsF1 fr f') fr q := by
  obtain ⟨bt, ct, f0, qt⟩ := ft
  obtain ⟨bo, co, f8, hco, qo, hol, hlo⟩ := fo
  refine Wc.loopN (fun c f q' => fget f 28 = V.i c ∧ Keep slotsF1 fr f ∧ Ext q q' ∧ fget f 0 = V.a (.sl bt 0 s.length ct) ∧ fget f 8 = V.a (.sl bo 0 i co) ∧ c ≤ T ∧ 0 < sm (fun j => stepC s T around p i (c + j)) (T - c) ∧ pick (stepC s T around p i) T 0 0 = pick (stepC s T around p i) (T - c) c 0) T (fun c f q' hcT hS => ?_)
    ⟨f28, Keep.refl, Ext.refl _, f0, f8, Nat.zero_le _, by simpa using hr, by simp⟩
  obtain ⟨h28, hk, heq, h0, h8, hcT', hrc, hpk⟩ := hS
  have k1 := (hk 1 (by decide)).trans f1; have k7 := (hk 7 (by decide)).trans f7; have k9 := (hk 9 (by decide)).trans f9
  have qt' := heq.get qt; have qo' := heq.get qo
  have lo' := lt_of_get qo'
  have hlt : c < T := by
    by_cases h : c < T
    · exact h
    · rw [show T - c = 0 by omega] at hrc; simp [sm] at hrc
  obtain ⟨d, hd⟩ : ∃ d, T - c = d + 1 := ⟨T - c - 1, by omega⟩
  have hd' : T - (c + 1) = d := by omega
  rw [hd, sm_head] at hrc
  have hps : pick (stepC s T around p i) (d + 1) c 0 = if 0 < stepC s T around p i c then (c, 0) else pick (stepC s T around p i) d (c + 1) (0 - stepC s T around p i c) := rfl
  rw [hd, hps] at hpk
  have hCb := stepC_bound (i := i) (c := c) (around := around) (p := p) hT hs
  have hst : cntT (fixT (preT T0 p i) i c) s.length around = stepC s T around p i c := cnt_step H hT hil hs (by omega) (good_of H hT (by omega) hg)
  have hnn : ∀ k, 0 ≤ fixT (preT T0 p i) i c k := zero_nonneg (fix_zero (preT_zero hz i) i c)
  unfold impl_table_first_L1
  have hd5 : decide ((c : Int) < 5) = true := by rw [decide_eq_true_eq]; omega
  simp (decide := true) (disch := first | omega | rfl) only [↓SD, SP, opE, fget, binA, Nat.reduceEqDiff, reduceIte, again, stepV, wanted, resE, resL, resU, wr, rd, known, fillE, U.cells, h28, hd5, k9, h0]
  refine Wo.callR (by simp (decide := true) (disch := first | omega | rfl) only [↓SD, SP, opE, fget, binA, Nat.reduceEqDiff, reduceIte, again, stepV, wanted, resE, resL, resU, wr, rd, known, fillE, U.cells]; try rfl) (fixed_ok (board := i) (col := c) hi.fixed hi.clone qt' hil (by omega)) ?_
  rintro _ m1 ⟨b1, rfl, hb1, he1, hlo1⟩
  simp (decide := true) (disch := first | omega | rfl) only [↓SD, SP, opE, fget, binA, Nat.reduceEqDiff, reduceIte, again, stepV, wanted, resE, resL, resU, wr, rd, known, fillE, U.cells, k1]
  refine Wo.callR (by simp (decide := true) (disch := first | omega | rfl) only [↓SD, SP, opE, fget, binA, Nat.reduceEqDiff, reduceIte, again, stepV, wanted, resE, resL, resU, wr, rd, known, fillE, U.cells]; try rfl) (look_ok hi.look hi.fixed hi.clone hi.line hb1 (by omega) hs hnn) ?_
  rintro _ m2 ⟨rfl, he2⟩
  have hl0 := leastT_zero (fix_zero (preT_zero (p := p) hz i) i c) hs (around := around)
  rw [hst] at hl0 ⊢
  simp (decide := true) (disch := first | omega | rfl) only [↓SD, SP, opE, fget, binA, Nat.reduceEqDiff, reduceIte, again, stepV, wanted, resE, resL, resU, wr, rd, known, fillE, U.cells, k7]
  refine ⟨fun hb => ?_, fun hb => ?_⟩
  · have h6 := of_decide_eq_true hb
    rw [hl0 h6]
    have hw : IntKind.u8.wrap (97 + (c : Int)) = ((97 + c : Nat) : Int) := by rw [IntKind.wrap_u8]; omega
    have qo2 := he2.get (he1.get qo')
    have lo2 := lt_of_get qo2
    obtain ⟨m', hap, hm1, hm2, hm3⟩ := appE_own (m := m2 ++ [Blk.cells true [A.int .u8 ((97 + c : Nat) : Int)]]) (s := 1) (bytes := 1) (b := bo) (i := i) (n := 1) (c := co) (cs := bytesP p i) (new := [A.int .u8 ((97 + c : Nat) : Int)])
      (y := .sl m2.length 0 1 (.ex 1)) rfl (by unfold srcCells; simp (decide := true) (disch := first | omega | rfl) only [↓SD, SP, opE, fget, binA, Nat.reduceEqDiff, reduceIte, again, stepV, wanted, resE, resL, resU, wr, rd, known, fillE, U.cells]; rfl) (by omega) (by omega) (by simp (decide := true) (disch := first | omega | rfl) only [↓SD, SP, opE, fget, binA, Nat.reduceEqDiff, reduceIte, again, stepV, wanted, resE, resL, resU, wr, rd, known, fillE, U.cells, qo2]) hol hco (by omega) (by omega)
    simp only [y102] at hap hm1 hm2 hm3
    simp (decide := true) (disch := first | omega | rfl) only [↓SD, SP, opE, fget, binA, Nat.reduceEqDiff, reduceIte, again, stepV, wanted, resE, resL, resU, wr, rd, known, fillE, U.cells, hb, k7, h8, hw, List.set_cons_zero, hap]
    have e : pick (stepC s T around p i) T 0 0 = (c, 0) := by rw [hpk, if_pos h6]
    rw [e]
    have hE : Ext m m2 := ((he.trans heq).trans he1).trans he2
    have hEl := hE.1
    have lb1 := lt_of_get (he2.get hb1)
    refine ⟨⟨by omega, fun x hx => ?_⟩, ⟨b1, _, rfl, ?_⟩, ⟨_, _, rfl, .inr rfl, by rw [hm1, bytesP_put], by rw [bytesP_len]; omega, by omega⟩, (by (repeat (refine Keep.set ?_ (by decide))); exact hk)⟩
    · rw [hm3 x (by omega) (by omega), y96 (by omega)]; exact hE.2 x hx
    · rw [hm3 b1 (by omega) (by omega), y96 lb1, he2.get hb1, preT_succ]
  · have h6 := of_decide_eq_false hb
    simp (decide := true) (disch := first | omega | rfl) only [↓SD, SP, opE, fget, binA, Nat.reduceEqDiff, reduceIte, again, stepV, wanted, resE, resL, resU, wr, rd, known, fillE, U.cells, hb, h28]
    exact ⟨hlt, by simp, (by (repeat (refine Keep.set ?_ (by decide))); exact hk), (heq.trans he1).trans he2, h0, h8, by omega, by rw [hd']; omega, by rw [hpk, hd', if_neg h6, show (0 : Int) - stepC s T around p i c = 0 by omega]⟩

set_option maxHeartbeats 2000000 in
theorem first_ok (hi : ColI G) (hG : G 547 = some (.code impl_table_first)) {m : Mem} {s : List UInt8} {T bt : Nat} {w : Bool} {cc : Cap} {T0 : Nat → Int} {around : Bool} (qt : m[bt]? = some (.cells w (ints (s.length * 5) T0))) (hw : w = true) (H : Tells T0 s T) (hz : Zero T0) (hT : T ≤ 5) (h1 : 1 ≤ s.length) (hs : s.length ≤ 20) (har : around = true → 3 ≤ s.length) :
    Rn G 547 [V.a (.sl bt 0 s.length cc), V.b around] m fun v m' => (v = if 0 < fromF s T around then .t [.a (.str (nowS s (walkR s T around 0 s.length).1 s.length)), .a (.bool true)] else .t [.a (.str []), .a (.bool false)]) ∧ Ext m m' := by
  subst hw
  refine Rn.code hG ?_
  unfold impl_table_first
  simp (decide := true) (disch := first | omega | rfl) only [↓SD, SP, opE, fget, binA, Nat.reduceEqDiff, reduceIte, again, stepV, wanted, resE, resL, resU, wr, rd, known, fillE, U.cells]
  refine Wo.callR (by simp (decide := true) (disch := first | omega | rfl) only [↓SD, SP, opE, fget, binA, Nat.reduceEqDiff, reduceIte, again, stepV, wanted, resE, resL, resU, wr, rd, known, fillE, U.cells]; try rfl) (look_ok hi.look hi.fixed hi.clone hi.line qt (by omega) hs (zero_nonneg hz)) ?_
  rintro _ m1 ⟨rfl, he⟩
  have hcnt := cnt_from (around := around) H hT h1 har hs
  have hl0 := leastT_zero hz hs (around := around)
  rw [hcnt] at hl0 ⊢
  simp (decide := true) (disch := first | omega | rfl) only [↓SD, SP, opE, fget, binA, Nat.reduceEqDiff, reduceIte, again, stepV, wanted, resE, resL, resU, wr, rd, known, fillE, U.cells]
  refine ⟨fun hb => ?_, fun hb => ?_⟩
  · have h0 : fromF s T around = 0 := by simpa using hb
    simp (decide := true) (disch := first | omega | rfl) only [↓SD, SP, opE, fget, binA, Nat.reduceEqDiff, reduceIte, again, stepV, wanted, resE, resL, resU, wr, rd, known, fillE, U.cells]
    exact ⟨_, rfl, by rw [if_neg (by omega)], he⟩
  · have hne : fromF s T around ≠ 0 := by simpa using hb
    have hfb : 0 ≤ fromF s T around := by
      unfold fromF
      split
      · have := fromR_bound (s := s) hT hs T; omega
      · have := endsF_bound (s := s) (frm := 0) (before := -1) (last := -1) hT hs; omega
    have hpos : 0 < fromF s T around := by omega
    rw [if_pos hpos, hl0 hpos]
    have lb := lt_of_get (he.get qt)
    have hE : Ext m (m1 ++ [Blk.cells true []]) := he.trans (Ext.push _ _)
    simp (decide := true) (disch := first | omega | rfl) only [↓SD, SP, opE, fget, binA, Nat.reduceEqDiff, reduceIte, again, stepV, wanted, resE, resL, resU, wr, rd, known, fillE, U.cells]
    refine Wc.loopN (fun i f q => fget f 25 = V.i i ∧ fget f 24 = V.i s.length ∧ fget f 1 = V.b around ∧ fget f 7 = V.i 0 ∧ Ext m q ∧
      (∃ b cc, fget f 0 = V.a (.sl b 0 s.length cc) ∧ q[b]? = some (.cells true (ints (s.length * 5) (preT T0 (walkR s T around 0 i).1 i)))) ∧ Own m.length q (fget f 8) 1 i (bytesP (walkR s T around 0 i).1 i)) s.length (fun i f q hil hS => ?_)
      ⟨(by simp (decide := true) (disch := first | omega | rfl) only [↓SD, SP, opE, fget, binA, Nat.reduceEqDiff, reduceIte, again, stepV, wanted, resE, resL, resU, wr, rd, known, fillE, U.cells]; try rfl), (by simp (decide := true) (disch := first | omega | rfl) only [↓SD, SP, opE, fget, binA, Nat.reduceEqDiff, reduceIte, again, stepV, wanted, resE, resL, resU, wr, rd, known, fillE, U.cells]; try rfl), (by simp (decide := true) (disch := first | omega | rfl) only [↓SD, SP, opE, fget, binA, Nat.reduceEqDiff, reduceIte, again, stepV, wanted, resE, resL, resU, wr, rd, known, fillE, U.cells]; try rfl), (by simp (decide := true) (disch := first | omega | rfl) only [↓SD, SP, opE, fget, binA, Nat.reduceEqDiff, reduceIte, again, stepV, wanted, resE, resL, resU, wr, rd, known, fillE, U.cells]; try rfl), hE, ⟨bt, cc, (by simp (decide := true) (disch := first | omega | rfl) only [↓SD, SP, opE, fget, binA, Nat.reduceEqDiff, reduceIte, again, stepV, wanted, resE, resL, resU, wr, rd, known, fillE, U.cells]; try rfl), by rw [y96 lb]; exact he.get qt⟩, by simp (decide := true) (disch := first | omega | rfl) only [↓SD, SP, opE, fget, binA, Nat.reduceEqDiff, reduceIte, again, stepV, wanted, resE, resL, resU, wr, rd, known, fillE, U.cells]; exact ⟨m1.length, .ex 0, rfl, .inl rfl, by simp; rfl, rfl, he.1⟩⟩
    obtain ⟨h25, h24, h1', h7, heq, ht, ho⟩ := hS
    unfold impl_table_first_L0
    simp (decide := true) (disch := first | omega | rfl) only [↓SD, SP, opE, fget, binA, Nat.reduceEqDiff, reduceIte, again, stepV, wanted, resE, resL, resU, wr, rd, known, fillE, U.cells, h25, h24]
    refine ⟨fun hb => ?_, fun hb => ?_⟩
    · have hlt := of_decide_eq_true hb
      obtain ⟨hg, w0, w1⟩ := walkR_ok (around := around) (tn := T) hT hs (Int.le_refl 0) hpos i hil
      rw [walk_zero hT hs] at w1
      simp (decide := true) (disch := first | omega | rfl) only [↓SD, SP, opE, fget, binA, Nat.reduceEqDiff, reduceIte, again, stepV, wanted, resE, resL, resU, wr, rd, known, fillE, U.cells, h25]
      refine (first_L1 (T0 := T0) (s := s) (T := T) (i := i) (around := around) (p := (walkR s T around 0 i).1) (m := m) hi H hz hT hs (by omega) hg (remain_lt (by omega) w1) heq (by simp (decide := true) (disch := first | omega | rfl) only [↓SD, SP, opE, fget, binA, Nat.reduceEqDiff, reduceIte, again, stepV, wanted, resE, resL, resU, wr, rd, known, fillE, U.cells, h1']) (by simp (decide := true) (disch := first | omega | rfl) only [↓SD, SP, opE, fget, binA, Nat.reduceEqDiff, reduceIte, again, stepV, wanted, resE, resL, resU, wr, rd, known, fillE, U.cells, h7]) (by simp (decide := true) (disch := first | omega | rfl) only [↓SD, SP, opE, fget, binA, Nat.reduceEqDiff, reduceIte, again, stepV, wanted, resE, resL, resU, wr, rd, known, fillE, U.cells]) (by simp (decide := true) (disch := first | omega | rfl) only [↓SD, SP, opE, fget, binA, Nat.reduceEqDiff, reduceIte, again, stepV, wanted, resE, resL, resU, wr, rd, known, fillE, U.cells])
        (by obtain ⟨b, cc, g1, g2⟩ := ht; exact ⟨b, cc, by simp (decide := true) (disch := first | omega | rfl) only [↓SD, SP, opE, fget, binA, Nat.reduceEqDiff, reduceIte, again, stepV, wanted, resE, resL, resU, wr, rd, known, fillE, U.cells, g1], g2⟩) (by simp (decide := true) (disch := first | omega | rfl) only [↓SD, SP, opE, fget, binA, Nat.reduceEqDiff, reduceIte, again, stepV, wanted, resE, resL, resU, wr, rd, known, fillE, U.cells]; exact ho)).mono ?_
      rintro e f' q' ⟨rfl, he', ht', ho', hk⟩
      have j25 := hk 25 (by decide); have j24 := hk 24 (by decide); have j1 := hk 1 (by decide); have j7 := hk 7 (by decide)
      simp (decide := true) only [↓SD, SP, opE, fget, binA, Nat.reduceEqDiff, reduceIte, again, stepV, wanted, resE, resL, resU, wr, rd, known, fillE, U.cells, h25, h24, h1', h7] at j25 j24 j1 j7
      simp (decide := true) (disch := first | omega | rfl) only [↓SD, SP, opE, fget, binA, Nat.reduceEqDiff, reduceIte, again, stepV, wanted, resE, resL, resU, wr, rd, known, fillE, U.cells, j25]
      have hw1 : (walkR s T around 0 (i + 1)).1 = put1 (walkR s T around 0 i).1 i (pick (stepC s T around (walkR s T around 0 i).1 i) T 0 0).1 := by
        show put1 _ _ (pick _ T 0 (walkR s T around 0 i).2).1 = _
        rw [walk_zero hT hs]
      exact ⟨by omega, by simp, j24, j1, j7, he', by rw [hw1]; exact ht', by rw [hw1]; exact ho'⟩
    · have hlt := of_decide_eq_false hb
      have : i = s.length := by omega
      subst this
      obtain ⟨bo, co, g8, hco, qo, hol, hlo'⟩ := ho
      have hbl : (bytesP (walkR s T around 0 s.length).1 s.length).length = s.length := bytesP_len
      have tk : List.take s.length (bytesP (walkR s T around 0 s.length).1 s.length) = bytesP (walkR s T around 0 s.length).1 s.length := List.take_of_length_le (by rw [hbl]; exact Nat.le_refl _)
      simp (decide := true) (disch := first | omega | rfl) only [↓SD, SP, opE, fget, binA, Nat.reduceEqDiff, reduceIte, again, stepV, wanted, resE, resL, resU, wr, rd, known, fillE, U.cells, g8, qo, hbl, tk, bytesOf_P]
      exact ⟨_, rfl, rfl, heq⟩
end Go.AL
