/-
  The program's fence of a rank.
-/
import Derived.Test.YtglmoocankodaaaAlColWalk
import Derived.Test.YtglmoocankodaaaAlColCount
namespace Go.AL
set_option linter.unusedSimpArgs false
set_option linter.unusedVariables false
open F
set_option linter.unusedSimpArgs false
set_option linter.unusedVariables false
variable {G : Env}

def bytesP (p : Nat → Nat) (i : Nat) : List A := (List.range i).map fun j => A.int .u8 ((97 + p j : Nat) : Int)
theorem bytesP_len {p : Nat → Nat} {i : Nat} : (bytesP p i).length = i := by simp [bytesP]
theorem bytesP_put {p : Nat → Nat} {i c : Nat} : bytesP (put1 p i c) (i + 1) = bytesP p i ++ [A.int .u8 ((97 + c : Nat) : Int)] := by
  unfold bytesP
  rw [List.range_succ, List.map_append]
  congr 1
  · apply List.map_congr_left
    intro j hj
    have : j < i := by simpa using hj
    unfold put1; rw [if_neg (by omega)]
  · simp [put1]

theorem good_of {T : Nat → Int} {s : List UInt8} {tn i : Nat} {p : Nat → Nat} (H : Tells T s tn) (ht : tn ≤ 5) (hi : i ≤ s.length) (hg : GoodP s tn p i) : Good T p i :=
  ⟨fun j hj => ⟨by have := (hg.1 j hj).1; omega, (H j (by omega) (p j) (by have := (hg.1 j hj).1; omega)).2 (hg.1 j hj)⟩, hg.2⟩

theorem preT_succ {T : Nat → Int} {p : Nat → Nat} {i c : Nat} : preT T (put1 p i c) (i + 1) = fixT (preT T p i) i c := by
  show fixT (preT T (put1 p i c) i) i (put1 p i c i : Nat) = _
  rw [preT_put i (Nat.le_refl _)]
  unfold put1; rw [if_pos rfl]

abbrev slotsO1 : List Nat := 3 :: 10 :: 11 :: 13 :: 14 :: 15 :: List.range' 32 24

set_option maxHeartbeats 2000000 in
theorem ofRank_L1 (hi : ColI G) (hc : G 541 = some (.code impl_table_count)) {T0 : Nat → Int} {s : List UInt8} {T i : Nat} {around : Bool} {p : Nat → Nat} {r : Int} {fr : Fr} {m q : Mem} (H : Tells T0 s T) (h0T : ∀ k, 0 ≤ T0 k) (hT : T ≤ 5) (hs : s.length ≤ 20) (hil : i < s.length) (hg : GoodP s T p i)
    (hr0 : 0 ≤ r) (hr : r < sm (stepC s T around p i) T) (he : Ext m q) (f2 : fget fr 2 = V.b around) (f12 : fget fr 12 = V.i i) (f31 : fget fr 31 = V.i T) (f32 : fget fr 32 = V.i 0) (f3 : fget fr 3 = V.i r)
    (ft : ∃ b cc, fget fr 10 = V.a (.sl b 0 s.length cc) ∧ q[b]? = some (.cells true (ints (s.length * 5) (preT T0 p i)))) (fo : Own m.length q (fget fr 11) 1 i (bytesP p i)) :
    Wc G (.loop impl_ofRank_L1) (fun e f' q' => e = .exit 2 ∧ Ext m q' ∧ (∃ b cc, fget f' 10 = V.a (.sl b 0 s.length cc) ∧ q'[b]? = some (.cells true (ints (s.length * 5) (preT T0 (put1 p i (pick (stepC s T around p i) T 0 r).1) (i + 1))))) ∧
      Own m.length q' (fget f' 11) 1 (i + 1) (bytesP (put1 p i (pick (stepC s T around p i) T 0 r).1) (i + 1)) ∧ fget f' 3 = V.i (pick (stepC s T around p i) T 0 r).2 ∧ Keep slotsO1 fr f') fr q := by
  obtain ⟨bt, ct, f10, qt⟩ := ft
  obtain ⟨bo, co, f11, hco, qo, hol, hlo⟩ := fo
  refine Wc.loopN (fun c f q' => fget f 32 = V.i c ∧ Keep slotsO1 fr f ∧ Ext q q' ∧ fget f 10 = V.a (.sl bt 0 s.length ct) ∧ fget f 11 = V.a (.sl bo 0 i co) ∧ ∃ rc, fget f 3 = V.i rc ∧ 0 ≤ rc ∧ rc ≤ r ∧ rc < sm (fun j => stepC s T around p i (c + j)) (T - c) ∧ pick (stepC s T around p i) T 0 r = pick (stepC s T around p i) (T - c) c rc) T (fun c f q' hcT hS => ?_)
    ⟨f32, Keep.refl, Ext.refl _, f10, f11, r, f3, hr0, Int.le_refl _, by simpa using hr, by simp⟩
  obtain ⟨h32, hk, heq, h10, h11, rc, h3, hrc0, hrcr, hrc, hpk⟩ := hS
  have k2 := (hk 2 (by decide)).trans f2; have k12 := (hk 12 (by decide)).trans f12; have k31 := (hk 31 (by decide)).trans f31
  have qt' := heq.get qt; have qo' := heq.get qo
  have lo' := lt_of_get qo'
  have hrB : r ≤ 9000000000000000000 := by
    have hb : ∀ d, 0 ≤ stepC s T around p i d ∧ stepC s T around p i d ≤ 500000000000000000 := fun d => stepC_bound hT hs
    have := sumW_bound (p := fun _ => true) hb T
    rw [sumW_sm] at this
    simp only [if_true] at this
    have e : sm (fun k => stepC s T around p i k) T = sm (stepC s T around p i) T := rfl
    omega
  unfold impl_ofRank_L1
  simp (decide := true) (disch := first | omega | rfl) only [↓SD, SP, opE, fget, binA, Nat.reduceEqDiff, reduceIte, again, stepV, wanted, resE, resL, resU, wr, rd, known, fillE, U.cells, h32, k31]
  refine ⟨fun hb => ?_, fun hb => ?_⟩
  · have hlt := of_decide_eq_true hb
    obtain ⟨d, hd⟩ : ∃ d, T - c = d + 1 := ⟨T - c - 1, by omega⟩
    have hd' : T - (c + 1) = d := by omega
    rw [hd, sm_head] at hrc
    have hps : pick (stepC s T around p i) (d + 1) c rc = if rc < stepC s T around p i c then (c, rc) else pick (stepC s T around p i) d (c + 1) (rc - stepC s T around p i c) := rfl
    rw [hd, hps] at hpk
    have hCb := stepC_bound (i := i) (c := c) (around := around) (p := p) hT hs
    have hst : cntT (fixT (preT T0 p i) i c) s.length around = stepC s T around p i c := cnt_step H hT hil hs (by omega) (good_of H hT (by omega) hg)
    simp (decide := true) (disch := first | omega | rfl) only [↓SD, SP, opE, fget, binA, Nat.reduceEqDiff, reduceIte, again, stepV, wanted, resE, resL, resU, wr, rd, known, fillE, U.cells, h32, k12, h10]
    refine Wo.callR (by simp (decide := true) (disch := first | omega | rfl) only [↓SD, SP, opE, fget, binA, Nat.reduceEqDiff, reduceIte, again, stepV, wanted, resE, resL, resU, wr, rd, known, fillE, U.cells]; try rfl) (fixed_ok (board := i) (col := c) hi.fixed hi.clone qt' hil (by omega)) ?_
    rintro _ m1 ⟨b1, rfl, hb1, he1, hlo1⟩
    simp (decide := true) (disch := first | omega | rfl) only [↓SD, SP, opE, fget, binA, Nat.reduceEqDiff, reduceIte, again, stepV, wanted, resE, resL, resU, wr, rd, known, fillE, U.cells, k2]
    refine Wo.callR (by simp (decide := true) (disch := first | omega | rfl) only [↓SD, SP, opE, fget, binA, Nat.reduceEqDiff, reduceIte, again, stepV, wanted, resE, resL, resU, wr, rd, known, fillE, U.cells]; try rfl) (count_ok hc hi.look hi.fixed hi.clone hi.line hb1 (by omega) hs (fixT_nonneg (preT_nonneg h0T i))) ?_
    rintro _ m2 ⟨rfl, he2⟩
    rw [hst]
    simp (decide := true) (disch := first | omega | rfl) only [↓SD, SP, opE, fget, binA, Nat.reduceEqDiff, reduceIte, again, stepV, wanted, resE, resL, resU, wr, rd, known, fillE, U.cells, h3]
    refine ⟨fun hb => ?_, fun hb => ?_⟩
    · have h6 := of_decide_eq_true hb
      have hw : IntKind.u8.wrap (97 + (c : Int)) = ((97 + c : Nat) : Int) := by rw [IntKind.wrap_u8]; omega
      have qo2 := he2.get (he1.get qo')
      have lo2 := lt_of_get qo2
      obtain ⟨m', hap, hm1, hm2, hm3⟩ := appE_own (m := m2 ++ [Blk.cells true [A.int .u8 ((97 + c : Nat) : Int)]]) (s := 1) (bytes := 1) (b := bo) (i := i) (n := 1) (c := co) (cs := bytesP p i) (new := [A.int .u8 ((97 + c : Nat) : Int)])
        (y := .sl m2.length 0 1 (.ex 1)) rfl (by unfold srcCells; simp (decide := true) (disch := first | omega | rfl) only [↓SD, SP, opE, fget, binA, Nat.reduceEqDiff, reduceIte, again, stepV, wanted, resE, resL, resU, wr, rd, known, fillE, U.cells]; rfl) (by omega) (by omega) (by simp (decide := true) (disch := first | omega | rfl) only [↓SD, SP, opE, fget, binA, Nat.reduceEqDiff, reduceIte, again, stepV, wanted, resE, resL, resU, wr, rd, known, fillE, U.cells, qo2]) hol hco (by omega) (by omega)
      simp only [y102] at hap hm1 hm2 hm3
      simp (decide := true) (disch := first | omega | rfl) only [↓SD, SP, opE, fget, binA, Nat.reduceEqDiff, reduceIte, again, stepV, wanted, resE, resL, resU, wr, rd, known, fillE, U.cells, h11, hw, List.set_cons_zero, hap]
      have e : pick (stepC s T around p i) T 0 r = (c, rc) := by rw [hpk, if_pos h6]
      rw [e]
      have hE : Ext m m2 := ((he.trans heq).trans he1).trans he2
      have hEl := hE.1
      have lb1 := lt_of_get (he2.get hb1)
      refine ⟨⟨by omega, fun x hx => ?_⟩, ⟨b1, _, rfl, ?_⟩, ⟨_, _, rfl, .inr rfl, by rw [hm1, bytesP_put], by rw [bytesP_len]; omega, by omega⟩, h3, (by (repeat (refine Keep.set ?_ (by decide))); exact hk)⟩
      · rw [hm3 x (by omega) (by omega), y96 (by omega)]; exact hE.2 x hx
      · rw [hm3 b1 (by omega) (by omega), y96 lb1, he2.get hb1, preT_succ]
    · have h6 := of_decide_eq_false hb
      simp (decide := true) (disch := first | omega | rfl) only [↓SD, SP, opE, fget, binA, Nat.reduceEqDiff, reduceIte, again, stepV, wanted, resE, resL, resU, wr, rd, known, fillE, U.cells, h3, h32]
      exact ⟨by omega, by simp, (by (repeat (refine Keep.set ?_ (by decide))); exact hk), (heq.trans he1).trans he2, h10, h11, _, rfl, by omega, by omega, by rw [hd']; omega, by rw [hpk, hd', if_neg h6]⟩
  · have hlt := of_decide_eq_false hb
    exfalso
    rw [show T - c = 0 by omega] at hrc
    simp [sm] at hrc
    omega

theorem bytesOf_map {p : Nat → Nat} (hp : ∀ j, p j < 5) : ∀ l : List Nat, bytesOf (l.map fun j => A.int .u8 ((97 + p j : Nat) : Int)) = some (l.map fun j => UInt8.ofNat (97 + p j))
  | [] => rfl
  | j :: l => by
    have ih := bytesOf_map hp l
    simp only [List.map_cons, bytesOf, ih, Int.toNat_natCast]
theorem nowS_all {s : List UInt8} {p : Nat → Nat} : nowS s p s.length = (List.range s.length).map fun j => UInt8.ofNat (97 + p j) := by
  unfold nowS
  apply List.map_congr_left
  intro j hj
  have : j < s.length := by simpa using hj
  rw [if_pos this]
theorem bytesOf_P {s : List UInt8} {p : Nat → Nat} : bytesOf (bytesP p s.length) = some (nowS s p s.length) := by
  rw [nowS_all]
  have : ∀ l : List Nat, bytesOf (l.map fun j => A.int .u8 ((97 + p j : Nat) : Int)) = some (l.map fun j => UInt8.ofNat (97 + p j)) := by
    intro l
    induction l with
    | nil => rfl
    | cons j l ih => simp only [List.map_cons, bytesOf, ih, Int.toNat_natCast]
  exact this _

set_option maxHeartbeats 2000000 in
theorem ofRank_ok (hi : ColI G) (hc : G 541 = some (.code impl_table_count)) (hG : G 556 = some (.code impl_ofRank)) {m : Mem} {s : List UInt8} {T : Nat} {around : Bool} {r : Int} (H : Tells (freeT T) s T) (hT : T ≤ 5) (h1 : 1 ≤ s.length) (hs : s.length ≤ 20) (har : around = true → 3 ≤ s.length)
    (hrw : -9223372036854775808 ≤ r ∧ r ≤ 9223372036854775807) :
    Rn G 556 [V.i s.length, V.i T, V.b around, V.i r] m fun v m' => (v = if 0 ≤ r ∧ r < fromF s T around then .t [.a (.str (nowS s (walkR s T around r s.length).1 s.length)), .a (.bool true)] else .t [.a (.str []), .a (.bool false)]) ∧ Ext m m' := by
  refine Rn.code hG ?_
  unfold impl_ofRank
  simp (decide := true) (disch := first | omega | rfl) only [↓SD, SP, opE, fget, binA, Nat.reduceEqDiff, reduceIte, again, stepV, wanted, resE, resL, resU, wr, rd, known, fillE, U.cells]
  refine Wo.callR (by simp (decide := true) (disch := first | omega | rfl) only [↓SD, SP, opE, fget, binA, Nat.reduceEqDiff, reduceIte, again, stepV, wanted, resE, resL, resU, wr, rd, known, fillE, U.cells]; try rfl) (free_count (n := s.length) (t := T) (around := around) hi hc h1 hs hT har (d := none) (d' := none) (K := fun _ _ => True) (fr := [])) ?_
  rintro _ m1 ⟨⟨b, c, rfl, hb, hlo⟩, he⟩
  have lb := lt_of_get hb
  simp (decide := true) (disch := first | omega | rfl) only [↓SD, SP, opE, fget, binA, Nat.reduceEqDiff, reduceIte, again, stepV, wanted, resE, resL, resU, wr, rd, known, fillE, U.cells]
  have hb' : (m1 ++ [Blk.cells true []])[b]? = some (.cells true (ints (s.length * 5) (freeT T))) := by rw [y96 lb]; exact hb
  refine Wo.callR (by simp (decide := true) (disch := first | omega | rfl) only [↓SD, SP, opE, fget, binA, Nat.reduceEqDiff, reduceIte, again, stepV, wanted, resE, resL, resU, wr, rd, known, fillE, U.cells]; try rfl) (count_ok (around := around) hc hi.look hi.fixed hi.clone hi.line hb' (by omega) hs freeT_nonneg) ?_
  rintro _ m2 ⟨rfl, he2⟩
  have hcnt := cnt_from (around := around) H hT h1 har hs
  rw [hcnt]
  have hfb : 0 ≤ fromF s T around ∧ fromF s T around ≤ 2500000000000000000 := by
    unfold fromF
    split
    · have := fromR_bound (s := s) hT hs T; omega
    · have := endsF_bound (s := s) (frm := 0) (before := -1) (last := -1) hT hs; omega
  simp (decide := true) (disch := first | omega | rfl) only [↓SD, SP, opE, fget, binA, Nat.reduceEqDiff, reduceIte, again, stepV, wanted, resE, resL, resU, wr, rd, known, fillE, U.cells]
  refine Wo.callR (by simp (decide := true) (disch := first | omega | rfl) only [↓SD, SP, opE, fget, binA, Nat.reduceEqDiff, reduceIte, again, stepV, wanted, resE, resL, resU, wr, rd, known, fillE, U.cells]; try rfl) (within_ok' hi.within) ?_
  rintro _ _ ⟨rfl, rfl⟩
  have hE : Ext m (m1 ++ [Blk.cells true []]) := he.trans (Ext.push _ _)
  have hE2 := hE.trans he2
  have hob : Own m.length _ (V.a (.sl m1.length 0 0 (.ex 0))) 1 0 (bytesP (walkR s T around r 0).1 0) := ⟨m1.length, .ex 0, rfl, .inl rfl, he2.get (by simp; rfl), rfl, he.1⟩
  by_cases hok : 0 ≤ r ∧ r < fromF s T around
  · have hd : (decide (0 ≤ r) && decide (r ≤ fromF s T around - 1)) = true := by simp; omega
    rw [hd, if_pos hok]
    simp (decide := true) (disch := first | omega | rfl) only [↓SD, SP, opE, fget, binA, Nat.reduceEqDiff, reduceIte, again, stepV, wanted, resE, resL, resU, wr, rd, known, fillE, U.cells]
    refine Wc.loopN (fun i f q => fget f 28 = V.i i ∧ fget f 27 = V.i s.length ∧ fget f 1 = V.i T ∧ fget f 2 = V.b around ∧ fget f 3 = V.i (walkR s T around r i).2 ∧ Ext m q ∧
      (∃ b cc, fget f 10 = V.a (.sl b 0 s.length cc) ∧ q[b]? = some (.cells true (ints (s.length * 5) (preT (freeT T) (walkR s T around r i).1 i)))) ∧ Own m.length q (fget f 11) 1 i (bytesP (walkR s T around r i).1 i)) s.length (fun i f q hil hS => ?_)
      ⟨(by simp (decide := true) (disch := first | omega | rfl) only [↓SD, SP, opE, fget, binA, Nat.reduceEqDiff, reduceIte, again, stepV, wanted, resE, resL, resU, wr, rd, known, fillE, U.cells]; try rfl), (by simp (decide := true) (disch := first | omega | rfl) only [↓SD, SP, opE, fget, binA, Nat.reduceEqDiff, reduceIte, again, stepV, wanted, resE, resL, resU, wr, rd, known, fillE, U.cells]; try rfl), (by simp (decide := true) (disch := first | omega | rfl) only [↓SD, SP, opE, fget, binA, Nat.reduceEqDiff, reduceIte, again, stepV, wanted, resE, resL, resU, wr, rd, known, fillE, U.cells]; try rfl), (by simp (decide := true) (disch := first | omega | rfl) only [↓SD, SP, opE, fget, binA, Nat.reduceEqDiff, reduceIte, again, stepV, wanted, resE, resL, resU, wr, rd, known, fillE, U.cells]; try rfl), (by simp (decide := true) (disch := first | omega | rfl) only [↓SD, SP, opE, fget, binA, Nat.reduceEqDiff, reduceIte, again, stepV, wanted, resE, resL, resU, wr, rd, known, fillE, U.cells]; try rfl), hE2, ⟨b, c, (by simp (decide := true) (disch := first | omega | rfl) only [↓SD, SP, opE, fget, binA, Nat.reduceEqDiff, reduceIte, again, stepV, wanted, resE, resL, resU, wr, rd, known, fillE, U.cells]; try rfl), he2.get hb'⟩, by simp (decide := true) (disch := first | omega | rfl) only [↓SD, SP, opE, fget, binA, Nat.reduceEqDiff, reduceIte, again, stepV, wanted, resE, resL, resU, wr, rd, known, fillE, U.cells]; exact hob⟩
    obtain ⟨h28, h27, h1', h2, h3, heq, ht, ho⟩ := hS
    unfold impl_ofRank_L0
    simp (decide := true) (disch := first | omega | rfl) only [↓SD, SP, opE, fget, binA, Nat.reduceEqDiff, reduceIte, again, stepV, wanted, resE, resL, resU, wr, rd, known, fillE, U.cells, h28, h27]
    refine ⟨fun hb => ?_, fun hb => ?_⟩
    · have hlt := of_decide_eq_true hb
      obtain ⟨hg, w0, w1⟩ := walkR_ok (around := around) (tn := T) hT hs hok.1 hok.2 i hil
      simp (decide := true) (disch := first | omega | rfl) only [↓SD, SP, opE, fget, binA, Nat.reduceEqDiff, reduceIte, again, stepV, wanted, resE, resL, resU, wr, rd, known, fillE, U.cells, h28, h1']
      refine (ofRank_L1 (T0 := freeT T) (s := s) (T := T) (i := i) (around := around) (p := (walkR s T around r i).1) (r := (walkR s T around r i).2) (m := m) hi hc H freeT_nonneg hT hs (by omega) hg w0 (remain_lt (by omega) w1) heq (by simp (decide := true) (disch := first | omega | rfl) only [↓SD, SP, opE, fget, binA, Nat.reduceEqDiff, reduceIte, again, stepV, wanted, resE, resL, resU, wr, rd, known, fillE, U.cells, h2]) (by simp (decide := true) (disch := first | omega | rfl) only [↓SD, SP, opE, fget, binA, Nat.reduceEqDiff, reduceIte, again, stepV, wanted, resE, resL, resU, wr, rd, known, fillE, U.cells]) (by simp (decide := true) (disch := first | omega | rfl) only [↓SD, SP, opE, fget, binA, Nat.reduceEqDiff, reduceIte, again, stepV, wanted, resE, resL, resU, wr, rd, known, fillE, U.cells]) (by simp (decide := true) (disch := first | omega | rfl) only [↓SD, SP, opE, fget, binA, Nat.reduceEqDiff, reduceIte, again, stepV, wanted, resE, resL, resU, wr, rd, known, fillE, U.cells]) (by simp (decide := true) (disch := first | omega | rfl) only [↓SD, SP, opE, fget, binA, Nat.reduceEqDiff, reduceIte, again, stepV, wanted, resE, resL, resU, wr, rd, known, fillE, U.cells, h3])
        (by obtain ⟨b, cc, g1, g2⟩ := ht; exact ⟨b, cc, by simp (decide := true) (disch := first | omega | rfl) only [↓SD, SP, opE, fget, binA, Nat.reduceEqDiff, reduceIte, again, stepV, wanted, resE, resL, resU, wr, rd, known, fillE, U.cells, g1], g2⟩) (by simp (decide := true) (disch := first | omega | rfl) only [↓SD, SP, opE, fget, binA, Nat.reduceEqDiff, reduceIte, again, stepV, wanted, resE, resL, resU, wr, rd, known, fillE, U.cells]; exact ho)).mono ?_
      rintro e f' q' ⟨rfl, he', ht', ho', g3, hk⟩
      have j28 := hk 28 (by decide); have j27 := hk 27 (by decide); have j1 := hk 1 (by decide); have j2 := hk 2 (by decide)
      simp (decide := true) only [↓SD, SP, opE, fget, binA, Nat.reduceEqDiff, reduceIte, again, stepV, wanted, resE, resL, resU, wr, rd, known, fillE, U.cells, h28, h27, h1', h2] at j28 j27 j1 j2
      simp (decide := true) (disch := first | omega | rfl) only [↓SD, SP, opE, fget, binA, Nat.reduceEqDiff, reduceIte, again, stepV, wanted, resE, resL, resU, wr, rd, known, fillE, U.cells, j28]
      exact ⟨by omega, by simp, j27, j1, j2, g3, he', ht', ho'⟩
    · have hlt := of_decide_eq_false hb
      have : i = s.length := by omega
      subst this
      obtain ⟨bo, co, g11, hco, qo, hol, hlo'⟩ := ho
      have hbl : (bytesP (walkR s T around r s.length).1 s.length).length = s.length := bytesP_len
      have tk : List.take s.length (bytesP (walkR s T around r s.length).1 s.length) = bytesP (walkR s T around r s.length).1 s.length := List.take_of_length_le (by rw [hbl]; exact Nat.le_refl _)
      simp (decide := true) (disch := first | omega | rfl) only [↓SD, SP, opE, fget, binA, Nat.reduceEqDiff, reduceIte, again, stepV, wanted, resE, resL, resU, wr, rd, known, fillE, U.cells, g11, qo, hbl, tk, bytesOf_P]
      exact ⟨_, rfl, rfl, heq⟩
  · have hd : (decide (0 ≤ r) && decide (r ≤ fromF s T around - 1)) = false := by
      by_cases h0 : 0 ≤ r
      · have : ¬ r ≤ fromF s T around - 1 := fun h => hok ⟨h0, by omega⟩
        simp [this]
      · simp [h0]
    rw [hd, if_neg hok]
    simp (decide := true) (disch := first | omega | rfl) only [↓SD, SP, opE, fget, binA, Nat.reduceEqDiff, reduceIte, again, stepV, wanted, resE, resL, resU, wr, rd, known, fillE, U.cells]
    exact ⟨_, rfl, rfl, hE2⟩
end Go.AL
