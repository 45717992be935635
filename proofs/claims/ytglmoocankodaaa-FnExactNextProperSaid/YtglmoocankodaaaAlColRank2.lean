/-
  The rank of a proper fence, on both sides.
-/
import Derived.Test.YtglmoocankodaaaAlColRop
namespace Go.AL
set_option linter.unusedSimpArgs false
set_option linter.unusedVariables false
open F
set_option linter.unusedSimpArgs false
set_option linter.unusedVariables false
variable {G : Env}

abbrev bare (n : Nat) : List UInt8 := List.replicate n 46
theorem bare_allow {n i : Nat} {t : Int} (h : i < n) : allow (bare n) i t = true := by
  unfold allow; rw [List.getElem?_replicate, if_pos h]; rfl
theorem put1_id {p : Nat → Nat} {i : Nat} : put1 p i (p i) = p := by
  funext j; unfold put1; split
  · rename_i h; rw [h]
  · rfl

/-- How many proper fences come before the fence of p. -/
def rowR (n t : Nat) (around : Bool) (p : Nat → Nat) (i : Nat) : Int := sm (stepC (bare n) t around p i) (p i)
def rankR (n t : Nat) (around : Bool) (p : Nat → Nat) (i : Nat) : Int := sm (rowR n t around p) i

theorem sm_mono {f : Nat → Int} (h : ∀ k, 0 ≤ f k) : ∀ {n m : Nat}, n ≤ m → sm f n ≤ sm f m
  | n, 0, hn => by rw [show n = 0 by omega]; exact Int.le_refl _
  | n, m + 1, hn => by
    by_cases e : n = m + 1
    · rw [e]; exact Int.le_refl _
    · have h1 := sm_mono h (show n ≤ m by omega)
      have h2 := h m
      show _ ≤ sm f m + f m
      omega
theorem sm_nonneg {f : Nat → Int} (h : ∀ k, 0 ≤ f k) (n : Nat) : 0 ≤ sm f n := sm_mono h (Nat.zero_le n)

/-- A prefix of boards that is proper. -/
def Pr (n t : Nat) (p : Nat → Nat) (k : Nat) : Prop := (∀ j, j < k → p j < t) ∧ ∀ j, 0 < j → j < n → p j ≠ p (j - 1)

theorem stepC_next {n t i : Nat} {around : Bool} {p : Nat → Nat} (hi : i < n) (hp : p i < t) (hn : 0 < i → p i ≠ p (i - 1)) : stepC (bare n) t around p i (p i) = remain (bare n) t around p (i + 1) := by
  unfold stepC remain
  rw [put1_id, if_neg (show ¬ i + 1 = 0 by omega)]
  rw [if_pos ⟨⟨hp, bare_allow hi⟩, by by_cases h : i = 0; exact .inl h; exact .inr (Ne.symm (hn (by omega)))⟩]
  rfl

theorem rank_bound {n t : Nat} {around : Bool} {p : Nat → Nat} (hn : n ≤ 20) (ht : t ≤ 5) : ∀ i, i ≤ n → Pr n t p i → 0 ≤ rankR n t around p i ∧ rankR n t around p i + remain (bare n) t around p i ≤ fromF (bare n) t around
  | 0, _, _ => by
    unfold rankR remain sm
    rw [if_pos rfl]
    omega
  | i + 1, hi, hp => by
    have hl : (bare n).length = n := by simp
    obtain ⟨h1, h2⟩ := rank_bound (around := around) hn ht i (by omega) ⟨fun j hj => hp.1 j (by omega), hp.2⟩
    have hs := remain_sum (s := bare n) (tn := t) (i := i) (around := around) (p := p) (by omega)
    have hb : ∀ c, 0 ≤ stepC (bare n) t around p i c := fun c => (stepC_bound ht (by omega)).1
    have hpi := hp.1 i (by omega)
    have hx := sm_mono hb (show p i + 1 ≤ t by omega)
    have hnx := stepC_next (around := around) (show i < n by omega) hpi (fun h => hp.2 i h (by omega))
    have hr0 : 0 ≤ rowR n t around p i := sm_nonneg hb _
    have e1 : rankR n t around p (i + 1) = rankR n t around p i + rowR n t around p i := rfl
    have e2 : sm (stepC (bare n) t around p i) (p i + 1) = rowR n t around p i + stepC (bare n) t around p i (p i) := rfl
    have e3 : sm (fun c => stepC (bare n) t around p i c) t = sm (stepC (bare n) t around p i) t := rfl
    omega

theorem remain_nonneg {s : List UInt8} {t i : Nat} {around : Bool} {p : Nat → Nat} (ht : t ≤ 5) (hs : s.length ≤ 20) : 0 ≤ remain s t around p i := by
  unfold remain
  split
  · unfold fromF
    split
    · have := fromR_bound (s := s) ht hs t; omega
    · have := endsF_bound (s := s) (frm := 0) (before := -1) (last := -1) ht hs; omega
  · exact (endsF_bound ht hs).1
theorem fromF_le {s : List UInt8} {t : Nat} {around : Bool} (ht : t ≤ 5) (hs : s.length ≤ 20) : fromF s t around ≤ 2500000000000000000 := by
  unfold fromF
  split
  · have := fromR_bound (s := s) ht hs t; omega
  · have := endsF_bound (s := s) (frm := 0) (before := -1) (last := -1) ht hs; omega

theorem part_bound {n t i c : Nat} {around : Bool} {p : Nat → Nat} (hn : n ≤ 20) (ht : t ≤ 5) (hi : i < n) (hp : Pr n t p i) (hc : c ≤ t) : 0 ≤ rankR n t around p i + sm (stepC (bare n) t around p i) c ∧ rankR n t around p i + sm (stepC (bare n) t around p i) c ≤ 2500000000000000000 := by
  have hl : (bare n).length = n := by simp
  obtain ⟨h1, h2⟩ := rank_bound (around := around) hn ht i (by omega) hp
  have hs := remain_sum (s := bare n) (tn := t) (i := i) (around := around) (p := p) (by omega)
  have hb : ∀ c, 0 ≤ stepC (bare n) t around p i c := fun c => (stepC_bound ht (by omega)).1
  have hx := sm_mono hb hc
  have h0 := sm_nonneg hb c
  have hf := fromF_le (s := bare n) (t := t) (around := around) ht (by omega)
  have e3 : sm (fun c => stepC (bare n) t around p i c) t = sm (stepC (bare n) t around p i) t := rfl
  omega

theorem pr_good {n t i : Nat} {p : Nat → Nat} (hi : i ≤ n) (hp : Pr n t p i) : GoodP (bare n) t p i :=
  ⟨fun j hj => ⟨hp.1 j hj, bare_allow (by omega)⟩, fun j hj => by have := hp.2 (j + 1) (by omega) (by omega); simpa using this⟩

abbrev slotsK1 : List Nat := 9 :: 12 :: List.range' 31 12
set_option maxHeartbeats 1000000 in
theorem rank_L1 (hi : ColI G) (hc : G 541 = some (.code impl_table_count)) {n t i bt : Nat} {cc : Cap} {around : Bool} {p : Nat → Nat} {fr : Fr} {q : Mem} (hT : t ≤ 5) (hs : n ≤ 20) (hil : i < n) (hp : Pr n t p i) (hpi : p i < t)
    (f2 : fget fr 2 = V.b around) (f10 : fget fr 10 = V.i i) (f30 : fget fr 30 = V.i (p i)) (f31 : fget fr 31 = V.i 0) (f9 : fget fr 9 = V.i (rankR n t around p i)) (f8 : fget fr 8 = V.a (.sl bt 0 n cc)) (qt : q[bt]? = some (.cells true (ints (n * 5) (preT (freeT t) p i)))) :
    Wc G (.loop impl_rank_L1) (fun e f' q' => e = .exit 2 ∧ Ext q q' ∧ fget f' 9 = V.i (rankR n t around p (i + 1)) ∧ Keep slotsK1 fr f') fr q := by
  have hl : (bare n).length = n := by simp
  refine Wc.loopN (fun c f q' => fget f 31 = V.i c ∧ Keep slotsK1 fr f ∧ Ext q q' ∧ fget f 9 = V.i (rankR n t around p i + sm (stepC (bare n) t around p i) c)) (p i) (fun c f q' hcT hS => ?_)
    ⟨f31, Keep.refl, Ext.refl _, by rw [f9]; simp [sm]⟩
  obtain ⟨h31, hk, heq, h9⟩ := hS
  have k2 := (hk 2 (by decide)).trans f2; have k10 := (hk 10 (by decide)).trans f10; have k30 := (hk 30 (by decide)).trans f30; have k8 := (hk 8 (by decide)).trans f8
  have qt' := heq.get qt
  unfold impl_rank_L1
  simp (decide := true) (disch := first | omega | rfl) only [↓SD, SP, opE, fget, binA, Nat.reduceEqDiff, reduceIte, again, stepV, wanted, resE, resL, resU, wr, rd, known, fillE, U.cells, h31, k30]
  refine ⟨fun hb => ?_, fun hb => ?_⟩
  · have hlt := of_decide_eq_true hb
    have hst : cntT (fixT (preT (freeT t) p i) i c) n around = stepC (bare n) t around p i c := by
      have := cnt_step (T := freeT t) (s := bare n) (tn := t) (i := i) (c := c) (p := p) (around := around) (by exact bare_tells) hT (by omega) (by omega) (by omega) (good_of (by exact bare_tells) hT (by omega) (pr_good (by omega) hp))
      rw [hl] at this
      exact this
    have hb1 := part_bound (around := around) hs hT hil hp (show c ≤ t by omega)
    have hb2 := part_bound (around := around) hs hT hil hp (show c + 1 ≤ t by omega)
    have e2 : sm (stepC (bare n) t around p i) (c + 1) = sm (stepC (bare n) t around p i) c + stepC (bare n) t around p i c := rfl
    simp (decide := true) (disch := first | omega | rfl) only [↓SD, SP, opE, fget, binA, Nat.reduceEqDiff, reduceIte, again, stepV, wanted, resE, resL, resU, wr, rd, known, fillE, U.cells, h31, k8, k10, h9]
    refine Wo.callR (by simp (decide := true) (disch := first | omega | rfl) only [↓SD, SP, opE, fget, binA, Nat.reduceEqDiff, reduceIte, again, stepV, wanted, resE, resL, resU, wr, rd, known, fillE, U.cells]; try rfl) (fixed_ok (board := i) (col := c) hi.fixed hi.clone qt' hil (by omega)) ?_
    rintro _ m1 ⟨b1, rfl, hb1', he1, hlo1⟩
    simp (decide := true) (disch := first | omega | rfl) only [↓SD, SP, opE, fget, binA, Nat.reduceEqDiff, reduceIte, again, stepV, wanted, resE, resL, resU, wr, rd, known, fillE, U.cells, k2]
    refine Wo.callR (by simp (decide := true) (disch := first | omega | rfl) only [↓SD, SP, opE, fget, binA, Nat.reduceEqDiff, reduceIte, again, stepV, wanted, resE, resL, resU, wr, rd, known, fillE, U.cells]; try rfl) (count_ok hc hi.look hi.fixed hi.clone hi.line hb1' (by omega) hs (fixT_nonneg (preT_nonneg freeT_nonneg i))) ?_
    rintro _ m2 ⟨rfl, he2⟩
    rw [hst]
    simp (decide := true) (disch := first | omega | rfl) only [↓SD, SP, opE, fget, binA, Nat.reduceEqDiff, reduceIte, again, stepV, wanted, resE, resL, resU, wr, rd, known, fillE, U.cells, h31, h9]
    refine ⟨by omega, by simp, (by (repeat (refine Keep.set ?_ (by decide))); exact hk), (heq.trans he1).trans he2, ?_⟩
    first | (rw [e2, ← Int.add_assoc]) | skip
  · have hlt := of_decide_eq_false hb
    have : c = p i := by omega
    subst this
    simp (decide := true) (disch := first | omega | rfl) only [↓SD, SP, opE, fget, binA, Nat.reduceEqDiff, reduceIte, again, stepV, wanted, resE, resL, resU, wr, rd, known, fillE, U.cells, h9]
    exact ⟨heq, rfl, (by (repeat (refine Keep.set ?_ (by decide))); exact hk)⟩

theorem preT_next {T : Nat → Int} {p : Nat → Nat} {i : Nat} : fixT (preT T p i) i (p i : Nat) = preT T p (i + 1) := rfl

/-- What 'rank' gives. -/
def allIn (s : List UInt8) (t : Nat) : Prop := ∀ j, j < s.length → colS s j < t
set_option maxHeartbeats 1000000 in
theorem rank_ok (hi : ColI G) (hc : G 541 = some (.code impl_table_count)) (hG : G 587 = some (.code impl_rank)) {m : Mem} {s : List UInt8} {t : Nat} {around : Bool} (h1 : 1 ≤ s.length) (hs : s.length ≤ 20) (hT : t ≤ 5) (hbd : ∀ x ∈ s, boardB x = true) (hp : properB s around = true) :
    Rn G 587 [V.s s, V.i t, V.b around] m fun v m' => ((allIn s t ∧ v = .t [.a (.int .i64 (rankR s.length t around (colS s) s.length)), .a (.bool true)]) ∨ (¬ allIn s t ∧ v = .t [.a (.int .i64 0), .a (.bool false)])) ∧ Ext m m' := by
  refine Rn.code hG ?_
  unfold impl_rank
  simp (decide := true) (disch := first | omega | rfl) only [↓SD, SP, opE, fget, binA, Nat.reduceEqDiff, reduceIte, again, stepV, wanted, resE, resL, resU, wr, rd, known, fillE, U.cells]
  refine Wo.callR (by simp (decide := true) (disch := first | omega | rfl) only [↓SD, SP, opE, fget, binA, Nat.reduceEqDiff, reduceIte, again, stepV, wanted, resE, resL, resU, wr, rd, known, fillE, U.cells]; try rfl) (free_ints hi hs) ?_
  rintro _ m1 ⟨⟨b, c, rfl, hb, hlo⟩, he⟩
  simp (decide := true) (disch := first | omega | rfl) only [↓SD, SP, opE, fget, binA, Nat.reduceEqDiff, reduceIte, again, stepV, wanted, resE, resL, resU, wr, rd, known, fillE, U.cells]
  refine Wc.loopN (fun i f q => fget f 19 = V.i i ∧ fget f 18 = V.i s.length ∧ fget f 0 = V.s s ∧ fget f 1 = V.i t ∧ fget f 2 = V.b around ∧ Ext m q ∧ (∀ j, j < i → colS s j < t) ∧ fget f 9 = V.i (rankR s.length t around (colS s) i) ∧
      ∃ b c, fget f 8 = V.a (.sl b 0 s.length c) ∧ q[b]? = some (.cells true (ints (s.length * 5) (preT (freeT t) (colS s) i)))) s.length (fun i f q hil hS => ?_)
    ⟨(by simp (decide := true) (disch := first | omega | rfl) only [↓SD, SP, opE, fget, binA, Nat.reduceEqDiff, reduceIte, again, stepV, wanted, resE, resL, resU, wr, rd, known, fillE, U.cells]; try rfl), (by simp (decide := true) (disch := first | omega | rfl) only [↓SD, SP, opE, fget, binA, Nat.reduceEqDiff, reduceIte, again, stepV, wanted, resE, resL, resU, wr, rd, known, fillE, U.cells]; try rfl), (by simp (decide := true) (disch := first | omega | rfl) only [↓SD, SP, opE, fget, binA, Nat.reduceEqDiff, reduceIte, again, stepV, wanted, resE, resL, resU, wr, rd, known, fillE, U.cells]; try rfl), (by simp (decide := true) (disch := first | omega | rfl) only [↓SD, SP, opE, fget, binA, Nat.reduceEqDiff, reduceIte, again, stepV, wanted, resE, resL, resU, wr, rd, known, fillE, U.cells]; try rfl), (by simp (decide := true) (disch := first | omega | rfl) only [↓SD, SP, opE, fget, binA, Nat.reduceEqDiff, reduceIte, again, stepV, wanted, resE, resL, resU, wr, rd, known, fillE, U.cells]; try rfl), he, fun j hj => by omega, (by simp (decide := true) (disch := first | omega | rfl) only [↓SD, SP, opE, fget, binA, Nat.reduceEqDiff, reduceIte, again, stepV, wanted, resE, resL, resU, wr, rd, known, fillE, U.cells]; try rfl), b, c, (by simp (decide := true) (disch := first | omega | rfl) only [↓SD, SP, opE, fget, binA, Nat.reduceEqDiff, reduceIte, again, stepV, wanted, resE, resL, resU, wr, rd, known, fillE, U.cells]; try rfl), hb⟩
  obtain ⟨h19, h18, h0, h1', h2, heq, hlt5, h9, b', c', h8, hq⟩ := hS
  unfold impl_rank_L0
  simp (decide := true) (disch := first | omega | rfl) only [↓SD, SP, opE, fget, binA, Nat.reduceEqDiff, reduceIte, again, stepV, wanted, resE, resL, resU, wr, rd, known, fillE, U.cells, h19, h18]
  refine ⟨fun hb => ?_, fun hb => ?_⟩
  · have hlt := of_decide_eq_true hb
    have hi' : i < s.length := by omega
    have hsi : s[i]? = some s[i] := List.getElem?_eq_getElem hi'
    obtain ⟨g1, g2, g3, g4, g5⟩ := has_spec hbd hp hi'
    have hw : IntKind.i64.wrap ((colS s i : Nat) : Int) = colS s i := by rw [IntKind.wrap_i64]; omega
    simp (decide := true) (disch := first | omega | rfl) only [↓SD, SP, opE, fget, binA, Nat.reduceEqDiff, reduceIte, again, stepV, wanted, resE, resL, resU, wr, rd, known, fillE, U.cells, h19, h0, h1', hsi, g4]
    refine ⟨fun hb => ?_, fun hb => ?_⟩
    · have hge := of_decide_eq_true hb
      simp (decide := true) (disch := first | omega | rfl) only [↓SD, SP, opE, fget, binA, Nat.reduceEqDiff, reduceIte, again, stepV, wanted, resE, resL, resU, wr, rd, known, fillE, U.cells]
      exact ⟨_, rfl, .inr ⟨fun h => by have := h i hi'; omega, rfl⟩, heq⟩
    · have hge := of_decide_eq_false hb
      have hci : colS s i < t := by omega
      have hpr : Pr s.length t (colS s) i := ⟨hlt5, fun j h0 hj => (has_spec hbd hp hj).2.2.2.2 h0⟩
      simp (decide := true) (disch := first | omega | rfl) only [↓SD, SP, opE, fget, binA, Nat.reduceEqDiff, reduceIte, again, stepV, wanted, resE, resL, resU, wr, rd, known, fillE, U.cells]
      refine (rank_L1 (n := s.length) (t := t) (i := i) (around := around) (p := colS s) (bt := b') (cc := c') hi hc hT hs hi' hpr hci (by simp (decide := true) (disch := first | omega | rfl) only [↓SD, SP, opE, fget, binA, Nat.reduceEqDiff, reduceIte, again, stepV, wanted, resE, resL, resU, wr, rd, known, fillE, U.cells, h2]) (by simp (decide := true) (disch := first | omega | rfl) only [↓SD, SP, opE, fget, binA, Nat.reduceEqDiff, reduceIte, again, stepV, wanted, resE, resL, resU, wr, rd, known, fillE, U.cells]) (by simp (decide := true) (disch := first | omega | rfl) only [↓SD, SP, opE, fget, binA, Nat.reduceEqDiff, reduceIte, again, stepV, wanted, resE, resL, resU, wr, rd, known, fillE, U.cells]) (by simp (decide := true) (disch := first | omega | rfl) only [↓SD, SP, opE, fget, binA, Nat.reduceEqDiff, reduceIte, again, stepV, wanted, resE, resL, resU, wr, rd, known, fillE, U.cells]) (by simp (decide := true) (disch := first | omega | rfl) only [↓SD, SP, opE, fget, binA, Nat.reduceEqDiff, reduceIte, again, stepV, wanted, resE, resL, resU, wr, rd, known, fillE, U.cells, h9]) (by simp (decide := true) (disch := first | omega | rfl) only [↓SD, SP, opE, fget, binA, Nat.reduceEqDiff, reduceIte, again, stepV, wanted, resE, resL, resU, wr, rd, known, fillE, U.cells, h8]) hq).mono ?_
      rintro e f' q' ⟨rfl, he', g9, hk⟩
      have j19 := hk 19 (by decide); have j18 := hk 18 (by decide); have j0 := hk 0 (by decide); have j1 := hk 1 (by decide); have j2 := hk 2 (by decide); have j8 := hk 8 (by decide); have j10 := hk 10 (by decide); have j11 := hk 11 (by decide)
      simp (decide := true) only [↓SD, SP, opE, fget, binA, Nat.reduceEqDiff, reduceIte, again, stepV, wanted, resE, resL, resU, wr, rd, known, fillE, U.cells, h19, h18, h0, h1', h2, h8] at j19 j18 j0 j1 j2 j8 j10 j11
      simp (decide := true) (disch := first | omega | rfl) only [↓SD, SP, opE, fget, binA, Nat.reduceEqDiff, reduceIte, again, stepV, wanted, resE, resL, resU, wr, rd, known, fillE, U.cells, j8, j10, j11]
      refine Wo.callR (by simp (decide := true) (disch := first | omega | rfl) only [↓SD, SP, opE, fget, binA, Nat.reduceEqDiff, reduceIte, again, stepV, wanted, resE, resL, resU, wr, rd, known, fillE, U.cells]; try rfl) (fixed_ok (board := i) (col := (colS s i : Nat)) hi.fixed hi.clone (he'.get hq) hi' (by omega)) ?_
      rintro _ m2 ⟨b2, rfl, hb2, he2, hlo2⟩
      simp (decide := true) (disch := first | omega | rfl) only [↓SD, SP, opE, fget, binA, Nat.reduceEqDiff, reduceIte, again, stepV, wanted, resE, resL, resU, wr, rd, known, fillE, U.cells, j19]
      refine ⟨by omega, by simp, j18, j0, j1, j2, (heq.trans he').trans he2, fun j hj => ?_, g9, b2, _, rfl, by rw [← preT_next]; exact hb2⟩
      by_cases hji : j = i
      · rw [hji]; exact hci
      · exact hlt5 j (by omega)
  · have hlt := of_decide_eq_false hb
    have : i = s.length := by omega
    subst this
    simp (decide := true) (disch := first | omega | rfl) only [↓SD, SP, opE, fget, binA, Nat.reduceEqDiff, reduceIte, again, stepV, wanted, resE, resL, resU, wr, rd, known, fillE, U.cells, h9]
    exact ⟨_, rfl, .inl ⟨hlt5, rfl⟩, heq⟩

abbrev slotsK2 : List Nat := 7 :: 11 :: List.range' 25 28
set_option maxHeartbeats 1000000 in
theorem coRank_L1 (hs' : ColS G) (hW : G 891 = some (.code spec_coWith)) {s : List UInt8} {t i : Nat} {around : Bool} {fr : Fr} {q : Mem} (hT : t ≤ 5) (hs : s.length ≤ 20) (hil : i < s.length) (hbd : ∀ x ∈ s, boardB x = true) (hpp : properB s around = true) (hp : Pr s.length t (colS s) i) (hpi : colS s i < t)
    (f0 : fget fr 0 = V.s s) (f1 : fget fr 1 = V.i t) (f2 : fget fr 2 = V.b around) (f9 : fget fr 9 = V.i i) (f10 : fget fr 10 = V.i (colS s i)) (f11 : fget fr 11 = V.i 0) (f7 : fget fr 7 = V.i (rankR s.length t around (colS s) i)) (f8 : fget fr 8 = V.s (nowS (bare s.length) (colS s) i)) :
    Wc G (.loop spec_coRank_L1) (fun e f' q' => e = .exit 2 ∧ Ext q q' ∧ fget f' 7 = V.i (rankR s.length t around (colS s) (i + 1)) ∧ Keep slotsK2 fr f') fr q := by
  have hl : (bare s.length).length = s.length := by simp
  refine Wc.loopN (fun c f q' => fget f 11 = V.i c ∧ Keep slotsK2 fr f ∧ Ext q q' ∧ fget f 7 = V.i (rankR s.length t around (colS s) i + sm (stepC (bare s.length) t around (colS s) i) c)) (colS s i) (fun c f q' hcT hS => ?_)
    ⟨f11, Keep.refl, Ext.refl _, by rw [f7]; simp [sm]⟩
  obtain ⟨h11, hk, heq, h7⟩ := hS
  have k0 := (hk 0 (by decide)).trans f0; have k1 := (hk 1 (by decide)).trans f1; have k2 := (hk 2 (by decide)).trans f2; have k9 := (hk 9 (by decide)).trans f9; have k10 := (hk 10 (by decide)).trans f10; have k8 := (hk 8 (by decide)).trans f8
  unfold spec_coRank_L1
  simp (decide := true) (disch := first | omega | rfl) only [↓SD, SP, opE, fget, binA, Nat.reduceEqDiff, reduceIte, again, stepV, wanted, resE, resL, resU, wr, rd, known, fillE, U.cells, h11, k10]
  refine ⟨fun hb => ?_, fun hb => ?_⟩
  · have hlt := of_decide_eq_true hb
    have hb1 := part_bound (around := around) hs hT hil hp (show c ≤ t by omega)
    have hb2 := part_bound (around := around) hs hT hil hp (show c + 1 ≤ t by omega)
    have e2 : sm (stepC (bare s.length) t around (colS s) i) (c + 1) = sm (stepC (bare s.length) t around (colS s) i) c + stepC (bare s.length) t around (colS s) i c := rfl
    have go : ∀ (ok : i = 0 ∨ colS s (i - 1) ≠ c) mm, Rn G 537 [V.s (nowS (bare s.length) (put1 (colS s) i c) (i + 1)), V.i t, V.b around, V.i ((i + 1 : Nat) : Int)] mm fun v m' => v = V.i (stepC (bare s.length) t around (colS s) i c) ∧ Ext mm m' := by
      intro ok mm
      have hq0 : put1 (colS s) i c 0 < t := by
        unfold put1
        split
        · omega
        · exact hp.1 0 (by omega)
      have hq1 : put1 (colS s) i c (i + 1 - 1) < t := by unfold put1; rw [if_pos (by omega)]; omega
      have hv : endsF (bare s.length) t (i + 1) ((put1 (colS s) i c (i + 1 - 1) : Nat) : Int) (lastOf around (put1 (colS s) i c)) = stepC (bare s.length) t around (colS s) i c := by
        have : put1 (colS s) i c (i + 1 - 1) = c := by unfold put1; rw [if_pos (by omega)]
        unfold stepC
        rw [this, if_pos ⟨⟨by omega, bare_allow hil⟩, ok⟩]
      have := coFromD_ok (m := mm) (p := put1 (colS s) i c) (s := bare s.length) (k := i + 1) (T := t) (around := around) hs' (by omega) (by omega) (by omega) hT hq0 hq1
      rw [hv] at this
      exact this
    have cw : ∀ mm, Rn G 891 [V.s (nowS (bare s.length) (colS s) i), V.i i, V.i c] mm fun v m' => v = V.s (nowS (bare s.length) (put1 (colS s) i c) (i + 1)) ∧ m' = mm := fun mm => coWith_ok hW (by omega) (by omega) (by omega)
    have ei : (i : Int) + 1 = ((i + 1 : Nat) : Int) := by omega
    by_cases hi0 : i = 0
    · have hz : ((i : Int) == 0) = true := by rw [beq_iff_eq]; omega
      simp (decide := true) (disch := first | omega | rfl) only [↓SD, SP, opE, fget, binA, Nat.reduceEqDiff, reduceIte, again, stepV, wanted, resE, resL, resU, wr, rd, known, fillE, U.cells, h11, k9, k8, k0, k1, k2, h7, hz]
      refine Wo.callR (by simp (decide := true) (disch := first | omega | rfl) only [↓SD, SP, opE, fget, binA, Nat.reduceEqDiff, reduceIte, again, stepV, wanted, resE, resL, resU, wr, rd, known, fillE, U.cells]; try rfl) (cw _) ?_
      rintro _ m1 ⟨rfl, rfl⟩
      simp (decide := true) (disch := first | omega | rfl) only [↓SD, SP, opE, fget, binA, Nat.reduceEqDiff, reduceIte, again, stepV, wanted, resE, resL, resU, wr, rd, known, fillE, U.cells, k1, k2, k9]
      refine Wo.callR (by simp (decide := true) (disch := first | omega | rfl) only [↓SD, SP, opE, fget, binA, Nat.reduceEqDiff, reduceIte, again, stepV, wanted, resE, resL, resU, wr, rd, known, fillE, U.cells]; try rfl) (go (.inl hi0) _) ?_
      rintro _ m1 ⟨rfl, he1⟩
      simp (decide := true) (disch := first | omega | rfl) only [↓SD, SP, opE, fget, binA, Nat.reduceEqDiff, reduceIte, again, stepV, wanted, resE, resL, resU, wr, rd, known, fillE, U.cells, h11]
      refine ⟨by omega, by simp, (by (repeat (refine Keep.set ?_ (by decide))); exact hk), heq.trans he1, ?_⟩
      rw [e2, ← Int.add_assoc]
    · have hz : ((i : Int) == 0) = false := by rw [beq_eq_false_iff_ne]; omega
      have hsp : s[i - 1]? = some s[i - 1] := List.getElem?_eq_getElem (by omega)
      have ek : (i : Int) - 1 = ((i - 1 : Nat) : Int) := by omega
      obtain ⟨g1, g2, g3, g4, g5⟩ := has_spec hbd hpp (show i - 1 < s.length by omega)
      simp (decide := true) (disch := first | omega | rfl) only [↓SD, SP, opE, fget, binA, Nat.reduceEqDiff, reduceIte, again, stepV, wanted, resE, resL, resU, wr, rd, known, fillE, U.cells, h11, k9, k8, k0, k1, k2, h7, hz, hsp, ek, g4]
      by_cases hne : colS s (i - 1) = c
      · have hnb : (((colS s (i - 1) : Nat) : Int) != (c : Int)) = false := by rw [bne_eq_false_iff_eq]; omega
        have hz0 : stepC (bare s.length) t around (colS s) i c = 0 := by
          unfold stepC
          rw [if_neg (fun h => by rcases h.2 with h | h; exact hi0 h; exact h hne)]
        simp (decide := true) (disch := first | omega | rfl) only [↓SD, SP, opE, fget, binA, Nat.reduceEqDiff, reduceIte, again, stepV, wanted, resE, resL, resU, wr, rd, known, fillE, U.cells, h11, hnb]
        refine ⟨by omega, by simp, (by (repeat (refine Keep.set ?_ (by decide))); exact hk), heq, ?_⟩
        rw [h7, e2, hz0, Int.add_zero]
      · have hnb : (((colS s (i - 1) : Nat) : Int) != (c : Int)) = true := by rw [bne_iff_ne]; omega
        simp (decide := true) (disch := first | omega | rfl) only [↓SD, SP, opE, fget, binA, Nat.reduceEqDiff, reduceIte, again, stepV, wanted, resE, resL, resU, wr, rd, known, fillE, U.cells, h11, k9, k8, h7, hnb]
        refine Wo.callR (by simp (decide := true) (disch := first | omega | rfl) only [↓SD, SP, opE, fget, binA, Nat.reduceEqDiff, reduceIte, again, stepV, wanted, resE, resL, resU, wr, rd, known, fillE, U.cells]; try rfl) (cw _) ?_
        rintro _ m1 ⟨rfl, rfl⟩
        simp (decide := true) (disch := first | omega | rfl) only [↓SD, SP, opE, fget, binA, Nat.reduceEqDiff, reduceIte, again, stepV, wanted, resE, resL, resU, wr, rd, known, fillE, U.cells, k1, k2, k9]
        refine Wo.callR (by simp (decide := true) (disch := first | omega | rfl) only [↓SD, SP, opE, fget, binA, Nat.reduceEqDiff, reduceIte, again, stepV, wanted, resE, resL, resU, wr, rd, known, fillE, U.cells]; try rfl) (go (.inr hne) _) ?_
        rintro _ m1 ⟨rfl, he1⟩
        simp (decide := true) (disch := first | omega | rfl) only [↓SD, SP, opE, fget, binA, Nat.reduceEqDiff, reduceIte, again, stepV, wanted, resE, resL, resU, wr, rd, known, fillE, U.cells, h11]
        refine ⟨by omega, by simp, (by (repeat (refine Keep.set ?_ (by decide))); exact hk), heq.trans he1, ?_⟩
        rw [e2, ← Int.add_assoc]
  · have hlt := of_decide_eq_false hb
    have : c = colS s i := by omega
    rw [this] at h7
    simp (decide := true) (disch := first | omega | rfl) only [↓SD, SP, opE, fget, binA, Nat.reduceEqDiff, reduceIte, again, stepV, wanted, resE, resL, resU, wr, rd, known, fillE, U.cells, h7]
    exact ⟨heq, rfl, (by (repeat (refine Keep.set ?_ (by decide))); exact hk)⟩
end Go.AL
