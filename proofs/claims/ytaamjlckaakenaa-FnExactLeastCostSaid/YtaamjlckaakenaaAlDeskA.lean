/-
  Lists of numbers: what they weigh, their copies, what is compared, bounds.
-/
import Derived.Test.YtaamjlckaakenaaAlListIn
import Derived.Test.YtaamjlckaakenaaAlColFence
namespace Go.AL
set_option linter.unusedSimpArgs false
set_option linter.unusedVariables false
open F
set_option linter.unusedSimpArgs false
set_option linter.unusedVariables false
variable {G : Env}

/-- A slice of numbers in memory. -/
def TxI (m : Mem) (v : V) (n : Nat) (f : Nat → Int) : Prop :=
  (v = V.a .nils ∧ n = 0) ∨ (∃ b w cap c, v = V.a (.sl b 0 n c) ∧ n ≤ cap ∧ (0 < cap → m[b]? = some (.cells w (ints cap f)))) ∨ ((∃ ad, v = V.a (.zs ad)) ∧ n = 0)
theorem TxI.ext {m m' : Mem} {v : V} {n : Nat} {f : Nat → Int} (h : TxI m v n f) (he : Ext m m') : TxI m' v n f := by
  rcases h with h | ⟨b, w, cap, c, h1, h2, h3⟩ | h
  · exact .inl h
  · exact .inr (.inl ⟨b, w, cap, c, h1, h2, fun hc => he.get (h3 hc)⟩)
  · exact .inr (.inr h)
theorem TxI.of {m : Mem} {v : V} {f : Nat → Int} (h : IsRow m v (fun i => .int .i64 (f i))) : ∃ n, n ≤ 9223372036854775807 ∧ TxI m v n f := by
  rcases h with h | ⟨b, n, cap, h1, h2, h3, h4⟩
  · exact ⟨0, by decide, .inl ⟨h, rfl⟩⟩
  · exact ⟨n, by omega, .inr (.inl ⟨b, false, cap, _, h1, h2, fun hc => h4 hc⟩)⟩

theorem szIntS_ok (hG : G 542 = some (.code laws_szIntS)) {m : Mem} {v : V} {n : Nat} {f : Nat → Int} {x : Int} (h : TxI m v n f) (hn : n ≤ 9223372036854775807) (hx : 0 ≤ x ∧ x ≤ 1048576) :
    Rn G 542 [v, V.i x] m fun r m' => (∃ y : Int, r = V.i y ∧ (0 ≤ y → n ≤ 1048576 ∧ y ≤ 1048576)) ∧ m' = m := by
  refine Rn.code hG ?_
  unfold laws_szIntS
  rcases h with ⟨rfl, rfl⟩ | ⟨b, w, cap, c, rfl, hle, hq⟩ | ⟨⟨ad, rfl⟩, rfl⟩
  case inl | inr.inr =>
    have hd : decide (x - 0 < 0) = false := decide_eq_false (by omega)
    simp (decide := true) (disch := first | omega | rfl) only [↓SD, SP, opE, fget, binA, Nat.reduceEqDiff, reduceIte, again, stepV, wanted, resE, resL, resU, wr, rd, known, fillE, U.cells, hd]
    exact ⟨_, rfl, _, rfl, fun _ => by omega⟩
  · simp (decide := true) (disch := first | omega | rfl) only [↓SD, SP, opE, fget, binA, Nat.reduceEqDiff, reduceIte, again, stepV, wanted, resE, resL, resU, wr, rd, known, fillE, U.cells]
    refine ⟨fun hb => ?_, fun hb => ?_⟩
    · have hlt := of_decide_eq_true hb
      simp (decide := true) (disch := first | omega | rfl) only [↓SD, SP, opE, fget, binA, Nat.reduceEqDiff, reduceIte, again, stepV, wanted, resE, resL, resU, wr, rd, known, fillE, U.cells]
      exact ⟨_, rfl, _, rfl, fun h => by omega⟩
    · have hge := of_decide_eq_false hb
      simp (decide := true) (disch := first | omega | rfl) only [↓SD, SP, opE, fget, binA, Nat.reduceEqDiff, reduceIte, again, stepV, wanted, resE, resL, resU, wr, rd, known, fillE, U.cells]
      exact ⟨_, rfl, _, rfl, fun h => by omega⟩

theorem toIntS_ok (hG : G 544 = some (.code laws_toIntS)) {m : Mem} {v : V} {n : Nat} {f : Nat → Int} (h : TxI m v n f) (hn : n ≤ 1048576) :
    Rn G 544 [v] m fun r m' => (∃ b, r = V.a (.sl b 0 n (.ex n)) ∧ m'[b]? = some (.cells true (ints n f)) ∧ m.length ≤ b) ∧ Ext m m' := by
  refine Rn.code hG ?_
  unfold laws_toIntS
  have key : ∀ fr q, fget fr 0 = v → Ext m q → ∀ b, m.length ≤ b → q[b]? = some (.cells true (ints n (upto f 0))) → fget fr 3 = V.a (.sl b 0 n (.ex n)) → fget fr 4 = V.i 0 →
      Wc G (.loop laws_toIntS_L0) (fun e f' q' => e = .exit 0 ∧ Ext m q' ∧ q'[b]? = some (.cells true (ints n f)) ∧ fget f' 3 = V.a (.sl b 0 n (.ex n))) fr q := by
    intro fr q g0 he b hlo qb g3 g4
    refine Wc.loopN (fun i f' q' => fget f' 4 = V.i i ∧ fget f' 0 = v ∧ fget f' 3 = V.a (.sl b 0 n (.ex n)) ∧ Ext m q' ∧ q'[b]? = some (.cells true (ints n (upto f i)))) n (fun i f' q' hil hS => ?_) ⟨g4, g0, g3, he, qb⟩
    obtain ⟨h4, h0, h3, he, qb⟩ := hS
    have lb := lt_of_get qb
    unfold laws_toIntS_L0
    rcases h.ext he with ⟨rfl, rfl⟩ | ⟨b', w, cap, c, rfl, hle, hq⟩ | ⟨⟨ad, rfl⟩, rfl⟩
    case inl | inr.inr =>
      have hi0 : i = 0 := by omega
      subst hi0
      simp (decide := true) (disch := first | omega | rfl) only [↓SD, SP, opE, fget, binA, Nat.reduceEqDiff, reduceIte, again, stepV, wanted, resE, resL, resU, wr, rd, known, fillE, U.cells, h4, h0, h3]
      exact ⟨he, qb⟩
    · simp (decide := true) (disch := first | omega | rfl) only [↓SD, SP, opE, fget, binA, Nat.reduceEqDiff, reduceIte, again, stepV, wanted, resE, resL, resU, wr, rd, known, fillE, U.cells, h4, h0]
      refine ⟨fun hb => ?_, fun hb => ?_⟩
      · have hlt := of_decide_eq_true hb
        have hq' := hq (by omega)
        simp (decide := true) (disch := first | omega | rfl) only [↓SD, SP, opE, fget, binA, Nat.reduceEqDiff, reduceIte, again, stepV, wanted, resE, resL, resU, wr, rd, known, fillE, U.cells, h4, h0, h3, hq', qb]
        have hu : upd (upto f i) i (f i) = upto f (i + 1) := upto_upd rfl
        first
        | exact ⟨by omega, by simp, he.set hlo, by rw [hu]⟩
      · have : i = n := by have := of_decide_eq_false hb; omega
        subst this
        simp (decide := true) (disch := first | omega | rfl) only [↓SD, SP, opE, fget, binA, Nat.reduceEqDiff, reduceIte, again, stepV, wanted, resE, resL, resU, wr, rd, known, fillE, U.cells, h3]
        exact ⟨he, by rw [qb, upto_all]⟩
  have z : ((0 : Int).toNat) = 0 := rfl
  rcases h with ⟨rfl, rfl⟩ | ⟨b', w, cap, c, rfl, hle, hq⟩ | ⟨⟨ad, rfl⟩, rfl⟩
  case inl | inr.inr =>
    simp (decide := true) (disch := first | omega | rfl) only [↓SD, SP, opE, fget, binA, Nat.reduceEqDiff, reduceIte, again, stepV, wanted, resE, resL, resU, wr, rd, known, fillE, U.cells, z]
    refine (key _ (m ++ [Blk.cells true (List.replicate 0 [A.int .i64 0]).flatten]) (by simp (decide := true) (disch := first | omega | rfl) only [↓SD, SP, opE, fget, binA, Nat.reduceEqDiff, reduceIte, again, stepV, wanted, resE, resL, resU, wr, rd, known, fillE, U.cells]) (Ext.push _ _) m.length (Nat.le_refl _) (by rw [y101, upto_zero]; simp) (by simp (decide := true) (disch := first | omega | rfl) only [↓SD, SP, opE, fget, binA, Nat.reduceEqDiff, reduceIte, again, stepV, wanted, resE, resL, resU, wr, rd, known, fillE, U.cells]) (by simp (decide := true) (disch := first | omega | rfl) only [↓SD, SP, opE, fget, binA, Nat.reduceEqDiff, reduceIte, again, stepV, wanted, resE, resL, resU, wr, rd, known, fillE, U.cells])).mono ?_
    rintro e f' q' ⟨rfl, he, hb, g3⟩
    simp (decide := true) (disch := first | omega | rfl) only [↓SD, SP, opE, fget, binA, Nat.reduceEqDiff, reduceIte, again, stepV, wanted, resE, resL, resU, wr, rd, known, fillE, U.cells, g3]
    exact ⟨_, rfl, ⟨_, rfl, hb, Nat.le_refl _⟩, he⟩
  · simp (decide := true) (disch := first | omega | rfl) only [↓SD, SP, opE, fget, binA, Nat.reduceEqDiff, reduceIte, again, stepV, wanted, resE, resL, resU, wr, rd, known, fillE, U.cells]
    refine (key _ (m ++ [Blk.cells true (ints n fun _ => 0)]) (by simp (decide := true) (disch := first | omega | rfl) only [↓SD, SP, opE, fget, binA, Nat.reduceEqDiff, reduceIte, again, stepV, wanted, resE, resL, resU, wr, rd, known, fillE, U.cells]) (Ext.push _ _) m.length (Nat.le_refl _) (by rw [upto_zero]; simp) (by simp (decide := true) (disch := first | omega | rfl) only [↓SD, SP, opE, fget, binA, Nat.reduceEqDiff, reduceIte, again, stepV, wanted, resE, resL, resU, wr, rd, known, fillE, U.cells]) (by simp (decide := true) (disch := first | omega | rfl) only [↓SD, SP, opE, fget, binA, Nat.reduceEqDiff, reduceIte, again, stepV, wanted, resE, resL, resU, wr, rd, known, fillE, U.cells])).mono ?_
    rintro e f' q' ⟨rfl, he, hb, g3⟩
    simp (decide := true) (disch := first | omega | rfl) only [↓SD, SP, opE, fget, binA, Nat.reduceEqDiff, reduceIte, again, stepV, wanted, resE, resL, resU, wr, rd, known, fillE, U.cells, g3]
    exact ⟨_, rfl, ⟨_, rfl, hb, Nat.le_refl _⟩, he⟩

theorem eqIntS_ok (hG : G 270 = some (.code laws_eqIntS)) {m : Mem} {b1 b2 n : Nat} {w1 w2 : Bool} {c1 c2 : Cap} {f : Nat → Int} (q1 : m[b1]? = some (.cells w1 (ints n f))) (q2 : m[b2]? = some (.cells w2 (ints n f))) (hn : n ≤ 1048576) :
    Rn G 270 [V.a (.sl b1 0 n c1), V.a (.sl b2 0 n c2)] m fun r m' => r = V.b true ∧ m' = m := by
  refine Rn.code hG ?_
  unfold laws_eqIntS
  simp (decide := true) (disch := first | omega | rfl) only [↓SD, SP, opE, fget, binA, Nat.reduceEqDiff, reduceIte, again, stepV, wanted, resE, resL, resU, wr, rd, known, fillE, U.cells, bne_self_eq_false]
  refine Wc.loopN (fun i f' q => fget f' 5 = V.i i ∧ fget f' 0 = V.a (.sl b1 0 n c1) ∧ fget f' 1 = V.a (.sl b2 0 n c2) ∧ q = m) n (fun i f' q hil hS => ?_) ⟨(by simp (decide := true) (disch := first | omega | rfl) only [↓SD, SP, opE, fget, binA, Nat.reduceEqDiff, reduceIte, again, stepV, wanted, resE, resL, resU, wr, rd, known, fillE, U.cells, bne_self_eq_false]; try rfl), (by simp (decide := true) (disch := first | omega | rfl) only [↓SD, SP, opE, fget, binA, Nat.reduceEqDiff, reduceIte, again, stepV, wanted, resE, resL, resU, wr, rd, known, fillE, U.cells, bne_self_eq_false]; try rfl), (by simp (decide := true) (disch := first | omega | rfl) only [↓SD, SP, opE, fget, binA, Nat.reduceEqDiff, reduceIte, again, stepV, wanted, resE, resL, resU, wr, rd, known, fillE, U.cells, bne_self_eq_false]; try rfl), rfl⟩
  obtain ⟨h5, h0, h1, rfl⟩ := hS
  unfold laws_eqIntS_L0
  simp (decide := true) (disch := first | omega | rfl) only [↓SD, SP, opE, fget, binA, Nat.reduceEqDiff, reduceIte, again, stepV, wanted, resE, resL, resU, wr, rd, known, fillE, U.cells, h5, h0]
  refine ⟨fun hb => ?_, fun hb => ?_⟩
  · have hlt := of_decide_eq_true hb
    simp (decide := true) (disch := first | omega | rfl) only [↓SD, SP, opE, fget, binA, Nat.reduceEqDiff, reduceIte, again, stepV, wanted, resE, resL, resU, wr, rd, known, fillE, U.cells, h5, h0, h1, q1, q2, bne_self_eq_false]
    first
    | exact ⟨by omega, by simp⟩
    | exact ⟨by omega, by simp, h0, h1⟩
  · simp (decide := true) (disch := first | omega | rfl) only [↓SD, SP, opE, fget, binA, Nat.reduceEqDiff, reduceIte, again, stepV, wanted, resE, resL, resU, wr, rd, known, fillE, U.cells]

/-! ### Bounds -/
def inB (lo hi x : Int) : Bool := decide (lo ≤ x) && decide (x ≤ hi)
def allB (lo hi : Int) (n : Nat) (f : Nat → Int) : Bool := (List.range n).all fun i => inB lo hi (f i)
theorem allB_bad {lo hi : Int} {n i : Nat} {f : Nat → Int} (hi' : i < n) (h : inB lo hi (f i) = false) : allB lo hi n f = false :=
  List.all_eq_false.2 ⟨i, List.mem_range.2 hi', by rw [h]; decide⟩
theorem allB_good {lo hi : Int} {n : Nat} {f : Nat → Int} (h : ∀ j, j < n → inB lo hi (f j) = true) : allB lo hi n f = true :=
  List.all_eq_true.2 fun j hj => h j (List.mem_range.1 hj)

structure DkI (G : Env) : Prop where
  within : G 597 = some (.code impl_within)
  clos : G 907 = some (.code impl_allWithin_1)
  index : G 840 = some (.code slices_IndexFunc_int_int)
  contains : G 906 = some (.code slices_ContainsFunc_int_int)
  allWithin : G 617 = some (.code impl_allWithin)

theorem within0_ok (hG : G 597 = some (.code impl_within)) {m : Mem} {n a b : Int} : Rn G 597 [V.i n, V.i a, V.i b] m fun v m' => v = V.b (inB a b n) ∧ m' = m := by
  refine Rn.code hG ?_
  unfold impl_within inB
  simp (decide := true) (disch := first | omega | rfl) only [↓SD, SP, opE, fget, binA, Nat.reduceEqDiff, reduceIte, again, stepV, wanted, resE, resL, resU, wr, rd, known, fillE, U.cells]
  refine ⟨fun hb => ?_, fun hb => ?_⟩
  · simp (decide := true) (disch := first | omega | rfl) only [↓SD, SP, opE, fget, binA, Nat.reduceEqDiff, reduceIte, again, stepV, wanted, resE, resL, resU, wr, rd, known, fillE, U.cells, hb]
    exact ⟨_, rfl, rfl⟩
  · simp (decide := true) (disch := first | omega | rfl) only [↓SD, SP, opE, fget, binA, Nat.reduceEqDiff, reduceIte, again, stepV, wanted, resE, resL, resU, wr, rd, known, fillE, U.cells, hb]
    exact ⟨_, rfl, rfl⟩

theorem clos1_ok (h : DkI G) {m : Mem} {x lo hi : Int} {p1 p2 : Nat} (q1 : m[p1]? = some (.cells true [A.int .i64 lo])) (q2 : m[p2]? = some (.cells true [A.int .i64 hi])) :
    Rn G 907 [V.i x, V.a (.ptr p1 0), V.a (.ptr p2 0)] m fun v m' => v = V.b (!inB lo hi x) ∧ m' = m := by
  refine Rn.code h.clos ?_
  unfold impl_allWithin_1
  simp (decide := true) (disch := first | omega | rfl) only [↓SD, SP, opE, fget, binA, Nat.reduceEqDiff, reduceIte, again, stepV, wanted, resE, resL, resU, wr, rd, known, fillE, U.cells, q1, q2, List.take_succ_cons, List.take_zero]
  refine Wo.callR (by simp (decide := true) (disch := first | omega | rfl) only [↓SD, SP, opE, fget, binA, Nat.reduceEqDiff, reduceIte, again, stepV, wanted, resE, resL, resU, wr, rd, known, fillE, U.cells]; try rfl) (within0_ok h.within) ?_
  rintro _ _ ⟨rfl, rfl⟩
  simp (decide := true) (disch := first | omega | rfl) only [↓SD, SP, opE, fget, binA, Nat.reduceEqDiff, reduceIte, again, stepV, wanted, resE, resL, resU, wr, rd, known, fillE, U.cells]
  exact ⟨_, rfl, rfl⟩

theorem indexI_ok (h : DkI G) {m : Mem} {b n : Nat} {w : Bool} {c : Cap} {f : Nat → Int} {lo hi : Int} {p1 p2 : Nat} (hq : m[b]? = some (.cells w (ints n f))) (hn : n ≤ 1048576) (q1 : m[p1]? = some (.cells true [A.int .i64 lo])) (q2 : m[p2]? = some (.cells true [A.int .i64 hi])) :
    Rn G 840 [V.a (.sl b 0 n c), V.a (.fn 907 [(p1, 0), (p2, 0)])] m fun v m' => (∃ r : Int, v = V.i r ∧ decide (0 ≤ r) = !allB lo hi n f) ∧ m' = m := by
  refine Rn.code h.index ?_
  unfold slices_IndexFunc_int_int
  simp (decide := true) (disch := first | omega | rfl) only [↓SD, SP, opE, fget, binA, Nat.reduceEqDiff, reduceIte, again, stepV, wanted, resE, resL, resU, wr, rd, known, fillE, U.cells]
  refine Wc.loopN (fun i f' q => fget f' 8 = V.i i ∧ fget f' 7 = V.i n ∧ fget f' 1 = V.a (.fn 907 [(p1, 0), (p2, 0)]) ∧ fget f' 0 = V.a (.sl b 0 n c) ∧ q = m ∧ ∀ j, j < i → inB lo hi (f j) = true) n (fun i f' q hil hS => ?_) ⟨(by simp (decide := true) (disch := first | omega | rfl) only [↓SD, SP, opE, fget, binA, Nat.reduceEqDiff, reduceIte, again, stepV, wanted, resE, resL, resU, wr, rd, known, fillE, U.cells]; try rfl), (by simp (decide := true) (disch := first | omega | rfl) only [↓SD, SP, opE, fget, binA, Nat.reduceEqDiff, reduceIte, again, stepV, wanted, resE, resL, resU, wr, rd, known, fillE, U.cells]; try rfl), (by simp (decide := true) (disch := first | omega | rfl) only [↓SD, SP, opE, fget, binA, Nat.reduceEqDiff, reduceIte, again, stepV, wanted, resE, resL, resU, wr, rd, known, fillE, U.cells]; try rfl), (by simp (decide := true) (disch := first | omega | rfl) only [↓SD, SP, opE, fget, binA, Nat.reduceEqDiff, reduceIte, again, stepV, wanted, resE, resL, resU, wr, rd, known, fillE, U.cells]; try rfl), rfl, fun j hj => by omega⟩
  obtain ⟨h8, h7, h1, h0, rfl, ha⟩ := hS
  unfold slices_IndexFunc_int_int_L0
  simp (decide := true) (disch := first | omega | rfl) only [↓SD, SP, opE, fget, binA, Nat.reduceEqDiff, reduceIte, again, stepV, wanted, resE, resL, resU, wr, rd, known, fillE, U.cells, h8, h7]
  refine ⟨fun hb => ?_, fun hb => ?_⟩
  · have hlt := of_decide_eq_true hb
    simp (decide := true) (disch := first | omega | rfl) only [↓SD, SP, opE, fget, binA, Nat.reduceEqDiff, reduceIte, again, stepV, wanted, resE, resL, resU, wr, rd, known, fillE, U.cells, h8, h0, h1, hq]
    refine Wo.callv (g := 907) (caps := [(p1, 0), (p2, 0)]) (by simp (decide := true) (disch := first | omega | rfl) only [↓SD, SP, opE, fget, binA, Nat.reduceEqDiff, reduceIte, again, stepV, wanted, resE, resL, resU, wr, rd, known, fillE, U.cells]; try rfl) ?_
    refine (clos1_ok (x := f i) h q1 q2 |> fun hh => ?_)
    refine Rn.mono (by simp (decide := true) (disch := first | omega | rfl) only [↓SD, SP, opE, fget, binA, Nat.reduceEqDiff, reduceIte, again, stepV, wanted, resE, resL, resU, wr, rd, known, fillE, U.cells, List.cons_append, List.nil_append]; exact hh) ?_
    rintro _ _ ⟨rfl, rfl⟩
    simp (decide := true) (disch := first | omega | rfl) only [↓SD, SP, opE, fget, binA, Nat.reduceEqDiff, reduceIte, again, stepV, wanted, resE, resL, resU, wr, rd, known, fillE, U.cells]
    cases hbd : inB lo hi (f i) with
    | false =>
      simp (decide := true) (disch := first | omega | rfl) only [↓SD, SP, opE, fget, binA, Nat.reduceEqDiff, reduceIte, again, stepV, wanted, resE, resL, resU, wr, rd, known, fillE, U.cells]
      exact ⟨_, rfl, i, rfl, by rw [allB_bad (show i < n by omega) hbd]; simp⟩
    | true =>
      simp (decide := true) (disch := first | omega | rfl) only [↓SD, SP, opE, fget, binA, Nat.reduceEqDiff, reduceIte, again, stepV, wanted, resE, resL, resU, wr, rd, known, fillE, U.cells, h8]
      refine ⟨by omega, by simp, h7, h1, h0, fun j hj => ?_⟩
      by_cases hji : j = i
      · rw [hji]; exact hbd
      · exact ha j (by omega)
  · have hlt := of_decide_eq_false hb
    have : i = n := by omega
    subst this
    simp (decide := true) (disch := first | omega | rfl) only [↓SD, SP, opE, fget, binA, Nat.reduceEqDiff, reduceIte, again, stepV, wanted, resE, resL, resU, wr, rd, known, fillE, U.cells]
    exact ⟨_, rfl, -1, rfl, by rw [allB_good ha]; rfl⟩
end Go.AL
