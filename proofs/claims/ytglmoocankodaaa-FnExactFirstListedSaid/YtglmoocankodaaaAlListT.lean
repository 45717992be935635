/-
  The table of lists of colours, and what the reference counts.
-/
import Derived.Test.YtglmoocankodaaaAlListB
namespace Go.AL
set_option linter.unusedSimpArgs false
set_option linter.unusedVariables false
open F
set_option linter.unusedSimpArgs false
set_option linter.unusedVariables false
variable {G : Env}

def inL (l : List UInt8) (c : Nat) : Bool := decide (0 ≤ Lib.indexByte l (UInt8.ofNat (97 + c)))
def listT (f : Nat → List UInt8) (k : Nat) : Int := if inL (f (k / 5)) (k % 5) = true then 0 else 1099511627776
theorem listT_zero {f : Nat → List UInt8} : Zero (listT f) := by
  intro k; unfold listT; split
  · exact .inl rfl
  · exact .inr rfl
theorem listT_at {f : Nat → List UInt8} {i c : Nat} (hc : c < 5) : listT f (i * 5 + c) = if inL (f i) c = true then 0 else 1099511627776 := by
  unfold listT
  rw [show (i * 5 + c) % 5 = c by omega, show (i * 5 + c) / 5 = i by omega]

/-- The table while its boards are told. -/
def listU (f : Nat → List UInt8) (m : Nat) (k : Nat) : Int := if k < m then listT f k else 0
theorem listU_zero {f : Nat → List UInt8} {n : Nat} : ints (n * 5) (listU f 0) = ints (n * 5) (freeT 5) := ints_congr fun j hj => by
  unfold listU freeT; rw [if_neg (by omega), if_neg (by omega)]
theorem listU_all {f : Nat → List UInt8} {n : Nat} : ints n (listU f n) = ints n (listT f) := ints_congr fun j hj => if_pos hj
theorem listU_set {f : Nat → List UInt8} {m : Nat} {x : Int} (h : listT f m = x) : upd (listU f m) m x = listU f (m + 1) := by
  subst h
  funext k; unfold upd listU
  by_cases h1 : k = m
  · subst h1; rw [if_pos rfl, if_pos (by omega)]
  · rw [if_neg h1]
    by_cases h2 : k < m
    · rw [if_pos h2, if_pos (by omega)]
    · rw [if_neg h2, if_neg (by omega)]
theorem listU_same {f : Nat → List UInt8} {m : Nat} (h : listT f m = 0) : listU f m = listU f (m + 1) := by
  funext k; unfold listU
  by_cases h1 : k = m
  · subst h1; rw [if_neg (by omega), if_pos (by omega), h]
  · by_cases h2 : k < m
    · rw [if_pos h2, if_pos (by omega)]
    · rw [if_neg h2, if_neg (by omega)]

theorem contains_one (h883 : G 883 = some (.prim idx1Prim)) (hG : G 551 = some (.code strings_Contains)) {m : Mem} {l : List UInt8} {x : UInt8} :
    Rn G 551 [V.s l, V.s [x]] m fun v m' => v = V.b (decide (0 ≤ Lib.indexByte l x)) ∧ m' = m := by
  refine Rn.code hG ?_
  unfold strings_Contains
  simp (decide := true) (disch := first | omega | rfl) only [↓SD, SP, opE, fget, binA, Nat.reduceEqDiff, reduceIte, again, stepV, wanted, resE, resL, resU, wr, rd, known, fillE, U.cells]
  refine Wo.callR (by simp (decide := true) (disch := first | omega | rfl) only [↓SD, SP, opE, fget, binA, Nat.reduceEqDiff, reduceIte, again, stepV, wanted, resE, resL, resU, wr, rd, known, fillE, U.cells]; try rfl) (idx1_ok h883) ?_
  rintro _ _ ⟨rfl, rfl⟩
  simp (decide := true) (disch := first | omega | rfl) only [↓SD, SP, opE, fget, binA, Nat.reduceEqDiff, reduceIte, again, stepV, wanted, resE, resL, resU, wr, rd, known, fillE, U.cells]
  exact ⟨_, rfl, rfl⟩

theorem abc1 {c : Nat} (hc : c < 5) : List.drop c (List.take (c + 1) [(97 : UInt8), 98, 99, 100, 101]) = [UInt8.ofNat (97 + c)] := by
  have : c = 0 ∨ c = 1 ∨ c = 2 ∨ c = 3 ∨ c = 4 := by omega
  rcases this with rfl | rfl | rfl | rfl | rfl <;> rfl

structure ColL (G : Env) : Prop where
  isRing : G 877 = some (.code impl_isRing)
  within : G 597 = some (.code impl_within)
  free : G 540 = some (.code impl_free)
  isList : G 896 = some (.code impl_isList)
  contains : G 551 = some (.code strings_Contains)
  index : G 883 = some (.prim idx1Prim)
  listed : G 590 = some (.code impl_listed)

theorem isRing0_ok (h597 : G 597 = some (.code impl_within)) (h877 : G 877 = some (.code impl_isRing)) {m : Mem} {n : Int} : Rn G 877 [V.i n, V.b false] m fun v m' => v = V.b (ringB n false) ∧ m' = m := by
  refine Rn.code h877 ?_
  unfold impl_isRing
  simp (decide := true) (disch := first | omega | rfl) only [↓SD, SP, opE, fget, binA, Nat.reduceEqDiff, reduceIte, again, stepV, wanted, resE, resL, resU, wr, rd, known, fillE, U.cells]
  refine Wo.callR (by simp (decide := true) (disch := first | omega | rfl) only [↓SD, SP, opE, fget, binA, Nat.reduceEqDiff, reduceIte, again, stepV, wanted, resE, resL, resU, wr, rd, known, fillE, U.cells]; try rfl) (within_ok' h597) ?_
  rintro _ _ ⟨rfl, rfl⟩
  unfold ringB
  generalize (decide (1 ≤ n) && decide (n ≤ 20)) = w
  cases w <;> simp (decide := true) (disch := first | omega | rfl) only [↓SD, SP, opE, fget, binA, Nat.reduceEqDiff, reduceIte, again, stepV, wanted, resE, resL, resU, wr, rd, known, fillE, U.cells] <;> first | exact ⟨_, rfl, by simp, rfl⟩ | exact ⟨_, rfl, by simp⟩

set_option maxHeartbeats 1000000 in
theorem listed_ok (h : ColL G) (h930 : ∀ {m : Mem} {s : List UInt8} {c : Int}, Rn G 930 [V.s s, V.a (.int .u8 c)] m fun v m' => v = V.i (Lib.indexByte s c.toNat.toUInt8) ∧ m' = m) {m : Mem} {b n : Nat} {c : Cap} {w : Bool} {f : Nat → List UInt8} (hq : m[b]? = some (.cells w (strsL n f))) (hn : n ≤ 1048576) (hf : ∀ i, (f i).length ≤ 9223372036854775807) :
    Rn G 590 [V.a (.sl b 0 n c)] m fun v m' => ((listsB n f = true ∧ ∃ bt ct, v = .t [.a (.sl bt 0 n ct), .a (.bool true)] ∧ m'[bt]? = some (.cells true (ints (n * 5) (listT f))) ∧ m.length ≤ bt) ∨ (listsB n f = false ∧ v = .t [.a .nils, .a (.bool false)])) ∧ Ext m m' := by
  refine Rn.code h.listed ?_
  unfold impl_listed
  simp (decide := true) (disch := first | omega | rfl) only [↓SD, SP, opE, fget, binA, Nat.reduceEqDiff, reduceIte, again, stepV, wanted, resE, resL, resU, wr, rd, known, fillE, U.cells]
  refine Wo.callR (by simp (decide := true) (disch := first | omega | rfl) only [↓SD, SP, opE, fget, binA, Nat.reduceEqDiff, reduceIte, again, stepV, wanted, resE, resL, resU, wr, rd, known, fillE, U.cells]; try rfl) (isRing0_ok h.within h.isRing) ?_
  rintro _ m ⟨rfl, rfl⟩
  cases hr : ringB n false with
  | false =>
    simp (decide := true) (disch := first | omega | rfl) only [↓SD, SP, opE, fget, binA, Nat.reduceEqDiff, reduceIte, again, stepV, wanted, resE, resL, resU, wr, rd, known, fillE, U.cells]
    exact ⟨_, rfl, .inr ⟨by unfold listsB; rw [hr]; rfl, rfl⟩, Ext.refl _⟩
  | true =>
    have hn20 : 1 ≤ n ∧ n ≤ 20 := by unfold ringB at hr; simp at hr; omega
    simp (decide := true) (disch := first | omega | rfl) only [↓SD, SP, opE, fget, binA, Nat.reduceEqDiff, reduceIte, again, stepV, wanted, resE, resL, resU, wr, rd, known, fillE, U.cells]
    refine Wo.callR (by simp (decide := true) (disch := first | omega | rfl) only [↓SD, SP, opE, fget, binA, Nat.reduceEqDiff, reduceIte, again, stepV, wanted, resE, resL, resU, wr, rd, known, fillE, U.cells]; try rfl) (free_ok h.free (n := n) (t := 5) (by omega)) ?_
    rintro _ m1 ⟨⟨bt, ct, rfl, hct, hbt, hlt5, hlo⟩, he⟩
    simp (decide := true) (disch := first | omega | rfl) only [↓SD, SP, opE, fget, binA, Nat.reduceEqDiff, reduceIte, again, stepV, wanted, resE, resL, resU, wr, rd, known, fillE, U.cells]
    refine Wc.loopN (fun i f' q => fget f' 17 = V.i i ∧ fget f' 16 = V.i n ∧ fget f' 15 = V.a (.sl b 0 n c) ∧ fget f' 4 = V.a (.sl bt 0 n ct) ∧ Ext m q ∧ q[bt]? = some (.cells true (ints (n * 5) (listU f (i * 5)))) ∧ ∀ j, j < i → listB (f j) = true) n (fun i f' q hil hS => ?_)
      ⟨(by simp (decide := true) (disch := first | omega | rfl) only [↓SD, SP, opE, fget, binA, Nat.reduceEqDiff, reduceIte, again, stepV, wanted, resE, resL, resU, wr, rd, known, fillE, U.cells]; try rfl), (by simp (decide := true) (disch := first | omega | rfl) only [↓SD, SP, opE, fget, binA, Nat.reduceEqDiff, reduceIte, again, stepV, wanted, resE, resL, resU, wr, rd, known, fillE, U.cells]; try rfl), (by simp (decide := true) (disch := first | omega | rfl) only [↓SD, SP, opE, fget, binA, Nat.reduceEqDiff, reduceIte, again, stepV, wanted, resE, resL, resU, wr, rd, known, fillE, U.cells]; try rfl), (by simp (decide := true) (disch := first | omega | rfl) only [↓SD, SP, opE, fget, binA, Nat.reduceEqDiff, reduceIte, again, stepV, wanted, resE, resL, resU, wr, rd, known, fillE, U.cells]; try rfl), he, by rw [Nat.zero_mul, listU_zero, ← freeRows_ints]; exact hbt, fun j hj => by omega⟩
    obtain ⟨h17, h16, h15, h4, heq, qt, ha⟩ := hS
    have hq' := heq.get hq
    unfold impl_listed_L0
    simp (decide := true) (disch := first | omega | rfl) only [↓SD, SP, opE, fget, binA, Nat.reduceEqDiff, reduceIte, again, stepV, wanted, resE, resL, resU, wr, rd, known, fillE, U.cells, h17, h16]
    refine ⟨fun hb => ?_, fun hb => ?_⟩
    · have hlt := of_decide_eq_true hb
      have hcell := strsL_cell (n := n) (f := f) (j := i) (by omega)
      have hlen : (strsL n f).length = n := strsL_len
      simp (decide := true) (disch := first | omega | rfl) only [↓SD, SP, opE, fget, binA, Nat.reduceEqDiff, reduceIte, again, stepV, wanted, resE, resL, resU, wr, rd, known, fillE, U.cells, h17, h15, hq', hcell, hlen]
      refine Wo.callR (by simp (decide := true) (disch := first | omega | rfl) only [↓SD, SP, opE, fget, binA, Nat.reduceEqDiff, reduceIte, again, stepV, wanted, resE, resL, resU, wr, rd, known, fillE, U.cells]; try rfl) (isList_ok h930 h.isList (hf i)) ?_
      rintro _ q ⟨rfl, rfl⟩
      cases hl : listB (f i) with
      | false =>
        simp (decide := true) (disch := first | omega | rfl) only [↓SD, SP, opE, fget, binA, Nat.reduceEqDiff, reduceIte, again, stepV, wanted, resE, resL, resU, wr, rd, known, fillE, U.cells]
        exact ⟨_, rfl, .inr ⟨lists_bad (by omega) hl, rfl⟩, heq⟩
      | true =>
        simp (decide := true) (disch := first | omega | rfl) only [↓SD, SP, opE, fget, binA, Nat.reduceEqDiff, reduceIte, again, stepV, wanted, resE, resL, resU, wr, rd, known, fillE, U.cells]
        refine Wc.loopN (fun c' f2 q2 => fget f2 25 = V.i c' ∧ fget f2 5 = V.i i ∧ fget f2 6 = V.s (f i) ∧ fget f2 17 = V.i i ∧ fget f2 16 = V.i n ∧ fget f2 15 = V.a (.sl b 0 n c) ∧ fget f2 4 = V.a (.sl bt 0 n ct) ∧ Ext m q2 ∧ q2[bt]? = some (.cells true (ints (n * 5) (listU f (i * 5 + c'))))) 5 (fun c' f2 q2 hc5 hS => ?_)
          ⟨(by simp (decide := true) (disch := first | omega | rfl) only [↓SD, SP, opE, fget, binA, Nat.reduceEqDiff, reduceIte, again, stepV, wanted, resE, resL, resU, wr, rd, known, fillE, U.cells]; try rfl), (by simp (decide := true) (disch := first | omega | rfl) only [↓SD, SP, opE, fget, binA, Nat.reduceEqDiff, reduceIte, again, stepV, wanted, resE, resL, resU, wr, rd, known, fillE, U.cells]; try rfl), (by simp (decide := true) (disch := first | omega | rfl) only [↓SD, SP, opE, fget, binA, Nat.reduceEqDiff, reduceIte, again, stepV, wanted, resE, resL, resU, wr, rd, known, fillE, U.cells]; try rfl), by simp (decide := true) (disch := first | omega | rfl) only [↓SD, SP, opE, fget, binA, Nat.reduceEqDiff, reduceIte, again, stepV, wanted, resE, resL, resU, wr, rd, known, fillE, U.cells, h17], by simp (decide := true) (disch := first | omega | rfl) only [↓SD, SP, opE, fget, binA, Nat.reduceEqDiff, reduceIte, again, stepV, wanted, resE, resL, resU, wr, rd, known, fillE, U.cells, h16], by simp (decide := true) (disch := first | omega | rfl) only [↓SD, SP, opE, fget, binA, Nat.reduceEqDiff, reduceIte, again, stepV, wanted, resE, resL, resU, wr, rd, known, fillE, U.cells, h15], by simp (decide := true) (disch := first | omega | rfl) only [↓SD, SP, opE, fget, binA, Nat.reduceEqDiff, reduceIte, again, stepV, wanted, resE, resL, resU, wr, rd, known, fillE, U.cells, h4], heq, qt⟩
        obtain ⟨h25, h5, h6, h17, h16, h15, h4, heq, qt⟩ := hS
        have lq := lt_of_get qt
        unfold impl_listed_L1
        simp (decide := true) (disch := first | omega | rfl) only [↓SD, SP, opE, fget, binA, Nat.reduceEqDiff, reduceIte, again, stepV, wanted, resE, resL, resU, wr, rd, known, fillE, U.cells, h25]
        refine ⟨fun hb => ?_, fun hb => ?_⟩
        · have hlt2 := of_decide_eq_true hb
          have hab := abc1 (c := c') (by omega)
          have e1 : ((c' : Int) + 1).toNat = c' + 1 := by omega
          have hT := listT_at (f := f) (i := i) (c := c') (by omega)
          have hin : inL (f i) c' = decide (0 ≤ Lib.indexByte (f i) (UInt8.ofNat (97 + c'))) := rfl
          simp (decide := true) (disch := first | omega | rfl) only [↓SD, SP, opE, fget, binA, Nat.reduceEqDiff, reduceIte, again, stepV, wanted, resE, resL, resU, wr, rd, known, fillE, U.cells, h25, h6, bnd, e1, hab]
          refine Wo.callR (by simp (decide := true) (disch := first | omega | rfl) only [↓SD, SP, opE, fget, binA, Nat.reduceEqDiff, reduceIte, again, stepV, wanted, resE, resL, resU, wr, rd, known, fillE, U.cells]; try rfl) (contains_one h.index h.contains) ?_
          rintro _ q2 ⟨rfl, rfl⟩
          rw [← hin]
          cases hi : inL (f i) c' with
          | true =>
            rw [hi, if_pos rfl] at hT
            simp (decide := true) (disch := first | omega | rfl) only [↓SD, SP, opE, fget, binA, Nat.reduceEqDiff, reduceIte, again, stepV, wanted, resE, resL, resU, wr, rd, known, fillE, U.cells, h25]
            exact ⟨by omega, by simp, h5, h6, h17, h16, h15, h4, heq, by rw [show i * 5 + (c' + 1) = i * 5 + c' + 1 by omega, ← listU_same hT]; exact qt⟩
          | false =>
            rw [hi, if_neg (by decide)] at hT
            simp (decide := true) (disch := first | omega | rfl) only [↓SD, SP, opE, fget, binA, Nat.reduceEqDiff, reduceIte, again, stepV, wanted, resE, resL, resU, wr, rd, known, fillE, U.cells, h25, h4, h5, qt]
            first
            | exact ⟨by omega, by simp, h6, h17, h16, h15, heq.set hlo, by rw [listU_set hT, show i * 5 + (c' + 1) = i * 5 + c' + 1 by omega]⟩
        · have hlt2 := of_decide_eq_false hb
          have : c' = 5 := by omega
          subst this
          simp (decide := true) (disch := first | omega | rfl) only [↓SD, SP, opE, fget, binA, Nat.reduceEqDiff, reduceIte, again, stepV, wanted, resE, resL, resU, wr, rd, known, fillE, U.cells, h17]
          refine ⟨by omega, by simp, h16, h15, h4, heq, by rw [show (i + 1) * 5 = i * 5 + 5 by omega]; exact qt, fun j hj => ?_⟩
          by_cases hji : j = i
          · rw [hji]; exact hl
          · exact ha j (by omega)
    · have hlt := of_decide_eq_false hb
      have : i = n := by omega
      subst this
      simp (decide := true) (disch := first | omega | rfl) only [↓SD, SP, opE, fget, binA, Nat.reduceEqDiff, reduceIte, again, stepV, wanted, resE, resL, resU, wr, rd, known, fillE, U.cells, h4]
      refine ⟨_, rfl, .inl ⟨?_, bt, _, rfl, by rw [qt, listU_all], hlo⟩, heq⟩
      unfold listsB
      rw [hr, List.all_eq_true.2 fun j hj => ha j (List.mem_range.1 hj)]; rfl
end Go.AL
