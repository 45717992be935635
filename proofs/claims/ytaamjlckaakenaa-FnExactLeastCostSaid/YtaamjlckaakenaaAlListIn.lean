/-
  The laws' own copies of lists of texts: what they weigh, what is copied, what is compared.
-/
import Derived.Test.YtaamjlckaakenaaAlArgIn
import Derived.Test.YtaamjlckaakenaaAlW
import Derived.Test.YtaamjlckaakenaaAlIrCol
namespace Go.AL
set_option linter.unusedSimpArgs false
set_option linter.unusedVariables false
open F
set_option linter.unusedSimpArgs false
set_option linter.unusedVariables false
variable {G : Env}

def strsL (n : Nat) (f : Nat → List UInt8) : List A := (List.range n).map fun i => A.str (f i)
theorem strsL_len {n : Nat} {f : Nat → List UInt8} : (strsL n f).length = n := by simp [strsL]
theorem strsL_cell {n j : Nat} {f : Nat → List UInt8} (h : j < n) : List.take 1 (List.drop j (strsL n f)) = [A.str (f j)] := by
  have hl : (strsL n f).length = n := strsL_len
  have hj : (strsL n f)[j]'(by omega) = A.str (f j) := by simp [strsL]
  rw [List.drop_eq_getElem_cons (by omega), hj, List.take_succ_cons, List.take_zero]
def updS (f : Nat → List UInt8) (j : Nat) (x : List UInt8) : Nat → List UInt8 := fun k => if k = j then x else f k
theorem strsL_set {n j : Nat} {f : Nat → List UInt8} {x : List UInt8} : (strsL n f).set j (A.str x) = strsL n (updS f j x) := by
  apply List.ext_getElem?
  intro k
  unfold strsL updS
  by_cases hk : k = j
  · subst hk
    by_cases hn : k < n
    · simp [hn]
    · simp [hn]
  · rw [List.getElem?_set_ne (Ne.symm hk)]
    by_cases hn : k < n
    · simp [hn, hk]
    · simp [hn]
theorem strsL_splice {n j : Nat} {f : Nat → List UInt8} {x : List UInt8} : splice (strsL n f) j [A.str x] = strsL n (updS f j x) := by
  show (strsL n f).set j (A.str x) = _
  exact strsL_set
def uptoS (f : Nat → List UInt8) (j : Nat) : Nat → List UInt8 := fun k => if k < j then f k else []
theorem uptoS_upd {f : Nat → List UInt8} {j : Nat} : updS (uptoS f j) j (f j) = uptoS f (j + 1) := by
  funext k; unfold updS uptoS
  by_cases h1 : k = j
  · subst h1; rw [if_pos rfl, if_pos (by omega)]
  · rw [if_neg h1]
    by_cases h2 : k < j
    · rw [if_pos h2, if_pos (by omega)]
    · rw [if_neg h2, if_neg (by omega)]
theorem strsL_all {n : Nat} {f : Nat → List UInt8} : strsL n (uptoS f n) = strsL n f := by
  unfold strsL
  apply List.map_congr_left
  intro j hj
  have : j < n := by simpa using hj
  unfold uptoS; rw [if_pos this]
theorem strsL_zero {n : Nat} {f : Nat → List UInt8} : strsL n (uptoS f 0) = List.replicate n (A.str []) := by
  unfold strsL uptoS
  apply List.ext_getElem
  · simp
  · intro k h1 h2; simp

/-- A slice of texts in memory. -/
def TxL (m : Mem) (v : V) (n : Nat) (f : Nat → List UInt8) : Prop :=
  (v = V.a .nils ∧ n = 0) ∨ ∃ b w cap c, v = V.a (.sl b 0 n c) ∧ n ≤ cap ∧ (0 < cap → m[b]? = some (.cells w (strsL cap f)))
theorem TxL.ext {m m' : Mem} {v : V} {n : Nat} {f : Nat → List UInt8} (h : TxL m v n f) (he : Ext m m') : TxL m' v n f := by
  rcases h with h | ⟨b, w, cap, c, h1, h2, h3⟩
  · exact .inl h
  · exact .inr ⟨b, w, cap, c, h1, h2, fun hc => he.get (h3 hc)⟩
theorem TxL.of {m : Mem} {v : V} {f : Nat → List UInt8} (h : IsRow m v (fun i => .str (f i))) : ∃ n, n ≤ 9223372036854775807 ∧ TxL m v n f := by
  rcases h with h | ⟨b, n, cap, h1, h2, h3, h4⟩
  · exact ⟨0, by decide, .inl ⟨h, rfl⟩⟩
  · exact ⟨n, by omega, .inr ⟨b, false, cap, _, h1, h2, fun hc => h4 hc⟩⟩

theorem szStringS_ok (hG : G 122 = some (.code laws_szStringS)) {m : Mem} {v : V} {n : Nat} {f : Nat → List UInt8} (h : TxL m v n f) (hn : n ≤ 9223372036854775807) (hf : ∀ i, (f i).length ≤ 9223372036854775807) :
    Rn G 122 [v, V.i 1048576] m fun r m' => (∃ x : Int, r = V.i x ∧ (0 ≤ x → n ≤ 1048576)) ∧ m' = m := by
  refine Rn.code hG ?_
  unfold laws_szStringS
  rcases h with ⟨rfl, rfl⟩ | ⟨b, w, cap, c, rfl, hle, hq⟩
  · simp (decide := true) (disch := first | omega | rfl) only [↓SD, SP, opE, fget, binA, Nat.reduceEqDiff, reduceIte, again, stepV, wanted, resE, resL, resU, wr, rd, known, fillE, U.cells]
    refine Wc.loopN (fun i f q => fget f 5 = V.i 0 ∧ fget f 0 = V.a .nils ∧ fget f 1 = V.i 1048576 ∧ q = m) 0 (fun i f q hil hS => ?_) ⟨(by simp (decide := true) (disch := first | omega | rfl) only [↓SD, SP, opE, fget, binA, Nat.reduceEqDiff, reduceIte, again, stepV, wanted, resE, resL, resU, wr, rd, known, fillE, U.cells]; try rfl), (by simp (decide := true) (disch := first | omega | rfl) only [↓SD, SP, opE, fget, binA, Nat.reduceEqDiff, reduceIte, again, stepV, wanted, resE, resL, resU, wr, rd, known, fillE, U.cells]; try rfl), (by simp (decide := true) (disch := first | omega | rfl) only [↓SD, SP, opE, fget, binA, Nat.reduceEqDiff, reduceIte, again, stepV, wanted, resE, resL, resU, wr, rd, known, fillE, U.cells]; try rfl), rfl⟩
    obtain ⟨h5, h0, h1, rfl⟩ := hS
    unfold laws_szStringS_L0
    simp (decide := true) (disch := first | omega | rfl) only [↓SD, SP, opE, fget, binA, Nat.reduceEqDiff, reduceIte, again, stepV, wanted, resE, resL, resU, wr, rd, known, fillE, U.cells, h5, h0, h1]
    exact ⟨_, rfl, _, rfl, fun _ => by decide⟩
  · simp (decide := true) (disch := first | omega | rfl) only [↓SD, SP, opE, fget, binA, Nat.reduceEqDiff, reduceIte, again, stepV, wanted, resE, resL, resU, wr, rd, known, fillE, U.cells]
    refine ⟨fun hb => ?_, fun hb => ?_⟩
    · have hlt := of_decide_eq_true hb
      simp (decide := true) (disch := first | omega | rfl) only [↓SD, SP, opE, fget, binA, Nat.reduceEqDiff, reduceIte, again, stepV, wanted, resE, resL, resU, wr, rd, known, fillE, U.cells]
      exact ⟨_, rfl, _, rfl, fun h => by omega⟩
    · have hge := of_decide_eq_false hb
      simp (decide := true) (disch := first | omega | rfl) only [↓SD, SP, opE, fget, binA, Nat.reduceEqDiff, reduceIte, again, stepV, wanted, resE, resL, resU, wr, rd, known, fillE, U.cells]
      refine Wc.loopN (fun i f' q => fget f' 5 = V.i i ∧ fget f' 0 = V.a (.sl b 0 n c) ∧ (∃ x : Int, fget f' 1 = V.i x ∧ 0 ≤ x ∧ x ≤ 1048576) ∧ q = m) n (fun i f' q hil hS => ?_) ⟨(by simp (decide := true) (disch := first | omega | rfl) only [↓SD, SP, opE, fget, binA, Nat.reduceEqDiff, reduceIte, again, stepV, wanted, resE, resL, resU, wr, rd, known, fillE, U.cells]; try rfl), (by simp (decide := true) (disch := first | omega | rfl) only [↓SD, SP, opE, fget, binA, Nat.reduceEqDiff, reduceIte, again, stepV, wanted, resE, resL, resU, wr, rd, known, fillE, U.cells]; try rfl), ⟨_, (by simp (decide := true) (disch := first | omega | rfl) only [↓SD, SP, opE, fget, binA, Nat.reduceEqDiff, reduceIte, again, stepV, wanted, resE, resL, resU, wr, rd, known, fillE, U.cells]; try rfl), by omega, by omega⟩, rfl⟩
      obtain ⟨h5, h0, ⟨x, h1, hx0, hx1⟩, rfl⟩ := hS
      unfold laws_szStringS_L0
      simp (decide := true) (disch := first | omega | rfl) only [↓SD, SP, opE, fget, binA, Nat.reduceEqDiff, reduceIte, again, stepV, wanted, resE, resL, resU, wr, rd, known, fillE, U.cells, h5, h0]
      refine ⟨fun hb => ?_, fun hb => ?_⟩
      · have hlt := of_decide_eq_true hb
        have hq' := hq (by omega)
        have hcell := strsL_cell (n := cap) (f := f) (j := i) (by omega)
        have hlen : (strsL cap f).length = cap := strsL_len
        have hfi := hf i
        simp (decide := true) (disch := first | omega | rfl) only [↓SD, SP, opE, fget, binA, Nat.reduceEqDiff, reduceIte, again, stepV, wanted, resE, resL, resU, wr, rd, known, fillE, U.cells, h5, h0, h1, hq', hcell, hlen]
        refine ⟨fun hb => ?_, fun hb => ?_⟩
        · have hneg := of_decide_eq_true hb
          simp (decide := true) (disch := first | omega | rfl) only [↓SD, SP, opE, fget, binA, Nat.reduceEqDiff, reduceIte, again, stepV, wanted, resE, resL, resU, wr, rd, known, fillE, U.cells]
          exact ⟨_, rfl, _, rfl, fun h => by omega⟩
        · have hneg := of_decide_eq_false hb
          simp (decide := true) (disch := first | omega | rfl) only [↓SD, SP, opE, fget, binA, Nat.reduceEqDiff, reduceIte, again, stepV, wanted, resE, resL, resU, wr, rd, known, fillE, U.cells, h5]
          exact ⟨by omega, by simp, h0, ⟨_, rfl, by omega, by omega⟩⟩
      · simp (decide := true) (disch := first | omega | rfl) only [↓SD, SP, opE, fget, binA, Nat.reduceEqDiff, reduceIte, again, stepV, wanted, resE, resL, resU, wr, rd, known, fillE, U.cells, h1]
        exact ⟨_, rfl, _, rfl, fun h => by omega⟩

theorem toStringS_ok (hG : G 124 = some (.code laws_toStringS)) {m : Mem} {v : V} {n : Nat} {f : Nat → List UInt8} (h : TxL m v n f) (hn : n ≤ 1048576) :
    Rn G 124 [v] m fun r m' => (∃ b, r = V.a (.sl b 0 n (.ex n)) ∧ m'[b]? = some (.cells true (strsL n f)) ∧ m.length ≤ b) ∧ Ext m m' := by
  refine Rn.code hG ?_
  unfold laws_toStringS
  have key : ∀ fr q, fget fr 0 = v → Ext m q → ∀ b, m.length ≤ b → q[b]? = some (.cells true (strsL n (uptoS f 0))) → fget fr 3 = V.a (.sl b 0 n (.ex n)) → fget fr 4 = V.i 0 →
      Wc G (.loop laws_toStringS_L0) (fun e f' q' => e = .exit 0 ∧ Ext m q' ∧ q'[b]? = some (.cells true (strsL n f)) ∧ fget f' 3 = V.a (.sl b 0 n (.ex n))) fr q := by
    intro fr q g0 he b hlo qb g3 g4
    refine Wc.loopN (fun i f' q' => fget f' 4 = V.i i ∧ fget f' 0 = v ∧ fget f' 3 = V.a (.sl b 0 n (.ex n)) ∧ Ext m q' ∧ q'[b]? = some (.cells true (strsL n (uptoS f i)))) n (fun i f' q' hil hS => ?_) ⟨g4, g0, g3, he, qb⟩
    obtain ⟨h4, h0, h3, he, qb⟩ := hS
    have lb := lt_of_get qb
    unfold laws_toStringS_L0
    rcases h.ext he with ⟨rfl, rfl⟩ | ⟨b', w, cap, c, rfl, hle, hq⟩
    · have hi0 : i = 0 := by omega
      subst hi0
      simp (decide := true) (disch := first | omega | rfl) only [↓SD, SP, opE, fget, binA, Nat.reduceEqDiff, reduceIte, again, stepV, wanted, resE, resL, resU, wr, rd, known, fillE, U.cells, h4, h0, h3]
      exact ⟨he, qb⟩
    · simp (decide := true) (disch := first | omega | rfl) only [↓SD, SP, opE, fget, binA, Nat.reduceEqDiff, reduceIte, again, stepV, wanted, resE, resL, resU, wr, rd, known, fillE, U.cells, h4, h0]
      refine ⟨fun hb => ?_, fun hb => ?_⟩
      · have hlt := of_decide_eq_true hb
        have hq' := hq (by omega)
        have hcell := strsL_cell (n := cap) (f := f) (j := i) (by omega)
        have hlen : (strsL cap f).length = cap := strsL_len
        have hlen2 : ∀ g, (strsL n g).length = n := fun g => strsL_len
        simp (decide := true) (disch := first | omega | rfl) only [↓SD, SP, opE, fget, binA, Nat.reduceEqDiff, reduceIte, again, stepV, wanted, resE, resL, resU, wr, rd, known, fillE, U.cells, h4, h0, h3, hq', hcell, hlen, qb, hlen2, strsL_set, uptoS_upd]
        exact ⟨by omega, by simp, he.set hlo⟩
      · have : i = n := by have := of_decide_eq_false hb; omega
        subst this
        simp (decide := true) (disch := first | omega | rfl) only [↓SD, SP, opE, fget, binA, Nat.reduceEqDiff, reduceIte, again, stepV, wanted, resE, resL, resU, wr, rd, known, fillE, U.cells, h3]
        exact ⟨he, by rw [qb, strsL_all]⟩
  have fl : (List.replicate n [A.str []]).flatten = strsL n (uptoS f 0) := by rw [strsL_zero, List.flatten_replicate_singleton]
  have z : ((0 : Int).toNat) = 0 := rfl
  rcases h with ⟨rfl, rfl⟩ | ⟨b', w, cap, c, rfl, hle, hq⟩
  · have fl' : (List.replicate 0 [A.str []]).flatten = strsL 0 (uptoS f 0) := fl
    simp (decide := true) (disch := first | omega | rfl) only [↓SD, SP, opE, fget, binA, Nat.reduceEqDiff, reduceIte, again, stepV, wanted, resE, resL, resU, wr, rd, known, fillE, U.cells, z]
    refine (key _ (m ++ [Blk.cells true (List.replicate 0 [A.str []]).flatten]) (by simp (decide := true) (disch := first | omega | rfl) only [↓SD, SP, opE, fget, binA, Nat.reduceEqDiff, reduceIte, again, stepV, wanted, resE, resL, resU, wr, rd, known, fillE, U.cells]) (Ext.push _ _) m.length (Nat.le_refl _) (by rw [fl']; simp) (by simp (decide := true) (disch := first | omega | rfl) only [↓SD, SP, opE, fget, binA, Nat.reduceEqDiff, reduceIte, again, stepV, wanted, resE, resL, resU, wr, rd, known, fillE, U.cells]) (by simp (decide := true) (disch := first | omega | rfl) only [↓SD, SP, opE, fget, binA, Nat.reduceEqDiff, reduceIte, again, stepV, wanted, resE, resL, resU, wr, rd, known, fillE, U.cells])).mono ?_
    rintro e f' q' ⟨rfl, he, hb, g3⟩
    simp (decide := true) (disch := first | omega | rfl) only [↓SD, SP, opE, fget, binA, Nat.reduceEqDiff, reduceIte, again, stepV, wanted, resE, resL, resU, wr, rd, known, fillE, U.cells, g3]
    exact ⟨_, rfl, ⟨_, rfl, hb, Nat.le_refl _⟩, he⟩
  · simp (decide := true) (disch := first | omega | rfl) only [↓SD, SP, opE, fget, binA, Nat.reduceEqDiff, reduceIte, again, stepV, wanted, resE, resL, resU, wr, rd, known, fillE, U.cells]
    refine (key _ (m ++ [Blk.cells true (List.replicate n [A.str []]).flatten]) (by simp (decide := true) (disch := first | omega | rfl) only [↓SD, SP, opE, fget, binA, Nat.reduceEqDiff, reduceIte, again, stepV, wanted, resE, resL, resU, wr, rd, known, fillE, U.cells]) (Ext.push _ _) m.length (Nat.le_refl _) (by rw [fl]; simp) (by simp (decide := true) (disch := first | omega | rfl) only [↓SD, SP, opE, fget, binA, Nat.reduceEqDiff, reduceIte, again, stepV, wanted, resE, resL, resU, wr, rd, known, fillE, U.cells]) (by simp (decide := true) (disch := first | omega | rfl) only [↓SD, SP, opE, fget, binA, Nat.reduceEqDiff, reduceIte, again, stepV, wanted, resE, resL, resU, wr, rd, known, fillE, U.cells])).mono ?_
    rintro e f' q' ⟨rfl, he, hb, g3⟩
    simp (decide := true) (disch := first | omega | rfl) only [↓SD, SP, opE, fget, binA, Nat.reduceEqDiff, reduceIte, again, stepV, wanted, resE, resL, resU, wr, rd, known, fillE, U.cells, g3]
    exact ⟨_, rfl, ⟨_, rfl, hb, Nat.le_refl _⟩, he⟩

theorem eqStringS_ok (hG : G 126 = some (.code laws_eqStringS)) {m : Mem} {b1 b2 n : Nat} {w1 w2 : Bool} {c1 c2 : Cap} {f : Nat → List UInt8} (q1 : m[b1]? = some (.cells w1 (strsL n f))) (q2 : m[b2]? = some (.cells w2 (strsL n f))) (hn : n ≤ 1048576) :
    Rn G 126 [V.a (.sl b1 0 n c1), V.a (.sl b2 0 n c2)] m fun r m' => r = V.b true ∧ m' = m := by
  refine Rn.code hG ?_
  unfold laws_eqStringS
  simp (decide := true) (disch := first | omega | rfl) only [↓SD, SP, opE, fget, binA, Nat.reduceEqDiff, reduceIte, again, stepV, wanted, resE, resL, resU, wr, rd, known, fillE, U.cells, bne_self_eq_false]
  refine Wc.loopN (fun i f' q => fget f' 5 = V.i i ∧ fget f' 0 = V.a (.sl b1 0 n c1) ∧ fget f' 1 = V.a (.sl b2 0 n c2) ∧ q = m) n (fun i f' q hil hS => ?_) ⟨(by simp (decide := true) (disch := first | omega | rfl) only [↓SD, SP, opE, fget, binA, Nat.reduceEqDiff, reduceIte, again, stepV, wanted, resE, resL, resU, wr, rd, known, fillE, U.cells, bne_self_eq_false]; try rfl), (by simp (decide := true) (disch := first | omega | rfl) only [↓SD, SP, opE, fget, binA, Nat.reduceEqDiff, reduceIte, again, stepV, wanted, resE, resL, resU, wr, rd, known, fillE, U.cells, bne_self_eq_false]; try rfl), (by simp (decide := true) (disch := first | omega | rfl) only [↓SD, SP, opE, fget, binA, Nat.reduceEqDiff, reduceIte, again, stepV, wanted, resE, resL, resU, wr, rd, known, fillE, U.cells, bne_self_eq_false]; try rfl), rfl⟩
  obtain ⟨h5, h0, h1, rfl⟩ := hS
  unfold laws_eqStringS_L0
  simp (decide := true) (disch := first | omega | rfl) only [↓SD, SP, opE, fget, binA, Nat.reduceEqDiff, reduceIte, again, stepV, wanted, resE, resL, resU, wr, rd, known, fillE, U.cells, h5, h0]
  refine ⟨fun hb => ?_, fun hb => ?_⟩
  · have hlt := of_decide_eq_true hb
    have hcell := strsL_cell (n := n) (f := f) (j := i) (by omega)
    have hlen : (strsL n f).length = n := strsL_len
    simp (decide := true) (disch := first | omega | rfl) only [↓SD, SP, opE, fget, binA, Nat.reduceEqDiff, reduceIte, again, stepV, wanted, resE, resL, resU, wr, rd, known, fillE, U.cells, h5, h0, h1, q1, q2, hcell, hlen, bne_self_eq_false]
    exact ⟨by omega, by simp⟩
  · simp (decide := true) (disch := first | omega | rfl) only [↓SD, SP, opE, fget, binA, Nat.reduceEqDiff, reduceIte, again, stepV, wanted, resE, resL, resU, wr, rd, known, fillE, U.cells]

/-- The laws of a list of texts: they read alike but for the two functions. -/
def lawTx (x y : Nat) : Fn := ⟨[.t 2],
 (.seq (.ops [⟨some 2,.mov (.k (.u (.a (.bool false)))),none⟩])
 (.seq (.ops [⟨some 3,.mov (.k (.u (.a (.int .i64 1048576)))),none⟩])
 (.seq (.ops [⟨some 9,.mov (.s 0),none⟩,⟨some 10,.mov (.s 3),none⟩,⟨some 11,.call 122 [(.s 9),(.s 10)],none⟩,⟨some 3,.mov (.s 11),none⟩])
 (.seq (.seq (.ops [⟨some 12,.mov (.s 3),none⟩,⟨some 13,.bin .lss (.s 12) (.k (.u (.a (.int .i64 0)))),none⟩])
 (.cond (.s 13)
  (.seq (.ops [⟨some 2,.mov (.k (.u (.a (.bool true)))),none⟩])
  (.ret))
  (.skip)))
 (.seq (.ops [⟨some 15,.mov (.s 0),none⟩,⟨some 16,.call 124 [(.s 15)],none⟩,⟨some 17,.call x [(.s 16)],none⟩,⟨some 14,.mov (.s 17),none⟩,⟨some 18,.ext (.s 14) 0,none⟩,⟨some 19,.ext (.s 14) 1,none⟩,⟨some 4,.mov (.s 18),none⟩,⟨some 5,.mov (.s 19),none⟩])
 (.seq (.ops [⟨some 20,.mov (.s 0),none⟩,⟨some 21,.call 124 [(.s 20)],none⟩,⟨some 6,.mov (.s 21),none⟩])
 (.seq (.ops [⟨some 23,.mov (.s 6),none⟩,⟨some 24,.call y [(.s 23)],none⟩,⟨some 22,.mov (.s 24),none⟩,⟨some 25,.ext (.s 22) 0,none⟩,⟨some 26,.ext (.s 22) 1,none⟩,⟨some 7,.mov (.s 25),none⟩,⟨some 8,.mov (.s 26),none⟩])
 (.seq (.seq (.ops [⟨some 27,.mov (.s 7),none⟩,⟨some 28,.mov (.s 4),none⟩,⟨some 29,.bin .neq (.s 27) (.s 28),none⟩,⟨some 30,.mov (.s 29),none⟩,⟨some 31,.mov (.s 8),some (30,false)⟩,⟨some 32,.mov (.s 5),some (30,false)⟩,⟨some 33,.beq true (.s 31) (.s 32),some (30,false)⟩,⟨some 34,.pick (.s 30) (.k (.u (.a (.bool true)))) (.s 33),none⟩])
 (.cond (.s 34)
  (.seq (.ops [⟨some 2,.mov (.k (.u (.a (.bool false)))),none⟩])
  (.ret))
  (.skip)))
 (.seq (.seq (.ops [⟨some 35,.mov (.s 6),none⟩,⟨some 36,.mov (.s 0),none⟩,⟨some 37,.call 124 [(.s 36)],none⟩,⟨some 38,.call 126 [(.s 35),(.s 37)],none⟩,⟨some 39,.not (.s 38),none⟩])
 (.cond (.s 39)
  (.seq (.ops [⟨some 2,.mov (.k (.u (.a (.bool false)))),none⟩])
  (.ret))
  (.skip)))
 (.seq (.ops [⟨some 2,.mov (.k (.u (.a (.bool true)))),none⟩])
 (.ret)))))))))))⟩

theorem lawTx_ok {num x y : Nat} (hG : G num = some (.code (lawTx x y))) (h122 : G 122 = some (.code laws_szStringS)) (h124 : G 124 = some (.code laws_toStringS)) (h126 : G 126 = some (.code laws_eqStringS))
    {m : Mem} {v : V} {n : Nat} {f : Nat → List UInt8} (h : TxL m v n f) (hn : n ≤ 9223372036854775807) (hf : ∀ i, (f i).length ≤ 9223372036854775807) {val : V}
    (hv : (∃ a b, val = .t [.a (.int .i64 a), .a (.bool b)]) ∨ (∃ a b, val = .t [.a (.str a), .a (.bool b)]))
    (hx : ∀ mm b, mm[b]? = some (.cells true (strsL n f)) → n ≤ 1048576 → Rn G x [V.a (.sl b 0 n (.ex n))] mm fun v m' => v = val ∧ Ext mm m') (hy : ∀ mm b, mm[b]? = some (.cells true (strsL n f)) → n ≤ 1048576 → Rn G y [V.a (.sl b 0 n (.ex n))] mm fun v m' => v = val ∧ Ext mm m') :
    ∃ k m', run G k num [v] m = some (V.b true, m') := by
  have key : Rn G num [v] m fun v _ => v = V.b true := by
    refine Rn.code hG ?_
    unfold lawTx
    simp (decide := true) (disch := first | omega | rfl) only [↓SD, SP, opE, fget, binA, Nat.reduceEqDiff, reduceIte, again, stepV, wanted, resE, resL, resU, wr, rd, known, fillE, U.cells]
    refine Wo.callR (by simp (decide := true) (disch := first | omega | rfl) only [↓SD, SP, opE, fget, binA, Nat.reduceEqDiff, reduceIte, again, stepV, wanted, resE, resL, resU, wr, rd, known, fillE, U.cells]; try rfl) (szStringS_ok h122 h hn hf) ?_
    rintro _ m ⟨⟨r, rfl, hr⟩, rfl⟩
    simp (decide := true) (disch := first | omega | rfl) only [↓SD, SP, opE, fget, binA, Nat.reduceEqDiff, reduceIte, again, stepV, wanted, resE, resL, resU, wr, rd, known, fillE, U.cells]
    refine ⟨fun hb => ?_, fun hb => ?_⟩
    · simp (decide := true) (disch := first | omega | rfl) only [↓SD, SP, opE, fget, binA, Nat.reduceEqDiff, reduceIte, again, stepV, wanted, resE, resL, resU, wr, rd, known, fillE, U.cells]
    · have hn2 := hr (by have := of_decide_eq_false hb; omega)
      simp (decide := true) (disch := first | omega | rfl) only [↓SD, SP, opE, fget, binA, Nat.reduceEqDiff, reduceIte, again, stepV, wanted, resE, resL, resU, wr, rd, known, fillE, U.cells]
      refine Wo.callR (by simp (decide := true) (disch := first | omega | rfl) only [↓SD, SP, opE, fget, binA, Nat.reduceEqDiff, reduceIte, again, stepV, wanted, resE, resL, resU, wr, rd, known, fillE, U.cells]; try rfl) (toStringS_ok h124 h hn2) ?_
      rintro _ m1 ⟨⟨b1, rfl, q1, l1⟩, e1⟩
      have ht1 := h.ext e1
      simp (decide := true) (disch := first | omega | rfl) only [↓SD, SP, opE, fget, binA, Nat.reduceEqDiff, reduceIte, again, stepV, wanted, resE, resL, resU, wr, rd, known, fillE, U.cells]
      refine Wo.callR (by simp (decide := true) (disch := first | omega | rfl) only [↓SD, SP, opE, fget, binA, Nat.reduceEqDiff, reduceIte, again, stepV, wanted, resE, resL, resU, wr, rd, known, fillE, U.cells]; try rfl) (hx _ _ q1 hn2) ?_
      rintro _ m2 ⟨rfl, e2⟩
      rcases hv with ⟨a, b, rfl⟩ | ⟨a, b, rfl⟩
      · simp (decide := true) (disch := first | omega | rfl) only [↓SD, SP, opE, fget, binA, Nat.reduceEqDiff, reduceIte, again, stepV, wanted, resE, resL, resU, wr, rd, known, fillE, U.cells]
        refine Wo.callR (by simp (decide := true) (disch := first | omega | rfl) only [↓SD, SP, opE, fget, binA, Nat.reduceEqDiff, reduceIte, again, stepV, wanted, resE, resL, resU, wr, rd, known, fillE, U.cells]; try rfl) (toStringS_ok h124 (ht1.ext e2) hn2) ?_
        rintro _ m3 ⟨⟨b3, rfl, q3, l3⟩, e3⟩
        simp (decide := true) (disch := first | omega | rfl) only [↓SD, SP, opE, fget, binA, Nat.reduceEqDiff, reduceIte, again, stepV, wanted, resE, resL, resU, wr, rd, known, fillE, U.cells]
        refine Wo.callR (by simp (decide := true) (disch := first | omega | rfl) only [↓SD, SP, opE, fget, binA, Nat.reduceEqDiff, reduceIte, again, stepV, wanted, resE, resL, resU, wr, rd, known, fillE, U.cells]; try rfl) (hy _ _ q3 hn2) ?_
        rintro _ m4 ⟨rfl, e4⟩
        simp (decide := true) (disch := first | omega | rfl) only [↓SD, SP, opE, fget, binA, Nat.reduceEqDiff, reduceIte, again, stepV, wanted, resE, resL, resU, wr, rd, known, fillE, U.cells, bne_self_eq_false]
        refine Wo.callR (by simp (decide := true) (disch := first | omega | rfl) only [↓SD, SP, opE, fget, binA, Nat.reduceEqDiff, reduceIte, again, stepV, wanted, resE, resL, resU, wr, rd, known, fillE, U.cells, bne_self_eq_false]; try rfl) (toStringS_ok h124 (((ht1.ext e2).ext e3).ext e4) hn2) ?_
        rintro _ m5 ⟨⟨b5, rfl, q5, l5⟩, e5⟩
        simp (decide := true) (disch := first | omega | rfl) only [↓SD, SP, opE, fget, binA, Nat.reduceEqDiff, reduceIte, again, stepV, wanted, resE, resL, resU, wr, rd, known, fillE, U.cells]
        refine Wo.callR (by simp (decide := true) (disch := first | omega | rfl) only [↓SD, SP, opE, fget, binA, Nat.reduceEqDiff, reduceIte, again, stepV, wanted, resE, resL, resU, wr, rd, known, fillE, U.cells, bne_self_eq_false]; try rfl) (eqStringS_ok h126 ((e4.trans e5).get q3) q5 hn2) ?_
        rintro _ m6 ⟨rfl, rfl⟩
        simp (decide := true) (disch := first | omega | rfl) only [↓SD, SP, opE, fget, binA, Nat.reduceEqDiff, reduceIte, again, stepV, wanted, resE, resL, resU, wr, rd, known, fillE, U.cells]
      · simp (decide := true) (disch := first | omega | rfl) only [↓SD, SP, opE, fget, binA, Nat.reduceEqDiff, reduceIte, again, stepV, wanted, resE, resL, resU, wr, rd, known, fillE, U.cells]
        refine Wo.callR (by simp (decide := true) (disch := first | omega | rfl) only [↓SD, SP, opE, fget, binA, Nat.reduceEqDiff, reduceIte, again, stepV, wanted, resE, resL, resU, wr, rd, known, fillE, U.cells]; try rfl) (toStringS_ok h124 (ht1.ext e2) hn2) ?_
        rintro _ m3 ⟨⟨b3, rfl, q3, l3⟩, e3⟩
        simp (decide := true) (disch := first | omega | rfl) only [↓SD, SP, opE, fget, binA, Nat.reduceEqDiff, reduceIte, again, stepV, wanted, resE, resL, resU, wr, rd, known, fillE, U.cells]
        refine Wo.callR (by simp (decide := true) (disch := first | omega | rfl) only [↓SD, SP, opE, fget, binA, Nat.reduceEqDiff, reduceIte, again, stepV, wanted, resE, resL, resU, wr, rd, known, fillE, U.cells]; try rfl) (hy _ _ q3 hn2) ?_
        rintro _ m4 ⟨rfl, e4⟩
        simp (decide := true) (disch := first | omega | rfl) only [↓SD, SP, opE, fget, binA, Nat.reduceEqDiff, reduceIte, again, stepV, wanted, resE, resL, resU, wr, rd, known, fillE, U.cells, bne_self_eq_false]
        refine Wo.callR (by simp (decide := true) (disch := first | omega | rfl) only [↓SD, SP, opE, fget, binA, Nat.reduceEqDiff, reduceIte, again, stepV, wanted, resE, resL, resU, wr, rd, known, fillE, U.cells, bne_self_eq_false]; try rfl) (toStringS_ok h124 (((ht1.ext e2).ext e3).ext e4) hn2) ?_
        rintro _ m5 ⟨⟨b5, rfl, q5, l5⟩, e5⟩
        simp (decide := true) (disch := first | omega | rfl) only [↓SD, SP, opE, fget, binA, Nat.reduceEqDiff, reduceIte, again, stepV, wanted, resE, resL, resU, wr, rd, known, fillE, U.cells]
        refine Wo.callR (by simp (decide := true) (disch := first | omega | rfl) only [↓SD, SP, opE, fget, binA, Nat.reduceEqDiff, reduceIte, again, stepV, wanted, resE, resL, resU, wr, rd, known, fillE, U.cells, bne_self_eq_false]; try rfl) (eqStringS_ok h126 ((e4.trans e5).get q3) q5 hn2) ?_
        rintro _ m6 ⟨rfl, rfl⟩
        simp (decide := true) (disch := first | omega | rfl) only [↓SD, SP, opE, fget, binA, Nat.reduceEqDiff, reduceIte, again, stepV, wanted, resE, resL, resU, wr, rd, known, fillE, U.cells]
  obtain ⟨k, v, m', h1, rfl⟩ := key
  exact ⟨k, m', h1⟩
end Go.AL
