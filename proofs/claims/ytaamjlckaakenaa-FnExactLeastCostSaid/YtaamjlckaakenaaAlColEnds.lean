/-
  The reference's ways: by the colour of the board before.
-/
import Derived.Test.YtaamjlckaakenaaAlColLook
namespace Go.AL
set_option linter.unusedSimpArgs false
set_option linter.unusedVariables false
open F
set_option linter.unusedSimpArgs false
set_option linter.unusedVariables false
variable {G : Env}

def allow (s : List UInt8) (i : Nat) (t : Int) : Bool := match s[i]? with
  | some ch => ((ch.toNat : Int) == 46) || (IntKind.u8.wrap ((ch.toNat : Int) - 97) == t)
  | none => false

theorem u8_in {x : Int} : 0 ≤ IntKind.u8.wrap x ∧ IntKind.u8.wrap x < 256 := by
  rw [IntKind.wrap_u8]; omega

theorem coAllows_ok (hG : G 876 = some (.code spec_coAllows)) {m : Mem} {s : List UInt8} {i : Nat} {t : Int} (hi : i < s.length) :
    Rn G 876 [V.s s, V.i i, V.i t] m fun v m' => v = V.b (allow s i t) ∧ m' = m := by
  refine Rn.code hG ?_
  have hs : s[i]? = some s[i] := List.getElem?_eq_getElem hi
  have hw := u8_in (x := (s[i].toNat : Int) - 97)
  unfold spec_coAllows
  simp (decide := true) (disch := first | omega | rfl) only [↓SD, SP, opE, fget, binA, Nat.reduceEqDiff, reduceIte, again, stepV, wanted, resE, resL, resU, wr, rd, known, fillE, U.cells, hs]
  refine ⟨fun hb => ?_, fun hb => ?_⟩
  · simp (decide := true) (disch := first | omega | rfl) only [↓SD, SP, opE, fget, binA, Nat.reduceEqDiff, reduceIte, again, stepV, wanted, resE, resL, resU, wr, rd, known, fillE, U.cells, hb]
    refine ⟨_, rfl, ?_⟩
    unfold allow; rw [hs]; simp only [hb, Bool.true_or]
  · simp (decide := true) (disch := first | omega | rfl) only [↓SD, SP, opE, fget, binA, Nat.reduceEqDiff, reduceIte, again, stepV, wanted, resE, resL, resU, wr, rd, known, fillE, U.cells, hb, hs]
    refine ⟨_, rfl, ?_⟩
    unfold allow; rw [hs]; simp only [hb, Bool.false_or]

def sumW (p : Nat → Bool) (f : Nat → Int) : Nat → Int
  | 0 => 0
  | k + 1 => if p k then sumW p f k + f k else sumW p f k
theorem sumW_bound {p : Nat → Bool} {f : Nat → Int} {B : Int} (h : ∀ d, 0 ≤ f d ∧ f d ≤ B) : ∀ d, 0 ≤ sumW p f d ∧ sumW p f d ≤ d * B
  | 0 => by simp [sumW]
  | d + 1 => by
    obtain ⟨h1, h2⟩ := sumW_bound (p := p) h d
    have h3 := h d
    unfold sumW
    have : ((d + 1 : Nat) : Int) * B = d * B + B := by rw [Int.natCast_add, Int.add_mul]; simp
    rw [this]
    split <;> omega

def waysE (last : Int) (k : Nat) : Int := if (k : Int) = last then 0 else 1
def waysP (s : List UInt8) (i a : Nat) (b : Nat) : Bool := ((a : Int) != (b : Int)) && allow s i b
/-- By the colour of the board before, with k boards looked at from the end. -/
def waysF (s : List UInt8) (T : Nat) (last : Int) : Nat → Nat → Int
  | 0 => waysE last
  | k + 1 => fun a => sumW (waysP s (s.length - 1 - k) a) (waysF s T last k) T

theorem waysF_bound {s : List UInt8} {T : Nat} {last : Int} (hT : T ≤ 5) : ∀ k a, 0 ≤ waysF s T last k a ∧ waysF s T last k a ≤ 5 ^ k
  | 0, a => by unfold waysF waysE; split <;> simp
  | k + 1, a => by
    have hs := sumW_bound (p := waysP s (s.length - 1 - k) a) (waysF_bound (s := s) (last := last) hT k) T
    have h5 : (5 : Int) * 5 ^ k = 5 ^ (k + 1) := by rw [Int.pow_succ, Int.mul_comm]
    have hp : (0 : Int) < 5 ^ k := Int.pow_pos (by decide)
    have hm : (T : Int) * 5 ^ k ≤ 5 * 5 ^ k := Int.mul_le_mul_of_nonneg_right (by omega) (by omega)
    show 0 ≤ sumW _ _ T ∧ sumW _ _ T ≤ _
    omega
theorem waysF_bound' {s : List UInt8} {T k : Nat} {last : Int} (hT : T ≤ 5) (hk : k ≤ 20) (a : Nat) : 0 ≤ waysF s T last k a ∧ waysF s T last k a ≤ 100000000000000000 := by
  have h := waysF_bound (s := s) (last := last) hT k a
  have : (5 : Int) ^ k ≤ 5 ^ 20 := by
    have := Nat.pow_le_pow_right (n := 5) (by decide) hk
    exact_mod_cast this
  have h20 : (5 : Int) ^ 20 = 95367431640625 := by decide
  omega

abbrev slotsE3 : List Nat := 16 :: 17 :: List.range' 65 22

theorem coEnds_L3 (hA : G 876 = some (.code spec_coAllows)) {bw bn T i a : Nat} {s : List UInt8} {W nx : Nat → Int} {fr : Fr} {q : Mem} (h0 : fget fr 0 = V.s s) (h13 : fget fr 13 = V.i i) (h15 : fget fr 15 = V.i a)
    (h14 : fget fr 14 = V.a (.sl bn 0 T (.ex T))) (h63 : fget fr 63 = V.a (.sl bw 0 T (.ex T))) (h64 : fget fr 64 = V.i T) (h65 : fget fr 65 = V.i 0)
    (qw : q[bw]? = some (.cells true (ints T W))) (qn : q[bn]? = some (.cells true (ints T nx))) (d : bw ≠ bn) (hi : i < s.length) (ha : a < T) (hT : T ≤ 5) (hn : nx a = 0) (hW : ∀ k, 0 ≤ W k ∧ W k ≤ 100000000000000000) :
    Wc G (.loop spec_coEnds_L3) (fun e f' q' => e = .exit 6 ∧ Upd [bn] q q' ∧ q'[bn]? = some (.cells true (ints T (upd nx a (sumW (waysP s i a) W T)))) ∧ Keep slotsE3 fr f') fr q := by
  refine Wc.loopN (fun b f q' => fget f 65 = V.i b ∧ Keep slotsE3 fr f ∧ Upd [bn] q q' ∧ q'[bn]? = some (.cells true (ints T (upd nx a (sumW (waysP s i a) W b))))) T (fun b f q' hb0 hS => ?_) ⟨h65, Keep.refl, Upd.refl, ?_⟩
  · obtain ⟨h65, hk, hu, hn⟩ := hS
    have k0 := (hk 0 (by decide)).trans h0; have k13 := (hk 13 (by decide)).trans h13; have k15 := (hk 15 (by decide)).trans h15; have k14 := (hk 14 (by decide)).trans h14
    have k63 := (hk 63 (by decide)).trans h63; have k64 := (hk 64 (by decide)).trans h64
    have hw := (hu.2 bw (by simp [d])).trans qw
    have ln := lt_of_get hn
    have b1 := sumW_bound (p := waysP s i a) hW b; have b2 := hW b
    unfold spec_coEnds_L3
    simp (decide := true) (disch := first | omega | rfl) only [↓SD, SP, opE, fget, binA, Nat.reduceEqDiff, reduceIte, again, stepV, wanted, resE, resL, resU, wr, rd, known, fillE, U.cells, h65, k64]
    refine ⟨fun hb => ?_, fun hb => ?_⟩
    · have h := of_decide_eq_true hb
      simp (decide := true) (disch := first | omega | rfl) only [↓SD, SP, opE, fget, binA, Nat.reduceEqDiff, reduceIte, again, stepV, wanted, resE, resL, resU, wr, rd, known, fillE, U.cells, h65, k64, k0, k13, k15, k14, k63, hw, hn]
      refine ⟨fun hb => ?_, fun hb => ?_⟩
      · simp (decide := true) (disch := first | omega | rfl) only [↓SD, SP, opE, fget, binA, Nat.reduceEqDiff, reduceIte, again, stepV, wanted, resE, resL, resU, wr, rd, known, fillE, U.cells, hb]
        have hb2 := hb
        refine Wo.callR (by simp (decide := true) (disch := first | omega | rfl) only [↓SD, SP, opE, fget, binA, Nat.reduceEqDiff, reduceIte, again, stepV, wanted, resE, resL, resU, wr, rd, known, fillE, U.cells, k0, k13]; try rfl) (coAllows_ok (t := b) hA hi) ?_
        rintro _ _ ⟨rfl, rfl⟩
        simp (decide := true) (disch := first | omega | rfl) only [↓SD, SP, opE, fget, binA, Nat.reduceEqDiff, reduceIte, again, stepV, wanted, resE, resL, resU, wr, rd, known, fillE, U.cells, hb]
        refine ⟨fun hb => ?_, fun hb => ?_⟩
        · have e1 : sumW (waysP s i a) W (b + 1) = sumW (waysP s i a) W b + W b := by rw [sumW, if_pos (by unfold waysP; rw [hb2, hb]; rfl)]
          simp (decide := true) (disch := first | omega | rfl) only [↓SD, SP, opE, fget, binA, Nat.reduceEqDiff, reduceIte, again, stepV, wanted, resE, resL, resU, wr, rd, known, fillE, U.cells, h65, k64, k0, k13, k15, k14, k63, hw, hn, upd_same, upd_upd, e1]
          exact ⟨by omega, by simp, (by (repeat (refine Keep.set ?_ (by decide))); exact hk), (by (repeat (refine Upd.set ?_ (by simp))); exact hu)⟩
        · have e1 : sumW (waysP s i a) W (b + 1) = sumW (waysP s i a) W b := by rw [sumW, if_neg (by unfold waysP; rw [hb2, hb]; simp)]
          simp (decide := true) (disch := first | omega | rfl) only [↓SD, SP, opE, fget, binA, Nat.reduceEqDiff, reduceIte, again, stepV, wanted, resE, resL, resU, wr, rd, known, fillE, U.cells, h65]
          exact ⟨by omega, by simp, (by (repeat (refine Keep.set ?_ (by decide))); exact hk), hu, by rw [hn, e1]⟩
      · have e1 : sumW (waysP s i a) W (b + 1) = sumW (waysP s i a) W b := by rw [sumW, if_neg (by unfold waysP; rw [hb]; simp)]
        simp (decide := true) (disch := first | omega | rfl) only [↓SD, SP, opE, fget, binA, Nat.reduceEqDiff, reduceIte, again, stepV, wanted, resE, resL, resU, wr, rd, known, fillE, U.cells, hb, h65]
        exact ⟨by omega, by simp, (by (repeat (refine Keep.set ?_ (by decide))); exact hk), hu, by rw [hn, e1]⟩
    · have h := of_decide_eq_false hb
      have : b = T := by omega
      subst this
      simp (decide := true) (disch := first | omega | rfl) only [↓SD, SP, opE, fget, binA, Nat.reduceEqDiff, reduceIte, again, stepV, wanted, resE, resL, resU, wr, rd, known, fillE, U.cells]
      exact ⟨hu, hn, (by (repeat (refine Keep.set ?_ (by decide))); exact hk)⟩
  · rw [qn, show sumW (waysP s i a) W 0 = nx a by rw [hn]; rfl, upd_id]

abbrev slotsE2 : List Nat := 15 :: 16 :: 17 :: List.range' 60 28

theorem coEnds_L2 (hA : G 876 = some (.code spec_coAllows)) {bw bn T i : Nat} {s : List UInt8} {W : Nat → Int} {fr : Fr} {q : Mem} (h0 : fget fr 0 = V.s s) (h13 : fget fr 13 = V.i i) (h11 : fget fr 11 = V.a (.sl bw 0 T (.ex T)))
    (h14 : fget fr 14 = V.a (.sl bn 0 T (.ex T))) (h59 : fget fr 59 = V.i T) (h60 : fget fr 60 = V.i 0)
    (qw : q[bw]? = some (.cells true (ints T W))) (qn : q[bn]? = some (.cells true (ints T (fun _ => 0)))) (d : bw ≠ bn) (hi : i < s.length) (hT : T ≤ 5) (hW : ∀ k, 0 ≤ W k ∧ W k ≤ 100000000000000000) :
    Wc G (.loop spec_coEnds_L2) (fun e f' q' => e = .exit 4 ∧ Upd [bn] q q' ∧ q'[bn]? = some (.cells true (ints T (fun a => sumW (waysP s i a) W T))) ∧ Keep slotsE2 fr f') fr q := by
  refine Wc.loopN (fun a f q' => fget f 60 = V.i a ∧ Keep slotsE2 fr f ∧ Upd [bn] q q' ∧ q'[bn]? = some (.cells true (ints T (upto (fun a => sumW (waysP s i a) W T) a)))) T (fun a f q' ha0 hS => ?_) ⟨h60, Keep.refl, Upd.refl, by rw [qn, upto_zero]⟩
  obtain ⟨h60, hk, hu, hn⟩ := hS
  have k0 := (hk 0 (by decide)).trans h0; have k13 := (hk 13 (by decide)).trans h13; have k11 := (hk 11 (by decide)).trans h11; have k14 := (hk 14 (by decide)).trans h14; have k59 := (hk 59 (by decide)).trans h59
  have hw := (hu.2 bw (by simp [d])).trans qw
  unfold spec_coEnds_L2
  simp (decide := true) (disch := first | omega | rfl) only [↓SD, SP, opE, fget, binA, Nat.reduceEqDiff, reduceIte, again, stepV, wanted, resE, resL, resU, wr, rd, known, fillE, U.cells, h60, k59]
  refine ⟨fun hb => ?_, fun hb => ?_⟩
  · have h := of_decide_eq_true hb
    simp (decide := true) (disch := first | omega | rfl) only [↓SD, SP, opE, fget, binA, Nat.reduceEqDiff, reduceIte, again, stepV, wanted, resE, resL, resU, wr, rd, known, fillE, U.cells, h60, k59, k11]
    refine (coEnds_L3 (bw := bw) (bn := bn) (T := T) (i := i) (a := a) (s := s) (W := W) (nx := upto (fun a => sumW (waysP s i a) W T) a) hA (by simp (decide := true) (disch := first | omega | rfl) only [↓SD, SP, opE, fget, binA, Nat.reduceEqDiff, reduceIte, again, stepV, wanted, resE, resL, resU, wr, rd, known, fillE, U.cells, k0]) (by simp (decide := true) (disch := first | omega | rfl) only [↓SD, SP, opE, fget, binA, Nat.reduceEqDiff, reduceIte, again, stepV, wanted, resE, resL, resU, wr, rd, known, fillE, U.cells, k13]) (by simp (decide := true) (disch := first | omega | rfl) only [↓SD, SP, opE, fget, binA, Nat.reduceEqDiff, reduceIte, again, stepV, wanted, resE, resL, resU, wr, rd, known, fillE, U.cells]) (by simp (decide := true) (disch := first | omega | rfl) only [↓SD, SP, opE, fget, binA, Nat.reduceEqDiff, reduceIte, again, stepV, wanted, resE, resL, resU, wr, rd, known, fillE, U.cells, k14]) (by simp (decide := true) (disch := first | omega | rfl) only [↓SD, SP, opE, fget, binA, Nat.reduceEqDiff, reduceIte, again, stepV, wanted, resE, resL, resU, wr, rd, known, fillE, U.cells]) (by simp (decide := true) (disch := first | omega | rfl) only [↓SD, SP, opE, fget, binA, Nat.reduceEqDiff, reduceIte, again, stepV, wanted, resE, resL, resU, wr, rd, known, fillE, U.cells]) (by simp (decide := true) (disch := first | omega | rfl) only [↓SD, SP, opE, fget, binA, Nat.reduceEqDiff, reduceIte, again, stepV, wanted, resE, resL, resU, wr, rd, known, fillE, U.cells]) hw hn d hi (by omega) hT upto_self hW).mono ?_
    rintro e f' q2 ⟨rfl, hu2, hn2, hk2⟩
    have k60 := hk2 60 (by decide)
    simp (decide := true) only [↓SD, SP, opE, fget, binA, Nat.reduceEqDiff, reduceIte, again, stepV, wanted, resE, resL, resU, wr, rd, known, fillE, U.cells, h60] at k60
    simp (decide := true) (disch := first | omega | rfl) only [↓SD, SP, opE, fget, binA, Nat.reduceEqDiff, reduceIte, again, stepV, wanted, resE, resL, resU, wr, rd, known, fillE, U.cells, k60]
    exact ⟨by omega, by simp, (by (repeat (refine Keep.set ?_ (by decide))); exact Keep.trans (L := slotsE2) (by (repeat (refine Keep.set ?_ (by decide))); exact hk) hk2 (by decide)), hu.trans hu2, by rw [hn2, upto_upd rfl]⟩
  · have h := of_decide_eq_false hb
    have : a = T := by omega
    subst this
    simp (decide := true) (disch := first | omega | rfl) only [↓SD, SP, opE, fget, binA, Nat.reduceEqDiff, reduceIte, again, stepV, wanted, resE, resL, resU, wr, rd, known, fillE, U.cells]
    exact ⟨hu, by rw [hn, upto_all], (by (repeat (refine Keep.set ?_ (by decide))); exact hk)⟩

abbrev slotsE1 : List Nat := 11 :: 13 :: 14 :: 15 :: 16 :: 17 :: List.range' 51 38

theorem coEnds_L1 (hA : G 876 = some (.code spec_coAllows)) {bw T : Nat} {frm : Nat} {s : List UInt8} {last : Int} {fr : Fr} {m q : Mem} (h0 : fget fr 0 = V.s s) (h1 : fget fr 1 = V.i T) (h2 : fget fr 2 = V.i frm) (h13 : fget fr 13 = V.i ((s.length - 1 : Nat) : Int))
    (h11 : fget fr 11 = V.a (.sl bw 0 T (.ex T))) (qw : q[bw]? = some (.cells true (ints T (waysE last)))) (he : Ext m q) (hlo : m.length ≤ bw) (hf : frm < s.length) (hs : s.length ≤ 20) (hT : T ≤ 5) :
    Wc G (.loop spec_coEnds_L1) (fun e f' q' => e = .exit 2 ∧ Ext m q' ∧ (∃ b, fget f' 11 = V.a (.sl b 0 T (.ex T)) ∧ q'[b]? = some (.cells true (ints T (waysF s T last (s.length - 1 - frm))))) ∧ Keep slotsE1 fr f') fr q := by
  refine Wc.loopN (fun k f q' => fget f 13 = V.i ((s.length - 1 - k : Nat) : Int) ∧ Keep slotsE1 fr f ∧ Ext m q' ∧ (∃ b, fget f 11 = V.a (.sl b 0 T (.ex T)) ∧ q'[b]? = some (.cells true (ints T (waysF s T last k))))) (s.length - 1 - frm) (fun k f q' hk0 hS => ?_) ⟨h13, Keep.refl, he, bw, h11, qw⟩
  obtain ⟨h13, hk, he, b, h11, hw⟩ := hS
  have k0 := (hk 0 (by decide)).trans h0; have k1 := (hk 1 (by decide)).trans h1; have k2 := (hk 2 (by decide)).trans h2
  have lw := lt_of_get hw
  unfold spec_coEnds_L1
  simp (decide := true) (disch := first | omega | rfl) only [↓SD, SP, opE, fget, binA, Nat.reduceEqDiff, reduceIte, again, stepV, wanted, resE, resL, resU, wr, rd, known, fillE, U.cells, h13, k2]
  refine ⟨fun hb => ?_, fun hb => ?_⟩
  · have h := of_decide_eq_true hb
    simp (decide := true) (disch := first | omega | rfl) only [↓SD, SP, opE, fget, binA, Nat.reduceEqDiff, reduceIte, again, stepV, wanted, resE, resL, resU, wr, rd, known, fillE, U.cells, h13, k1]
    refine (coEnds_L2 (bw := b) (bn := q'.length) (T := T) (i := s.length - 1 - k) (s := s) (W := waysF s T last k) hA (by simp (decide := true) (disch := first | omega | rfl) only [↓SD, SP, opE, fget, binA, Nat.reduceEqDiff, reduceIte, again, stepV, wanted, resE, resL, resU, wr, rd, known, fillE, U.cells, k0]) (by simp (decide := true) (disch := first | omega | rfl) only [↓SD, SP, opE, fget, binA, Nat.reduceEqDiff, reduceIte, again, stepV, wanted, resE, resL, resU, wr, rd, known, fillE, U.cells, h13]) (by simp (decide := true) (disch := first | omega | rfl) only [↓SD, SP, opE, fget, binA, Nat.reduceEqDiff, reduceIte, again, stepV, wanted, resE, resL, resU, wr, rd, known, fillE, U.cells, h11]) (by simp (decide := true) (disch := first | omega | rfl) only [↓SD, SP, opE, fget, binA, Nat.reduceEqDiff, reduceIte, again, stepV, wanted, resE, resL, resU, wr, rd, known, fillE, U.cells]) (by simp (decide := true) (disch := first | omega | rfl) only [↓SD, SP, opE, fget, binA, Nat.reduceEqDiff, reduceIte, again, stepV, wanted, resE, resL, resU, wr, rd, known, fillE, U.cells]) (by simp (decide := true) (disch := first | omega | rfl) only [↓SD, SP, opE, fget, binA, Nat.reduceEqDiff, reduceIte, again, stepV, wanted, resE, resL, resU, wr, rd, known, fillE, U.cells]) (by simp (decide := true) (disch := first | omega | rfl) only [↓SD, SP, opE, fget, binA, Nat.reduceEqDiff, reduceIte, again, stepV, wanted, resE, resL, resU, wr, rd, known, fillE, U.cells, hw]) (by simp (decide := true) (disch := first | omega | rfl) only [↓SD, SP, opE, fget, binA, Nat.reduceEqDiff, reduceIte, again, stepV, wanted, resE, resL, resU, wr, rd, known, fillE, U.cells]) (by omega) (by omega) hT (waysF_bound' hT (by omega))).mono ?_
    rintro e f' q2 ⟨rfl, hu2, hn2, hk2⟩
    have j14 := hk2 14 (by decide); have j13 := hk2 13 (by decide)
    simp (decide := true) only [↓SD, SP, opE, fget, binA, Nat.reduceEqDiff, reduceIte, again, stepV, wanted, resE, resL, resU, wr, rd, known, fillE, U.cells, h13] at j14 j13
    simp (decide := true) (disch := first | omega | rfl) only [↓SD, SP, opE, fget, binA, Nat.reduceEqDiff, reduceIte, again, stepV, wanted, resE, resL, resU, wr, rd, known, fillE, U.cells, j14, j13]
    refine ⟨by omega, by congr 3; omega, (by (repeat (refine Keep.set ?_ (by decide))); exact Keep.trans (L := slotsE1) (by (repeat (refine Keep.set ?_ (by decide))); exact hk) hk2 (by decide)), Upd.ext (he.trans (Ext.push _ _)) hu2 (by intro b hb; have := he.1; simp at hb; omega), _, rfl, hn2⟩
  · have h := of_decide_eq_false hb
    have : k = s.length - 1 - frm := by omega
    subst this
    simp (decide := true) (disch := first | omega | rfl) only [↓SD, SP, opE, fget, binA, Nat.reduceEqDiff, reduceIte, again, stepV, wanted, resE, resL, resU, wr, rd, known, fillE, U.cells, h11]
    exact ⟨he, ⟨b, rfl, hw⟩, (by (repeat (refine Keep.set ?_ (by decide))); exact hk)⟩

theorem coEnds_L0 {bw T : Nat} {last : Int} {fr : Fr} {q : Mem} (h4 : fget fr 4 = V.i last) (h11 : fget fr 11 = V.a (.sl bw 0 T (.ex T))) (h24 : fget fr 24 = V.i T) (h25 : fget fr 25 = V.i 0)
    (qw : q[bw]? = some (.cells true (ints T (fun _ => 0)))) (hT : T ≤ 5) :
    Wc G (.loop spec_coEnds_L0) (fun e f' q' => e = .exit 0 ∧ Upd [bw] q q' ∧ q'[bw]? = some (.cells true (ints T (waysE last))) ∧ Keep (12 :: List.range' 25 14) fr f') fr q := by
  refine Wc.loopN (fun j f q' => fget f 25 = V.i j ∧ Keep (12 :: List.range' 25 14) fr f ∧ Upd [bw] q q' ∧ q'[bw]? = some (.cells true (ints T (upto (waysE last) j)))) T (fun j f q' hj0 hS => ?_) ⟨h25, Keep.refl, Upd.refl, by rw [qw, upto_zero]⟩
  obtain ⟨h25, hk, hu, hw⟩ := hS
  have k4 := (hk 4 (by decide)).trans h4; have k11 := (hk 11 (by decide)).trans h11; have k24 := (hk 24 (by decide)).trans h24
  have lw := lt_of_get hw
  unfold spec_coEnds_L0
  simp (decide := true) (disch := first | omega | rfl) only [↓SD, SP, opE, fget, binA, Nat.reduceEqDiff, reduceIte, again, stepV, wanted, resE, resL, resU, wr, rd, known, fillE, U.cells, h25, k24]
  refine ⟨fun hb => ?_, fun hb => ?_⟩
  · have h := of_decide_eq_true hb
    simp (decide := true) (disch := first | omega | rfl) only [↓SD, SP, opE, fget, binA, Nat.reduceEqDiff, reduceIte, again, stepV, wanted, resE, resL, resU, wr, rd, known, fillE, U.cells, h25, k4, k11, hw]
    refine ⟨fun hb => ?_, fun hb => ?_⟩
    · have e1 : waysE last j = 0 := by unfold waysE; rw [if_pos (by simpa using hb)]
      simp (decide := true) (disch := first | omega | rfl) only [↓SD, SP, opE, fget, binA, Nat.reduceEqDiff, reduceIte, again, stepV, wanted, resE, resL, resU, wr, rd, known, fillE, U.cells, h25, k4, k11, hw, upd_upd]
      exact ⟨by omega, by simp, (by (repeat (refine Keep.set ?_ (by decide))); exact hk), (by (repeat (refine Upd.set ?_ (by simp))); exact hu), by rw [upto_upd e1]⟩
    · have e1 : waysE last j = 1 := by unfold waysE; rw [if_neg (by simpa using hb)]
      simp (decide := true) (disch := first | omega | rfl) only [↓SD, SP, opE, fget, binA, Nat.reduceEqDiff, reduceIte, again, stepV, wanted, resE, resL, resU, wr, rd, known, fillE, U.cells, h25, k4, k11, hw, upd_upd]
      exact ⟨by omega, by simp, (by (repeat (refine Keep.set ?_ (by decide))); exact hk), (by (repeat (refine Upd.set ?_ (by simp))); exact hu), by rw [upto_upd e1]⟩
  · have h := of_decide_eq_false hb
    have : j = T := by omega
    subst this
    simp (decide := true) (disch := first | omega | rfl) only [↓SD, SP, opE, fget, binA, Nat.reduceEqDiff, reduceIte, again, stepV, wanted, resE, resL, resU, wr, rd, known, fillE, U.cells]
    exact ⟨hu, by rw [hw, upto_all], (by (repeat (refine Keep.set ?_ (by decide))); exact hk)⟩

def finP (s : List UInt8) (frm : Nat) (before : Int) (t : Nat) : Bool := ((t : Int) != before) && allow s frm t

theorem coEnds_L4 (hA : G 876 = some (.code spec_coAllows)) {bw T frm : Nat} {s : List UInt8} {before : Int} {W : Nat → Int} {fr : Fr} {q : Mem} (h0 : fget fr 0 = V.s s) (h2 : fget fr 2 = V.i frm) (h3 : fget fr 3 = V.i before)
    (h89 : fget fr 89 = V.a (.sl bw 0 T (.ex T))) (h90 : fget fr 90 = V.i T) (h91 : fget fr 91 = V.i 0) (h18 : fget fr 18 = V.i 0)
    (qw : q[bw]? = some (.cells true (ints T W))) (hi : frm < s.length) (hT : T ≤ 5) (hW : ∀ k, 0 ≤ W k ∧ W k ≤ 100000000000000000) :
    Wc G (.loop spec_coEnds_L4) (fun e f' q' => e = .exit 8 ∧ q' = q ∧ fget f' 18 = V.i (sumW (finP s frm before) W T)) fr q := by
  refine Wc.loopN (fun t f q' => fget f 91 = V.i t ∧ Keep (18 :: 19 :: 20 :: List.range' 91 18) fr f ∧ q' = q ∧ fget f 18 = V.i (sumW (finP s frm before) W t)) T (fun t f q' ht0 hS => ?_) ⟨h91, Keep.refl, rfl, h18⟩
  obtain ⟨h91, hk, rfl, h18⟩ := hS
  have k0 := (hk 0 (by decide)).trans h0; have k2 := (hk 2 (by decide)).trans h2; have k3 := (hk 3 (by decide)).trans h3; have k89 := (hk 89 (by decide)).trans h89; have k90 := (hk 90 (by decide)).trans h90
  have b1 := sumW_bound (p := finP s frm before) hW t; have b2 := hW t
  unfold spec_coEnds_L4
  simp (decide := true) (disch := first | omega | rfl) only [↓SD, SP, opE, fget, binA, Nat.reduceEqDiff, reduceIte, again, stepV, wanted, resE, resL, resU, wr, rd, known, fillE, U.cells, h91, k90]
  refine ⟨fun hb => ?_, fun hb => ?_⟩
  · have h := of_decide_eq_true hb
    simp (decide := true) (disch := first | omega | rfl) only [↓SD, SP, opE, fget, binA, Nat.reduceEqDiff, reduceIte, again, stepV, wanted, resE, resL, resU, wr, rd, known, fillE, U.cells, h91, k0, k2, k3, k89, qw]
    refine ⟨fun hb => ?_, fun hb => ?_⟩
    · have hb2 := hb
      simp (decide := true) (disch := first | omega | rfl) only [↓SD, SP, opE, fget, binA, Nat.reduceEqDiff, reduceIte, again, stepV, wanted, resE, resL, resU, wr, rd, known, fillE, U.cells, hb]
      refine Wo.callR (by simp (decide := true) (disch := first | omega | rfl) only [↓SD, SP, opE, fget, binA, Nat.reduceEqDiff, reduceIte, again, stepV, wanted, resE, resL, resU, wr, rd, known, fillE, U.cells, k0, k2]; try rfl) (coAllows_ok (t := t) hA hi) ?_
      rintro _ _ ⟨rfl, rfl⟩
      simp (decide := true) (disch := first | omega | rfl) only [↓SD, SP, opE, fget, binA, Nat.reduceEqDiff, reduceIte, again, stepV, wanted, resE, resL, resU, wr, rd, known, fillE, U.cells, hb]
      refine ⟨fun hb => ?_, fun hb => ?_⟩
      · have e1 : sumW (finP s frm before) W (t + 1) = sumW (finP s frm before) W t + W t := by rw [sumW, if_pos (by unfold finP; rw [hb2, hb]; rfl)]
        simp (decide := true) (disch := first | omega | rfl) only [↓SD, SP, opE, fget, binA, Nat.reduceEqDiff, reduceIte, again, stepV, wanted, resE, resL, resU, wr, rd, known, fillE, U.cells, h91, h18, e1]
        exact ⟨by omega, by simp, (by (repeat (refine Keep.set ?_ (by decide))); exact hk)⟩
      · have e1 : sumW (finP s frm before) W (t + 1) = sumW (finP s frm before) W t := by rw [sumW, if_neg (by unfold finP; rw [hb2, hb]; simp)]
        simp (decide := true) (disch := first | omega | rfl) only [↓SD, SP, opE, fget, binA, Nat.reduceEqDiff, reduceIte, again, stepV, wanted, resE, resL, resU, wr, rd, known, fillE, U.cells, h91, h18, e1]
        exact ⟨by omega, by simp, (by (repeat (refine Keep.set ?_ (by decide))); exact hk)⟩
    · have e1 : sumW (finP s frm before) W (t + 1) = sumW (finP s frm before) W t := by rw [sumW, if_neg (by unfold finP; rw [hb]; simp)]
      simp (decide := true) (disch := first | omega | rfl) only [↓SD, SP, opE, fget, binA, Nat.reduceEqDiff, reduceIte, again, stepV, wanted, resE, resL, resU, wr, rd, known, fillE, U.cells, hb, h91, h18, e1]
      exact ⟨by omega, by simp, (by (repeat (refine Keep.set ?_ (by decide))); exact hk)⟩
  · have h := of_decide_eq_false hb
    have : t = T := by omega
    subst this
    simp (decide := true) (disch := first | omega | rfl) only [↓SD, SP, opE, fget, binA, Nat.reduceEqDiff, reduceIte, again, stepV, wanted, resE, resL, resU, wr, rd, known, fillE, U.cells, h18]

def endsF (s : List UInt8) (T frm : Nat) (before last : Int) : Int :=
  if frm = s.length then (if before < 0 then 1 else waysE last before.toNat) else sumW (finP s frm before) (waysF s T last (s.length - 1 - frm)) T

theorem coEnds_ok (hG : G 875 = some (.code spec_coEnds)) (hA : G 876 = some (.code spec_coAllows)) {m : Mem} {s : List UInt8} {T frm : Nat} {before last : Int} (hf : frm ≤ s.length) (hs : s.length ≤ 20) (hT : T ≤ 5) (hb : before < T) :
    Rn G 875 [V.s s, V.i T, V.i frm, V.i before, V.i last] m fun v m' => v = V.i (endsF s T frm before last) ∧ Ext m m' := by
  refine Rn.code hG ?_
  unfold spec_coEnds
  simp (decide := true) (disch := first | omega | rfl) only [↓SD, SP, opE, fget, binA, Nat.reduceEqDiff, reduceIte, again, stepV, wanted, resE, resL, resU, wr, rd, known, fillE, U.cells]
  refine (coEnds_L0 (bw := m.length) (T := T) (last := last) (by simp (decide := true) (disch := first | omega | rfl) only [↓SD, SP, opE, fget, binA, Nat.reduceEqDiff, reduceIte, again, stepV, wanted, resE, resL, resU, wr, rd, known, fillE, U.cells]) (by simp (decide := true) (disch := first | omega | rfl) only [↓SD, SP, opE, fget, binA, Nat.reduceEqDiff, reduceIte, again, stepV, wanted, resE, resL, resU, wr, rd, known, fillE, U.cells]) (by simp (decide := true) (disch := first | omega | rfl) only [↓SD, SP, opE, fget, binA, Nat.reduceEqDiff, reduceIte, again, stepV, wanted, resE, resL, resU, wr, rd, known, fillE, U.cells]) (by simp (decide := true) (disch := first | omega | rfl) only [↓SD, SP, opE, fget, binA, Nat.reduceEqDiff, reduceIte, again, stepV, wanted, resE, resL, resU, wr, rd, known, fillE, U.cells]) (by simp (decide := true) (disch := first | omega | rfl) only [↓SD, SP, opE, fget, binA, Nat.reduceEqDiff, reduceIte, again, stepV, wanted, resE, resL, resU, wr, rd, known, fillE, U.cells]) hT).mono ?_
  rintro e f q ⟨rfl, hu, hw, hk⟩
  have he : Ext m q := Upd.ext (Ext.push _ _) hu (by intro b hb; simp at hb; omega)
  have j0 := hk 0 (by decide); have j1 := hk 1 (by decide); have j2 := hk 2 (by decide); have j3 := hk 3 (by decide); have j11 := hk 11 (by decide)
  simp (decide := true) only [↓SD, SP, opE, fget, binA, Nat.reduceEqDiff, reduceIte, again, stepV, wanted, resE, resL, resU, wr, rd, known, fillE, U.cells] at j0 j1 j2 j3 j11
  simp (decide := true) (disch := first | omega | rfl) only [↓SD, SP, opE, fget, binA, Nat.reduceEqDiff, reduceIte, again, stepV, wanted, resE, resL, resU, wr, rd, known, fillE, U.cells, j0, j2]
  refine ⟨fun hb => ?_, fun hb => ?_⟩
  · have h : (frm : Int) = s.length := by simpa using hb
    simp (decide := true) (disch := first | omega | rfl) only [↓SD, SP, opE, fget, binA, Nat.reduceEqDiff, reduceIte, again, stepV, wanted, resE, resL, resU, wr, rd, known, fillE, U.cells, j3]
    refine ⟨fun hb => ?_, fun hb => ?_⟩
    · have h3 := of_decide_eq_true hb
      simp (decide := true) (disch := first | omega | rfl) only [↓SD, SP, opE, fget, binA, Nat.reduceEqDiff, reduceIte, again, stepV, wanted, resE, resL, resU, wr, rd, known, fillE, U.cells]
      exact ⟨_, rfl, by unfold endsF; rw [if_pos (by omega), if_pos h3], he⟩
    · have h3 := of_decide_eq_false hb
      simp (decide := true) (disch := first | omega | rfl) only [↓SD, SP, opE, fget, binA, Nat.reduceEqDiff, reduceIte, again, stepV, wanted, resE, resL, resU, wr, rd, known, fillE, U.cells, j11, j3]
      have hw' := hw
      simp (decide := true) (disch := first | omega | rfl) only [↓SD, SP, opE, fget, binA, Nat.reduceEqDiff, reduceIte, again, stepV, wanted, resE, resL, resU, wr, rd, known, fillE, U.cells, j11, j3, hw]
      exact ⟨_, rfl, by unfold endsF; rw [if_pos (by omega), if_neg h3], he⟩
  · have h : ¬ (frm : Int) = s.length := by simpa using hb
    simp (decide := true) (disch := first | omega | rfl) only [↓SD, SP, opE, fget, binA, Nat.reduceEqDiff, reduceIte, again, stepV, wanted, resE, resL, resU, wr, rd, known, fillE, U.cells, j0]
    refine (coEnds_L1 (bw := m.length) (T := T) (frm := frm) (s := s) (last := last) (m := m) hA (by simp (decide := true) (disch := first | omega | rfl) only [↓SD, SP, opE, fget, binA, Nat.reduceEqDiff, reduceIte, again, stepV, wanted, resE, resL, resU, wr, rd, known, fillE, U.cells, j0]) (by simp (decide := true) (disch := first | omega | rfl) only [↓SD, SP, opE, fget, binA, Nat.reduceEqDiff, reduceIte, again, stepV, wanted, resE, resL, resU, wr, rd, known, fillE, U.cells, j1]) (by simp (decide := true) (disch := first | omega | rfl) only [↓SD, SP, opE, fget, binA, Nat.reduceEqDiff, reduceIte, again, stepV, wanted, resE, resL, resU, wr, rd, known, fillE, U.cells, j2]) (by simp (decide := true) (disch := first | omega | rfl) only [↓SD, SP, opE, fget, binA, Nat.reduceEqDiff, reduceIte, again, stepV, wanted, resE, resL, resU, wr, rd, known, fillE, U.cells]; congr 3; omega) (by simp (decide := true) (disch := first | omega | rfl) only [↓SD, SP, opE, fget, binA, Nat.reduceEqDiff, reduceIte, again, stepV, wanted, resE, resL, resU, wr, rd, known, fillE, U.cells, j11]) hw he (by omega) (by omega) hs hT).mono ?_
    rintro e f2 q2 ⟨rfl, he2, ⟨b, h11, hw2⟩, hk2⟩
    have i0 := hk2 0 (by decide); have i2 := hk2 2 (by decide); have i3 := hk2 3 (by decide)
    simp (decide := true) only [↓SD, SP, opE, fget, binA, Nat.reduceEqDiff, reduceIte, again, stepV, wanted, resE, resL, resU, wr, rd, known, fillE, U.cells, j0, j2, j3] at i0 i2 i3
    simp (decide := true) (disch := first | omega | rfl) only [↓SD, SP, opE, fget, binA, Nat.reduceEqDiff, reduceIte, again, stepV, wanted, resE, resL, resU, wr, rd, known, fillE, U.cells, h11]
    refine (coEnds_L4 (bw := b) (T := T) (frm := frm) (s := s) (before := before) (W := waysF s T last (s.length - 1 - frm)) hA (by simp (decide := true) (disch := first | omega | rfl) only [↓SD, SP, opE, fget, binA, Nat.reduceEqDiff, reduceIte, again, stepV, wanted, resE, resL, resU, wr, rd, known, fillE, U.cells, i0]) (by simp (decide := true) (disch := first | omega | rfl) only [↓SD, SP, opE, fget, binA, Nat.reduceEqDiff, reduceIte, again, stepV, wanted, resE, resL, resU, wr, rd, known, fillE, U.cells, i2]) (by simp (decide := true) (disch := first | omega | rfl) only [↓SD, SP, opE, fget, binA, Nat.reduceEqDiff, reduceIte, again, stepV, wanted, resE, resL, resU, wr, rd, known, fillE, U.cells, i3]) (by simp (decide := true) (disch := first | omega | rfl) only [↓SD, SP, opE, fget, binA, Nat.reduceEqDiff, reduceIte, again, stepV, wanted, resE, resL, resU, wr, rd, known, fillE, U.cells]) (by simp (decide := true) (disch := first | omega | rfl) only [↓SD, SP, opE, fget, binA, Nat.reduceEqDiff, reduceIte, again, stepV, wanted, resE, resL, resU, wr, rd, known, fillE, U.cells]) (by simp (decide := true) (disch := first | omega | rfl) only [↓SD, SP, opE, fget, binA, Nat.reduceEqDiff, reduceIte, again, stepV, wanted, resE, resL, resU, wr, rd, known, fillE, U.cells]) (by simp (decide := true) (disch := first | omega | rfl) only [↓SD, SP, opE, fget, binA, Nat.reduceEqDiff, reduceIte, again, stepV, wanted, resE, resL, resU, wr, rd, known, fillE, U.cells]) hw2 (by omega) hT (waysF_bound' hT (by omega))).mono ?_
    rintro e f3 q3 ⟨rfl, rfl, h18⟩
    simp (decide := true) (disch := first | omega | rfl) only [↓SD, SP, opE, fget, binA, Nat.reduceEqDiff, reduceIte, again, stepV, wanted, resE, resL, resU, wr, rd, known, fillE, U.cells, h18]
    exact ⟨_, rfl, by unfold endsF; rw [if_neg (by omega)], he2⟩
end Go.AL
