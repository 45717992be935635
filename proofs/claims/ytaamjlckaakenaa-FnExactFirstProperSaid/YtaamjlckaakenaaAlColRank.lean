/-
  The reference's fence of a rank: fences with their first boards done.
-/
import Derived.Test.YtaamjlckaakenaaAlColPre
namespace Go.AL
set_option linter.unusedSimpArgs false
set_option linter.unusedVariables false
open F
set_option linter.unusedSimpArgs false
set_option linter.unusedVariables false
variable {G : Env}

/-- The fence whose first i boards have the colours of p. -/
def nowS (s : List UInt8) (p : Nat → Nat) (i : Nat) : List UInt8 := (List.range s.length).map fun j => if j < i then UInt8.ofNat (97 + p j) else s.getD j 0
theorem nowS_len {s : List UInt8} {p : Nat → Nat} {i : Nat} : (nowS s p i).length = s.length := by simp [nowS]
theorem nowS_get {s : List UInt8} {p : Nat → Nat} {i j : Nat} (h : j < s.length) : (nowS s p i)[j]? = some (if j < i then UInt8.ofNat (97 + p j) else s.getD j 0) := by simp [nowS, h]
theorem nowS_zero {s : List UInt8} {p : Nat → Nat} : nowS s p 0 = s := by
  apply List.ext_getElem (by simp [nowS])
  intro j h1 h2
  simp [nowS, List.getD_eq_getElem?_getD, h2]
theorem nowS_with {s : List UInt8} {p : Nat → Nat} {i c : Nat} (hi : i < s.length) : (nowS s p i).take i ++ [UInt8.ofNat (97 + c)] ++ (nowS s p i).drop (i + 1) = nowS s (put1 p i c) (i + 1) := by
  apply List.ext_getElem?
  intro j
  by_cases hj : j < s.length
  · rw [nowS_get hj]
    by_cases h1 : j < i
    · rw [List.append_assoc, List.getElem?_append_left (by simp [nowS_len]; omega), List.getElem?_take_of_lt h1, nowS_get hj, if_pos h1, if_pos (by omega)]
      unfold put1; rw [if_neg (by omega)]
    · by_cases h2 : j = i
      · subst h2
        rw [List.append_assoc, List.getElem?_append_right (by simp [nowS_len]; omega)]
        simp [nowS_len, Nat.min_eq_left (Nat.le_of_lt hi), put1]
      · rw [List.getElem?_append_right (by simp [nowS_len]; omega)]
        simp only [List.length_append, List.length_take, nowS_len, List.length_cons, List.length_nil, List.getElem?_drop]
        rw [show i + 1 + (j - (min i s.length + (0 + 1))) = j by omega, nowS_get hj, if_neg h1, if_neg (by omega)]
  · rw [List.getElem?_eq_none (by simp [nowS_len]; omega), List.getElem?_eq_none (by simp [nowS_len]; omega)]

theorem lv_now {c : Nat} (hc : c < 5) : IntKind.u8.wrap (((UInt8.ofNat (97 + c)).toNat : Int) - 97) = c := by
  rw [IntKind.wrap_u8]
  have : (UInt8.ofNat (97 + c)).toNat = 97 + c := by simp; omega
  rw [this]; omega

theorem allow_congr {s s' : List UInt8} {i : Nat} {t : Int} (h : s[i]? = s'[i]?) : allow s i t = allow s' i t := by unfold allow; rw [h]
theorem waysF_congr {s s' : List UInt8} {T : Nat} {last : Int} (hl : s.length = s'.length) {frm : Nat} (h : ∀ j, frm ≤ j → s[j]? = s'[j]?) : ∀ k, frm + k ≤ s.length → ∀ a, waysF s T last k a = waysF s' T last k a
  | 0, _, a => rfl
  | k + 1, hk, a => by
    show sumW _ _ T = sumW _ _ T
    rw [sumW_sm, sumW_sm]
    apply sm_congr; intro b _
    rw [waysF_congr hl h k (by omega) b]
    have : waysP s (s.length - 1 - k) a b = waysP s' (s'.length - 1 - k) a b := by
      unfold waysP; rw [← hl, allow_congr (h _ (by omega))]
    rw [this]
theorem endsF_congr {s s' : List UInt8} {T frm : Nat} {before last : Int} (hl : s.length = s'.length) (hf : frm ≤ s.length) (h : ∀ j, frm ≤ j → s[j]? = s'[j]?) : endsF s T frm before last = endsF s' T frm before last := by
  unfold endsF
  rw [← hl]
  split
  · rfl
  · rw [sumW_sm, sumW_sm]
    apply sm_congr; intro b _
    rw [waysF_congr hl h _ (by omega) b]
    have : finP s frm before b = finP s' frm before b := by unfold finP; rw [allow_congr (h _ (Nat.le_refl _))]
    rw [this]
theorem nowS_rest {s : List UInt8} {p : Nat → Nat} {i j : Nat} (h : i ≤ j) : (nowS s p i)[j]? = s[j]? := by
  by_cases hj : j < s.length
  · rw [nowS_get hj, if_neg (by omega), List.getD_eq_getElem?_getD, List.getElem?_eq_getElem hj]; rfl
  · rw [List.getElem?_eq_none (by simp [nowS_len]; omega), List.getElem?_eq_none (by omega)]

/-- Ways behind the first boards, done. -/
theorem coFromD_ok (h : ColS G) {m : Mem} {s : List UInt8} {p : Nat → Nat} {T k : Nat} {around : Bool} (h1 : 1 ≤ k) (hk : k ≤ s.length) (hs : s.length ≤ 20) (hT : T ≤ 5) (hp0 : p 0 < T) (hp : p (k - 1) < T) :
    Rn G 537 [V.s (nowS s p k), V.i T, V.b around, V.i k] m fun v m' => v = V.i (endsF s T k (p (k - 1)) (lastOf around p)) ∧ Ext m m' := by
  refine Rn.code h.coFrom ?_
  have g0 : (nowS s p k)[0]? = some (UInt8.ofNat (97 + p 0)) := by rw [nowS_get (by omega), if_pos (by omega)]
  have g1 : (nowS s p k)[k - 1]? = some (UInt8.ofNat (97 + p (k - 1))) := by rw [nowS_get (by omega), if_pos (by omega)]
  have l0 := lv_now (c := p 0) (by omega)
  have l1 := lv_now (c := p (k - 1)) (by omega)
  have ek : (k : Int) - 1 = ((k - 1 : Nat) : Int) := by omega
  have e := endsF_congr (s := nowS s p k) (s' := s) (T := T) (frm := k) (before := p (k - 1)) (last := lastOf around p) nowS_len (by rw [nowS_len]; exact hk) (fun j hj => nowS_rest hj)
  have hc : decide ((0 : Int) < k) = true := by rw [decide_eq_true_eq]; omega
  unfold spec_coFrom
  cases around with
  | false =>
    simp (decide := true) (disch := first | omega | rfl) only [↓y0, ↓y1, ↓y2, ↓y3, ↓y4, ↓y5, ↓y6, ↓y7, ↓y8, ↓y9, ↓y10, ↓y11, ↓y12, ↓y13, ↓y14, ↓y15, ↓y16, ↓y17, ↓y18, ↓y19, ↓y20, ↓y21, ↓y22, ↓y23, ↓y24, ↓y25, ↓y26, ↓y27, ↓y28, ↓y29, ↓y30, ↓y31, ↓y32, ↓y33, ↓y34, ↓y35, ↓y36, ↓y37, ↓y38, ↓y39, ↓y40, ↓y41, opE, y42, y43, y44, y45, y46, y47, y48, y49, y50, y51, y52, fget, y53, y54, y55, y56, y57, binA, Option.map_some, ne_eq, not_true, not_false_iff, if_false, if_true, Nat.reduceEqDiff, reduceIte, ↓y58, ↓y59, ↓y60, ↓y61, ↓y62, ↓y63, ↓y64, ↓y65, y66, ↓y67, ↓y68, ↓y69, ↓y70, ↓y71, ↓y72, ↓y73, ↓y74, y75, y76, ↓y77, ↓y78, ↓y79, again, stepV, wanted, List.all_cons, List.all_nil, Bool.and_true, Bool.and_self, true_or, or_true, y80, y81, y82, y83, y84, decide_true, decide_false, Bool.not_true, Bool.not_false, Bool.false_eq_true, ge_iff_le, gt_iff_lt, beq_self_eq_true, resE, resL, resU, List.map_cons, List.map_nil, List.getElem?_cons_zero, List.getElem?_cons_succ, y85, y86, if_pos, y87, y88, y89, y90, y91, List.drop_zero, y87, y88, y89, y90, y49, List.take_length, List.drop_zero, wr, rd, known, fillE, y92, y93, y94, y95, y96, y97, get_push2_lt, get_push2_0, get_push2_1, get_push3_lt, get_push3_0, get_push3_1, get_push3_2, get_push4_lt, get_push4_0, get_push4_1, get_push4_2, get_push4_3, set_push2_0, set_push2_1, y98, set_push3_0, set_push3_1, set_push3_2, y99, y100, y101, Nat.le_refl, Nat.one_mul, and_true, true_and, y102, List.length_set, List.set_set, y103, U.cells, List.length_cons, List.length_nil, Nat.zero_add, Nat.add_zero, Nat.mul_one, Int.toNat_natCast, wrap64, hc, ek, g1, l1]
    refine Wo.callR (by simp (decide := true) (disch := first | omega | rfl) only [↓y0, ↓y1, ↓y2, ↓y3, ↓y4, ↓y5, ↓y6, ↓y7, ↓y8, ↓y9, ↓y10, ↓y11, ↓y12, ↓y13, ↓y14, ↓y15, ↓y16, ↓y17, ↓y18, ↓y19, ↓y20, ↓y21, ↓y22, ↓y23, ↓y24, ↓y25, ↓y26, ↓y27, ↓y28, ↓y29, ↓y30, ↓y31, ↓y32, ↓y33, ↓y34, ↓y35, ↓y36, ↓y37, ↓y38, ↓y39, ↓y40, ↓y41, opE, y42, y43, y44, y45, y46, y47, y48, y49, y50, y51, y52, fget, y53, y54, y55, y56, y57, binA, Option.map_some, ne_eq, not_true, not_false_iff, if_false, if_true, Nat.reduceEqDiff, reduceIte, ↓y58, ↓y59, ↓y60, ↓y61, ↓y62, ↓y63, ↓y64, ↓y65, y66, ↓y67, ↓y68, ↓y69, ↓y70, ↓y71, ↓y72, ↓y73, ↓y74, y75, y76, ↓y77, ↓y78, ↓y79, again, stepV, wanted, List.all_cons, List.all_nil, Bool.and_true, Bool.and_self, true_or, or_true, y80, y81, y82, y83, y84, decide_true, decide_false, Bool.not_true, Bool.not_false, Bool.false_eq_true, ge_iff_le, gt_iff_lt, beq_self_eq_true, resE, resL, resU, List.map_cons, List.map_nil, List.getElem?_cons_zero, List.getElem?_cons_succ, y85, y86, if_pos, y87, y88, y89, y90, y91, List.drop_zero, y87, y88, y89, y90, y49, List.take_length, List.drop_zero, wr, rd, known, fillE, y92, y93, y94, y95, y96, y97, get_push2_lt, get_push2_0, get_push2_1, get_push3_lt, get_push3_0, get_push3_1, get_push3_2, get_push4_lt, get_push4_0, get_push4_1, get_push4_2, get_push4_3, set_push2_0, set_push2_1, y98, set_push3_0, set_push3_1, set_push3_2, y99, y100, y101, Nat.le_refl, Nat.one_mul, and_true, true_and, y102, List.length_set, List.set_set, y103, U.cells, List.length_cons, List.length_nil, Nat.zero_add, Nat.add_zero, Nat.mul_one, Int.toNat_natCast, wrap64]; try rfl) (coEnds_ok (T := T) (frm := k) (before := p (k - 1)) (last := -1) h.coEnds h.coAllows (by rw [nowS_len]; exact hk) (by rw [nowS_len]; exact hs) hT (by omega)) ?_
    rintro _ _ ⟨rfl, he⟩
    simp (decide := true) (disch := first | omega | rfl) only [↓y0, ↓y1, ↓y2, ↓y3, ↓y4, ↓y5, ↓y6, ↓y7, ↓y8, ↓y9, ↓y10, ↓y11, ↓y12, ↓y13, ↓y14, ↓y15, ↓y16, ↓y17, ↓y18, ↓y19, ↓y20, ↓y21, ↓y22, ↓y23, ↓y24, ↓y25, ↓y26, ↓y27, ↓y28, ↓y29, ↓y30, ↓y31, ↓y32, ↓y33, ↓y34, ↓y35, ↓y36, ↓y37, ↓y38, ↓y39, ↓y40, ↓y41, opE, y42, y43, y44, y45, y46, y47, y48, y49, y50, y51, y52, fget, y53, y54, y55, y56, y57, binA, Option.map_some, ne_eq, not_true, not_false_iff, if_false, if_true, Nat.reduceEqDiff, reduceIte, ↓y58, ↓y59, ↓y60, ↓y61, ↓y62, ↓y63, ↓y64, ↓y65, y66, ↓y67, ↓y68, ↓y69, ↓y70, ↓y71, ↓y72, ↓y73, ↓y74, y75, y76, ↓y77, ↓y78, ↓y79, again, stepV, wanted, List.all_cons, List.all_nil, Bool.and_true, Bool.and_self, true_or, or_true, y80, y81, y82, y83, y84, decide_true, decide_false, Bool.not_true, Bool.not_false, Bool.false_eq_true, ge_iff_le, gt_iff_lt, beq_self_eq_true, resE, resL, resU, List.map_cons, List.map_nil, List.getElem?_cons_zero, List.getElem?_cons_succ, y85, y86, if_pos, y87, y88, y89, y90, y91, List.drop_zero, y87, y88, y89, y90, y49, List.take_length, List.drop_zero, wr, rd, known, fillE, y92, y93, y94, y95, y96, y97, get_push2_lt, get_push2_0, get_push2_1, get_push3_lt, get_push3_0, get_push3_1, get_push3_2, get_push4_lt, get_push4_0, get_push4_1, get_push4_2, get_push4_3, set_push2_0, set_push2_1, y98, set_push3_0, set_push3_1, set_push3_2, y99, y100, y101, Nat.le_refl, Nat.one_mul, and_true, true_and, y102, List.length_set, List.set_set, y103, U.cells, List.length_cons, List.length_nil, Nat.zero_add, Nat.add_zero, Nat.mul_one, Int.toNat_natCast, wrap64]
    exact ⟨_, rfl, by rw [← e]; rfl, he⟩
  | true =>
    have z : ((0 : Int).toNat) = 0 := rfl
    simp (decide := true) (disch := first | omega | rfl) only [↓y0, ↓y1, ↓y2, ↓y3, ↓y4, ↓y5, ↓y6, ↓y7, ↓y8, ↓y9, ↓y10, ↓y11, ↓y12, ↓y13, ↓y14, ↓y15, ↓y16, ↓y17, ↓y18, ↓y19, ↓y20, ↓y21, ↓y22, ↓y23, ↓y24, ↓y25, ↓y26, ↓y27, ↓y28, ↓y29, ↓y30, ↓y31, ↓y32, ↓y33, ↓y34, ↓y35, ↓y36, ↓y37, ↓y38, ↓y39, ↓y40, ↓y41, opE, y42, y43, y44, y45, y46, y47, y48, y49, y50, y51, y52, fget, y53, y54, y55, y56, y57, binA, Option.map_some, ne_eq, not_true, not_false_iff, if_false, if_true, Nat.reduceEqDiff, reduceIte, ↓y58, ↓y59, ↓y60, ↓y61, ↓y62, ↓y63, ↓y64, ↓y65, y66, ↓y67, ↓y68, ↓y69, ↓y70, ↓y71, ↓y72, ↓y73, ↓y74, y75, y76, ↓y77, ↓y78, ↓y79, again, stepV, wanted, List.all_cons, List.all_nil, Bool.and_true, Bool.and_self, true_or, or_true, y80, y81, y82, y83, y84, decide_true, decide_false, Bool.not_true, Bool.not_false, Bool.false_eq_true, ge_iff_le, gt_iff_lt, beq_self_eq_true, resE, resL, resU, List.map_cons, List.map_nil, List.getElem?_cons_zero, List.getElem?_cons_succ, y85, y86, if_pos, y87, y88, y89, y90, y91, List.drop_zero, y87, y88, y89, y90, y49, List.take_length, List.drop_zero, wr, rd, known, fillE, y92, y93, y94, y95, y96, y97, get_push2_lt, get_push2_0, get_push2_1, get_push3_lt, get_push3_0, get_push3_1, get_push3_2, get_push4_lt, get_push4_0, get_push4_1, get_push4_2, get_push4_3, set_push2_0, set_push2_1, y98, set_push3_0, set_push3_1, set_push3_2, y99, y100, y101, Nat.le_refl, Nat.one_mul, and_true, true_and, y102, List.length_set, List.set_set, y103, U.cells, List.length_cons, List.length_nil, Nat.zero_add, Nat.add_zero, Nat.mul_one, Int.toNat_natCast, wrap64, hc, z, g0, l0, ek, g1, l1]
    refine Wo.callR (by simp (decide := true) (disch := first | omega | rfl) only [↓y0, ↓y1, ↓y2, ↓y3, ↓y4, ↓y5, ↓y6, ↓y7, ↓y8, ↓y9, ↓y10, ↓y11, ↓y12, ↓y13, ↓y14, ↓y15, ↓y16, ↓y17, ↓y18, ↓y19, ↓y20, ↓y21, ↓y22, ↓y23, ↓y24, ↓y25, ↓y26, ↓y27, ↓y28, ↓y29, ↓y30, ↓y31, ↓y32, ↓y33, ↓y34, ↓y35, ↓y36, ↓y37, ↓y38, ↓y39, ↓y40, ↓y41, opE, y42, y43, y44, y45, y46, y47, y48, y49, y50, y51, y52, fget, y53, y54, y55, y56, y57, binA, Option.map_some, ne_eq, not_true, not_false_iff, if_false, if_true, Nat.reduceEqDiff, reduceIte, ↓y58, ↓y59, ↓y60, ↓y61, ↓y62, ↓y63, ↓y64, ↓y65, y66, ↓y67, ↓y68, ↓y69, ↓y70, ↓y71, ↓y72, ↓y73, ↓y74, y75, y76, ↓y77, ↓y78, ↓y79, again, stepV, wanted, List.all_cons, List.all_nil, Bool.and_true, Bool.and_self, true_or, or_true, y80, y81, y82, y83, y84, decide_true, decide_false, Bool.not_true, Bool.not_false, Bool.false_eq_true, ge_iff_le, gt_iff_lt, beq_self_eq_true, resE, resL, resU, List.map_cons, List.map_nil, List.getElem?_cons_zero, List.getElem?_cons_succ, y85, y86, if_pos, y87, y88, y89, y90, y91, List.drop_zero, y87, y88, y89, y90, y49, List.take_length, List.drop_zero, wr, rd, known, fillE, y92, y93, y94, y95, y96, y97, get_push2_lt, get_push2_0, get_push2_1, get_push3_lt, get_push3_0, get_push3_1, get_push3_2, get_push4_lt, get_push4_0, get_push4_1, get_push4_2, get_push4_3, set_push2_0, set_push2_1, y98, set_push3_0, set_push3_1, set_push3_2, y99, y100, y101, Nat.le_refl, Nat.one_mul, and_true, true_and, y102, List.length_set, List.set_set, y103, U.cells, List.length_cons, List.length_nil, Nat.zero_add, Nat.add_zero, Nat.mul_one, Int.toNat_natCast, wrap64]; try rfl) (coEnds_ok (T := T) (frm := k) (before := p (k - 1)) (last := p 0) h.coEnds h.coAllows (by rw [nowS_len]; exact hk) (by rw [nowS_len]; exact hs) hT (by omega)) ?_
    rintro _ _ ⟨rfl, he⟩
    simp (decide := true) (disch := first | omega | rfl) only [↓y0, ↓y1, ↓y2, ↓y3, ↓y4, ↓y5, ↓y6, ↓y7, ↓y8, ↓y9, ↓y10, ↓y11, ↓y12, ↓y13, ↓y14, ↓y15, ↓y16, ↓y17, ↓y18, ↓y19, ↓y20, ↓y21, ↓y22, ↓y23, ↓y24, ↓y25, ↓y26, ↓y27, ↓y28, ↓y29, ↓y30, ↓y31, ↓y32, ↓y33, ↓y34, ↓y35, ↓y36, ↓y37, ↓y38, ↓y39, ↓y40, ↓y41, opE, y42, y43, y44, y45, y46, y47, y48, y49, y50, y51, y52, fget, y53, y54, y55, y56, y57, binA, Option.map_some, ne_eq, not_true, not_false_iff, if_false, if_true, Nat.reduceEqDiff, reduceIte, ↓y58, ↓y59, ↓y60, ↓y61, ↓y62, ↓y63, ↓y64, ↓y65, y66, ↓y67, ↓y68, ↓y69, ↓y70, ↓y71, ↓y72, ↓y73, ↓y74, y75, y76, ↓y77, ↓y78, ↓y79, again, stepV, wanted, List.all_cons, List.all_nil, Bool.and_true, Bool.and_self, true_or, or_true, y80, y81, y82, y83, y84, decide_true, decide_false, Bool.not_true, Bool.not_false, Bool.false_eq_true, ge_iff_le, gt_iff_lt, beq_self_eq_true, resE, resL, resU, List.map_cons, List.map_nil, List.getElem?_cons_zero, List.getElem?_cons_succ, y85, y86, if_pos, y87, y88, y89, y90, y91, List.drop_zero, y87, y88, y89, y90, y49, List.take_length, List.drop_zero, wr, rd, known, fillE, y92, y93, y94, y95, y96, y97, get_push2_lt, get_push2_0, get_push2_1, get_push3_lt, get_push3_0, get_push3_1, get_push3_2, get_push4_lt, get_push4_0, get_push4_1, get_push4_2, get_push4_3, set_push2_0, set_push2_1, y98, set_push3_0, set_push3_1, set_push3_2, y99, y100, y101, Nat.le_refl, Nat.one_mul, and_true, true_and, y102, List.length_set, List.set_set, y103, U.cells, List.length_cons, List.length_nil, Nat.zero_add, Nat.add_zero, Nat.mul_one, Int.toNat_natCast, wrap64]
    exact ⟨_, rfl, by rw [← e]; rfl, he⟩

theorem coWith_ok (hG : G 891 = some (.code spec_coWith)) {m : Mem} {s : List UInt8} {p : Nat → Nat} {i c : Nat} (hi : i < s.length) (hs : s.length ≤ 20) (hc : c < 5) :
    Rn G 891 [V.s (nowS s p i), V.i i, V.i c] m fun v m' => v = V.s (nowS s (put1 p i c) (i + 1)) ∧ m' = m := by
  refine Rn.code hG ?_
  have hl : (nowS s p i).length = s.length := nowS_len
  have hw := nowS_with (p := p) (c := c) hi
  unfold spec_coWith
  have e1 : ((c : Int) + 1).toNat = c + 1 := by omega
  have e2 : ((i : Int) + 1).toNat = i + 1 := by omega
  have hab : List.drop c (List.take (c + 1) [(97 : UInt8), 98, 99, 100, 101]) = [UInt8.ofNat (97 + c)] := by
    have : c = 0 ∨ c = 1 ∨ c = 2 ∨ c = 3 ∨ c = 4 := by omega
    rcases this with rfl | rfl | rfl | rfl | rfl <;> rfl
  have lt : (List.take i (nowS s p i)).length = i := by rw [List.length_take, hl]; omega
  have ld : (List.drop (i + 1) (nowS s p i)).length = s.length - (i + 1) := by rw [List.length_drop, hl]
  have tk : List.take s.length (nowS s p i) = nowS s p i := List.take_of_length_le (by rw [hl]; exact Nat.le_refl _)
  simp (decide := true) (disch := first | omega | rfl) only [↓y0, ↓y1, ↓y2, ↓y3, ↓y4, ↓y5, ↓y6, ↓y7, ↓y8, ↓y9, ↓y10, ↓y11, ↓y12, ↓y13, ↓y14, ↓y15, ↓y16, ↓y17, ↓y18, ↓y19, ↓y20, ↓y21, ↓y22, ↓y23, ↓y24, ↓y25, ↓y26, ↓y27, ↓y28, ↓y29, ↓y30, ↓y31, ↓y32, ↓y33, ↓y34, ↓y35, ↓y36, ↓y37, ↓y38, ↓y39, ↓y40, ↓y41, opE, y42, y43, y44, y45, y46, y47, y48, y49, y50, y51, y52, fget, y53, y54, y55, y56, y57, binA, Option.map_some, ne_eq, not_true, not_false_iff, if_false, if_true, Nat.reduceEqDiff, reduceIte, ↓y58, ↓y59, ↓y60, ↓y61, ↓y62, ↓y63, ↓y64, ↓y65, y66, ↓y67, ↓y68, ↓y69, ↓y70, ↓y71, ↓y72, ↓y73, ↓y74, y75, y76, ↓y77, ↓y78, ↓y79, again, stepV, wanted, List.all_cons, List.all_nil, Bool.and_true, Bool.and_self, true_or, or_true, y80, y81, y82, y83, y84, decide_true, decide_false, Bool.not_true, Bool.not_false, Bool.false_eq_true, ge_iff_le, gt_iff_lt, beq_self_eq_true, resE, resL, resU, List.map_cons, List.map_nil, List.getElem?_cons_zero, List.getElem?_cons_succ, y85, y86, if_pos, y87, y88, y89, y90, y91, List.drop_zero, y87, y88, y89, y90, y49, List.take_length, List.drop_zero, wr, rd, known, fillE, y92, y93, y94, y95, y96, y97, get_push2_lt, get_push2_0, get_push2_1, get_push3_lt, get_push3_0, get_push3_1, get_push3_2, get_push4_lt, get_push4_0, get_push4_1, get_push4_2, get_push4_3, set_push2_0, set_push2_1, y98, set_push3_0, set_push3_1, set_push3_2, y99, y100, y101, Nat.le_refl, Nat.one_mul, and_true, true_and, y102, List.length_set, List.set_set, y103, U.cells, List.length_cons, List.length_nil, Nat.zero_add, Nat.add_zero, Nat.mul_one, Int.toNat_natCast, wrap64, bnd, hl, e1, e2, hab, lt, ld, List.length_append, tk]
  exact ⟨_, rfl, by rw [hw]⟩
end Go.AL
