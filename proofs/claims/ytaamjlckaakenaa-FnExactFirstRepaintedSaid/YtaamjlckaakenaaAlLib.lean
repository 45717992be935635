/-
  Lemmas on memories and frames, for walks at the interpreter.
-/
import Derived.Test.YtaamjlckaakenaaAlWS
namespace Go.AL
set_option linter.unusedSimpArgs false
set_option linter.unusedVariables false
set_option linter.unusedSimpArgs false
set_option linter.unusedVariables false

def Ext (m m' : Mem) : Prop := m.length ≤ m'.length ∧ ∀ b, b < m.length → m'[b]? = m[b]?
theorem Ext.refl (m : Mem) : Ext m m := ⟨Nat.le_refl _, fun _ _ => rfl⟩
theorem Ext.trans {m m' m'' : Mem} (h : Ext m m') (h' : Ext m' m'') : Ext m m'' :=
  ⟨Nat.le_trans h.1 h'.1, fun b hb => (h'.2 b (Nat.lt_of_lt_of_le hb h.1)).trans (h.2 b hb)⟩
theorem lt_of_get {m : Mem} {b : Nat} {x : Blk} (h : m[b]? = some x) : b < m.length := Sim.lt_of_some h
theorem Ext.get {m m' : Mem} (h : Ext m m') {b : Nat} {x : Blk} (hb : m[b]? = some x) : m'[b]? = some x := (h.2 b (lt_of_get hb)).trans hb
theorem Ext.push (m : Mem) (x : Blk) : Ext m (m ++ [x]) := ⟨by simp, fun b hb => List.getElem?_append_left hb⟩
theorem Ext.set {m : Mem} {m0 : Mem} {b : Nat} {x : Blk} (h : Ext m0 m) (hb : m0.length ≤ b) : Ext m0 (m.set b x) :=
  ⟨by simpa using h.1, fun c hc => by rw [List.getElem?_set_ne (by omega)]; exact h.2 c hc⟩
theorem y96 {m : Mem} {x : Blk} {b : Nat} (h : b < m.length) : (m ++ [x])[b]? = m[b]? := List.getElem?_append_left h
theorem y97 {m : Mem} {x : Blk} : (m ++ [x])[m.length]? = some x := by simp
theorem get_push2_lt {m : Mem} {x y : Blk} {b : Nat} (h : b < m.length) : (m ++ [x] ++ [y])[b]? = m[b]? := by rw [List.append_assoc]; exact List.getElem?_append_left h
theorem get_push2_0 {m : Mem} {x y : Blk} : (m ++ [x] ++ [y])[m.length]? = some x := by simp
theorem get_push2_1 {m : Mem} {x y : Blk} : (m ++ [x] ++ [y])[m.length + 1]? = some y := by simp
theorem get_push3_lt {m : Mem} {x y z : Blk} {b : Nat} (h : b < m.length) : (m ++ [x] ++ [y] ++ [z])[b]? = m[b]? := by rw [List.append_assoc, List.append_assoc]; exact List.getElem?_append_left h
theorem get_push3_0 {m : Mem} {x y z : Blk} : (m ++ [x] ++ [y] ++ [z])[m.length]? = some x := by simp
theorem get_push3_1 {m : Mem} {x y z : Blk} : (m ++ [x] ++ [y] ++ [z])[m.length + 1]? = some y := by simp
theorem get_push3_2 {m : Mem} {x y z : Blk} : (m ++ [x] ++ [y] ++ [z])[m.length + 1 + 1]? = some z := by rw [List.append_assoc, List.append_assoc, List.getElem?_append_right (by omega), show m.length + 1 + 1 - m.length = 2 by omega]; rfl
theorem get_push4_lt {m : Mem} {x y z u : Blk} {b : Nat} (h : b < m.length) : (m ++ [x] ++ [y] ++ [z] ++ [u])[b]? = m[b]? := by rw [List.append_assoc, List.append_assoc, List.append_assoc]; exact List.getElem?_append_left h
theorem get_push4_0 {m : Mem} {x y z u : Blk} : (m ++ [x] ++ [y] ++ [z] ++ [u])[m.length]? = some x := by simp
theorem get_push4_1 {m : Mem} {x y z u : Blk} : (m ++ [x] ++ [y] ++ [z] ++ [u])[m.length + 1]? = some y := by simp
theorem get_push4_2 {m : Mem} {x y z u : Blk} : (m ++ [x] ++ [y] ++ [z] ++ [u])[m.length + 1 + 1]? = some z := by rw [List.append_assoc, List.append_assoc, List.append_assoc, List.getElem?_append_right (by omega), show m.length + 1 + 1 - m.length = 2 by omega]; rfl
theorem get_push4_3 {m : Mem} {x y z u : Blk} : (m ++ [x] ++ [y] ++ [z] ++ [u])[m.length + 1 + 1 + 1]? = some u := by rw [List.append_assoc, List.append_assoc, List.append_assoc, List.getElem?_append_right (by omega), show m.length + 1 + 1 + 1 - m.length = 3 by omega]; rfl
theorem y98 {m : Mem} {x y : Blk} {b : Nat} (h : b < m.length) : (m ++ [x]).set b y = m.set b y ++ [x] := by rw [List.set_append_left _ _ h]
theorem set_push2_0 {m : Mem} {x y z : Blk} : (m ++ [x] ++ [z]).set m.length y = m ++ [y] ++ [z] := by simp
theorem set_push2_1 {m : Mem} {x y z : Blk} : (m ++ [x] ++ [z]).set (m.length + 1) y = m ++ [x] ++ [y] := by simp
theorem set_push3_0 {m : Mem} {x y z u : Blk} : (m ++ [x] ++ [y] ++ [z]).set m.length u = m ++ [u] ++ [y] ++ [z] := by simp
theorem set_push3_1 {m : Mem} {x y z u : Blk} : (m ++ [x] ++ [y] ++ [z]).set (m.length + 1) u = m ++ [x] ++ [u] ++ [z] := by
  rw [y98 (by simp), set_push2_1]
theorem set_push3_2 {m : Mem} {x y z u : Blk} : (m ++ [x] ++ [y] ++ [z]).set (m.length + 1 + 1) u = m ++ [x] ++ [y] ++ [u] := by
  have : m.length + 1 + 1 = (m ++ [x] ++ [y]).length := by simp
  rw [this, List.set_append_right _ _ (Nat.le_refl _)]; simp
theorem y102 {m : Mem} {x : Blk} : (m ++ [x]).length = m.length + 1 := by simp
theorem y87 {m : Mem} {x y : Blk} : (m ++ [x]).set m.length y = m ++ [y] := by simp
theorem splice_all : ∀ {cs xs : List A} {o : Nat}, cs.length = xs.length + o → splice cs o xs = cs.take o ++ xs
  | cs, [], o, h => by simp [splice]; rw [List.take_of_length_le]; simp at h; omega
  | cs, x :: xs, o, h => by
    simp only [splice]
    simp only [List.length_cons] at h
    rw [splice_all (by simp; omega), List.take_set, List.set_eq_take_append_cons_drop]
    have : (List.take (o + 1) cs).length = o + 1 := by simp; omega
    rw [if_pos (by omega)]
    simp [List.take_take, Nat.min_eq_left]

def Keep (L : List Nat) (fr f : Fr) : Prop := ∀ j, j ∉ L → fget f j = fget fr j
theorem Keep.refl {L : List Nat} {fr : Fr} : Keep L fr fr := fun _ _ => rfl
theorem Keep.set {L : List Nat} {fr f : Fr} {d : Nat} {v : V} (h : Keep L fr f) (hd : d ∈ L) : Keep L fr (fset f d v) :=
  fun j hj => by rw [fget_set_ne _ _ _ _ (fun e => hj (by rw [← e]; exact hd))]; exact h j hj

theorem Keep.trans {L L' : List Nat} {fr f f' : Fr} (h : Keep L fr f) (h' : Keep L' f f') (hs : ∀ x ∈ L', x ∈ L) : Keep L fr f' :=
  fun j hj => (h' j (fun hm => hj (hs j hm))).trans (h j hj)
theorem wrap64 {x : Int} (h : -9223372036854775808 ≤ x ∧ x ≤ 9223372036854775807) : IntKind.i64.wrap x = x := by
  rw [IntKind.wrap_i64]; omega

theorem y92 {m : Mem} {x : Blk} {b : Nat} (h : b < m.length) : (m.set b x)[b]? = some x := List.getElem?_set_self h
theorem y93 {m : Mem} {x y : Blk} {a b : Nat} (h : b < m.length) : ((m.set a x).set b y)[b]? = some y := by rw [List.getElem?_set_self (by simpa using h)]
theorem y94 {m : Mem} {x y z : Blk} {a b c : Nat} (h : c < m.length) : (((m.set a x).set b y).set c z)[c]? = some z := by rw [List.getElem?_set_self (by simpa using h)]
theorem y95 {m : Mem} {x : Blk} {b c : Nat} (h : b ≠ c) : (m.set b x)[c]? = m[c]? := List.getElem?_set_ne h
theorem y88 {cs xs : List A} (h : cs.length = xs.length) : splice cs 0 xs = xs := by rw [splice_all (by omega)]; simp
theorem y89 {z : List A} : (List.replicate 1 z).flatten = z := by simp [List.replicate]
theorem y90 {z : List A} : (List.replicate 0 z).flatten = [] := rfl
theorem y91 {cs : List A} {n : Nat} (h : cs.length = n) : List.take n cs = cs := List.take_of_length_le (by omega)
theorem y103 {cs : List A} {o : Nat} {x : A} : splice cs o [x] = cs.set o x := rfl
theorem y85 {α : Type} {c : Prop} [Decidable c] {x y : Option α} {P : α → Prop} (h : c) : satT (if c then x else y) P .mk = satT x P .mk := by rw [if_pos h]
theorem y86 {P : V × Mem → Prop} {x : V} {m : Mem} : satT (some (x, m)) P .mk = P (x, m) := rfl

/-- An append to a slice that fills its block. -/
theorem appE_own {m : Mem} {s bytes b i n : Nat} {c : Cap} {cs new : List A} {y : A} (hy : lenA y = some n) (hsrc : srcCells m s n y = some new) (hn : 0 < n) (hs : 0 < s)
    (hb : m[b]? = some (.cells true cs)) (hl : cs.length = i * s) (hc : c = .ex i ∨ c = .rest s) (h1 : i + n ≤ 1099511627776) (h2 : (i + n) * bytes ≤ 1099511627776) :
    ∃ m', appE m s bytes (.sl b 0 i c) y = some (V.a (.sl m.length 0 (i + n) (.rest s)), m') ∧ m'[m.length]? = some (.cells true (cs ++ new)) ∧ m'.length = m.length + 1 ∧ ∀ x, x < m.length → x ≠ b → m'[x]? = m[x]? := by
  have hlt := lt_of_get hb
  have hk : known m b = cs.length := by unfold known; rw [hb]
  have hmul : i * s < (i + n) * s := Nat.mul_lt_mul_of_pos_right (by omega) hs
  unfold appE
  simp only [hy, hsrc]
  rw [if_neg (by omega), if_neg (by omega)]
  rcases hc with rfl | rfl
  · dsimp only
    rw [if_neg (by omega)]
    have hr : rd m b 0 (i * s) = some cs := by
      unfold rd; rw [hb]; dsimp only
      rw [if_pos (by omega)]
      simp [← hl]
    rw [hr]
    refine ⟨_, rfl, by simp, by simp, fun x hx hxb => List.getElem?_append_left hx⟩
  · dsimp only
    rw [if_neg (by simp), if_neg (by rw [hk, hl]; omega), hb]
    dsimp only
    rw [if_pos (by omega)]
    refine ⟨_, rfl, ?_, by simp, fun x hx hxb => ?_⟩
    · rw [List.getElem?_append_right (by simp)]; simp [← hl]
    · rw [List.getElem?_append_left (by simpa using hx), List.getElem?_set_ne (Ne.symm hxb)]

/-- A slice that fills its block; its cells. -/
def Own (lo : Nat) (q : Mem) (v : V) (s i : Nat) (cs : List A) : Prop :=
  ∃ b c, v = V.a (.sl b 0 i c) ∧ (c = .ex i ∨ c = .rest s) ∧ q[b]? = some (.cells true cs) ∧ cs.length = i * s ∧ lo ≤ b

theorem Own.ext {lo : Nat} {q q' : Mem} {v : V} {s i : Nat} {cs : List A} (h : Own lo q v s i cs) (he : Ext q q') : Own lo q' v s i cs := by
  obtain ⟨b, c, h1, h2, h3, h4, h5⟩ := h
  exact ⟨b, c, h1, h2, he.get h3, h4, h5⟩
theorem Own.lo {lo lo' : Nat} {q : Mem} {v : V} {s i : Nat} {cs : List A} (h : Own lo q v s i cs) (hl : lo' ≤ lo) : Own lo' q v s i cs := by
  obtain ⟨b, c, h1, h2, h3, h4, h5⟩ := h
  exact ⟨b, c, h1, h2, h3, h4, by omega⟩

theorem Wo.callR {G : Env} {K : Fr → Mem → Prop} {fr : Fr} {m : Mem} {d : Option Nat} {g : Nat} {xs : List X} {r : List I} {args : List V} {Q : V → Mem → Prop} (ha : xs.map (ev fr) = args) (h : Rn G g args m Q)
    (hk : ∀ v m', Q v m' → Wo G r K (put fr d v) m') : Wo G (⟨d, .call g xs, none⟩ :: r) K fr m :=
  Wo.call (by rw [ha]; exact h.mono hk)

/-- Blocks that stay as they are. -/
def Upd (L : List Nat) (q q' : Mem) : Prop := q'.length = q.length ∧ ∀ b, b ∉ L → q'[b]? = q[b]?
theorem Upd.refl {L : List Nat} {q : Mem} : Upd L q q := ⟨rfl, fun _ _ => rfl⟩
theorem Upd.set {L : List Nat} {q q' : Mem} {b : Nat} {x : Blk} (h : Upd L q q') (hb : b ∈ L) : Upd L q (q'.set b x) :=
  ⟨by simpa using h.1, fun c hc => by rw [List.getElem?_set_ne (fun e => hc (by rw [← e]; exact hb))]; exact h.2 c hc⟩
theorem Upd.trans {L : List Nat} {q q' q'' : Mem} (h : Upd L q q') (h' : Upd L q' q'') : Upd L q q'' :=
  ⟨h'.1.trans h.1, fun b hb => (h'.2 b hb).trans (h.2 b hb)⟩
theorem Upd.ext {L : List Nat} {m q q' : Mem} (he : Ext m q) (h : Upd L q q') (hL : ∀ b ∈ L, m.length ≤ b) : Ext m q' :=
  ⟨by rw [h.1]; exact he.1, fun b hb => (h.2 b (fun hm => by have := hL b hm; omega)).trans (he.2 b hb)⟩

/-! ### Rows of numbers -/
def ints (n : Nat) (f : Nat → Int) : List A := (List.range n).map fun j => A.int .i64 (f j)
def upd (f : Nat → Int) (j : Nat) (x : Int) : Nat → Int := fun k => if k = j then x else f k
theorem upd_same {f : Nat → Int} {j : Nat} {x : Int} : upd f j x j = x := if_pos rfl
theorem upd_ne {f : Nat → Int} {j k : Nat} {x : Int} (h : k ≠ j) : upd f j x k = f k := if_neg h
theorem upd_upd {f : Nat → Int} {j : Nat} {x y : Int} : upd (upd f j x) j y = upd f j y := by
  funext k; unfold upd; split <;> rfl
theorem upd_id {f : Nat → Int} {j : Nat} : upd f j (f j) = f := by
  funext k; unfold upd; split
  · subst k; rfl
  · rfl
theorem y80 {n : Nat} {f : Nat → Int} : (ints n f).length = n := by simp [ints]
theorem y82 {n : Nat} {f : Nat → Int} {j : Nat} (h : j < n) : (ints n f)[j]? = some (A.int .i64 (f j)) := by simp [ints, h]
theorem y83 {n : Nat} {f : Nat → Int} {j : Nat} {x : Int} : (ints n f).set j (A.int .i64 x) = ints n (upd f j x) := by
  apply List.ext_getElem (by simp [ints])
  intro k h1 h2
  simp only [ints, List.getElem_set, List.getElem_map, List.getElem_range, upd]
  by_cases h : j = k
  · rw [if_pos h, if_pos h.symm]
  · rw [if_neg h, if_neg (Ne.symm h)]
theorem y84 {n : Nat} {f : Nat → Int} {j : Nat} (h : j < n) : List.take 1 (List.drop j (ints n f)) = [A.int .i64 (f j)] := by
  rw [List.take_one, List.head?_drop, y82 h]; rfl
theorem ints_congr {n : Nat} {f g : Nat → Int} (h : ∀ j, j < n → f j = g j) : ints n f = ints n g := by
  apply List.ext_getElem (by simp [ints])
  intro k h1 h2
  simp only [ints, List.getElem_map, List.getElem_range]
  rw [h k (by simpa [ints] using h1)]
theorem ints_sub {n k o : Nat} {f : Nat → Int} (h : o + k ≤ n) : List.take k (List.drop o (ints n f)) = ints k (fun j => f (o + j)) := by
  apply List.ext_getElem (by simp [ints]; omega)
  intro j h1 h2
  simp [ints]
theorem y81 {n k j : Nat} {f : Nat → Int} (h : j < n) : part false (ints n f) j k = some (V.i (f j)) := by
  unfold part; rw [if_neg (by simp), y82 h]; rfl
theorem ints_succ {n : Nat} {f : Nat → Int} : ints (n + 1) f = ints n f ++ [A.int .i64 (f n)] := by
  unfold ints; rw [List.range_succ, List.map_append]; rfl
theorem ints_app {n k : Nat} {f : Nat → Int} : ints (n + k) f = ints n f ++ ints k (fun j => f (n + j)) := by
  induction k with
  | zero => simp [ints]
  | succ k ih => rw [← Nat.add_assoc, ints_succ, ih, ints_succ, List.append_assoc]
theorem y99 {n : Nat} {f g : Nat → Int} : splice (ints n f) 0 (ints n g) = ints n g := y88 (by rw [y80, y80])
theorem y100 {n : Nat} {f : Nat → Int} : List.take n (ints n f) = ints n f := List.take_of_length_le (by rw [y80]; exact Nat.le_refl _)
theorem ints_zero {f : Nat → Int} : ints 0 f = [] := rfl
theorem ints_rep {n : Nat} {x : Int} : List.replicate n (A.int .i64 x) = ints n (fun _ => x) := by
  apply List.ext_getElem (by simp [ints])
  intro j h1 h2
  simp [ints]
theorem y101 {n : Nat} {x : Int} : (List.replicate n [A.int .i64 x]).flatten = ints n (fun _ => x) := by
  rw [List.flatten_replicate_singleton, ints_rep]
theorem tdiv_nn {a b : Int} (h : 0 ≤ a) : a.tdiv b = a / b := Int.tdiv_eq_ediv_of_nonneg h
theorem tmod_nn {a b : Int} (h : 0 ≤ a) : a.tmod b = a % b := Int.tmod_eq_emod_of_nonneg h
theorem lit5 : [A.int .i64 0, A.int .i64 0, A.int .i64 0, A.int .i64 0, A.int .i64 0] = ints 5 (fun _ => 0) := rfl

end Go.AL
