/-
  What it means that a world of the model holds an abstract memory; how that is kept by the model's own steps.
-/
import Derived.Test.YtaamjlckaakenaaAlCore
import Derived.Below
import Derived.Laws.Cells
import Derived.Laws.IdiomCopy
namespace Go.AL
set_option linter.unusedSimpArgs false
set_option linter.unusedVariables false
open Go.RowKit

structure Em where
  blk : Nat
  off : Nat
  tot : Nat
  ty : Nat
  deriving Inhabited

abbrev Emb := Nat → Em

def at_ (E : Emb) (b o : Nat) : Addr := ⟨(E b).blk, (E b).off + o, none⟩

def cA (σ : Nat → Nat) (E : Emb) : A → Value
  | .int k n => .int k n
  | .bool b => .bool b
  | .str s => .string ⟨s.toArray⟩
  | .ptr b o => .pointer (some (at_ E b o))
  | .nilp => .pointer none
  | .sl b o len c => .slice (some (at_ E b o)) len (match c with
    | .ex n => n
    | .rest s => ((E b).tot - o) / s)
  | .nils => .slice none 0 0
  | .fn f caps => .func (.func (σ f)) #[] (caps.map fun p => Value.pointer (some (at_ E p.1 p.2))).toArray
  | .nilf => .nilFunc
  | .err b => .iface (E b).ty (.pointer (some (at_ E b 0)))
  | .nili => .nilIface

def cU (σ : Nat → Nat) (E : Emb) : U → Value
  | .a x => cA σ E x
  | .g cs => .agg (cs.map (cA σ E)).toArray

def cV (σ : Nat → Nat) (E : Emb) : V → Value
  | .u x => cU σ E x
  | .t vs => .tuple (vs.map (cU σ E)).toArray
  | .z => undef

def A.ok (n : Nat) : A → Prop
  | .ptr b _ | .sl b _ _ _ | .err b => b < n
  | .fn _ caps => ∀ p ∈ caps, p.1 < n
  | _ => True
def U.ok (n : Nat) : U → Prop
  | .a x => x.ok n
  | .g cs => ∀ x ∈ cs, x.ok n
def V.ok (n : Nat) : V → Prop
  | .u x => x.ok n
  | .t vs => ∀ x ∈ vs, x.ok n
  | .z => True

theorem A.ok.mono {n n' : Nat} {x : A} (h : x.ok n) (hn : n ≤ n') : x.ok n' := by
  cases x <;> simp only [A.ok] at * <;> first | trivial | (intro p hp; exact Nat.lt_of_lt_of_le (h p hp) hn) | omega
theorem U.ok.mono {n n' : Nat} {x : U} (h : x.ok n) (hn : n ≤ n') : x.ok n' := by
  cases x with
  | a x => exact A.ok.mono h hn
  | g cs => exact fun x hx => A.ok.mono (h x hx) hn
theorem V.ok.mono {n n' : Nat} {x : V} (h : x.ok n) (hn : n ≤ n') : x.ok n' := by
  cases x with
  | u x => exact U.ok.mono h hn
  | t vs => exact fun x hx => U.ok.mono (h x hx) hn
  | z => trivial

def Agree (n : Nat) (E E' : Emb) : Prop := ∀ i, i < n → E' i = E i
theorem Agree.refl (n : Nat) (E : Emb) : Agree n E E := fun _ _ => rfl
theorem Agree.trans {n n' : Nat} {E E' E'' : Emb} (h : Agree n E E') (h' : Agree n' E' E'') (hn : n ≤ n') : Agree n E E'' :=
  fun i hi => (h' i (Nat.lt_of_lt_of_le hi hn)).trans (h i hi)
theorem Agree.mono {n n' : Nat} {E E' : Emb} (h : Agree n' E E') (hn : n ≤ n') : Agree n E E' := fun i hi => h i (Nat.lt_of_lt_of_le hi hn)

theorem at_agree {n : Nat} {E E' : Emb} (h : Agree n E E') {b : Nat} (hb : b < n) (o : Nat) : at_ E' b o = at_ E b o := by
  unfold at_; rw [h b hb]

theorem cA_agree {σ : Nat → Nat} {n : Nat} {E E' : Emb} (h : Agree n E E') {x : A} (hx : x.ok n) : cA σ E' x = cA σ E x := by
  cases x with
  | ptr b o => simp only [cA, at_agree h (show b < n from hx)]
  | sl b o len c => simp only [cA, at_agree h (show b < n from hx), h b hx]
  | err b => simp only [cA, at_agree h (show b < n from hx), h b hx]
  | fn f caps =>
    simp only [cA]
    congr 2
    exact List.map_congr_left fun p hp => by rw [at_agree h (hx p hp)]
  | _ => rfl
theorem cU_agree {σ : Nat → Nat} {n : Nat} {E E' : Emb} (h : Agree n E E') {x : U} (hx : x.ok n) : cU σ E' x = cU σ E x := by
  cases x with
  | a x => exact cA_agree h hx
  | g cs => simp only [cU]; congr 2; exact List.map_congr_left fun x hx' => cA_agree h (hx x hx')
theorem cV_agree {σ : Nat → Nat} {n : Nat} {E E' : Emb} (h : Agree n E E') {x : V} (hx : x.ok n) : cV σ E' x = cV σ E x := by
  cases x with
  | u x => exact cU_agree h hx
  | t vs => simp only [cV]; congr 2; exact List.map_congr_left fun x hx' => cU_agree h (hx x hx')
  | z => rfl

theorem cU_cells (σ : Nat → Nat) (E : Emb) (x : U) : (cU σ E x).cells = (x.cells.map (cA σ E)).toArray := by
  cases x with
  | a x => cases x <;> rfl
  | g cs => rfl

theorem cA_oneCell (σ : Nat → Nat) (E : Emb) (x : A) : (cA σ E x).oneCell' = true := by cases x <;> rfl

theorem U.cells_ok {n : Nat} {x : U} (h : x.ok n) : ∀ y ∈ x.cells, A.ok n y := by
  cases x with
  | a x => intro y hy; simp [U.cells] at hy; subst hy; exact h
  | g cs => exact h

/-! ### Frames -/
theorem fget_nil (i : Nat) : fget [] i = .z := by cases i <;> rfl
theorem fget_set_same : ∀ (fr : Fr) (i : Nat) (v : V), fget (fset fr i v) i = v
  | [], 0, _ => rfl
  | [], n + 1, v => by simp only [fset, fget]; exact fget_set_same [] n v
  | _ :: _, 0, _ => rfl
  | _ :: r, n + 1, v => by simp only [fset, fget]; exact fget_set_same r n v
theorem fget_set_ne : ∀ (fr : Fr) (i j : Nat) (v : V), i ≠ j → fget (fset fr i v) j = fget fr j
  | [], 0, 0, _, h => absurd rfl h
  | [], 0, j + 1, v, _ => by simp only [fset, fget]
  | [], i + 1, 0, v, _ => rfl
  | [], i + 1, j + 1, v, h => by simp only [fset, fget]; rw [fget_set_ne [] i j v (by omega), fget_nil]
  | _ :: _, 0, 0, _, h => absurd rfl h
  | _ :: _, 0, j + 1, _, _ => rfl
  | _ :: _, i + 1, 0, _, _ => rfl
  | _ :: r, i + 1, j + 1, v, h => by simp only [fset, fget]; exact fget_set_ne r i j v (by omega)
theorem y52 (fr : Fr) (i j : Nat) (v : V) : fget (fset fr i v) j = if i = j then v else fget fr j := by
  split
  · subst i; exact fget_set_same fr j v
  · exact fget_set_ne fr i j v (by assumption)

structure FR (σ : Nat → Nat) (E : Emb) (n nt : Nat) (fr : Fr) (tmps : Array Value) : Prop where
  size : nt ≤ tmps.size
  val : ∀ i, tmps.getD i undef = cV σ E (fget fr i)
  ok : ∀ i, (fget fr i).ok n

theorem FR.put {σ : Nat → Nat} {E E' : Emb} {n n' nt : Nat} {fr : Fr} {tmps : Array Value} (h : FR σ E n nt fr tmps) (ha : Agree n E E') (hn : n ≤ n')
    {d : Nat} (hd : d < nt) {v : V} (hv : v.ok n') : FR σ E' n' nt (fset fr d v) (tmps.setIfInBounds d (cV σ E' v)) := by
  refine ⟨by simpa using h.size, fun i => ?_, fun i => ?_⟩
  · rw [y52]
    by_cases hdi : d = i
    · subst hdi; rw [if_pos rfl]; simp [Array.getD, Nat.lt_of_lt_of_le hd h.size]
    · rw [if_neg hdi, cV_agree ha (h.ok i), ← h.val i]
      simp [Array.getD_eq_getD_getElem?, Array.getElem?_setIfInBounds_ne hdi]
  · rw [y52]; split
    · exact hv
    · exact (h.ok i).mono hn

theorem FR.same {σ : Nat → Nat} {E E' : Emb} {n n' nt : Nat} {fr : Fr} {tmps : Array Value} (h : FR σ E n nt fr tmps) (ha : Agree n E E') (hn : n ≤ n') : FR σ E' n' nt fr tmps :=
  ⟨h.size, fun i => by rw [cV_agree ha (h.ok i), h.val i], fun i => (h.ok i).mono hn⟩

/-! ### Memory -/
def owned (m : Mem) (b : Nat) : Prop := match m[b]? with
  | some (.cells true _) | some (.iter _ _) => True
  | _ => False

structure Holds (σ : Nat → Nat) (B : Nat) (E : Emb) (w : World) (b : Nat) (W : Bool) (cs : List A) : Prop where
  mk ::
  there : ∃ arr elem fz, w.heap[(E b).blk]? = some (Obj.cells arr elem fz) ∧ (E b).off + (E b).tot ≤ arr.size ∧
    (∀ (j : Nat) (x : A), cs[j]? = some x → arr[(E b).off + j]? = some (cA σ E x)) ∧ (W = true → fz.2 ≤ fz.1 ∨ (E b).off + (E b).tot ≤ fz.1)
  le : cs.length ≤ (E b).tot
  mine : W = true → B ≤ (E b).blk
  old : W = false → cs = [] ∨ (E b).blk < B

structure Sim (σ : Nat → Nat) (B : Nat) (w0 : World) (E : Emb) (m : Mem) (w : World) : Prop where
  below : Below B w0 w
  base : B ≤ w0.heap.size
  blk : ∀ (b : Nat) (W : Bool) (cs : List A), m[b]? = some (Blk.cells W cs) → Holds σ B E w b W cs
  iter : ∀ (b : Nat) (s : List UInt8) (pos : Nat), m[b]? = some (Blk.iter s pos) → w.heap[(E b).blk]? = some (Obj.stringIter ⟨s.toArray⟩ pos) ∧ B ≤ (E b).blk ∧ (E b).off = 0
  inj : ∀ (b b' : Nat), b ≠ b' → owned m b → owned m b' → (E b).blk ≠ (E b').blk
  sc : ∀ (b : Nat) (W : Bool) (cs : List A), m[b]? = some (Blk.cells W cs) → ∀ x ∈ cs, A.ok m.length x

theorem Sim.size {σ B w0 E m w} (h : Sim σ B w0 E m w) : B ≤ w.heap.size := Nat.le_trans h.base h.below.size

theorem Sim.lt_of_some {m : Mem} {b : Nat} {x : Blk} (h : m[b]? = some x) : b < m.length := by
  rcases Nat.lt_or_ge b m.length with h' | h'
  · exact h'
  · simp [List.getElem?_eq_none h'] at h

theorem Sim.there {σ B w0 E m w} (h : Sim σ B w0 E m w) {b : Nat} {x : Blk} (hb : m[b]? = some x) (hx : x ≠ .dead) : (E b).blk < w.heap.size := by
  have key : ∀ o, w.heap[(E b).blk]? = some o → (E b).blk < w.heap.size := fun o ho => by
    rcases Nat.lt_or_ge (E b).blk w.heap.size with h' | h'
    · exact h'
    · simp [Array.getElem?_eq_none h'] at ho
  cases x with
  | cells W cs => obtain ⟨arr, elem, fz, h1, _⟩ := (h.blk b W cs hb).there; exact key _ h1
  | iter s pos => exact key _ (h.iter b s pos hb).1
  | dead => exact absurd rfl hx

/-- A draw. -/
theorem Sim.drew {σ B w0 E m w} (h : Sim σ B w0 E m w) : Sim σ B w0 E m { w with drawn := w.drawn + 1 } :=
  ⟨⟨h.below.os, h.below.tape, h.below.output, h.below.size, h.below.block⟩, h.base,
    fun b W cs hb => let ⟨a, b', c, d⟩ := h.blk b W cs hb; ⟨a, b', c, d⟩, h.iter, h.inj, h.sc⟩

def Emb.up (E : Emb) (n : Nat) (e : Em) : Emb := fun i => if i = n then e else E i
theorem Emb.up_same (E : Emb) (n : Nat) (e : Em) : E.up n e n = e := if_pos rfl
theorem Emb.up_ne (E : Emb) (n : Nat) (e : Em) {i : Nat} (h : i ≠ n) : E.up n e i = E i := if_neg h
theorem Emb.up_agree (E : Emb) (n : Nat) (e : Em) : Agree n E (E.up n e) := fun i hi => E.up_ne n e (by omega)

theorem get_push {m : Mem} {x : Blk} {b : Nat} {y : Blk} (h : (m ++ [x])[b]? = some y) : (b < m.length ∧ m[b]? = some y) ∨ (b = m.length ∧ y = x) := by
  rcases Nat.lt_trichotomy b m.length with hb | hb | hb
  · left; exact ⟨hb, by rwa [List.getElem?_append_left hb] at h⟩
  · right; subst hb; simp at h; exact ⟨rfl, h.symm⟩
  · rw [List.getElem?_append_right (by omega)] at h
    have : b - m.length ≠ 0 := by omega
    obtain ⟨k, hk⟩ : ∃ k, b - m.length = k + 1 := ⟨b - m.length - 1, by omega⟩
    rw [hk] at h; simp at h

theorem owned_push {m : Mem} {x : Blk} {b : Nat} (h : owned (m ++ [x]) b) : (b < m.length ∧ owned m b) ∨ b = m.length := by
  unfold owned at h ⊢
  cases hb : (m ++ [x])[b]? with
  | none => rw [hb] at h; exact h.elim
  | some y =>
    rcases get_push hb with ⟨h1, h2⟩ | ⟨h1, _⟩
    · left; rw [hb] at h; rw [h2]; exact ⟨h1, h⟩
    · exact .inr h1

theorem owned_some {m : Mem} {b : Nat} (h : owned m b) : ∃ x, m[b]? = some x ∧ x ≠ .dead := by
  unfold owned at h
  cases hb : m[b]? with
  | none => rw [hb] at h; exact h.elim
  | some y => exact ⟨y, rfl, fun e => by subst e; rw [hb] at h; exact h.elim⟩

theorem holds_heap {σ B E w w' b W cs} (h : Holds σ B E w b W cs) (hw : w'.heap[(E b).blk]? = w.heap[(E b).blk]?) : Holds σ B E w' b W cs := by
  obtain ⟨⟨arr, elem, fz, h1, h2⟩, h3, h4, h5⟩ := h
  exact ⟨⟨arr, elem, fz, by rw [hw]; exact h1, h2⟩, h3, h4, h5⟩

theorem holds_emb {σ B E E' w b W cs n} (h : Holds σ B E w b W cs) (ha : Agree n E E') (hb : b < n) (hsc : ∀ x ∈ cs, A.ok n x) : Holds σ B E' w b W cs := by
  obtain ⟨⟨arr, elem, fz, h1, h2, h3, h4⟩, h5, h6, h7⟩ := h
  have hE := ha b hb
  refine ⟨⟨arr, elem, fz, by rw [hE]; exact h1, by rw [hE]; exact h2, fun j x hx => ?_, by rw [hE]; exact h4⟩, by rw [hE]; exact h5, by rw [hE]; exact h6, by rw [hE]; exact h7⟩
  rw [hE, cA_agree ha (hsc x (List.mem_of_getElem? hx))]
  exact h3 j x hx

/-- A new block of cells. -/
theorem Sim.new {σ B w0 E m w} (h : Sim σ B w0 E m w) (arr : Array Value) (elem : TypeId) (cs : List A) (tot ty : Nat)
    (htot : tot ≤ arr.size) (hle : cs.length ≤ tot) (hcs : ∀ (j : Nat) (x : A), cs[j]? = some x → arr[j]? = some (cA σ E x)) (hok : ∀ x ∈ cs, A.ok m.length x) :
    Sim σ B w0 (E.up m.length ⟨w.heap.size, 0, tot, ty⟩) (m ++ [Blk.cells true cs]) (w.alloc (.cells arr elem)) := by
  have ha := E.up_agree m.length ⟨w.heap.size, 0, tot, ty⟩
  have hheap : ∀ k, k < w.heap.size → (w.alloc (.cells arr elem)).heap[k]? = w.heap[k]? := fun k hk => Below.heap_alloc _ _ _ hk
  have hnew : (w.alloc (.cells arr elem)).heap[w.heap.size]? = some (.cells arr elem (0, 0)) := by
    show (w.heap.push _)[w.heap.size]? = _
    simp
  refine ⟨h.below.alloc h.size _, h.base, fun b W cs' hb => ?_, fun b s pos hb => ?_, fun b b' hne hb hb' => ?_, fun b W cs' hb x hx => ?_⟩
  · rcases get_push hb with ⟨hlt, hb⟩ | ⟨rfl, hq⟩
    · have h1 := h.blk b W cs' hb
      refine holds_emb (n := m.length) (holds_heap h1 (hheap _ (h.there hb (by simp)))) ha hlt (h.sc b W cs' hb)
    · cases hq
      refine ⟨⟨arr, elem, (0, 0), by rw [Emb.up_same]; exact hnew, by rw [Emb.up_same]; simpa using htot, fun j x hx => ?_, fun _ => .inl (Nat.le_refl _)⟩,
        by rw [Emb.up_same]; exact hle, fun _ => by rw [Emb.up_same]; exact h.size, fun h => by cases h⟩
      rw [Emb.up_same, cA_agree ha (hok x (List.mem_of_getElem? hx))]
      simpa using hcs j x hx
  · rcases get_push hb with ⟨hlt, hb⟩ | ⟨_, hq⟩
    · obtain ⟨h1, h2, h3⟩ := h.iter b s pos hb
      rw [ha b hlt]
      exact ⟨by rw [hheap _ (h.there hb (by simp))]; exact h1, h2, h3⟩
    · cases hq
  · rcases owned_push hb with ⟨hlt, hb⟩ | rfl <;> rcases owned_push hb' with ⟨hlt', hb'⟩ | rfl
    · rw [ha b hlt, ha b' hlt']; exact h.inj b b' hne hb hb'
    · obtain ⟨x, hx, hd⟩ := owned_some hb
      rw [ha b hlt, Emb.up_same]; have := h.there hx hd; simp; omega
    · obtain ⟨x, hx, hd⟩ := owned_some hb'
      rw [ha b' hlt', Emb.up_same]; have := h.there hx hd; simp; omega
    · exact absurd rfl hne
  · rcases get_push hb with ⟨hlt, hb⟩ | ⟨_, hq⟩
    · exact (h.sc b W cs' hb x hx).mono (by simp)
    · cases hq
      exact (hok x hx).mono (by simp)

end Go.AL
