/-
  Operands and operations that leave memory alone, or read it: the interpreter's answer is the model's.
-/
import Derived.Test.YtaamjlckaakenaaAlSim2
import Derived.Test.YtaamjlckaakenaaAlComp
import Derived.Laws.Entries
import Derived.Calls
import Derived.Laws.Strings
namespace Go.AL
set_option linter.unusedSimpArgs false
set_option linter.unusedVariables false
open Go.RowKit

variable {σ : Nat → Nat} {B : Nat} {w0 : World} {E : Emb} {m : Mem} {w : World} {P : Program} {ρ : Nat → Option Nat} {nt : Nat} {fr : Fr} {a : Act}

theorem run_size {t : TypeId} {n : Nat} (h : szT P t = some n) (w : World) : (sizeOf t).run P w = .ok n w := by
  unfold szT at h
  obtain ⟨i, hi, rfl⟩ := Option.map_eq_some_iff.1 h
  simp [sizeOf, typeInfo, hi]
theorem run_info {t : TypeId} {i : TypeInfo} (h : P.info? t = some i) (w : World) : (typeInfo t).run P w = .ok i w := by
  simp [typeInfo, h]
theorem run_bytes {t : TypeId} {n : Nat} (h : bytesT P t = some n) (w : World) : ∃ i, (typeInfo t).run P w = .ok i w ∧ i.bytes = n := by
  unfold bytesT at h
  obtain ⟨i, hi, rfl⟩ := Option.map_eq_some_iff.1 h
  exact ⟨i, run_info hi w, rfl⟩
theorem run_agg {t : TypeId} {g : Bool} (h : aggT P t = some g) (w : World) : (isAgg t).run P w = .ok g w := by
  unfold aggT at h
  cases hu : P.underlying t with
  | none => rw [hu] at h; cases h
  | some d =>
    rw [hu] at h
    simp only [isAgg, Sem.run_bind, run_underlying hu, Result.andThen_ok]
    cases d <;> simp_all

theorem bytes_eta (s : ByteArray) : (⟨s.data.toList.toArray⟩ : ByteArray) = s := by cases s; simp

theorem cAtom_ok {v : Value} {x : A} (h : cAtom v = some x) (σ : Nat → Nat) (E : Emb) (n : Nat) : cA σ E x = v ∧ x.ok n := by
  unfold cAtom at h
  split at h <;> cases h <;> simp [cA, A.ok]

theorem cAtoms_ok : ∀ {l : List Value} {xs : List A}, cAtoms l = some xs → ∀ (σ : Nat → Nat) (E : Emb) (n : Nat), xs.map (cA σ E) = l ∧ ∀ x ∈ xs, A.ok n x
  | [], xs, h, σ, E, n => by cases h; simp
  | v :: r, xs, h, σ, E, n => by
    simp only [cAtoms] at h
    split at h
    case h_2 => cases h
    rename_i x l hx hl
    cases h
    obtain ⟨h1, h2⟩ := cAtom_ok hx σ E n
    obtain ⟨h3, h4⟩ := cAtoms_ok hl σ E n
    refine ⟨by simp [h1, h3], fun y hy => ?_⟩
    rcases List.mem_cons.1 hy with rfl | hy
    · exact h2
    · exact h4 y hy

theorem cConst_ok {v : Value} {x : V} (h : cConst v = some x) (σ : Nat → Nat) (E : Emb) (n : Nat) : cV σ E x = v ∧ x.ok n := by
  unfold cConst at h
  split at h
  · obtain ⟨l, hl, rfl⟩ := Option.map_eq_some_iff.1 h
    obtain ⟨h1, h2⟩ := cAtoms_ok hl σ E n
    exact ⟨by simp [cV, cU, h1], h2⟩
  · obtain ⟨l, hl, rfl⟩ := Option.map_eq_some_iff.1 h
    exact cAtom_ok hl σ E n

theorem zeroT_ok {t : TypeId} {z : List A} (h : zeroT P t = some z) (σ : Nat → Nat) (E : Emb) (n : Nat) :
    ∃ v, (∀ w, (zeroValue t).run P w = .ok v w) ∧ v.cells = (z.map (cA σ E)).toArray ∧ ∀ x ∈ z, A.ok n x := by
  unfold zeroT at h
  split at h
  case h_2 => cases h
  rename_i i hi
  split at h
  case h_2 => cases h
  rename_i v hv
  obtain ⟨h1, h2⟩ := cAtoms_ok h σ E n
  exact ⟨v, fun w => by simp [zeroValue, run_info hi, hv], by rw [h1], h2⟩

def FnMap (σ : Nat → Nat) (ρ : Nat → Option Nat) : Prop := ∀ f g, ρ f = some g → σ g = f

structure St (σ : Nat → Nat) (ρ : Nat → Option Nat) (B : Nat) (w0 : World) (nt : Nat) (E : Emb) (m : Mem) (w : World) (fr : Fr) (a : Act) : Prop where
  fm : FnMap σ ρ
  sim : Sim σ B w0 E m w
  fr : FR σ E m.length nt fr a.tmps
  df : a.defers = []

theorem cX_ok (h : St σ ρ B w0 nt E m w fr a) {x : Operand} {x' : X} (hx : cX ρ x = some x') : a.eval x = cV σ E (ev fr x') ∧ (ev fr x').ok m.length := by
  cases x with
  | tmp t => cases hx; exact ⟨h.fr.val t, h.fr.ok t⟩
  | const v =>
    obtain ⟨y, hy, rfl⟩ := Option.map_eq_some_iff.1 hx
    obtain ⟨h1, h2⟩ := cConst_ok hy σ E m.length
    exact ⟨h1.symm, h2⟩
  | func f =>
    obtain ⟨g, hg, rfl⟩ := Option.map_eq_some_iff.1 hx
    refine ⟨?_, ?_⟩
    · simp [Act.eval, ev, cV, cU, cA, h.fm f g hg]
    · intro p hp; cases hp
  | global g => cases hx

theorem toA_some {v : V} {x : A} (h : v.toA = some x) : v = .u (.a x) := by
  cases v with
  | u y => cases y with
    | a z => simp [V.toA] at h; rw [h]
    | g cs => simp [V.toA] at h
  | _ => simp [V.toA] at h
theorem toU_some {v : V} {x : U} (h : v.toU = some x) : v = .u x := by
  cases v with
  | u y => simp [V.toU] at h; rw [h]
  | _ => simp [V.toU] at h

theorem cXA (h : St σ ρ B w0 nt E m w fr a) {x : Operand} {x' : X} (hx : cX ρ x = some x') {y : A} (hy : evA fr x' = some y) : a.eval x = cA σ E y ∧ y.ok m.length := by
  have := cX_ok h hx
  rw [toA_some hy] at this
  exact this
theorem cXU (h : St σ ρ B w0 nt E m w fr a) {x : Operand} {x' : X} (hx : cX ρ x = some x') {y : U} (hy : evU fr x' = some y) : a.eval x = cU σ E y ∧ y.ok m.length := by
  have := cX_ok h hx
  rw [toU_some hy] at this
  exact this

theorem cXs_ok (h : St σ ρ B w0 nt E m w fr a) : ∀ {xs : List Operand} {xs' : List X}, cXs ρ xs = some xs' →
    xs.map a.eval = (xs'.map (ev fr)).map (cV σ E) ∧ ∀ v ∈ xs'.map (ev fr), V.ok m.length v
  | [], xs', hx => by cases hx; simp
  | x :: r, xs', hx => by
    simp only [cXs] at hx
    split at hx
    case h_2 => cases hx
    rename_i y l hy hl
    cases hx
    obtain ⟨h1, h2⟩ := cX_ok h hy
    obtain ⟨h3, h4⟩ := cXs_ok h hl
    refine ⟨by simp [h1, h3], fun v hv => ?_⟩
    simp only [List.map_cons, List.mem_cons] at hv
    rcases hv with rfl | hv
    · exact h2
    · exact h4 v hv

/-- What an operation of the interpreter says of the model's run. -/
def Done (σ : Nat → Nat) (B : Nat) (w0 : World) (E : Emb) (m : Mem) (v : V) (m' : Mem) (r : Result Next) : Prop :=
  ∃ E' w', Agree m.length E E' ∧ m.length ≤ m'.length ∧ Sim σ B w0 E' m' w' ∧ v.ok m'.length ∧ (r = .ok (.value (cV σ E' v)) w' ∨ (r = .ok .skip w' ∧ v = .z))

theorem Done.same (h : Sim σ B w0 E m w) {v : V} (hv : v.ok m.length) {r : Result Next} (hr : r = .ok (.value (cV σ E v)) w) : Done σ B w0 E m v m r :=
  ⟨E, w, Agree.refl _ _, Nat.le_refl _, h, hv, .inl hr⟩

/-! ### Numbers, bools, strings -/
theorem toList_mk (s : List UInt8) : (⟨s.toArray⟩ : ByteArray).toList = s := by
  simp

theorem ba_ext {a b : ByteArray} (h : a.data = b.data) : a = b := by cases a; cases b; simp_all
theorem ba_size (s : List UInt8) : (⟨s.toArray⟩ : ByteArray).size = s.length := by show s.toArray.size = _; simp
theorem ba_append (s t : List UInt8) : (⟨s.toArray⟩ : ByteArray) ++ ⟨t.toArray⟩ = ⟨(s ++ t).toArray⟩ := ba_ext (by rw [ByteArray.data_append]; simp)
theorem ba_extract (s : List UInt8) (i j : Nat) : (⟨s.toArray⟩ : ByteArray).extract i j = ⟨((s.take j).drop i).toArray⟩ := ba_ext (by rw [ByteArray.data_extract]; simp [List.extract_eq_take_drop, List.drop_take])

theorem less_eq : ∀ (x y : List UInt8), Op.bytesLess x y = bytesLt x y
  | [], [] => rfl
  | [], _ :: _ => rfl
  | _ :: _, [] => rfl
  | a :: x, b :: y => by simp only [Op.bytesLess, bytesLt, less_eq x y]

end Go.AL
