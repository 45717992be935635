/-
  Operands and operations that leave memory alone, or read it: the interpreter's answer is the model's.
-/
import Derived.Test.YtaamjlckaakenaaAlCore
import Derived.Laws.Entries
import Derived.Calls
import Derived.Laws.Strings
import Derived.Laws.BytesString
import Derived.Lib.ConvBytes
import Derived.Laws.AppendOwn
import Derived.IntWalk
namespace Go.AL
set_option linter.unusedSimpArgs false
set_option linter.unusedVariables false
open Go.RowKit

variable {σ : Nat → Nat} {B : Nat} {w0 : World} {E : Emb} {m : Mem} {w : World} {P : Program} {ρ : Nat → Option Nat} {nt : Nat} {fr : Fr} {a : Act}

theorem run_size {t : TypeId} {n : Nat} (h : szT P t = some n) (w : World) : (sizeOf t).run P w = .ok n w := by
  unfold szT at h
  obtain ⟨i, hi, rfl⟩ := Option.map_eq_some_iff.1 h
  simp [sizeOf, typeInfo, hi]
theorem run_info {t : TypeId} {i : TypeInfo} (h : P.info? t = some i) (w : World) : (typeInfo t).run P w = .ok i w := by
  simp [typeInfo, h]
theorem run_bytes {t : TypeId} {n : Nat} (h : bytesT P t = some n) (w : World) : ∃ i, (typeInfo t).run P w = .ok i w ∧ i.bytes = n := by
  unfold bytesT at h
  obtain ⟨i, hi, rfl⟩ := Option.map_eq_some_iff.1 h
  exact ⟨i, run_info hi w, rfl⟩
theorem run_agg {t : TypeId} {g : Bool} (h : aggT P t = some g) (w : World) : (isAgg t).run P w = .ok g w := by
  unfold aggT at h
  cases hu : P.underlying t with
  | none => rw [hu] at h; cases h
  | some d =>
    rw [hu] at h
    simp only [isAgg, Sem.run_bind, run_underlying hu, Result.andThen_ok]
    cases d <;> simp_all

theorem bytes_eta (s : ByteArray) : (⟨s.data.toList.toArray⟩ : ByteArray) = s := by cases s; simp

theorem cAtom_ok {v : Value} {x : A} (h : cAtom v = some x) (σ : Nat → Nat) (E : Emb) (n : Nat) : cA σ E x = v ∧ x.ok n := by
  unfold cAtom at h
  split at h <;> cases h <;> simp [cA, A.ok]

theorem cAtoms_ok : ∀ {l : List Value} {xs : List A}, cAtoms l = some xs → ∀ (σ : Nat → Nat) (E : Emb) (n : Nat), xs.map (cA σ E) = l ∧ ∀ x ∈ xs, A.ok n x
  | [], xs, h, σ, E, n => by cases h; simp
  | v :: r, xs, h, σ, E, n => by
    simp only [cAtoms] at h
    split at h
    case h_2 => cases h
    rename_i x l hx hl
    cases h
    obtain ⟨h1, h2⟩ := cAtom_ok hx σ E n
    obtain ⟨h3, h4⟩ := cAtoms_ok hl σ E n
    refine ⟨by simp [h1, h3], fun y hy => ?_⟩
    rcases List.mem_cons.1 hy with rfl | hy
    · exact h2
    · exact h4 y hy

theorem cConst_ok {v : Value} {x : V} (h : cConst v = some x) (σ : Nat → Nat) (E : Emb) (n : Nat) : cV σ E x = v ∧ x.ok n := by
  unfold cConst at h
  split at h
  · obtain ⟨l, hl, rfl⟩ := Option.map_eq_some_iff.1 h
    obtain ⟨h1, h2⟩ := cAtoms_ok hl σ E n
    exact ⟨by simp [cV, cU, h1], h2⟩
  · obtain ⟨l, hl, rfl⟩ := Option.map_eq_some_iff.1 h
    exact cAtom_ok hl σ E n

theorem zeroT_ok {t : TypeId} {z : List A} (h : zeroT P t = some z) (σ : Nat → Nat) (E : Emb) (n : Nat) :
    ∃ v, (∀ w, (zeroValue t).run P w = .ok v w) ∧ v.cells = (z.map (cA σ E)).toArray ∧ ∀ x ∈ z, A.ok n x := by
  unfold zeroT at h
  split at h
  case h_2 => cases h
  rename_i i hi
  split at h
  case h_2 => cases h
  rename_i v hv
  obtain ⟨h1, h2⟩ := cAtoms_ok h σ E n
  exact ⟨v, fun w => by simp [zeroValue, run_info hi, hv], by rw [h1], h2⟩

def FnMap (σ : Nat → Nat) (ρ : Nat → Option Nat) : Prop := ∀ f g, ρ f = some g → σ g = f

structure St (σ : Nat → Nat) (ρ : Nat → Option Nat) (B : Nat) (w0 : World) (nt : Nat) (E : Emb) (m : Mem) (w : World) (fr : Fr) (a : Act) : Prop where
  fm : FnMap σ ρ
  sim : Sim σ B w0 E m w
  fr : FR σ E m.length nt fr a.tmps
  df : a.defers = []

theorem cX_ok (h : St σ ρ B w0 nt E m w fr a) {x : Operand} {x' : X} (hx : cX ρ x = some x') : a.eval x = cV σ E (ev fr x') ∧ (ev fr x').ok m.length := by
  cases x with
  | tmp t => cases hx; exact ⟨h.fr.val t, h.fr.ok t⟩
  | const v =>
    obtain ⟨y, hy, rfl⟩ := Option.map_eq_some_iff.1 hx
    obtain ⟨h1, h2⟩ := cConst_ok hy σ E m.length
    exact ⟨h1.symm, h2⟩
  | func f =>
    obtain ⟨g, hg, rfl⟩ := Option.map_eq_some_iff.1 hx
    refine ⟨?_, ?_⟩
    · simp [Act.eval, ev, cV, cU, cA, h.fm f g hg]
    · intro p hp; cases hp
  | global g => cases hx

theorem toA_some {v : V} {x : A} (h : v.toA = some x) : v = .u (.a x) := by
  cases v with
  | u y => cases y with
    | a z => simp [V.toA] at h; rw [h]
    | g cs => simp [V.toA] at h
  | _ => simp [V.toA] at h
theorem toU_some {v : V} {x : U} (h : v.toU = some x) : v = .u x := by
  cases v with
  | u y => simp [V.toU] at h; rw [h]
  | _ => simp [V.toU] at h

theorem cXA (h : St σ ρ B w0 nt E m w fr a) {x : Operand} {x' : X} (hx : cX ρ x = some x') {y : A} (hy : evA fr x' = some y) : a.eval x = cA σ E y ∧ y.ok m.length := by
  have := cX_ok h hx
  rw [toA_some hy] at this
  exact this
theorem cXU (h : St σ ρ B w0 nt E m w fr a) {x : Operand} {x' : X} (hx : cX ρ x = some x') {y : U} (hy : evU fr x' = some y) : a.eval x = cU σ E y ∧ y.ok m.length := by
  have := cX_ok h hx
  rw [toU_some hy] at this
  exact this

theorem cXs_ok (h : St σ ρ B w0 nt E m w fr a) : ∀ {xs : List Operand} {xs' : List X}, cXs ρ xs = some xs' →
    xs.map a.eval = (xs'.map (ev fr)).map (cV σ E) ∧ ∀ v ∈ xs'.map (ev fr), V.ok m.length v
  | [], xs', hx => by cases hx; simp
  | x :: r, xs', hx => by
    simp only [cXs] at hx
    split at hx
    case h_2 => cases hx
    rename_i y l hy hl
    cases hx
    obtain ⟨h1, h2⟩ := cX_ok h hy
    obtain ⟨h3, h4⟩ := cXs_ok h hl
    refine ⟨by simp [h1, h3], fun v hv => ?_⟩
    simp only [List.map_cons, List.mem_cons] at hv
    rcases hv with rfl | hv
    · exact h2
    · exact h4 v hv

/-- What an operation of the interpreter says of the model's run. -/
def Done (σ : Nat → Nat) (B : Nat) (w0 : World) (E : Emb) (m : Mem) (v : V) (m' : Mem) (r : Result Next) : Prop :=
  ∃ E' w', Agree m.length E E' ∧ m.length ≤ m'.length ∧ Sim σ B w0 E' m' w' ∧ v.ok m'.length ∧ (r = .ok (.value (cV σ E' v)) w' ∨ (r = .ok .skip w' ∧ v = .z))

theorem Done.same (h : Sim σ B w0 E m w) {v : V} (hv : v.ok m.length) {r : Result Next} (hr : r = .ok (.value (cV σ E v)) w) : Done σ B w0 E m v m r :=
  ⟨E, w, Agree.refl _ _, Nat.le_refl _, h, hv, .inl hr⟩

/-! ### Numbers, bools, strings -/
theorem toList_mk (s : List UInt8) : (⟨s.toArray⟩ : ByteArray).toList = s := by
  simp

theorem ba_ext {a b : ByteArray} (h : a.data = b.data) : a = b := by cases a; cases b; simp_all
theorem ba_size (s : List UInt8) : (⟨s.toArray⟩ : ByteArray).size = s.length := by show s.toArray.size = _; simp
theorem ba_append (s t : List UInt8) : (⟨s.toArray⟩ : ByteArray) ++ ⟨t.toArray⟩ = ⟨(s ++ t).toArray⟩ := ba_ext (by rw [ByteArray.data_append]; simp)
theorem ba_extract (s : List UInt8) (i j : Nat) : (⟨s.toArray⟩ : ByteArray).extract i j = ⟨((s.take j).drop i).toArray⟩ := ba_ext (by rw [ByteArray.data_extract]; simp [List.extract_eq_take_drop, List.drop_take])

theorem less_eq : ∀ (x y : List UInt8), Op.bytesLess x y = bytesLt x y
  | [], [] => rfl
  | [], _ :: _ => rfl
  | _ :: _, [] => rfl
  | a :: x, b :: y => by simp only [Op.bytesLess, bytesLt, less_eq x y]

end Go.AL
/-
  Operations one by one: values.
-/
namespace Go.AL
set_option linter.unusedSimpArgs false
set_option linter.unusedVariables false
open Go.RowKit

variable {σ : Nat → Nat} {B : Nat} {w0 : World} {E : Emb} {m m' : Mem} {w : World} {P : Program} {ρ : Nat → Option Nat} {nt : Nat} {fr : Fr} {a : Act} {call : CallE} {v : V} {o : Oper}

theorem op_mov (h : St σ ρ B w0 nt E m w fr a) {x : Operand} {x' : X} (hx : cX ρ x = some x') (ho : o.op = .move x ∨ o.op = .assign x)
    (he : opE call fr m (.mov x') = some (v, m')) : Done σ B w0 E m v m' ((execOp a.eval o).run P w) := by
  simp only [opE] at he
  cases he
  obtain ⟨h1, h2⟩ := cX_ok h hx
  refine Done.same h.sim h2 ?_
  rcases ho with ho | ho <;> simp [execOp, ho, h1]

theorem op_pick (h : St σ ρ B w0 nt E m w fr a) {c x y : Operand} {c' x' y' : X} (hc : cX ρ c = some c') (hx : cX ρ x = some x') (hy : cX ρ y = some y') (ho : o.op = .pick c x y)
    (he : opE call fr m (.pick c' x' y') = some (v, m')) : Done σ B w0 E m v m' ((execOp a.eval o).run P w) := by
  simp only [opE] at he
  split at he
  case h_2 => cases he
  rename_i t ht
  cases he
  obtain ⟨h1, -⟩ := cXA h hc ht
  obtain ⟨h2, h3⟩ := cX_ok h hx
  obtain ⟨h4, h5⟩ := cX_ok h hy
  refine Done.same h.sim ?_ ?_
  · cases t <;> simp [h3, h5]
  · cases t <;> simp [execOp, ho, h1, cA, asBool, h2, h4]

theorem op_ext (h : St σ ρ B w0 nt E m w fr a) {x : Operand} {x' : X} {i : Nat} (hx : cX ρ x = some x') (ho : o.op = .extract x i)
    (he : opE call fr m (.ext x' i) = some (v, m')) : Done σ B w0 E m v m' ((execOp a.eval o).run P w) := by
  simp only [opE] at he
  split at he
  case h_2 => cases he
  rename_i vs hv
  obtain ⟨u, hu, he⟩ := Option.map_eq_some_iff.1 he
  cases he
  obtain ⟨h1, h2⟩ := cX_ok h hx
  rw [hv] at h1 h2
  refine Done.same h.sim ?_ ?_
  · exact h2 u (List.mem_of_getElem? hu)
  simp [execOp, ho, h1, cV, Instr.extract, hu]

theorem op_not (h : St σ ρ B w0 nt E m w fr a) {x : Operand} {x' : X} {t : TypeId} (hx : cX ρ x = some x') (ho : o.op = .unOp .not t x)
    (he : opE call fr m (.not x') = some (v, m')) : Done σ B w0 E m v m' ((execOp a.eval o).run P w) := by
  simp only [opE] at he
  split at he
  case h_2 => cases he
  rename_i b hb
  cases he
  obtain ⟨h1, -⟩ := cXA h hx hb
  refine Done.same h.sim ?_ ?_
  · trivial
  simp [execOp, ho, h1, cA, cV, cU, Op.unary]

theorem op_neg (h : St σ ρ B w0 nt E m w fr a) {x : Operand} {x' : X} {t : TypeId} (hx : cX ρ x = some x') (ho : o.op = .unOp .neg t x)
    (he : opE call fr m (.neg x') = some (v, m')) : Done σ B w0 E m v m' ((execOp a.eval o).run P w) := by
  simp only [opE] at he
  split at he
  case h_2 => cases he
  rename_i k n hb
  cases he
  obtain ⟨h1, -⟩ := cXA h hx hb
  refine Done.same h.sim ?_ ?_
  · trivial
  simp [execOp, ho, h1, cA, cV, cU, Op.unary, Op.intArith]

theorem equal_bool {t : TypeId} (h : P.underlying t = some .bool) (x y : Bool) (w : World) : (Op.equal t (.bool x) (.bool y)).run P w = .ok (x == y) w := by
  have key : ∀ d, (Op.equalIn (d + 1) t (.bool x) (.bool y)).run P w = .ok (x == y) w := fun d => by
    simp [Op.equalIn, run_underlying h]
  exact key 9999

theorem op_bin (h : St σ ρ B w0 nt E m w fr a) {x y : Operand} {x' y' : X} {op : BinOp} {t t' : TypeId} (hx : cX ρ x = some x') (hy : cX ρ y = some y')
    (hop : intBin op = true) (ho : o.op = .binOp op t x y t') (he : opE call fr m (.bin op x' y') = some (v, m')) : Done σ B w0 E m v m' ((execOp a.eval o).run P w) := by
  simp only [opE] at he
  split at he
  case h_2 => cases he
  rename_i p q hp hq
  obtain ⟨r, hr, he⟩ := Option.map_eq_some_iff.1 he
  cases he
  obtain ⟨h1, -⟩ := cXA h hx hp
  obtain ⟨h2, -⟩ := cXA h hy hq
  unfold binA at hr
  split at hr
  · rename_i k b k' b'
    split at hr
    · cases hr
    · rename_i hk
      have hk : k = k' := by simpa using hk
      subst hk
      refine Done.same h.sim ?_ ?_
      · cases op <;> simp [intBin] at hop <;> simp at hr <;> first | (subst hr; trivial) | (obtain ⟨_, rfl⟩ := hr; trivial)
      · cases op <;> simp [intBin] at hop <;> simp at hr <;>
          first
            | (subst hr; simp [execOp, ho, h1, h2, cA, cV, cU, Op.intArith, Op.intCmp, binOp, eqGuard])
            | (obtain ⟨hb, rfl⟩ := hr; simp [execOp, ho, h1, h2, cA, cV, cU, Op.intDiv, binOp, eqGuard, hb])
  · rename_i s s'
    refine Done.same h.sim ?_ ?_
    · cases op <;> simp [intBin] at hop <;> simp at hr <;> first | (subst hr; trivial) | (obtain ⟨_, rfl⟩ := hr; trivial)
    · cases op <;> simp [intBin] at hop <;> simp at hr <;>
        first
          | (subst hr; simp [execOp, ho, h1, h2, cA, cV, cU, Op.stringOp, binOp, eqGuard, less_eq]; done)
          | (obtain ⟨hb, rfl⟩ := hr
             have hlt : ¬ ((9223372036854775807 : Int) < (s.length : Int) + (s'.length : Int)) := by omega
             simp [execOp, ho, h1, h2, cA, cV, cU, Op.stringOp, binOp, eqGuard, ba_append, ba_size, hlt])
  · cases hr

theorem op_beq (h : St σ ρ B w0 nt E m w fr a) {x y : Operand} {x' y' : X} {t t' : TypeId} (hx : cX ρ x = some x') (hy : cX ρ y = some y') (hd : P.underlying t = some .bool)
    {n : Bool} (ho : o.op = .binOp (if n then .neq else .eql) t x y t') (he : opE call fr m (.beq n x' y') = some (v, m')) : Done σ B w0 E m v m' ((execOp a.eval o).run P w) := by
  simp only [opE] at he
  split at he
  case h_2 => cases he
  rename_i p q hp hq
  cases he
  obtain ⟨h1, -⟩ := cXA h hx hp
  obtain ⟨h2, -⟩ := cXA h hy hq
  refine Done.same h.sim ?_ ?_
  · trivial
  cases n <;> simp [execOp, ho, h1, h2, cA, cV, cU, binOp, eqGuard, equal_bool hd]

theorem op_cvt (h : St σ ρ B w0 nt E m w fr a) {x : Operand} {x' : X} {s t : TypeId} {k k0 : IntKind} (hx : cX ρ x = some x') (hs : P.underlying s = some (.int k0)) (ht : P.underlying t = some (.int k))
    (ho : o.op = .convert s t x) (he : opE call fr m (.cvt k x') = some (v, m')) : Done σ B w0 E m v m' ((execOp a.eval o).run P w) := by
  simp only [opE] at he
  split at he
  case h_2 => cases he
  rename_i k1 n hb
  cases he
  obtain ⟨h1, -⟩ := cXA h hx hb
  refine Done.same h.sim ?_ ?_
  · trivial
  simp [execOp, ho, h1, cA, cV, cU, convert, run_underlying hs, run_underlying ht, Conv.intToInt]

theorem call_builtin {b : Builtin} {c : Call} (hc : c.callee = .builtin b) (ho : o.op = .call c) :
    execOp a.eval o = builtin b c.argTypes o.type (c.args.map fun | .const _ => true | _ => false) (c.args.map a.eval) := by
  simp only [execOp, ho, resolve, hc]
  rfl

theorem op_lens (h : St σ ρ B w0 nt E m w fr a) {x : Operand} {x' : X} {t : TypeId} {c : Call} (hx : cX ρ x = some x') (hc : c.callee = .builtin .len) (hargs : c.args = #[x]) (hts : c.argTypes = #[t])
    (ht : P.underlying t = some .string) (ho : o.op = .call c) (he : opE call fr m (.lens x') = some (v, m')) : Done σ B w0 E m v m' ((execOp a.eval o).run P w) := by
  simp only [opE] at he
  split at he
  case h_2 => cases he
  rename_i s hs
  cases he
  obtain ⟨h1, -⟩ := cXA h hx hs
  refine Done.same h.sim ?_ ?_
  · trivial
  rw [call_builtin hc ho]
  simp [hargs, hts, builtin, Builtin.len_, run_underlying ht, h1, cA, cV, cU, goInt, ba_size]

theorem op_len (h : St σ ρ B w0 nt E m w fr a) {x : Operand} {x' : X} {t e : TypeId} {c : Call} (hx : cX ρ x = some x') (hc : c.callee = .builtin .len) (hargs : c.args = #[x]) (hts : c.argTypes = #[t])
    (ht : P.underlying t = some (.slice e)) (ho : o.op = .call c) (he : opE call fr m (.len x') = some (v, m')) : Done σ B w0 E m v m' ((execOp a.eval o).run P w) := by
  simp only [opE] at he
  split at he
  case h_4 => cases he
  all_goals
    rename_i hs
    cases he
    obtain ⟨h1, -⟩ := cXA h hx hs
    refine Done.same h.sim ?_ ?_
    · trivial
    rw [call_builtin hc ho]
    simp [hargs, hts, builtin, Builtin.len_, run_underlying ht, h1, cA, cV, cU, goInt]

end Go.AL
/-
  Operations one by one: memory made, read, written; addresses.
-/
namespace Go.AL
set_option linter.unusedSimpArgs false
set_option linter.unusedVariables false
open Go.RowKit

variable {σ : Nat → Nat} {B : Nat} {w0 : World} {E : Emb} {m m' : Mem} {w : World} {P : Program} {ρ : Nat → Option Nat} {nt : Nat} {fr : Fr} {a : Act} {call : CallE} {v : V} {o : Oper}

theorem done_ptr (h : Sim σ B w0 E m w) (arr : Array Value) (elem : TypeId) (cs : List A) (hcs : arr = (cs.map (cA σ E)).toArray) (hok : ∀ x ∈ cs, A.ok m.length x) :
    Done σ B w0 E m (.a (.ptr m.length 0)) (m ++ [.cells true cs]) (.ok (.value (.pointer (some ⟨w.heap.size, 0, none⟩))) { w with heap := w.heap.push (.cells arr elem) }) := by
  refine ⟨_, _, E.up_agree _ _, by simp, h.new arr elem cs arr.size 0 (Nat.le_refl _) (by subst hcs; simp) (fun j x hx => by subst hcs; simp [hx]) hok, ?_, .inl ?_⟩
  · show m.length < _; simp
  · simp only [cV, cU, cA, at_, Emb.up_same]; rfl

theorem done_slice (h : Sim σ B w0 E m w) (arr : Array Value) (elem : TypeId) (cs : List A) (tot len cap : Nat) (c : Cap) (htot : tot ≤ arr.size) (hle : cs.length ≤ tot)
    (hcs : ∀ (j : Nat) (x : A), cs[j]? = some x → arr[j]? = some (cA σ E x)) (hok : ∀ x ∈ cs, A.ok m.length x) (hc : (match c with | .ex n => n | .rest s => (tot - 0) / s) = cap) :
    Done σ B w0 E m (.a (.sl m.length 0 len c)) (m ++ [.cells true cs]) (.ok (.value (.slice (some ⟨w.heap.size, 0, none⟩) len cap)) { w with heap := w.heap.push (.cells arr elem) }) := by
  refine ⟨_, _, E.up_agree _ _, by simp, h.new arr elem cs tot 0 htot hle hcs hok, ?_, .inl ?_⟩
  · show m.length < _; simp
  · simp only [cV, cU, cA, at_, Emb.up_same]; subst hc; cases c <;> rfl

theorem op_alloc (h : St σ ρ B w0 nt E m w fr a) {t : TypeId} {z : List A} (hz : zeroT P t = some z) (ho : o.op = .alloc t)
    (he : opE call fr m (.alloc z) = some (v, m')) : Done σ B w0 E m v m' ((execOp a.eval o).run P w) := by
  simp only [opE] at he
  cases he
  obtain ⟨u, h1, h2, h3⟩ := zeroT_ok hz σ E m.length
  have := done_ptr h.sim u.cells t z h2 h3
  simpa [execOp, ho, Instr.alloc, h1, newVar, newRow] using this

theorem op_box (h : St σ ρ B w0 nt E m w fr a) {t : TypeId} {x : Operand} {x' : X} (hx : cX ρ x = some x') (ho : o.op = .box t x)
    (he : opE call fr m (.box x') = some (v, m')) : Done σ B w0 E m v m' ((execOp a.eval o).run P w) := by
  simp only [opE] at he
  split at he
  case h_2 => cases he
  rename_i y hy
  cases he
  obtain ⟨h1, h2⟩ := cXU h hx hy
  have := done_ptr h.sim (a.eval x).cells t y.cells (by rw [h1]; exact cU_cells σ E y) (U.cells_ok h2)
  simpa [execOp, ho, Instr.box, newVar, newRow] using this

theorem zip_spl (off : Nat) : ∀ (l : List Value) (k : Nat) (arr : Array Value), (l.zipIdx k).foldl (fun cs (c, j) => cs.setIfInBounds (off + j) c) arr = spl arr (off + k) l
  | [], _, _ => rfl
  | v :: r, k, arr => by
    simp only [List.zipIdx_cons, List.foldl_cons, spl]
    rw [zip_spl off r (k + 1), Nat.add_assoc]

theorem spl_map (f : A → Value) : ∀ (xs cs : List A) (o : Nat), spl (cs.map f).toArray o (xs.map f) = ((splice cs o xs).map f).toArray
  | [], _, _ => rfl
  | x :: r, cs, o => by
    simp only [List.map_cons, spl, splice]
    rw [show ((cs.map f).toArray.setIfInBounds o (f x)) = ((cs.set o x).map f).toArray by simp [List.map_set]]
    exact spl_map f r _ _

theorem fill_ok (h : St σ ρ B w0 nt E m w fr a) (place : Nat → Option (Nat × Nat)) : ∀ {ps : List (Nat × Operand)} {ps' : List (Nat × Nat × X)} {cs cs' : List A},
    cParts ρ place ps = some ps' → fillE fr cs ps' = some cs' → (∀ x ∈ cs, A.ok m.length x) →
    Instr.fill place (cs.map (cA σ E)).toArray (ps.map fun (i, x) => (i, a.eval x)) = some (cs'.map (cA σ E)).toArray ∧ ∀ x ∈ cs', A.ok m.length x
  | [], ps', cs, cs', hp, hf, hok => by
    cases hp
    simp only [fillE] at hf
    cases hf
    exact ⟨rfl, hok⟩
  | (i, x) :: r, ps', cs, cs', hp, hf, hok => by
    simp only [cParts] at hp
    split at hp
    case h_2 => cases hp
    rename_i off n y l hpl hy hl
    cases hp
    simp only [fillE] at hf
    split at hf
    case h_2 => cases hf
    rename_i u hu
    split at hf
    case isFalse => cases hf
    rename_i hc
    obtain ⟨h1, h2⟩ := cXU h hy hu
    have hok' : ∀ x ∈ splice cs off u.cells, A.ok m.length x := fun x hx => by
      rcases splice_mem _ _ _ _ hx with h | h
      · exact hok x h
      · exact U.cells_ok h2 x h
    obtain ⟨h3, h4⟩ := fill_ok h place hl hf hok'
    refine ⟨?_, h4⟩
    have hcells : (a.eval x).cells = (u.cells.map (cA σ E)).toArray := by rw [h1]; exact cU_cells σ E u
    simp only [List.map_cons, Instr.fill, hpl, hcells]
    rw [if_neg (by simp; omega), ← h3]
    congr 1
    rw [← Array.foldl_toList, Array.toList_zipIdx, zip_spl off, Nat.add_zero]
    exact spl_map _ _ _ _

theorem range_flat (z : List A) (f : A → Value) (n : Nat) (hz : z ≠ []) :
    (Array.range (n * z.length)).map (fun x => (z.map f).toArray[x % (z.map f).toArray.size]!) = (((List.replicate n z).flatten).map f).toArray := by
  apply Array.ext'
  simp only [Array.toList_map, Array.toList_range]
  apply List.ext_getElem?
  intro j
  have hpos : 0 < z.length := List.length_pos_iff.2 hz
  have hlen : ((List.replicate n z).flatten).length = n * z.length := by simp
  rw [List.getElem?_map, List.getElem?_map]
  by_cases hj : j < n * z.length
  · have hmod : j % z.length < z.length := Nat.mod_lt _ hpos
    have key : ∀ (n j : Nat), j < n * z.length → ((List.replicate n z).flatten)[j]? = z[j % z.length]? := by
      intro n
      induction n with
      | zero => intro j hj; simp at hj
      | succ n ih =>
        intro j hj
        rw [List.replicate_succ, List.flatten_cons]
        by_cases h1 : j < z.length
        · rw [List.getElem?_append_left h1, Nat.mod_eq_of_lt h1]
        · rw [List.getElem?_append_right (by omega), ih _ (by rw [Nat.succ_mul] at hj; omega)]
          congr 1
          rw [Nat.mod_eq_sub_mod (a := j) (by omega)]
    rw [key n j hj]
    simp [hj, hmod]
  · rw [List.getElem?_eq_none (by simp; omega), List.getElem?_eq_none (by rw [hlen]; omega)]
    rfl

theorem op_lit (h : St σ ρ B w0 nt E m w fr a) {t e : TypeId} {n s : Nat} {z : List A} {ps : Array (Nat × Operand)} {ps' : List (Nat × Nat × X)} (ht : P.underlying t = some (.slice e)) (hs : szT P e = some s)
    (hz : zeroT P e = some z) (hs0 : s ≠ 0) (hzs : z.length = s) (hn : n * s ≤ 2 ^ 24) (hp : cParts ρ (fun i => some (i * s, s)) ps.toList = some ps') (ho : o.op = .buildSlice t n ps)
    (he : opE call fr m (.lit z n ps') = some (v, m')) : Done σ B w0 E m v m' ((execOp a.eval o).run P w) := by
  simp only [opE] at he
  split at he
  case h_2 => cases he
  rename_i cs hcs
  cases he
  obtain ⟨u, h1, h2, h3⟩ := zeroT_ok hz σ E m.length
  obtain ⟨h4, h5⟩ := fill_ok h _ hp hcs (fun x hx => by
    obtain ⟨l, hl, hx⟩ := List.mem_flatten.1 hx
    rw [(List.mem_replicate.1 hl).2] at hx; exact h3 x hx)
  have hmap : (ps.map fun (i, x) => (i, a.eval x)).toList = ps.toList.map fun (i, x) => (i, a.eval x) := by simp
  have hcells : (Instr.fill (fun i => some (i * s, s)) ((Array.range (n * s)).map fun x => (if n * s = 0 then (#[] : Array Value) else u.cells)[x % (if n * s = 0 then (#[] : Array Value) else u.cells).size]!) (ps.map fun (i, x) => (i, a.eval x)).toList) = some (cs.map (cA σ E)).toArray := by
    rw [hmap, ← h4]
    congr 1
    by_cases h0 : n * s = 0
    · have : n = 0 := by rcases Nat.mul_eq_zero.1 h0 with h | h <;> omega
      subst this; simp
    · rw [if_neg h0, h2, ← hzs]
      exact range_flat z (cA σ E) n (by intro h; subst h; simp at hzs; omega)
  have hlen : cs.length = ((cs.map (cA σ E)).toArray).size := by simp
  have := done_slice h.sim (cs.map (cA σ E)).toArray e cs cs.length n n (.ex n) (by simp) (Nat.le_refl _) (fun j x hx => by simp [hx]) h5 rfl
  refine Eq.mp ?_ this
  congr 1
  have hno : ¬ 2 ^ 24 < n * s := by omega
  simp only [execOp, ho, Sem.run_bind, Instr.buildSlice, run_underlying ht, Result.andThen_ok, run_size hs]
  rw [if_neg hno]
  by_cases h0 : n * s = 0
  · rw [if_pos h0] at hcells
    rw [if_pos h0]
    simp only [Sem.run_bind, Sem.run_pure, Result.andThen_ok]
    rw [hcells]
    simp [newRow]
  · rw [if_neg h0] at hcells
    rw [if_neg h0]
    simp only [Sem.run_bind, Sem.run_pure, Result.andThen_ok, h1]
    rw [hcells]
    simp [newRow]

end Go.AL
/-
  Operations one by one: loads, stores, addresses, conversions.
-/
namespace Go.AL
set_option linter.unusedSimpArgs false
set_option linter.unusedVariables false
open Go.RowKit

variable {σ : Nat → Nat} {B : Nat} {w0 : World} {E : Emb} {m m' : Mem} {w : World} {P : Program} {ρ : Nat → Option Nat} {nt : Nat} {fr : Fr} {a : Act} {call : CallE} {v : V} {o : Oper}

theorem op_load (h : St σ ρ B w0 nt E m w fr a) {t : TypeId} {x : Operand} {x' : X} {g : Bool} {n : Nat} (hg : aggT P t = some g) (hn : g = true → szT P t = some n) (hn1 : g = false → n = 1) (hx : cX ρ x = some x')
    (ho : o.op = .load t x) (he : opE call fr m (.load g n x') = some (v, m')) : Done σ B w0 E m v m' ((execOp a.eval o).run P w) := by
  simp only [opE] at he
  split at he
  case h_2 => cases he
  rename_i b of hp
  split at he
  case h_2 => cases he
  rename_i cs hcs
  obtain ⟨h1, -⟩ := cXA h hx hp
  obtain ⟨h2, h3, h4⟩ := h.sim.rd (P := P) hcs
  cases g with
  | true =>
    simp only [if_true] at he
    cases he
    refine Done.same h.sim ?_ ?_
    · exact h4
    simp [execOp, ho, h1, cA, cV, cU, Instr.loadAt, Instr.sureAddr, loadVar, run_agg hg, run_size (hn rfl), h2]
  | false =>
    simp only [Bool.false_eq_true, if_false] at he
    obtain rfl := hn1 rfl
    split at he
    case h_2 => cases he
    cases he
    obtain ⟨h5, h6⟩ := h.sim.rd_one hcs
    refine Done.same h.sim ?_ ?_
    · exact h6
    simp [execOp, ho, h1, cA, cV, cU, Instr.loadAt, Instr.sureAddr, loadVar, run_agg hg, h5]

theorem op_store (h : St σ ρ B w0 nt E m w fr a) {t : TypeId} {x y : Operand} {x' y' : X} {n : Nat} (hn : szT P t = some n) (hx : cX ρ x = some x') (hy : cX ρ y = some y')
    (ho : o.op = .store t x y) (he : opE call fr m (.store n x' y') = some (v, m')) : Done σ B w0 E m v m' ((execOp a.eval o).run P w) := by
  simp only [opE] at he
  split at he
  case h_2 => cases he
  rename_i b of u hp hu
  split at he
  case isFalse => cases he
  rename_i hlen
  split at he
  case h_2 => cases he
  rename_i m2 hw
  cases he
  obtain ⟨h1, -⟩ := cXA h hx hp
  obtain ⟨h2, h3⟩ := cXU h hy hu
  obtain ⟨w', h4, h5, h6⟩ := h.sim.wr (P := P) hw (U.cells_ok h3)
  refine ⟨E, w', Agree.refl _ _, by omega, h5, trivial, .inr ⟨?_, rfl⟩⟩
  have hc := cU_cells σ E u
  simp only [execOp, ho, h1, h2, cA, Sem.run_bind, Instr.storeAt, Instr.sureAddr, Sem.run_pure, Result.andThen_ok, storeVar, run_size hn, hc]
  rw [if_neg (by simp [hlen])]
  rw [h4]
  rfl

theorem op_nilc (h : St σ ρ B w0 nt E m w fr a) {x : Operand} {x' : X} (hx : cX ρ x = some x') (ho : o.op = .nilCheck x)
    (he : opE call fr m (.nilc x') = some (v, m')) : Done σ B w0 E m v m' ((execOp a.eval o).run P w) := by
  simp only [opE] at he
  split at he
  case h_3 => cases he
  all_goals
    rename_i hp
    cases he
    obtain ⟨h1, h2⟩ := cXA h hx hp
    refine Done.same h.sim ?_ ?_
    · exact h2
    simp [execOp, ho, h1, cA, cV, cU]

theorem op_fadr (h : St σ ρ B w0 nt E m w fr a) {t : TypeId} {fs : Array Field} {f : Nat} {fd : Field} {n : Nat} {x : Operand} {x' : X} (ht : P.underlying t = some (.struct fs)) (hf : fs[f]? = some fd)
    (hn : szT P fd.type = some n) (hn0 : n ≠ 0) (hx : cX ρ x = some x') (ho : o.op = .fieldAddr t x f) (he : opE call fr m (.fadr fd.offset x') = some (v, m')) : Done σ B w0 E m v m' ((execOp a.eval o).run P w) := by
  simp only [opE] at he
  split at he
  case h_2 => cases he
  rename_i b of hp
  cases he
  obtain ⟨h1, h2⟩ := cXA h hx hp
  refine Done.same h.sim ?_ ?_
  · exact h2
  simp [execOp, ho, h1, cA, cV, cU, Instr.fieldAt, run_underlying ht, hf, Instr.sureAddr, fieldPlace, run_size hn, hn0, at_, addr_add, Nat.add_assoc]

theorem part_ok {t : TypeId} {g : Bool} {n off : Nat} {cs : List A} {v : V} {k : Nat} (hg : aggT P t = some g) (hn : szT P t = some n) (hp : AL.part g cs off n = some v) (hok : ∀ x ∈ cs, A.ok k x) (w : World) :
    (Go.part t (cs.map (cA σ E)).toArray off).run P w = .ok (cV σ E v) w ∧ v.ok k := by
  unfold AL.part at hp
  cases g with
  | true =>
    simp only [if_true] at hp
    cases hp
    refine ⟨?_, fun x hx => hok x (List.mem_of_mem_drop (List.mem_of_mem_take hx))⟩
    simp [Go.part, run_agg hg, run_size hn, cV, cU, List.extract_eq_take_drop]
  | false =>
    simp only [Bool.false_eq_true, if_false] at hp
    obtain ⟨x, hx, rfl⟩ := Option.map_eq_some_iff.1 hp
    refine ⟨?_, hok x (List.mem_of_getElem? hx)⟩
    simp [Go.part, run_agg hg, hx, cV, cU]

theorem op_fld (h : St σ ρ B w0 nt E m w fr a) {t : TypeId} {fs : Array Field} {f : Nat} {fd : Field} {n : Nat} {g : Bool} {x : Operand} {x' : X} (ht : P.underlying t = some (.struct fs)) (hf : fs[f]? = some fd)
    (hg : aggT P fd.type = some g) (hn : szT P fd.type = some n) (hx : cX ρ x = some x') (ho : o.op = .field t x f) (he : opE call fr m (.fld g fd.offset n x') = some (v, m')) : Done σ B w0 E m v m' ((execOp a.eval o).run P w) := by
  simp only [opE] at he
  split at he
  case h_2 => cases he
  rename_i cs hv
  obtain ⟨u, hu, he⟩ := Option.map_eq_some_iff.1 he
  cases he
  obtain ⟨h1, h2⟩ := cX_ok h hx
  rw [hv] at h1 h2
  obtain ⟨h3, h4⟩ := part_ok (σ := σ) (E := E) (P := P) hg hn hu h2 w
  refine Done.same h.sim h4 ?_
  simp [execOp, ho, h1, cV, cU, Instr.field, run_underlying ht, hf, asAgg]
  rw [h3]; rfl

theorem op_ia (h : St σ ρ B w0 nt E m w fr a) {t e : TypeId} {s : Nat} {x y : Operand} {x' y' : X} (ht : P.underlying t = some (.slice e)) (hs : szT P e = some s) (hx : cX ρ x = some x') (hy : cX ρ y = some y')
    (ho : o.op = .indexAddr t x y) (he : opE call fr m (.ia s x' y') = some (v, m')) : Done σ B w0 E m v m' ((execOp a.eval o).run P w) := by
  simp only [opE] at he
  split at he
  case h_2 => cases he
  rename_i b of len c k j hp hq
  split at he
  case isFalse => cases he
  rename_i hj
  cases he
  obtain ⟨h1, h2⟩ := cXA h hx hp
  obtain ⟨h3, -⟩ := cXA h hy hq
  refine Done.same h.sim ?_ ?_
  · exact h2
  simp only [execOp, ho, h1, h3, cA, cV, cU, Instr.indexAt, asIntOf, Sem.run_bind, Sem.run_pure, Result.andThen_ok, run_underlying ht]
  rw [if_pos hj]
  simp [run_size hs, at_, addr_add, Nat.add_assoc]

theorem op_iap (h : St σ ρ B w0 nt E m w fr a) {t e : TypeId} {n s : Nat} {x y : Operand} {x' y' : X} (ht : P.underlying t = some (.array n e)) (hs : szT P e = some s) (hx : cX ρ x = some x') (hy : cX ρ y = some y')
    (ho : o.op = .indexAddr t x y) (he : opE call fr m (.iap n s x' y') = some (v, m')) : Done σ B w0 E m v m' ((execOp a.eval o).run P w) := by
  simp only [opE] at he
  split at he
  case h_2 => cases he
  rename_i b of k j hp hq
  split at he
  case isFalse => cases he
  rename_i hj
  cases he
  obtain ⟨h1, h2⟩ := cXA h hx hp
  obtain ⟨h3, -⟩ := cXA h hy hq
  refine Done.same h.sim ?_ ?_
  · exact h2
  simp only [execOp, ho, h1, h3, cA, cV, cU, Instr.indexAt, asIntOf, Instr.sureAddr, Sem.run_bind, Sem.run_pure, Result.andThen_ok, run_underlying ht]
  rw [if_pos hj]
  simp [run_size hs, at_, addr_add, Nat.add_assoc]

theorem op_ixs (h : St σ ρ B w0 nt E m w fr a) {t : TypeId} {x y : Operand} {x' y' : X} (ht : P.underlying t = some .string) (hx : cX ρ x = some x') (hy : cX ρ y = some y')
    (ho : o.op = .index t x y) (he : opE call fr m (.ixs x' y') = some (v, m')) : Done σ B w0 E m v m' ((execOp a.eval o).run P w) := by
  simp only [opE] at he
  split at he
  case h_2 => cases he
  rename_i s k j hp hq
  split at he
  case isFalse => cases he
  rename_i hj
  obtain ⟨c, hc, he⟩ := Option.map_eq_some_iff.1 he
  cases he
  obtain ⟨h1, -⟩ := cXA h hx hp
  obtain ⟨h3, -⟩ := cXA h hy hq
  refine Done.same h.sim ?_ ?_
  · trivial
  have hget : (⟨s.toArray⟩ : ByteArray)[j.toNat]? = some c := by
    obtain ⟨hlt, hcc⟩ := List.getElem?_eq_some_iff.1 hc
    have hsz : j.toNat < (⟨s.toArray⟩ : ByteArray).size := by rw [ba_size]; exact hlt
    rw [getElem?_pos (⟨s.toArray⟩ : ByteArray) j.toNat hsz]
    subst hcc
    rfl
  simp only [execOp, ho, h1, h3, cA, cV, cU, Instr.index, asIntOf, Sem.run_bind, Sem.run_pure, Result.andThen_ok, run_underlying ht]
  rw [if_pos hj, hget]
  rfl

theorem op_ixa (h : St σ ρ B w0 nt E m w fr a) {t e : TypeId} {n s : Nat} {g : Bool} {x y : Operand} {x' y' : X} (ht : P.underlying t = some (.array n e)) (hg : aggT P e = some g) (hs : szT P e = some s) (hx : cX ρ x = some x') (hy : cX ρ y = some y')
    (ho : o.op = .index t x y) (he : opE call fr m (.ixa n s g x' y') = some (v, m')) : Done σ B w0 E m v m' ((execOp a.eval o).run P w) := by
  simp only [opE] at he
  split at he
  case h_2 => cases he
  rename_i cs k j hp hq
  split at he
  case isFalse => cases he
  rename_i hj
  obtain ⟨u, hu, he⟩ := Option.map_eq_some_iff.1 he
  cases he
  obtain ⟨h1, h2⟩ := cX_ok h hx
  rw [hp] at h1 h2
  obtain ⟨h3, -⟩ := cXA h hy hq
  obtain ⟨h4, h5⟩ := part_ok (σ := σ) (E := E) (P := P) hg hs hu h2 w
  refine Done.same h.sim h5 ?_
  simp only [execOp, ho, h1, h3, cA, cV, cU, Instr.index, asIntOf, Sem.run_bind, Sem.run_pure, Result.andThen_ok, run_underlying ht]
  rw [if_pos hj]
  simp only [Sem.run_bind, run_size hs, Result.andThen_ok, h4]
  rfl

theorem op_s2b (h : St σ ρ B w0 nt E m w fr a) {t u e : TypeId} {x : Operand} {x' : X} (ht : P.underlying t = some .string) (hu : P.underlying u = some (.slice e)) (hee : P.underlying e = some (.int .u8)) (hx : cX ρ x = some x')
    (ho : o.op = .convert t u x) (he : opE call fr m (.s2b x') = some (v, m')) : Done σ B w0 E m v m' ((execOp a.eval o).run P w) := by
  simp only [opE] at he
  split at he
  case h_2 => cases he
  rename_i s hs
  cases he
  obtain ⟨h1, -⟩ := cXA h hx hs
  have hrun := Lib.run_convert_string_bytes (P := P) w t u e ⟨s.toArray⟩ ht hu hee
  have hcap : s.length ≤ grownCap w s.length 0 e := grownCap_ge _ _ _ _
  have hcells : Lib.bytesCells w e ⟨s.toArray⟩ = ((u8s s).map (cA σ E)).toArray ++ Array.replicate (grownCap w s.length 0 e - s.length) (.int .u8 0) := by
    unfold Lib.bytesCells u8s
    rw [ba_size]
    simp [Function.comp_def, cA]
  have hsz : (Lib.bytesCells w e ⟨s.toArray⟩).size = grownCap w s.length 0 e := by
    rw [hcells]; simp [u8s]; omega
  have hsim : Sim σ B w0 E m (Lib.bytesWorld w e ⟨s.toArray⟩) := h.sim.ext rfl rfl rfl (by rw [Lib.bytesWorld_size]; omega) (fun k hk => Lib.bytesWorld_at_old w e _ k hk)
  refine ⟨_, _, E.up_agree _ _, by simp, hsim.adopt (blk := w.heap.size) (off := 0) (tot := grownCap w s.length 0 e) (ty := 0) (cs := u8s s) (Lib.bytesWorld_at_new w e _) h.sim.size
    (by omega) (by simp [u8s]; exact hcap) (fun j x hx => ?_) (.inr (by simp only [hsz]; omega)) (fun x hx => ?_) (fun b hb => ?_), ?_, .inl ?_⟩
  · rw [hcells]
    have hlt : j < (u8s s).length := (List.getElem?_eq_some_iff.1 hx).1
    rw [Nat.zero_add, Array.getElem?_append_left (by simpa using hlt)]
    simp [hx]
  · obtain ⟨c, _, rfl⟩ := List.mem_map.1 hx; trivial
  · have := h.sim.own_lt hb; omega
  · show m.length < _; simp
  · simp only [execOp, ho, h1, cA, Sem.run_bind]
    rw [hrun, ba_size]
    simp only [Result.andThen_ok, Sem.run_pure, cV, cU, cA, at_, Emb.up_same, Nat.sub_zero, Nat.div_one, Nat.add_zero]

theorem op_b2s (h : St σ ρ B w0 nt E m w fr a) {t u e : TypeId} {x : Operand} {x' : X} (ht : P.underlying t = some (.slice e)) (hu : P.underlying u = some .string) (hee : P.underlying e = some (.int .u8)) (hx : cX ρ x = some x')
    (ho : o.op = .convert t u x) (he : opE call fr m (.b2s x') = some (v, m')) : Done σ B w0 E m v m' ((execOp a.eval o).run P w) := by
  have hbytes : ∀ {cs : List A} {l : List UInt8}, bytesOf cs = some l → ∃ ns : List Int, cs.map (cA σ E) = ns.map (Value.int .u8) ∧
      ∀ acc : List UInt8, ns.foldl (fun (r : ByteArray) n => r.push (UInt8.ofNat n.toNat)) ⟨acc.toArray⟩ = ⟨(acc ++ l).toArray⟩ := by
    intro cs
    induction cs with
    | nil => intro l hl; cases hl; exact ⟨[], rfl, fun acc => by simp⟩
    | cons c r ih =>
      intro l hl
      unfold bytesOf at hl
      split at hl
      · rename_i hc; cases hc
      · rename_i n r' hc
        cases hc
        split at hl
        case h_2 => cases hl
        rename_i l' hl'
        cases hl
        obtain ⟨ns, h1, h2⟩ := ih hl'
        refine ⟨n :: ns, by simp [h1, cA], fun acc => ?_⟩
        have hpush : (⟨acc.toArray⟩ : ByteArray).push (UInt8.ofNat n.toNat) = ⟨(acc ++ [UInt8.ofNat n.toNat]).toArray⟩ := by
          simp [ByteArray.push]
        simp only [List.foldl_cons]
        rw [hpush, h2]
        simp
      · cases hl
  simp only [opE] at he
  split at he
  · rename_i hs
    cases he
    obtain ⟨h1, -⟩ := cXA h hx hs
    refine Done.same h.sim ?_ ?_
    · trivial
    simp only [execOp, ho, h1, cA, Sem.run_bind, run_convert_bytes_string w t u e _ _ _ ht hee hu]
    rfl
  · rename_i b of len c hs
    split at he
    case h_2 => cases he
    rename_i cs hcs
    obtain ⟨l, hl, he⟩ := Option.map_eq_some_iff.1 he
    cases he
    obtain ⟨h1, -⟩ := cXA h hx hs
    obtain ⟨h2, h3, h4⟩ := h.sim.rd (P := P) hcs
    obtain ⟨ns, h5, h6⟩ := hbytes hl
    rw [h5] at h2
    refine Done.same h.sim ?_ ?_
    · trivial
    simp only [execOp, ho, h1, cA, Sem.run_bind, run_convert_bytes_string w t u e _ _ _ ht hee hu, run_bytesToString w _ _ _ ns h2, Result.andThen_ok, Sem.run_pure]
    have := h6 []
    simp only [List.nil_append] at this
    rw [show ByteArray.empty = (⟨([] : List UInt8).toArray⟩ : ByteArray) from rfl, this]
    rfl
  · cases he

theorem op_i2s (h : St σ ρ B w0 nt E m w fr a) {t u : TypeId} {k : IntKind} {x : Operand} {x' : X} (ht : P.underlying t = some (.int k)) (hu : P.underlying u = some .string) (hx : cX ρ x = some x')
    (ho : o.op = .convert t u x) (he : opE call fr m (.i2s x') = some (v, m')) : Done σ B w0 E m v m' ((execOp a.eval o).run P w) := by
  simp only [opE] at he
  split at he
  case h_2 => cases he
  rename_i k' n hs
  split at he
  case isFalse => cases he
  rename_i hn
  cases he
  obtain ⟨h1, -⟩ := cXA h hx hs
  refine Done.same h.sim ?_ ?_
  · trivial
  have henc : Utf8.encode n = ⟨#[UInt8.ofNat n.toNat]⟩ := by
    have hv : Utf8.valid n = true := by simp [Utf8.valid]; omega
    have hc : n.toNat < 128 := by omega
    simp only [Utf8.encode, hv, if_true]
    rw [if_pos hc]
  simp [execOp, ho, h1, cA, cV, cU, convert, run_underlying ht, run_underlying hu, Conv.intToString, henc]

theorem op_mn (h : St σ ρ B w0 nt E m w fr a) {x y : Operand} {x' y' : X} {c : Call} (hx : cX ρ x = some x') (hy : cX ρ y = some y') (hc : c.callee = .builtin .min) (hargs : c.args = #[x, y])
    (ho : o.op = .call c) (he : opE call fr m (.mn x' y') = some (v, m')) : Done σ B w0 E m v m' ((execOp a.eval o).run P w) := by
  simp only [opE] at he
  split at he
  case h_2 => cases he
  rename_i k p k' q hp hq
  split at he
  case isFalse => cases he
  rename_i hk
  subst hk
  cases he
  obtain ⟨h1, -⟩ := cXA h hx hp
  obtain ⟨h2, -⟩ := cXA h hy hq
  refine Done.same h.sim ?_ ?_
  · trivial
  rw [call_builtin hc ho]
  simp [hargs, builtin, Builtin.min_, Builtin.min2, h1, h2, cA, cV, cU]

theorem op_mx (h : St σ ρ B w0 nt E m w fr a) {x y : Operand} {x' y' : X} {c : Call} (hx : cX ρ x = some x') (hy : cX ρ y = some y') (hc : c.callee = .builtin .max) (hargs : c.args = #[x, y])
    (ho : o.op = .call c) (he : opE call fr m (.mx x' y') = some (v, m')) : Done σ B w0 E m v m' ((execOp a.eval o).run P w) := by
  simp only [opE] at he
  split at he
  case h_2 => cases he
  rename_i k p k' q hp hq
  split at he
  case isFalse => cases he
  rename_i hk
  subst hk
  cases he
  obtain ⟨h1, -⟩ := cXA h hx hp
  obtain ⟨h2, -⟩ := cXA h hy hq
  refine Done.same h.sim ?_ ?_
  · trivial
  rw [call_builtin hc ho]
  simp [hargs, builtin, Builtin.max_, Builtin.max2, h1, h2, cA, cV, cU]

theorem op_fnv (h : St σ ρ B w0 nt E m w fr a) {f g : Nat} {caps first : Array Operand} {xs : List X} (hf : ρ f = some g) (h0 : first.size = 0) (hx : cXs ρ caps.toList = some xs)
    (ho : o.op = .makeFunc (.func f) first caps) (he : opE call fr m (.fnv g xs) = some (v, m')) : Done σ B w0 E m v m' ((execOp a.eval o).run P w) := by
  have key : ∀ {cs : List Operand} {xs : List X} {l : List (Nat × Nat)}, cXs ρ cs = some xs → atoms xs fr = some l →
      cs.map a.eval = l.map (fun p => Value.pointer (some (at_ E p.1 p.2))) ∧ ∀ p ∈ l, p.1 < m.length := by
    intro cs
    induction cs with
    | nil => intro xs l h1 h2; cases h1; cases h2; simp
    | cons c r ih =>
      intro xs l h1 h2
      simp only [cXs] at h1
      split at h1
      case h_2 => cases h1
      rename_i y l1 hy hl1
      cases h1
      simp only [atoms] at h2
      split at h2
      case h_2 => cases h2
      rename_i b of l2 hb hl2
      cases h2
      obtain ⟨h3, h4⟩ := ih hl1 hl2
      obtain ⟨h5, h6⟩ := cXA h hy hb
      refine ⟨by simp [h3, h5, cA], fun p hp => ?_⟩
      rcases List.mem_cons.1 hp with rfl | hp
      · exact h6
      · exact h4 p hp
  simp only [opE] at he
  split at he
  case h_2 => cases he
  rename_i l hl
  cases he
  obtain ⟨h1, h2⟩ := key hx hl
  refine Done.same h.sim ?_ ?_
  · exact h2
  have hfirst : first = #[] := Array.size_eq_zero_iff.1 h0
  have hcaps : caps.map a.eval = (l.map fun p => Value.pointer (some (at_ E p.1 p.2))).toArray := by
    rw [← h1, ← Array.toList_map, Array.toArray_toList]
  simp [execOp, ho, cV, cU, cA, Instr.makeFunc, hfirst, hcaps, h.fm f g hf]

end Go.AL
/-
  Operations one by one: make, slice expressions, a string's iterator, nil tests, composites.
-/
namespace Go.AL
set_option linter.unusedSimpArgs false
set_option linter.unusedVariables false
open Go.RowKit

variable {σ : Nat → Nat} {B : Nat} {w0 : World} {E : Emb} {m m' : Mem} {w : World} {P : Program} {ρ : Nat → Option Nat} {nt : Nat} {fr : Fr} {a : Act} {call : CallE} {v : V} {o : Oper}

theorem op_mk (h : St σ ρ B w0 nt E m w fr a) {t e : TypeId} {s by_ : Nat} {z : List A} {x y : Operand} {x' y' : X} (ht : P.underlying t = some (.slice e)) (hs : szT P e = some s) (hz : zeroT P e = some z)
    (hb : bytesT P e = some by_) (hs0 : s ≠ 0) (hzs : z.length = s) (hx : cX ρ x = some x') (hy : cX ρ y = some y') (ho : o.op = .makeSlice t x y)
    (he : opE call fr m (.mk z by_ x' y') = some (v, m')) : Done σ B w0 E m v m' ((execOp a.eval o).run P w) := by
  simp only [opE] at he
  split at he
  case h_2 => cases he
  rename_i k l k' c hl hc
  split at he
  case isFalse => cases he
  rename_i hcond
  cases he
  obtain ⟨hc1, hc2, hc3, hc4⟩ := hcond
  obtain ⟨h1, -⟩ := cXA h hx hl
  obtain ⟨h2, -⟩ := cXA h hy hc
  obtain ⟨u, g1, g2, g3⟩ := zeroT_ok hz σ E m.length
  obtain ⟨i, g4, g5⟩ := run_bytes (P := P) hb w
  have wl : IntKind.i64.wrap l = l := IntWalk.i64_in _ (by omega)
  have wc : IntKind.i64.wrap c = c := IntWalk.i64_in _ (by omega)
  have hbig : ¬ ((281474976710656 : Int) < (by_ : Int) * c) := by rw [Int.mul_comm]; omega
  have hcells : (Array.range (c.toNat * s)).map (fun x => (if c.toNat * s = 0 then (#[] : Array Value) else u.cells)[x % (if c.toNat * s = 0 then (#[] : Array Value) else u.cells).size]!) = (((List.replicate c.toNat z).flatten).map (cA σ E)).toArray := by
    by_cases h0 : c.toNat * s = 0
    · have : c.toNat = 0 := by rcases Nat.mul_eq_zero.1 h0 with h | h <;> omega
      simp [this]
    · rw [if_neg h0, g2, ← hzs]
      exact range_flat z (cA σ E) _ (by intro h; subst h; simp at hzs; omega)
  have := done_slice h.sim (((List.replicate c.toNat z).flatten).map (cA σ E)).toArray e ((List.replicate c.toNat z).flatten) ((List.replicate c.toNat z).flatten).length l.toNat c.toNat (.ex c.toNat)
    (by simp) (Nat.le_refl _) (fun j x hx => by rw [List.getElem?_toArray, List.getElem?_map, hx]; rfl) (fun x hx => by
      obtain ⟨q, hq, hx⟩ := List.mem_flatten.1 hx
      rw [(List.mem_replicate.1 hq).2] at hx; exact g3 x hx) rfl
  refine Eq.mp ?_ this
  congr 1
  simp only [execOp, ho, h1, h2, cA, Instr.makeSlice, Sem.run_bind, run_underlying ht, Result.andThen_ok, asInt, asIntOf, Sem.run_pure, g4, g5, wl, wc]
  have e1 : (decide (c < 0) || decide ((by_ : Int) * c > 2 ^ 48)) = false := by simp; omega
  have e2 : (decide (l < 0)) = false := by simp; omega
  have e3 : (decide (l > c)) = false := by simp; omega
  simp only [e1, e2, e3, Bool.or_self, Bool.false_eq_true, if_false, Sem.run_bind, run_askRoom, Result.andThen_ok, Sem.run_pure, run_size hs]
  by_cases h0 : c.toNat * s = 0
  · simp only [h0, if_true] at hcells ⊢
    simp only [Sem.run_bind, Sem.run_pure, Result.andThen_ok, newRow, run_newObj]
    rw [hcells]
  · simp only [h0, if_false] at hcells ⊢
    simp only [Sem.run_bind, Sem.run_pure, Result.andThen_ok, newRow, run_newObj, g1]
    rw [hcells]

theorem bnd_x (h : St σ ρ B w0 nt E m w fr a) {x : Operand} {x' : X} {d top k : Nat} (hx : cX ρ x = some x') (hb : bnd fr d top (some x') = some k) {y : Nat} (hy : top ≤ y) (c : BoundsCode) (w : World) :
    (Instr.sliceBound (a.eval x) y c).run P w = .ok k w ∧ k ≤ top := by
  simp only [bnd] at hb
  split at hb
  case h_2 => cases hb
  rename_i k' i hi
  split at hb
  case isFalse => cases hb
  rename_i hc
  cases hb
  obtain ⟨h1, -⟩ := cXA h hx hi
  refine ⟨?_, by omega⟩
  simp only [h1, cA, Instr.sliceBound, asIntOf, Sem.run_bind, Sem.run_pure, Result.andThen_ok]
  rw [if_pos (by omega)]
  rfl

theorem cXo_cases {x : Option Operand} {x' : Option X} (hx : cXo ρ x = some x') : (x = none ∧ x' = none) ∨ ∃ y y', x = some y ∧ x' = some y' ∧ cX ρ y = some y' := by
  cases x with
  | none => cases hx; exact .inl ⟨rfl, rfl⟩
  | some y =>
    obtain ⟨y', hy, rfl⟩ := Option.map_eq_some_iff.1 hx
    exact .inr ⟨y, y', rfl, rfl, hy⟩

/-- The bounds of a slice expression without a third index. -/
theorem bounds2 (h : St σ ρ B w0 nt E m w fr a) {lo hi : Option Operand} {lo' hi' : Option X} (hlo : cXo ρ lo = some lo') (hhi : cXo ρ hi = some hi') {len top cap hh l : Nat}
    (hH : bnd fr len top hi' = some hh) (hL : bnd fr 0 hh lo' = some l) (htop : top ≤ cap) (b : Bool) (w : World) :
    (Instr.sliceBounds b len cap (lo.map a.eval) (hi.map a.eval) none).run P w = .ok (l, hh, cap) w := by
  rcases cXo_cases hlo with ⟨rfl, rfl⟩ | ⟨x, x', rfl, rfl, hx⟩ <;> rcases cXo_cases hhi with ⟨rfl, rfl⟩ | ⟨y, y', rfl, rfl, hy⟩
  · cases hH; cases hL; simp [Instr.sliceBounds]
  · cases hL
    obtain ⟨h1, h2⟩ := bnd_x (P := P) h hy hH htop (if b then .sliceAcap else .sliceAlen) w
    simp [Instr.sliceBounds, h1]
  · cases hH
    obtain ⟨h1, h2⟩ := bnd_x (P := P) h hx hL (Nat.le_refl _) .sliceB w
    simp [Instr.sliceBounds, h1]
  · obtain ⟨h1, h2⟩ := bnd_x (P := P) h hy hH htop (if b then .sliceAcap else .sliceAlen) w
    obtain ⟨h3, h4⟩ := bnd_x (P := P) h hx hL (Nat.le_refl _) .sliceB w
    simp [Instr.sliceBounds, h1, h3]

/-- With one. -/
theorem bounds3 (h : St σ ρ B w0 nt E m w fr a) {lo hi : Option Operand} {mx : Operand} {lo' hi' : Option X} {mx' : X} (hlo : cXo ρ lo = some lo') (hhi : cXo ρ hi = some hi') (hmx : cX ρ mx = some mx') (hsome : hi' ≠ none) {d len top cap k hh l : Nat}
    (hK : bnd fr d top (some mx') = some k) (hH : bnd fr len k hi' = some hh) (hL : bnd fr 0 hh lo' = some l) (htop : top ≤ cap) (w : World) :
    (Instr.sliceBounds true len cap (lo.map a.eval) (hi.map a.eval) (some (a.eval mx))).run P w = .ok (l, hh, k) w := by
  obtain ⟨h5, h6⟩ := bnd_x (P := P) h hmx hK htop .slice3Acap w
  rcases cXo_cases hhi with ⟨rfl, rfl⟩ | ⟨y, y', rfl, rfl, hy⟩
  · exact absurd rfl hsome
  obtain ⟨h1, h2⟩ := bnd_x (P := P) h hy hH (Nat.le_refl _) .slice3B w
  rcases cXo_cases hlo with ⟨rfl, rfl⟩ | ⟨x, x', rfl, rfl, hx⟩
  · cases hL; simp [Instr.sliceBounds, h1, h5]
  · obtain ⟨h3, h4⟩ := bnd_x (P := P) h hx hL (Nat.le_refl _) .slice3C w
    simp [Instr.sliceBounds, h1, h3, h5]

theorem op_sstr (h : St σ ρ B w0 nt E m w fr a) {t : TypeId} {x : Operand} {lo hi : Option Operand} {x' : X} {lo' hi' : Option X} (ht : P.underlying t = some .string) (hx : cX ρ x = some x') (hlo : cXo ρ lo = some lo') (hhi : cXo ρ hi = some hi')
    (ho : o.op = .slice t x lo hi none) (he : opE call fr m (.sstr x' lo' hi') = some (v, m')) : Done σ B w0 E m v m' ((execOp a.eval o).run P w) := by
  simp only [opE] at he
  split at he
  case h_2 => cases he
  rename_i s hs
  split at he
  · cases he
  rename_i hh hH
  split at he
  · cases he
  rename_i l hL
  cases he
  obtain ⟨h1, -⟩ := cXA h hx hs
  have hb := bounds2 (P := P) h hlo hhi hH hL (Nat.le_refl _) false w
  refine Done.same h.sim ?_ ?_
  · trivial
  simp only [execOp, ho, h1, cA, cV, cU, Instr.sliceAt, Instr.slice, Sem.run_bind, run_underlying ht, Result.andThen_ok, Option.map_none, Option.isSome_none, Bool.false_eq_true, if_false, Sem.run_pure, ba_size, hb, ba_extract]

theorem op_sarr (h : St σ ρ B w0 nt E m w fr a) {t e : TypeId} {n s : Nat} {x : Operand} {lo hi : Option Operand} {x' : X} {lo' hi' : Option X} (ht : P.underlying t = some (.array n e)) (hs : szT P e = some s) (hx : cX ρ x = some x')
    (hlo : cXo ρ lo = some lo') (hhi : cXo ρ hi = some hi') (ho : o.op = .slice t x lo hi none) (he : opE call fr m (.sarr n s x' lo' hi') = some (v, m')) : Done σ B w0 E m v m' ((execOp a.eval o).run P w) := by
  simp only [opE] at he
  split at he
  case h_2 => cases he
  rename_i b of hp
  split at he
  · cases he
  rename_i hh hH
  split at he
  · cases he
  rename_i l hL
  split at he
  case isFalse => cases he
  cases he
  obtain ⟨h1, h2⟩ := cXA h hx hp
  have hb := bounds2 (P := P) h hlo hhi hH hL (Nat.le_refl _) false w
  refine Done.same h.sim ?_ ?_
  · exact h2
  simp only [execOp, ho, h1, cA, cV, cU, Instr.sliceAt, Sem.run_bind, run_underlying ht, Result.andThen_ok, Option.map_none, Instr.sureAddr, Sem.run_pure, hb, run_size hs]
  by_cases hnl : n = l
  · simp [hnl]
  · simp [hnl, at_, addr_add, Nat.add_assoc]

theorem op_slc (h : St σ ρ B w0 nt E m w fr a) {t e : TypeId} {s : Nat} {x : Operand} {lo hi mx : Option Operand} {x' : X} {lo' hi' mx' : Option X} (ht : P.underlying t = some (.slice e)) (hs : szT P e = some s) (hx : cX ρ x = some x')
    (hlo : cXo ρ lo = some lo') (hhi : cXo ρ hi = some hi') (hmx : cXo ρ mx = some mx') (hmh : ¬ (mx'.isSome = true ∧ hi'.isNone = true)) (ho : o.op = .slice t x lo hi mx)
    (he : opE call fr m (.slc s x' lo' hi' mx') = some (v, m')) : Done σ B w0 E m v m' ((execOp a.eval o).run P w) := by
  have hall : ∀ {len cap l hh k d top : Nat}, bnd fr d top mx' = some k → (mx' = none → d = cap) → top ≤ cap → bnd fr len k hi' = some hh → bnd fr 0 hh lo' = some l →
      (Instr.sliceBounds true len cap (lo.map a.eval) (hi.map a.eval) (mx.map a.eval)).run P w = .ok (l, hh, k) w := by
    intro len cap l hh k d top hK hd htop hH hL
    rcases cXo_cases hmx with ⟨rfl, rfl⟩ | ⟨y, y', rfl, rfl, hy⟩
    · cases hK
      obtain rfl := hd rfl
      exact bounds2 (P := P) h hlo hhi hH hL (Nat.le_refl _) true w
    · exact bounds3 (P := P) h hlo hhi hy (by intro hn; subst hn; simp at hmh) hK hH hL htop w
  simp only [opE] at he
  split at he
  · rename_i hp
    split at he
    case h_2 => cases he
    rename_i hK hH hL
    cases he
    obtain ⟨h1, -⟩ := cXA h hx hp
    have hb := hall (len := 0) (cap := 0) hK (fun _ => rfl) (Nat.le_refl _) hH hL
    refine Done.same h.sim ?_ ?_
    · trivial
    simp [execOp, ho, h1, cA, cV, cU, Instr.sliceAt, Instr.slice, run_underlying ht, hb, run_size hs]
  · rename_i b of len c hp
    split at he
    · cases he
    rename_i k hK
    split at he
    · cases he
    rename_i hh hH
    split at he
    · cases he
    rename_i l hL
    split at he
    case isFalse => cases he
    cases he
    obtain ⟨h1, h2⟩ := cXA h hx hp
    have hb := hall (len := len) (cap := c) hK (fun _ => rfl) (Nat.le_refl _) hH hL
    refine Done.same h.sim ?_ ?_
    · exact h2
    simp only [execOp, ho, h1, cA, cV, cU, Instr.sliceAt, Instr.slice, Sem.run_bind, run_underlying ht, Result.andThen_ok, hb, run_size hs, Sem.run_pure]
    by_cases hkl : k = l
    · simp [hkl]
    · simp [hkl, at_, addr_add, Nat.add_assoc]
  · rename_i b of len s' hp
    split at he
    · cases he
    rename_i hss
    have hss' : s' = s := by
      rcases Nat.decEq s' s with h | h
      · exact absurd (Or.inl h) hss
      · exact h
    have hs0 : s ≠ 0 := fun h => hss (.inr h)
    subst hss'
    obtain ⟨h1, h2⟩ := cXA h hx hp
    have hknown : known m b ≤ (E b).tot := by
      unfold known
      split
      · rename_i W cs hb; exact (h.sim.blk b W cs hb).le
      · omega
    have hcap : (known m b - of) / s' ≤ ((E b).tot - of) / s' := Nat.div_le_div_right (by omega)
    split at he
    · rename_i mxx
      split at he
      · cases he
      rename_i k hK
      split at he
      · cases he
      rename_i hh hH
      split at he
      · cases he
      rename_i l hL
      split at he
      case isFalse => cases he
      cases he
      have hb := hall (len := len) (cap := ((E b).tot - of) / s') hK (fun h => by cases h) hcap hH hL
      refine Done.same h.sim ?_ ?_
      · exact h2
      simp only [execOp, ho, h1, cA, cV, cU, Instr.sliceAt, Instr.slice, Sem.run_bind, run_underlying ht, Result.andThen_ok, hb, run_size hs, Sem.run_pure]
      by_cases hkl : k = l
      · simp [hkl]
      · simp [hkl, at_, addr_add, Nat.add_assoc]
    · split at he
      · cases he
      rename_i hh hH
      split at he
      · cases he
      rename_i l hL
      split at he
      · cases he
      rename_i hc
      have hc : l ≤ hh ∧ of + hh * s' ≤ known m b := by simpa using hc
      obtain ⟨hc1, hc2⟩ := hc
      rcases cXo_cases hmx with ⟨rfl, -⟩ | ⟨y, y', _, hq, _⟩
      case inr => cases hq
      have hb := bounds2 (P := P) h hlo hhi hH hL hcap true w
      have hspos : 0 < s' := Nat.pos_of_ne_zero hs0
      split at he
      · rename_i hl0
        subst hl0
        cases he
        refine Done.same h.sim ?_ ?_
        · exact h2
        simp only [execOp, ho, h1, cA, cV, cU, Instr.sliceAt, Instr.slice, Sem.run_bind, run_underlying ht, Result.andThen_ok, hb, run_size hs, Sem.run_pure, Option.map_none]
        by_cases hkl : ((E b).tot - of) / s' = 0
        · simp [hkl]
        · simp [hkl, at_, addr_add]
      · split at he
        · rename_i hl0 hlt
          cases he
          have hlc : l < ((E b).tot - of) / s' := by
            have : l + 1 ≤ ((E b).tot - of) / s' := by
              rw [Nat.le_div_iff_mul_le hspos]
              omega
            omega
          refine Done.same h.sim ?_ ?_
          · exact h2
          simp only [execOp, ho, h1, cA, cV, cU, Instr.sliceAt, Instr.slice, Sem.run_bind, run_underlying ht, Result.andThen_ok, hb, run_size hs, Sem.run_pure, Option.map_none]
          rw [if_neg (by omega)]
          have : ((E b).tot - of) / s' - l = ((E b).tot - (of + l * s')) / s' := by
            rw [Nat.sub_add_eq, Nat.mul_comm l s', Nat.sub_mul_div]
          simp [at_, addr_add, Nat.add_assoc, this]
        · rename_i hl0 hlt
          cases he
          have hhl : hh = l := by
            rcases Nat.lt_or_ge l hh with hq | hq
            · have : (l + 1) * s' ≤ hh * s' := Nat.mul_le_mul_right _ hq
              omega
            · omega
          subst hhl
          have hpos : 0 < known m b := by
            have : 1 * s' ≤ hh * s' := Nat.mul_le_mul_right _ (by omega)
            omega
          obtain ⟨W, cs, hbb⟩ : ∃ W cs, m[b]? = some (Blk.cells W cs) := by
            unfold known at hpos
            split at hpos
            · rename_i W cs hbb; exact ⟨W, cs, hbb⟩
            · omega
          obtain ⟨⟨arr, elem, fz, k1, k2, k3, k4⟩, k5, k6, k7⟩ := h.sim.blk b W cs hbb
          have hmul : ((E b).tot - of) / s' * s' ≤ (E b).tot - of := Nat.div_mul_le_self _ _
          have hle : hh ≤ ((E b).tot - of) / s' := by rw [Nat.le_div_iff_mul_le hspos]; omega
          refine ⟨_, w, E.up_agree _ _, by simp, h.sim.view (blk := (E b).blk) (off := if ((E b).tot - of) / s' = hh then (E b).off + of else (E b).off + of + hh * s')
            (tot := (((E b).tot - of) / s' - hh) * s') (ty := 0) k1 ?_, ?_, .inl ?_⟩
          · split
            · rename_i hq; rw [hq]; simp; omega
            · rw [Nat.sub_mul]
              have : hh * s' ≤ ((E b).tot - of) / s' * s' := Nat.mul_le_mul_right _ hle
              omega
          · show m.length < _; simp
          · simp only [execOp, ho, h1, cA, cV, cU, Instr.sliceAt, Instr.slice, Sem.run_bind, run_underlying ht, Result.andThen_ok, hb, run_size hs, Sem.run_pure, Option.map_none, at_, Emb.up_same]
            by_cases hkl : ((E b).tot - of) / s' = hh
            · simp [hkl]
            · simp [hkl, addr_add, Nat.add_assoc, Nat.mul_div_cancel _ hspos]
  · cases he

end Go.AL
/-
  Operations one by one: append, copy, clear.
-/
namespace Go.AL
set_option linter.unusedSimpArgs false
set_option linter.unusedVariables false
open Go.RowKit

variable {σ : Nat → Nat} {B : Nat} {w0 : World} {E : Emb} {m m' : Mem} {w : World} {P : Program} {ρ : Nat → Option Nat} {nt : Nat} {fr : Fr} {a : Act} {call : CallE} {v : V} {o : Oper}

theorem lenOf_ok {y : A} {n : Nat} (h : lenA y = some n) (w : World) : (Builtin.lenOf (cA σ E y)).run P w = .ok n w := by
  cases y <;> simp only [lenA, Option.some.injEq, reduceCtorEq] at h <;> subst h <;> simp [cA, Builtin.lenOf, ba_size]

theorem src_ok (h : Sim σ B w0 E m w) {s n : Nat} {y : A} {cs : List A} (hc : srcCells m s n y = some cs) :
    (Builtin.firstCells s n (cA σ E y)).run P w = .ok (cs.map (cA σ E)).toArray w ∧ cs.length = n * s ∧ ∀ x ∈ cs, A.ok m.length x := by
  unfold srcCells at hc
  split at hc
  · split at hc
    case isFalse => cases hc
    rename_i hn
    cases hc; subst hn
    exact ⟨by simp [cA, Builtin.firstCells], by simp, by simp⟩
  · split at hc
    case isFalse => cases hc
    obtain ⟨h1, h2, h3⟩ := h.rd (P := P) hc
    exact ⟨by simp only [cA, Builtin.firstCells]; exact h1, h2, h3⟩
  · split at hc
    case isFalse => cases hc
    rename_i t hn
    cases hc
    obtain ⟨rfl, hn⟩ := hn
    refine ⟨?_, by simp [u8s]; omega, fun x hx => ?_⟩
    · simp only [cA, Builtin.firstCells, ba_extract, Sem.run_pure]
      simp [u8s, cA, Function.comp_def]
    · obtain ⟨c, _, rfl⟩ := List.mem_map.1 hx; trivial
  · cases hc

theorem growBy_le (n : Nat) : ∀ (r c : Nat), Builtin.growBy n r c ≤ max c (n + (n + 768) / 4)
  | 0, c => by simp only [Builtin.growBy]; omega
  | r + 1, c => by
    simp only [Builtin.growBy]
    split
    · omega
    · have := growBy_le n r (c + (c + 768) / 4)
      omega

theorem nsc_le {need cap : Nat} (h : cap < need) : Builtin.nextslicecap need cap ≤ 2 * need + 192 := by
  unfold Builtin.nextslicecap
  split
  · omega
  · split
    · omega
    · have := growBy_le need 4 cap
      omega

/-- The model's append where the capacity does. -/
theorem run_app_in {t u e : TypeId} {s n len cap : Nat} {du : TypeDesc} {x y : Value} {base : Option Addr} {new : Array Value} {w w' : World} (ht : P.underlying t = some (.slice e)) (hu : P.underlying u = some du) (hnu : ∀ k, du ≠ .int k)
    (hs : szT P e = some s) (hx : x = .slice base len cap) (hn : (Builtin.lenOf y).run P w = .ok n w) (hnew : (Builtin.firstCells s n y).run P w = .ok new w) (hle : len + n ≤ cap)
    (hst : match base with
      | some a => (storeCells (a.add (len * s)) new.toList).run P w = .ok () w'
      | none => w' = w) (ty : TypeId) : (Builtin.append_ #[t, u] ty #[x, y]).run P w = .ok (.slice base (len + n) cap) w' := by
  subst hx
  cases du with
  | int k => exact absurd rfl (hnu k)
  | _ =>
    simp only [Builtin.append_, List.getElem?_toArray, List.getElem?_cons_zero, List.getElem?_cons_succ, Sem.run_bind, run_underlying ht, run_underlying hu, Result.andThen_ok, run_size hs, Sem.run_pure, Bool.false_eq_true, if_false, hn]
    rw [if_pos hle]
    cases base with
    | none =>
      simp only at hst
      subst hst
      simp [hnew]
    | some a =>
      simp only at hst
      simp [hnew, hst]

/-- The model's append where it does not. -/
theorem run_app_out {t u e : TypeId} {s by_ n len cap : Nat} {du : TypeDesc} {x y z : Value} {base : Option Addr} {old new : Array Value} {w : World} (ht : P.underlying t = some (.slice e)) (hu : P.underlying u = some du) (hnu : ∀ k, du ≠ .int k)
    (hs : szT P e = some s) (hb : bytesT P e = some by_) (hz : ∀ w, (zeroValue e).run P w = .ok z w) (hx : x = .slice base len cap) (hn : (Builtin.lenOf y).run P w = .ok n w)
    (hold : (Builtin.firstCells s len x).run P { w with drawn := w.drawn + 1 } = .ok old { w with drawn := w.drawn + 1 }) (hnew : (Builtin.firstCells s n y).run P { w with drawn := w.drawn + 1 } = .ok new { w with drawn := w.drawn + 1 }) (hgt : cap < len + n) (hbound : (len + n) * by_ ≤ 1099511627776) (hsmall : len + n ≤ 9223372036854775807) (ty : TypeId) :
    (Builtin.append_ #[t, u] ty #[x, y]).run P w = .ok (.slice (some ⟨w.heap.size, 0, none⟩) (len + n) (grownCap w (len + n) cap e))
      { w with drawn := w.drawn + 1, heap := w.heap.push (.cells (old ++ new ++ Builtin.zeroCells z.cells (grownCap w (len + n) cap e - (len + n))) e) } := by
  subst hx
  obtain ⟨i, g4, g5⟩ : ∃ i, (∀ w, (typeInfo e).run P w = .ok i w) ∧ i.bytes = by_ := by
    unfold bytesT at hb
    obtain ⟨i, hi, rfl⟩ := Option.map_eq_some_iff.1 hb
    exact ⟨i, fun w => run_info hi w, rfl⟩
  have hnsc := nsc_le hgt
  have hno : ¬ 281474976710656 < Builtin.nextslicecap (len + n) cap * by_ := by
    have h1 : Builtin.nextslicecap (len + n) cap * by_ ≤ (2 * (len + n) + 192) * by_ := Nat.mul_le_mul_right _ hnsc
    have h2 : 1 * by_ ≤ (len + n) * by_ := Nat.mul_le_mul_right _ (by omega)
    have h3 : (2 * (len + n) + 192) * by_ = 2 * ((len + n) * by_) + 192 * by_ := by rw [Nat.add_mul, Nat.mul_assoc]
    omega
  have hq : (Question.appendCap (len + n) cap e).forced = false := rfl
  have hint : ¬ ((9223372036854775807 : Int) < ((len + n : Nat) : Int)) := by omega
  have hno' : ¬ (2 ^ 48 < Builtin.nextslicecap (len + n) cap * by_) := hno
  cases du with
  | int k => exact absurd rfl (hnu k)
  | _ =>
    simp only [Builtin.append_, List.getElem?_toArray, List.getElem?_cons_zero, List.getElem?_cons_succ, Sem.run_bind, run_underlying ht, run_underlying hu, Result.andThen_ok, run_size hs, Sem.run_pure, Bool.false_eq_true, if_false, hn, false_or]
    rw [if_neg (by omega)]
    simp only [Sem.run_bind, g4, Result.andThen_ok, g5, IntKind.max_i64, gt_iff_lt, hint, false_and, if_false]
    simp only [hno', if_false, Sem.run_bind, run_choose, hq, Bool.false_eq_true, Result.andThen_ok, run_askRoom, hz, newRow, run_newObj, Sem.run_pure, Sem.run_ite, g4]
    rw [hold]
    simp only [Result.andThen_ok, Bool.not_false, if_true]
    rw [hnew]
    simp only [Result.andThen_ok]
    rfl

theorem zeroCells_size (z : Array Value) (n : Nat) : (Builtin.zeroCells z n).size = n * z.size := by simp [Builtin.zeroCells]

/-- Behind an append into new memory. -/
theorem done_app (h : Sim σ B w0 E m w) {s cap0 need : Nat} {e : TypeId} {old new : List A} {zc : Array Value} (hzs : zc.size = s) (hs0 : 0 < s) (hlen : (old ++ new).length = need * s)
    (hok : ∀ x ∈ old ++ new, A.ok m.length x) :
    Done σ B w0 E m (.a (.sl m.length 0 need (.rest s))) (m ++ [.cells true (old ++ new)]) (.ok (.value (.slice (some ⟨w.heap.size, 0, none⟩) need (grownCap w need cap0 e)))
      { w with drawn := w.drawn + 1, heap := w.heap.push (.cells ((old.map (cA σ E)).toArray ++ (new.map (cA σ E)).toArray ++ Builtin.zeroCells zc (grownCap w need cap0 e - need)) e) }) := by
  have hcap := grownCap_ge w need cap0 e
  have hmul : need * s ≤ grownCap w need cap0 e * s := Nat.mul_le_mul_right _ hcap
  have := done_slice h.drew ((old.map (cA σ E)).toArray ++ (new.map (cA σ E)).toArray ++ Builtin.zeroCells zc (grownCap w need cap0 e - need)) e (old ++ new) (grownCap w need cap0 e * s) need (grownCap w need cap0 e) (.rest s)
    (by
      have hlen' : old.length + new.length = need * s := by simpa using hlen
      simp only [Array.size_append, List.size_toArray, List.length_map, zeroCells_size, hzs, Nat.sub_mul]
      omega) (by omega) (fun j x hx => by
      have hlt : j < (old ++ new).length := (List.getElem?_eq_some_iff.1 hx).1
      rw [Array.getElem?_append_left (by simpa using hlt)]
      rw [show (old.map (cA σ E)).toArray ++ (new.map (cA σ E)).toArray = ((old ++ new).map (cA σ E)).toArray by simp]
      rw [List.getElem?_toArray, List.getElem?_map, hx]; rfl) hok (by simp [Nat.mul_div_cancel _ hs0])
  exact this

theorem run_append_op {c : Call} {x y : Operand} {vx vy r : Value} {t u : TypeId} {w' : World} (hc : c.callee = .builtin .append) (hargs : c.args = #[x, y]) (hts : c.argTypes = #[t, u]) (ho : o.op = .call c)
    (hx : a.eval x = vx) (hy : a.eval y = vy) (hr : (Builtin.append_ #[t, u] o.type #[vx, vy]).run P w = .ok r w') : (execOp a.eval o).run P w = .ok (.value r) w' := by
  rw [call_builtin hc ho]
  simp only [hargs, hts, builtin]
  have hmap : (#[x, y] : Array Operand).map a.eval = #[vx, vy] := by simp [hx, hy]
  rw [hmap]
  simp only [Sem.run_bind, hr, Result.andThen_ok, Sem.run_pure]

set_option maxHeartbeats 1000000 in
theorem op_app (h : St σ ρ B w0 nt E m w fr a) {t u e : TypeId} {du : TypeDesc} {s by_ : Nat} {z : List A} {x y : Operand} {x' y' : X} {c : Call} (ht : P.underlying t = some (.slice e)) (hu : P.underlying u = some du) (hnu : ∀ k, du ≠ .int k)
    (hs : szT P e = some s) (hb : bytesT P e = some by_) (hz : zeroT P e = some z) (hs0 : s ≠ 0) (hzs : z.length = s) (hx : cX ρ x = some x') (hy : cX ρ y = some y') (hc : c.callee = .builtin .append) (hargs : c.args = #[x, y]) (hts : c.argTypes = #[t, u])
    (ho : o.op = .call c) (he : opE call fr m (.app s by_ x' y') = some (v, m')) : Done σ B w0 E m v m' ((execOp a.eval o).run P w) := by
  simp only [opE] at he
  split at he
  case h_2 => cases he
  rename_i p q hp hq
  obtain ⟨h1, ok1⟩ := cXA h hx hp
  obtain ⟨h2, -⟩ := cXA h hy hq
  have hrun := fun r w' hr => run_append_op (P := P) (w := w) (r := r) (w' := w') hc hargs hts ho h1 h2 hr
  obtain ⟨zv, hzv, hzc, -⟩ := zeroT_ok hz σ E m.length
  have hzsz : zv.cells.size = s := by rw [hzc]; simpa using hzs
  have hspos : 0 < s := Nat.pos_of_ne_zero hs0
  unfold appE at he
  split at he
  · cases he
  rename_i n hn
  split at he
  · cases he
  rename_i new hnew
  have gn := lenOf_ok (σ := σ) (E := E) (P := P) hn w
  obtain ⟨g1, g2, g3⟩ := src_ok (P := P) h.sim hnew
  obtain ⟨g1', -, -⟩ := src_ok (P := P) h.sim.drew hnew
  split at he
  · split at he
    · rename_i hn0
      subst hn0
      cases he
      refine Done.same h.sim ?_ (hrun _ _ ?_)
      · trivial
      exact run_app_in (base := none) (len := 0) (cap := 0) (n := 0) ht hu hnu hs rfl gn g1 (Nat.le_refl _) rfl _
    · rename_i hn0
      split at he
      case isFalse => cases he
      rename_i hle
      cases he
      have hr := run_app_out (base := none) (len := 0) (cap := 0) (old := #[]) ht hu hnu hs hb hzv rfl gn (by simp [Builtin.firstCells]) g1' (by omega) (by simpa using hle.2) (by omega) o.type
      rw [hrun _ _ hr]
      have := done_app (σ := σ) (E := E) h.sim (cap0 := 0) (e := e) (old := []) (new := new) (need := n) hzsz hspos (by simpa using g2) (by simpa using g3)
      simpa using this
  · rename_i b of len cp
    have hblk : b < m.length := ok1
    split at he
    · rename_i hn0
      subst hn0
      split at he
      · rename_i cap
        split at he
        case isFalse => cases he
        rename_i hle
        cases he
        refine Done.same h.sim ?_ (hrun _ _ ?_)
        · exact ok1
        have hnil : new = [] := List.eq_nil_of_length_eq_zero (by simpa using g2)
        subst hnil
        exact run_app_in (base := some (at_ E b of)) (n := 0) ht hu hnu hs rfl gn g1 (by simpa using hle) rfl _
      · rename_i s'
        split at he
        case isFalse => cases he
        rename_i hle
        obtain ⟨rfl, hle⟩ := hle
        cases he
        refine Done.same h.sim ?_ (hrun _ _ ?_)
        · exact ok1
        have hnil : new = [] := List.eq_nil_of_length_eq_zero (by simpa using g2)
        subst hnil
        have hknown : known m b ≤ (E b).tot := by
          unfold known
          split
          · rename_i W cs hb; exact (h.sim.blk b W cs hb).le
          · omega
        have hcap : len ≤ ((E b).tot - of) / s' := by rw [Nat.le_div_iff_mul_le hspos]; omega
        exact run_app_in (base := some (at_ E b of)) (n := 0) ht hu hnu hs rfl gn g1 (by simpa using hcap) rfl _
    · rename_i hn0
      split at he
      case isTrue => cases he
      rename_i hbd
      have hbd : len + n ≤ 1099511627776 ∧ (len + n) * by_ ≤ 1099511627776 := by
        rcases Decidable.em (len + n ≤ 1099511627776 ∧ (len + n) * by_ ≤ 1099511627776) with h | h
        · exact h
        · exact absurd h hbd
      have hadd : (at_ E b of).add (len * s) = at_ E b (of + len * s) := by simp only [at_, addr_add, Nat.add_assoc]
      split at he
      · rename_i cap
        split at he
        · rename_i hle
          split at he
          case h_2 => cases he
          rename_i m2 hw
          cases he
          obtain ⟨w', h4, h5, h6⟩ := h.sim.wr (P := P) hw g3
          refine ⟨E, w', Agree.refl _ _, by omega, h5, ?_, .inl ?_⟩
          · exact A.ok.mono ok1 (by omega)
          · exact hrun _ _ (run_app_in (base := some (at_ E b of)) ht hu hnu hs rfl gn g1 hle (by simp only [hadd]; exact h4) _)
        · rename_i hle
          split at he
          case h_2 => cases he
          rename_i old hold
          cases he
          obtain ⟨k1, k2, k3⟩ := h.sim.rd (P := P) hold
          obtain ⟨k1', -, -⟩ := h.sim.drew.rd (P := P) hold
          have hr := run_app_out (base := some (at_ E b of)) (len := len) (cap := cap) ht hu hnu hs hb hzv rfl gn (by simp only [Builtin.firstCells]; exact k1') g1' (by omega) hbd.2 (by omega) o.type
          rw [hrun _ _ hr]
          exact done_app (σ := σ) (E := E) h.sim (cap0 := cap) (e := e) hzsz hspos (by simp only [List.length_append, k2, g2, Nat.add_mul])
            (fun x hx => by rcases List.mem_append.1 hx with h | h; exact k3 x h; exact g3 x h)
      · rename_i s'
        split at he
        case isTrue => cases he
        rename_i hss
        have hss : s' = s := by
          rcases Nat.decEq s' s with h | h
          · exact absurd h hss
          · exact h
        subst hss
        split at he
        · rename_i hle
          split at he
          case h_2 => cases he
          rename_i m2 hw
          cases he
          obtain ⟨w', h4, h5, h6⟩ := h.sim.wr (P := P) hw g3
          have hknown : known m b ≤ (E b).tot := by
            unfold known
            split
            · rename_i W cs hb; exact (h.sim.blk b W cs hb).le
            · omega
          have hcap : len + n ≤ ((E b).tot - of) / s' := by rw [Nat.le_div_iff_mul_le hspos]; omega
          refine ⟨E, w', Agree.refl _ _, by omega, h5, ?_, .inl ?_⟩
          · exact A.ok.mono ok1 (by omega)
          · exact hrun _ _ (run_app_in (base := some (at_ E b of)) ht hu hnu hs rfl gn g1 hcap (by simp only [hadd]; exact h4) _)
        · rename_i hnk
          split at he
          case h_2 => cases he
          rename_i cs hbb
          split at he
          case isFalse => cases he
          rename_i hlen
          cases he
          obtain ⟨⟨arr, elem, fz, q1, q2, q3, q4⟩, q5, q6, q7⟩ := h.sim.blk b true cs hbb
          have q4 := q4 rfl
          have q6 := q6 rfl
          have hcells : ∀ x ∈ (cs.drop of).take (len * s') ++ new, A.ok m.length x := fun x hx => by
            rcases List.mem_append.1 hx with h' | h'
            · exact h.sim.sc b true cs hbb x (List.mem_of_mem_drop (List.mem_of_mem_take h'))
            · exact g3 x h'
          have hl1 : ((cs.drop of).take (len * s')).length = len * s' := by simp; omega
          have hdead := h.sim.dead b
          have hdl : (m.set b Blk.dead).length = m.length := by simp
          by_cases hcap : len + n ≤ ((E b).tot - of) / s'
          · have hmul : (len + n) * s' ≤ (E b).tot - of := (Nat.le_div_iff_mul_le hspos).1 hcap
            have hmul2 : (len + n) * s' = len * s' + n * s' := Nat.add_mul _ _ _
            have hsc := run_storeCells_put (P := P) (E b).blk ((E b).off + of + len * s') elem fz (new.map (cA σ E)) 0 w arr q1 (by simp; omega) (by simp; omega) (fun v hv => by
              obtain ⟨x, _, rfl⟩ := List.mem_map.1 hv; exact cA_oneCell σ E x)
            have hsim : Sim σ B w0 E (m.set b Blk.dead) (World.put w (E b).blk (.cells (spl arr ((E b).off + of + len * s' + 0) (new.map (cA σ E))) elem fz)) := by
              refine hdead.rewrite q1 q6 (spl_size _ _ _) rfl (fun b' x hb' => .inl ⟨hb', fun ho => ?_⟩)
              have hne : b' ≠ b := by
                intro e
                subst e
                unfold owned at ho
                rw [List.getElem?_set_self hblk] at ho
                exact ho
              refine h.sim.inj b' b hne ?_ (by unfold owned; rw [hbb]; trivial)
              unfold owned at ho ⊢
              rwa [List.getElem?_set_ne (fun e => hne e.symm)] at ho
            have hsim2 := hsim.adopt (blk := (E b).blk) (off := (E b).off + of) (tot := (E b).tot - of) (ty := 0) (cs := (cs.drop of).take (len * s') ++ new) (put_self _ _ _ (lt_of_heap q1)) q6 (by rw [spl_size]; omega)
              (by simp only [List.length_append, hl1, g2]; omega) (fun j x hx => by
                by_cases hj : j < len * s'
                · rw [List.getElem?_append_left (by omega), List.getElem?_take_of_lt hj, List.getElem?_drop] at hx
                  rw [spl_other _ _ _ _ (.inl (by omega)), Nat.add_assoc]
                  exact q3 (of + j) x hx
                · rw [List.getElem?_append_right (by omega), hl1] at hx
                  have hjn : j - len * s' < new.length := (List.getElem?_eq_some_iff.1 hx).1
                  have := spl_here (new.map (cA σ E)) arr ((E b).off + of + len * s' + 0) (j - len * s') (cA σ E x) (by simp; omega) (by rw [List.getElem?_map, hx]; rfl)
                  rwa [show (E b).off + of + len * s' + 0 + (j - len * s') = (E b).off + of + j by omega] at this) (by omega) (fun x hx => by rw [hdl]; exact hcells x hx) (fun b' ho => by
                have hne : b' ≠ b := by
                  intro e
                  subst e
                  unfold owned at ho
                  rw [List.getElem?_set_self hblk] at ho
                  exact ho
                refine h.sim.inj b' b hne ?_ (by unfold owned; rw [hbb]; trivial)
                unfold owned at ho ⊢
                rwa [List.getElem?_set_ne (fun e => hne e.symm)] at ho)
            rw [hdl] at hsim2
            refine ⟨_, _, E.up_agree _ _, by simp, hsim2, ?_, .inl ?_⟩
            · show m.length < _; simp
            · rw [hrun _ _ (run_app_in (base := some (at_ E b of)) ht hu hnu hs rfl gn g1 hcap (by simp only []; rw [hadd, show at_ E b (of + len * s') = ⟨(E b).blk, (E b).off + of + len * s', none⟩ by simp only [at_, Nat.add_assoc]]; exact hsc) _)]
              simp only [cV, cU, cA, at_, Emb.up_same, Nat.add_zero, Nat.sub_zero]
          · obtain ⟨k1, -, -⟩ := h.sim.drew.rd (P := P) (b := b) (o := of) (n := len * s') (cs := (cs.drop of).take (len * s')) (by
              unfold AL.rd; simp only [hbb]; rw [if_pos hlen])
            have hr := run_app_out (base := some (at_ E b of)) (len := len) (cap := ((E b).tot - of) / s') ht hu hnu hs hb hzv rfl gn (by simp only [Builtin.firstCells]; exact k1) g1' (by omega) hbd.2 (by omega) o.type
            rw [hrun _ _ hr]
            have := done_app (σ := σ) (E := E) hdead (cap0 := ((E b).tot - of) / s') (e := e) (old := (cs.drop of).take (len * s')) (new := new) (need := len + n) hzsz hspos
              (by simp only [List.length_append, hl1, g2, Nat.add_mul]) (fun x hx => by rw [hdl]; exact hcells x hx)
            unfold Done at this ⊢
            rw [hdl] at this
            exact this
  · cases he

theorem srcCells_len {s n : Nat} {y : A} {cs : List A} (hc : srcCells m s n y = some cs) (h : Sim σ B w0 E m w) : cs.length = n * s := (src_ok (P := default) h hc).2.1

end Go.AL
/-
  Operations one by one: copy, clear, composites, a string's iterator, nil tests. Then: every operation that is no call.
-/
namespace Go.AL
set_option linter.unusedSimpArgs false
set_option linter.unusedVariables false
open Go.RowKit

variable {σ : Nat → Nat} {B : Nat} {w0 : World} {E : Emb} {m m' : Mem} {w : World} {P : Program} {ρ : Nat → Option Nat} {nt : Nat} {fr : Fr} {a : Act} {call : CallE} {v : V} {o : Oper}

theorem op_cpy (h : St σ ρ B w0 nt E m w fr a) {t e : TypeId} {ts : List TypeId} {s : Nat} {x y : Operand} {x' y' : X} {c : Call} (ht : P.underlying t = some (.slice e)) (hs : szT P e = some s)
    (hx : cX ρ x = some x') (hy : cX ρ y = some y') (hc : c.callee = .builtin .copy) (hargs : c.args = #[x, y]) (hts : c.argTypes.toList = t :: ts)
    (ho : o.op = .call c) (he : opE call fr m (.cpy s x' y') = some (v, m')) : Done σ B w0 E m v m' ((execOp a.eval o).run P w) := by
  have hts0 : c.argTypes[0]? = some t := by rw [← Array.getElem?_toList, hts]; rfl
  simp only [opE] at he
  split at he
  case h_3 => cases he
  · rename_i q hp hq
    split at he
    case h_2 => cases he
    rename_i n hn
    cases he
    obtain ⟨h1, -⟩ := cXA h hx hp
    obtain ⟨h2, -⟩ := cXA h hy hq
    have gn := lenOf_ok (σ := σ) (E := E) (P := P) hn w
    have hf : (Builtin.firstCells s 0 (cA σ E q)).run P w = .ok #[] w := by
      cases q <;> simp only [lenA, Option.some.injEq, reduceCtorEq] at hn <;> simp [cA, Builtin.firstCells, loadCells, loadCellsFrom]
    refine Done.same h.sim ?_ ?_
    · trivial
    rw [call_builtin hc ho]
    simp only [cA] at h1
    generalize cA σ E q = vq at *
    simp [hargs, hts0, builtin, Builtin.copy_, run_underlying ht, h1, h2, cA, cV, cU, goInt, gn, run_size hs, hf]
  · rename_i d of len cp q hp hq
    split at he
    · cases he
    rename_i n hn
    split at he
    · cases he
    rename_i cs hcs
    split at he
    case h_2 => cases he
    rename_i m2 hw
    cases he
    obtain ⟨h1, -⟩ := cXA h hx hp
    obtain ⟨h2, -⟩ := cXA h hy hq
    have gn := lenOf_ok (σ := σ) (E := E) (P := P) hn w
    obtain ⟨g1, g2, g3⟩ := src_ok (P := P) h.sim hcs
    obtain ⟨w', h4, h5, h6⟩ := h.sim.wr (P := P) hw g3
    refine ⟨E, w', Agree.refl _ _, by omega, h5, trivial, .inl ?_⟩
    rw [call_builtin hc ho]
    have hmin : n.min len = min n len := rfl
    simp only [cA] at h1
    generalize cA σ E q = vq at *
    simp [hargs, hts0, builtin, Builtin.copy_, run_underlying ht, h1, h2, cA, cV, cU, goInt, gn, run_size hs, hmin, g1, h4]

theorem op_clr (h : St σ ρ B w0 nt E m w fr a) {t e : TypeId} {s : Nat} {z : List A} {x : Operand} {x' : X} {c : Call} (ht : P.underlying t = some (.slice e)) (hz : zeroT P e = some z) (hs0 : s ≠ 0) (hzs : z.length = s)
    (hx : cX ρ x = some x') (hc : c.callee = .builtin .clear) (hargs : c.args = #[x]) (hts : c.argTypes = #[t])
    (ho : o.op = .call c) (he : opE call fr m (.clr z x') = some (v, m')) : Done σ B w0 E m v m' ((execOp a.eval o).run P w) := by
  obtain ⟨zv, hzv, hzc, hzok⟩ := zeroT_ok hz σ E m.length
  simp only [opE] at he
  split at he
  · rename_i hp
    cases he
    obtain ⟨h1, -⟩ := cXA h hx hp
    refine Done.same h.sim ?_ ?_
    · intro x hx; cases hx
    rw [call_builtin hc ho]
    simp [hargs, hts, builtin, Builtin.clear_, run_underlying ht, h1, cA, cV]
  · rename_i b of len cp hp
    obtain ⟨h1, -⟩ := cXA h hx hp
    split at he
    · rename_i hl
      subst hl
      cases he
      refine Done.same h.sim ?_ ?_
      · intro x hx; cases hx
      rw [call_builtin hc ho]
      simp [hargs, hts, builtin, Builtin.clear_, run_underlying ht, h1, cA, cV]
    · rename_i hl
      split at he
      case h_2 => cases he
      rename_i m2 hw
      cases he
      obtain ⟨w', h4, h5, h6⟩ := h.sim.wr (P := P) hw (fun x hx => by
        obtain ⟨q, hq, hx⟩ := List.mem_flatten.1 hx
        rw [(List.mem_replicate.1 hq).2] at hx; exact hzok x hx)
      refine ⟨E, w', Agree.refl _ _, by omega, h5, (fun x hx => by cases hx), .inl ?_⟩
      rw [call_builtin hc ho]
      have hzc' : (Builtin.zeroCells zv.cells len).toList = ((List.replicate len z).flatten).map (cA σ E) := by
        have := range_flat z (cA σ E) len (by intro h; subst h; simp at hzs; omega)
        rw [hzc]
        unfold Builtin.zeroCells
        rw [show (List.map (cA σ E) z).toArray.size = z.length by simp] at this ⊢
        rw [this]
      obtain ⟨k, rfl⟩ : ∃ k, len = k + 1 := ⟨len - 1, by omega⟩
      simp only [hargs, hts, builtin, Builtin.clear_, Sem.run_bind, List.getElem?_toArray, List.getElem?_cons_zero, List.map_toArray, List.map_cons, List.map_nil, run_underlying ht, Result.andThen_ok, h1, cA, hzv, hzc', h4, Sem.run_pure]
      rfl
  · cases he

theorem run_mapM {α β : Type} (f : α → Sem β) (g : α → β) (w : World) : ∀ (l : List α), (∀ x ∈ l, (f x).run P w = .ok (g x) w) → (l.mapM f).run P w = .ok (l.map g) w
  | [], _ => by simp [Sem.run_pure]
  | x :: r, h => by
    rw [List.mapM_cons]
    simp [h x (by simp), run_mapM f g w r (fun y hy => h y (by simp [hy]))]

theorem op_build (h : St σ ρ B w0 nt E m w fr a) {t : TypeId} {z : List A} {ps : Array (Nat × Operand)} {ps' : List (Nat × Nat × X)} {place : Nat → Option (Nat × Nat)} (hz : zeroT P t = some z)
    (ht : (∃ fs, P.underlying t = some (.struct fs) ∧ fs.toList.all (fun f => (szT P f.type).isSome) = true ∧ place = fun i => (fs[i]?).bind fun f => (szT P f.type).map fun n => (f.offset, n)) ∨
      (∃ n e s, P.underlying t = some (.array n e) ∧ szT P e = some s ∧ place = fun i => some (i * s, s)))
    (hp : cParts ρ place ps.toList = some ps') (ho : o.op = .build t ps) (he : opE call fr m (.build z ps') = some (v, m')) : Done σ B w0 E m v m' ((execOp a.eval o).run P w) := by
  simp only [opE] at he
  split at he
  case h_2 => cases he
  rename_i cs hcs
  cases he
  obtain ⟨u, h1, h2, h3⟩ := zeroT_ok hz σ E m.length
  obtain ⟨h4, h5⟩ := fill_ok h _ hp hcs h3
  have hmap : (ps.map fun (i, x) => (i, a.eval x)).toList = ps.toList.map fun (i, x) => (i, a.eval x) := by simp
  refine Done.same h.sim ?_ ?_
  · exact h5
  rcases ht with ⟨fs, ht, hall, rfl⟩ | ⟨n, e, s, ht, hs, rfl⟩
  · have hm : (fs.mapM fun f => (do pure (f.offset, ← sizeOf f.type) : Sem (Nat × Nat))).run P w = .ok (fs.map fun f => (f.offset, (szT P f.type).getD 0)) w := by
      rw [Array.mapM_eq_mapM_toList]
      simp only [Sem.run_map]
      rw [run_mapM (P := P) _ (fun f => (f.offset, (szT P f.type).getD 0)) w fs.toList (fun f hf => by
        have := List.all_eq_true.1 hall f hf
        obtain ⟨n, hn⟩ := Option.isSome_iff_exists.1 this
        simp [run_size hn, hn])]
      simp only [Result.andThen_ok]
      rw [← Array.toList_map, Array.toArray_toList]
    have hpl : (fun (i : Nat) => (fs.map fun (f : Field) => (f.offset, (szT P f.type).getD 0))[i]?) = fun (i : Nat) => (fs[i]?).bind fun f => (szT P f.type).map fun n => (f.offset, n) := by
      funext i
      rw [Array.getElem?_map]
      cases hf : fs[i]? with
      | none => rfl
      | some f =>
        have := List.all_eq_true.1 hall f (by have := Array.mem_of_getElem? hf; simpa using this)
        obtain ⟨n, hn⟩ := Option.isSome_iff_exists.1 this
        simp [hn]
    simp only [execOp, ho, Instr.build, Sem.run_bind, h1, Result.andThen_ok, run_underlying ht, hm, hpl, h2, hmap, h4, Sem.run_pure, cV, cU]
  · simp only [execOp, ho, Instr.build, Sem.run_bind, h1, Result.andThen_ok, run_underlying ht, run_size hs, h2, hmap, h4, Sem.run_pure, cV, cU]

theorem run_getObj {r : Nat} {ob : Obj} (h : w.heap[r]? = some ob) (hn : ∀ c e f, ob ≠ .cells c e f) : (getObj r).run P w = .ok ob w := by
  cases ob <;> simp [getObj, Sem.run, h] <;> exact absurd rfl (hn _ _ _)
theorem run_setObj {r : Nat} {ob ob' : Obj} (h : w.heap[r]? = some ob) (hn : ∀ c e f, ob ≠ .cells c e f) : (setObj r ob').run P w = .ok () (World.put w r ob') := by
  cases ob <;> simp [setObj, Sem.run, h, World.put] <;> exact absurd rfl (hn _ _ _)

theorem op_rng (h : St σ ρ B w0 nt E m w fr a) {t : TypeId} {x : Operand} {x' : X} (ht : P.underlying t = some .string) (hx : cX ρ x = some x') (ho : o.op = .range t x)
    (he : opE call fr m (.rng x') = some (v, m')) : Done σ B w0 E m v m' ((execOp a.eval o).run P w) := by
  simp only [opE] at he
  split at he
  case h_2 => cases he
  rename_i s hs
  cases he
  obtain ⟨h1, -⟩ := cXA h hx hs
  refine ⟨_, _, E.up_agree _ _, by simp, h.sim.newIter s, ?_, .inl ?_⟩
  · show m.length < _; simp
  · simp only [execOp, ho, h1, cA, Instr.range, Sem.run_bind, run_underlying ht, Result.andThen_ok, Sem.run_pure, run_newObj, cV, cU, at_, Emb.up_same]
    rfl

theorem op_nxt (h : St σ ρ B w0 nt E m w fr a) {x : Operand} {x' : X} (hx : cX ρ x = some x') (ho : o.op = .next x true)
    (he : opE call fr m (.nxt x') = some (v, m')) : Done σ B w0 E m v m' ((execOp a.eval o).run P w) := by
  simp only [opE] at he
  split at he
  case h_2 => cases he
  rename_i b hp
  split at he
  case h_2 => cases he
  rename_i s pos hb
  obtain ⟨h1, -⟩ := cXA h hx hp
  obtain ⟨g1, g2, g3⟩ := h.sim.iter b s pos hb
  have hg := run_getObj (P := P) g1 (by intro c e f hh; cases hh)
  have h1' : a.eval x = .pointer (some ⟨(E b).blk, 0, none⟩) := by rw [h1]; simp only [cA, at_, g3]
  split at he
  · rename_i c hc
    split at he
    case isFalse => cases he
    rename_i hlt
    cases he
    obtain ⟨hpos, hcc⟩ := List.getElem?_eq_some_iff.1 hc
    have hdec : Utf8.decode ⟨s.toArray⟩ pos = (c.toNat, 1) := by
      have hget : (⟨s.toArray⟩ : ByteArray).get! (pos + 0) = c := by
        show s.toArray[pos + 0]! = c
        simp [hpos, hcc]
      simp only [Utf8.decode, hget]
      rw [if_pos hlt]
    have hset := run_setObj (P := P) (ob' := .stringIter ⟨s.toArray⟩ (pos + 1)) g1 (by intro c e f hh; cases hh)
    refine ⟨E, _, Agree.refl _ _, by simp, h.sim.moveIter hb (pos + 1), ?_, .inl ?_⟩
    · intro y hy
      simp at hy
      rcases hy with rfl | rfl | rfl <;> trivial
    · simp only [execOp, ho, h1', Instr.next, Sem.run_bind, hg, Result.andThen_ok, ba_size]
      rw [if_pos hpos]
      simp only [hdec, Sem.run_bind, hset, Result.andThen_ok, Sem.run_pure]
      rfl
  · rename_i hc
    cases he
    have hpos : ¬ pos < s.length := by
      intro hlt
      rw [List.getElem?_eq_getElem hlt] at hc
      cases hc
    refine Done.same h.sim ?_ ?_
    · intro y hy
      simp at hy
      subst hy; trivial
    · simp only [execOp, ho, h1', Instr.next, Sem.run_bind, hg, Result.andThen_ok, ba_size]
      rw [if_neg hpos]
      simp only [Sem.run_pure, Result.andThen_ok]
      rfl

theorem equal_iface {t : TypeId} {ms : Array (String × TypeId)} (h : P.underlying t = some (.interface ms)) (x : Value) (w : World) (t' : TypeId) :
    (Op.equal t .nilIface .nilIface).run P w = .ok true w ∧ (Op.equal t (.iface t' x) .nilIface).run P w = .ok false w := by
  have key : ∀ d, (Op.equalIn (d + 1) t .nilIface .nilIface).run P w = .ok true w ∧ (Op.equalIn (d + 1) t (.iface t' x) .nilIface).run P w = .ok false w := fun d => by
    constructor <;> simp [Op.equalIn, run_underlying h]
  exact key 9999
theorem equal_slice {t e : TypeId} (h : P.underlying t = some (.slice e)) (ad : Addr) (n k : Nat) (w : World) :
    (Op.equal t (.slice none 0 0) (.slice none 0 0)).run P w = .ok true w ∧ (Op.equal t (.slice (some ad) n k) (.slice none 0 0)).run P w = .ok false w := by
  have key : ∀ d, (Op.equalIn (d + 1) t (.slice none 0 0) (.slice none 0 0)).run P w = .ok true w ∧ (Op.equalIn (d + 1) t (.slice (some ad) n k) (.slice none 0 0)).run P w = .ok false w := fun d => by
    constructor <;> simp [Op.equalIn, run_underlying h]
  exact key 9999

theorem op_isn (h : St σ ρ B w0 nt E m w fr a) {t t' : TypeId} {x y : Operand} {x' : X} {ifc n : Bool} (hd : (∃ ms, ifc = true ∧ P.underlying t = some (.interface ms)) ∨ (∃ e, ifc = false ∧ P.underlying t = some (.slice e)))
    (hx : cX ρ x = some x') (hy : nilC ifc y = true) (ho : o.op = .binOp (if n then .neq else .eql) t x y t') (he : opE call fr m (.isn ifc n x') = some (v, m')) : Done σ B w0 E m v m' ((execOp a.eval o).run P w) := by
  simp only [opE] at he
  split at he
  case h_2 => cases he
  rename_i p hp
  obtain ⟨r, hr, he⟩ := Option.map_eq_some_iff.1 he
  cases he
  obtain ⟨h1, -⟩ := cXA h hx hp
  refine Done.same h.sim ?_ ?_
  · trivial
  rcases hd with ⟨ms, rfl, hd⟩ | ⟨e, rfl, hd⟩
  · have hy' : y = .const .nilIface := by
      unfold nilC at hy; split at hy <;> simp_all
    subst hy'
    have hc : ∀ v : Value, a.eval (.const v) = v := fun _ => rfl
    cases p <;> simp only [isNil, Option.some.injEq, reduceCtorEq] at hr <;> subst hr
    · rename_i b
      have := (equal_iface (P := P) hd (.pointer (some (at_ E b 0))) w (E b).ty).2
      cases n <;> simp [execOp, ho, h1, hc, cA, cV, cU, eqGuard_at_iface, binOp, this]
    · have := (equal_iface (P := P) hd .nilIface w 0).1
      cases n <;> simp [execOp, ho, h1, hc, cA, cV, cU, eqGuard_nil_constR, binOp, this]
  · have hy' : y = .const (.slice none 0 0) := by
      unfold nilC at hy; split at hy <;> simp_all
    subst hy'
    have hc : ∀ v : Value, a.eval (.const v) = v := fun _ => rfl
    cases p <;> simp only [isNil, Option.some.injEq, reduceCtorEq] at hr <;> subst hr
    · rename_i b of len c
      have := fun k => (equal_slice (P := P) hd (at_ E b of) len k w).2
      cases n <;> simp [execOp, ho, h1, hc, cA, cV, cU, eqGuard, binOp, this]
    · have := (equal_slice (P := P) hd default 0 0 w).1
      cases n <;> simp [execOp, ho, h1, hc, cA, cV, cU, eqGuard, binOp, this]

end Go.AL
/-
  Every operation that is no call: what the interpreter says is what the model does.
-/
namespace Go.AL
set_option linter.unusedSimpArgs false
set_option linter.unusedVariables false
open Go.RowKit

variable {σ : Nat → Nat} {B : Nat} {w0 : World} {E : Emb} {m m' : Mem} {w : World} {P : Program} {ρ : Nat → Option Nat} {nt : Nat} {fr : Fr} {a : Act} {call : CallE} {v : V} {o : Oper}

theorem arr1 {α : Type} {xs : Array α} {x : α} (h : xs.toList = [x]) : xs = #[x] := by rw [← Array.toArray_toList (xs := xs), h]
theorem arr2 {α : Type} {xs : Array α} {x y : α} (h : xs.toList = [x, y]) : xs = #[x, y] := by rw [← Array.toArray_toList (xs := xs), h]

theorem builtin_ok (h : St σ ρ B w0 nt E m w fr a) {b : Builtin} {c : Call} {oo : O} (hcal : c.callee = .builtin b) (ho : o.op = .call c) (hc : cBuiltin ρ P b c.args.toList c.argTypes.toList = some oo)
    (he : opE call fr m oo = some (v, m')) : Done σ B w0 E m v m' ((execOp a.eval o).run P w) := by
  generalize hal : c.args.toList = al at hc
  generalize htl : c.argTypes.toList = tl at hc
  unfold cBuiltin at hc
  split at hc
  · rename_i x y t u
    split at hc
    case h_2 => cases hc
    rename_i e d ht hu
    split at hc
    · cases hc
    rename_i hnu
    split at hc
    case h_2 => cases hc
    rename_i s b z x' y' hs hb hz hx hy
    split at hc
    · cases hc
    rename_i hs0
    cases hc
    exact op_app h ht hu (fun k hk => hnu k hk) hs hb hz (fun h0 => hs0 (.inl h0)) (Decidable.not_not.1 fun h0 => hs0 (.inr h0)) hx hy hcal (arr2 hal) (arr2 htl) ho he
  · rename_i x t
    split at hc
    · rename_i ht
      obtain ⟨x', hx, rfl⟩ := Option.map_eq_some_iff.1 hc
      exact op_lens h hx hcal (arr1 hal) (arr1 htl) ht ho he
    · rename_i e ht
      obtain ⟨x', hx, rfl⟩ := Option.map_eq_some_iff.1 hc
      exact op_len h hx hcal (arr1 hal) (arr1 htl) ht ho he
    · rename_i n e ht
      cases hc
      simp only [opE, ev] at he
      cases he
      refine Done.same h.sim ?_ ?_
      · trivial
      rw [call_builtin hcal ho]
      simp [arr1 hal, arr1 htl, builtin, Builtin.len_, run_underlying ht, cA, cV, cU, goInt]
    · rename_i p ht
      split at hc
      case h_2 => cases hc
      rename_i n e hp
      cases hc
      simp only [opE, ev] at he
      cases he
      refine Done.same h.sim ?_ ?_
      · trivial
      rw [call_builtin hcal ho]
      simp [arr1 hal, arr1 htl, builtin, Builtin.len_, run_underlying ht, run_underlying hp, cA, cV, cU, goInt]
    · cases hc
  · rename_i x y ts
    split at hc
    case h_2 => cases hc
    rename_i x' y' hx hy
    cases hc
    exact op_mn h hx hy hcal (arr2 hal) ho he
  · rename_i x y ts
    split at hc
    case h_2 => cases hc
    rename_i x' y' hx hy
    cases hc
    exact op_mx h hx hy hcal (arr2 hal) ho he
  · rename_i x y t ts
    split at hc
    case h_2 => cases hc
    rename_i e ht
    split at hc
    case h_2 => cases hc
    rename_i s x' y' hs hx hy
    cases hc
    exact op_cpy h ht hs hx hy hcal (arr2 hal) htl ho he
  · rename_i x t
    split at hc
    case h_2 => cases hc
    rename_i e ht
    split at hc
    case h_2 => cases hc
    rename_i s z x' hs hz hx
    split at hc
    · cases hc
    rename_i hs0
    cases hc
    exact op_clr h ht hz (fun h0 => hs0 (.inl h0)) (Decidable.not_not.1 fun h0 => hs0 (.inr h0)) hx hcal (arr1 hal) (arr1 htl) ho he
  · cases hc

set_option maxHeartbeats 2000000 in
theorem op_ok (h : St σ ρ B w0 nt E m w fr a) {oo : O} (hc : cOp ρ P o.op = some oo) (hnc : ∀ f xs, oo ≠ .call f xs) (hncv : ∀ x xs, oo ≠ .callv x xs)
    (he : opE call fr m oo = some (v, m')) : Done σ B w0 E m v m' ((execOp a.eval o).run P w) := by
  generalize hop : o.op = op at hc
  unfold cOp at hc
  split at hc
  · obtain ⟨x', hx, rfl⟩ := Option.map_eq_some_iff.1 hc; exact op_mov h hx (.inl hop) he
  · obtain ⟨x', hx, rfl⟩ := Option.map_eq_some_iff.1 hc; exact op_mov h hx (.inr hop) he
  · split at hc
    case h_2 => cases hc
    rename_i h1 h2 h3
    cases hc; exact op_pick h h1 h2 h3 hop he
  · obtain ⟨z, hz, rfl⟩ := Option.map_eq_some_iff.1 hc; exact op_alloc h hz hop he
  · obtain ⟨x', hx, rfl⟩ := Option.map_eq_some_iff.1 hc; exact op_box h hx hop he
  · -- build
    split at hc
    · rename_i z fs hz ht
      split at hc
      case isFalse => cases hc
      rename_i hall
      obtain ⟨ps', hps, rfl⟩ := Option.map_eq_some_iff.1 hc
      exact op_build h hz (.inl ⟨fs, ht, hall, rfl⟩) hps hop he
    · rename_i z n e hz ht
      split at hc
      case h_2 => cases hc
      rename_i s hs
      obtain ⟨ps', hps, rfl⟩ := Option.map_eq_some_iff.1 hc
      exact op_build h hz (.inr ⟨n, e, s, ht, hs, rfl⟩) hps hop he
    · cases hc
  · -- buildSlice
    split at hc
    case h_2 => cases hc
    rename_i e ht
    split at hc
    case h_2 => cases hc
    rename_i s z hs hz
    split at hc
    · cases hc
    rename_i hs0
    obtain ⟨ps', hps, rfl⟩ := Option.map_eq_some_iff.1 hc
    refine op_lit h ht hs hz (fun h0 => hs0 (.inl h0)) (Decidable.not_not.1 fun h0 => hs0 (.inr (.inl h0))) ?_ hps hop he
    exact Nat.le_of_not_lt fun h0 => hs0 (.inr (.inr h0))
  · -- load
    split at hc
    · rename_i n x' hg hn hx
      cases hc; exact op_load h hg (fun _ => hn) (fun h => by cases h) hx hop he
    · rename_i hg hn hx
      cases hc; exact op_load h hg (fun h => by cases h) (fun _ => rfl) hx hop he
    · cases hc
  · -- store
    split at hc
    case h_2 => cases hc
    rename_i hn hx hy
    cases hc; exact op_store h hn hx hy hop he
  · obtain ⟨x', hx, rfl⟩ := Option.map_eq_some_iff.1 hc; exact op_nilc h hx hop he
  · -- binOp
    rename_i bop t x y t'
    split at hc
    case h_2 => cases hc
    rename_i d x' y' hd hx hy
    split at hc
    · split at hc
      case isFalse => cases hc
      rename_i hib
      cases hc; exact op_bin h hx hy hib hop he
    · split at hc
      case isFalse => cases hc
      rename_i hib
      cases hc; exact op_bin h hx hy hib hop he
    · split at hc
      · cases hc; exact op_beq (n := false) h hx hy hd hop he
      · cases hc; exact op_beq (n := true) h hx hy hd hop he
      · cases hc
    · split at hc
      case isFalse => cases hc
      rename_i hnil
      split at hc
      · cases hc; exact op_isn (ifc := true) (n := false) h (.inl ⟨_, rfl, hd⟩) hx hnil hop he
      · cases hc; exact op_isn (ifc := true) (n := true) h (.inl ⟨_, rfl, hd⟩) hx hnil hop he
      · cases hc
    · split at hc
      case isFalse => cases hc
      rename_i hnil
      split at hc
      · cases hc; exact op_isn (ifc := false) (n := false) h (.inr ⟨_, rfl, hd⟩) hx hnil hop he
      · cases hc; exact op_isn (ifc := false) (n := true) h (.inr ⟨_, rfl, hd⟩) hx hnil hop he
      · cases hc
    · cases hc
  · obtain ⟨x', hx, rfl⟩ := Option.map_eq_some_iff.1 hc; exact op_neg h hx hop he
  · obtain ⟨x', hx, rfl⟩ := Option.map_eq_some_iff.1 hc; exact op_not h hx hop he
  · -- convert
    split at hc
    · rename_i hs ht hx
      cases hc; exact op_cvt h hx hs ht hop he
    · rename_i e x' hs ht hx
      split at hc
      case h_2 => cases hc
      rename_i hee
      cases hc; exact op_s2b h hs ht hee hx hop he
    · rename_i e x' hs ht hx
      split at hc
      case h_2 => cases hc
      rename_i hee
      cases hc; exact op_b2s h hs ht hee hx hop he
    · rename_i hs ht hx
      cases hc; exact op_i2s h hs ht hx hop he
    · cases hc
  · -- makeFunc
    split at hc
    case isFalse => cases hc
    rename_i h0
    split at hc
    case h_2 => cases hc
    rename_i hf hx
    cases hc; exact op_fnv h hf h0 hx hop he
  · -- makeSlice
    split at hc
    case h_2 => cases hc
    rename_i e ht
    split at hc
    case h_2 => cases hc
    rename_i s z b l' c' hs hz hb hl hcc
    split at hc
    · cases hc
    rename_i hs0
    cases hc
    exact op_mk h ht hs hz hb (fun h0 => hs0 (.inl h0)) (Decidable.not_not.1 fun h0 => hs0 (.inr h0)) hl hcc hop he
  · -- slice
    rename_i t x lo hi mx
    split at hc
    · rename_i x' lo' hi' ht hx hlo hhi hmx
      cases hc
      obtain ⟨rfl, -⟩ | ⟨_, _, _, hq, _⟩ := cXo_cases hmx
      · exact op_sstr h ht hx hlo hhi hop he
      · cases hq
    · rename_i e x' lo' hi' mx' ht hx hlo hhi hmx
      split at hc
      case h_2 => cases hc
      rename_i s hs
      split at hc
      · cases hc
      rename_i hmh
      cases hc
      exact op_slc h ht hs hx hlo hhi hmx hmh hop he
    · rename_i n e x' lo' hi' ht hx hlo hhi hmx
      split at hc
      case h_2 => cases hc
      rename_i s hs
      cases hc
      obtain ⟨rfl, -⟩ | ⟨_, _, _, hq, _⟩ := cXo_cases hmx
      · exact op_sarr h ht hs hx hlo hhi hop he
      · cases hq
    · cases hc
  · -- fieldAddr
    split at hc
    case h_2 => cases hc
    rename_i fs x' ht hx
    split at hc
    case h_2 => cases hc
    rename_i fd hf
    split at hc
    case h_2 => cases hc
    rename_i n hn
    split at hc
    · cases hc
    rename_i hn0
    cases hc; exact op_fadr h ht hf hn hn0 hx hop he
  · -- field
    split at hc
    case h_2 => cases hc
    rename_i fs x' ht hx
    split at hc
    case h_2 => cases hc
    rename_i fd hf
    split at hc
    case h_2 => cases hc
    rename_i g n hg hn
    cases hc; exact op_fld h ht hf hg hn hx hop he
  · -- indexAddr
    split at hc
    · rename_i e x' i' ht hx hi
      obtain ⟨s, hs, rfl⟩ := Option.map_eq_some_iff.1 hc
      exact op_ia h ht hs hx hi hop he
    · rename_i n e x' i' ht hx hi
      obtain ⟨s, hs, rfl⟩ := Option.map_eq_some_iff.1 hc
      exact op_iap h ht hs hx hi hop he
    · cases hc
  · -- index
    split at hc
    · rename_i x' i' ht hx hi
      cases hc; exact op_ixs h ht hx hi hop he
    · rename_i n e x' i' ht hx hi
      split at hc
      case h_2 => cases hc
      rename_i g s hg hs
      cases hc; exact op_ixa h ht hg hs hx hi hop he
    · cases hc
  · -- range
    split at hc
    case h_2 => cases hc
    rename_i ht
    obtain ⟨x', hx, rfl⟩ := Option.map_eq_some_iff.1 hc
    exact op_rng h ht hx hop he
  · obtain ⟨x', hx, rfl⟩ := Option.map_eq_some_iff.1 hc; exact op_nxt h hx hop he
  · obtain ⟨x', hx, rfl⟩ := Option.map_eq_some_iff.1 hc; exact op_ext h hx hop he
  · -- call
    rename_i c
    split at hc
    · rename_i hcal
      split at hc
      case h_2 => cases hc
      cases hc
      exact absurd rfl (hnc _ _)
    · obtain ⟨xs, hxs, rfl⟩ := Option.map_eq_some_iff.1 hc
      exact absurd rfl (hncv _ _)
    · rename_i b hcal
      exact builtin_ok h hcal hop hc he
    · cases hc
  · cases hc

end Go.AL
