/-
  Operations one by one: values.
-/
import Derived.Test.YtaamjlckaakenaaAlSound1
namespace Go.AL
set_option linter.unusedSimpArgs false
set_option linter.unusedVariables false
open Go.RowKit

variable {σ : Nat → Nat} {B : Nat} {w0 : World} {E : Emb} {m m' : Mem} {w : World} {P : Program} {ρ : Nat → Option Nat} {nt : Nat} {fr : Fr} {a : Act} {call : CallE} {v : V} {o : Oper}

theorem op_mov (h : St σ ρ B w0 nt E m w fr a) {x : Operand} {x' : X} (hx : cX ρ x = some x') (ho : o.op = .move x ∨ o.op = .assign x)
    (he : opE call fr m (.mov x') = some (v, m')) : Done σ B w0 E m v m' ((execOp a.eval o).run P w) := by
  simp only [opE] at he
  cases he
  obtain ⟨h1, h2⟩ := cX_ok h hx
  refine Done.same h.sim h2 ?_
  rcases ho with ho | ho <;> simp [execOp, ho, h1]

theorem op_pick (h : St σ ρ B w0 nt E m w fr a) {c x y : Operand} {c' x' y' : X} (hc : cX ρ c = some c') (hx : cX ρ x = some x') (hy : cX ρ y = some y') (ho : o.op = .pick c x y)
    (he : opE call fr m (.pick c' x' y') = some (v, m')) : Done σ B w0 E m v m' ((execOp a.eval o).run P w) := by
  simp only [opE] at he
  split at he
  case h_2 => cases he
  rename_i t ht
  cases he
  obtain ⟨h1, -⟩ := cXA h hc ht
  obtain ⟨h2, h3⟩ := cX_ok h hx
  obtain ⟨h4, h5⟩ := cX_ok h hy
  refine Done.same h.sim ?_ ?_
  · cases t <;> simp [h3, h5]
  · cases t <;> simp [execOp, ho, h1, cA, asBool, h2, h4]

theorem op_ext (h : St σ ρ B w0 nt E m w fr a) {x : Operand} {x' : X} {i : Nat} (hx : cX ρ x = some x') (ho : o.op = .extract x i)
    (he : opE call fr m (.ext x' i) = some (v, m')) : Done σ B w0 E m v m' ((execOp a.eval o).run P w) := by
  simp only [opE] at he
  split at he
  case h_2 => cases he
  rename_i vs hv
  obtain ⟨u, hu, he⟩ := Option.map_eq_some_iff.1 he
  cases he
  obtain ⟨h1, h2⟩ := cX_ok h hx
  rw [hv] at h1 h2
  refine Done.same h.sim ?_ ?_
  · exact h2 u (List.mem_of_getElem? hu)
  simp [execOp, ho, h1, cV, Instr.extract, hu]

theorem op_not (h : St σ ρ B w0 nt E m w fr a) {x : Operand} {x' : X} {t : TypeId} (hx : cX ρ x = some x') (ho : o.op = .unOp .not t x)
    (he : opE call fr m (.not x') = some (v, m')) : Done σ B w0 E m v m' ((execOp a.eval o).run P w) := by
  simp only [opE] at he
  split at he
  case h_2 => cases he
  rename_i b hb
  cases he
  obtain ⟨h1, -⟩ := cXA h hx hb
  refine Done.same h.sim ?_ ?_
  · trivial
  simp [execOp, ho, h1, cA, cV, cU, Op.unary]

theorem op_neg (h : St σ ρ B w0 nt E m w fr a) {x : Operand} {x' : X} {t : TypeId} (hx : cX ρ x = some x') (ho : o.op = .unOp .neg t x)
    (he : opE call fr m (.neg x') = some (v, m')) : Done σ B w0 E m v m' ((execOp a.eval o).run P w) := by
  simp only [opE] at he
  split at he
  case h_2 => cases he
  rename_i k n hb
  cases he
  obtain ⟨h1, -⟩ := cXA h hx hb
  refine Done.same h.sim ?_ ?_
  · trivial
  simp [execOp, ho, h1, cA, cV, cU, Op.unary, Op.intArith]

theorem equal_bool {t : TypeId} (h : P.underlying t = some .bool) (x y : Bool) (w : World) : (Op.equal t (.bool x) (.bool y)).run P w = .ok (x == y) w := by
  have key : ∀ d, (Op.equalIn (d + 1) t (.bool x) (.bool y)).run P w = .ok (x == y) w := fun d => by
    simp [Op.equalIn, run_underlying h]
  exact key 9999

theorem op_bin (h : St σ ρ B w0 nt E m w fr a) {x y : Operand} {x' y' : X} {op : BinOp} {t t' : TypeId} (hx : cX ρ x = some x') (hy : cX ρ y = some y')
    (hop : intBin op = true) (ho : o.op = .binOp op t x y t') (he : opE call fr m (.bin op x' y') = some (v, m')) : Done σ B w0 E m v m' ((execOp a.eval o).run P w) := by
  simp only [opE] at he
  split at he
  case h_2 => cases he
  rename_i p q hp hq
  obtain ⟨r, hr, he⟩ := Option.map_eq_some_iff.1 he
  cases he
  obtain ⟨h1, -⟩ := cXA h hx hp
  obtain ⟨h2, -⟩ := cXA h hy hq
  unfold binA at hr
  split at hr
  · rename_i k b k' b'
    split at hr
    · cases hr
    · rename_i hk
      have hk : k = k' := by simpa using hk
      subst hk
      refine Done.same h.sim ?_ ?_
      · cases op <;> simp [intBin] at hop <;> simp at hr <;> first | (subst hr; trivial) | (obtain ⟨_, rfl⟩ := hr; trivial)
      · cases op <;> simp [intBin] at hop <;> simp at hr <;>
          first
            | (subst hr; simp [execOp, ho, h1, h2, cA, cV, cU, Op.intArith, Op.intCmp, binOp, eqGuard])
            | (obtain ⟨hb, rfl⟩ := hr; simp [execOp, ho, h1, h2, cA, cV, cU, Op.intDiv, binOp, eqGuard, hb])
  · rename_i s s'
    refine Done.same h.sim ?_ ?_
    · cases op <;> simp [intBin] at hop <;> simp at hr <;> first | (subst hr; trivial) | (obtain ⟨_, rfl⟩ := hr; trivial)
    · cases op <;> simp [intBin] at hop <;> simp at hr <;>
        first
          | (subst hr; simp [execOp, ho, h1, h2, cA, cV, cU, Op.stringOp, binOp, eqGuard, less_eq]; done)
          | (obtain ⟨hb, rfl⟩ := hr
             have hlt : ¬ ((9223372036854775807 : Int) < (s.length : Int) + (s'.length : Int)) := by omega
             simp [execOp, ho, h1, h2, cA, cV, cU, Op.stringOp, binOp, eqGuard, ba_append, ba_size, hlt])
  · cases hr

theorem op_beq (h : St σ ρ B w0 nt E m w fr a) {x y : Operand} {x' y' : X} {t t' : TypeId} (hx : cX ρ x = some x') (hy : cX ρ y = some y') (hd : P.underlying t = some .bool)
    {n : Bool} (ho : o.op = .binOp (if n then .neq else .eql) t x y t') (he : opE call fr m (.beq n x' y') = some (v, m')) : Done σ B w0 E m v m' ((execOp a.eval o).run P w) := by
  simp only [opE] at he
  split at he
  case h_2 => cases he
  rename_i p q hp hq
  cases he
  obtain ⟨h1, -⟩ := cXA h hx hp
  obtain ⟨h2, -⟩ := cXA h hy hq
  refine Done.same h.sim ?_ ?_
  · trivial
  cases n <;> simp [execOp, ho, h1, h2, cA, cV, cU, binOp, eqGuard, equal_bool hd]

theorem op_cvt (h : St σ ρ B w0 nt E m w fr a) {x : Operand} {x' : X} {s t : TypeId} {k k0 : IntKind} (hx : cX ρ x = some x') (hs : P.underlying s = some (.int k0)) (ht : P.underlying t = some (.int k))
    (ho : o.op = .convert s t x) (he : opE call fr m (.cvt k x') = some (v, m')) : Done σ B w0 E m v m' ((execOp a.eval o).run P w) := by
  simp only [opE] at he
  split at he
  case h_2 => cases he
  rename_i k1 n hb
  cases he
  obtain ⟨h1, -⟩ := cXA h hx hb
  refine Done.same h.sim ?_ ?_
  · trivial
  simp [execOp, ho, h1, cA, cV, cU, convert, run_underlying hs, run_underlying ht, Conv.intToInt]

theorem call_builtin {b : Builtin} {c : Call} (hc : c.callee = .builtin b) (ho : o.op = .call c) :
    execOp a.eval o = builtin b c.argTypes o.type (c.args.map fun | .const _ => true | _ => false) (c.args.map a.eval) := by
  simp only [execOp, ho, resolve, hc]
  rfl

theorem op_lens (h : St σ ρ B w0 nt E m w fr a) {x : Operand} {x' : X} {t : TypeId} {c : Call} (hx : cX ρ x = some x') (hc : c.callee = .builtin .len) (hargs : c.args = #[x]) (hts : c.argTypes = #[t])
    (ht : P.underlying t = some .string) (ho : o.op = .call c) (he : opE call fr m (.lens x') = some (v, m')) : Done σ B w0 E m v m' ((execOp a.eval o).run P w) := by
  simp only [opE] at he
  split at he
  case h_2 => cases he
  rename_i s hs
  cases he
  obtain ⟨h1, -⟩ := cXA h hx hs
  refine Done.same h.sim ?_ ?_
  · trivial
  rw [call_builtin hc ho]
  simp [hargs, hts, builtin, Builtin.len_, run_underlying ht, h1, cA, cV, cU, goInt, ba_size]

theorem op_len (h : St σ ρ B w0 nt E m w fr a) {x : Operand} {x' : X} {t e : TypeId} {c : Call} (hx : cX ρ x = some x') (hc : c.callee = .builtin .len) (hargs : c.args = #[x]) (hts : c.argTypes = #[t])
    (ht : P.underlying t = some (.slice e)) (ho : o.op = .call c) (he : opE call fr m (.len x') = some (v, m')) : Done σ B w0 E m v m' ((execOp a.eval o).run P w) := by
  simp only [opE] at he
  split at he
  case h_3 => cases he
  all_goals
    rename_i hs
    cases he
    obtain ⟨h1, -⟩ := cXA h hx hs
    refine Done.same h.sim ?_ ?_
    · trivial
    rw [call_builtin hc ho]
    simp [hargs, hts, builtin, Builtin.len_, run_underlying ht, h1, cA, cV, cU, goInt]

end Go.AL
