/-
  Operations one by one: copy, clear, composites, a string's iterator, nil tests. Then: every operation that is no call.
-/
import Derived.Test.YtaamjlckaakenaaAlSound6
namespace Go.AL
set_option linter.unusedSimpArgs false
set_option linter.unusedVariables false
open Go.RowKit

variable {σ : Nat → Nat} {B : Nat} {w0 : World} {E : Emb} {m m' : Mem} {w : World} {P : Program} {ρ : Nat → Option Nat} {nt : Nat} {fr : Fr} {a : Act} {call : CallE} {v : V} {o : Oper}

theorem op_cpy (h : St σ ρ B w0 nt E m w fr a) {t e : TypeId} {ts : List TypeId} {s : Nat} {x y : Operand} {x' y' : X} {c : Call} (ht : P.underlying t = some (.slice e)) (hs : szT P e = some s)
    (hx : cX ρ x = some x') (hy : cX ρ y = some y') (hc : c.callee = .builtin .copy) (hargs : c.args = #[x, y]) (hts : c.argTypes.toList = t :: ts)
    (ho : o.op = .call c) (he : opE call fr m (.cpy s x' y') = some (v, m')) : Done σ B w0 E m v m' ((execOp a.eval o).run P w) := by
  have hts0 : c.argTypes[0]? = some t := by rw [← Array.getElem?_toList, hts]; rfl
  simp only [opE] at he
  split at he
  case h_3 => cases he
  · rename_i q hp hq
    split at he
    case h_2 => cases he
    rename_i n hn
    cases he
    obtain ⟨h1, -⟩ := cXA h hx hp
    obtain ⟨h2, -⟩ := cXA h hy hq
    have gn := lenOf_ok (σ := σ) (E := E) (P := P) hn w
    have hf : (Builtin.firstCells s 0 (cA σ E q)).run P w = .ok #[] w := by
      cases q <;> simp only [lenA, Option.some.injEq, reduceCtorEq] at hn <;> simp [cA, Builtin.firstCells, loadCells, loadCellsFrom]
    refine Done.same h.sim ?_ ?_
    · trivial
    rw [call_builtin hc ho]
    simp only [cA] at h1
    generalize cA σ E q = vq at *
    simp [hargs, hts0, builtin, Builtin.copy_, run_underlying ht, h1, h2, cA, cV, cU, goInt, gn, run_size hs, hf]
  · rename_i d of len cp q hp hq
    split at he
    · cases he
    rename_i n hn
    split at he
    · cases he
    rename_i cs hcs
    split at he
    case h_2 => cases he
    rename_i m2 hw
    cases he
    obtain ⟨h1, -⟩ := cXA h hx hp
    obtain ⟨h2, -⟩ := cXA h hy hq
    have gn := lenOf_ok (σ := σ) (E := E) (P := P) hn w
    obtain ⟨g1, g2, g3⟩ := src_ok (P := P) h.sim hcs
    obtain ⟨w', h4, h5, h6⟩ := h.sim.wr (P := P) hw g3
    refine ⟨E, w', Agree.refl _ _, by omega, h5, trivial, .inl ?_⟩
    rw [call_builtin hc ho]
    have hmin : n.min len = min n len := rfl
    simp only [cA] at h1
    generalize cA σ E q = vq at *
    simp [hargs, hts0, builtin, Builtin.copy_, run_underlying ht, h1, h2, cA, cV, cU, goInt, gn, run_size hs, hmin, g1, h4]

theorem op_clr (h : St σ ρ B w0 nt E m w fr a) {t e : TypeId} {s : Nat} {z : List A} {x : Operand} {x' : X} {c : Call} (ht : P.underlying t = some (.slice e)) (hz : zeroT P e = some z) (hs0 : s ≠ 0) (hzs : z.length = s)
    (hx : cX ρ x = some x') (hc : c.callee = .builtin .clear) (hargs : c.args = #[x]) (hts : c.argTypes = #[t])
    (ho : o.op = .call c) (he : opE call fr m (.clr z x') = some (v, m')) : Done σ B w0 E m v m' ((execOp a.eval o).run P w) := by
  obtain ⟨zv, hzv, hzc, hzok⟩ := zeroT_ok hz σ E m.length
  simp only [opE] at he
  split at he
  · rename_i hp
    cases he
    obtain ⟨h1, -⟩ := cXA h hx hp
    refine Done.same h.sim ?_ ?_
    · intro x hx; cases hx
    rw [call_builtin hc ho]
    simp [hargs, hts, builtin, Builtin.clear_, run_underlying ht, h1, cA, cV]
  · rename_i b of len cp hp
    obtain ⟨h1, -⟩ := cXA h hx hp
    split at he
    · rename_i hl
      subst hl
      cases he
      refine Done.same h.sim ?_ ?_
      · intro x hx; cases hx
      rw [call_builtin hc ho]
      simp [hargs, hts, builtin, Builtin.clear_, run_underlying ht, h1, cA, cV]
    · rename_i hl
      split at he
      case h_2 => cases he
      rename_i m2 hw
      cases he
      obtain ⟨w', h4, h5, h6⟩ := h.sim.wr (P := P) hw (fun x hx => by
        obtain ⟨q, hq, hx⟩ := List.mem_flatten.1 hx
        rw [(List.mem_replicate.1 hq).2] at hx; exact hzok x hx)
      refine ⟨E, w', Agree.refl _ _, by omega, h5, (fun x hx => by cases hx), .inl ?_⟩
      rw [call_builtin hc ho]
      have hzc' : (Builtin.zeroCells zv.cells len).toList = ((List.replicate len z).flatten).map (cA σ E) := by
        have := range_flat z (cA σ E) len (by intro h; subst h; simp at hzs; omega)
        rw [hzc]
        unfold Builtin.zeroCells
        rw [show (List.map (cA σ E) z).toArray.size = z.length by simp] at this ⊢
        rw [this]
      obtain ⟨k, rfl⟩ : ∃ k, len = k + 1 := ⟨len - 1, by omega⟩
      simp only [hargs, hts, builtin, Builtin.clear_, Sem.run_bind, List.getElem?_toArray, List.getElem?_cons_zero, List.map_toArray, List.map_cons, List.map_nil, run_underlying ht, Result.andThen_ok, h1, cA, hzv, hzc', h4, Sem.run_pure]
      rfl
  · cases he

theorem run_mapM {α β : Type} (f : α → Sem β) (g : α → β) (w : World) : ∀ (l : List α), (∀ x ∈ l, (f x).run P w = .ok (g x) w) → (l.mapM f).run P w = .ok (l.map g) w
  | [], _ => by simp [Sem.run_pure]
  | x :: r, h => by
    rw [List.mapM_cons]
    simp [h x (by simp), run_mapM f g w r (fun y hy => h y (by simp [hy]))]

theorem op_build (h : St σ ρ B w0 nt E m w fr a) {t : TypeId} {z : List A} {ps : Array (Nat × Operand)} {ps' : List (Nat × Nat × X)} {place : Nat → Option (Nat × Nat)} (hz : zeroT P t = some z)
    (ht : (∃ fs, P.underlying t = some (.struct fs) ∧ fs.toList.all (fun f => (szT P f.type).isSome) = true ∧ place = fun i => (fs[i]?).bind fun f => (szT P f.type).map fun n => (f.offset, n)) ∨
      (∃ n e s, P.underlying t = some (.array n e) ∧ szT P e = some s ∧ place = fun i => some (i * s, s)))
    (hp : cParts ρ place ps.toList = some ps') (ho : o.op = .build t ps) (he : opE call fr m (.build z ps') = some (v, m')) : Done σ B w0 E m v m' ((execOp a.eval o).run P w) := by
  simp only [opE] at he
  split at he
  case h_2 => cases he
  rename_i cs hcs
  cases he
  obtain ⟨u, h1, h2, h3⟩ := zeroT_ok hz σ E m.length
  obtain ⟨h4, h5⟩ := fill_ok h _ hp hcs h3
  have hmap : (ps.map fun (i, x) => (i, a.eval x)).toList = ps.toList.map fun (i, x) => (i, a.eval x) := by simp
  refine Done.same h.sim ?_ ?_
  · exact h5
  rcases ht with ⟨fs, ht, hall, rfl⟩ | ⟨n, e, s, ht, hs, rfl⟩
  · have hm : (fs.mapM fun f => (do pure (f.offset, ← sizeOf f.type) : Sem (Nat × Nat))).run P w = .ok (fs.map fun f => (f.offset, (szT P f.type).getD 0)) w := by
      rw [Array.mapM_eq_mapM_toList]
      simp only [Sem.run_map]
      rw [run_mapM (P := P) _ (fun f => (f.offset, (szT P f.type).getD 0)) w fs.toList (fun f hf => by
        have := List.all_eq_true.1 hall f hf
        obtain ⟨n, hn⟩ := Option.isSome_iff_exists.1 this
        simp [run_size hn, hn])]
      simp only [Result.andThen_ok]
      rw [← Array.toList_map, Array.toArray_toList]
    have hpl : (fun (i : Nat) => (fs.map fun (f : Field) => (f.offset, (szT P f.type).getD 0))[i]?) = fun (i : Nat) => (fs[i]?).bind fun f => (szT P f.type).map fun n => (f.offset, n) := by
      funext i
      rw [Array.getElem?_map]
      cases hf : fs[i]? with
      | none => rfl
      | some f =>
        have := List.all_eq_true.1 hall f (by have := Array.mem_of_getElem? hf; simpa using this)
        obtain ⟨n, hn⟩ := Option.isSome_iff_exists.1 this
        simp [hn]
    simp only [execOp, ho, Instr.build, Sem.run_bind, h1, Result.andThen_ok, run_underlying ht, hm, hpl, h2, hmap, h4, Sem.run_pure, cV, cU]
  · simp only [execOp, ho, Instr.build, Sem.run_bind, h1, Result.andThen_ok, run_underlying ht, run_size hs, h2, hmap, h4, Sem.run_pure, cV, cU]

theorem run_getObj {r : Nat} {ob : Obj} (h : w.heap[r]? = some ob) (hn : ∀ c e f, ob ≠ .cells c e f) : (getObj r).run P w = .ok ob w := by
  cases ob <;> simp [getObj, Sem.run, h] <;> exact absurd rfl (hn _ _ _)
theorem run_setObj {r : Nat} {ob ob' : Obj} (h : w.heap[r]? = some ob) (hn : ∀ c e f, ob ≠ .cells c e f) : (setObj r ob').run P w = .ok () (World.put w r ob') := by
  cases ob <;> simp [setObj, Sem.run, h, World.put] <;> exact absurd rfl (hn _ _ _)

theorem op_rng (h : St σ ρ B w0 nt E m w fr a) {t : TypeId} {x : Operand} {x' : X} (ht : P.underlying t = some .string) (hx : cX ρ x = some x') (ho : o.op = .range t x)
    (he : opE call fr m (.rng x') = some (v, m')) : Done σ B w0 E m v m' ((execOp a.eval o).run P w) := by
  simp only [opE] at he
  split at he
  case h_2 => cases he
  rename_i s hs
  cases he
  obtain ⟨h1, -⟩ := cXA h hx hs
  refine ⟨_, _, E.up_agree _ _, by simp, h.sim.newIter s, ?_, .inl ?_⟩
  · show m.length < _; simp
  · simp only [execOp, ho, h1, cA, Instr.range, Sem.run_bind, run_underlying ht, Result.andThen_ok, Sem.run_pure, run_newObj, cV, cU, at_, Emb.up_same]
    rfl

theorem op_nxt (h : St σ ρ B w0 nt E m w fr a) {x : Operand} {x' : X} (hx : cX ρ x = some x') (ho : o.op = .next x true)
    (he : opE call fr m (.nxt x') = some (v, m')) : Done σ B w0 E m v m' ((execOp a.eval o).run P w) := by
  simp only [opE] at he
  split at he
  case h_2 => cases he
  rename_i b hp
  split at he
  case h_2 => cases he
  rename_i s pos hb
  obtain ⟨h1, -⟩ := cXA h hx hp
  obtain ⟨g1, g2, g3⟩ := h.sim.iter b s pos hb
  have hg := run_getObj (P := P) g1 (by intro c e f hh; cases hh)
  have h1' : a.eval x = .pointer (some ⟨(E b).blk, 0, none⟩) := by rw [h1]; simp only [cA, at_, g3]
  split at he
  · rename_i c hc
    split at he
    case isFalse => cases he
    rename_i hlt
    cases he
    obtain ⟨hpos, hcc⟩ := List.getElem?_eq_some_iff.1 hc
    have hdec : Utf8.decode ⟨s.toArray⟩ pos = (c.toNat, 1) := by
      have hget : (⟨s.toArray⟩ : ByteArray).get! (pos + 0) = c := by
        show s.toArray[pos + 0]! = c
        simp [hpos, hcc]
      simp only [Utf8.decode, hget]
      rw [if_pos hlt]
    have hset := run_setObj (P := P) (ob' := .stringIter ⟨s.toArray⟩ (pos + 1)) g1 (by intro c e f hh; cases hh)
    refine ⟨E, _, Agree.refl _ _, by simp, h.sim.moveIter hb (pos + 1), ?_, .inl ?_⟩
    · intro y hy
      simp at hy
      rcases hy with rfl | rfl | rfl <;> trivial
    · simp only [execOp, ho, h1', Instr.next, Sem.run_bind, hg, Result.andThen_ok, ba_size]
      rw [if_pos hpos]
      simp only [hdec, Sem.run_bind, hset, Result.andThen_ok, Sem.run_pure]
      rfl
  · rename_i hc
    cases he
    have hpos : ¬ pos < s.length := by
      intro hlt
      rw [List.getElem?_eq_getElem hlt] at hc
      cases hc
    refine Done.same h.sim ?_ ?_
    · intro y hy
      simp at hy
      subst hy; trivial
    · simp only [execOp, ho, h1', Instr.next, Sem.run_bind, hg, Result.andThen_ok, ba_size]
      rw [if_neg hpos]
      simp only [Sem.run_pure, Result.andThen_ok]
      rfl

theorem equal_iface {t : TypeId} {ms : Array (String × TypeId)} (h : P.underlying t = some (.interface ms)) (x : Value) (w : World) (t' : TypeId) :
    (Op.equal t .nilIface .nilIface).run P w = .ok true w ∧ (Op.equal t (.iface t' x) .nilIface).run P w = .ok false w := by
  have key : ∀ d, (Op.equalIn (d + 1) t .nilIface .nilIface).run P w = .ok true w ∧ (Op.equalIn (d + 1) t (.iface t' x) .nilIface).run P w = .ok false w := fun d => by
    constructor <;> simp [Op.equalIn, run_underlying h]
  exact key 9999
theorem equal_slice {t e : TypeId} (h : P.underlying t = some (.slice e)) (ad : Addr) (n k : Nat) (w : World) :
    (Op.equal t (.slice none 0 0) (.slice none 0 0)).run P w = .ok true w ∧ (Op.equal t (.slice (some ad) n k) (.slice none 0 0)).run P w = .ok false w := by
  have key : ∀ d, (Op.equalIn (d + 1) t (.slice none 0 0) (.slice none 0 0)).run P w = .ok true w ∧ (Op.equalIn (d + 1) t (.slice (some ad) n k) (.slice none 0 0)).run P w = .ok false w := fun d => by
    constructor <;> simp [Op.equalIn, run_underlying h]
  exact key 9999

theorem op_isn (h : St σ ρ B w0 nt E m w fr a) {t t' : TypeId} {x y : Operand} {x' : X} {ifc n : Bool} (hd : (∃ ms, ifc = true ∧ P.underlying t = some (.interface ms)) ∨ (∃ e, ifc = false ∧ P.underlying t = some (.slice e)))
    (hx : cX ρ x = some x') (hy : nilC ifc y = true) (ho : o.op = .binOp (if n then .neq else .eql) t x y t') (he : opE call fr m (.isn ifc n x') = some (v, m')) : Done σ B w0 E m v m' ((execOp a.eval o).run P w) := by
  simp only [opE] at he
  split at he
  case h_2 => cases he
  rename_i p hp
  obtain ⟨r, hr, he⟩ := Option.map_eq_some_iff.1 he
  cases he
  obtain ⟨h1, -⟩ := cXA h hx hp
  refine Done.same h.sim ?_ ?_
  · trivial
  rcases hd with ⟨ms, rfl, hd⟩ | ⟨e, rfl, hd⟩
  · have hy' : y = .const .nilIface := by
      unfold nilC at hy; split at hy <;> simp_all
    subst hy'
    have hc : ∀ v : Value, a.eval (.const v) = v := fun _ => rfl
    cases p <;> simp only [isNil, Option.some.injEq, reduceCtorEq] at hr <;> subst hr
    · rename_i b
      have := (equal_iface (P := P) hd (.pointer (some (at_ E b 0))) w (E b).ty).2
      cases n <;> simp [execOp, ho, h1, hc, cA, cV, cU, eqGuard_at_iface, binOp, this]
    · have := (equal_iface (P := P) hd .nilIface w 0).1
      cases n <;> simp [execOp, ho, h1, hc, cA, cV, cU, eqGuard_nil_constR, binOp, this]
  · have hy' : y = .const (.slice none 0 0) := by
      unfold nilC at hy; split at hy <;> simp_all
    subst hy'
    have hc : ∀ v : Value, a.eval (.const v) = v := fun _ => rfl
    cases p <;> simp only [isNil, Option.some.injEq, reduceCtorEq] at hr <;> subst hr
    · rename_i b of len c
      have := fun k => (equal_slice (P := P) hd (at_ E b of) len k w).2
      cases n <;> simp [execOp, ho, h1, hc, cA, cV, cU, eqGuard, binOp, this]
    · have := (equal_slice (P := P) hd default 0 0 w).1
      cases n <;> simp [execOp, ho, h1, hc, cA, cV, cU, eqGuard, binOp, this]

end Go.AL
