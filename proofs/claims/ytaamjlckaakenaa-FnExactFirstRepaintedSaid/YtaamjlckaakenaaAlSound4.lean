/-
  Operations one by one: loads, stores, addresses, conversions.
-/
import Derived.Test.YtaamjlckaakenaaAlSound3
import Derived.Laws.BytesString
import Derived.Lib.ConvBytes
import Derived.Laws.AppendOwn
namespace Go.AL
set_option linter.unusedSimpArgs false
set_option linter.unusedVariables false
open Go.RowKit

variable {σ : Nat → Nat} {B : Nat} {w0 : World} {E : Emb} {m m' : Mem} {w : World} {P : Program} {ρ : Nat → Option Nat} {nt : Nat} {fr : Fr} {a : Act} {call : CallE} {v : V} {o : Oper}

theorem op_load (h : St σ ρ B w0 nt E m w fr a) {t : TypeId} {x : Operand} {x' : X} {g : Bool} {n : Nat} (hg : aggT P t = some g) (hn : g = true → szT P t = some n) (hn1 : g = false → n = 1) (hx : cX ρ x = some x')
    (ho : o.op = .load t x) (he : opE call fr m (.load g n x') = some (v, m')) : Done σ B w0 E m v m' ((execOp a.eval o).run P w) := by
  simp only [opE] at he
  split at he
  case h_2 => cases he
  rename_i b of hp
  split at he
  case h_2 => cases he
  rename_i cs hcs
  obtain ⟨h1, -⟩ := cXA h hx hp
  obtain ⟨h2, h3, h4⟩ := h.sim.rd (P := P) hcs
  cases g with
  | true =>
    simp only [if_true] at he
    cases he
    refine Done.same h.sim ?_ ?_
    · exact h4
    simp [execOp, ho, h1, cA, cV, cU, Instr.loadAt, Instr.sureAddr, loadVar, run_agg hg, run_size (hn rfl), h2]
  | false =>
    simp only [Bool.false_eq_true, if_false] at he
    obtain rfl := hn1 rfl
    split at he
    case h_2 => cases he
    cases he
    obtain ⟨h5, h6⟩ := h.sim.rd_one hcs
    refine Done.same h.sim ?_ ?_
    · exact h6
    simp [execOp, ho, h1, cA, cV, cU, Instr.loadAt, Instr.sureAddr, loadVar, run_agg hg, h5]

theorem op_store (h : St σ ρ B w0 nt E m w fr a) {t : TypeId} {x y : Operand} {x' y' : X} {n : Nat} (hn : szT P t = some n) (hx : cX ρ x = some x') (hy : cX ρ y = some y')
    (ho : o.op = .store t x y) (he : opE call fr m (.store n x' y') = some (v, m')) : Done σ B w0 E m v m' ((execOp a.eval o).run P w) := by
  simp only [opE] at he
  split at he
  case h_2 => cases he
  rename_i b of u hp hu
  split at he
  case isFalse => cases he
  rename_i hlen
  split at he
  case h_2 => cases he
  rename_i m2 hw
  cases he
  obtain ⟨h1, -⟩ := cXA h hx hp
  obtain ⟨h2, h3⟩ := cXU h hy hu
  obtain ⟨w', h4, h5, h6⟩ := h.sim.wr (P := P) hw (U.cells_ok h3)
  refine ⟨E, w', Agree.refl _ _, by omega, h5, trivial, .inr ⟨?_, rfl⟩⟩
  have hc := cU_cells σ E u
  simp only [execOp, ho, h1, h2, cA, Sem.run_bind, Instr.storeAt, Instr.sureAddr, Sem.run_pure, Result.andThen_ok, storeVar, run_size hn, hc]
  rw [if_neg (by simp [hlen])]
  rw [h4]
  rfl

theorem op_nilc (h : St σ ρ B w0 nt E m w fr a) {x : Operand} {x' : X} (hx : cX ρ x = some x') (ho : o.op = .nilCheck x)
    (he : opE call fr m (.nilc x') = some (v, m')) : Done σ B w0 E m v m' ((execOp a.eval o).run P w) := by
  simp only [opE] at he
  split at he
  case h_3 => cases he
  all_goals
    rename_i hp
    cases he
    obtain ⟨h1, h2⟩ := cXA h hx hp
    refine Done.same h.sim ?_ ?_
    · exact h2
    simp [execOp, ho, h1, cA, cV, cU]

theorem op_fadr (h : St σ ρ B w0 nt E m w fr a) {t : TypeId} {fs : Array Field} {f : Nat} {fd : Field} {n : Nat} {x : Operand} {x' : X} (ht : P.underlying t = some (.struct fs)) (hf : fs[f]? = some fd)
    (hn : szT P fd.type = some n) (hn0 : n ≠ 0) (hx : cX ρ x = some x') (ho : o.op = .fieldAddr t x f) (he : opE call fr m (.fadr fd.offset x') = some (v, m')) : Done σ B w0 E m v m' ((execOp a.eval o).run P w) := by
  simp only [opE] at he
  split at he
  case h_2 => cases he
  rename_i b of hp
  cases he
  obtain ⟨h1, h2⟩ := cXA h hx hp
  refine Done.same h.sim ?_ ?_
  · exact h2
  simp [execOp, ho, h1, cA, cV, cU, Instr.fieldAt, run_underlying ht, hf, Instr.sureAddr, fieldPlace, run_size hn, hn0, at_, addr_add, Nat.add_assoc]

theorem part_ok {t : TypeId} {g : Bool} {n off : Nat} {cs : List A} {v : V} {k : Nat} (hg : aggT P t = some g) (hn : szT P t = some n) (hp : AL.part g cs off n = some v) (hok : ∀ x ∈ cs, A.ok k x) (w : World) :
    (Go.part t (cs.map (cA σ E)).toArray off).run P w = .ok (cV σ E v) w ∧ v.ok k := by
  unfold AL.part at hp
  cases g with
  | true =>
    simp only [if_true] at hp
    cases hp
    refine ⟨?_, fun x hx => hok x (List.mem_of_mem_drop (List.mem_of_mem_take hx))⟩
    simp [Go.part, run_agg hg, run_size hn, cV, cU, List.extract_eq_take_drop]
  | false =>
    simp only [Bool.false_eq_true, if_false] at hp
    obtain ⟨x, hx, rfl⟩ := Option.map_eq_some_iff.1 hp
    refine ⟨?_, hok x (List.mem_of_getElem? hx)⟩
    simp [Go.part, run_agg hg, hx, cV, cU]

theorem op_fld (h : St σ ρ B w0 nt E m w fr a) {t : TypeId} {fs : Array Field} {f : Nat} {fd : Field} {n : Nat} {g : Bool} {x : Operand} {x' : X} (ht : P.underlying t = some (.struct fs)) (hf : fs[f]? = some fd)
    (hg : aggT P fd.type = some g) (hn : szT P fd.type = some n) (hx : cX ρ x = some x') (ho : o.op = .field t x f) (he : opE call fr m (.fld g fd.offset n x') = some (v, m')) : Done σ B w0 E m v m' ((execOp a.eval o).run P w) := by
  simp only [opE] at he
  split at he
  case h_2 => cases he
  rename_i cs hv
  obtain ⟨u, hu, he⟩ := Option.map_eq_some_iff.1 he
  cases he
  obtain ⟨h1, h2⟩ := cX_ok h hx
  rw [hv] at h1 h2
  obtain ⟨h3, h4⟩ := part_ok (σ := σ) (E := E) (P := P) hg hn hu h2 w
  refine Done.same h.sim h4 ?_
  simp [execOp, ho, h1, cV, cU, Instr.field, run_underlying ht, hf, asAgg]
  rw [h3]; rfl

theorem op_ia (h : St σ ρ B w0 nt E m w fr a) {t e : TypeId} {s : Nat} {x y : Operand} {x' y' : X} (ht : P.underlying t = some (.slice e)) (hs : szT P e = some s) (hx : cX ρ x = some x') (hy : cX ρ y = some y')
    (ho : o.op = .indexAddr t x y) (he : opE call fr m (.ia s x' y') = some (v, m')) : Done σ B w0 E m v m' ((execOp a.eval o).run P w) := by
  simp only [opE] at he
  split at he
  case h_2 => cases he
  rename_i b of len c k j hp hq
  split at he
  case isFalse => cases he
  rename_i hj
  cases he
  obtain ⟨h1, h2⟩ := cXA h hx hp
  obtain ⟨h3, -⟩ := cXA h hy hq
  refine Done.same h.sim ?_ ?_
  · exact h2
  simp only [execOp, ho, h1, h3, cA, cV, cU, Instr.indexAt, asIntOf, Sem.run_bind, Sem.run_pure, Result.andThen_ok, run_underlying ht]
  rw [if_pos hj]
  simp [run_size hs, at_, addr_add, Nat.add_assoc]

theorem op_iap (h : St σ ρ B w0 nt E m w fr a) {t e : TypeId} {n s : Nat} {x y : Operand} {x' y' : X} (ht : P.underlying t = some (.array n e)) (hs : szT P e = some s) (hx : cX ρ x = some x') (hy : cX ρ y = some y')
    (ho : o.op = .indexAddr t x y) (he : opE call fr m (.iap n s x' y') = some (v, m')) : Done σ B w0 E m v m' ((execOp a.eval o).run P w) := by
  simp only [opE] at he
  split at he
  case h_2 => cases he
  rename_i b of k j hp hq
  split at he
  case isFalse => cases he
  rename_i hj
  cases he
  obtain ⟨h1, h2⟩ := cXA h hx hp
  obtain ⟨h3, -⟩ := cXA h hy hq
  refine Done.same h.sim ?_ ?_
  · exact h2
  simp only [execOp, ho, h1, h3, cA, cV, cU, Instr.indexAt, asIntOf, Instr.sureAddr, Sem.run_bind, Sem.run_pure, Result.andThen_ok, run_underlying ht]
  rw [if_pos hj]
  simp [run_size hs, at_, addr_add, Nat.add_assoc]

theorem op_ixs (h : St σ ρ B w0 nt E m w fr a) {t : TypeId} {x y : Operand} {x' y' : X} (ht : P.underlying t = some .string) (hx : cX ρ x = some x') (hy : cX ρ y = some y')
    (ho : o.op = .index t x y) (he : opE call fr m (.ixs x' y') = some (v, m')) : Done σ B w0 E m v m' ((execOp a.eval o).run P w) := by
  simp only [opE] at he
  split at he
  case h_2 => cases he
  rename_i s k j hp hq
  split at he
  case isFalse => cases he
  rename_i hj
  obtain ⟨c, hc, he⟩ := Option.map_eq_some_iff.1 he
  cases he
  obtain ⟨h1, -⟩ := cXA h hx hp
  obtain ⟨h3, -⟩ := cXA h hy hq
  refine Done.same h.sim ?_ ?_
  · trivial
  have hget : (⟨s.toArray⟩ : ByteArray)[j.toNat]? = some c := by
    obtain ⟨hlt, hcc⟩ := List.getElem?_eq_some_iff.1 hc
    have hsz : j.toNat < (⟨s.toArray⟩ : ByteArray).size := by rw [ba_size]; exact hlt
    rw [getElem?_pos (⟨s.toArray⟩ : ByteArray) j.toNat hsz]
    subst hcc
    rfl
  simp only [execOp, ho, h1, h3, cA, cV, cU, Instr.index, asIntOf, Sem.run_bind, Sem.run_pure, Result.andThen_ok, run_underlying ht]
  rw [if_pos hj, hget]
  rfl

theorem op_ixa (h : St σ ρ B w0 nt E m w fr a) {t e : TypeId} {n s : Nat} {g : Bool} {x y : Operand} {x' y' : X} (ht : P.underlying t = some (.array n e)) (hg : aggT P e = some g) (hs : szT P e = some s) (hx : cX ρ x = some x') (hy : cX ρ y = some y')
    (ho : o.op = .index t x y) (he : opE call fr m (.ixa n s g x' y') = some (v, m')) : Done σ B w0 E m v m' ((execOp a.eval o).run P w) := by
  simp only [opE] at he
  split at he
  case h_2 => cases he
  rename_i cs k j hp hq
  split at he
  case isFalse => cases he
  rename_i hj
  obtain ⟨u, hu, he⟩ := Option.map_eq_some_iff.1 he
  cases he
  obtain ⟨h1, h2⟩ := cX_ok h hx
  rw [hp] at h1 h2
  obtain ⟨h3, -⟩ := cXA h hy hq
  obtain ⟨h4, h5⟩ := part_ok (σ := σ) (E := E) (P := P) hg hs hu h2 w
  refine Done.same h.sim h5 ?_
  simp only [execOp, ho, h1, h3, cA, cV, cU, Instr.index, asIntOf, Sem.run_bind, Sem.run_pure, Result.andThen_ok, run_underlying ht]
  rw [if_pos hj]
  simp only [Sem.run_bind, run_size hs, Result.andThen_ok, h4]
  rfl

theorem op_s2b (h : St σ ρ B w0 nt E m w fr a) {t u e : TypeId} {x : Operand} {x' : X} (ht : P.underlying t = some .string) (hu : P.underlying u = some (.slice e)) (hee : P.underlying e = some (.int .u8)) (hx : cX ρ x = some x')
    (ho : o.op = .convert t u x) (he : opE call fr m (.s2b x') = some (v, m')) : Done σ B w0 E m v m' ((execOp a.eval o).run P w) := by
  simp only [opE] at he
  split at he
  case h_2 => cases he
  rename_i s hs
  cases he
  obtain ⟨h1, -⟩ := cXA h hx hs
  have hrun := Lib.run_convert_string_bytes (P := P) w t u e ⟨s.toArray⟩ ht hu hee
  have hcap : s.length ≤ grownCap w s.length 0 e := grownCap_ge _ _ _ _
  have hcells : Lib.bytesCells w e ⟨s.toArray⟩ = ((u8s s).map (cA σ E)).toArray ++ Array.replicate (grownCap w s.length 0 e - s.length) (.int .u8 0) := by
    unfold Lib.bytesCells u8s
    rw [ba_size]
    simp [Function.comp_def, cA]
  have hsz : (Lib.bytesCells w e ⟨s.toArray⟩).size = grownCap w s.length 0 e := by
    rw [hcells]; simp [u8s]; omega
  have hsim : Sim σ B w0 E m (Lib.bytesWorld w e ⟨s.toArray⟩) := h.sim.ext rfl rfl rfl (by rw [Lib.bytesWorld_size]; omega) (fun k hk => Lib.bytesWorld_at_old w e _ k hk)
  refine ⟨_, _, E.up_agree _ _, by simp, hsim.adopt (blk := w.heap.size) (off := 0) (tot := grownCap w s.length 0 e) (ty := 0) (cs := u8s s) (Lib.bytesWorld_at_new w e _) h.sim.size
    (by omega) (by simp [u8s]; exact hcap) (fun j x hx => ?_) (.inr (by simp only [hsz]; omega)) (fun x hx => ?_) (fun b hb => ?_), ?_, .inl ?_⟩
  · rw [hcells]
    have hlt : j < (u8s s).length := (List.getElem?_eq_some_iff.1 hx).1
    rw [Nat.zero_add, Array.getElem?_append_left (by simpa using hlt)]
    simp [hx]
  · obtain ⟨c, _, rfl⟩ := List.mem_map.1 hx; trivial
  · have := h.sim.own_lt hb; omega
  · show m.length < _; simp
  · simp only [execOp, ho, h1, cA, Sem.run_bind]
    rw [hrun, ba_size]
    simp only [Result.andThen_ok, Sem.run_pure, cV, cU, cA, at_, Emb.up_same, Nat.sub_zero, Nat.div_one, Nat.add_zero]

theorem op_b2s (h : St σ ρ B w0 nt E m w fr a) {t u e : TypeId} {x : Operand} {x' : X} (ht : P.underlying t = some (.slice e)) (hu : P.underlying u = some .string) (hee : P.underlying e = some (.int .u8)) (hx : cX ρ x = some x')
    (ho : o.op = .convert t u x) (he : opE call fr m (.b2s x') = some (v, m')) : Done σ B w0 E m v m' ((execOp a.eval o).run P w) := by
  have hbytes : ∀ {cs : List A} {l : List UInt8}, bytesOf cs = some l → ∃ ns : List Int, cs.map (cA σ E) = ns.map (Value.int .u8) ∧
      ∀ acc : List UInt8, ns.foldl (fun (r : ByteArray) n => r.push (UInt8.ofNat n.toNat)) ⟨acc.toArray⟩ = ⟨(acc ++ l).toArray⟩ := by
    intro cs
    induction cs with
    | nil => intro l hl; cases hl; exact ⟨[], rfl, fun acc => by simp⟩
    | cons c r ih =>
      intro l hl
      unfold bytesOf at hl
      split at hl
      · rename_i hc; cases hc
      · rename_i n r' hc
        cases hc
        split at hl
        case h_2 => cases hl
        rename_i l' hl'
        cases hl
        obtain ⟨ns, h1, h2⟩ := ih hl'
        refine ⟨n :: ns, by simp [h1, cA], fun acc => ?_⟩
        have hpush : (⟨acc.toArray⟩ : ByteArray).push (UInt8.ofNat n.toNat) = ⟨(acc ++ [UInt8.ofNat n.toNat]).toArray⟩ := by
          simp [ByteArray.push]
        simp only [List.foldl_cons]
        rw [hpush, h2]
        simp
      · cases hl
  simp only [opE] at he
  split at he
  · rename_i hs
    cases he
    obtain ⟨h1, -⟩ := cXA h hx hs
    refine Done.same h.sim ?_ ?_
    · trivial
    simp only [execOp, ho, h1, cA, Sem.run_bind, run_convert_bytes_string w t u e _ _ _ ht hee hu]
    rfl
  · rename_i b of len c hs
    split at he
    case h_2 => cases he
    rename_i cs hcs
    obtain ⟨l, hl, he⟩ := Option.map_eq_some_iff.1 he
    cases he
    obtain ⟨h1, -⟩ := cXA h hx hs
    obtain ⟨h2, h3, h4⟩ := h.sim.rd (P := P) hcs
    obtain ⟨ns, h5, h6⟩ := hbytes hl
    rw [h5] at h2
    refine Done.same h.sim ?_ ?_
    · trivial
    simp only [execOp, ho, h1, cA, Sem.run_bind, run_convert_bytes_string w t u e _ _ _ ht hee hu, run_bytesToString w _ _ _ ns h2, Result.andThen_ok, Sem.run_pure]
    have := h6 []
    simp only [List.nil_append] at this
    rw [show ByteArray.empty = (⟨([] : List UInt8).toArray⟩ : ByteArray) from rfl, this]
    rfl
  · cases he

theorem op_i2s (h : St σ ρ B w0 nt E m w fr a) {t u : TypeId} {k : IntKind} {x : Operand} {x' : X} (ht : P.underlying t = some (.int k)) (hu : P.underlying u = some .string) (hx : cX ρ x = some x')
    (ho : o.op = .convert t u x) (he : opE call fr m (.i2s x') = some (v, m')) : Done σ B w0 E m v m' ((execOp a.eval o).run P w) := by
  simp only [opE] at he
  split at he
  case h_2 => cases he
  rename_i k' n hs
  split at he
  case isFalse => cases he
  rename_i hn
  cases he
  obtain ⟨h1, -⟩ := cXA h hx hs
  refine Done.same h.sim ?_ ?_
  · trivial
  have henc : Utf8.encode n = ⟨#[UInt8.ofNat n.toNat]⟩ := by
    have hv : Utf8.valid n = true := by simp [Utf8.valid]; omega
    have hc : n.toNat < 128 := by omega
    simp only [Utf8.encode, hv, if_true]
    rw [if_pos hc]
  simp [execOp, ho, h1, cA, cV, cU, convert, run_underlying ht, run_underlying hu, Conv.intToString, henc]

theorem op_mn (h : St σ ρ B w0 nt E m w fr a) {x y : Operand} {x' y' : X} {c : Call} (hx : cX ρ x = some x') (hy : cX ρ y = some y') (hc : c.callee = .builtin .min) (hargs : c.args = #[x, y])
    (ho : o.op = .call c) (he : opE call fr m (.mn x' y') = some (v, m')) : Done σ B w0 E m v m' ((execOp a.eval o).run P w) := by
  simp only [opE] at he
  split at he
  case h_2 => cases he
  rename_i k p k' q hp hq
  split at he
  case isFalse => cases he
  rename_i hk
  subst hk
  cases he
  obtain ⟨h1, -⟩ := cXA h hx hp
  obtain ⟨h2, -⟩ := cXA h hy hq
  refine Done.same h.sim ?_ ?_
  · trivial
  rw [call_builtin hc ho]
  simp [hargs, builtin, Builtin.min_, Builtin.min2, h1, h2, cA, cV, cU]

theorem op_mx (h : St σ ρ B w0 nt E m w fr a) {x y : Operand} {x' y' : X} {c : Call} (hx : cX ρ x = some x') (hy : cX ρ y = some y') (hc : c.callee = .builtin .max) (hargs : c.args = #[x, y])
    (ho : o.op = .call c) (he : opE call fr m (.mx x' y') = some (v, m')) : Done σ B w0 E m v m' ((execOp a.eval o).run P w) := by
  simp only [opE] at he
  split at he
  case h_2 => cases he
  rename_i k p k' q hp hq
  split at he
  case isFalse => cases he
  rename_i hk
  subst hk
  cases he
  obtain ⟨h1, -⟩ := cXA h hx hp
  obtain ⟨h2, -⟩ := cXA h hy hq
  refine Done.same h.sim ?_ ?_
  · trivial
  rw [call_builtin hc ho]
  simp [hargs, builtin, Builtin.max_, Builtin.max2, h1, h2, cA, cV, cU]

theorem op_fnv (h : St σ ρ B w0 nt E m w fr a) {f g : Nat} {caps first : Array Operand} {xs : List X} (hf : ρ f = some g) (h0 : first.size = 0) (hx : cXs ρ caps.toList = some xs)
    (ho : o.op = .makeFunc (.func f) first caps) (he : opE call fr m (.fnv g xs) = some (v, m')) : Done σ B w0 E m v m' ((execOp a.eval o).run P w) := by
  have key : ∀ {cs : List Operand} {xs : List X} {l : List (Nat × Nat)}, cXs ρ cs = some xs → atoms xs fr = some l →
      cs.map a.eval = l.map (fun p => Value.pointer (some (at_ E p.1 p.2))) ∧ ∀ p ∈ l, p.1 < m.length := by
    intro cs
    induction cs with
    | nil => intro xs l h1 h2; cases h1; cases h2; simp
    | cons c r ih =>
      intro xs l h1 h2
      simp only [cXs] at h1
      split at h1
      case h_2 => cases h1
      rename_i y l1 hy hl1
      cases h1
      simp only [atoms] at h2
      split at h2
      case h_2 => cases h2
      rename_i b of l2 hb hl2
      cases h2
      obtain ⟨h3, h4⟩ := ih hl1 hl2
      obtain ⟨h5, h6⟩ := cXA h hy hb
      refine ⟨by simp [h3, h5, cA], fun p hp => ?_⟩
      rcases List.mem_cons.1 hp with rfl | hp
      · exact h6
      · exact h4 p hp
  simp only [opE] at he
  split at he
  case h_2 => cases he
  rename_i l hl
  cases he
  obtain ⟨h1, h2⟩ := key hx hl
  refine Done.same h.sim ?_ ?_
  · exact h2
  have hfirst : first = #[] := Array.size_eq_zero_iff.1 h0
  have hcaps : caps.map a.eval = (l.map fun p => Value.pointer (some (at_ E p.1 p.2))).toArray := by
    rw [← h1, ← Array.toList_map, Array.toArray_toList]
  simp [execOp, ho, cV, cU, cA, Instr.makeFunc, hfirst, hcaps, h.fm f g hf]

end Go.AL
