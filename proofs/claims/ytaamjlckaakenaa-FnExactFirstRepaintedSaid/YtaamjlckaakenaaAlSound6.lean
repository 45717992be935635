/-
  Operations one by one: append, copy, clear.
-/
import Derived.Test.YtaamjlckaakenaaAlSound5
namespace Go.AL
set_option linter.unusedSimpArgs false
set_option linter.unusedVariables false
open Go.RowKit

variable {σ : Nat → Nat} {B : Nat} {w0 : World} {E : Emb} {m m' : Mem} {w : World} {P : Program} {ρ : Nat → Option Nat} {nt : Nat} {fr : Fr} {a : Act} {call : CallE} {v : V} {o : Oper}

theorem lenOf_ok {y : A} {n : Nat} (h : lenA y = some n) (w : World) : (Builtin.lenOf (cA σ E y)).run P w = .ok n w := by
  cases y <;> simp only [lenA, Option.some.injEq, reduceCtorEq] at h <;> subst h <;> simp [cA, Builtin.lenOf, ba_size]

theorem src_ok (h : Sim σ B w0 E m w) {s n : Nat} {y : A} {cs : List A} (hc : srcCells m s n y = some cs) :
    (Builtin.firstCells s n (cA σ E y)).run P w = .ok (cs.map (cA σ E)).toArray w ∧ cs.length = n * s ∧ ∀ x ∈ cs, A.ok m.length x := by
  unfold srcCells at hc
  split at hc
  · split at hc
    case isFalse => cases hc
    rename_i hn
    cases hc; subst hn
    exact ⟨by simp [cA, Builtin.firstCells], by simp, by simp⟩
  · split at hc
    case isFalse => cases hc
    obtain ⟨h1, h2, h3⟩ := h.rd (P := P) hc
    exact ⟨by simp only [cA, Builtin.firstCells]; exact h1, h2, h3⟩
  · split at hc
    case isFalse => cases hc
    rename_i t hn
    cases hc
    obtain ⟨rfl, hn⟩ := hn
    refine ⟨?_, by simp [u8s]; omega, fun x hx => ?_⟩
    · simp only [cA, Builtin.firstCells, ba_extract, Sem.run_pure]
      simp [u8s, cA, Function.comp_def]
    · obtain ⟨c, _, rfl⟩ := List.mem_map.1 hx; trivial
  · cases hc

theorem growBy_le (n : Nat) : ∀ (r c : Nat), Builtin.growBy n r c ≤ max c (n + (n + 768) / 4)
  | 0, c => by simp only [Builtin.growBy]; omega
  | r + 1, c => by
    simp only [Builtin.growBy]
    split
    · omega
    · have := growBy_le n r (c + (c + 768) / 4)
      omega

theorem nsc_le {need cap : Nat} (h : cap < need) : Builtin.nextslicecap need cap ≤ 2 * need + 192 := by
  unfold Builtin.nextslicecap
  split
  · omega
  · split
    · omega
    · have := growBy_le need 4 cap
      omega

/-- The model's append where the capacity does. -/
theorem run_app_in {t u e : TypeId} {s n len cap : Nat} {du : TypeDesc} {x y : Value} {base : Option Addr} {new : Array Value} {w w' : World} (ht : P.underlying t = some (.slice e)) (hu : P.underlying u = some du) (hnu : ∀ k, du ≠ .int k)
    (hs : szT P e = some s) (hx : x = .slice base len cap) (hn : (Builtin.lenOf y).run P w = .ok n w) (hnew : (Builtin.firstCells s n y).run P w = .ok new w) (hle : len + n ≤ cap)
    (hst : match base with
      | some a => (storeCells (a.add (len * s)) new.toList).run P w = .ok () w'
      | none => w' = w) (ty : TypeId) : (Builtin.append_ #[t, u] ty #[x, y]).run P w = .ok (.slice base (len + n) cap) w' := by
  subst hx
  cases du with
  | int k => exact absurd rfl (hnu k)
  | _ =>
    simp only [Builtin.append_, List.getElem?_toArray, List.getElem?_cons_zero, List.getElem?_cons_succ, Sem.run_bind, run_underlying ht, run_underlying hu, Result.andThen_ok, run_size hs, Sem.run_pure, Bool.false_eq_true, if_false, hn]
    rw [if_pos hle]
    cases base with
    | none =>
      simp only at hst
      subst hst
      simp [hnew]
    | some a =>
      simp only at hst
      simp [hnew, hst]

/-- The model's append where it does not. -/
theorem run_app_out {t u e : TypeId} {s by_ n len cap : Nat} {du : TypeDesc} {x y z : Value} {base : Option Addr} {old new : Array Value} {w : World} (ht : P.underlying t = some (.slice e)) (hu : P.underlying u = some du) (hnu : ∀ k, du ≠ .int k)
    (hs : szT P e = some s) (hb : bytesT P e = some by_) (hz : ∀ w, (zeroValue e).run P w = .ok z w) (hx : x = .slice base len cap) (hn : (Builtin.lenOf y).run P w = .ok n w)
    (hold : (Builtin.firstCells s len x).run P { w with drawn := w.drawn + 1 } = .ok old { w with drawn := w.drawn + 1 }) (hnew : (Builtin.firstCells s n y).run P { w with drawn := w.drawn + 1 } = .ok new { w with drawn := w.drawn + 1 }) (hgt : cap < len + n) (hbound : (len + n) * by_ ≤ 1099511627776) (hsmall : len + n ≤ 9223372036854775807) (ty : TypeId) :
    (Builtin.append_ #[t, u] ty #[x, y]).run P w = .ok (.slice (some ⟨w.heap.size, 0, none⟩) (len + n) (grownCap w (len + n) cap e))
      { w with drawn := w.drawn + 1, heap := w.heap.push (.cells (old ++ new ++ Builtin.zeroCells z.cells (grownCap w (len + n) cap e - (len + n))) e) } := by
  subst hx
  obtain ⟨i, g4, g5⟩ : ∃ i, (∀ w, (typeInfo e).run P w = .ok i w) ∧ i.bytes = by_ := by
    unfold bytesT at hb
    obtain ⟨i, hi, rfl⟩ := Option.map_eq_some_iff.1 hb
    exact ⟨i, fun w => run_info hi w, rfl⟩
  have hnsc := nsc_le hgt
  have hno : ¬ 281474976710656 < Builtin.nextslicecap (len + n) cap * by_ := by
    have h1 : Builtin.nextslicecap (len + n) cap * by_ ≤ (2 * (len + n) + 192) * by_ := Nat.mul_le_mul_right _ hnsc
    have h2 : 1 * by_ ≤ (len + n) * by_ := Nat.mul_le_mul_right _ (by omega)
    have h3 : (2 * (len + n) + 192) * by_ = 2 * ((len + n) * by_) + 192 * by_ := by rw [Nat.add_mul, Nat.mul_assoc]
    omega
  have hq : (Question.appendCap (len + n) cap e).forced = false := rfl
  have hint : ¬ ((9223372036854775807 : Int) < ((len + n : Nat) : Int)) := by omega
  have hno' : ¬ (2 ^ 48 < Builtin.nextslicecap (len + n) cap * by_) := hno
  cases du with
  | int k => exact absurd rfl (hnu k)
  | _ =>
    simp only [Builtin.append_, List.getElem?_toArray, List.getElem?_cons_zero, List.getElem?_cons_succ, Sem.run_bind, run_underlying ht, run_underlying hu, Result.andThen_ok, run_size hs, Sem.run_pure, Bool.false_eq_true, if_false, hn, false_or]
    rw [if_neg (by omega)]
    simp only [Sem.run_bind, g4, Result.andThen_ok, g5, IntKind.max_i64, gt_iff_lt, hint, false_and, if_false]
    simp only [hno', if_false, Sem.run_bind, run_choose, hq, Bool.false_eq_true, Result.andThen_ok, run_askRoom, hz, newRow, run_newObj, Sem.run_pure, Sem.run_ite, g4]
    rw [hold]
    simp only [Result.andThen_ok, Bool.not_false, if_true]
    rw [hnew]
    simp only [Result.andThen_ok]
    rfl

theorem zeroCells_size (z : Array Value) (n : Nat) : (Builtin.zeroCells z n).size = n * z.size := by simp [Builtin.zeroCells]

/-- Behind an append into new memory. -/
theorem done_app (h : Sim σ B w0 E m w) {s cap0 need : Nat} {e : TypeId} {old new : List A} {zc : Array Value} (hzs : zc.size = s) (hs0 : 0 < s) (hlen : (old ++ new).length = need * s)
    (hok : ∀ x ∈ old ++ new, A.ok m.length x) :
    Done σ B w0 E m (.a (.sl m.length 0 need (.rest s))) (m ++ [.cells true (old ++ new)]) (.ok (.value (.slice (some ⟨w.heap.size, 0, none⟩) need (grownCap w need cap0 e)))
      { w with drawn := w.drawn + 1, heap := w.heap.push (.cells ((old.map (cA σ E)).toArray ++ (new.map (cA σ E)).toArray ++ Builtin.zeroCells zc (grownCap w need cap0 e - need)) e) }) := by
  have hcap := grownCap_ge w need cap0 e
  have hmul : need * s ≤ grownCap w need cap0 e * s := Nat.mul_le_mul_right _ hcap
  have := done_slice h.drew ((old.map (cA σ E)).toArray ++ (new.map (cA σ E)).toArray ++ Builtin.zeroCells zc (grownCap w need cap0 e - need)) e (old ++ new) (grownCap w need cap0 e * s) need (grownCap w need cap0 e) (.rest s)
    (by
      have hlen' : old.length + new.length = need * s := by simpa using hlen
      simp only [Array.size_append, List.size_toArray, List.length_map, zeroCells_size, hzs, Nat.sub_mul]
      omega) (by omega) (fun j x hx => by
      have hlt : j < (old ++ new).length := (List.getElem?_eq_some_iff.1 hx).1
      rw [Array.getElem?_append_left (by simpa using hlt)]
      rw [show (old.map (cA σ E)).toArray ++ (new.map (cA σ E)).toArray = ((old ++ new).map (cA σ E)).toArray by simp]
      rw [List.getElem?_toArray, List.getElem?_map, hx]; rfl) hok (by simp [Nat.mul_div_cancel _ hs0])
  exact this

theorem run_append_op {c : Call} {x y : Operand} {vx vy r : Value} {t u : TypeId} {w' : World} (hc : c.callee = .builtin .append) (hargs : c.args = #[x, y]) (hts : c.argTypes = #[t, u]) (ho : o.op = .call c)
    (hx : a.eval x = vx) (hy : a.eval y = vy) (hr : (Builtin.append_ #[t, u] o.type #[vx, vy]).run P w = .ok r w') : (execOp a.eval o).run P w = .ok (.value r) w' := by
  rw [call_builtin hc ho]
  simp only [hargs, hts, builtin]
  have hmap : (#[x, y] : Array Operand).map a.eval = #[vx, vy] := by simp [hx, hy]
  rw [hmap]
  simp only [Sem.run_bind, hr, Result.andThen_ok, Sem.run_pure]

set_option maxHeartbeats 1000000 in
theorem op_app (h : St σ ρ B w0 nt E m w fr a) {t u e : TypeId} {du : TypeDesc} {s by_ : Nat} {z : List A} {x y : Operand} {x' y' : X} {c : Call} (ht : P.underlying t = some (.slice e)) (hu : P.underlying u = some du) (hnu : ∀ k, du ≠ .int k)
    (hs : szT P e = some s) (hb : bytesT P e = some by_) (hz : zeroT P e = some z) (hs0 : s ≠ 0) (hzs : z.length = s) (hx : cX ρ x = some x') (hy : cX ρ y = some y') (hc : c.callee = .builtin .append) (hargs : c.args = #[x, y]) (hts : c.argTypes = #[t, u])
    (ho : o.op = .call c) (he : opE call fr m (.app s by_ x' y') = some (v, m')) : Done σ B w0 E m v m' ((execOp a.eval o).run P w) := by
  simp only [opE] at he
  split at he
  case h_2 => cases he
  rename_i p q hp hq
  obtain ⟨h1, ok1⟩ := cXA h hx hp
  obtain ⟨h2, -⟩ := cXA h hy hq
  have hrun := fun r w' hr => run_append_op (P := P) (w := w) (r := r) (w' := w') hc hargs hts ho h1 h2 hr
  obtain ⟨zv, hzv, hzc, -⟩ := zeroT_ok hz σ E m.length
  have hzsz : zv.cells.size = s := by rw [hzc]; simpa using hzs
  have hspos : 0 < s := Nat.pos_of_ne_zero hs0
  unfold appE at he
  split at he
  · cases he
  rename_i n hn
  split at he
  · cases he
  rename_i new hnew
  have gn := lenOf_ok (σ := σ) (E := E) (P := P) hn w
  obtain ⟨g1, g2, g3⟩ := src_ok (P := P) h.sim hnew
  obtain ⟨g1', -, -⟩ := src_ok (P := P) h.sim.drew hnew
  split at he
  · split at he
    · rename_i hn0
      subst hn0
      cases he
      refine Done.same h.sim ?_ (hrun _ _ ?_)
      · trivial
      exact run_app_in (base := none) (len := 0) (cap := 0) (n := 0) ht hu hnu hs rfl gn g1 (Nat.le_refl _) rfl _
    · rename_i hn0
      split at he
      case isFalse => cases he
      rename_i hle
      cases he
      have hr := run_app_out (base := none) (len := 0) (cap := 0) (old := #[]) ht hu hnu hs hb hzv rfl gn (by simp [Builtin.firstCells]) g1' (by omega) (by simpa using hle.2) (by omega) o.type
      rw [hrun _ _ hr]
      have := done_app (σ := σ) (E := E) h.sim (cap0 := 0) (e := e) (old := []) (new := new) (need := n) hzsz hspos (by simpa using g2) (by simpa using g3)
      simpa using this
  · rename_i b of len cp
    have hblk : b < m.length := ok1
    split at he
    · rename_i hn0
      subst hn0
      split at he
      · rename_i cap
        split at he
        case isFalse => cases he
        rename_i hle
        cases he
        refine Done.same h.sim ?_ (hrun _ _ ?_)
        · exact ok1
        have hnil : new = [] := List.eq_nil_of_length_eq_zero (by simpa using g2)
        subst hnil
        exact run_app_in (base := some (at_ E b of)) (n := 0) ht hu hnu hs rfl gn g1 (by simpa using hle) rfl _
      · rename_i s'
        split at he
        case isFalse => cases he
        rename_i hle
        obtain ⟨rfl, hle⟩ := hle
        cases he
        refine Done.same h.sim ?_ (hrun _ _ ?_)
        · exact ok1
        have hnil : new = [] := List.eq_nil_of_length_eq_zero (by simpa using g2)
        subst hnil
        have hknown : known m b ≤ (E b).tot := by
          unfold known
          split
          · rename_i W cs hb; exact (h.sim.blk b W cs hb).le
          · omega
        have hcap : len ≤ ((E b).tot - of) / s' := by rw [Nat.le_div_iff_mul_le hspos]; omega
        exact run_app_in (base := some (at_ E b of)) (n := 0) ht hu hnu hs rfl gn g1 (by simpa using hcap) rfl _
    · rename_i hn0
      split at he
      case isTrue => cases he
      rename_i hbd
      have hbd : len + n ≤ 1099511627776 ∧ (len + n) * by_ ≤ 1099511627776 := by
        rcases Decidable.em (len + n ≤ 1099511627776 ∧ (len + n) * by_ ≤ 1099511627776) with h | h
        · exact h
        · exact absurd h hbd
      have hadd : (at_ E b of).add (len * s) = at_ E b (of + len * s) := by simp only [at_, addr_add, Nat.add_assoc]
      split at he
      · rename_i cap
        split at he
        · rename_i hle
          split at he
          case h_2 => cases he
          rename_i m2 hw
          cases he
          obtain ⟨w', h4, h5, h6⟩ := h.sim.wr (P := P) hw g3
          refine ⟨E, w', Agree.refl _ _, by omega, h5, ?_, .inl ?_⟩
          · exact A.ok.mono ok1 (by omega)
          · exact hrun _ _ (run_app_in (base := some (at_ E b of)) ht hu hnu hs rfl gn g1 hle (by simp only [hadd]; exact h4) _)
        · rename_i hle
          split at he
          case h_2 => cases he
          rename_i old hold
          cases he
          obtain ⟨k1, k2, k3⟩ := h.sim.rd (P := P) hold
          obtain ⟨k1', -, -⟩ := h.sim.drew.rd (P := P) hold
          have hr := run_app_out (base := some (at_ E b of)) (len := len) (cap := cap) ht hu hnu hs hb hzv rfl gn (by simp only [Builtin.firstCells]; exact k1') g1' (by omega) hbd.2 (by omega) o.type
          rw [hrun _ _ hr]
          exact done_app (σ := σ) (E := E) h.sim (cap0 := cap) (e := e) hzsz hspos (by simp only [List.length_append, k2, g2, Nat.add_mul])
            (fun x hx => by rcases List.mem_append.1 hx with h | h; exact k3 x h; exact g3 x h)
      · rename_i s'
        split at he
        case isTrue => cases he
        rename_i hss
        have hss : s' = s := by
          rcases Nat.decEq s' s with h | h
          · exact absurd h hss
          · exact h
        subst hss
        split at he
        · rename_i hle
          split at he
          case h_2 => cases he
          rename_i m2 hw
          cases he
          obtain ⟨w', h4, h5, h6⟩ := h.sim.wr (P := P) hw g3
          have hknown : known m b ≤ (E b).tot := by
            unfold known
            split
            · rename_i W cs hb; exact (h.sim.blk b W cs hb).le
            · omega
          have hcap : len + n ≤ ((E b).tot - of) / s' := by rw [Nat.le_div_iff_mul_le hspos]; omega
          refine ⟨E, w', Agree.refl _ _, by omega, h5, ?_, .inl ?_⟩
          · exact A.ok.mono ok1 (by omega)
          · exact hrun _ _ (run_app_in (base := some (at_ E b of)) ht hu hnu hs rfl gn g1 hcap (by simp only [hadd]; exact h4) _)
        · rename_i hnk
          split at he
          case h_2 => cases he
          rename_i cs hbb
          split at he
          case isFalse => cases he
          rename_i hlen
          cases he
          obtain ⟨⟨arr, elem, fz, q1, q2, q3, q4⟩, q5, q6, q7⟩ := h.sim.blk b true cs hbb
          have q4 := q4 rfl
          have q6 := q6 rfl
          have hcells : ∀ x ∈ (cs.drop of).take (len * s') ++ new, A.ok m.length x := fun x hx => by
            rcases List.mem_append.1 hx with h' | h'
            · exact h.sim.sc b true cs hbb x (List.mem_of_mem_drop (List.mem_of_mem_take h'))
            · exact g3 x h'
          have hl1 : ((cs.drop of).take (len * s')).length = len * s' := by simp; omega
          have hdead := h.sim.dead b
          have hdl : (m.set b Blk.dead).length = m.length := by simp
          by_cases hcap : len + n ≤ ((E b).tot - of) / s'
          · have hmul : (len + n) * s' ≤ (E b).tot - of := (Nat.le_div_iff_mul_le hspos).1 hcap
            have hmul2 : (len + n) * s' = len * s' + n * s' := Nat.add_mul _ _ _
            have hsc := run_storeCells_put (P := P) (E b).blk ((E b).off + of + len * s') elem fz (new.map (cA σ E)) 0 w arr q1 (by simp; omega) (by simp; omega) (fun v hv => by
              obtain ⟨x, _, rfl⟩ := List.mem_map.1 hv; exact cA_oneCell σ E x)
            have hsim : Sim σ B w0 E (m.set b Blk.dead) (World.put w (E b).blk (.cells (spl arr ((E b).off + of + len * s' + 0) (new.map (cA σ E))) elem fz)) := by
              refine hdead.rewrite q1 q6 (spl_size _ _ _) rfl (fun b' x hb' => .inl ⟨hb', fun ho => ?_⟩)
              have hne : b' ≠ b := by
                intro e
                subst e
                unfold owned at ho
                rw [List.getElem?_set_self hblk] at ho
                exact ho
              refine h.sim.inj b' b hne ?_ (by unfold owned; rw [hbb]; trivial)
              unfold owned at ho ⊢
              rwa [List.getElem?_set_ne (fun e => hne e.symm)] at ho
            have hsim2 := hsim.adopt (blk := (E b).blk) (off := (E b).off + of) (tot := (E b).tot - of) (ty := 0) (cs := (cs.drop of).take (len * s') ++ new) (put_self _ _ _ (lt_of_heap q1)) q6 (by rw [spl_size]; omega)
              (by simp only [List.length_append, hl1, g2]; omega) (fun j x hx => by
                by_cases hj : j < len * s'
                · rw [List.getElem?_append_left (by omega), List.getElem?_take_of_lt hj, List.getElem?_drop] at hx
                  rw [spl_other _ _ _ _ (.inl (by omega)), Nat.add_assoc]
                  exact q3 (of + j) x hx
                · rw [List.getElem?_append_right (by omega), hl1] at hx
                  have hjn : j - len * s' < new.length := (List.getElem?_eq_some_iff.1 hx).1
                  have := spl_here (new.map (cA σ E)) arr ((E b).off + of + len * s' + 0) (j - len * s') (cA σ E x) (by simp; omega) (by rw [List.getElem?_map, hx]; rfl)
                  rwa [show (E b).off + of + len * s' + 0 + (j - len * s') = (E b).off + of + j by omega] at this) (by omega) (fun x hx => by rw [hdl]; exact hcells x hx) (fun b' ho => by
                have hne : b' ≠ b := by
                  intro e
                  subst e
                  unfold owned at ho
                  rw [List.getElem?_set_self hblk] at ho
                  exact ho
                refine h.sim.inj b' b hne ?_ (by unfold owned; rw [hbb]; trivial)
                unfold owned at ho ⊢
                rwa [List.getElem?_set_ne (fun e => hne e.symm)] at ho)
            rw [hdl] at hsim2
            refine ⟨_, _, E.up_agree _ _, by simp, hsim2, ?_, .inl ?_⟩
            · show m.length < _; simp
            · rw [hrun _ _ (run_app_in (base := some (at_ E b of)) ht hu hnu hs rfl gn g1 hcap (by simp only []; rw [hadd, show at_ E b (of + len * s') = ⟨(E b).blk, (E b).off + of + len * s', none⟩ by simp only [at_, Nat.add_assoc]]; exact hsc) _)]
              simp only [cV, cU, cA, at_, Emb.up_same, Nat.add_zero, Nat.sub_zero]
          · obtain ⟨k1, -, -⟩ := h.sim.drew.rd (P := P) (b := b) (o := of) (n := len * s') (cs := (cs.drop of).take (len * s')) (by
              unfold AL.rd; simp only [hbb]; rw [if_pos hlen])
            have hr := run_app_out (base := some (at_ E b of)) (len := len) (cap := ((E b).tot - of) / s') ht hu hnu hs hb hzv rfl gn (by simp only [Builtin.firstCells]; exact k1) g1' (by omega) hbd.2 (by omega) o.type
            rw [hrun _ _ hr]
            have := done_app (σ := σ) (E := E) hdead (cap0 := ((E b).tot - of) / s') (e := e) (old := (cs.drop of).take (len * s')) (new := new) (need := len + n) hzsz hspos
              (by simp only [List.length_append, hl1, g2, Nat.add_mul]) (fun x hx => by rw [hdl]; exact hcells x hx)
            unfold Done at this ⊢
            rw [hdl] at this
            exact this
  · cases he

theorem srcCells_len {s n : Nat} {y : A} {cs : List A} (hc : srcCells m s n y = some cs) (h : Sim σ B w0 E m w) : cs.length = n * s := (src_ok (P := default) h hc).2.1

end Go.AL
