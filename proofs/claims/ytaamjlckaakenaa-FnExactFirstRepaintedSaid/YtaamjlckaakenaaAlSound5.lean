/-
  Operations one by one: make, slice expressions, a string's iterator, nil tests, composites.
-/
import Derived.Test.YtaamjlckaakenaaAlSound4
import Derived.IntWalk
namespace Go.AL
set_option linter.unusedSimpArgs false
set_option linter.unusedVariables false
open Go.RowKit

variable {σ : Nat → Nat} {B : Nat} {w0 : World} {E : Emb} {m m' : Mem} {w : World} {P : Program} {ρ : Nat → Option Nat} {nt : Nat} {fr : Fr} {a : Act} {call : CallE} {v : V} {o : Oper}

theorem op_mk (h : St σ ρ B w0 nt E m w fr a) {t e : TypeId} {s by_ : Nat} {z : List A} {x y : Operand} {x' y' : X} (ht : P.underlying t = some (.slice e)) (hs : szT P e = some s) (hz : zeroT P e = some z)
    (hb : bytesT P e = some by_) (hs0 : s ≠ 0) (hzs : z.length = s) (hx : cX ρ x = some x') (hy : cX ρ y = some y') (ho : o.op = .makeSlice t x y)
    (he : opE call fr m (.mk z by_ x' y') = some (v, m')) : Done σ B w0 E m v m' ((execOp a.eval o).run P w) := by
  simp only [opE] at he
  split at he
  case h_2 => cases he
  rename_i k l k' c hl hc
  split at he
  case isFalse => cases he
  rename_i hcond
  cases he
  obtain ⟨hc1, hc2, hc3, hc4⟩ := hcond
  obtain ⟨h1, -⟩ := cXA h hx hl
  obtain ⟨h2, -⟩ := cXA h hy hc
  obtain ⟨u, g1, g2, g3⟩ := zeroT_ok hz σ E m.length
  obtain ⟨i, g4, g5⟩ := run_bytes (P := P) hb w
  have wl : IntKind.i64.wrap l = l := IntWalk.i64_in _ (by omega)
  have wc : IntKind.i64.wrap c = c := IntWalk.i64_in _ (by omega)
  have hbig : ¬ ((281474976710656 : Int) < (by_ : Int) * c) := by rw [Int.mul_comm]; omega
  have hcells : (Array.range (c.toNat * s)).map (fun x => (if c.toNat * s = 0 then (#[] : Array Value) else u.cells)[x % (if c.toNat * s = 0 then (#[] : Array Value) else u.cells).size]!) = (((List.replicate c.toNat z).flatten).map (cA σ E)).toArray := by
    by_cases h0 : c.toNat * s = 0
    · have : c.toNat = 0 := by rcases Nat.mul_eq_zero.1 h0 with h | h <;> omega
      simp [this]
    · rw [if_neg h0, g2, ← hzs]
      exact range_flat z (cA σ E) _ (by intro h; subst h; simp at hzs; omega)
  have := done_slice h.sim (((List.replicate c.toNat z).flatten).map (cA σ E)).toArray e ((List.replicate c.toNat z).flatten) ((List.replicate c.toNat z).flatten).length l.toNat c.toNat (.ex c.toNat)
    (by simp) (Nat.le_refl _) (fun j x hx => by rw [List.getElem?_toArray, List.getElem?_map, hx]; rfl) (fun x hx => by
      obtain ⟨q, hq, hx⟩ := List.mem_flatten.1 hx
      rw [(List.mem_replicate.1 hq).2] at hx; exact g3 x hx) rfl
  refine Eq.mp ?_ this
  congr 1
  simp only [execOp, ho, h1, h2, cA, Instr.makeSlice, Sem.run_bind, run_underlying ht, Result.andThen_ok, asInt, asIntOf, Sem.run_pure, g4, g5, wl, wc]
  have e1 : (decide (c < 0) || decide ((by_ : Int) * c > 2 ^ 48)) = false := by simp; omega
  have e2 : (decide (l < 0)) = false := by simp; omega
  have e3 : (decide (l > c)) = false := by simp; omega
  simp only [e1, e2, e3, Bool.or_self, Bool.false_eq_true, if_false, Sem.run_bind, run_askRoom, Result.andThen_ok, Sem.run_pure, run_size hs]
  by_cases h0 : c.toNat * s = 0
  · simp only [h0, if_true] at hcells ⊢
    simp only [Sem.run_bind, Sem.run_pure, Result.andThen_ok, newRow, run_newObj]
    rw [hcells]
  · simp only [h0, if_false] at hcells ⊢
    simp only [Sem.run_bind, Sem.run_pure, Result.andThen_ok, newRow, run_newObj, g1]
    rw [hcells]

theorem bnd_x (h : St σ ρ B w0 nt E m w fr a) {x : Operand} {x' : X} {d top k : Nat} (hx : cX ρ x = some x') (hb : bnd fr d top (some x') = some k) {y : Nat} (hy : top ≤ y) (c : BoundsCode) (w : World) :
    (Instr.sliceBound (a.eval x) y c).run P w = .ok k w ∧ k ≤ top := by
  simp only [bnd] at hb
  split at hb
  case h_2 => cases hb
  rename_i k' i hi
  split at hb
  case isFalse => cases hb
  rename_i hc
  cases hb
  obtain ⟨h1, -⟩ := cXA h hx hi
  refine ⟨?_, by omega⟩
  simp only [h1, cA, Instr.sliceBound, asIntOf, Sem.run_bind, Sem.run_pure, Result.andThen_ok]
  rw [if_pos (by omega)]
  rfl

theorem cXo_cases {x : Option Operand} {x' : Option X} (hx : cXo ρ x = some x') : (x = none ∧ x' = none) ∨ ∃ y y', x = some y ∧ x' = some y' ∧ cX ρ y = some y' := by
  cases x with
  | none => cases hx; exact .inl ⟨rfl, rfl⟩
  | some y =>
    obtain ⟨y', hy, rfl⟩ := Option.map_eq_some_iff.1 hx
    exact .inr ⟨y, y', rfl, rfl, hy⟩

/-- The bounds of a slice expression without a third index. -/
theorem bounds2 (h : St σ ρ B w0 nt E m w fr a) {lo hi : Option Operand} {lo' hi' : Option X} (hlo : cXo ρ lo = some lo') (hhi : cXo ρ hi = some hi') {len top cap hh l : Nat}
    (hH : bnd fr len top hi' = some hh) (hL : bnd fr 0 hh lo' = some l) (htop : top ≤ cap) (b : Bool) (w : World) :
    (Instr.sliceBounds b len cap (lo.map a.eval) (hi.map a.eval) none).run P w = .ok (l, hh, cap) w := by
  rcases cXo_cases hlo with ⟨rfl, rfl⟩ | ⟨x, x', rfl, rfl, hx⟩ <;> rcases cXo_cases hhi with ⟨rfl, rfl⟩ | ⟨y, y', rfl, rfl, hy⟩
  · cases hH; cases hL; simp [Instr.sliceBounds]
  · cases hL
    obtain ⟨h1, h2⟩ := bnd_x (P := P) h hy hH htop (if b then .sliceAcap else .sliceAlen) w
    simp [Instr.sliceBounds, h1]
  · cases hH
    obtain ⟨h1, h2⟩ := bnd_x (P := P) h hx hL (Nat.le_refl _) .sliceB w
    simp [Instr.sliceBounds, h1]
  · obtain ⟨h1, h2⟩ := bnd_x (P := P) h hy hH htop (if b then .sliceAcap else .sliceAlen) w
    obtain ⟨h3, h4⟩ := bnd_x (P := P) h hx hL (Nat.le_refl _) .sliceB w
    simp [Instr.sliceBounds, h1, h3]

/-- With one. -/
theorem bounds3 (h : St σ ρ B w0 nt E m w fr a) {lo hi : Option Operand} {mx : Operand} {lo' hi' : Option X} {mx' : X} (hlo : cXo ρ lo = some lo') (hhi : cXo ρ hi = some hi') (hmx : cX ρ mx = some mx') (hsome : hi' ≠ none) {d len top cap k hh l : Nat}
    (hK : bnd fr d top (some mx') = some k) (hH : bnd fr len k hi' = some hh) (hL : bnd fr 0 hh lo' = some l) (htop : top ≤ cap) (w : World) :
    (Instr.sliceBounds true len cap (lo.map a.eval) (hi.map a.eval) (some (a.eval mx))).run P w = .ok (l, hh, k) w := by
  obtain ⟨h5, h6⟩ := bnd_x (P := P) h hmx hK htop .slice3Acap w
  rcases cXo_cases hhi with ⟨rfl, rfl⟩ | ⟨y, y', rfl, rfl, hy⟩
  · exact absurd rfl hsome
  obtain ⟨h1, h2⟩ := bnd_x (P := P) h hy hH (Nat.le_refl _) .slice3B w
  rcases cXo_cases hlo with ⟨rfl, rfl⟩ | ⟨x, x', rfl, rfl, hx⟩
  · cases hL; simp [Instr.sliceBounds, h1, h5]
  · obtain ⟨h3, h4⟩ := bnd_x (P := P) h hx hL (Nat.le_refl _) .slice3C w
    simp [Instr.sliceBounds, h1, h3, h5]

theorem op_sstr (h : St σ ρ B w0 nt E m w fr a) {t : TypeId} {x : Operand} {lo hi : Option Operand} {x' : X} {lo' hi' : Option X} (ht : P.underlying t = some .string) (hx : cX ρ x = some x') (hlo : cXo ρ lo = some lo') (hhi : cXo ρ hi = some hi')
    (ho : o.op = .slice t x lo hi none) (he : opE call fr m (.sstr x' lo' hi') = some (v, m')) : Done σ B w0 E m v m' ((execOp a.eval o).run P w) := by
  simp only [opE] at he
  split at he
  case h_2 => cases he
  rename_i s hs
  split at he
  · cases he
  rename_i hh hH
  split at he
  · cases he
  rename_i l hL
  cases he
  obtain ⟨h1, -⟩ := cXA h hx hs
  have hb := bounds2 (P := P) h hlo hhi hH hL (Nat.le_refl _) false w
  refine Done.same h.sim ?_ ?_
  · trivial
  simp only [execOp, ho, h1, cA, cV, cU, Instr.sliceAt, Instr.slice, Sem.run_bind, run_underlying ht, Result.andThen_ok, Option.map_none, Option.isSome_none, Bool.false_eq_true, if_false, Sem.run_pure, ba_size, hb, ba_extract]

theorem op_sarr (h : St σ ρ B w0 nt E m w fr a) {t e : TypeId} {n s : Nat} {x : Operand} {lo hi : Option Operand} {x' : X} {lo' hi' : Option X} (ht : P.underlying t = some (.array n e)) (hs : szT P e = some s) (hx : cX ρ x = some x')
    (hlo : cXo ρ lo = some lo') (hhi : cXo ρ hi = some hi') (ho : o.op = .slice t x lo hi none) (he : opE call fr m (.sarr n s x' lo' hi') = some (v, m')) : Done σ B w0 E m v m' ((execOp a.eval o).run P w) := by
  simp only [opE] at he
  split at he
  case h_2 => cases he
  rename_i b of hp
  split at he
  · cases he
  rename_i hh hH
  split at he
  · cases he
  rename_i l hL
  split at he
  case isFalse => cases he
  cases he
  obtain ⟨h1, h2⟩ := cXA h hx hp
  have hb := bounds2 (P := P) h hlo hhi hH hL (Nat.le_refl _) false w
  refine Done.same h.sim ?_ ?_
  · exact h2
  simp only [execOp, ho, h1, cA, cV, cU, Instr.sliceAt, Sem.run_bind, run_underlying ht, Result.andThen_ok, Option.map_none, Instr.sureAddr, Sem.run_pure, hb, run_size hs]
  by_cases hnl : n = l
  · simp [hnl]
  · simp [hnl, at_, addr_add, Nat.add_assoc]

theorem op_slc (h : St σ ρ B w0 nt E m w fr a) {t e : TypeId} {s : Nat} {x : Operand} {lo hi mx : Option Operand} {x' : X} {lo' hi' mx' : Option X} (ht : P.underlying t = some (.slice e)) (hs : szT P e = some s) (hx : cX ρ x = some x')
    (hlo : cXo ρ lo = some lo') (hhi : cXo ρ hi = some hi') (hmx : cXo ρ mx = some mx') (hmh : ¬ (mx'.isSome = true ∧ hi'.isNone = true)) (ho : o.op = .slice t x lo hi mx)
    (he : opE call fr m (.slc s x' lo' hi' mx') = some (v, m')) : Done σ B w0 E m v m' ((execOp a.eval o).run P w) := by
  have hall : ∀ {len cap l hh k d top : Nat}, bnd fr d top mx' = some k → (mx' = none → d = cap) → top ≤ cap → bnd fr len k hi' = some hh → bnd fr 0 hh lo' = some l →
      (Instr.sliceBounds true len cap (lo.map a.eval) (hi.map a.eval) (mx.map a.eval)).run P w = .ok (l, hh, k) w := by
    intro len cap l hh k d top hK hd htop hH hL
    rcases cXo_cases hmx with ⟨rfl, rfl⟩ | ⟨y, y', rfl, rfl, hy⟩
    · cases hK
      obtain rfl := hd rfl
      exact bounds2 (P := P) h hlo hhi hH hL (Nat.le_refl _) true w
    · exact bounds3 (P := P) h hlo hhi hy (by intro hn; subst hn; simp at hmh) hK hH hL htop w
  simp only [opE] at he
  split at he
  · rename_i hp
    split at he
    case h_2 => cases he
    rename_i hK hH hL
    cases he
    obtain ⟨h1, -⟩ := cXA h hx hp
    have hb := hall (len := 0) (cap := 0) hK (fun _ => rfl) (Nat.le_refl _) hH hL
    refine Done.same h.sim ?_ ?_
    · trivial
    simp [execOp, ho, h1, cA, cV, cU, Instr.sliceAt, Instr.slice, run_underlying ht, hb, run_size hs]
  · rename_i b of len c hp
    split at he
    · cases he
    rename_i k hK
    split at he
    · cases he
    rename_i hh hH
    split at he
    · cases he
    rename_i l hL
    split at he
    case isFalse => cases he
    cases he
    obtain ⟨h1, h2⟩ := cXA h hx hp
    have hb := hall (len := len) (cap := c) hK (fun _ => rfl) (Nat.le_refl _) hH hL
    refine Done.same h.sim ?_ ?_
    · exact h2
    simp only [execOp, ho, h1, cA, cV, cU, Instr.sliceAt, Instr.slice, Sem.run_bind, run_underlying ht, Result.andThen_ok, hb, run_size hs, Sem.run_pure]
    by_cases hkl : k = l
    · simp [hkl]
    · simp [hkl, at_, addr_add, Nat.add_assoc]
  · rename_i b of len s' hp
    split at he
    · cases he
    rename_i hss
    have hss' : s' = s := by
      rcases Nat.decEq s' s with h | h
      · exact absurd (Or.inl h) hss
      · exact h
    have hs0 : s ≠ 0 := fun h => hss (.inr h)
    subst hss'
    obtain ⟨h1, h2⟩ := cXA h hx hp
    have hknown : known m b ≤ (E b).tot := by
      unfold known
      split
      · rename_i W cs hb; exact (h.sim.blk b W cs hb).le
      · omega
    have hcap : (known m b - of) / s' ≤ ((E b).tot - of) / s' := Nat.div_le_div_right (by omega)
    split at he
    · rename_i mxx
      split at he
      · cases he
      rename_i k hK
      split at he
      · cases he
      rename_i hh hH
      split at he
      · cases he
      rename_i l hL
      split at he
      case isFalse => cases he
      cases he
      have hb := hall (len := len) (cap := ((E b).tot - of) / s') hK (fun h => by cases h) hcap hH hL
      refine Done.same h.sim ?_ ?_
      · exact h2
      simp only [execOp, ho, h1, cA, cV, cU, Instr.sliceAt, Instr.slice, Sem.run_bind, run_underlying ht, Result.andThen_ok, hb, run_size hs, Sem.run_pure]
      by_cases hkl : k = l
      · simp [hkl]
      · simp [hkl, at_, addr_add, Nat.add_assoc]
    · split at he
      · cases he
      rename_i hh hH
      split at he
      · cases he
      rename_i l hL
      split at he
      · cases he
      rename_i hc
      have hc : l ≤ hh ∧ of + hh * s' ≤ known m b := by simpa using hc
      obtain ⟨hc1, hc2⟩ := hc
      rcases cXo_cases hmx with ⟨rfl, -⟩ | ⟨y, y', _, hq, _⟩
      case inr => cases hq
      have hb := bounds2 (P := P) h hlo hhi hH hL hcap true w
      have hspos : 0 < s' := Nat.pos_of_ne_zero hs0
      split at he
      · rename_i hl0
        subst hl0
        cases he
        refine Done.same h.sim ?_ ?_
        · exact h2
        simp only [execOp, ho, h1, cA, cV, cU, Instr.sliceAt, Instr.slice, Sem.run_bind, run_underlying ht, Result.andThen_ok, hb, run_size hs, Sem.run_pure, Option.map_none]
        by_cases hkl : ((E b).tot - of) / s' = 0
        · simp [hkl]
        · simp [hkl, at_, addr_add]
      · split at he
        · rename_i hl0 hlt
          cases he
          have hlc : l < ((E b).tot - of) / s' := by
            have : l + 1 ≤ ((E b).tot - of) / s' := by
              rw [Nat.le_div_iff_mul_le hspos]
              omega
            omega
          refine Done.same h.sim ?_ ?_
          · exact h2
          simp only [execOp, ho, h1, cA, cV, cU, Instr.sliceAt, Instr.slice, Sem.run_bind, run_underlying ht, Result.andThen_ok, hb, run_size hs, Sem.run_pure, Option.map_none]
          rw [if_neg (by omega)]
          have : ((E b).tot - of) / s' - l = ((E b).tot - (of + l * s')) / s' := by
            rw [Nat.sub_add_eq, Nat.mul_comm l s', Nat.sub_mul_div]
          simp [at_, addr_add, Nat.add_assoc, this]
        · rename_i hl0 hlt
          cases he
          have hhl : hh = l := by
            rcases Nat.lt_or_ge l hh with hq | hq
            · have : (l + 1) * s' ≤ hh * s' := Nat.mul_le_mul_right _ hq
              omega
            · omega
          subst hhl
          have hpos : 0 < known m b := by
            have : 1 * s' ≤ hh * s' := Nat.mul_le_mul_right _ (by omega)
            omega
          obtain ⟨W, cs, hbb⟩ : ∃ W cs, m[b]? = some (Blk.cells W cs) := by
            unfold known at hpos
            split at hpos
            · rename_i W cs hbb; exact ⟨W, cs, hbb⟩
            · omega
          obtain ⟨⟨arr, elem, fz, k1, k2, k3, k4⟩, k5, k6, k7⟩ := h.sim.blk b W cs hbb
          have hmul : ((E b).tot - of) / s' * s' ≤ (E b).tot - of := Nat.div_mul_le_self _ _
          have hle : hh ≤ ((E b).tot - of) / s' := by rw [Nat.le_div_iff_mul_le hspos]; omega
          refine ⟨_, w, E.up_agree _ _, by simp, h.sim.view (blk := (E b).blk) (off := if ((E b).tot - of) / s' = hh then (E b).off + of else (E b).off + of + hh * s')
            (tot := (((E b).tot - of) / s' - hh) * s') (ty := 0) k1 ?_, ?_, .inl ?_⟩
          · split
            · rename_i hq; rw [hq]; simp; omega
            · rw [Nat.sub_mul]
              have : hh * s' ≤ ((E b).tot - of) / s' * s' := Nat.mul_le_mul_right _ hle
              omega
          · show m.length < _; simp
          · simp only [execOp, ho, h1, cA, cV, cU, Instr.sliceAt, Instr.slice, Sem.run_bind, run_underlying ht, Result.andThen_ok, hb, run_size hs, Sem.run_pure, Option.map_none, at_, Emb.up_same]
            by_cases hkl : ((E b).tot - of) / s' = hh
            · simp [hkl]
            · simp [hkl, addr_add, Nat.add_assoc, Nat.mul_div_cancel _ hspos]
  · cases he

end Go.AL
