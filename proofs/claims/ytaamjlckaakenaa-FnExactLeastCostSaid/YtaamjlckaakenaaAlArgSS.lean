/-
  An argument that is a slice of slices of numbers.
-/
import Derived.Test.YtaamjlckaakenaaAlCostA
import Derived.Test.YtaamjlckaakenaaAlArgDesk
import Derived.Deep.Slices
namespace Go.AL
set_option linter.unusedSimpArgs false
set_option linter.unusedVariables false
open Go.RowKit Go.ChangeShapes Go.WideShapes Go.Deep
set_option linter.unusedVariables false

section
variable {H : Type} {enc : TypeId × Value → H} {P : Program} {W : World}

/-- A row among the cells of a slice: whatever its base is. -/
theorem openIz {σ : Nat → Nat} {E : Emb} {m : Mem} (h : Sim σ W.heap.size W E m W) {t e : TypeId} {c : Value} {fuel : Nat} {x : DataW H × List MemPlace}
    (ht : P.underlying t = some (.slice e)) (he : P.underlying e = some (.int .i64)) (hce : P.cellsOf e = 1) (hf : DataW.trod enc P W 0 (fun _ => true) true fuel t [c] = some x) :
    ∃ E' m' a n, ∃ f : Nat → Int, Sim σ W.heap.size W E' m' W ∧ Ext m m' ∧ Agree m.length E E' ∧ c = cA σ E' a ∧ A.ok m'.length a ∧ TxI m' (V.a a) n f ∧ n ≤ 9223372036854775807 := by
  rcases open_ints ht he hce hf with ⟨hcs, hx⟩ | ⟨a, len', cap', zs, hcs, _, hl, hm, hz, hx, hcell, hwf⟩
  · have hv : c = .slice none 0 0 := by simpa using hcs
    exact ⟨E, m, .nils, 0, fun _ => 0, h, Ext.refl _, Agree.refl _ _, hv, trivial, .inl ⟨rfl, rfl⟩, by decide⟩
  · have hv : c = .slice (some a) len' cap' := by simpa using hcs
    have hlen : zs.length = cap' := by simpa using hz
    by_cases h0 : cap' = 0
    · have : len' = 0 := by omega
      subst h0 this
      exact ⟨E, m, .zs a, 0, fun _ => 0, h, Ext.refl _, Agree.refl _ _, hv, trivial, .inr (.inr ⟨⟨a, rfl⟩, rfl⟩), by decide⟩
    · have hsp : a.spot = none := by
        obtain ⟨_, _, _, _, hs, _⟩ := cell_heap (hcell 0 (by omega))
        have e0 : a.add 0 = a := by unfold Addr.add; exact if_pos rfl
        rw [e0] at hs; exact hs
      obtain ⟨E', m', x', g1, ⟨y, g2⟩, g3, g4, g5, g6⟩ := openRow h (g := fun i => .int .i64 ((fun i => zs.getD i 0) i)) (fun _ _ => rfl) (fun _ => trivial)
        (.inr ⟨a, len', cap', hv, hsp, hl, (by unfold maxLen at hm; omega), fun i hi => by rw [hcell i (by omega)]; simp [cA]⟩)
      obtain ⟨n, hn, ht'⟩ := TxI.of g6
      have hE : Ext m m' := by rw [g2]; exact Ext.push _ _
      rcases ht' with ⟨rfl, rfl⟩ | ⟨b, w, cap, cc, rfl, k1, k2⟩ | ⟨⟨ad, rfl⟩, rfl⟩
      · exact ⟨E', m', .nils, 0, fun _ => 0, g1, hE, g3, g4, g5, .inl ⟨rfl, rfl⟩, hn⟩
      · exact ⟨E', m', .sl b 0 n cc, n, _, g1, hE, g3, g4, g5, .inr (.inl ⟨b, w, cap, cc, rfl, k1, k2⟩), hn⟩
      · exact ⟨E', m', .zs ad, 0, fun _ => 0, g1, hE, g3, g4, g5, .inr (.inr ⟨⟨ad, rfl⟩, rfl⟩), hn⟩

/-- The rows of a slice, one after the other. -/
theorem openRows {σ : Nat → Nat} {E : Emb} {m : Mem} (h : Sim σ W.heap.size W E m W) {t e : TypeId} (ht : P.underlying t = some (.slice e)) (he : P.underlying e = some (.int .i64)) (hce : P.cellsOf e = 1) (C : Nat → Value) :
    ∀ k, (∀ i, i < k → ∃ fuel x, DataW.trod enc P W 0 (fun _ => true) true fuel t [C i] = some x) →
      ∃ E' m', ∃ g : Nat → A, ∃ nn : Nat → Nat, ∃ ff : Nat → Nat → Int, Sim σ W.heap.size W E' m' W ∧ Ext m m' ∧ Agree m.length E E' ∧ (∀ i, i < k → C i = cA σ E' (g i) ∧ A.ok m'.length (g i) ∧ TxI m' (V.a (g i)) (nn i) (ff i)) ∧ ∀ i, nn i ≤ 9223372036854775807
  | 0, _ => ⟨E, m, fun _ => .nils, fun _ => 0, fun _ _ => 0, h, Ext.refl _, Agree.refl _ _, fun i hi => by omega, fun _ => Nat.zero_le _⟩
  | k + 1, hx => by
    obtain ⟨E1, m1, g, nn, ff, S1, e1, A1, r1, b1⟩ := openRows h ht he hce C k (fun i hi => hx i (by omega))
    obtain ⟨fuel, x, hf⟩ := hx k (by omega)
    obtain ⟨E2, m2, a, n, f, S2, e2, A2, v2, o2, t2, b2⟩ := openIz S1 ht he hce hf
    refine ⟨E2, m2, fun i => if i = k then a else g i, fun i => if i = k then n else nn i, fun i => if i = k then f else ff i, S2, e1.trans e2, A1.trans A2 e1.1, fun i hi => ?_, fun i => ?_⟩
    · by_cases hik : i = k
      · subst hik; simp only [if_true]; exact ⟨v2, o2, t2⟩
      · simp only [if_neg hik]
        obtain ⟨q1, q2, q3⟩ := r1 i (by omega)
        exact ⟨by rw [q1, ← cA_agree A2 q2], q2.mono e2.1, q3.ext e2⟩
    · by_cases hik : i = k
      · subst hik; simp only [if_true]; exact b2
      · simp only [if_neg hik]; exact b1 i

/-- A slice of slices of numbers among the arguments. -/
theorem openNumss {σ : Nat → Nat} {E : Emb} {m : Mem} (h : Sim σ W.heap.size W E m W) {r : Reach} {base : Nat} {t e e2 : TypeId} {v : Value} {d : DataW H} {ps : List MemPlace}
    (ht : P.underlying t = some (.slice e)) (he : P.underlying e = some (.slice e2)) (he2 : P.underlying e2 = some (.int .i64)) (hce : P.cellsOf e = 1) (hce2 : P.cellsOf e2 = 1) (hval : Value.okWide P W r base t v) (hd : DataW.Trod enc P W 0 (fun _ => true) true t v d ps) :
    ∃ E' m' x n, ∃ nn : Nat → Nat, ∃ ff : Nat → Nat → Int, Sim σ W.heap.size W E' m' W ∧ v = cV σ E' x ∧ V.ok m'.length x ∧ TxII m' x n nn ff ∧ n ≤ 9223372036854775807 ∧ ∀ i, nn i ≤ 9223372036854775807 := by
  obtain ⟨fuel, hf⟩ := hd
  obtain ⟨a0, len, cap, rfl⟩ := okWide_slice ht hval
  rcases open_slice1 ht hce hf with ⟨hcs, hx⟩ | ⟨a, len', cap', mm, nf, C, D, Pl, hcs, _, hl, hm, hmm, hx, hcell⟩
  · have hv : Value.slice a0 len cap = .slice none 0 0 := by simpa [Value.cells] using hcs
    exact ⟨E, m, V.a .nils, 0, fun _ => 0, fun _ _ => 0, h, hv, trivial, .inl ⟨rfl, rfl⟩, by decide, fun _ => Nat.zero_le _⟩
  · have hv : Value.slice a0 len cap = .slice (some a) len' cap' := by simpa [Value.cells] using hcs
    have hmc : mm = cap' := by simpa using hmm
    subst hmc
    obtain ⟨E1, m1, g, nn, ff, S1, e1, A1, r1, b1⟩ := openRows h he he2 hce2 C mm (fun i hi => ⟨nf, _, (hcell i hi).2⟩)
    have hsp := okWide_spot (t := t) ht (by rw [← hv]; exact hval)
    by_cases h0 : mm = 0
    · have : len' = 0 := by omega
      subst h0 this
      refine ⟨_, _, V.a (.sl m1.length 0 0 (.ex 0)), 0, nn, ff, S1.none ⟨a.block, a.off, 0, 0⟩, ?_, by simp [V.ok, U.ok, A.ok], .inr ⟨_, false, 0, _, g, rfl, Nat.le_refl _, fun h => by omega, fun i hi => by omega⟩, by decide, b1⟩
      rw [hv]
      obtain ⟨b, o, s⟩ := a
      cases hsp
      simp [cV, cU, cA, at_, Emb.up_same]
    · obtain ⟨arr, elem, fz, hh, _, hv0⟩ := cell_heap (hcell 0 (by omega)).1
      have e0 : (a.add 0).block = a.block := by unfold Addr.add; split <;> rfl
      rw [e0] at hh
      have harr : ∀ i, i < mm → arr[a.off + i]? = some (cA σ E1 (g i)) := by
        intro i hi
        obtain ⟨arr', elem', fz', hh', _, hv'⟩ := cell_heap (hcell i hi).1
        have e1 : (a.add i).block = a.block := by unfold Addr.add; split <;> rfl
        have e2 : (a.add i).off = a.off + i := by
          unfold Addr.add; split
          · rename_i h; subst h; rfl
          · rfl
        rw [e1, hh] at hh'
        cases hh'
        rw [← e2, hv', (r1 i hi).1]
      have hsz : a.off + mm ≤ arr.size := by
        have := harr (mm - 1) (by omega)
        rcases Nat.lt_or_ge (a.off + (mm - 1)) arr.size with h' | h'
        · omega
        · simp [Array.getElem?_eq_none h'] at this
      have hlen : (rowsL mm g).length = mm := rowsL_len
      have key := S1.old (a := a) (rowsL mm g) hh (by rw [hlen]; exact hsz) (fun j x hx => by
        have hj : j < mm := by have := (List.getElem?_eq_some_iff.1 hx).1; rw [hlen] at this; exact this
        have : (rowsL mm g)[j]? = some (g j) := by simp [rowsL, hj]
        rw [this] at hx; cases hx
        exact harr j hj) (fun x hx => by
        obtain ⟨i, hi, rfl⟩ := List.mem_map.1 hx
        exact (r1 i (List.mem_range.1 hi)).2.1)
      refine ⟨_, _, V.a (.sl m1.length 0 len' (.ex mm)), len', nn, ff, key, ?_, by simp [V.ok, U.ok, A.ok], .inr ⟨_, false, mm, _, g, rfl, hl, fun _ => by simp, fun i hi => ((r1 i (by omega)).2.2).ext (Ext.push _ _)⟩, by unfold maxLen at hm; omega, b1⟩
      rw [hv]
      obtain ⟨b, o, s⟩ := a
      cases hsp
      simp [cV, cU, cA, at_, Emb.up_same, hlen]
end
end Go.AL
