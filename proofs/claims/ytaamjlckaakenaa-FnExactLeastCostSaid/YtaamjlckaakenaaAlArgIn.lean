/-
  Arguments that are slices, as the interpreter's memory: blocks that are only read.
-/
import Derived.Test.YtaamjlckaakenaaAlDraw
import Derived.ChangeSlices
import Derived.SliceStrings
import Derived.WideShapes
import Derived.Carry
namespace Go.AL
set_option linter.unusedSimpArgs false
set_option linter.unusedVariables false
open Go.RowKit Go.ChangeShapes Go.WideShapes
set_option linter.unusedVariables false

/-- A block of the caller's, to be read. -/
theorem Sim.old {σ : Nat → Nat} {E : Emb} {m : Mem} {W : World} (h : Sim σ W.heap.size W E m W) {a : Addr} {arr : Array Value} {elem : TypeId} {fz : Nat × Nat} (cs : List A)
    (hh : W.heap[a.block]? = some (.cells arr elem fz)) (hsz : a.off + cs.length ≤ arr.size) (hc : ∀ j x, cs[j]? = some x → arr[a.off + j]? = some (cA σ E x)) (hok : ∀ x ∈ cs, A.ok m.length x) :
    Sim σ W.heap.size W (E.up m.length ⟨a.block, a.off, cs.length, 0⟩) (m ++ [Blk.cells false cs]) W := by
  have ha := E.up_agree m.length ⟨a.block, a.off, cs.length, 0⟩
  have hlt : a.block < W.heap.size := by
    rcases Nat.lt_or_ge a.block W.heap.size with h' | h'
    · exact h'
    · simp [Array.getElem?_eq_none h'] at hh
  refine ⟨h.below, h.base, fun b w cs' hb => ?_, fun b s pos hb => ?_, fun b b' hne hb hb' => ?_, fun b w cs' hb x hx => ?_⟩
  · rcases get_push hb with ⟨hl, hb⟩ | ⟨rfl, hq⟩
    · exact holds_emb (n := m.length) (h.blk b w cs' hb) ha hl (h.sc b w cs' hb)
    · cases hq
      refine ⟨⟨arr, elem, fz, by rw [Emb.up_same]; exact hh, by rw [Emb.up_same]; exact hsz, fun j x hx => ?_, fun h => Bool.noConfusion h⟩, by rw [Emb.up_same]; exact Nat.le_refl _, fun h => Bool.noConfusion h, fun _ => .inr (by rw [Emb.up_same]; exact hlt)⟩
      rw [Emb.up_same, cA_agree ha (hok x (List.mem_of_getElem? hx))]
      exact hc j x hx
  · rcases get_push hb with ⟨hl, hb⟩ | ⟨rfl, hq⟩
    · rw [Emb.up_ne _ _ _ (by omega)]; exact h.iter b s pos hb
    · cases hq
  · have hw : ∀ b, owned (m ++ [Blk.cells false cs]) b → b < m.length ∧ owned m b := by
      intro b hb
      rcases owned_push hb with h1 | h1
      · exact h1
      · subst h1; unfold owned at hb; simp at hb
    obtain ⟨l1, o1⟩ := hw b hb
    obtain ⟨l2, o2⟩ := hw b' hb'
    rw [Emb.up_ne _ _ _ (by omega), Emb.up_ne _ _ _ (by omega)]
    exact h.inj b b' hne o1 o2
  · rcases get_push hb with ⟨hl, hb⟩ | ⟨rfl, hq⟩
    · exact (h.sc b w cs' hb x hx).mono (by simp)
    · cases hq; exact (hok x hx).mono (by simp)

/-- A place of which nothing is read. -/
theorem Sim.none {σ : Nat → Nat} {E : Emb} {m : Mem} {W : World} (h : Sim σ W.heap.size W E m W) (e : Em) : Sim σ W.heap.size W (E.up m.length e) (m ++ [Blk.dead]) W := by
  have ha := E.up_agree m.length e
  refine ⟨h.below, h.base, fun b w cs' hb => ?_, fun b s pos hb => ?_, fun b b' hne hb hb' => ?_, fun b w cs' hb x hx => ?_⟩
  · rcases get_push hb with ⟨hl, hb⟩ | ⟨rfl, hq⟩
    · exact holds_emb (n := m.length) (h.blk b w cs' hb) ha hl (h.sc b w cs' hb)
    · cases hq
  · rcases get_push hb with ⟨hl, hb⟩ | ⟨rfl, hq⟩
    · rw [Emb.up_ne _ _ _ (by omega)]; exact h.iter b s pos hb
    · cases hq
  · have hw : ∀ b, owned (m ++ [Blk.dead]) b → b < m.length ∧ owned m b := by
      intro b hb
      rcases owned_push hb with h1 | h1
      · exact h1
      · subst h1; unfold owned at hb; simp at hb
    obtain ⟨l1, o1⟩ := hw b hb
    obtain ⟨l2, o2⟩ := hw b' hb'
    rw [Emb.up_ne _ _ _ (by omega), Emb.up_ne _ _ _ (by omega)]
    exact h.inj b b' hne o1 o2
  · rcases get_push hb with ⟨hl, hb⟩ | ⟨rfl, hq⟩
    · exact (h.sc b w cs' hb x hx).mono (by simp)
    · cases hq

/-- An argument that is a slice whose elements are one cell each: g i is the cell at place i. -/
def IsRow (m : Mem) (v : V) (g : Nat → A) : Prop :=
  v = V.a .nils ∨ ∃ b n cap, v = V.a (.sl b 0 n (.ex cap)) ∧ n ≤ cap ∧ cap ≤ 9223372036854775807 ∧ (0 < cap → m[b]? = some (.cells false ((List.range cap).map g)))

theorem cell_heap {W : World} {a : Addr} {v : Value} (h : W.cell? a = some v) : ∃ arr elem fz, W.heap[a.block]? = some (.cells arr elem fz) ∧ a.spot = none ∧ arr[a.off]? = some v := by
  unfold World.cell? at h
  split at h
  · rename_i arr elem fz hh
    split at h
    · cases h
    · rename_i hs
      exact ⟨arr, elem, fz, hh, by simpa using hs, h⟩
  · cases h

/-- A slice at the top, opened. -/
theorem openRow {σ : Nat → Nat} {E : Emb} {m : Mem} {W : World} (h : Sim σ W.heap.size W E m W) {v : Value} {g : Nat → A} (hg : ∀ i E', cA σ E' (g i) = cA σ E (g i)) (hgo : ∀ i, A.ok 0 (g i))
    (hv : v = .slice none 0 0 ∨ ∃ (a : Addr) (len cap : Nat), v = .slice (some a) len cap ∧ a.spot = none ∧ len ≤ cap ∧ cap ≤ 9223372036854775807 ∧ ∀ i, i < cap → W.cell? (a.add i) = some (cA σ E (g i))) :
    ∃ E' m' x, Sim σ W.heap.size W E' m' W ∧ (∃ y, m' = m ++ [y]) ∧ Agree m.length E E' ∧ v = cV σ E' x ∧ V.ok m'.length x ∧ IsRow m' x g := by
  rcases hv with rfl | ⟨a, len, cap, rfl, hsp, hl, hm, hc⟩
  · exact ⟨_, _, V.a .nils, h.none default, ⟨_, rfl⟩, E.up_agree _ _, rfl, trivial, .inl rfl⟩
  · by_cases h0 : cap = 0
    · subst h0
      refine ⟨_, _, V.a (.sl m.length 0 len (.ex 0)), h.none ⟨a.block, a.off, 0, 0⟩, ⟨_, rfl⟩, E.up_agree _ _, ?_, by simp [V.ok, U.ok, A.ok], .inr ⟨_, len, 0, rfl, hl, hm, fun h => by omega⟩⟩
      obtain ⟨b, o, s⟩ := a
      cases hsp
      simp [cV, cU, cA, at_, Emb.up_same]
    · obtain ⟨arr, elem, fz, hh, _, hv0⟩ := cell_heap (hc 0 (by omega))
      have harr : ∀ i, i < cap → arr[a.off + i]? = some (cA σ E (g i)) := by
        intro i hi
        obtain ⟨arr', elem', fz', hh', _, hv'⟩ := cell_heap (hc i hi)
        have e1 : (a.add i).block = a.block := by unfold Addr.add; split <;> rfl
        have e2 : (a.add i).off = a.off + i := by
          unfold Addr.add; split
          · rename_i h; subst h; rfl
          · rfl
        have e0 : (a.add 0).block = a.block := by unfold Addr.add; split <;> rfl
        rw [e1] at hh'
        rw [e0] at hh
        rw [hh] at hh'
        cases hh'
        rw [← e2]; exact hv'
      have hsz : a.off + cap ≤ arr.size := by
        have := harr (cap - 1) (by omega)
        rcases Nat.lt_or_ge (a.off + (cap - 1)) arr.size with h' | h'
        · omega
        · simp [Array.getElem?_eq_none h'] at this
      have hlen : ((List.range cap).map g).length = cap := by simp
      have key := h.old (a := a) ((List.range cap).map g) hh (by rw [hlen]; exact hsz) (fun j x hx => by
        have hj : j < cap := by have := (List.getElem?_eq_some_iff.1 hx).1; simpa using this
        have : ((List.range cap).map g)[j]? = some (g j) := by simp [hj]
        rw [this] at hx; cases hx
        exact harr j hj) (fun x hx => by
        obtain ⟨i, _, rfl⟩ := List.mem_map.1 hx
        exact (hgo i).mono (Nat.zero_le _))
      refine ⟨_, _, V.a (.sl m.length 0 len (.ex cap)), key, ⟨_, rfl⟩, E.up_agree _ _, ?_, by simp [V.ok, U.ok, A.ok], .inr ⟨_, len, cap, rfl, hl, hm, fun _ => by simp⟩⟩
      obtain ⟨b, o, s⟩ := a
      cases hsp
      simp [cV, cU, cA, at_, Emb.up_same]

section
variable {H : Type} {enc : TypeId × Value → H} {P : Program} {W : World}

theorem okWide_spot {r : Reach} {base : Nat} {t e : TypeId} {a : Addr} {len cap : Nat} (ht : P.underlying t = some (.slice e)) (h : Value.okWide P W r base t (.slice (some a) len cap)) : a.spot = none := by
  simp only [Value.okWide, ht, Cell.okWide, Cell.ok] at h
  exact h.2.2.2.1

/-- A slice of strings among the arguments. -/
theorem openStrs {σ : Nat → Nat} {E : Emb} {m : Mem} (h : Sim σ W.heap.size W E m W) {r : Reach} {base : Nat} {t e : TypeId} {v : Value} {d : DataW H} {ps : List MemPlace}
    (ht : P.underlying t = some (.slice e)) (he : P.underlying e = some .string) (hce : P.cellsOf e = 1) (hval : Value.okWide P W r base t v) (hd : DataW.Trod enc P W 0 (fun _ => true) true t v d ps) :
    ∃ E' m' x, ∃ f : Nat → List UInt8, Sim σ W.heap.size W E' m' W ∧ (∃ y, m' = m ++ [y]) ∧ Agree m.length E E' ∧ v = cV σ E' x ∧ V.ok m'.length x ∧ IsRow m' x (fun i => .str (f i)) ∧ ∀ i, (f i).length ≤ 9223372036854775807 := by
  obtain ⟨fuel, hf⟩ := hd
  obtain ⟨a0, len, cap, rfl⟩ := okWide_slice ht hval
  rcases open_strings ht he hce hf with ⟨hcs, hx⟩ | ⟨a, len', cap', ss, hcs, _, hl, hm, hz, hx, hcell, hsz⟩
  · have hv : Value.slice a0 len cap = .slice none 0 0 := by simpa [Value.cells] using hcs
    obtain ⟨E', m', x, g1, g2, g3, g4, g5, g6⟩ := openRow h (g := fun i => .str ((fun _ => []) i)) (fun _ _ => rfl) (fun _ => trivial) (.inl hv)
    exact ⟨E', m', x, fun _ => [], g1, g2, g3, g4, g5, g6, fun _ => Nat.zero_le _⟩
  · have hv : Value.slice a0 len cap = .slice (some a) len' cap' := by simpa [Value.cells] using hcs
    have hlen : ss.length = cap' := by simpa using hz
    obtain ⟨E', m', x, g1, g2, g3, g4, g5, g6⟩ := openRow h (g := fun i => .str ((fun i => (ss.getD i ByteArray.empty).data.toList) i)) (fun _ _ => rfl) (fun _ => trivial)
      (.inr ⟨a, len', cap', hv, okWide_spot (t := t) ht (by rw [← hv]; exact hval), hl, (by unfold maxLen at hm; omega), fun i hi => by rw [hcell i (by omega)]; simp [cA]⟩)
    refine ⟨E', m', x, fun i => (ss.getD i ByteArray.empty).data.toList, g1, g2, g3, g4, g5, g6, fun i => ?_⟩
    show (ss.getD i ByteArray.empty).data.toList.length ≤ _
    by_cases hi : i < ss.length
    · have e : ss.getD i ByteArray.empty = ss[i] := by simp [List.getD, List.getElem?_eq_getElem hi]
      have := hsz _ (List.getElem_mem hi)
      rw [e]
      have e2 : ss[i].data.toList.length = ss[i].size := Array.length_toList
      unfold maxLen at this
      omega
    · have e : ss.getD i ByteArray.empty = ByteArray.empty := by simp [List.getD, List.getElem?_eq_none (Nat.le_of_not_lt hi)]
      rw [e]; exact Nat.zero_le _

/-- A slice of numbers among the arguments. -/
theorem openNums {σ : Nat → Nat} {E : Emb} {m : Mem} (h : Sim σ W.heap.size W E m W) {r : Reach} {base : Nat} {t e : TypeId} {k : IntKind} {v : Value} {d : DataW H} {ps : List MemPlace}
    (ht : P.underlying t = some (.slice e)) (he : P.underlying e = some (.int k)) (hce : P.cellsOf e = 1) (hval : Value.okWide P W r base t v) (hd : DataW.Trod enc P W 0 (fun _ => true) true t v d ps) :
    ∃ E' m' x, ∃ f : Nat → Int, Sim σ W.heap.size W E' m' W ∧ (∃ y, m' = m ++ [y]) ∧ Agree m.length E E' ∧ v = cV σ E' x ∧ V.ok m'.length x ∧ IsRow m' x (fun i => .int k (f i)) ∧ ∀ i, (Lit.int k (f i)).wf = true := by
  obtain ⟨fuel, hf⟩ := hd
  obtain ⟨a0, len, cap, rfl⟩ := okWide_slice ht hval
  have hz0 : (Lit.int k 0).wf = true := by cases k <;> decide
  rcases open_ints ht he hce hf with ⟨hcs, hx⟩ | ⟨a, len', cap', zs, hcs, _, hl, hm, hz, hx, hcell, hwf⟩
  · have hv : Value.slice a0 len cap = .slice none 0 0 := by simpa [Value.cells] using hcs
    obtain ⟨E', m', x, g1, g2, g3, g4, g5, g6⟩ := openRow h (g := fun i => .int k ((fun _ => 0) i)) (fun _ _ => rfl) (fun _ => trivial) (.inl hv)
    exact ⟨E', m', x, fun _ => 0, g1, g2, g3, g4, g5, g6, fun _ => hz0⟩
  · have hv : Value.slice a0 len cap = .slice (some a) len' cap' := by simpa [Value.cells] using hcs
    have hlen : zs.length = cap' := by simpa using hz
    obtain ⟨E', m', x, g1, g2, g3, g4, g5, g6⟩ := openRow h (g := fun i => .int k ((fun i => zs.getD i 0) i)) (fun _ _ => rfl) (fun _ => trivial)
      (.inr ⟨a, len', cap', hv, okWide_spot (t := t) ht (by rw [← hv]; exact hval), hl, (by unfold maxLen at hm; omega), fun i hi => by rw [hcell i (by omega)]; simp [cA]⟩)
    refine ⟨E', m', x, fun i => zs.getD i 0, g1, g2, g3, g4, g5, g6, fun i => ?_⟩
    by_cases hi : i < zs.length
    · have : zs.getD i 0 = zs[i] := by simp [List.getD, List.getElem?_eq_getElem hi]
      show (Lit.int k (zs.getD i 0)).wf = true
      rw [this]; exact hwf _ (List.getElem_mem hi)
    · have : zs.getD i 0 = 0 := by simp [List.getD, List.getElem?_eq_none (Nat.le_of_not_lt hi)]
      show (Lit.int k (zs.getD i 0)).wf = true
      rw [this]; exact hz0
end

theorem IsRow.push {m : Mem} {v : V} {g : Nat → A} (h : IsRow m v g) (y : Blk) : IsRow (m ++ [y]) v g := by
  rcases h with h | ⟨b, n, cap, h1, h2, h3, h4⟩
  · exact .inl h
  · refine .inr ⟨b, n, cap, h1, h2, h3, fun hc => ?_⟩
    have := h4 hc
    have hb : b < m.length := (List.getElem?_eq_some_iff.1 this).1
    rw [List.getElem?_append_left hb]; exact this
end Go.AL
