/-
  An argument that is a desk: a struct of a text and three lists.
-/
import Derived.Test.YtaamjlckaakenaaAlArgIn
import Derived.ChangeArms
namespace Go.AL
set_option linter.unusedSimpArgs false
set_option linter.unusedVariables false
open Go.RowKit Go.ChangeShapes Go.WideShapes
set_option linter.unusedVariables false

section
variable {H : Type} {enc : TypeId × Value → H} {P : Program} {W : World}

theorem cell_spot {r : Reach} {base : Nat} {t e : TypeId} {a : Addr} {len cap : Nat} (ht : P.underlying t = some (.slice e)) (h : Cell.okWide P W r base t (.slice (some a) len cap)) : a.spot = none := by
  simp only [Cell.okWide, ht, Cell.ok] at h
  exact h.2.2.2.1

theorem openS1 {σ : Nat → Nat} {E : Emb} {m : Mem} (h : Sim σ W.heap.size W E m W) {r : Reach} {base : Nat} {t e : TypeId} {c : Value} {fuel : Nat} {x : DataW H × List MemPlace}
    (ht : P.underlying t = some (.slice e)) (he : P.underlying e = some .string) (hce : P.cellsOf e = 1) (hval : Cell.okWide P W r base t c) (hf : DataW.trod enc P W 0 (fun _ => true) true fuel t [c] = some x) :
    ∃ E' m' a, ∃ f : Nat → List UInt8, Sim σ W.heap.size W E' m' W ∧ (∃ y, m' = m ++ [y]) ∧ Agree m.length E E' ∧ c = cA σ E' a ∧ A.ok m'.length a ∧ IsRow m' (V.a a) (fun i => .str (f i)) ∧ ∀ i, (f i).length ≤ 9223372036854775807 := by
  rcases open_strings ht he hce hf with ⟨hcs, hx⟩ | ⟨a, len', cap', ss, hcs, _, hl, hm, hz, hx, hcell, hsz⟩
  · have hv : c = .slice none 0 0 := by simpa using hcs
    exact ⟨_, _, .nils, fun _ => [], h.none default, ⟨_, rfl⟩, E.up_agree _ _, hv, trivial, .inl rfl, fun _ => Nat.zero_le _⟩
  · have hv : c = .slice (some a) len' cap' := by simpa using hcs
    have hlen : ss.length = cap' := by simpa using hz
    obtain ⟨E', m', x, g1, g2, g3, g4, g5, g6⟩ := openRow h (g := fun i => .str ((fun i => (ss.getD i ByteArray.empty).data.toList) i)) (fun _ _ => rfl) (fun _ => trivial)
      (.inr ⟨a, len', cap', hv, cell_spot (t := t) ht (by rw [← hv]; exact hval), hl, (by unfold maxLen at hm; omega), fun i hi => by rw [hcell i (by omega)]; simp [cA]⟩)
    have hb : ∀ i, (ss.getD i ByteArray.empty).data.toList.length ≤ 9223372036854775807 := by
      intro i
      by_cases hi : i < ss.length
      · have e : ss.getD i ByteArray.empty = ss[i] := by simp [List.getD, List.getElem?_eq_getElem hi]
        have := hsz _ (List.getElem_mem hi)
        rw [e]
        have e2 : ss[i].data.toList.length = ss[i].size := Array.length_toList
        unfold maxLen at this
        omega
      · have e : ss.getD i ByteArray.empty = ByteArray.empty := by simp [List.getD, List.getElem?_eq_none (Nat.le_of_not_lt hi)]
        rw [e]; exact Nat.zero_le _
    rcases g6 with rfl | ⟨b, n, cap, rfl, h2, h3, h4⟩
    · exact ⟨E', m', .nils, fun i => (ss.getD i ByteArray.empty).data.toList, g1, g2, g3, g4, g5, .inl rfl, hb⟩
    · exact ⟨E', m', .sl b 0 n (.ex cap), fun i => (ss.getD i ByteArray.empty).data.toList, g1, g2, g3, g4, g5, .inr ⟨b, n, cap, rfl, h2, h3, h4⟩, hb⟩

theorem openI1 {σ : Nat → Nat} {E : Emb} {m : Mem} (h : Sim σ W.heap.size W E m W) {r : Reach} {base : Nat} {t e : TypeId} {k : IntKind} {c : Value} {fuel : Nat} {x : DataW H × List MemPlace}
    (ht : P.underlying t = some (.slice e)) (he : P.underlying e = some (.int k)) (hce : P.cellsOf e = 1) (hval : Cell.okWide P W r base t c) (hf : DataW.trod enc P W 0 (fun _ => true) true fuel t [c] = some x) :
    ∃ E' m' a, ∃ f : Nat → Int, Sim σ W.heap.size W E' m' W ∧ (∃ y, m' = m ++ [y]) ∧ Agree m.length E E' ∧ c = cA σ E' a ∧ A.ok m'.length a ∧ IsRow m' (V.a a) (fun i => .int k (f i)) ∧ ∀ i, (Lit.int k (f i)).wf = true := by
  have hz0 : (Lit.int k 0).wf = true := by cases k <;> decide
  rcases open_ints ht he hce hf with ⟨hcs, hx⟩ | ⟨a, len', cap', zs, hcs, _, hl, hm, hz, hx, hcell, hwf⟩
  · have hv : c = .slice none 0 0 := by simpa using hcs
    exact ⟨_, _, .nils, fun _ => 0, h.none default, ⟨_, rfl⟩, E.up_agree _ _, hv, trivial, .inl rfl, fun _ => hz0⟩
  · have hv : c = .slice (some a) len' cap' := by simpa using hcs
    have hlen : zs.length = cap' := by simpa using hz
    obtain ⟨E', m', x, g1, g2, g3, g4, g5, g6⟩ := openRow h (g := fun i => .int k ((fun i => zs.getD i 0) i)) (fun _ _ => rfl) (fun _ => trivial)
      (.inr ⟨a, len', cap', hv, cell_spot (t := t) ht (by rw [← hv]; exact hval), hl, (by unfold maxLen at hm; omega), fun i hi => by rw [hcell i (by omega)]; simp [cA]⟩)
    have hb : ∀ i, (Lit.int k (zs.getD i 0)).wf = true := by
      intro i
      by_cases hi : i < zs.length
      · have : zs.getD i 0 = zs[i] := by simp [List.getD, List.getElem?_eq_getElem hi]
        rw [this]; exact hwf _ (List.getElem_mem hi)
      · have : zs.getD i 0 = 0 := by simp [List.getD, List.getElem?_eq_none (Nat.le_of_not_lt hi)]
        rw [this]; exact hz0
    rcases g6 with rfl | ⟨b, n, cap, rfl, h2, h3, h4⟩
    · exact ⟨E', m', .nils, fun i => zs.getD i 0, g1, g2, g3, g4, g5, .inl rfl, hb⟩
    · exact ⟨E', m', .sl b 0 n (.ex cap), fun i => zs.getD i 0, g1, g2, g3, g4, g5, .inr ⟨b, n, cap, rfl, h2, h3, h4⟩, hb⟩

theorem openDesk {σ : Nat → Nat} {E : Emb} {m : Mem} (h : Sim σ W.heap.size W E m W) {r : Reach} {base : Nat} {t eI eS : TypeId} {F0 F1 F2 F3 : Field} {v : Value} {d : DataW H} {ps : List MemPlace}
    (ht : P.underlying t = some (.struct #[F0, F1, F2, F3])) (hc4 : P.cellsOf t = 4) (hty : P.cellTypes P.depth t = some [F0.type, F1.type, F2.type, F3.type])
    (o0 : F0.offset = 0) (o1 : F1.offset = 1) (o2 : F2.offset = 2) (o3 : F3.offset = 3) (k0 : P.cellsOf F0.type = 1) (k1 : P.cellsOf F1.type = 1) (k2 : P.cellsOf F2.type = 1) (k3 : P.cellsOf F3.type = 1)
    (u0 : P.underlying F0.type = some .string) (u1 : P.underlying F1.type = some (.slice eI)) (u2 : P.underlying F2.type = some (.slice eI)) (u3 : P.underlying F3.type = some (.slice eS))
    (ueI : P.underlying eI = some (.int .i64)) (ueS : P.underlying eS = some .string) (cI : P.cellsOf eI = 1) (cS : P.cellsOf eS = 1)
    (hval : Value.okWide P W r base t v) (hd : DataW.Trod enc P W 0 (fun _ => true) true t v d ps) :
    ∃ E' m' s a1 a2 a3, ∃ f1 f2 : Nat → Int, ∃ f3 : Nat → List UInt8, Sim σ W.heap.size W E' m' W ∧ v = cV σ E' (V.g [.str s, a1, a2, a3]) ∧ V.ok m'.length (V.g [.str s, a1, a2, a3]) ∧ s.length ≤ 9223372036854775807 ∧
      IsRow m' (V.a a1) (fun i => .int .i64 (f1 i)) ∧ IsRow m' (V.a a2) (fun i => .int .i64 (f2 i)) ∧ IsRow m' (V.a a3) (fun i => .str (f3 i)) ∧ (∀ i, (f3 i).length ≤ 9223372036854775807) := by
  simp only [Value.okWide, ht] at hval
  obtain ⟨cs, rfl, hsz, ts, hts, _, hcell⟩ := hval
  rw [hty] at hts; cases hts
  obtain ⟨fuel, hf⟩ := hd
  rw [hc4] at hsz
  obtain ⟨l⟩ := cs
  have hsz' : l.length = 4 := hsz
  match l, hsz' with
  | [c0, c1, c2, c3], _ =>
    obtain ⟨xs, n, _, _, _, hxl, hfs⟩ := DataW.trod_struct ht hf
    have hxl4 : xs.length = 4 := hxl
    match xs, hxl4 with
    | [y0, y1, y2, y3], _ =>
      have g0 := hfs 0 F0 rfl
      have g1 := hfs 1 F1 rfl
      have g2 := hfs 2 F2 rfl
      have g3 := hfs 3 F3 rfl
      simp [Value.cells, o0, o1, o2, o3, k0, k1, k2, k3] at g0 g1 g2 g3
      obtain ⟨w1, e1, hc1⟩ := hcell 1 c1 rfl
      obtain ⟨w2, e2, hc2⟩ := hcell 2 c2 rfl
      obtain ⟨w3, e3, hc3⟩ := hcell 3 c3 rfl
      simp at e1 e2 e3
      subst e1 e2 e3
      obtain ⟨s, hs0, _, hsl⟩ := DataW.trod_string u0 g0
      have hs1 : c0 = .string s := by simpa using hs0
      subst hs1
      obtain ⟨E1, m1, a1, f1, S1, ⟨y1', M1⟩, A1, v1, k1', R1, _⟩ := openI1 h u1 ueI cI hc1 g1
      obtain ⟨E2, m2, a2, f2, S2, ⟨y2', M2⟩, A2, v2, k2', R2, _⟩ := openI1 S1 u2 ueI cI hc2 g2
      obtain ⟨E3, m3, a3, f3, S3, ⟨y3', M3⟩, A3, v3, k3', R3, B3⟩ := openS1 S2 u3 ueS cS hc3 g3
      have l12 : m1.length ≤ m2.length := by rw [M2]; simp
      have l23 : m2.length ≤ m3.length := by rw [M3]; simp
      have v1' : c1 = cA σ E3 a1 := by rw [v1, ← cA_agree A2 k1', ← cA_agree A3 (k1'.mono l12)]
      have v2' : c2 = cA σ E3 a2 := by rw [v2, ← cA_agree A3 k2']
      have R1' : IsRow m3 (V.a a1) (fun i => .int .i64 (f1 i)) := by rw [M3, M2]; exact (R1.push _).push _
      have R2' : IsRow m3 (V.a a2) (fun i => .int .i64 (f2 i)) := by rw [M3]; exact R2.push _
      refine ⟨E3, m3, s.data.toList, a1, a2, a3, f1, f2, f3, S3, ?_, ?_, ?_, R1', R2', R3, B3⟩
      · rw [v1', v2', v3]; simp [cV, cU, cA]
      · intro x hx
        simp only [List.mem_cons, List.not_mem_nil, or_false] at hx
        rcases hx with rfl | rfl | rfl | rfl
        · exact trivial
        · exact k1'.mono (by omega)
        · exact k2'.mono (by omega)
        · exact k3'
      · have : s.data.toList.length = s.size := Array.length_toList
        unfold maxLen at hsl
        omega
end
end Go.AL
