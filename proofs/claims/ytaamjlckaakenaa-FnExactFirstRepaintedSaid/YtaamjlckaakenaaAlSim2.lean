/-
  Stores, and a block that is taken over: how an abstract memory is kept.
-/
import Derived.Test.YtaamjlckaakenaaAlSim
namespace Go.AL
set_option linter.unusedSimpArgs false
set_option linter.unusedVariables false
open Go.RowKit

def spl (arr : Array Value) : Nat → List Value → Array Value
  | _, [] => arr
  | o, v :: r => spl (arr.setIfInBounds o v) (o + 1) r

theorem spl_size : ∀ (vs : List Value) (arr : Array Value) (o : Nat), (spl arr o vs).size = arr.size
  | [], _, _ => rfl
  | v :: r, arr, o => by simp only [spl]; rw [spl_size r]; simp

theorem spl_other : ∀ (vs : List Value) (arr : Array Value) (o j : Nat), j < o ∨ o + vs.length ≤ j → (spl arr o vs)[j]? = arr[j]?
  | [], _, _, _, _ => rfl
  | v :: r, arr, o, j, h => by
    simp only [spl]
    rw [spl_other r _ _ j (by simp at h; omega), Array.getElem?_setIfInBounds_ne (by simp at h; omega)]

theorem spl_here : ∀ (vs : List Value) (arr : Array Value) (o j : Nat) (v : Value), o + vs.length ≤ arr.size → vs[j]? = some v → (spl arr o vs)[o + j]? = some v
  | [], _, _, _, _, _, h => by simp at h
  | x :: r, arr, o, 0, v, hs, h => by
    simp only [spl]
    rw [spl_other r _ _ _ (by omega)]
    simp at h; subst h
    simp at hs
    simp [show o < arr.size by omega]
  | x :: r, arr, o, j + 1, v, hs, h => by
    simp only [spl]
    have := spl_here r (arr.setIfInBounds o x) (o + 1) j v (by simp at hs ⊢; omega) (by simpa using h)
    rwa [show o + (j + 1) = o + 1 + j by omega]

theorem splice_length : ∀ (xs cs : List A) (o : Nat), (splice cs o xs).length = cs.length
  | [], _, _ => rfl
  | x :: r, cs, o => by simp only [splice]; rw [splice_length r]; simp

theorem splice_mem : ∀ (xs cs : List A) (o : Nat) (y : A), y ∈ splice cs o xs → y ∈ cs ∨ y ∈ xs
  | [], _, _, _, h => .inl h
  | x :: r, cs, o, y, h => by
    simp only [splice] at h
    rcases splice_mem r _ _ y h with h | h
    · rcases List.mem_or_eq_of_mem_set h with h | h
      · exact .inl h
      · exact .inr (by simp [h])
    · exact .inr (by simp [h])

theorem splice_spl {σ : Nat → Nat} {E : Emb} (off : Nat) : ∀ (xs cs : List A) (arr : Array Value) (o : Nat), off + o + xs.length ≤ arr.size → o + xs.length ≤ cs.length →
    (∀ (j : Nat) (x : A), cs[j]? = some x → arr[off + j]? = some (cA σ E x)) →
    ∀ (j : Nat) (x : A), (splice cs o xs)[j]? = some x → (spl arr (off + o) (xs.map (cA σ E)))[off + j]? = some (cA σ E x)
  | [], _, _, _, _, _, h => h
  | y :: r, cs, arr, o, hs, hc, h => by
    simp only [splice, List.map_cons, spl]
    have := splice_spl (σ := σ) (E := E) off r (cs.set o y) (arr.setIfInBounds (off + o) (cA σ E y)) (o + 1) (by simp at hs ⊢; omega) (by simp at hc ⊢; omega) (fun j x hx => by
      by_cases hj : o = j
      · subst hj
        simp at hc hs
        rw [List.getElem?_set_self (by omega)] at hx
        cases hx
        simp [show off + o < arr.size by omega]
      · rw [List.getElem?_set_ne hj] at hx
        rw [Array.getElem?_setIfInBounds_ne (by omega)]
        exact h j x hx)
    rwa [show off + o + 1 = off + (o + 1) by omega]

def World.put (w : World) (blk : Nat) (o : Obj) : World := { w with heap := w.heap.setIfInBounds blk o }

theorem put_self (w : World) (blk : Nat) (o : Obj) (h : blk < w.heap.size) : (World.put w blk o).heap[blk]? = some o := by
  simp [World.put, h]
theorem put_other (w : World) (blk k : Nat) (o : Obj) (h : k ≠ blk) : (World.put w blk o).heap[k]? = w.heap[k]? := by
  simp only [World.put]; rw [Array.getElem?_setIfInBounds_ne (Ne.symm h)]

theorem lt_of_heap {w : World} {k : Nat} {o : Obj} (h : w.heap[k]? = some o) : k < w.heap.size := by
  rcases Nat.lt_or_ge k w.heap.size with h' | h'
  · exact h'
  · simp [Array.getElem?_eq_none h'] at h

theorem addr_add (b o n : Nat) : (⟨b, o, none⟩ : Addr).add n = ⟨b, o + n, none⟩ := by
  unfold Addr.add; split
  · subst n; rfl
  · rfl

theorem run_store_at {P : Program} {w : World} {b o : Nat} {v : Value} {arr : Array Value} {elem : TypeId} {fz : Nat × Nat}
    (hb : w.heap[b]? = some (Obj.cells arr elem fz)) (ho : o < arr.size) (hf : fz.2 ≤ fz.1 ∨ o < fz.1) (hv : v.oneCell' = true) :
    (store ⟨b, o, none⟩ v).run P w = .ok () (World.put w b (.cells (arr.setIfInBounds o v) elem fz)) := by
  have hc : w.cell? ⟨b, o, none⟩ = some arr[o] := by simp [World.cell?, hb, ho]
  have hfz : w.frozen? ⟨b, o, none⟩ = false := by
    obtain ⟨lo, hi⟩ := fz
    simp only [World.frozen?, hb]
    simp only [Bool.and_eq_false_iff, decide_eq_false_iff_not, Nat.not_le, Nat.not_lt]
    simp at hf
    omega
  rw [run_store P w _ v _ hv]
  simp only [hc, hfz]
  simp only [Bool.false_eq_true, if_false, Result.ok.injEq, true_and]
  unfold World.setCell World.put
  congr 1
  apply Array.ext_getElem?
  intro k
  by_cases hk : k = b
  · subst hk
    rw [Array.getElem?_modify, if_pos rfl, hb, Array.getElem?_setIfInBounds_self_of_lt (lt_of_heap hb)]
    rfl
  · rw [Array.getElem?_modify, if_neg (by exact fun h => hk h.symm), Array.getElem?_setIfInBounds_ne (fun h => hk h.symm)]

theorem put_put (w : World) (b : Nat) (o o' : Obj) : World.put (World.put w b o) b o' = World.put w b o' := by
  unfold World.put; simp

theorem put_id {w : World} {b : Nat} {o : Obj} (h : w.heap[b]? = some o) : World.put w b o = w := by
  unfold World.put
  have : w.heap.setIfInBounds b o = w.heap := by
    apply Array.ext_getElem?
    intro k
    by_cases hk : b = k
    · subst hk; rw [Array.getElem?_setIfInBounds_self_of_lt (lt_of_heap h), h]
    · rw [Array.getElem?_setIfInBounds_ne hk]
  rw [this]

theorem run_storeCells_put {P : Program} (b o : Nat) (elem : TypeId) (fz : Nat × Nat) : ∀ (vs : List Value) (i : Nat) (w : World) (arr : Array Value),
    w.heap[b]? = some (Obj.cells arr elem fz) → o + i + vs.length ≤ arr.size → (fz.2 ≤ fz.1 ∨ o + i + vs.length ≤ fz.1) → (∀ v ∈ vs, v.oneCell' = true) →
    (storeCells ⟨b, o, none⟩ vs i).run P w = .ok () (World.put w b (.cells (spl arr (o + i) vs) elem fz))
  | [], i, w, arr, hb, _, _, _ => by
    simp only [storeCells, Sem.run_pure, spl]
    rw [put_id hb]
  | v :: r, i, w, arr, hb, hs, hf, h1 => by
    simp at hs hf
    simp only [storeCells, Sem.run_bind, addr_add]
    rw [run_store_at hb (by omega) (by omega) (h1 v (by simp))]
    simp only [Result.andThen_ok]
    rw [run_storeCells_put b o elem fz r (i + 1) _ (arr.setIfInBounds (o + i) v) (put_self _ _ _ (lt_of_heap hb)) (by simp; omega) (by omega) (fun v hv => h1 v (by simp [hv])), put_put]
    simp only [spl]
    rw [show o + (i + 1) = o + i + 1 by omega]

/-- One block's cells are others now. -/
theorem Sim.rewrite {σ B w0 E m w} (h : Sim σ B w0 E m w) {blk : Nat} {arr arr' : Array Value} {elem : TypeId} {fz : Nat × Nat}
    (hb : w.heap[blk]? = some (Obj.cells arr elem fz)) (hB : B ≤ blk) (hs : arr'.size = arr.size) {m' : Mem} (hlen : m'.length = m.length)
    (hm : ∀ (b : Nat) (x : Blk), m'[b]? = some x → (m[b]? = some x ∧ (owned m b → (E b).blk ≠ blk)) ∨
      (∃ cs cs', m[b]? = some (Blk.cells true cs) ∧ x = Blk.cells true cs' ∧ (E b).blk = blk ∧ cs'.length = cs.length ∧
        (∀ (j : Nat) (x : A), cs'[j]? = some x → arr'[(E b).off + j]? = some (cA σ E x)) ∧ ∀ x ∈ cs', A.ok m.length x) ∨ x = .dead) :
    Sim σ B w0 E m' (World.put w blk (.cells arr' elem fz)) := by
  have hsz : blk < w.heap.size := lt_of_heap hb
  have hown : ∀ b, owned m' b → owned m b := fun b ho => by
    obtain ⟨x, hx, hd⟩ := owned_some ho
    rcases hm b x hx with ⟨h1, _⟩ | ⟨cs, cs', h1, _⟩ | h1
    · unfold owned at ho ⊢; rw [hx] at ho; rw [h1]; exact ho
    · unfold owned; rw [h1]; trivial
    · exact absurd h1 hd
  refine ⟨h.below.trans ⟨rfl, rfl, rfl, by simp [World.put], fun k hk => put_other _ _ _ _ (by omega)⟩, h.base, fun b W cs hbb => ?_, fun b s pos hbb => ?_,
    fun b b' hne ho ho' => h.inj b b' hne (hown b ho) (hown b' ho'), fun b W cs hbb x hx => ?_⟩
  · rcases hm b _ hbb with ⟨h1, h2⟩ | ⟨cs0, cs', h1, h2, h3, h4, h5, h6⟩ | h1
    · have hh := h.blk b W cs h1
      by_cases hk : (E b).blk = blk
      · cases W with
        | true => exact absurd hk (h2 (by unfold owned; rw [h1]; trivial))
        | false =>
          obtain ⟨⟨a0, e0, z0, g1, g2, g3, g4⟩, g5, g6, g7⟩ := hh
          rcases g7 rfl with rfl | hlt
          · rw [hk] at g1
            rw [hb] at g1
            cases g1
            exact ⟨⟨arr', elem, fz, by rw [hk]; exact put_self _ _ _ hsz, by rw [hs]; exact g2, fun j x hx => by simp at hx, fun h => by cases h⟩, g5, fun h => (by cases h), fun _ => .inl rfl⟩
          · omega
      · exact holds_heap hh (put_other _ _ _ _ hk)
    · cases h2
      obtain ⟨⟨a0, e0, z0, g1, g2, g3, g4⟩, g5, g6, g7⟩ := h.blk b true cs0 h1
      rw [h3, hb] at g1
      cases g1
      exact ⟨⟨arr', elem, fz, by rw [h3]; exact put_self _ _ _ hsz, by rw [hs]; exact g2, h5, g4⟩, by rw [h4]; exact g5, g6, fun h => (by cases h)⟩
    · cases h1
  · rcases hm b _ hbb with ⟨h1, h2⟩ | ⟨cs0, cs', h1, h2, _⟩ | h1
    · obtain ⟨g1, g2, g3⟩ := h.iter b s pos h1
      exact ⟨by rw [put_other _ _ _ _ (h2 (by unfold owned; rw [h1]; trivial))]; exact g1, g2, g3⟩
    · cases h2
    · cases h1
  · rw [hlen]
    rcases hm b _ hbb with ⟨h1, h2⟩ | ⟨cs0, cs', h1, h2, _, _, _, h6⟩ | h1
    · exact h.sc b W cs h1 x hx
    · cases h2; exact h6 x hx
    · cases h1

theorem get_set {m : Mem} {b i : Nat} {x y : Blk} (h : (m.set b x)[i]? = some y) : (i = b ∧ y = x) ∨ (i ≠ b ∧ m[i]? = some y) := by
  by_cases hi : i = b
  · subst hi
    left
    refine ⟨rfl, ?_⟩
    rcases Nat.lt_or_ge i m.length with hl | hl
    · rw [List.getElem?_set_self hl] at h; cases h; rfl
    · rw [List.getElem?_eq_none (by simpa using hl)] at h; cases h
  · right
    exact ⟨hi, by rwa [List.getElem?_set_ne (fun e => hi e.symm)] at h⟩

/-- Cells of one block written: what 'wr' says. -/
theorem Sim.wr {σ B w0 E m w P} (h : Sim σ B w0 E m w) {b o : Nat} {xs : List A} {m' : Mem} (hw : wr m b o xs = some m') (hx : ∀ x ∈ xs, A.ok m.length x) :
    ∃ w', (storeCells (at_ E b o) (xs.map (cA σ E))).run P w = .ok () w' ∧ Sim σ B w0 E m' w' ∧ m'.length = m.length := by
  unfold AL.wr at hw
  split at hw
  case h_2 => cases hw
  rename_i cs hb
  split at hw
  case isFalse => cases hw
  rename_i hle
  cases hw
  have hh := h.blk b true cs hb
  obtain ⟨⟨arr, elem, fz, g1, g2, g3, g4⟩, g5, g6, g7⟩ := hh
  have g4 := g4 rfl
  refine ⟨_, run_storeCells_put (E b).blk ((E b).off + o) elem fz (xs.map (cA σ E)) 0 w arr g1 (by simp; omega) (by simp; omega) (fun v hv => by
    obtain ⟨x, _, rfl⟩ := List.mem_map.1 hv; exact cA_oneCell σ E x), ?_, by simp⟩
  refine h.rewrite g1 (g6 rfl) (spl_size _ _ _) (by simp) (fun b' x hb' => ?_)
  rcases get_set hb' with ⟨rfl, rfl⟩ | ⟨hne, hb'⟩
  · refine .inr (.inl ⟨cs, _, hb, rfl, rfl, splice_length _ _ _, ?_, fun x hx' => ?_⟩)
    · exact splice_spl (E b').off xs cs arr o (by omega) hle g3
    · rcases splice_mem _ _ _ _ hx' with h1 | h1
      · exact h.sc b' true cs hb x h1
      · exact hx x h1
  · exact .inl ⟨hb', fun ho => h.inj b' b hne ho (by unfold owned; rw [hb]; trivial)⟩

/-- A block of the run's own that nobody owns is taken over. -/
theorem Sim.adopt {σ B w0 E m w} (h : Sim σ B w0 E m w) {blk off tot ty : Nat} {arr : Array Value} {elem : TypeId} {fz : Nat × Nat} {cs : List A}
    (hb : w.heap[blk]? = some (Obj.cells arr elem fz)) (hB : B ≤ blk) (htot : off + tot ≤ arr.size) (hle : cs.length ≤ tot)
    (hcs : ∀ (j : Nat) (x : A), cs[j]? = some x → arr[off + j]? = some (cA σ E x)) (hfz : fz.2 ≤ fz.1 ∨ off + tot ≤ fz.1) (hok : ∀ x ∈ cs, A.ok m.length x)
    (hown : ∀ b, owned m b → (E b).blk ≠ blk) : Sim σ B w0 (E.up m.length ⟨blk, off, tot, ty⟩) (m ++ [Blk.cells true cs]) w := by
  have ha := E.up_agree m.length ⟨blk, off, tot, ty⟩
  refine ⟨h.below, h.base, fun b W cs' hb' => ?_, fun b s pos hb' => ?_, fun b b' hne ho ho' => ?_, fun b W cs' hb' x hx => ?_⟩
  · rcases get_push hb' with ⟨hlt, hb'⟩ | ⟨rfl, hq⟩
    · exact holds_emb (n := m.length) (h.blk b W cs' hb') ha hlt (h.sc b W cs' hb')
    · cases hq
      refine ⟨⟨arr, elem, fz, by rw [Emb.up_same]; exact hb, by rw [Emb.up_same]; exact htot, fun j x hx => ?_, fun _ => by rw [Emb.up_same]; exact hfz⟩,
        by rw [Emb.up_same]; exact hle, fun _ => by rw [Emb.up_same]; exact hB, fun h => by cases h⟩
      rw [Emb.up_same, cA_agree ha (hok x (List.mem_of_getElem? hx))]
      exact hcs j x hx
  · rcases get_push hb' with ⟨hlt, hb'⟩ | ⟨_, hq⟩
    · rw [ha b hlt]; exact h.iter b s pos hb'
    · cases hq
  · rcases owned_push ho with ⟨hlt, ho⟩ | rfl <;> rcases owned_push ho' with ⟨hlt', ho'⟩ | rfl
    · rw [ha b hlt, ha b' hlt']; exact h.inj b b' hne ho ho'
    · rw [ha b hlt, Emb.up_same]; exact hown b ho
    · rw [ha b' hlt', Emb.up_same]; exact (hown b' ho').symm
    · exact absurd rfl hne
  · rcases get_push hb' with ⟨hlt, hb'⟩ | ⟨_, hq⟩
    · exact (h.sc b W cs' hb' x hx).mono (by simp)
    · cases hq; exact (hok x hx).mono (by simp)

/-- More blocks behind, nothing else. -/
theorem Sim.ext {σ B w0 E m w w'} (h : Sim σ B w0 E m w) (ho : w'.os = w.os) (ht : w'.tape = w.tape) (hp : w'.output = w.output) (hs : w.heap.size ≤ w'.heap.size)
    (hh : ∀ k, k < w.heap.size → w'.heap[k]? = w.heap[k]?) : Sim σ B w0 E m w' :=
  ⟨h.below.trans ⟨ho, ht, hp, hs, fun k hk => hh k (Nat.lt_of_lt_of_le hk h.size)⟩, h.base,
    fun b W cs hb => holds_heap (h.blk b W cs hb) (hh _ (h.there hb (by simp))),
    fun b s pos hb => let ⟨g1, g2, g3⟩ := h.iter b s pos hb; ⟨by rw [hh _ (h.there hb (by simp))]; exact g1, g2, g3⟩, h.inj, h.sc⟩

theorem Sim.own_lt {σ B w0 E m w} (h : Sim σ B w0 E m w) {b : Nat} (hb : owned m b) : (E b).blk < w.heap.size := by
  obtain ⟨x, hx, hd⟩ := owned_some hb
  exact h.there hx hd

/-- A block is given up. -/
theorem Sim.dead {σ B w0 E m w} (h : Sim σ B w0 E m w) (b : Nat) : Sim σ B w0 E (m.set b Blk.dead) w := by
  have hget : ∀ (i : Nat) (y : Blk), (m.set b Blk.dead)[i]? = some y → y ≠ .dead → m[i]? = some y := fun i y hy hd => by
    rcases get_set hy with ⟨_, rfl⟩ | ⟨_, h1⟩
    · exact absurd rfl hd
    · exact h1
  have hown : ∀ i, owned (m.set b Blk.dead) i → owned m i := fun i ho => by
    obtain ⟨x, hx, hd⟩ := owned_some ho
    unfold owned at ho ⊢; rw [hx] at ho; rw [hget i x hx hd]; exact ho
  refine ⟨h.below, h.base, fun i W cs hi => h.blk i W cs (hget i _ hi (by simp)), fun i s pos hi => h.iter i s pos (hget i _ hi (by simp)),
    fun i j hne ho ho' => h.inj i j hne (hown i ho) (hown j ho'), fun i W cs hi x hx => ?_⟩
  rw [List.length_set]
  exact h.sc i W cs (hget i _ hi (by simp)) x hx

/-- An empty piece of a block that is there: no cell of it is known, none may be written. -/
theorem Sim.view {σ B w0 E m w} (h : Sim σ B w0 E m w) {blk off tot ty : Nat} {arr : Array Value} {elem : TypeId} {fz : Nat × Nat}
    (hb : w.heap[blk]? = some (Obj.cells arr elem fz)) (htot : off + tot ≤ arr.size) : Sim σ B w0 (E.up m.length ⟨blk, off, tot, ty⟩) (m ++ [Blk.cells false []]) w := by
  have ha := E.up_agree m.length ⟨blk, off, tot, ty⟩
  have hno : ¬ owned (m ++ [Blk.cells false []]) m.length := by unfold owned; simp
  refine ⟨h.below, h.base, fun b W cs' hb' => ?_, fun b s pos hb' => ?_, fun b b' hne ho ho' => ?_, fun b W cs' hb' x hx => ?_⟩
  · rcases get_push hb' with ⟨hlt, hb'⟩ | ⟨rfl, hq⟩
    · exact holds_emb (n := m.length) (h.blk b W cs' hb') ha hlt (h.sc b W cs' hb')
    · cases hq
      exact ⟨⟨arr, elem, fz, by rw [Emb.up_same]; exact hb, by rw [Emb.up_same]; exact htot, fun j x hx => by simp at hx, fun h => by cases h⟩, by simp, fun h => (by cases h), fun _ => .inl rfl⟩
  · rcases get_push hb' with ⟨hlt, hb'⟩ | ⟨_, hq⟩
    · rw [ha b hlt]; exact h.iter b s pos hb'
    · cases hq
  · rcases owned_push ho with ⟨hlt, h1⟩ | rfl
    · rcases owned_push ho' with ⟨hlt', h2⟩ | rfl
      · rw [ha b hlt, ha b' hlt']; exact h.inj b b' hne h1 h2
      · exact absurd ho' hno
    · exact absurd ho hno
  · rcases get_push hb' with ⟨hlt, hb'⟩ | ⟨_, hq⟩
    · exact (h.sc b W cs' hb' x hx).mono (by simp)
    · cases hq; simp at hx

/-- A string's iterator: made, moved on. -/
theorem Sim.newIter {σ B w0 E m w} (h : Sim σ B w0 E m w) (s : List UInt8) :
    Sim σ B w0 (E.up m.length ⟨w.heap.size, 0, 0, 0⟩) (m ++ [Blk.iter s 0]) (w.alloc (.stringIter ⟨s.toArray⟩ 0)) := by
  have ha := E.up_agree m.length ⟨w.heap.size, 0, 0, 0⟩
  have hheap : ∀ k, k < w.heap.size → (w.alloc (.stringIter ⟨s.toArray⟩ 0)).heap[k]? = w.heap[k]? := fun k hk => Below.heap_alloc _ _ _ hk
  refine ⟨h.below.alloc h.size _, h.base, fun b W cs' hb => ?_, fun b s' pos hb => ?_, fun b b' hne hb hb' => ?_, fun b W cs' hb x hx => ?_⟩
  · rcases get_push hb with ⟨hlt, hb⟩ | ⟨_, hq⟩
    · exact holds_emb (n := m.length) (holds_heap (h.blk b W cs' hb) (hheap _ (h.there hb (by simp)))) ha hlt (h.sc b W cs' hb)
    · cases hq
  · rcases get_push hb with ⟨hlt, hb⟩ | ⟨rfl, hq⟩
    · obtain ⟨h1, h2, h3⟩ := h.iter b s' pos hb
      rw [ha b hlt]
      exact ⟨by rw [hheap _ (h.there hb (by simp))]; exact h1, h2, h3⟩
    · cases hq
      rw [Emb.up_same]
      exact ⟨by show (w.heap.push _)[w.heap.size]? = _; simp, h.size, rfl⟩
  · rcases owned_push hb with ⟨hlt, hb⟩ | rfl <;> rcases owned_push hb' with ⟨hlt', hb'⟩ | rfl
    · rw [ha b hlt, ha b' hlt']; exact h.inj b b' hne hb hb'
    · obtain ⟨x, hx, hd⟩ := owned_some hb
      rw [ha b hlt, Emb.up_same]; have := h.there hx hd; simp; omega
    · obtain ⟨x, hx, hd⟩ := owned_some hb'
      rw [ha b' hlt', Emb.up_same]; have := h.there hx hd; simp; omega
    · exact absurd rfl hne
  · rcases get_push hb with ⟨hlt, hb⟩ | ⟨_, hq⟩
    · exact (h.sc b W cs' hb x hx).mono (by simp)
    · cases hq

theorem Sim.moveIter {σ B w0 E m w} (h : Sim σ B w0 E m w) {b : Nat} {s : List UInt8} {pos : Nat} (hb : m[b]? = some (Blk.iter s pos)) (pos' : Nat) :
    Sim σ B w0 E (m.set b (Blk.iter s pos')) (World.put w (E b).blk (.stringIter ⟨s.toArray⟩ pos')) := by
  obtain ⟨g1, g2, g3⟩ := h.iter b s pos hb
  have hob : owned m b := by unfold owned; rw [hb]; trivial
  have hown : ∀ i, owned (m.set b (Blk.iter s pos')) i → owned m i := fun i ho => by
    by_cases hi : i = b
    · subst hi; exact hob
    · unfold owned at ho ⊢; rwa [List.getElem?_set_ne (fun e => hi e.symm)] at ho
  refine ⟨h.below.trans ⟨rfl, rfl, rfl, by simp [World.put], fun k hk => put_other _ _ _ _ (by omega)⟩, h.base, fun i W cs hi => ?_, fun i s' p' hi => ?_,
    fun i j hne ho ho' => h.inj i j hne (hown i ho) (hown j ho'), fun i W cs hi x hx => ?_⟩
  · rcases get_set hi with ⟨_, hq⟩ | ⟨hne, hi⟩
    · cases hq
    · have hh := h.blk i W cs hi
      refine holds_heap hh (put_other _ _ _ _ ?_)
      cases W with
      | true => exact h.inj i b hne (by unfold owned; rw [hi]; trivial) hob
      | false =>
        obtain ⟨⟨a0, e0, z0, k1, _⟩, _⟩ := hh
        intro e
        rw [e, g1] at k1
        cases k1
  · rcases get_set hi with ⟨rfl, hq⟩ | ⟨hne, hi⟩
    · cases hq
      exact ⟨put_self _ _ _ (lt_of_heap g1), g2, g3⟩
    · obtain ⟨k1, k2, k3⟩ := h.iter i s' p' hi
      exact ⟨by rw [put_other _ _ _ _ (h.inj i b hne (by unfold owned; rw [hi]; trivial) hob)]; exact k1, k2, k3⟩
  · rw [List.length_set]
    rcases get_set hi with ⟨_, hq⟩ | ⟨hne, hi⟩
    · cases hq
    · exact h.sc i W cs hi x hx

/-- Cells read: what 'rd' says. -/
theorem Sim.rd {σ B w0 E m w P} (h : Sim σ B w0 E m w) {b o n : Nat} {cs : List A} (hr : rd m b o n = some cs) :
    (loadCells (at_ E b o) n).run P w = .ok (cs.map (cA σ E)).toArray w ∧ cs.length = n ∧ ∀ x ∈ cs, A.ok m.length x := by
  unfold AL.rd at hr
  split at hr
  case h_2 => cases hr
  rename_i W cs0 hb
  split at hr
  case isFalse => cases hr
  rename_i hle
  cases hr
  have hlen : ((cs0.drop o).take n).length = n := by simp; omega
  obtain ⟨⟨arr, elem, fz, g1, g2, g3, g4⟩, g5, g6, g7⟩ := h.blk b W cs0 hb
  refine ⟨?_, hlen, fun x hx => h.sc b W cs0 hb x (List.mem_of_mem_drop (List.mem_of_mem_take hx))⟩
  have := run_loadCells_list (P := P) w (at_ E b o) (((cs0.drop o).take n).map (cA σ E)) (fun j v hv => by
    rw [List.getElem?_map] at hv
    obtain ⟨x, hx, rfl⟩ := Option.map_eq_some_iff.1 hv
    rw [List.getElem?_take] at hx
    split at hx
    case isFalse => cases hx
    rw [List.getElem?_drop] at hx
    have := g3 (o + j) x hx
    unfold at_
    rw [addr_add]
    simp only [World.cell?, g1]
    simpa [Nat.add_assoc] using this)
  rwa [List.length_map, hlen] at this

theorem Sim.rd_one {σ B w0 E m w} (h : Sim σ B w0 E m w) {b o : Nat} {c : A} (hr : AL.rd m b o 1 = some [c]) : w.cell? (at_ E b o) = some (cA σ E c) ∧ A.ok m.length c := by
  unfold AL.rd at hr
  split at hr
  case h_2 => cases hr
  rename_i W cs0 hb
  split at hr
  case isFalse => cases hr
  rename_i hle
  obtain ⟨⟨arr, elem, fz, g1, g2, g3, g4⟩, g5, g6, g7⟩ := h.blk b W cs0 hb
  have h0 : cs0[o]? = some c := by
    have := congrArg (fun l => l[0]?) (Option.some.inj hr)
    simpa using this
  refine ⟨?_, h.sc b W cs0 hb c (List.mem_of_getElem? h0)⟩
  unfold at_
  simp only [World.cell?, g1]
  simpa using g3 o c h0

end Go.AL
