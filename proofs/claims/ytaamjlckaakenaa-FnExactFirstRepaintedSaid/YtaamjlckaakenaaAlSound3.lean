/-
  Operations one by one: memory made, read, written; addresses.
-/
import Derived.Test.YtaamjlckaakenaaAlSound2
namespace Go.AL
set_option linter.unusedSimpArgs false
set_option linter.unusedVariables false
open Go.RowKit

variable {σ : Nat → Nat} {B : Nat} {w0 : World} {E : Emb} {m m' : Mem} {w : World} {P : Program} {ρ : Nat → Option Nat} {nt : Nat} {fr : Fr} {a : Act} {call : CallE} {v : V} {o : Oper}

theorem done_ptr (h : Sim σ B w0 E m w) (arr : Array Value) (elem : TypeId) (cs : List A) (hcs : arr = (cs.map (cA σ E)).toArray) (hok : ∀ x ∈ cs, A.ok m.length x) :
    Done σ B w0 E m (.a (.ptr m.length 0)) (m ++ [.cells true cs]) (.ok (.value (.pointer (some ⟨w.heap.size, 0, none⟩))) { w with heap := w.heap.push (.cells arr elem) }) := by
  refine ⟨_, _, E.up_agree _ _, by simp, h.new arr elem cs arr.size 0 (Nat.le_refl _) (by subst hcs; simp) (fun j x hx => by subst hcs; simp [hx]) hok, ?_, .inl ?_⟩
  · show m.length < _; simp
  · simp only [cV, cU, cA, at_, Emb.up_same]; rfl

theorem done_slice (h : Sim σ B w0 E m w) (arr : Array Value) (elem : TypeId) (cs : List A) (tot len cap : Nat) (c : Cap) (htot : tot ≤ arr.size) (hle : cs.length ≤ tot)
    (hcs : ∀ (j : Nat) (x : A), cs[j]? = some x → arr[j]? = some (cA σ E x)) (hok : ∀ x ∈ cs, A.ok m.length x) (hc : (match c with | .ex n => n | .rest s => (tot - 0) / s) = cap) :
    Done σ B w0 E m (.a (.sl m.length 0 len c)) (m ++ [.cells true cs]) (.ok (.value (.slice (some ⟨w.heap.size, 0, none⟩) len cap)) { w with heap := w.heap.push (.cells arr elem) }) := by
  refine ⟨_, _, E.up_agree _ _, by simp, h.new arr elem cs tot 0 htot hle hcs hok, ?_, .inl ?_⟩
  · show m.length < _; simp
  · simp only [cV, cU, cA, at_, Emb.up_same]; subst hc; cases c <;> rfl

theorem op_alloc (h : St σ ρ B w0 nt E m w fr a) {t : TypeId} {z : List A} (hz : zeroT P t = some z) (ho : o.op = .alloc t)
    (he : opE call fr m (.alloc z) = some (v, m')) : Done σ B w0 E m v m' ((execOp a.eval o).run P w) := by
  simp only [opE] at he
  cases he
  obtain ⟨u, h1, h2, h3⟩ := zeroT_ok hz σ E m.length
  have := done_ptr h.sim u.cells t z h2 h3
  simpa [execOp, ho, Instr.alloc, h1, newVar, newRow] using this

theorem op_box (h : St σ ρ B w0 nt E m w fr a) {t : TypeId} {x : Operand} {x' : X} (hx : cX ρ x = some x') (ho : o.op = .box t x)
    (he : opE call fr m (.box x') = some (v, m')) : Done σ B w0 E m v m' ((execOp a.eval o).run P w) := by
  simp only [opE] at he
  split at he
  case h_2 => cases he
  rename_i y hy
  cases he
  obtain ⟨h1, h2⟩ := cXU h hx hy
  have := done_ptr h.sim (a.eval x).cells t y.cells (by rw [h1]; exact cU_cells σ E y) (U.cells_ok h2)
  simpa [execOp, ho, Instr.box, newVar, newRow] using this

theorem zip_spl (off : Nat) : ∀ (l : List Value) (k : Nat) (arr : Array Value), (l.zipIdx k).foldl (fun cs (c, j) => cs.setIfInBounds (off + j) c) arr = spl arr (off + k) l
  | [], _, _ => rfl
  | v :: r, k, arr => by
    simp only [List.zipIdx_cons, List.foldl_cons, spl]
    rw [zip_spl off r (k + 1), Nat.add_assoc]

theorem spl_map (f : A → Value) : ∀ (xs cs : List A) (o : Nat), spl (cs.map f).toArray o (xs.map f) = ((splice cs o xs).map f).toArray
  | [], _, _ => rfl
  | x :: r, cs, o => by
    simp only [List.map_cons, spl, splice]
    rw [show ((cs.map f).toArray.setIfInBounds o (f x)) = ((cs.set o x).map f).toArray by simp [List.map_set]]
    exact spl_map f r _ _

theorem fill_ok (h : St σ ρ B w0 nt E m w fr a) (place : Nat → Option (Nat × Nat)) : ∀ {ps : List (Nat × Operand)} {ps' : List (Nat × Nat × X)} {cs cs' : List A},
    cParts ρ place ps = some ps' → fillE fr cs ps' = some cs' → (∀ x ∈ cs, A.ok m.length x) →
    Instr.fill place (cs.map (cA σ E)).toArray (ps.map fun (i, x) => (i, a.eval x)) = some (cs'.map (cA σ E)).toArray ∧ ∀ x ∈ cs', A.ok m.length x
  | [], ps', cs, cs', hp, hf, hok => by
    cases hp
    simp only [fillE] at hf
    cases hf
    exact ⟨rfl, hok⟩
  | (i, x) :: r, ps', cs, cs', hp, hf, hok => by
    simp only [cParts] at hp
    split at hp
    case h_2 => cases hp
    rename_i off n y l hpl hy hl
    cases hp
    simp only [fillE] at hf
    split at hf
    case h_2 => cases hf
    rename_i u hu
    split at hf
    case isFalse => cases hf
    rename_i hc
    obtain ⟨h1, h2⟩ := cXU h hy hu
    have hok' : ∀ x ∈ splice cs off u.cells, A.ok m.length x := fun x hx => by
      rcases splice_mem _ _ _ _ hx with h | h
      · exact hok x h
      · exact U.cells_ok h2 x h
    obtain ⟨h3, h4⟩ := fill_ok h place hl hf hok'
    refine ⟨?_, h4⟩
    have hcells : (a.eval x).cells = (u.cells.map (cA σ E)).toArray := by rw [h1]; exact cU_cells σ E u
    simp only [List.map_cons, Instr.fill, hpl, hcells]
    rw [if_neg (by simp; omega), ← h3]
    congr 1
    rw [← Array.foldl_toList, Array.toList_zipIdx, zip_spl off, Nat.add_zero]
    exact spl_map _ _ _ _

theorem range_flat (z : List A) (f : A → Value) (n : Nat) (hz : z ≠ []) :
    (Array.range (n * z.length)).map (fun x => (z.map f).toArray[x % (z.map f).toArray.size]!) = (((List.replicate n z).flatten).map f).toArray := by
  apply Array.ext'
  simp only [Array.toList_map, Array.toList_range]
  apply List.ext_getElem?
  intro j
  have hpos : 0 < z.length := List.length_pos_iff.2 hz
  have hlen : ((List.replicate n z).flatten).length = n * z.length := by simp
  rw [List.getElem?_map, List.getElem?_map]
  by_cases hj : j < n * z.length
  · have hmod : j % z.length < z.length := Nat.mod_lt _ hpos
    have key : ∀ (n j : Nat), j < n * z.length → ((List.replicate n z).flatten)[j]? = z[j % z.length]? := by
      intro n
      induction n with
      | zero => intro j hj; simp at hj
      | succ n ih =>
        intro j hj
        rw [List.replicate_succ, List.flatten_cons]
        by_cases h1 : j < z.length
        · rw [List.getElem?_append_left h1, Nat.mod_eq_of_lt h1]
        · rw [List.getElem?_append_right (by omega), ih _ (by rw [Nat.succ_mul] at hj; omega)]
          congr 1
          rw [Nat.mod_eq_sub_mod (a := j) (by omega)]
    rw [key n j hj]
    simp [hj, hmod]
  · rw [List.getElem?_eq_none (by simp; omega), List.getElem?_eq_none (by rw [hlen]; omega)]
    rfl

theorem op_lit (h : St σ ρ B w0 nt E m w fr a) {t e : TypeId} {n s : Nat} {z : List A} {ps : Array (Nat × Operand)} {ps' : List (Nat × Nat × X)} (ht : P.underlying t = some (.slice e)) (hs : szT P e = some s)
    (hz : zeroT P e = some z) (hs0 : s ≠ 0) (hzs : z.length = s) (hn : n * s ≤ 2 ^ 24) (hp : cParts ρ (fun i => some (i * s, s)) ps.toList = some ps') (ho : o.op = .buildSlice t n ps)
    (he : opE call fr m (.lit z n ps') = some (v, m')) : Done σ B w0 E m v m' ((execOp a.eval o).run P w) := by
  simp only [opE] at he
  split at he
  case h_2 => cases he
  rename_i cs hcs
  cases he
  obtain ⟨u, h1, h2, h3⟩ := zeroT_ok hz σ E m.length
  obtain ⟨h4, h5⟩ := fill_ok h _ hp hcs (fun x hx => by
    obtain ⟨l, hl, hx⟩ := List.mem_flatten.1 hx
    rw [(List.mem_replicate.1 hl).2] at hx; exact h3 x hx)
  have hmap : (ps.map fun (i, x) => (i, a.eval x)).toList = ps.toList.map fun (i, x) => (i, a.eval x) := by simp
  have hcells : (Instr.fill (fun i => some (i * s, s)) ((Array.range (n * s)).map fun x => (if n * s = 0 then (#[] : Array Value) else u.cells)[x % (if n * s = 0 then (#[] : Array Value) else u.cells).size]!) (ps.map fun (i, x) => (i, a.eval x)).toList) = some (cs.map (cA σ E)).toArray := by
    rw [hmap, ← h4]
    congr 1
    by_cases h0 : n * s = 0
    · have : n = 0 := by rcases Nat.mul_eq_zero.1 h0 with h | h <;> omega
      subst this; simp
    · rw [if_neg h0, h2, ← hzs]
      exact range_flat z (cA σ E) n (by intro h; subst h; simp at hzs; omega)
  have hlen : cs.length = ((cs.map (cA σ E)).toArray).size := by simp
  have := done_slice h.sim (cs.map (cA σ E)).toArray e cs cs.length n n (.ex n) (by simp) (Nat.le_refl _) (fun j x hx => by simp [hx]) h5 rfl
  refine Eq.mp ?_ this
  congr 1
  have hno : ¬ 2 ^ 24 < n * s := by omega
  simp only [execOp, ho, Sem.run_bind, Instr.buildSlice, run_underlying ht, Result.andThen_ok, run_size hs]
  rw [if_neg hno]
  by_cases h0 : n * s = 0
  · rw [if_pos h0] at hcells
    rw [if_pos h0]
    simp only [Sem.run_bind, Sem.run_pure, Result.andThen_ok]
    rw [hcells]
    simp [newRow]
  · rw [if_neg h0] at hcells
    rw [if_neg h0]
    simp only [Sem.run_bind, Sem.run_pure, Result.andThen_ok, h1]
    rw [hcells]
    simp [newRow]

end Go.AL
