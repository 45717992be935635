/-
  A region that draws its order: what the interpreter finds in its one order is what every order comes to.
-/
import Derived.Test.YtaamjlckaakenaaAlStep
namespace Go.AL
set_option linter.unusedSimpArgs false
set_option linter.unusedVariables false
open Go.RowKit

variable {call : CallE} {fr fr' : Fr} {m m' : Mem}

theorem ev_congr {x : X} (h : ∀ s ∈ x.sl, fget fr s = fget fr' s) : ev fr x = ev fr' x := by
  cases x with
  | s i => exact h i (by simp [X.sl])
  | k v => rfl
theorem evA_congr {x : X} (h : ∀ s ∈ x.sl, fget fr s = fget fr' s) : evA fr x = evA fr' x := by unfold evA; rw [ev_congr h]
theorem evU_congr {x : X} (h : ∀ s ∈ x.sl, fget fr s = fget fr' s) : evU fr x = evU fr' x := by unfold evU; rw [ev_congr h]
theorem map_congr {xs : List X} (h : ∀ s ∈ xs.flatMap X.sl, fget fr s = fget fr' s) : xs.map (ev fr) = xs.map (ev fr') :=
  List.map_congr_left fun x hx => ev_congr fun s hs => h s (List.mem_flatMap.2 ⟨x, hx, hs⟩)
theorem atoms_congr : ∀ {xs : List X}, (∀ s ∈ xs.flatMap X.sl, fget fr s = fget fr' s) → atoms xs fr = atoms xs fr'
  | [], _ => rfl
  | x :: r, h => by
    simp only [atoms]
    rw [evA_congr (x := x) fun s hs => h s (List.mem_flatMap.2 ⟨x, by simp, hs⟩), atoms_congr fun s hs => h s (by
      obtain ⟨y, hy, hs⟩ := List.mem_flatMap.1 hs
      exact List.mem_flatMap.2 ⟨y, by simp [hy], hs⟩)]
theorem fillE_congr : ∀ {ps : List (Nat × Nat × X)} {cs : List A}, (∀ s ∈ ps.flatMap (fun p => p.2.2.sl), fget fr s = fget fr' s) → fillE fr cs ps = fillE fr' cs ps
  | [], _, _ => rfl
  | (off, n, x) :: r, cs, h => by
    simp only [fillE]
    rw [evU_congr (x := x) fun s hs => h s (List.mem_flatMap.2 ⟨(off, n, x), by simp, hs⟩)]
    split
    · split
      · exact fillE_congr fun s hs => h s (by
          obtain ⟨y, hy, hs⟩ := List.mem_flatMap.1 hs
          exact List.mem_flatMap.2 ⟨y, by simp [hy], hs⟩)
      · rfl
    · rfl
theorem bnd_congr {d t : Nat} {x : Option X} (h : ∀ s ∈ osl x, fget fr s = fget fr' s) : bnd fr d t x = bnd fr' d t x := by
  cases x with
  | none => rfl
  | some x => simp only [bnd]; rw [evA_congr h]

set_option maxHeartbeats 1000000 in
theorem opE_congr {op : O} (h : ∀ s ∈ op.slots, fget fr s = fget fr' s) : opE call fr m op = opE call fr' m op := by
  cases op <;> simp only [O.slots, List.mem_append] at h <;> simp only [opE] <;>
    first
      | rfl
      | (rw [ev_congr h]; done)
      | (rw [evA_congr h]; done)
      | (rw [evU_congr h]; done)
      | (rw [fillE_congr h]; done)
      | (rw [map_congr h]; done)
      | (rw [atoms_congr h]; done)
      | (rw [evA_congr fun s hs => h s (.inl hs), evA_congr fun s hs => h s (.inr hs)]; done)
      | (rw [evA_congr fun s hs => h s (.inl hs), evU_congr fun s hs => h s (.inr hs)]; done)
      | (rw [ev_congr fun s hs => h s (.inl hs), evA_congr fun s hs => h s (.inr hs)]; done)
      | (rw [ev_congr fun s hs => h s (.inl hs), ev_congr fun s hs => h s (.inr hs)]; done)
      | (rw [evA_congr fun s hs => h s (.inl hs), map_congr fun s hs => h s (.inr hs)]; done)
      | (rw [evA_congr fun s hs => h s (.inl (.inl hs)), ev_congr fun s hs => h s (.inl (.inr hs)), ev_congr fun s hs => h s (.inr hs)]; done)
      | (rw [evA_congr fun s hs => h s (.inl (.inl hs))]
         simp only [bnd_congr (fr := fr) (fr' := fr') fun s hs => h s (.inl (.inr hs)), bnd_congr (fr := fr) (fr' := fr') fun s hs => h s (.inr hs)]; done)
      | skip
  case slc s x lo hi mx =>
    have e0 : evA fr x = evA fr' x := evA_congr fun s hs => h s (.inl (.inl (.inl hs)))
    have e1 : ∀ d t, bnd fr d t lo = bnd fr' d t lo := fun d t => bnd_congr fun s hs => h s (.inl (.inl (.inr hs)))
    have e2 : ∀ d t, bnd fr d t hi = bnd fr' d t hi := fun d t => bnd_congr fun s hs => h s (.inl (.inr hs))
    have e3 : ∀ d t, bnd fr d t mx = bnd fr' d t mx := fun d t => bnd_congr fun s hs => h s (.inr hs)
    rw [e0]
    cases mx <;> simp only [e1, e2, e3]

theorem wanted_congr {g : Option (Nat × Bool)} (h : ∀ s t, g = some (s, t) → fget fr s = fget fr' s) : wanted fr g = wanted fr' g := by
  cases g with
  | none => rfl
  | some p => obtain ⟨s, t⟩ := p; simp only [wanted]; rw [h s t rfl]

theorem stepV_congr {i : I} (h : ∀ s ∈ i.reads, fget fr s = fget fr' s) : stepV call fr m i = stepV call fr' m i := by
  unfold stepV
  rw [wanted_congr fun s t hg => h s (by simp [I.reads, hg]), opE_congr fun s hs => h s (by simp [I.reads, hs])]

set_option maxHeartbeats 2000000 in
theorem opE_pure {op : O} (hc : op.cls = 0) {v : V} (h : opE call fr m op = some (v, m')) : m' = m ∧ ∀ m2, opE call fr m2 op = some (v, m2) := by
  cases op <;> first
    | (exfalso; simp [O.cls] at hc; done)
    | (simp only [opE] at h ⊢; cases h; exact ⟨rfl, fun _ => rfl⟩)
    | (simp only [opE] at h ⊢; split at h <;> first | (cases h; done) | (split at h <;> first | (cases h; done) | (cases h; refine ⟨rfl, fun m2 => ?_⟩; simp_all; done)))
    | (simp only [opE] at h ⊢; (repeat' split at h) <;> first | (cases h; done) | (cases h; refine ⟨rfl, fun m2 => ?_⟩; simp_all; done) | (obtain ⟨q, hq, h⟩ := Option.map_eq_some_iff.1 h; cases h; refine ⟨rfl, fun m2 => ?_⟩; simp_all; done))

theorem opE_reads {op : O} (hc : op.cls = 1) {v : V} (h : opE call fr m op = some (v, m')) (hl : m'.length = m.length) : m' = m := by
  cases op <;> simp [O.cls] at hc <;> simp only [opE] at h
  all_goals
    (repeat' split at h) <;> first | (cases h; done) | (cases h; rfl) | (obtain ⟨q, hq, h⟩ := Option.map_eq_some_iff.1 h; cases h; rfl) | (cases h; simp at hl)

theorem cls_cases (op : O) : op.cls = 0 ∨ op.cls = 1 ∨ op.cls = 2 := by cases op <;> simp [O.cls]

theorem stepV_pure {i : I} (hc : i.op.cls = 0) {v : V} (h : stepV call fr m i = some (v, m')) : m' = m ∧ ∀ m2, stepV call fr m2 i = some (v, m2) := by
  unfold stepV at h ⊢
  split at h
  · exact opE_pure hc h
  · cases h; exact ⟨rfl, fun _ => rfl⟩
  · cases h

theorem stepV_still {i : I} (hc : i.op.cls ≠ 2) {v : V} (h : stepV call fr m i = some (v, m')) (hl : i.op.cls = 2 ∨ m'.length = m.length) : m' = m := by
  have hl := hl.resolve_left hc
  unfold stepV at h
  split at h
  · have : i.op.cls = 0 ∨ i.op.cls = 1 := by
      rcases cls_cases i.op with h | h | h
      · exact .inl h
      · exact .inr h
      · exact absurd h hc
    rcases this with h0 | h1
    · exact (opE_pure h0 h).1
    · exact opE_reads h1 h hl
  · cases h; rfl
  · cases h

theorem fset_comm : ∀ (fr : Fr) (i j : Nat) (v u : V), i ≠ j → fset (fset fr i v) j u = fset (fset fr j u) i v
  | [], 0, 0, _, _, h => absurd rfl h
  | [], 0, j + 1, v, u, _ => by simp [fset]
  | [], i + 1, 0, v, u, _ => by simp [fset]
  | [], i + 1, j + 1, v, u, h => by simp only [fset]; rw [fset_comm [] i j v u (by omega)]
  | _ :: _, 0, 0, _, _, h => absurd rfl h
  | _ :: _, 0, j + 1, _, _, _ => rfl
  | _ :: _, i + 1, 0, _, _, _ => rfl
  | _ :: r, i + 1, j + 1, v, u, h => by simp only [fset]; rw [fset_comm r i j v u (by omega)]

def differ (x y : Option Nat) : Prop := ∀ d e, x = some d → y = some e → d ≠ e
theorem differ.symm {x y : Option Nat} (h : differ x y) : differ y x := fun d e hd he hq => h e d he hd hq.symm

theorem put_comm {x y : Option Nat} (h : differ x y) (v u : V) : put (put fr x v) y u = put (put fr y u) x v := by
  cases x with
  | none => cases y <;> rfl
  | some d => cases y with
    | none => rfl
    | some e => exact fset_comm fr d e v u (h d e rfl rfl)

theorem reads_put {i : I} {d : Option Nat} (h : i.free d = true) (v : V) : ∀ s ∈ i.reads, fget (put fr d v) s = fget fr s := by
  intro s hs
  cases d with
  | none => rfl
  | some d =>
    simp only [put]
    refine fget_set_ne _ _ _ _ fun e => ?_
    subst e
    simp [I.free] at h
    exact h hs

theorem get_put {d e : Option Nat} (h : differ d e) (v : V) {k : Nat} (hk : e = some k) : fget (put fr d v) k = fget fr k := by
  cases d with
  | none => rfl
  | some d => exact fget_set_ne _ _ _ _ (h d k rfl hk)

theorem again_put {k : I} {d : Option Nat} (hf : k.free d = true) (hd : differ d k.d) (v : V) : again call (put fr d v) m k = again call fr m k := by
  unfold again
  rw [stepV_congr (reads_put hf v)]
  split
  · rename_i u m2 e h1 h2
    rw [get_put hd v h2]
  · rfl

/-- What lets two neighbours change places. -/
structure SwapOk (x j : T) : Prop where
  fx : j.i.free x.i.d = true
  fj : x.i.free j.i.d = true
  df : differ x.i.d j.i.d
  cx : x.i.op.cls ≠ 2 → x.chk = []
  cj : j.i.op.cls ≠ 2 → j.chk = []
  nn : ¬ (x.i.op.cls = 2 ∧ j.i.op.cls = 2)
  x2 : x.i.op.cls = 2 → j.i.op.cls = 0
  j2 : j.i.op.cls = 2 → x.i.op.cls = 0 ∨ ∃ k ∈ j.chk, k.1 = x.idx ∧ k.2 = x.i
  hx : ∀ k ∈ x.chk, k.2.free j.i.d = true ∧ differ j.i.d k.2.d
  hj : ∀ k ∈ j.chk, k.1 ≠ x.idx → k.2.free x.i.d = true ∧ differ x.i.d k.2.d
  hs : ∀ k ∈ j.chk, k.1 = x.idx → k.2.op.cls = 1 ∧ k.2.d.isSome = true ∧ k.2.free k.2.d = true

def T.less (j : T) (n : Nat) : T := { j with chk := j.chk.filter fun k => k.1 != n }

theorem dops_cons {i : DI} {r : List DI} {s : Fr × Mem} : dopsE call (i :: r) fr m = some s ↔ ∃ v m', stepV call fr m i.i = some (v, m') ∧ (i.i.op.cls = 2 ∨ m'.length = m.length) ∧
    (∀ k ∈ i.chk, again call (put fr i.i.d v) m' k = true) ∧ dopsE call r (put fr i.i.d v) m' = some s := by
  simp only [dopsE, stepE]
  cases h : stepV call fr m i.i with
  | none => simp
  | some p =>
    obtain ⟨v, m'⟩ := p
    simp only
    constructor
    · intro hq
      split at hq
      · rename_i hc
        exact ⟨v, m', rfl, hc.1, List.all_eq_true.1 hc.2, hq⟩
      · cases hq
    · rintro ⟨v', m2, hq, h1, h2, h3⟩
      cases hq
      rw [if_pos ⟨h1, List.all_eq_true.2 h2⟩]
      exact h3

theorem swap_ok {x j : T} (h : SwapOk x j) {r : List DI} {s : Fr × Mem} (he : dopsE call (x.di :: j.di :: r) fr m = some s) : dopsE call ((j.less x.idx).di :: x.di :: r) fr m = some s := by
  obtain ⟨vx, m1, x1, x2, x3, he1⟩ := dops_cons.1 he
  obtain ⟨vj, m2, j1, j2, j3, he2⟩ := dops_cons.1 he1
  clear he he1
  simp only [T.di, T.less] at *
  have j1' : stepV call fr m1 j.i = some (vj, m2) := by rw [← j1]; exact (stepV_congr fun s hs => (reads_put h.fx vx s hs).symm)
  have hcomm := put_comm (fr := fr) h.df vx vj
  by_cases hx2 : x.i.op.cls = 2
  · have hj0 := h.x2 hx2
    obtain ⟨hm, jp⟩ := stepV_pure hj0 j1'
    subst hm
    refine dops_cons.2 ⟨vj, m, jp m, .inr rfl, fun k hk => ?_, dops_cons.2 ⟨vx, m2, ?_, .inl hx2, fun k hk => ?_, ?_⟩⟩
    · rw [h.cj (by rw [hj0]; decide)] at hk
      simp at hk
    · rw [← x1]; exact stepV_congr (reads_put h.fj vj)
    · obtain ⟨k0, hk0, rfl⟩ := List.mem_map.1 hk
      obtain ⟨q1, q2⟩ := h.hx k0 hk0
      rw [← hcomm, again_put q1 q2 vj]
      exact x3 k0.2 hk
    · rw [← hcomm]; exact he2
  · have hm := stepV_still hx2 x1 x2
    subst hm
    refine dops_cons.2 ⟨vj, m2, j1', j2, fun k hk => ?_, dops_cons.2 ⟨vx, m2, ?_, .inr rfl, fun k hk => ?_, ?_⟩⟩
    · obtain ⟨k0, hk0, rfl⟩ := List.mem_map.1 hk
      obtain ⟨hk1, hk2⟩ := List.mem_filter.1 hk0
      obtain ⟨q1, q2⟩ := h.hj k0 hk1 (by simpa using hk2)
      have := j3 k0.2 (List.mem_map.2 ⟨k0, hk1, rfl⟩)
      rw [hcomm, again_put q1 q2 vx] at this
      exact this
    · rw [stepV_congr (reads_put h.fj vj)]
      by_cases hj2 : j.i.op.cls = 2
      · rcases h.j2 hj2 with h0 | ⟨k, hk, hk1, hk2⟩
        · exact (stepV_pure h0 x1).2 m2
        · obtain ⟨q1, q2, q3⟩ := h.hs k hk hk1
          rw [hk2] at q1 q2 q3
          have ag := j3 k.2 (List.mem_map.2 ⟨k, hk, rfl⟩)
          rw [hk2] at ag
          unfold again at ag
          split at ag
          case h_2 => cases ag
          rename_i v3 m3 d h3 hd
          rw [hcomm, stepV_congr (reads_put q3 vx), stepV_congr (reads_put h.fj vj)] at h3
          simp only [Bool.and_eq_true, beq_iff_eq] at ag
          obtain ⟨e1, e2⟩ := ag
          have : fget (put (put fr x.i.d vx) j.i.d vj) d = vx := by
            rw [get_put h.df.symm vj hd, hd]
            exact fget_set_same _ _ _
          rw [this] at e1
          subst e1
          have := stepV_still (by rw [q1]; decide) h3 (.inr e2)
          subst this
          exact h3
      · obtain rfl := stepV_still hj2 j1' j2
        exact x1
    · rw [h.cx hx2] at hk
      simp at hk
    · rw [← hcomm]; exact he2

theorem dops_append : ∀ {A B : List DI} {fr : Fr} {m : Mem} {s : Fr × Mem}, dopsE call (A ++ B) fr m = some s ↔ ∃ fr1 m1, dopsE call A fr m = some (fr1, m1) ∧ dopsE call B fr1 m1 = some s
  | [], B, fr, m, s => by
    constructor
    · intro h; exact ⟨fr, m, rfl, h⟩
    · rintro ⟨fr1, m1, h1, h2⟩; cases h1; exact h2
  | i :: r, B, fr, m, s => by
    rw [List.cons_append]
    constructor
    · intro h
      obtain ⟨v, m', h1, h2, h3, h4⟩ := dops_cons.1 h
      obtain ⟨fr1, m1, h5, h6⟩ := dops_append.1 h4
      exact ⟨fr1, m1, dops_cons.2 ⟨v, m', h1, h2, h3, h5⟩, h6⟩
    · rintro ⟨fr1, m1, h5, h6⟩
      obtain ⟨v, m', h1, h2, h3, h4⟩ := dops_cons.1 h5
      exact dops_cons.2 ⟨v, m', h1, h2, h3, dops_append.2 ⟨fr1, m1, h4, h6⟩⟩

def T.lessL (j : T) (l : List Nat) : T := { j with chk := j.chk.filter fun k => !l.contains k.1 }

theorem lessL_nil (j : T) : j.lessL [] = j := by cases j; simp [T.lessL]
theorem lessL_less (j : T) (n : Nat) (l : List Nat) : (j.less n).lessL l = j.lessL (l ++ [n]) := by
  simp only [T.lessL, T.less, List.filter_filter]
  congr 1
  apply List.filter_congr
  intro k _
  by_cases hk : k.1 = n <;> simp [bne, hk]

theorem front : ∀ (n : Nat) (pre : List T) (j : T) (post : List T) (fr : Fr) (m : Mem) (s : Fr × Mem), pre.length = n → (∀ A x C, pre = A ++ x :: C → SwapOk x (j.lessL (C.map T.idx))) →
    dopsE call ((pre ++ j :: post).map T.di) fr m = some s → ∃ fr' m', stepE call fr m j.i = some (fr', m') ∧ dopsE call ((pre ++ post).map T.di) fr' m' = some s
  | 0, pre, j, post, fr, m, s, hn, _, he => by
    have : pre = [] := List.eq_nil_of_length_eq_zero hn
    subst this
    obtain ⟨v, m', h1, _, _, h4⟩ := dops_cons.1 he
    exact ⟨put fr j.i.d v, m', by simp only [stepE, T.di] at *; rw [h1], h4⟩
  | n + 1, pre, j, post, fr, m, s, hn, H, he => by
    obtain ⟨pre0, x, rfl⟩ : ∃ pre0 x, pre = pre0 ++ [x] := by
      have hne : pre ≠ [] := by intro h; subst h; simp at hn
      exact ⟨pre.dropLast, pre.getLast hne, (List.dropLast_concat_getLast hne).symm⟩
    have hx := H pre0 x [] rfl
    rw [List.map_nil, lessL_nil] at hx
    rw [List.append_assoc, List.singleton_append, List.map_append, List.map_cons, List.map_cons] at he
    obtain ⟨fr1, m1, h1, h2⟩ := dops_append.1 he
    have h3 := swap_ok hx h2
    have h4 : dopsE call ((pre0 ++ (j.less x.idx) :: (x :: post)).map T.di) fr m = some s := by
      rw [List.map_append, List.map_cons, List.map_cons]
      exact dops_append.2 ⟨fr1, m1, h1, h3⟩
    obtain ⟨fr', m', h5, h6⟩ := front n pre0 (j.less x.idx) (x :: post) fr m s (by simpa using hn) (fun A y C hA => by
      have := H A y (C ++ [x]) (by rw [hA]; simp)
      rwa [lessL_less, List.map_append, List.map_cons, List.map_nil] at *) h4
    exact ⟨fr', m', h5, by rw [List.append_assoc, List.singleton_append]; exact h6⟩

/-- Whatever order: the same end. -/
def AnyE (call : CallE) (ops : Array Oper) (is : List I) : Nat → Array Bool → Fr → Mem → Fr × Mem → Prop
  | 0, listed, fr, m, r => Region.ready .any ops listed = [] ∧ r = (fr, m)
  | n + 1, listed, fr, m, r => (Region.ready .any ops listed = [] → r = (fr, m)) ∧
    ∀ i ∈ Region.ready .any ops listed, ∃ ii fr' m', is[i]? = some ii ∧ stepE call fr m ii = some (fr', m') ∧ AnyE call ops is n (listed.setIfInBounds i true) fr' m' r

def Lst (listed : Array Bool) (i : Nat) : Prop := listed.getD i false = true

structure Inv (bs : List (List Nat)) (ops : Array Oper) (is : List I) (listed : Array Bool) (L : List T) : Prop where
  size : listed.size = ops.size
  un : ∀ i, i < ops.size → (¬ Lst listed i ↔ i ∈ L.map T.idx)
  lt : ∀ t ∈ L, t.idx < ops.size
  cl : ∀ i, Lst listed i → ∀ b ∈ bef bs i, Lst listed b
  pw : L.Pairwise fun x y => condT bs x y = true
  ck : ∀ y ∈ L, ∀ k ∈ y.chk, k.2.op.cls = 1 ∧ k.2.d.isSome = true ∧ k.2.free k.2.d = true ∧ ∀ z ∈ L, privT bs z k = true
  wf : ∀ A y C, L = A ++ y :: C → ∀ k ∈ y.chk, Lst listed k.1 ∨ k.1 ∈ A.map T.idx
  is : ∀ t ∈ L, is[t.idx]? = some t.i
  no : ∀ t ∈ L, t.i.op.cls ≠ 2 → t.chk = []

theorem lst_iff {listed : Array Bool} {i : Nat} (h : i < listed.size) : ¬ Lst listed i ↔ listed.getD i true = false := by
  unfold Lst; simp [h]

theorem mem_afterOf {ops : Array Oper} {i : Nat} {o : Oper} (ho : ops[i]? = some o) {e : Nat} : e ∈ afterOf ops i ↔ ∃ g ∈ o.after, Region.binds .any g = true ∧ g.on = e := by
  unfold afterOf
  rw [ho]
  simp [and_assoc]

theorem condT_spec {bs : List (List Nat)} {x y : T} (h : condT bs x y = true) : x.idx ≠ y.idx ∧ y.idx ∉ bef bs x.idx ∧ (x.idx ∈ bef bs y.idx ∨
    (y.i.free x.i.d = true ∧ x.i.free y.i.d = true ∧ differ x.i.d y.i.d ∧ ¬ (x.i.op.cls = 2 ∧ y.i.op.cls = 2) ∧ (x.i.op.cls = 2 → y.i.op.cls = 0) ∧
      (y.i.op.cls = 2 → x.i.op.cls = 0 ∨ ∃ k ∈ y.chk, k.1 = x.idx ∧ k.2 = x.i))) := by
  unfold condT at h
  simp only [Bool.and_eq_true, Bool.or_eq_true, bne_iff_ne, ne_eq, Bool.not_eq_true', List.contains_eq_mem, decide_eq_false_iff_not, decide_eq_true_eq, beq_iff_eq, Bool.and_eq_false_imp, List.any_eq_true] at h
  obtain ⟨⟨h1, h2⟩, h3⟩ := h
  refine ⟨h1, h2, ?_⟩
  rcases h3 with h3 | ⟨⟨⟨h3, h4⟩, h5⟩, h6⟩
  · exact .inl h3
  · right
    unfold apartI at h3
    simp only [Bool.and_eq_true] at h3
    obtain ⟨⟨h7, h8⟩, h9⟩ := h3
    refine ⟨h7, h8, ?_, ?_, ?_, ?_⟩
    · intro d e hd he
      rw [hd, he] at h9
      simpa using h9
    · rintro ⟨q1, q2⟩
      have := h4 q1
      simp [q2] at this
    · intro q
      rcases h5 with h5 | h5
      · exact absurd q h5
      · exact h5
    · intro q
      rcases h6 with (h6 | h6) | ⟨k, hk, hk1, hk2⟩
      · exact absurd q h6
      · exact .inl h6
      · exact .inr ⟨k, hk, hk1, hk2⟩

theorem privT_spec {bs : List (List Nat)} {z : T} {k : Nat × I} (h : privT bs z k = true) : z.idx ∈ bef bs k.1 ∨ z.idx = k.1 ∨ (k.2.free z.i.d = true ∧ differ z.i.d k.2.d) := by
  unfold privT at h
  simp only [Bool.and_eq_true, Bool.or_eq_true, List.contains_eq_mem, decide_eq_true_eq, beq_iff_eq] at h
  rcases h with (h | ⟨h, _⟩) | ⟨h1, h2⟩
  · exact .inl h
  · exact .inr (.inl h)
  · refine .inr (.inr ⟨h1, fun d e hd he => ?_⟩)
    rw [hd, he] at h2
    simpa using h2

/-- The order that the interpreter takes stands for all. -/
theorem any_of {bs : List (List Nat)} {ops : Array Oper} {is : List I} (hcl : closedB bs ops = true) : ∀ (n : Nat) (L : List T) (listed : Array Bool) (fr : Fr) (m : Mem) (s : Fr × Mem), L.length = n → Inv bs ops is listed L →
    dopsE call (L.map T.di) fr m = some s → AnyE call ops is n listed fr m s
  | 0, L, listed, fr, m, s, hn, hI, he => by
    have : L = [] := List.eq_nil_of_length_eq_zero hn
    subst this
    simp only [List.map_nil, dopsE, Option.some.injEq] at he
    refine ⟨?_, he.symm⟩
    apply List.eq_nil_iff_forall_not_mem.2
    intro i hi
    obtain ⟨h1, o, ho, _⟩ := mem_ready.1 hi
    have hlt : i < ops.size := (Array.getElem?_eq_some_iff.1 ho).1
    have := (hI.un i hlt).1 ((lst_iff (by rw [hI.size]; exact hlt)).2 h1)
    simp at this
  | n + 1, L, listed, fr, m, s, hn, hI, he => by
    have clos : ∀ i, i < ops.size → i ∉ bef bs i ∧ (∀ e ∈ afterOf ops i, e < ops.size ∧ e ∈ bef bs i) ∧ ∀ b ∈ bef bs i, ∃ e ∈ afterOf ops i, b = e ∨ b ∈ bef bs e := by
      intro i hi
      have := List.all_eq_true.1 hcl i (List.mem_range.2 hi)
      simp only [Bool.and_eq_true, Bool.not_eq_true', List.contains_eq_mem, decide_eq_false_iff_not, List.all_eq_true, decide_eq_true_eq, List.any_eq_true, Bool.or_eq_true, beq_iff_eq] at this
      exact ⟨this.1.1, this.1.2, this.2⟩
    refine ⟨fun hr => ?_, fun j hj => ?_⟩
    · -- the first of the list is ready
      exfalso
      obtain ⟨h, r, rfl⟩ : ∃ h r, L = h :: r := by
        cases L with
        | nil => simp at hn
        | cons h r => exact ⟨h, r, rfl⟩
      have hlt := hI.lt h (by simp)
      have hun := (hI.un h.idx hlt).2 (by simp)
      have : h.idx ∈ Region.ready .any ops listed := by
        rw [mem_ready]
        refine ⟨(lst_iff (by rw [hI.size]; exact hlt)).1 hun, ops[h.idx], by simp [hlt], fun e hee hb => ?_⟩
        have hmem : e.on ∈ afterOf ops h.idx := (mem_afterOf (by simp [hlt])).2 ⟨e, hee, hb, rfl⟩
        obtain ⟨q1, q2⟩ := (clos h.idx hlt).2.1 e.on hmem
        apply Decidable.byContradiction
        intro hno
        have hin := (hI.un e.on q1).1 hno
        simp only [List.map_cons, List.mem_cons] at hin
        rcases hin with hin | hin
        · rw [hin] at q2; exact (clos h.idx hlt).1 q2
        · obtain ⟨t, ht, hte⟩ := List.mem_map.1 hin
          have := (condT_spec (List.rel_of_pairwise_cons hI.pw ht)).2.1
          rw [hte] at this; exact this q2
      rw [hr] at this; cases this
    · obtain ⟨hj1, o, ho, hpre⟩ := mem_ready.1 hj
      have hlt : j < ops.size := (Array.getElem?_eq_some_iff.1 ho).1
      have hun := (lst_iff (by rw [hI.size]; exact hlt)).2 hj1
      obtain ⟨t, ht, hte⟩ := List.mem_map.1 ((hI.un j hlt).1 hun)
      obtain ⟨pre, post, rfl⟩ := List.append_of_mem ht
      subst hte
      have hbef : ∀ b ∈ bef bs t.idx, Lst listed b := by
        intro b hb
        obtain ⟨e, he1, he2⟩ := (clos t.idx hlt).2.2 b hb
        obtain ⟨g, hg1, hg2, rfl⟩ := (mem_afterOf ho).1 he1
        have hl := hpre g hg1 hg2
        rcases he2 with rfl | he2
        · exact hl
        · exact hI.cl _ hl b he2
      have hunl : ∀ x ∈ pre ++ t :: post, ¬ Lst listed x.idx := fun x hx => (hI.un x.idx (hI.lt x hx)).2 (List.mem_map.2 ⟨x, hx, rfl⟩)
      have hpw := List.pairwise_append.1 hI.pw
      have hswap : ∀ A x C, pre = A ++ x :: C → SwapOk x (t.lessL (C.map T.idx)) := by
        intro A x C hA
        have hxin : x ∈ pre := by rw [hA]; simp
        have hxL : x ∈ pre ++ t :: post := List.mem_append_left _ hxin
        have hpp : (A ++ x :: C).Pairwise fun x y => condT bs x y = true := by rw [← hA]; exact hpw.1
        have hpa := List.pairwise_append.1 hpp
        have hxt := condT_spec (hpw.2.2 x hxin t (by simp))
        obtain ⟨c1, c2, c3⟩ := hxt
        have hnb : x.idx ∉ bef bs t.idx := fun hq => hunl x hxL (hbef _ hq)
        obtain ⟨c4, c5, c6, c7, c8, c9⟩ := c3.resolve_left hnb
        have hxC : x.idx ∉ C.map T.idx := by
          intro hq
          obtain ⟨y, hy, hyx⟩ := List.mem_map.1 hq
          exact (condT_spec (List.rel_of_pairwise_cons hpa.2.1 hy)).1 hyx.symm
        refine ⟨c4, c5, c6, hI.no x hxL, fun h => by simp [T.lessL, hI.no t (by simp) h], c7, c8, fun h => ?_, fun k hk => ?_, fun k hk hne => ?_, fun k hk hke => ?_⟩
        · rcases c9 h with h0 | ⟨k, hk, hk1, hk2⟩
          · exact .inl h0
          · refine .inr ⟨k, ?_, hk1, hk2⟩
            simp only [T.lessL, List.mem_filter, hk, true_and, List.contains_eq_mem, Bool.not_eq_true', decide_eq_false_iff_not]
            rw [hk1]; exact hxC
        · have hp := (hI.ck x hxL k hk).2.2.2 t (by simp)
          have hw := hI.wf A x (C ++ t :: post) (by rw [hA]; simp) k hk
          rcases privT_spec hp with hq | hq | hq
          · exfalso
            rcases hw with hw | hw
            · exact hunl t (by simp) (hI.cl _ hw _ hq)
            · obtain ⟨y, hy, hyk⟩ := List.mem_map.1 hw
              have := (condT_spec (hpw.2.2 y (by rw [hA]; simp [hy]) t (by simp))).2.1
              rw [hyk] at this; exact this hq
          · exfalso
            rcases hw with hw | hw
            · rw [← hq] at hw; exact hunl t (by simp) hw
            · obtain ⟨y, hy, hyk⟩ := List.mem_map.1 hw
              have := (condT_spec (hpw.2.2 y (by rw [hA]; simp [hy]) t (by simp))).1
              rw [hyk, hq] at this; exact this rfl
          · exact hq
        · simp only [T.lessL, List.mem_filter, List.contains_eq_mem, Bool.not_eq_true', decide_eq_false_iff_not] at hk
          obtain ⟨hk, hkC⟩ := hk
          have hp := (hI.ck t (by simp) k hk).2.2.2 x hxL
          have hw := hI.wf pre t post rfl k hk
          rcases privT_spec hp with hq | hq | hq
          · exfalso
            rcases hw with hw | hw
            · exact hunl x hxL (hI.cl _ hw _ hq)
            · obtain ⟨y, hy, hyk⟩ := List.mem_map.1 hw
              rw [hA] at hy
              rcases List.mem_append.1 hy with hy | hy
              · have := (condT_spec (hpa.2.2 y hy x (by simp))).2.1
                rw [hyk] at this; exact this hq
              · rcases List.mem_cons.1 hy with rfl | hy
                · exact hne hyk.symm
                · exact hkC (List.mem_map.2 ⟨y, hy, hyk⟩)
          · exact absurd hq.symm hne
          · exact hq
        · simp only [T.lessL, List.mem_filter] at hk
          obtain ⟨q1, q2, q3, _⟩ := hI.ck t (by simp) k hk.1
          exact ⟨q1, q2, q3⟩
      obtain ⟨fr', m', h1, h2⟩ := front _ pre t post fr m s rfl hswap he
      refine ⟨t.i, fr', m', hI.is t (by simp), h1, any_of hcl n (pre ++ post) _ fr' m' s (by simp at hn ⊢; omega) ?_ h2⟩
      have hsub : (pre ++ post).Sublist (pre ++ t :: post) := List.Sublist.append (List.Sublist.refl _) (List.sublist_cons_self _ _)
      have hLst : ∀ i, Lst (listed.setIfInBounds t.idx true) i ↔ (i = t.idx ∨ Lst listed i) := by
        intro i
        unfold Lst
        by_cases hi : t.idx = i
        · subst hi; simp [hI.size, hlt]
        · rw [Array.getD_eq_getD_getElem?, Array.getD_eq_getD_getElem?, Array.getElem?_setIfInBounds_ne hi]
          simp [Ne.symm hi]
      have hidx : ∀ x ∈ pre ++ post, x.idx ≠ t.idx := by
        intro x hx
        rcases List.mem_append.1 hx with hx | hx
        · exact (condT_spec (hpw.2.2 x hx t (by simp))).1
        · exact ((condT_spec (List.rel_of_pairwise_cons hpw.2.1 hx)).1).symm
      refine ⟨by simp [hI.size], fun i hi => ?_, fun x hx => hI.lt x (hsub.subset hx), fun i hi b hb => ?_, hI.pw.sublist hsub, fun y hy k hk => ?_, fun A y C hA k hk => ?_, fun x hx => hI.is x (hsub.subset hx), fun x hx => hI.no x (hsub.subset hx)⟩
      · rw [hLst]
        constructor
        · intro hq
          have h3 := (hI.un i hi).1 (fun h => hq (.inr h))
          obtain ⟨x, hx, hxe⟩ := List.mem_map.1 h3
          rcases List.mem_append.1 hx with hx | hx
          · exact List.mem_map.2 ⟨x, List.mem_append_left _ hx, hxe⟩
          · rcases List.mem_cons.1 hx with rfl | hx
            · exact absurd (.inl hxe.symm) hq
            · exact List.mem_map.2 ⟨x, List.mem_append_right _ hx, hxe⟩
        · intro hq
          obtain ⟨x, hx, hxe⟩ := List.mem_map.1 hq
          rintro (h3 | h3)
          · exact hidx x hx (hxe.trans h3)
          · rw [← hxe] at h3; exact hunl x (hsub.subset hx) h3
      · rw [hLst] at hi ⊢
        rcases hi with rfl | hi
        · exact .inr (hbef b hb)
        · exact .inr (hI.cl i hi b hb)
      · obtain ⟨q1, q2, q3, q4⟩ := hI.ck y (hsub.subset hy) k hk
        exact ⟨q1, q2, q3, fun z hz => q4 z (hsub.subset hz)⟩
      · rw [hLst]
        rcases List.append_eq_append_iff.1 hA with ⟨a', h3, h4⟩ | ⟨c', h3, h4⟩
        · -- y lies in post (or at its head)
          rcases hI.wf (pre ++ t :: a') y C (by rw [h4]; simp) k hk with h5 | h5
          · exact .inl (.inr h5)
          · rw [List.map_append, List.map_cons, List.mem_append, List.mem_cons] at h5
            rcases h5 with h5 | h5 | h5
            · exact .inr (by rw [h3, List.map_append]; exact List.mem_append_left _ h5)
            · exact .inl (.inl h5)
            · exact .inr (by rw [h3, List.map_append]; exact List.mem_append_right _ h5)
        · cases c' with
          | nil =>
            rw [List.nil_append] at h4
            rcases hI.wf (pre ++ [t]) y C (by rw [← h4]; simp) k hk with h5 | h5
            · exact .inl (.inr h5)
            · rw [List.map_append, List.mem_append] at h5
              rcases h5 with h5 | h5
              · exact .inr (by rw [h3, List.append_nil] at h5; exact h5)
              · simp at h5; exact .inl (.inl h5)
          | cons y' c'' =>
            simp only [List.cons_append, List.cons.injEq] at h4
            obtain ⟨rfl, h4⟩ := h4
            rcases hI.wf A y (c'' ++ t :: post) (by rw [h3]; simp) k hk with h5 | h5
            · exact .inl (.inr h5)
            · exact .inr h5

end Go.AL
