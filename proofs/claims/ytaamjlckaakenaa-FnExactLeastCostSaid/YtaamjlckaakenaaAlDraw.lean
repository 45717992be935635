/-
  Regions that draw their order: one order stands for all.
-/
import Derived.Test.YtaamjlckaakenaaAlCore
import Derived.Orders
import Derived.Test.YtaamjlckaakenaaAlSound1
namespace Go.AL
set_option linter.unusedSimpArgs false
set_option linter.unusedVariables false

def X.sl : X → List Nat
  | .s i => [i]
  | .k _ => []
def osl : Option X → List Nat
  | some x => x.sl
  | none => []

def O.slots : O → List Nat
  | .mov x | .box x | .load _ _ x | .nilc x | .isn _ _ x | .neg x | .not x | .cvt _ x | .s2b x | .b2s x | .i2s x | .fadr _ x | .fld _ _ _ x | .rng x | .nxt x | .ext x _ | .len x | .lens x | .clr _ x => x.sl
  | .pick c a b => c.sl ++ a.sl ++ b.sl
  | .alloc _ | .bad => []
  | .build _ ps | .lit _ _ ps => ps.flatMap fun p => p.2.2.sl
  | .store _ x y | .bin _ x y | .beq _ x y | .eqg _ x y | .mk _ _ x y | .ia _ x y | .iap _ _ x y | .ixs x y | .ixa _ _ _ x y | .app _ _ x y | .mn x y | .mx x y | .cpy _ x y => x.sl ++ y.sl
  | .slc _ x a b c => x.sl ++ osl a ++ osl b ++ osl c
  | .sstr x a b | .sarr _ _ x a b => x.sl ++ osl a ++ osl b
  | .call _ xs | .fnv _ xs => xs.flatMap X.sl
  | .callv x xs => x.sl ++ xs.flatMap X.sl

def I.reads (i : I) : List Nat := i.op.slots ++ (match i.gd with
  | some (s, _) => [s]
  | none => [])

def I.free (i : I) (d : Option Nat) : Bool := match d with
  | some d => !i.reads.contains d
  | none => true

def apartI (x y : I) : Bool := y.free x.d && x.free y.d && (match x.d, y.d with
  | some d, some e => d != e
  | _, _ => true)

/-- One operation of the region: its number, what it is, which loads are held against what they gave behind it. -/
structure T where
  idx : Nat
  i : I
  chk : List (Nat × I)
  deriving Inhabited

def T.di (t : T) : DI := ⟨t.i, t.chk.map (·.2)⟩

def afterOf (ops : Array Oper) (i : Nat) : List Nat :=
  match ops[i]? with
  | some o => (o.after.toList.filter (Region.binds .any)).map (·.on)
  | none => []

def befs (ops : Array Oper) : List Oper → List (List Nat) → List (List Nat)
  | [], acc => acc
  | o :: r, acc => befs ops r (acc ++ [((o.after.toList.filter (Region.binds .any)).flatMap fun e => e.on :: acc.getD e.on []).eraseDups])

def bef (bs : List (List Nat)) (i : Nat) : List Nat := bs.getD i []

/-- Of two operations in this order: ordered, or it does not matter. -/
def condT (bs : List (List Nat)) (x y : T) : Bool :=
  x.idx != y.idx && !(bef bs x.idx).contains y.idx &&
  ((bef bs y.idx).contains x.idx ||
    (apartI x.i y.i && !(x.i.op.cls == 2 && y.i.op.cls == 2) && (x.i.op.cls != 2 || y.i.op.cls == 0) && (y.i.op.cls != 2 || x.i.op.cls == 0 || y.chk.any fun k => k.1 == x.idx && k.2 == x.i)))

/-- What is held behind 'y' is nobody else's. -/
def privT (bs : List (List Nat)) (z : T) (k : Nat × I) : Bool :=
  (bef bs k.1).contains z.idx || (z.idx == k.1 && z.i == k.2) || (k.2.free z.i.d && (match z.i.d, k.2.d with
    | some d, some e => d != e
    | _, _ => true))

def pairsT (bs : List (List Nat)) : List T → Bool
  | [] => true
  | x :: r => r.all (condT bs x) && pairsT bs r

def closedB (bs : List (List Nat)) (ops : Array Oper) : Bool :=
  (List.range ops.size).all fun i => !(bef bs i).contains i && (afterOf ops i).all (fun e => decide (e < ops.size) && (bef bs i).contains e) &&
    (bef bs i).all fun b => (afterOf ops i).any fun e => b == e || (bef bs e).contains b

/-- What is held has been carried out before. -/
def chkAt : List T → List Nat → Bool
  | [], _ => true
  | y :: r, done => y.chk.all (fun k => done.contains k.1) && chkAt r (y.idx :: done)

def drawOk (ops : Array Oper) (bs : List (List Nat)) (items : List T) : Bool :=
  items.length == ops.size && (List.range ops.size).all (fun i => items.any fun t => t.idx == i) && closedB bs ops && pairsT bs items &&
  items.all (fun t => decide (t.idx < ops.size)) && items.all (fun t => t.i.op.cls == 2 || t.chk.isEmpty) &&
  items.all (fun y => y.chk.all fun k => k.2.op.cls == 1 && k.2.d.isSome && k.2.free k.2.d && items.all fun z => privT bs z k) && chkAt items []

/-- The order: whatever only looks comes as soon as it may. -/
def greedy (ops : Array Oper) (is : List I) : Nat → List Nat → List Nat
  | 0, done => done
  | n + 1, done =>
    let ready := (List.range ops.size).filter fun i => !done.contains i && (afterOf ops i).all done.contains
    match ready.find? fun i => (is.getD i ⟨none, .bad, none⟩).op.cls != 2 with
    | some i => greedy ops is n (done ++ [i])
    | none => match ready with
      | i :: _ => greedy ops is n (done ++ [i])
      | [] => done

def items (bs : List (List Nat)) (is : List I) : List Nat → List Nat → List T
  | _, [] => []
  | done, i :: r =>
    let me := is.getD i ⟨none, .bad, none⟩
    ⟨i, me, if me.op.cls = 2 then (done.filter fun k => (is.getD k ⟨none, .bad, none⟩).op.cls == 1 && !(bef bs i).contains k).map fun k => (k, is.getD k ⟨none, .bad, none⟩) else []⟩ :: items bs is (done ++ [i]) r

def cDraw (ρ : Nat → Option Nat) (P : Program) (nt : Nat) (ops : Array Oper) : Option (List DI) :=
  if !P.follows .mixedOrders then none else
  match cIs ρ P nt ops ops.toList with
  | none => none
  | some is =>
    let bs := befs ops ops.toList []
    let its := items bs is [] (greedy ops is ops.size [])
    if drawOk ops bs its && its.all (fun t => ops.size > t.idx && (is[t.idx]? == some t.i)) then some (its.map T.di) else none

def cCode (ρ : Nat → Option Nat) (P : Program) (nt : Nat) : Code → Option IC
  | .skip => some .skip
  | .region _ ops false => (cIs ρ P nt ops ops.toList).map .ops
  | .region _ ops true => some (match cDraw ρ P nt ops with
    | some l => .dops l
    | none => .bad)
  | .seq x y => match cCode ρ P nt x, cCode ρ P nt y with
    | some x, some y => some (.seq x y)
    | _, _ => none
  | .cond c x y => match cX ρ c, cCode ρ P nt x, cCode ρ P nt y with
    | some c, some x, some y => some (.cond c x y)
    | _, _, _ => none
  | .block id x => (cCode ρ P nt x).map (.block id)
  | .loop x => (cCode ρ P nt x).map .loop
  | .exit id => some (.exit id)
  | .ret => some .ret
  | _ => some .bad

def cRes (P : Program) : List ResultVar → Option (List Rv)
  | [] => some []
  | .tmp t :: r => (cRes P r).map (.t t :: ·)
  | .cell s t :: r => match aggT P t, szT P t, cRes P r with
    | some true, some n, some l => some (.c s true n :: l)
    | some false, some _, some l => some (.c s false 1 :: l)
    | _, _, _ => none

def cFn (ρ : Nat → Option Nat) (P : Program) (f : Func) : Option Fn :=
  if f.name == "runtime.NumGoroutine" then none else
  match f.body, cRes P f.results.toList with
  | some c, some rs => (cCode ρ P f.ntmps c).map fun b => ⟨rs, b⟩
  | _, _ => none

end Go.AL
/-
  One operation, a list of them: calls too.
-/
namespace Go.AL
set_option linter.unusedSimpArgs false
set_option linter.unusedVariables false
open Go.RowKit

variable {σ : Nat → Nat} {B : Nat} {w0 : World} {P : Program} {ρ : Nat → Option Nat} {nt : Nat} {call : CallE} {ops : Array Oper}

/-- What the interpreter's call says of the model's. -/
def CallsSim (P : Program) (σ : Nat → Nat) (B : Nat) (w0 : World) (g : Nat) (args : List V) (m : Mem) (v : V) (m' : Mem) : Prop :=
  (∃ f, P.funcs[σ g]? = some f ∧ (f.name == "runtime.NumGoroutine") = false ∧ f.body.isNone = false) ∧
  ∀ E w, Sim σ B w0 E m w → (∀ x ∈ args, V.ok m.length x) →
    Calls P (σ g) (args.map (cV σ E)).toArray w fun e w' => ∃ E', Agree m.length E E' ∧ m.length ≤ m'.length ∧ Sim σ B w0 E' m' w' ∧ v.ok m'.length ∧ e = .returned (cV σ E' v)

def CallEnv (P : Program) (σ : Nat → Nat) (B : Nat) (w0 : World) (call : CallE) : Prop :=
  ∀ g args m v m', call g args m = some (v, m') → CallsSim P σ B w0 g args m v m'

theorem run_invoke {f : Nat} {args caps : Array Value} {fn : Func} {w : World} (hf : P.funcs[f]? = some fn) (hn : (fn.name == "runtime.NumGoroutine") = false) (hb : fn.body.isNone = false) :
    (invoke (.fn (.func f) caps) args).run P w = .ok (.enter f (args ++ caps)) w := by
  simp only [invoke, callFunc, Sem.run_bind, run_program, Result.andThen_ok, hf, hn, hb, Bool.false_eq_true, if_false, Sem.run_pure]

theorem cI_spec {o : Oper} {i : I} (h : cI ρ P nt ops o = some i) : i.d = o.dst ∧ (∀ d, o.dst = some d → d < nt) ∧ i.op = (cOp ρ P o.op).getD .bad ∧
    ((o.guard = none ∧ i.gd = none) ∨ ∃ j t s, o.guard = some (j, t) ∧ (ops[j]?).bind (·.dst) = some s ∧ i.gd = some (s, t)) := by
  unfold cI at h
  split at h
  case isFalse => cases h
  rename_i hd
  obtain ⟨g, hg, rfl⟩ := Option.map_eq_some_iff.1 h
  refine ⟨rfl, fun d hdd => ?_, rfl, ?_⟩
  · rw [hdd] at hd; simpa [dIn] using hd
  · unfold cG at hg
    split at hg
    · rename_i hq; cases hg; exact .inl ⟨hq, rfl⟩
    · rename_i j t hq
      obtain ⟨s, hs, rfl⟩ := Option.map_eq_some_iff.1 hg
      exact .inr ⟨j, t, s, hq, hs, rfl⟩

theorem wanted_ok {E : Emb} {m : Mem} {w : World} {fr : Fr} {a : Act} (h : St σ ρ B w0 nt E m w fr a) {o : Oper} {i : I} (hi : cI ρ P nt ops o = some i) {b : Bool} (hw : wanted fr i.gd = some b) :
    Region.wanted o (yielded ops a.tmps) = b := by
  obtain ⟨-, -, -, hg⟩ := cI_spec hi
  rcases hg with ⟨hg, hi2⟩ | ⟨j, t, s, hg, hs, hi2⟩
  · rw [hi2] at hw
    simp only [wanted, Option.some.injEq] at hw
    subst hw
    simp [Region.wanted, hg]
  · rw [hi2] at hw
    have hv := h.fr.val s
    simp only [wanted] at hw
    split at hw
    · rename_i q hq
      cases hw
      rw [hq] at hv
      have : a.tmps[s]? = some (.bool q) := by
        rw [Array.getD_eq_getD_getElem?] at hv
        cases hx : a.tmps[s]? with
        | none => rw [hx] at hv; simp [cV, cU, cA, undef] at hv
        | some y => rw [hx] at hv; simpa [cV, cU, cA] using hv
      simp [Region.wanted, hg, yielded, hs, this]
    · rename_i hq
      cases hw
      rw [hq] at hv
      have : ∀ q, a.tmps[s]? ≠ some (.bool q) := fun q hx => by
        rw [Array.getD_eq_getD_getElem?, hx] at hv
        simp [cV, undef] at hv
      have hy : yielded ops a.tmps j = none := by
        unfold yielded
        rw [hs]
        cases hx : a.tmps[s]? with
        | none => simp [hx]
        | some y => cases y <;> simp [hx]; exact absurd hx (this _)
      simp [Region.wanted, hg, hy]
    · cases hw

theorem St.putV {E E' : Emb} {m m' : Mem} {w w' : World} {fr : Fr} {a : Act} (h : St σ ρ B w0 nt E m w fr a) {o : Oper} {i : I} (hi : cI ρ P nt ops o = some i) {v : V} (ha : Agree m.length E E') (hl : m.length ≤ m'.length)
    (hs : Sim σ B w0 E' m' w') (hv : v.ok m'.length) : St σ ρ B w0 nt E' m' w' (put fr i.d v) (a.put o.dst (cV σ E' v)) := by
  obtain ⟨hd1, hd2, -, -⟩ := cI_spec hi
  refine ⟨h.fm, hs, ?_, ?_⟩
  · rw [hd1]
    cases hq : o.dst with
    | none => exact h.fr.same ha hl
    | some d => exact h.fr.put ha hl (hd2 d hq) hv
  · cases o.dst <;> exact h.df

theorem cBuiltin_no {b : Builtin} {args : List Operand} {ts : List TypeId} {oo : O} (h : cBuiltin ρ P b args ts = some oo) : (∀ f xs, oo ≠ .call f xs) ∧ ∀ x xs, oo ≠ .callv x xs := by
  unfold cBuiltin at h
  (repeat' split at h) <;> first | (cases h; done) | (cases h; constructor <;> intro _ _ hq <;> cases hq; done) | (obtain ⟨l, _, rfl⟩ := Option.map_eq_some_iff.1 h; constructor <;> intro _ _ hq <;> cases hq)

theorem cOp_cases {op : Op} {oo : O} (h : cOp ρ P op = some oo) : (∃ c f g xs, op = .call c ∧ c.callee = .value (.func f) ∧ ρ f = some g ∧ cXs ρ c.args.toList = some xs ∧ oo = .call g xs) ∨
    (∃ c t xs, op = .call c ∧ c.callee = .value (.tmp t) ∧ cXs ρ c.args.toList = some xs ∧ oo = .callv (.s t) xs) ∨ ((∀ f xs, oo ≠ .call f xs) ∧ ∀ x xs, oo ≠ .callv x xs) := by
  unfold cOp at h
  split at h
  all_goals first
    | (refine .inr (.inr ?_)
       first
         | (cases h; done)
         | (obtain ⟨l, _, rfl⟩ := Option.map_eq_some_iff.1 h; constructor <;> intro _ _ hq <;> cases hq; done)
         | ((repeat' split at h) <;> first | (cases h; done) | (cases h; constructor <;> intro _ _ hq <;> cases hq; done) | (obtain ⟨l, _, rfl⟩ := Option.map_eq_some_iff.1 h; constructor <;> intro _ _ hq <;> cases hq; done)))
    | skip
  rename_i c
  split at h
  · rename_i f hcal
    split at h
    case h_2 => cases h
    rename_i g xs hg hxs
    cases h
    exact .inl ⟨c, f, g, xs, rfl, hcal, hg, hxs, rfl⟩
  · rename_i t hcal
    obtain ⟨l, hl, rfl⟩ := Option.map_eq_some_iff.1 h
    exact .inr (.inl ⟨c, t, l, rfl, hcal, hl, rfl⟩)
  · exact .inr (.inr (cBuiltin_no h))
  · cases h

theorem cOp_call {op : Op} {g : Nat} {xs : List X} (h : cOp ρ P op = some (.call g xs)) : ∃ c f, op = .call c ∧ c.callee = .value (.func f) ∧ ρ f = some g ∧ cXs ρ c.args.toList = some xs := by
  rcases cOp_cases h with ⟨c, f, g', xs', h1, h2, h3, h4, h5⟩ | ⟨c, t, xs', h1, h2, h3, h4⟩ | ⟨h1, h2⟩
  · cases h5; exact ⟨c, f, h1, h2, h3, h4⟩
  · cases h4
  · exact absurd rfl (h1 _ _)
theorem cOp_callv {op : Op} {x : X} {xs : List X} (h : cOp ρ P op = some (.callv x xs)) : ∃ c t, op = .call c ∧ c.callee = .value (.tmp t) ∧ x = .s t ∧ cXs ρ c.args.toList = some xs := by
  rcases cOp_cases h with ⟨c, f, g', xs', h1, h2, h3, h4, h5⟩ | ⟨c, t, xs', h1, h2, h3, h4⟩ | ⟨h1, h2⟩
  · cases h5
  · cases h4; exact ⟨c, t, h1, h2, rfl, h3⟩
  · exact absurd rfl (h2 _ _)

/-- What stands behind a state that is held. -/
def Then (σ : Nat → Nat) (ρ : Nat → Option Nat) (B : Nat) (w0 : World) (nt : Nat) (E : Emb) (n : Nat) (fr' : Fr) (m' : Mem) (K : Act → World → Prop) : Prop :=
  ∀ E' a' w', Agree n E E' → n ≤ m'.length → St σ ρ B w0 nt E' m' w' fr' a' → K a' w'

theorem step_ok {E : Emb} {m m' : Mem} {w : World} {fr fr' : Fr} {a : Act} (h : St σ ρ B w0 nt E m w fr a) (hcall : CallEnv P σ B w0 call) {o : Oper} {i : I} (hi : cI ρ P nt ops o = some i)
    (he : stepE call fr m i = some (fr', m')) {K : Act → World → Prop} {Q : Exit → Act → World → Prop} (hK : Then σ ρ B w0 nt E m.length fr' m' K) :
    if Region.wanted o (yielded ops a.tmps) then o.wp P a w K Q ∨ (o.asks P a w ∧ LetsOut Q) else K (a.put o.dst undef) w := by
  unfold stepE at he
  split at he
  case h_2 => cases he
  rename_i v m2 hv
  cases he
  unfold stepV at hv
  split at hv
  case h_3 => cases hv
  case h_2 =>
    rename_i hw
    cases hv
    rw [wanted_ok h hi hw]
    simp only [Bool.false_eq_true, if_false]
    exact hK E _ w (Agree.refl _ _) (Nat.le_refl _) (h.putV (v := .z) hi (Agree.refl _ _) (Nat.le_refl _) h.sim trivial)
  rename_i hw
  rw [wanted_ok h hi hw]
  simp only [if_true]
  refine .inl ?_
  have hop := hv
  obtain ⟨-, -, hoo, -⟩ := cI_spec hi
  cases hc : cOp ρ P o.op with
  | none => rw [hc] at hoo; simp only [Option.getD_none] at hoo; rw [hoo] at hop; simp [opE] at hop
  | some oo =>
    rw [hc] at hoo
    simp only [Option.getD_some] at hoo
    rw [hoo] at hop
    have fin : ∀ {r : Result Next}, (execOp a.eval o).run P w = r → Done σ B w0 E m v m' r → o.wp P a w K Q := fun hr hD => by
      obtain ⟨E', w', h1, h2, h3, h4, h5⟩ := hD
      unfold Oper.wp
      rw [hr]
      rcases h5 with h5 | ⟨h5, rfl⟩
      · rw [h5, Oper.upon_value]
        exact hK E' _ w' h1 h2 (h.putV hi h1 h2 h3 h4)
      · rw [h5, Oper.upon_skip]
        exact hK E' _ w' h1 h2 (h.putV (v := .z) hi h1 h2 h3 h4)
    have enter : ∀ {g : Nat} {args : List V}, call g args m = some (v, m') → (∀ x ∈ args, V.ok m.length x) →
        (∀ f, P.funcs[σ g]? = some f → (f.name == "runtime.NumGoroutine") = false → f.body.isNone = false → (execOp a.eval o).run P w = .ok (.enter (σ g) (args.map (cV σ E)).toArray) w) → o.wp P a w K Q := fun {g args} hcal hok hrun => by
      obtain ⟨⟨f, hf1, hf2, hf3⟩, hcs⟩ := hcall g args m v m' hcal
      unfold Oper.wp
      rw [hrun f hf1 hf2 hf3, Oper.upon_enter]
      refine (hcs E w h.sim hok).mono fun e w' hq => ?_
      obtain ⟨E', h1, h2, h3, h4, rfl⟩ := hq
      exact hK E' _ w' h1 h2 (h.putV hi h1 h2 h3 h4)
    by_cases hcall1 : ∃ g xs, oo = .call g xs
    · obtain ⟨g, xs, rfl⟩ := hcall1
      simp only [opE] at hop
      obtain ⟨c, f, ho, hcal, hg, hxs⟩ := cOp_call hc
      obtain ⟨h1, h2⟩ := cXs_ok h hxs
      refine enter hop h2 (fun fn hf1 hf2 hf3 => ?_)
      have hf := h.fm f g hg
      have hargs : c.args.map a.eval = ((xs.map (ev fr)).map (cV σ E)).toArray := by
        rw [← h1, ← Array.toList_map, Array.toArray_toList]
      have hcv : a.eval (.func f) = .func (.func f) #[] #[] := rfl
      simp only [execOp, ho, Sem.run_bind, resolve, hcal, hcv, Deferred.ofValue, Sem.run_pure, Result.andThen_ok, hargs]
      rw [hf] at hf1 ⊢
      rw [run_invoke hf1 hf2 hf3]
      simp
    · by_cases hcall2 : ∃ x xs, oo = .callv x xs
      · obtain ⟨x, xs, rfl⟩ := hcall2
        obtain ⟨c, t, ho, hcal, rfl, hxs⟩ := cOp_callv hc
        obtain ⟨h1, h2⟩ := cXs_ok h hxs
        simp only [opE] at hop
        split at hop
        case h_2 => cases hop
        rename_i f caps hv
        have ht := h.fr.val t
        have htok := h.fr.ok t
        rw [show fget fr t = .u (.a (.fn f caps)) from toA_some hv] at ht htok
        refine enter hop (fun x hx => ?_) (fun fn hf1 hf2 hf3 => ?_)
        · rcases List.mem_append.1 hx with hx | hx
          · exact h2 x hx
          · obtain ⟨p, hp, rfl⟩ := List.mem_map.1 hx
            exact htok p hp
        · have hargs : c.args.map a.eval = ((xs.map (ev fr)).map (cV σ E)).toArray := by
            rw [← h1, ← Array.toList_map, Array.toArray_toList]
          have hcv : a.eval (.tmp t) = .func (.func (σ f)) #[] (caps.map fun p => Value.pointer (some (at_ E p.1 p.2))).toArray := ht
          simp only [execOp, ho, Sem.run_bind, resolve, hcal, hcv, Deferred.ofValue, Sem.run_pure, Result.andThen_ok, hargs]
          rw [run_invoke hf1 hf2 hf3]
          simp [cV, cU, cA, Function.comp_def]
      · exact fin rfl (op_ok h hc (fun f xs hq => hcall1 ⟨f, xs, hq⟩) (fun x xs hq => hcall2 ⟨x, xs, hq⟩) hop)

end Go.AL
/-
  A region that draws its order: what the interpreter finds in its one order is what every order comes to.
-/
namespace Go.AL
set_option linter.unusedSimpArgs false
set_option linter.unusedVariables false
open Go.RowKit

variable {call : CallE} {fr fr' : Fr} {m m' : Mem}

theorem ev_congr {x : X} (h : ∀ s ∈ x.sl, fget fr s = fget fr' s) : ev fr x = ev fr' x := by
  cases x with
  | s i => exact h i (by simp [X.sl])
  | k v => rfl
theorem evA_congr {x : X} (h : ∀ s ∈ x.sl, fget fr s = fget fr' s) : evA fr x = evA fr' x := by unfold evA; rw [ev_congr h]
theorem evU_congr {x : X} (h : ∀ s ∈ x.sl, fget fr s = fget fr' s) : evU fr x = evU fr' x := by unfold evU; rw [ev_congr h]
theorem map_congr {xs : List X} (h : ∀ s ∈ xs.flatMap X.sl, fget fr s = fget fr' s) : xs.map (ev fr) = xs.map (ev fr') :=
  List.map_congr_left fun x hx => ev_congr fun s hs => h s (List.mem_flatMap.2 ⟨x, hx, hs⟩)
theorem atoms_congr : ∀ {xs : List X}, (∀ s ∈ xs.flatMap X.sl, fget fr s = fget fr' s) → atoms xs fr = atoms xs fr'
  | [], _ => rfl
  | x :: r, h => by
    simp only [atoms]
    rw [evA_congr (x := x) fun s hs => h s (List.mem_flatMap.2 ⟨x, by simp, hs⟩), atoms_congr fun s hs => h s (by
      obtain ⟨y, hy, hs⟩ := List.mem_flatMap.1 hs
      exact List.mem_flatMap.2 ⟨y, by simp [hy], hs⟩)]
theorem fillE_congr : ∀ {ps : List (Nat × Nat × X)} {cs : List A}, (∀ s ∈ ps.flatMap (fun p => p.2.2.sl), fget fr s = fget fr' s) → fillE fr cs ps = fillE fr' cs ps
  | [], _, _ => rfl
  | (off, n, x) :: r, cs, h => by
    simp only [fillE]
    rw [evU_congr (x := x) fun s hs => h s (List.mem_flatMap.2 ⟨(off, n, x), by simp, hs⟩)]
    split
    · split
      · exact fillE_congr fun s hs => h s (by
          obtain ⟨y, hy, hs⟩ := List.mem_flatMap.1 hs
          exact List.mem_flatMap.2 ⟨y, by simp [hy], hs⟩)
      · rfl
    · rfl
theorem bnd_congr {d t : Nat} {x : Option X} (h : ∀ s ∈ osl x, fget fr s = fget fr' s) : bnd fr d t x = bnd fr' d t x := by
  cases x with
  | none => rfl
  | some x => simp only [bnd]; rw [evA_congr h]

set_option maxHeartbeats 1000000 in
theorem opE_congr {op : O} (h : ∀ s ∈ op.slots, fget fr s = fget fr' s) : opE call fr m op = opE call fr' m op := by
  cases op <;> simp only [O.slots, List.mem_append] at h <;> simp only [opE] <;>
    first
      | rfl
      | (rw [ev_congr h]; done)
      | (rw [evA_congr h]; done)
      | (rw [evU_congr h]; done)
      | (rw [fillE_congr h]; done)
      | (rw [map_congr h]; done)
      | (rw [atoms_congr h]; done)
      | (rw [evA_congr fun s hs => h s (.inl hs), evA_congr fun s hs => h s (.inr hs)]; done)
      | (rw [evA_congr fun s hs => h s (.inl hs), evU_congr fun s hs => h s (.inr hs)]; done)
      | (rw [ev_congr fun s hs => h s (.inl hs), evA_congr fun s hs => h s (.inr hs)]; done)
      | (rw [ev_congr fun s hs => h s (.inl hs), ev_congr fun s hs => h s (.inr hs)]; done)
      | (rw [evA_congr fun s hs => h s (.inl hs), map_congr fun s hs => h s (.inr hs)]; done)
      | (rw [evA_congr fun s hs => h s (.inl (.inl hs)), ev_congr fun s hs => h s (.inl (.inr hs)), ev_congr fun s hs => h s (.inr hs)]; done)
      | (rw [evA_congr fun s hs => h s (.inl (.inl hs))]
         simp only [bnd_congr (fr := fr) (fr' := fr') fun s hs => h s (.inl (.inr hs)), bnd_congr (fr := fr) (fr' := fr') fun s hs => h s (.inr hs)]; done)
      | skip
  case slc s x lo hi mx =>
    have e0 : evA fr x = evA fr' x := evA_congr fun s hs => h s (.inl (.inl (.inl hs)))
    have e1 : ∀ d t, bnd fr d t lo = bnd fr' d t lo := fun d t => bnd_congr fun s hs => h s (.inl (.inl (.inr hs)))
    have e2 : ∀ d t, bnd fr d t hi = bnd fr' d t hi := fun d t => bnd_congr fun s hs => h s (.inl (.inr hs))
    have e3 : ∀ d t, bnd fr d t mx = bnd fr' d t mx := fun d t => bnd_congr fun s hs => h s (.inr hs)
    rw [e0]
    cases mx <;> simp only [e1, e2, e3]

theorem wanted_congr {g : Option (Nat × Bool)} (h : ∀ s t, g = some (s, t) → fget fr s = fget fr' s) : wanted fr g = wanted fr' g := by
  cases g with
  | none => rfl
  | some p => obtain ⟨s, t⟩ := p; simp only [wanted]; rw [h s t rfl]

theorem stepV_congr {i : I} (h : ∀ s ∈ i.reads, fget fr s = fget fr' s) : stepV call fr m i = stepV call fr' m i := by
  unfold stepV
  rw [wanted_congr fun s t hg => h s (by simp [I.reads, hg]), opE_congr fun s hs => h s (by simp [I.reads, hs])]

set_option maxHeartbeats 2000000 in
theorem opE_pure {op : O} (hc : op.cls = 0) {v : V} (h : opE call fr m op = some (v, m')) : m' = m ∧ ∀ m2, opE call fr m2 op = some (v, m2) := by
  cases op <;> first
    | (exfalso; simp [O.cls] at hc; done)
    | (simp only [opE] at h ⊢; cases h; exact ⟨rfl, fun _ => rfl⟩)
    | (simp only [opE] at h ⊢; split at h <;> first | (cases h; done) | (split at h <;> first | (cases h; done) | (cases h; refine ⟨rfl, fun m2 => ?_⟩; simp_all; done)))
    | (simp only [opE] at h ⊢; (repeat' split at h) <;> first | (cases h; done) | (cases h; refine ⟨rfl, fun m2 => ?_⟩; simp_all; done) | (obtain ⟨q, hq, h⟩ := Option.map_eq_some_iff.1 h; cases h; refine ⟨rfl, fun m2 => ?_⟩; simp_all; done))

theorem opE_reads {op : O} (hc : op.cls = 1) {v : V} (h : opE call fr m op = some (v, m')) (hl : m'.length = m.length) : m' = m := by
  cases op <;> simp [O.cls] at hc <;> simp only [opE] at h
  all_goals
    (repeat' split at h) <;> first | (cases h; done) | (cases h; rfl) | (obtain ⟨q, hq, h⟩ := Option.map_eq_some_iff.1 h; cases h; rfl) | (cases h; simp at hl)

theorem cls_cases (op : O) : op.cls = 0 ∨ op.cls = 1 ∨ op.cls = 2 := by cases op <;> simp [O.cls]

theorem stepV_pure {i : I} (hc : i.op.cls = 0) {v : V} (h : stepV call fr m i = some (v, m')) : m' = m ∧ ∀ m2, stepV call fr m2 i = some (v, m2) := by
  unfold stepV at h ⊢
  split at h
  · exact opE_pure hc h
  · cases h; exact ⟨rfl, fun _ => rfl⟩
  · cases h

theorem stepV_still {i : I} (hc : i.op.cls ≠ 2) {v : V} (h : stepV call fr m i = some (v, m')) (hl : i.op.cls = 2 ∨ m'.length = m.length) : m' = m := by
  have hl := hl.resolve_left hc
  unfold stepV at h
  split at h
  · have : i.op.cls = 0 ∨ i.op.cls = 1 := by
      rcases cls_cases i.op with h | h | h
      · exact .inl h
      · exact .inr h
      · exact absurd h hc
    rcases this with h0 | h1
    · exact (opE_pure h0 h).1
    · exact opE_reads h1 h hl
  · cases h; rfl
  · cases h

theorem fset_comm : ∀ (fr : Fr) (i j : Nat) (v u : V), i ≠ j → fset (fset fr i v) j u = fset (fset fr j u) i v
  | [], 0, 0, _, _, h => absurd rfl h
  | [], 0, j + 1, v, u, _ => by simp [fset]
  | [], i + 1, 0, v, u, _ => by simp [fset]
  | [], i + 1, j + 1, v, u, h => by simp only [fset]; rw [fset_comm [] i j v u (by omega)]
  | _ :: _, 0, 0, _, _, h => absurd rfl h
  | _ :: _, 0, j + 1, _, _, _ => rfl
  | _ :: _, i + 1, 0, _, _, _ => rfl
  | _ :: r, i + 1, j + 1, v, u, h => by simp only [fset]; rw [fset_comm r i j v u (by omega)]

def differ (x y : Option Nat) : Prop := ∀ d e, x = some d → y = some e → d ≠ e
theorem differ.symm {x y : Option Nat} (h : differ x y) : differ y x := fun d e hd he hq => h e d he hd hq.symm

theorem put_comm {x y : Option Nat} (h : differ x y) (v u : V) : put (put fr x v) y u = put (put fr y u) x v := by
  cases x with
  | none => cases y <;> rfl
  | some d => cases y with
    | none => rfl
    | some e => exact fset_comm fr d e v u (h d e rfl rfl)

theorem reads_put {i : I} {d : Option Nat} (h : i.free d = true) (v : V) : ∀ s ∈ i.reads, fget (put fr d v) s = fget fr s := by
  intro s hs
  cases d with
  | none => rfl
  | some d =>
    simp only [put]
    refine fget_set_ne _ _ _ _ fun e => ?_
    subst e
    simp [I.free] at h
    exact h hs

theorem get_put {d e : Option Nat} (h : differ d e) (v : V) {k : Nat} (hk : e = some k) : fget (put fr d v) k = fget fr k := by
  cases d with
  | none => rfl
  | some d => exact fget_set_ne _ _ _ _ (h d k rfl hk)

theorem again_put {k : I} {d : Option Nat} (hf : k.free d = true) (hd : differ d k.d) (v : V) : again call (put fr d v) m k = again call fr m k := by
  unfold again
  rw [stepV_congr (reads_put hf v)]
  split
  · rename_i u m2 e h1 h2
    rw [get_put hd v h2]
  · rfl

/-- What lets two neighbours change places. -/
structure SwapOk (x j : T) : Prop where
  fx : j.i.free x.i.d = true
  fj : x.i.free j.i.d = true
  df : differ x.i.d j.i.d
  cx : x.i.op.cls ≠ 2 → x.chk = []
  cj : j.i.op.cls ≠ 2 → j.chk = []
  nn : ¬ (x.i.op.cls = 2 ∧ j.i.op.cls = 2)
  x2 : x.i.op.cls = 2 → j.i.op.cls = 0
  j2 : j.i.op.cls = 2 → x.i.op.cls = 0 ∨ ∃ k ∈ j.chk, k.1 = x.idx ∧ k.2 = x.i
  hx : ∀ k ∈ x.chk, k.2.free j.i.d = true ∧ differ j.i.d k.2.d
  hj : ∀ k ∈ j.chk, k.1 ≠ x.idx → k.2.free x.i.d = true ∧ differ x.i.d k.2.d
  hs : ∀ k ∈ j.chk, k.1 = x.idx → k.2.op.cls = 1 ∧ k.2.d.isSome = true ∧ k.2.free k.2.d = true

def T.less (j : T) (n : Nat) : T := { j with chk := j.chk.filter fun k => k.1 != n }

theorem dops_cons {i : DI} {r : List DI} {s : Fr × Mem} : dopsE call (i :: r) fr m = some s ↔ ∃ v m', stepV call fr m i.i = some (v, m') ∧ (i.i.op.cls = 2 ∨ m'.length = m.length) ∧
    (∀ k ∈ i.chk, again call (put fr i.i.d v) m' k = true) ∧ dopsE call r (put fr i.i.d v) m' = some s := by
  simp only [dopsE, stepE]
  cases h : stepV call fr m i.i with
  | none => simp
  | some p =>
    obtain ⟨v, m'⟩ := p
    simp only
    constructor
    · intro hq
      split at hq
      · rename_i hc
        exact ⟨v, m', rfl, hc.1, List.all_eq_true.1 hc.2, hq⟩
      · cases hq
    · rintro ⟨v', m2, hq, h1, h2, h3⟩
      cases hq
      rw [if_pos ⟨h1, List.all_eq_true.2 h2⟩]
      exact h3

theorem swap_ok {x j : T} (h : SwapOk x j) {r : List DI} {s : Fr × Mem} (he : dopsE call (x.di :: j.di :: r) fr m = some s) : dopsE call ((j.less x.idx).di :: x.di :: r) fr m = some s := by
  obtain ⟨vx, m1, x1, x2, x3, he1⟩ := dops_cons.1 he
  obtain ⟨vj, m2, j1, j2, j3, he2⟩ := dops_cons.1 he1
  clear he he1
  simp only [T.di, T.less] at *
  have j1' : stepV call fr m1 j.i = some (vj, m2) := by rw [← j1]; exact (stepV_congr fun s hs => (reads_put h.fx vx s hs).symm)
  have hcomm := put_comm (fr := fr) h.df vx vj
  by_cases hx2 : x.i.op.cls = 2
  · have hj0 := h.x2 hx2
    obtain ⟨hm, jp⟩ := stepV_pure hj0 j1'
    subst hm
    refine dops_cons.2 ⟨vj, m, jp m, .inr rfl, fun k hk => ?_, dops_cons.2 ⟨vx, m2, ?_, .inl hx2, fun k hk => ?_, ?_⟩⟩
    · rw [h.cj (by rw [hj0]; decide)] at hk
      simp at hk
    · rw [← x1]; exact stepV_congr (reads_put h.fj vj)
    · obtain ⟨k0, hk0, rfl⟩ := List.mem_map.1 hk
      obtain ⟨q1, q2⟩ := h.hx k0 hk0
      rw [← hcomm, again_put q1 q2 vj]
      exact x3 k0.2 hk
    · rw [← hcomm]; exact he2
  · have hm := stepV_still hx2 x1 x2
    subst hm
    refine dops_cons.2 ⟨vj, m2, j1', j2, fun k hk => ?_, dops_cons.2 ⟨vx, m2, ?_, .inr rfl, fun k hk => ?_, ?_⟩⟩
    · obtain ⟨k0, hk0, rfl⟩ := List.mem_map.1 hk
      obtain ⟨hk1, hk2⟩ := List.mem_filter.1 hk0
      obtain ⟨q1, q2⟩ := h.hj k0 hk1 (by simpa using hk2)
      have := j3 k0.2 (List.mem_map.2 ⟨k0, hk1, rfl⟩)
      rw [hcomm, again_put q1 q2 vx] at this
      exact this
    · rw [stepV_congr (reads_put h.fj vj)]
      by_cases hj2 : j.i.op.cls = 2
      · rcases h.j2 hj2 with h0 | ⟨k, hk, hk1, hk2⟩
        · exact (stepV_pure h0 x1).2 m2
        · obtain ⟨q1, q2, q3⟩ := h.hs k hk hk1
          rw [hk2] at q1 q2 q3
          have ag := j3 k.2 (List.mem_map.2 ⟨k, hk, rfl⟩)
          rw [hk2] at ag
          unfold again at ag
          split at ag
          case h_2 => cases ag
          rename_i v3 m3 d h3 hd
          rw [hcomm, stepV_congr (reads_put q3 vx), stepV_congr (reads_put h.fj vj)] at h3
          simp only [Bool.and_eq_true, beq_iff_eq] at ag
          obtain ⟨e1, e2⟩ := ag
          have : fget (put (put fr x.i.d vx) j.i.d vj) d = vx := by
            rw [get_put h.df.symm vj hd, hd]
            exact fget_set_same _ _ _
          rw [this] at e1
          subst e1
          have := stepV_still (by rw [q1]; decide) h3 (.inr e2)
          subst this
          exact h3
      · obtain rfl := stepV_still hj2 j1' j2
        exact x1
    · rw [h.cx hx2] at hk
      simp at hk
    · rw [← hcomm]; exact he2

theorem dops_append : ∀ {A B : List DI} {fr : Fr} {m : Mem} {s : Fr × Mem}, dopsE call (A ++ B) fr m = some s ↔ ∃ fr1 m1, dopsE call A fr m = some (fr1, m1) ∧ dopsE call B fr1 m1 = some s
  | [], B, fr, m, s => by
    constructor
    · intro h; exact ⟨fr, m, rfl, h⟩
    · rintro ⟨fr1, m1, h1, h2⟩; cases h1; exact h2
  | i :: r, B, fr, m, s => by
    rw [List.cons_append]
    constructor
    · intro h
      obtain ⟨v, m', h1, h2, h3, h4⟩ := dops_cons.1 h
      obtain ⟨fr1, m1, h5, h6⟩ := dops_append.1 h4
      exact ⟨fr1, m1, dops_cons.2 ⟨v, m', h1, h2, h3, h5⟩, h6⟩
    · rintro ⟨fr1, m1, h5, h6⟩
      obtain ⟨v, m', h1, h2, h3, h4⟩ := dops_cons.1 h5
      exact dops_cons.2 ⟨v, m', h1, h2, h3, dops_append.2 ⟨fr1, m1, h4, h6⟩⟩

def T.lessL (j : T) (l : List Nat) : T := { j with chk := j.chk.filter fun k => !l.contains k.1 }

theorem lessL_nil (j : T) : j.lessL [] = j := by cases j; simp [T.lessL]
theorem lessL_less (j : T) (n : Nat) (l : List Nat) : (j.less n).lessL l = j.lessL (l ++ [n]) := by
  simp only [T.lessL, T.less, List.filter_filter]
  congr 1
  apply List.filter_congr
  intro k _
  by_cases hk : k.1 = n <;> simp [bne, hk]

theorem front : ∀ (n : Nat) (pre : List T) (j : T) (post : List T) (fr : Fr) (m : Mem) (s : Fr × Mem), pre.length = n → (∀ A x C, pre = A ++ x :: C → SwapOk x (j.lessL (C.map T.idx))) →
    dopsE call ((pre ++ j :: post).map T.di) fr m = some s → ∃ fr' m', stepE call fr m j.i = some (fr', m') ∧ dopsE call ((pre ++ post).map T.di) fr' m' = some s
  | 0, pre, j, post, fr, m, s, hn, _, he => by
    have : pre = [] := List.eq_nil_of_length_eq_zero hn
    subst this
    obtain ⟨v, m', h1, _, _, h4⟩ := dops_cons.1 he
    exact ⟨put fr j.i.d v, m', by simp only [stepE, T.di] at *; rw [h1], h4⟩
  | n + 1, pre, j, post, fr, m, s, hn, H, he => by
    obtain ⟨pre0, x, rfl⟩ : ∃ pre0 x, pre = pre0 ++ [x] := by
      have hne : pre ≠ [] := by intro h; subst h; simp at hn
      exact ⟨pre.dropLast, pre.getLast hne, (List.dropLast_concat_getLast hne).symm⟩
    have hx := H pre0 x [] rfl
    rw [List.map_nil, lessL_nil] at hx
    rw [List.append_assoc, List.singleton_append, List.map_append, List.map_cons, List.map_cons] at he
    obtain ⟨fr1, m1, h1, h2⟩ := dops_append.1 he
    have h3 := swap_ok hx h2
    have h4 : dopsE call ((pre0 ++ (j.less x.idx) :: (x :: post)).map T.di) fr m = some s := by
      rw [List.map_append, List.map_cons, List.map_cons]
      exact dops_append.2 ⟨fr1, m1, h1, h3⟩
    obtain ⟨fr', m', h5, h6⟩ := front n pre0 (j.less x.idx) (x :: post) fr m s (by simpa using hn) (fun A y C hA => by
      have := H A y (C ++ [x]) (by rw [hA]; simp)
      rwa [lessL_less, List.map_append, List.map_cons, List.map_nil] at *) h4
    exact ⟨fr', m', h5, by rw [List.append_assoc, List.singleton_append]; exact h6⟩

/-- Whatever order: the same end. -/
def AnyE (call : CallE) (ops : Array Oper) (is : List I) : Nat → Array Bool → Fr → Mem → Fr × Mem → Prop
  | 0, listed, fr, m, r => Region.ready .any ops listed = [] ∧ r = (fr, m)
  | n + 1, listed, fr, m, r => (Region.ready .any ops listed = [] → r = (fr, m)) ∧
    ∀ i ∈ Region.ready .any ops listed, ∃ ii fr' m', is[i]? = some ii ∧ stepE call fr m ii = some (fr', m') ∧ AnyE call ops is n (listed.setIfInBounds i true) fr' m' r

def Lst (listed : Array Bool) (i : Nat) : Prop := listed.getD i false = true

structure Inv (bs : List (List Nat)) (ops : Array Oper) (is : List I) (listed : Array Bool) (L : List T) : Prop where
  size : listed.size = ops.size
  un : ∀ i, i < ops.size → (¬ Lst listed i ↔ i ∈ L.map T.idx)
  lt : ∀ t ∈ L, t.idx < ops.size
  cl : ∀ i, Lst listed i → ∀ b ∈ bef bs i, Lst listed b
  pw : L.Pairwise fun x y => condT bs x y = true
  ck : ∀ y ∈ L, ∀ k ∈ y.chk, k.2.op.cls = 1 ∧ k.2.d.isSome = true ∧ k.2.free k.2.d = true ∧ ∀ z ∈ L, privT bs z k = true
  wf : ∀ A y C, L = A ++ y :: C → ∀ k ∈ y.chk, Lst listed k.1 ∨ k.1 ∈ A.map T.idx
  is : ∀ t ∈ L, is[t.idx]? = some t.i
  no : ∀ t ∈ L, t.i.op.cls ≠ 2 → t.chk = []

theorem lst_iff {listed : Array Bool} {i : Nat} (h : i < listed.size) : ¬ Lst listed i ↔ listed.getD i true = false := by
  unfold Lst; simp [h]

theorem mem_afterOf {ops : Array Oper} {i : Nat} {o : Oper} (ho : ops[i]? = some o) {e : Nat} : e ∈ afterOf ops i ↔ ∃ g ∈ o.after, Region.binds .any g = true ∧ g.on = e := by
  unfold afterOf
  rw [ho]
  simp [and_assoc]

theorem condT_spec {bs : List (List Nat)} {x y : T} (h : condT bs x y = true) : x.idx ≠ y.idx ∧ y.idx ∉ bef bs x.idx ∧ (x.idx ∈ bef bs y.idx ∨
    (y.i.free x.i.d = true ∧ x.i.free y.i.d = true ∧ differ x.i.d y.i.d ∧ ¬ (x.i.op.cls = 2 ∧ y.i.op.cls = 2) ∧ (x.i.op.cls = 2 → y.i.op.cls = 0) ∧
      (y.i.op.cls = 2 → x.i.op.cls = 0 ∨ ∃ k ∈ y.chk, k.1 = x.idx ∧ k.2 = x.i))) := by
  unfold condT at h
  simp only [Bool.and_eq_true, Bool.or_eq_true, bne_iff_ne, ne_eq, Bool.not_eq_true', List.contains_eq_mem, decide_eq_false_iff_not, decide_eq_true_eq, beq_iff_eq, Bool.and_eq_false_imp, List.any_eq_true] at h
  obtain ⟨⟨h1, h2⟩, h3⟩ := h
  refine ⟨h1, h2, ?_⟩
  rcases h3 with h3 | ⟨⟨⟨h3, h4⟩, h5⟩, h6⟩
  · exact .inl h3
  · right
    unfold apartI at h3
    simp only [Bool.and_eq_true] at h3
    obtain ⟨⟨h7, h8⟩, h9⟩ := h3
    refine ⟨h7, h8, ?_, ?_, ?_, ?_⟩
    · intro d e hd he
      rw [hd, he] at h9
      simpa using h9
    · rintro ⟨q1, q2⟩
      have := h4 q1
      simp [q2] at this
    · intro q
      rcases h5 with h5 | h5
      · exact absurd q h5
      · exact h5
    · intro q
      rcases h6 with (h6 | h6) | ⟨k, hk, hk1, hk2⟩
      · exact absurd q h6
      · exact .inl h6
      · exact .inr ⟨k, hk, hk1, hk2⟩

theorem privT_spec {bs : List (List Nat)} {z : T} {k : Nat × I} (h : privT bs z k = true) : z.idx ∈ bef bs k.1 ∨ z.idx = k.1 ∨ (k.2.free z.i.d = true ∧ differ z.i.d k.2.d) := by
  unfold privT at h
  simp only [Bool.and_eq_true, Bool.or_eq_true, List.contains_eq_mem, decide_eq_true_eq, beq_iff_eq] at h
  rcases h with (h | ⟨h, _⟩) | ⟨h1, h2⟩
  · exact .inl h
  · exact .inr (.inl h)
  · refine .inr (.inr ⟨h1, fun d e hd he => ?_⟩)
    rw [hd, he] at h2
    simpa using h2

/-- The order that the interpreter takes stands for all. -/
theorem any_of {bs : List (List Nat)} {ops : Array Oper} {is : List I} (hcl : closedB bs ops = true) : ∀ (n : Nat) (L : List T) (listed : Array Bool) (fr : Fr) (m : Mem) (s : Fr × Mem), L.length = n → Inv bs ops is listed L →
    dopsE call (L.map T.di) fr m = some s → AnyE call ops is n listed fr m s
  | 0, L, listed, fr, m, s, hn, hI, he => by
    have : L = [] := List.eq_nil_of_length_eq_zero hn
    subst this
    simp only [List.map_nil, dopsE, Option.some.injEq] at he
    refine ⟨?_, he.symm⟩
    apply List.eq_nil_iff_forall_not_mem.2
    intro i hi
    obtain ⟨h1, o, ho, _⟩ := mem_ready.1 hi
    have hlt : i < ops.size := (Array.getElem?_eq_some_iff.1 ho).1
    have := (hI.un i hlt).1 ((lst_iff (by rw [hI.size]; exact hlt)).2 h1)
    simp at this
  | n + 1, L, listed, fr, m, s, hn, hI, he => by
    have clos : ∀ i, i < ops.size → i ∉ bef bs i ∧ (∀ e ∈ afterOf ops i, e < ops.size ∧ e ∈ bef bs i) ∧ ∀ b ∈ bef bs i, ∃ e ∈ afterOf ops i, b = e ∨ b ∈ bef bs e := by
      intro i hi
      have := List.all_eq_true.1 hcl i (List.mem_range.2 hi)
      simp only [Bool.and_eq_true, Bool.not_eq_true', List.contains_eq_mem, decide_eq_false_iff_not, List.all_eq_true, decide_eq_true_eq, List.any_eq_true, Bool.or_eq_true, beq_iff_eq] at this
      exact ⟨this.1.1, this.1.2, this.2⟩
    refine ⟨fun hr => ?_, fun j hj => ?_⟩
    · -- the first of the list is ready
      exfalso
      obtain ⟨h, r, rfl⟩ : ∃ h r, L = h :: r := by
        cases L with
        | nil => simp at hn
        | cons h r => exact ⟨h, r, rfl⟩
      have hlt := hI.lt h (by simp)
      have hun := (hI.un h.idx hlt).2 (by simp)
      have : h.idx ∈ Region.ready .any ops listed := by
        rw [mem_ready]
        refine ⟨(lst_iff (by rw [hI.size]; exact hlt)).1 hun, ops[h.idx], by simp [hlt], fun e hee hb => ?_⟩
        have hmem : e.on ∈ afterOf ops h.idx := (mem_afterOf (by simp [hlt])).2 ⟨e, hee, hb, rfl⟩
        obtain ⟨q1, q2⟩ := (clos h.idx hlt).2.1 e.on hmem
        apply Decidable.byContradiction
        intro hno
        have hin := (hI.un e.on q1).1 hno
        simp only [List.map_cons, List.mem_cons] at hin
        rcases hin with hin | hin
        · rw [hin] at q2; exact (clos h.idx hlt).1 q2
        · obtain ⟨t, ht, hte⟩ := List.mem_map.1 hin
          have := (condT_spec (List.rel_of_pairwise_cons hI.pw ht)).2.1
          rw [hte] at this; exact this q2
      rw [hr] at this; cases this
    · obtain ⟨hj1, o, ho, hpre⟩ := mem_ready.1 hj
      have hlt : j < ops.size := (Array.getElem?_eq_some_iff.1 ho).1
      have hun := (lst_iff (by rw [hI.size]; exact hlt)).2 hj1
      obtain ⟨t, ht, hte⟩ := List.mem_map.1 ((hI.un j hlt).1 hun)
      obtain ⟨pre, post, rfl⟩ := List.append_of_mem ht
      subst hte
      have hbef : ∀ b ∈ bef bs t.idx, Lst listed b := by
        intro b hb
        obtain ⟨e, he1, he2⟩ := (clos t.idx hlt).2.2 b hb
        obtain ⟨g, hg1, hg2, rfl⟩ := (mem_afterOf ho).1 he1
        have hl := hpre g hg1 hg2
        rcases he2 with rfl | he2
        · exact hl
        · exact hI.cl _ hl b he2
      have hunl : ∀ x ∈ pre ++ t :: post, ¬ Lst listed x.idx := fun x hx => (hI.un x.idx (hI.lt x hx)).2 (List.mem_map.2 ⟨x, hx, rfl⟩)
      have hpw := List.pairwise_append.1 hI.pw
      have hswap : ∀ A x C, pre = A ++ x :: C → SwapOk x (t.lessL (C.map T.idx)) := by
        intro A x C hA
        have hxin : x ∈ pre := by rw [hA]; simp
        have hxL : x ∈ pre ++ t :: post := List.mem_append_left _ hxin
        have hpp : (A ++ x :: C).Pairwise fun x y => condT bs x y = true := by rw [← hA]; exact hpw.1
        have hpa := List.pairwise_append.1 hpp
        have hxt := condT_spec (hpw.2.2 x hxin t (by simp))
        obtain ⟨c1, c2, c3⟩ := hxt
        have hnb : x.idx ∉ bef bs t.idx := fun hq => hunl x hxL (hbef _ hq)
        obtain ⟨c4, c5, c6, c7, c8, c9⟩ := c3.resolve_left hnb
        have hxC : x.idx ∉ C.map T.idx := by
          intro hq
          obtain ⟨y, hy, hyx⟩ := List.mem_map.1 hq
          exact (condT_spec (List.rel_of_pairwise_cons hpa.2.1 hy)).1 hyx.symm
        refine ⟨c4, c5, c6, hI.no x hxL, fun h => by simp [T.lessL, hI.no t (by simp) h], c7, c8, fun h => ?_, fun k hk => ?_, fun k hk hne => ?_, fun k hk hke => ?_⟩
        · rcases c9 h with h0 | ⟨k, hk, hk1, hk2⟩
          · exact .inl h0
          · refine .inr ⟨k, ?_, hk1, hk2⟩
            simp only [T.lessL, List.mem_filter, hk, true_and, List.contains_eq_mem, Bool.not_eq_true', decide_eq_false_iff_not]
            rw [hk1]; exact hxC
        · have hp := (hI.ck x hxL k hk).2.2.2 t (by simp)
          have hw := hI.wf A x (C ++ t :: post) (by rw [hA]; simp) k hk
          rcases privT_spec hp with hq | hq | hq
          · exfalso
            rcases hw with hw | hw
            · exact hunl t (by simp) (hI.cl _ hw _ hq)
            · obtain ⟨y, hy, hyk⟩ := List.mem_map.1 hw
              have := (condT_spec (hpw.2.2 y (by rw [hA]; simp [hy]) t (by simp))).2.1
              rw [hyk] at this; exact this hq
          · exfalso
            rcases hw with hw | hw
            · rw [← hq] at hw; exact hunl t (by simp) hw
            · obtain ⟨y, hy, hyk⟩ := List.mem_map.1 hw
              have := (condT_spec (hpw.2.2 y (by rw [hA]; simp [hy]) t (by simp))).1
              rw [hyk, hq] at this; exact this rfl
          · exact hq
        · simp only [T.lessL, List.mem_filter, List.contains_eq_mem, Bool.not_eq_true', decide_eq_false_iff_not] at hk
          obtain ⟨hk, hkC⟩ := hk
          have hp := (hI.ck t (by simp) k hk).2.2.2 x hxL
          have hw := hI.wf pre t post rfl k hk
          rcases privT_spec hp with hq | hq | hq
          · exfalso
            rcases hw with hw | hw
            · exact hunl x hxL (hI.cl _ hw _ hq)
            · obtain ⟨y, hy, hyk⟩ := List.mem_map.1 hw
              rw [hA] at hy
              rcases List.mem_append.1 hy with hy | hy
              · have := (condT_spec (hpa.2.2 y hy x (by simp))).2.1
                rw [hyk] at this; exact this hq
              · rcases List.mem_cons.1 hy with rfl | hy
                · exact hne hyk.symm
                · exact hkC (List.mem_map.2 ⟨y, hy, hyk⟩)
          · exact absurd hq.symm hne
          · exact hq
        · simp only [T.lessL, List.mem_filter] at hk
          obtain ⟨q1, q2, q3, _⟩ := hI.ck t (by simp) k hk.1
          exact ⟨q1, q2, q3⟩
      obtain ⟨fr', m', h1, h2⟩ := front _ pre t post fr m s rfl hswap he
      refine ⟨t.i, fr', m', hI.is t (by simp), h1, any_of hcl n (pre ++ post) _ fr' m' s (by simp at hn ⊢; omega) ?_ h2⟩
      have hsub : (pre ++ post).Sublist (pre ++ t :: post) := List.Sublist.append (List.Sublist.refl _) (List.sublist_cons_self _ _)
      have hLst : ∀ i, Lst (listed.setIfInBounds t.idx true) i ↔ (i = t.idx ∨ Lst listed i) := by
        intro i
        unfold Lst
        by_cases hi : t.idx = i
        · subst hi; simp [hI.size, hlt]
        · rw [Array.getD_eq_getD_getElem?, Array.getD_eq_getD_getElem?, Array.getElem?_setIfInBounds_ne hi]
          simp [Ne.symm hi]
      have hidx : ∀ x ∈ pre ++ post, x.idx ≠ t.idx := by
        intro x hx
        rcases List.mem_append.1 hx with hx | hx
        · exact (condT_spec (hpw.2.2 x hx t (by simp))).1
        · exact ((condT_spec (List.rel_of_pairwise_cons hpw.2.1 hx)).1).symm
      refine ⟨by simp [hI.size], fun i hi => ?_, fun x hx => hI.lt x (hsub.subset hx), fun i hi b hb => ?_, hI.pw.sublist hsub, fun y hy k hk => ?_, fun A y C hA k hk => ?_, fun x hx => hI.is x (hsub.subset hx), fun x hx => hI.no x (hsub.subset hx)⟩
      · rw [hLst]
        constructor
        · intro hq
          have h3 := (hI.un i hi).1 (fun h => hq (.inr h))
          obtain ⟨x, hx, hxe⟩ := List.mem_map.1 h3
          rcases List.mem_append.1 hx with hx | hx
          · exact List.mem_map.2 ⟨x, List.mem_append_left _ hx, hxe⟩
          · rcases List.mem_cons.1 hx with rfl | hx
            · exact absurd (.inl hxe.symm) hq
            · exact List.mem_map.2 ⟨x, List.mem_append_right _ hx, hxe⟩
        · intro hq
          obtain ⟨x, hx, hxe⟩ := List.mem_map.1 hq
          rintro (h3 | h3)
          · exact hidx x hx (hxe.trans h3)
          · rw [← hxe] at h3; exact hunl x (hsub.subset hx) h3
      · rw [hLst] at hi ⊢
        rcases hi with rfl | hi
        · exact .inr (hbef b hb)
        · exact .inr (hI.cl i hi b hb)
      · obtain ⟨q1, q2, q3, q4⟩ := hI.ck y (hsub.subset hy) k hk
        exact ⟨q1, q2, q3, fun z hz => q4 z (hsub.subset hz)⟩
      · rw [hLst]
        rcases List.append_eq_append_iff.1 hA with ⟨a', h3, h4⟩ | ⟨c', h3, h4⟩
        · -- y lies in post (or at its head)
          rcases hI.wf (pre ++ t :: a') y C (by rw [h4]; simp) k hk with h5 | h5
          · exact .inl (.inr h5)
          · rw [List.map_append, List.map_cons, List.mem_append, List.mem_cons] at h5
            rcases h5 with h5 | h5 | h5
            · exact .inr (by rw [h3, List.map_append]; exact List.mem_append_left _ h5)
            · exact .inl (.inl h5)
            · exact .inr (by rw [h3, List.map_append]; exact List.mem_append_right _ h5)
        · cases c' with
          | nil =>
            rw [List.nil_append] at h4
            rcases hI.wf (pre ++ [t]) y C (by rw [← h4]; simp) k hk with h5 | h5
            · exact .inl (.inr h5)
            · rw [List.map_append, List.mem_append] at h5
              rcases h5 with h5 | h5
              · exact .inr (by rw [h3, List.append_nil] at h5; exact h5)
              · simp at h5; exact .inl (.inl h5)
          | cons y' c'' =>
            simp only [List.cons_append, List.cons.injEq] at h4
            obtain ⟨rfl, h4⟩ := h4
            rcases hI.wf A y (c'' ++ t :: post) (by rw [h3]; simp) k hk with h5 | h5
            · exact .inl (.inr h5)
            · exact .inr h5

end Go.AL
/-
  THE SOUNDNESS OF THE INTERPRETER: where 'run' answers, the model's call returns that answer.
-/
namespace Go.AL
set_option linter.unusedSimpArgs false
set_option linter.unusedVariables false
open Go.RowKit

variable {σ : Nat → Nat} {B : Nat} {w0 : World} {P : Program} {ρ : Nat → Option Nat} {nt : Nat} {call : CallE} {ops : Array Oper} {G : Env}

theorem Then.of {E E' : Emb} {n n' : Nat} {fr' : Fr} {m' : Mem} {K : Act → World → Prop} (h : Then σ ρ B w0 nt E n fr' m' K) (ha : Agree n E E') (hn : n ≤ n') : Then σ ρ B w0 nt E' n' fr' m' K :=
  fun E2 a2 w2 h1 h2 h3 => h E2 a2 w2 (ha.trans h1 hn) (Nat.le_trans hn h2) h3

theorem opsE_ok (hcall : CallEnv P σ B w0 call) {Q : Exit → Act → World → Prop} : ∀ (l : List Oper) (k : Nat), ops.toList.drop k = l → ∀ {is : List I} {E : Emb} {m m' : Mem} {w : World} {fr fr' : Fr} {a : Act},
    cIs ρ P nt ops l = some is → opsE call is fr m = some (fr', m') → St σ ρ B w0 nt E m w fr a → Then σ ρ B w0 nt E m.length fr' m' (Q .normal) → wpOps P ops Q (List.range' k l.length) a w
  | [], k, hl, is, E, m, m', w, fr, fr', a, hc, he, h, hK => by
    cases hc
    simp only [opsE, Option.some.injEq, Prod.mk.injEq] at he
    obtain ⟨rfl, rfl⟩ := he
    exact hK E a w (Agree.refl _ _) (Nat.le_refl _) h
  | o :: r, k, hl, is, E, m, m', w, fr, fr', a, hc, he, h, hK => by
    have hk : ops[k]? = some o := by
      have := congrArg (fun l => l[0]?) hl
      simpa using this
    have hr : ops.toList.drop (k + 1) = r := by
      have := congrArg List.tail hl
      simpa [List.tail_drop] using this
    simp only [cIs] at hc
    split at hc
    case h_2 => cases hc
    rename_i i is' hi his
    cases hc
    simp only [opsE] at he
    split at he
    case h_2 => cases he
    rename_i fr1 m1 hs
    rw [List.length_cons, List.range'_succ]
    simp only [wpOps, hk]
    exact step_ok h hcall hi hs (fun E1 a1 w1 h1 h2 h3 => opsE_ok hcall r (k + 1) hr his he h3 (hK.of h1 h2))

theorem any_sound (hcall : CallEnv P σ B w0 call) {is : List I} (his : ∀ (i : Nat) (ii : I) (o : Oper), is[i]? = some ii → ops[i]? = some o → cI ρ P nt ops o = some ii) {Q : Exit → Act → World → Prop} :
    ∀ (n : Nat) (listed : Array Bool) {E : Emb} {m m' : Mem} {w : World} {fr fr' : Fr} {a : Act}, AnyE call ops is n listed fr m (fr', m') → St σ ρ B w0 nt E m w fr a →
      Then σ ρ B w0 nt E m.length fr' m' (Q .normal) → wpAny P .any ops Q n listed a w
  | 0, listed, E, m, m', w, fr, fr', a, he, h, hK => by
    obtain ⟨h1, h2⟩ := he
    cases h2
    exact ⟨h1, hK E a w (Agree.refl _ _) (Nat.le_refl _) h⟩
  | n + 1, listed, E, m, m', w, fr, fr', a, he, h, hK => by
    obtain ⟨h1, h2⟩ := he
    refine ⟨fun hr => ?_, fun i hi => ?_⟩
    · cases h1 hr
      exact hK E a w (Agree.refl _ _) (Nat.le_refl _) h
    · obtain ⟨ii, fr1, m1, q1, q2, q3⟩ := h2 i hi
      obtain ⟨_, o, ho, _⟩ := mem_ready.1 hi
      unfold wpOp
      simp only [ho]
      exact step_ok h hcall (his i ii o q1 ho) q2 (fun E1 a1 w1 h1 h2 h3 => any_sound hcall his n _ q3 h3 (hK.of h1 h2))

theorem cIs_get : ∀ {l : List Oper} {is : List I}, cIs ρ P nt ops l = some is → ∀ (i : Nat) (ii : I) (o : Oper), is[i]? = some ii → l[i]? = some o → cI ρ P nt ops o = some ii
  | [], is, h, i, ii, o, h1, h2 => by simp at h2
  | x :: r, is, h, i, ii, o, h1, h2 => by
    simp only [cIs] at h
    split at h
    case h_2 => cases h
    rename_i j js hj hjs
    cases h
    cases i with
    | zero => simp at h1 h2; subst h1; subst h2; exact hj
    | succ i => exact cIs_get hjs i ii o (by simpa using h1) (by simpa using h2)

theorem pairs_pw {bs : List (List Nat)} : ∀ {L : List T}, pairsT bs L = true → L.Pairwise fun x y => condT bs x y = true
  | [], _ => List.Pairwise.nil
  | x :: r, h => by
    simp only [pairsT, Bool.and_eq_true] at h
    exact List.Pairwise.cons (fun y hy => List.all_eq_true.1 h.1 y hy) (pairs_pw h.2)

theorem chkAt_wf : ∀ {L : List T} {done : List Nat}, chkAt L done = true → ∀ A y C, L = A ++ y :: C → ∀ k ∈ y.chk, k.1 ∈ done ∨ k.1 ∈ A.map T.idx
  | [], done, _, A, y, C, hA, _, _ => by simp at hA
  | x :: r, done, h, A, y, C, hA, k, hk => by
    simp only [chkAt, Bool.and_eq_true, List.all_eq_true, List.contains_eq_mem, decide_eq_true_eq] at h
    cases A with
    | nil =>
      simp only [List.nil_append, List.cons.injEq] at hA
      obtain ⟨rfl, rfl⟩ := hA
      exact .inl (h.1 k hk)
    | cons z A =>
      simp only [List.cons_append, List.cons.injEq] at hA
      obtain ⟨rfl, rfl⟩ := hA
      rcases chkAt_wf h.2 A y C rfl k hk with h1 | h1
      · rcases List.mem_cons.1 h1 with h1 | h1
        · exact .inr (by simp [h1])
        · exact .inl h1
      · exact .inr (by simp only [List.map_cons, List.mem_cons]; exact .inr h1)

theorem cDraw_ok (hcall : CallEnv P σ B w0 call) {l : List DI} (hc : cDraw ρ P nt ops = some l) {E : Emb} {m m' : Mem} {w : World} {fr fr' : Fr} {a : Act} (he : dopsE call l fr m = some (fr', m'))
    (h : St σ ρ B w0 nt E m w fr a) {Q : Exit → Act → World → Prop} (hK : Then σ ρ B w0 nt E m.length fr' m' (Q .normal)) (id : Nat) : (Code.region id ops true).wp P Q a w := by
  unfold cDraw at hc
  split at hc
  · cases hc
  rename_i hm
  split at hc
  · cases hc
  rename_i is his
  dsimp only at hc
  split at hc
  case isFalse => cases hc
  rename_i hok
  cases hc
  simp only [Bool.and_eq_true] at hok
  obtain ⟨hdraw, hits⟩ := hok
  unfold drawOk at hdraw
  simp only [Bool.and_eq_true, beq_iff_eq] at hdraw
  generalize hL : items (befs ops ops.toList []) is [] (greedy ops is ops.size []) = L at *
  generalize befs ops ops.toList [] = bs at *
  obtain ⟨⟨⟨⟨⟨⟨⟨d1, d2⟩, d3⟩, d4⟩, d5⟩, d6⟩, d7⟩, d8⟩ := hdraw
  have hinv : Inv bs ops is (Array.replicate ops.size false) L := by
    refine ⟨by simp, fun i hi => ?_, fun t ht => ?_, fun i hi => ?_, pairs_pw d4, fun y hy k hk => ?_, fun A y C hA k hk => ?_, fun t ht => ?_, fun t ht hne => ?_⟩
    · constructor
      · intro _
        have := List.all_eq_true.1 d2 i (List.mem_range.2 hi)
        obtain ⟨t, ht, hti⟩ := List.any_eq_true.1 this
        exact List.mem_map.2 ⟨t, ht, by simpa using hti⟩
      · intro _ hq
        unfold Lst at hq
        simp [hi] at hq
    · simpa using List.all_eq_true.1 d5 t ht
    · unfold Lst at hi
      rw [Array.getD_eq_getD_getElem?, Array.getElem?_replicate] at hi
      split at hi <;> simp at hi
    · have := List.all_eq_true.1 (List.all_eq_true.1 d7 y hy) k hk
      simp only [Bool.and_eq_true, beq_iff_eq] at this
      exact ⟨this.1.1.1, this.1.1.2, this.1.2, fun z hz => List.all_eq_true.1 this.2 z hz⟩
    · rcases chkAt_wf d8 A y C hA k hk with h1 | h1
      · simp at h1
      · exact .inr h1
    · have := List.all_eq_true.1 hits t ht
      simp only [Bool.and_eq_true, beq_iff_eq] at this
      exact this.2
    · have := List.all_eq_true.1 d6 t ht
      simp only [Bool.or_eq_true, beq_iff_eq, List.isEmpty_iff] at this
      exact this.resolve_left hne
  have hany := any_of (call := call) (bs := bs) (is := is) d3 L.length L (Array.replicate ops.size false) fr m (fr', m') rfl hinv he
  rw [d1] at hany
  refine wp_region_any (by simpa using hm) ?_
  exact any_sound hcall (fun i ii o h1 h2 => cIs_get his i ii o h1 (by simpa using h2)) ops.size _ hany ⟨h.fm, h.sim.drew, h.fr, h.df⟩ hK

/-! ### Code -/
def ExR : Ex → Exit → Prop
  | .nrm, .normal => True
  | .exit i, .exit j => i = j
  | .ret, .ret => True
  | _, _ => False

def Ends (σ : Nat → Nat) (ρ : Nat → Option Nat) (B : Nat) (w0 : World) (nt : Nat) (E : Emb) (n : Nat) (ex : Ex) (fr' : Fr) (m' : Mem) (e : Exit) (a : Act) (w : World) : Prop :=
  ExR ex e ∧ ∃ E', Agree n E E' ∧ n ≤ m'.length ∧ St σ ρ B w0 nt E' m' w fr' a

theorem Ends.of {E E' : Emb} {n n' : Nat} {ex : Ex} {fr' : Fr} {m' : Mem} {e : Exit} {a : Act} {w : World} (h : Ends σ ρ B w0 nt E' n' ex fr' m' e a w) (ha : Agree n E E') (hn : n ≤ n') : Ends σ ρ B w0 nt E n ex fr' m' e a w := by
  obtain ⟨h1, E2, h2, h3, h4⟩ := h
  exact ⟨h1, E2, ha.trans h2 hn, Nat.le_trans hn h3, h4⟩

structure EnvOk (P : Program) (σ : Nat → Nat) (ρ : Nat → Option Nat) (G : Env) : Prop where
  fm : FnMap σ ρ
  code : ∀ g fn, G g = some (.code fn) → ∃ f, P.funcs[σ g]? = some f ∧ cFn ρ P f = some fn
  prim : ∀ g p, G g = some (.prim p) → ∀ B w0 args m v m', p args m = some (v, m') → CallsSim P σ B w0 g args m v m'

/-- The body of a loop, from the head of a round on. -/
def LoopFrom (P : Program) (c : Code) (Q : Exit → Act → World → Prop) (a : Act) (w : World) : Prop :=
  ∀ (b : Frame) (k : List Item) (cs : List Frame), ∃ e a' w', Q e a' w' ∧ Arrives P (lone (b.at a (.code c :: .inLoop c :: k)) cs w) b k cs e a' w'

def AllK (P : Program) (σ : Nat → Nat) (ρ : Nat → Option Nat) (B : Nat) (w0 : World) (G : Env) (k : Nat) : Prop :=
  (∀ (c : Code) (nt : Nat) (ic : IC) (E : Emb) (m m' : Mem) (w : World) (fr fr' : Fr) (a : Act) (ex : Ex), cCode ρ P nt c = some ic → exec G k ic fr m = some (ex, fr', m') → St σ ρ B w0 nt E m w fr a →
    c.wp P (Ends σ ρ B w0 nt E m.length ex fr' m') a w) ∧
  (∀ (c : Code) (nt : Nat) (ic : IC) (E : Emb) (m m' : Mem) (w : World) (fr fr' : Fr) (a : Act) (ex : Ex), cCode ρ P nt c = some ic → exec G k (.loop ic) fr m = some (ex, fr', m') → St σ ρ B w0 nt E m w fr a →
    LoopFrom P c (Ends σ ρ B w0 nt E m.length ex fr' m') a w) ∧
  CallEnv P σ B w0 (run G k)

theorem fget_args : ∀ (args : List V) (i : Nat), fget args i = (args[i]?).getD .z
  | [], i => by simp [fget]
  | x :: r, 0 => rfl
  | x :: r, i + 1 => by simp only [fget]; rw [fget_args r i]; simp

theorem St.enter (hfm : FnMap σ ρ) {E : Emb} {m : Mem} {w : World} (hs : Sim σ B w0 E m w) {args : List V} (hok : ∀ x ∈ args, V.ok m.length x) (nt : Nat) :
    St σ ρ B w0 nt E m w args { tmps := (args.map (cV σ E)).toArray ++ Array.replicate (nt - (args.map (cV σ E)).toArray.size) undef, defers := [] } := by
  refine ⟨hfm, hs, ⟨?_, fun i => ?_, fun i => ?_⟩, rfl⟩
  · simp; omega
  · rw [fget_args, Array.getD_eq_getD_getElem?]
    by_cases hi : i < args.length
    · rw [Array.getElem?_append_left (by simpa using hi)]
      simp [hi]
    · rw [List.getElem?_eq_none (by omega), Array.getElem?_append_right (by simp; omega), Array.getElem?_replicate]
      split <;> rfl
  · rw [fget_args]
    by_cases hi : i < args.length
    · rw [List.getElem?_eq_getElem hi]
      exact hok _ (List.getElem_mem hi)
    · rw [List.getElem?_eq_none (by omega)]
      trivial

def resM (tmps : Array Value) (r : ResultVar) : Sem Value := match r with
  | .tmp t => pure (tmps.getD t undef)
  | .cell a t => do loadVar t (← asAddr (tmps.getD a undef))

theorem results_eq (f : Func) (tmps : Array Value) : results f tmps = (do let vs ← f.results.mapM (resM tmps); pure (if h : vs.size = 1 then vs[0] else .tuple vs)) := rfl

theorem resU_ok {E : Emb} {m : Mem} {w : World} {fr : Fr} {a : Act} (h : St σ ρ B w0 nt E m w fr a) {r : ResultVar} {rs : List ResultVar} {l : List Rv} (hc : cRes P (r :: rs) = some l) :
    ∃ rv l', l = rv :: l' ∧ cRes P rs = some l' ∧ ∀ u, resU fr m rv = some u →
      (resM a.tmps r).run P w = .ok (cU σ E u) w ∧ u.ok m.length := by
  cases r with
  | tmp t =>
    simp only [cRes] at hc
    obtain ⟨l', hl, rfl⟩ := Option.map_eq_some_iff.1 hc
    refine ⟨_, l', rfl, hl, fun u hu => ?_⟩
    have h1 := h.fr.val t
    have h2 := h.fr.ok t
    rw [toU_some hu] at h1 h2
    exact ⟨by simp only [resM, h1]; rfl, h2⟩
  | cell s t =>
    simp only [cRes] at hc
    split at hc
    case h_3 => cases hc
    · rename_i n l' hg hn hl
      cases hc
      refine ⟨_, l', rfl, hl, fun u hu => ?_⟩
      simp only [resU] at hu
      split at hu
      case h_2 => cases hu
      rename_i b of hv
      split at hu
      case h_2 => cases hu
      rename_i cs hcs
      simp only [if_true, Option.some.injEq] at hu
      subst hu
      have h1 := h.fr.val s
      rw [toA_some hv] at h1
      obtain ⟨h2, h3, h4⟩ := h.sim.rd (P := P) hcs
      refine ⟨?_, h4⟩
      simp only [resM, h1, cV, cU, cA, asAddr, Sem.run_bind, Sem.run_pure, Result.andThen_ok, loadVar, run_agg hg, if_true, run_size hn, h2]
    · rename_i n l' hg hn hl
      cases hc
      refine ⟨_, l', rfl, hl, fun u hu => ?_⟩
      simp only [resU] at hu
      split at hu
      case h_2 => cases hu
      rename_i b of hv
      split at hu
      case h_2 => cases hu
      rename_i cs hcs
      simp only [Bool.false_eq_true, if_false] at hu
      split at hu
      case h_2 => cases hu
      rename_i c
      cases hu
      have h1 := h.fr.val s
      rw [toA_some hv] at h1
      obtain ⟨h5, h6⟩ := h.sim.rd_one hcs
      refine ⟨?_, h6⟩
      simp [resM, h1, cV, cU, cA, asAddr, loadVar, run_agg hg, h5]

theorem resL_ok {E : Emb} {m : Mem} {w : World} {fr : Fr} {a : Act} (h : St σ ρ B w0 nt E m w fr a) : ∀ {rs : List ResultVar} {l : List Rv} {us : List U}, cRes P rs = some l → resL fr m l = some us →
    (rs.mapM (resM a.tmps)).run P w = .ok (us.map (cU σ E)) w ∧ ∀ u ∈ us, U.ok m.length u
  | [], l, us, hc, hu => by
    cases hc
    simp only [resL, Option.some.injEq] at hu
    subst hu
    exact ⟨by simp [Sem.run_pure], by simp⟩
  | r :: rs, l, us, hc, hu => by
    obtain ⟨rv, l', rfl, hl, hr⟩ := resU_ok h hc
    simp only [resL] at hu
    split at hu
    case h_2 => cases hu
    rename_i u us' h1 h2
    cases hu
    obtain ⟨q1, q2⟩ := hr u h1
    obtain ⟨q3, q4⟩ := resL_ok h hl h2
    refine ⟨?_, fun x hx => ?_⟩
    · rw [List.mapM_cons]
      simp only [Sem.run_bind]
      rw [q1]
      simp only [Result.andThen_ok]
      rw [q3]
      simp
    · rcases List.mem_cons.1 hx with rfl | hx
      · exact q2
      · exact q4 x hx

theorem resE_ok {E : Emb} {m : Mem} {w : World} {fr : Fr} {a : Act} (h : St σ ρ B w0 nt E m w fr a) {f : Func} {l : List Rv} {v : V} (hc : cRes P f.results.toList = some l) (hv : resE fr m l = some v) :
    (results f a.tmps).run P w = .ok (cV σ E v) w ∧ v.ok m.length := by
  unfold resE at hv
  have key : ∀ us, resL fr m l = some us → (results f a.tmps).run P w = .ok (if h : ((us.map (cU σ E)).toArray).size = 1 then ((us.map (cU σ E)).toArray)[0] else .tuple (us.map (cU σ E)).toArray) w ∧ ∀ u ∈ us, U.ok m.length u := by
    intro us hus
    obtain ⟨h1, h2⟩ := resL_ok h hc hus
    refine ⟨?_, h2⟩
    rw [results_eq, Array.mapM_eq_mapM_toList]
    simp only [Sem.run_bind, Sem.run_map, h1, Result.andThen_ok, Sem.run_pure]
  split at hv
  · rename_i u hu
    cases hv
    obtain ⟨h1, h2⟩ := key _ hu
    exact ⟨by rw [h1]; simp [cV], h2 u (by simp)⟩
  · rename_i us hne hu
    cases hv
    obtain ⟨h1, h2⟩ := key _ hu
    refine ⟨?_, h2⟩
    rw [h1]
    have : ¬ ((us.map (cU σ E)).toArray.size = 1) := by
      intro hl
      simp only [List.size_toArray, List.length_map] at hl
      obtain ⟨u, rfl⟩ := List.length_eq_one_iff.1 hl
      first | exact hne u rfl | exact hne u hu
    rw [dif_neg this]
    rfl
  · cases hv

theorem ends_nrm {E : Emb} {n : Nat} {fr : Fr} {m : Mem} {e : Exit} {a : Act} {w : World} (h : Ends σ ρ B w0 nt E n .nrm fr m e a w) : e = .normal := by
  obtain ⟨h1, _⟩ := h
  cases e <;> simp [ExR] at h1 <;> rfl

theorem allK (B : Nat) (w0 : World) (hE : EnvOk P σ ρ G) : ∀ k, AllK P σ ρ B w0 G k
  | 0 => by
    refine ⟨fun c nt ic E m m' w fr fr' a ex hc he h => ?_, fun c nt ic E m m' w fr fr' a ex hc he h => ?_, fun g args m v m' he => ?_⟩
    · simp [exec] at he
    · simp [exec] at he
    · simp [run] at he
  | k + 1 => by
    obtain ⟨ihC, ihL, ihR⟩ := allK B w0 hE k
    refine ⟨fun c nt ic E m m' w fr fr' a ex hc he h => ?_, fun c nt ic E m m' w fr fr' a ex hc he h => ?_, fun g args m v m' he => ?_⟩
    · -- code
      cases c with
      | skip =>
        cases hc
        simp only [exec, Option.some.injEq, Prod.mk.injEq] at he
        obtain ⟨rfl, rfl, rfl⟩ := he
        exact wp_skip ⟨trivial, E, Agree.refl _ _, Nat.le_refl _, h⟩
      | region id ops draw =>
        cases draw with
        | false =>
          simp only [cCode] at hc
          obtain ⟨is, his, rfl⟩ := Option.map_eq_some_iff.1 hc
          simp only [exec] at he
          split at he
          case h_2 => cases he
          rename_i fr1 m1 hops
          cases he
          refine wp_region ?_
          have := opsE_ok (P := P) ihR (Q := Ends σ ρ B w0 nt E m.length .nrm fr' m') ops.toList 0 (by simp) his hops h (fun E' a' w' h1 h2 h3 => ⟨trivial, E', h1, h2, h3⟩)
          rwa [List.range_eq_range', ← Array.length_toList]
        | true =>
          simp only [cCode, Option.some.injEq] at hc
          split at hc
          · rename_i l hl
            subst hc
            simp only [exec] at he
            split at he
            case h_2 => cases he
            rename_i fr1 m1 hops
            cases he
            exact cDraw_ok ihR hl hops h (fun E' a' w' h1 h2 h3 => ⟨trivial, E', h1, h2, h3⟩) id
          · subst hc; simp [exec] at he
      | seq x y =>
        simp only [cCode] at hc
        split at hc
        case h_2 => cases hc
        rename_i x' y' hx hy
        cases hc
        simp only [exec] at he
        split at he
        · rename_i fr1 m1 h1
          refine wp_seq (wp_mono (ihC x nt x' E m m1 w fr fr1 a .nrm hx h1 h) fun e a1 w1 hq => ?_)
          obtain rfl := ends_nrm hq
          obtain ⟨_, E1, g1, g2, g3⟩ := hq
          exact wp_mono (ihC y nt y' E1 m1 m' w1 fr1 fr' a1 ex hy he g3) fun e a2 w2 hq => hq.of g1 g2
        · rename_i hno
          refine wp_seq (wp_mono (ihC x nt x' E m m' w fr fr' a ex hx he h) fun e a1 w1 hq => ?_)
          have hne : e ≠ .normal := by
            rintro rfl
            have := hq.1
            cases ex <;> simp [ExR] at this
            exact hno _ _ he
          cases e <;> first | exact absurd rfl hne | exact hq
      | cond c x y =>
        simp only [cCode] at hc
        split at hc
        case h_2 => cases hc
        rename_i c' x' y' hcc hx hy
        cases hc
        simp only [exec] at he
        split at he
        case h_2 => cases he
        rename_i t ht
        obtain ⟨h1, _⟩ := cX_ok h hcc
        rw [ht] at h1
        refine wp_cond (t := t) h1 ?_
        cases t
        · exact ihC y nt y' E m m' w fr fr' a ex hy he h
        · exact ihC x nt x' E m m' w fr fr' a ex hx he h
      | block id x =>
        simp only [cCode] at hc
        obtain ⟨x', hx, rfl⟩ := Option.map_eq_some_iff.1 hc
        simp only [exec] at he
        split at he
        · rename_i j fr1 m1 h1
          cases he
          refine wp_block (wp_mono (ihC x nt x' E m m' w fr fr' a (.exit j) hx h1 h) fun e a1 w1 hq => ?_)
          have := hq.1
          cases e <;> simp [ExR] at this
          subst this
          simp only [Exit.inBlock]
          split
          · rename_i hj
            exact ⟨by simp [hj, ExR], hq.2⟩
          · rename_i hj
            exact ⟨by simp [hj, ExR], hq.2⟩
        · rename_i hno
          refine wp_block (wp_mono (ihC x nt x' E m m' w fr fr' a ex hx he h) fun e a1 w1 hq => ?_)
          have h1 := hq.1
          cases e <;> cases ex <;> simp [ExR] at h1 <;> first | exact absurd he (hno _ _ _) | exact hq
      | loop x =>
        simp only [cCode] at hc
        obtain ⟨x', hx, rfl⟩ := Option.map_eq_some_iff.1 hc
        intro b kk cs
        -- the first round, as in the second claim
        simp only [exec] at he
        have key : LoopFrom P x (Ends σ ρ B w0 nt E m.length ex fr' m') a w := by
          intro b kk cs
          split at he
          · rename_i fr1 m1 h1
            obtain ⟨e, a1, w1, hq, harr⟩ := ihC x nt x' E m m1 w fr fr1 a .nrm hx h1 h b (.inLoop x :: kk) cs
            obtain rfl := ends_nrm hq
            obtain ⟨_, E1, g1, g2, g3⟩ := hq
            obtain ⟨e2, a2, w2, hq2, harr2⟩ := ihL x nt x' E1 m1 m' w1 fr1 fr' a1 ex hx he g3 b kk cs
            exact ⟨e2, a2, w2, hq2.of g1 g2, .of_steps (Steps.trans harr (.one step_inLoop)) harr2⟩
          · rename_i hno
            obtain ⟨e, a1, w1, hq, harr⟩ := ihC x nt x' E m m' w fr fr' a ex hx he h b (.inLoop x :: kk) cs
            have hne : e ≠ .normal := by
              rintro rfl
              have := hq.1
              cases ex <;> simp [ExR] at this
              exact hno _ _ he
            exact ⟨e, a1, w1, hq, .pass (x := .inLoop x) rfl (fun _ _ => .inl hne) harr⟩
        obtain ⟨e, a1, w1, hq, harr⟩ := key b kk cs
        exact ⟨e, a1, w1, hq, .of_steps (.one step_loop) harr⟩
      | exit id =>
        cases hc
        simp only [exec, Option.some.injEq, Prod.mk.injEq] at he
        obtain ⟨rfl, rfl, rfl⟩ := he
        exact wp_exit ⟨rfl, E, Agree.refl _ _, Nat.le_refl _, h⟩
      | ret =>
        cases hc
        simp only [exec, Option.some.injEq, Prod.mk.injEq] at he
        obtain ⟨rfl, rfl, rfl⟩ := he
        exact wp_ret ⟨trivial, E, Agree.refl _ _, Nat.le_refl _, h⟩
      | _ => cases hc; simp [exec] at he
    · -- a loop, from the head of a round on
      intro b kk cs
      simp only [exec] at he
      split at he
      · rename_i fr1 m1 h1
        obtain ⟨e, a1, w1, hq, harr⟩ := ihC c nt ic E m m1 w fr fr1 a .nrm hc h1 h b (.inLoop c :: kk) cs
        obtain rfl := ends_nrm hq
        obtain ⟨_, E1, g1, g2, g3⟩ := hq
        obtain ⟨e2, a2, w2, hq2, harr2⟩ := ihL c nt ic E1 m1 m' w1 fr1 fr' a1 ex hc he g3 b kk cs
        exact ⟨e2, a2, w2, hq2.of g1 g2, .of_steps (Steps.trans harr (.one step_inLoop)) harr2⟩
      · rename_i hno
        obtain ⟨e, a1, w1, hq, harr⟩ := ihC c nt ic E m m' w fr fr' a ex hc he h b (.inLoop c :: kk) cs
        have hne : e ≠ .normal := by
          rintro rfl
          have := hq.1
          cases ex <;> simp [ExR] at this
          exact hno _ _ he
        exact ⟨e, a1, w1, hq, .pass (x := .inLoop c) rfl (fun _ _ => .inl hne) harr⟩
    · -- a call
      simp only [run] at he
      split at he
      · cases he
      · rename_i p hp
        exact hE.prim g p hp B w0 args m v m' he
      · rename_i fn hfn
        obtain ⟨f, hf, hcf⟩ := hE.code g fn hfn
        unfold cFn at hcf
        split at hcf
        · cases hcf
        rename_i hname
        split at hcf
        case h_2 => cases hcf
        rename_i c rs hbody hres
        obtain ⟨ic, hic, rfl⟩ := Option.map_eq_some_iff.1 hcf
        refine ⟨⟨f, hf, by simpa using hname, by rw [hbody]; rfl⟩, fun E w hs hok => ?_⟩
        refine calls_of_wp hf hbody ?_
        have hst := St.enter (σ := σ) (ρ := ρ) hE.fm hs hok f.ntmps
        have fin : ∀ {ex : Ex} {fr : Fr} {m1 : Mem}, exec G k ic args m = some (ex, fr, m1) → (ex = .nrm ∨ ex = .ret) → (resE fr m1 rs).map (fun v => (v, m1)) = some (v, m') →
            c.wp P (bodyPost P f fun e w' => ∃ E', Agree m.length E E' ∧ m.length ≤ m'.length ∧ Sim σ B w0 E' m' w' ∧ v.ok m'.length ∧ e = .returned (cV σ E' v))
              { tmps := (args.map (cV σ E)).toArray ++ Array.replicate (f.ntmps - (args.map (cV σ E)).toArray.size) undef, defers := [] } w := by
          intro ex fr m1 hex hcase hr
          obtain ⟨v', hv', hvv⟩ := Option.map_eq_some_iff.1 hr
          cases hvv
          refine wp_mono (ihC c f.ntmps ic E m m' w args fr _ ex hic hex hst) fun e a1 w1 hq => ?_
          obtain ⟨h1, E1, g1, g2, g3⟩ := hq
          obtain ⟨q1, q2⟩ := resE_ok g3 hres hv'
          have : e = .normal ∨ e = .ret := by
            rcases hcase with rfl | rfl <;> cases e <;> simp [ExR] at h1 <;> simp
          rcases this with rfl | rfl <;> exact ⟨g3.df, _, q1, E1, g1, g2, g3.sim, q2, rfl⟩
        split at he
        · rename_i fr m1 hex; exact fin hex (.inl rfl) he
        · rename_i fr m1 hex; exact fin hex (.inr rfl) he
        · cases he

/-- **What the interpreter answers, the model returns.** -/
theorem run_sound (hE : EnvOk P σ ρ G) {k g : Nat} {args : List V} {m m' : Mem} {v : V} (he : run G k g args m = some (v, m')) : CallsSim P σ B w0 g args m v m' :=
  (allK B w0 hE k).2.2 g args m v m' he


end Go.AL
/-
  From what the interpreter answers to what the law's call returns.
-/
namespace Go.AL
set_option linter.unusedSimpArgs false
set_option linter.unusedVariables false
open Go.RowKit

def rho (t : List (Nat × Nat)) (f : Nat) : Option Nat := (t.find? (·.1 == f)).map (·.2)
def sig (t : List (Nat × Nat)) (g : Nat) : Nat := ((t.find? (·.2 == g)).map (·.1)).getD 0

theorem fnmap {t : List (Nat × Nat)} (h : t.all (fun p => sig t p.2 == p.1) = true) : FnMap (sig t) (rho t) := by
  intro f g hf
  obtain ⟨p, hp, rfl⟩ := Option.map_eq_some_iff.1 hf
  have h1 := List.mem_of_find?_eq_some hp
  have h2 := List.find?_some hp
  have h3 := List.all_eq_true.1 h p h1
  simp only [beq_iff_eq] at h2 h3
  rw [h3, h2]

def Chk (σ : Nat → Nat) (ρ : Nat → Option Nat) (P : Program) (t : List (Nat × Fn)) : Prop :=
  ∀ p ∈ t, ∃ f, P.funcs[σ p.1]? = some f ∧ cFn ρ P f = some p.2

theorem chk_nil {σ : Nat → Nat} {ρ : Nat → Option Nat} {P : Program} : Chk σ ρ P [] := fun _ h => nomatch h
theorem chk_cons {σ : Nat → Nat} {ρ : Nat → Option Nat} {P : Program} {g n : Nat} {fn : Fn} {f : Func} {t : List (Nat × Fn)} (hs : σ g = n) (hf : P.funcs[n]? = some f) (hc : cFn ρ P f = some fn) (ht : Chk σ ρ P t) :
    Chk σ ρ P ((g, fn) :: t) := by
  intro p hp
  rcases List.mem_cons.1 hp with rfl | hp
  · exact ⟨f, by rw [hs]; exact hf, hc⟩
  · exact ht p hp

def envOf (t : List (Nat × Fn)) (p : Nat → Option (List V → Mem → Option (V × Mem))) : Env := fun g =>
  match t.find? (·.1 == g) with
  | some x => some (.code x.2)
  | none => (p g).map .prim

theorem envok {t : List (Nat × Nat)} {P : Program} {tab : List (Nat × Fn)} (h : t.all (fun p => sig t p.2 == p.1) = true) (hc : Chk (sig t) (rho t) P tab)
    {p : Nat → Option (List V → Mem → Option (V × Mem))} (hp : ∀ g q, p g = some q → ∀ B w0 args m v m', q args m = some (v, m') → CallsSim P (sig t) B w0 g args m v m') :
    EnvOk P (sig t) (rho t) (envOf tab p) := by
  refine ⟨fnmap h, fun g fn hg => ?_, fun g q hg => ?_⟩
  · unfold envOf at hg
    split at hg
    · rename_i x hx
      cases hg
      have h1 := List.mem_of_find?_eq_some hx
      have h2 := List.find?_some hx
      simp only [beq_iff_eq] at h2
      subst h2
      exact hc x h1
    · obtain ⟨_, _, h⟩ := Option.map_eq_some_iff.1 hg
      cases h
  · unfold envOf at hg
    split at hg
    · cases hg
    · obtain ⟨_, h1, h⟩ := Option.map_eq_some_iff.1 hg
      cases h
      exact hp g q h1

theorem sim_nil (σ : Nat → Nat) (W : World) (E : Emb) : Sim σ W.heap.size W E [] W :=
  ⟨Below.refl _ _, Nat.le_refl _, fun _ _ _ h => by simp at h, fun _ _ _ h => by simp at h, fun _ _ _ h => by simp [owned] at h, fun _ _ _ h => by simp at h⟩

/-- A law that takes numbers, truth values, texts alone. -/
theorem law_calls {σ : Nat → Nat} {ρ : Nat → Option Nat} {P : Program} {G : Env} (hE : EnvOk P σ ρ G) {g n : Nat} (hn : σ g = n) {args : List V} {E : Emb} {m : Mem} {W : World} (hs : Sim σ W.heap.size W E m W)
    (hok : ∀ x ∈ args, V.ok m.length x) (h : ∃ k m', run G k g args m = some (V.b true, m')) {vs : Array Value} (hv : vs = (args.map (cV σ E)).toArray) :
    Calls P n vs W fun e w' => e = .returned (.bool true) ∧ Below W.heap.size W w' := by
  obtain ⟨k, m', h⟩ := h
  subst hn; subst hv
  refine ((run_sound (B := W.heap.size) (w0 := W) hE h).2 E W hs hok).mono ?_
  rintro e w' ⟨E', -, -, hs', -, rfl⟩
  exact ⟨rfl, hs'.below⟩

end Go.AL
