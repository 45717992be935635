/-
  Regions that draw their order: one order stands for all.
-/
import Derived.Test.YtaamjlckaakenaaAlComp
import Derived.Orders
namespace Go.AL
set_option linter.unusedSimpArgs false
set_option linter.unusedVariables false

def X.sl : X → List Nat
  | .s i => [i]
  | .k _ => []
def osl : Option X → List Nat
  | some x => x.sl
  | none => []

def O.slots : O → List Nat
  | .mov x | .box x | .load _ _ x | .nilc x | .isn _ _ x | .neg x | .not x | .cvt _ x | .s2b x | .b2s x | .i2s x | .fadr _ x | .fld _ _ _ x | .rng x | .nxt x | .ext x _ | .len x | .lens x | .clr _ x => x.sl
  | .pick c a b => c.sl ++ a.sl ++ b.sl
  | .alloc _ | .bad => []
  | .build _ ps | .lit _ _ ps => ps.flatMap fun p => p.2.2.sl
  | .store _ x y | .bin _ x y | .beq _ x y | .eqg _ x y | .mk _ _ x y | .ia _ x y | .iap _ _ x y | .ixs x y | .ixa _ _ _ x y | .app _ _ x y | .mn x y | .mx x y | .cpy _ x y => x.sl ++ y.sl
  | .slc _ x a b c => x.sl ++ osl a ++ osl b ++ osl c
  | .sstr x a b | .sarr _ _ x a b => x.sl ++ osl a ++ osl b
  | .call _ xs | .fnv _ xs => xs.flatMap X.sl
  | .callv x xs => x.sl ++ xs.flatMap X.sl

def I.reads (i : I) : List Nat := i.op.slots ++ (match i.gd with
  | some (s, _) => [s]
  | none => [])

def I.free (i : I) (d : Option Nat) : Bool := match d with
  | some d => !i.reads.contains d
  | none => true

def apartI (x y : I) : Bool := y.free x.d && x.free y.d && (match x.d, y.d with
  | some d, some e => d != e
  | _, _ => true)

/-- One operation of the region: its number, what it is, which loads are held against what they gave behind it. -/
structure T where
  idx : Nat
  i : I
  chk : List (Nat × I)
  deriving Inhabited

def T.di (t : T) : DI := ⟨t.i, t.chk.map (·.2)⟩

def afterOf (ops : Array Oper) (i : Nat) : List Nat :=
  match ops[i]? with
  | some o => (o.after.toList.filter (Region.binds .any)).map (·.on)
  | none => []

def befs (ops : Array Oper) : List Oper → List (List Nat) → List (List Nat)
  | [], acc => acc
  | o :: r, acc => befs ops r (acc ++ [((o.after.toList.filter (Region.binds .any)).flatMap fun e => e.on :: acc.getD e.on []).eraseDups])

def bef (bs : List (List Nat)) (i : Nat) : List Nat := bs.getD i []

/-- Of two operations in this order: ordered, or it does not matter. -/
def condT (bs : List (List Nat)) (x y : T) : Bool :=
  x.idx != y.idx && !(bef bs x.idx).contains y.idx &&
  ((bef bs y.idx).contains x.idx ||
    (apartI x.i y.i && !(x.i.op.cls == 2 && y.i.op.cls == 2) && (x.i.op.cls != 2 || y.i.op.cls == 0) && (y.i.op.cls != 2 || x.i.op.cls == 0 || y.chk.any fun k => k.1 == x.idx && k.2 == x.i)))

/-- What is held behind 'y' is nobody else's. -/
def privT (bs : List (List Nat)) (z : T) (k : Nat × I) : Bool :=
  (bef bs k.1).contains z.idx || (z.idx == k.1 && z.i == k.2) || (k.2.free z.i.d && (match z.i.d, k.2.d with
    | some d, some e => d != e
    | _, _ => true))

def pairsT (bs : List (List Nat)) : List T → Bool
  | [] => true
  | x :: r => r.all (condT bs x) && pairsT bs r

def closedB (bs : List (List Nat)) (ops : Array Oper) : Bool :=
  (List.range ops.size).all fun i => !(bef bs i).contains i && (afterOf ops i).all (fun e => decide (e < ops.size) && (bef bs i).contains e) &&
    (bef bs i).all fun b => (afterOf ops i).any fun e => b == e || (bef bs e).contains b

/-- What is held has been carried out before. -/
def chkAt : List T → List Nat → Bool
  | [], _ => true
  | y :: r, done => y.chk.all (fun k => done.contains k.1) && chkAt r (y.idx :: done)

def drawOk (ops : Array Oper) (bs : List (List Nat)) (items : List T) : Bool :=
  items.length == ops.size && (List.range ops.size).all (fun i => items.any fun t => t.idx == i) && closedB bs ops && pairsT bs items &&
  items.all (fun t => decide (t.idx < ops.size)) && items.all (fun t => t.i.op.cls == 2 || t.chk.isEmpty) &&
  items.all (fun y => y.chk.all fun k => k.2.op.cls == 1 && k.2.d.isSome && k.2.free k.2.d && items.all fun z => privT bs z k) && chkAt items []

/-- The order: whatever only looks comes as soon as it may. -/
def greedy (ops : Array Oper) (is : List I) : Nat → List Nat → List Nat
  | 0, done => done
  | n + 1, done =>
    let ready := (List.range ops.size).filter fun i => !done.contains i && (afterOf ops i).all done.contains
    match ready.find? fun i => (is.getD i ⟨none, .bad, none⟩).op.cls != 2 with
    | some i => greedy ops is n (done ++ [i])
    | none => match ready with
      | i :: _ => greedy ops is n (done ++ [i])
      | [] => done

def items (bs : List (List Nat)) (is : List I) : List Nat → List Nat → List T
  | _, [] => []
  | done, i :: r =>
    let me := is.getD i ⟨none, .bad, none⟩
    ⟨i, me, if me.op.cls = 2 then (done.filter fun k => (is.getD k ⟨none, .bad, none⟩).op.cls == 1 && !(bef bs i).contains k).map fun k => (k, is.getD k ⟨none, .bad, none⟩) else []⟩ :: items bs is (done ++ [i]) r

def cDraw (ρ : Nat → Option Nat) (P : Program) (nt : Nat) (ops : Array Oper) : Option (List DI) :=
  if !P.follows .mixedOrders then none else
  match cIs ρ P nt ops ops.toList with
  | none => none
  | some is =>
    let bs := befs ops ops.toList []
    let its := items bs is [] (greedy ops is ops.size [])
    if drawOk ops bs its && its.all (fun t => ops.size > t.idx && (is[t.idx]? == some t.i)) then some (its.map T.di) else none

def cCode (ρ : Nat → Option Nat) (P : Program) (nt : Nat) : Code → Option IC
  | .skip => some .skip
  | .region _ ops false => (cIs ρ P nt ops ops.toList).map .ops
  | .region _ ops true => some (match cDraw ρ P nt ops with
    | some l => .dops l
    | none => .bad)
  | .seq x y => match cCode ρ P nt x, cCode ρ P nt y with
    | some x, some y => some (.seq x y)
    | _, _ => none
  | .cond c x y => match cX ρ c, cCode ρ P nt x, cCode ρ P nt y with
    | some c, some x, some y => some (.cond c x y)
    | _, _, _ => none
  | .block id x => (cCode ρ P nt x).map (.block id)
  | .loop x => (cCode ρ P nt x).map .loop
  | .exit id => some (.exit id)
  | .ret => some .ret
  | _ => some .bad

def cRes (P : Program) : List ResultVar → Option (List Rv)
  | [] => some []
  | .tmp t :: r => (cRes P r).map (.t t :: ·)
  | .cell s t :: r => match aggT P t, szT P t, cRes P r with
    | some true, some n, some l => some (.c s true n :: l)
    | some false, some _, some l => some (.c s false 1 :: l)
    | _, _, _ => none

def cFn (ρ : Nat → Option Nat) (P : Program) (f : Func) : Option Fn :=
  if f.name == "runtime.NumGoroutine" then none else
  match f.body, cRes P f.results.toList with
  | some c, some rs => (cCode ρ P f.ntmps c).map fun b => ⟨rs, b⟩
  | _, _ => none

end Go.AL
