/-
  From the model's own code to the interpreter's: what Lean checks, function by function, by evaluation.
-/
import Derived.Test.YtaamjlckaakenaaAlCore
namespace Go.AL
set_option linter.unusedSimpArgs false
set_option linter.unusedVariables false

def szT (P : Program) (t : TypeId) : Option Nat := (P.info? t).map (·.size)
def bytesT (P : Program) (t : TypeId) : Option Nat := (P.info? t).map (·.bytes)
def aggT (P : Program) (t : TypeId) : Option Bool :=
  match P.underlying t with
  | some (.struct _) | some (.array _ _) => some true
  | some _ => some false
  | none => none

def cAtom : Value → Option A
  | .int k n => some (.int k n)
  | .bool b => some (.bool b)
  | .string s => some (.str s.data.toList)
  | .pointer none => some .nilp
  | .slice none 0 0 => some .nils
  | .nilFunc => some .nilf
  | .nilIface => some .nili
  | _ => none

def cAtoms : List Value → Option (List A)
  | [] => some []
  | v :: r =>
    match cAtom v, cAtoms r with
    | some x, some l => some (x :: l)
    | _, _ => none

def cConst : Value → Option V
  | .agg cs => (cAtoms cs.toList).map .g
  | v => (cAtom v).map .a

def zeroT (P : Program) (t : TypeId) : Option (List A) :=
  match P.info? t with
  | some i => match i.zero with
    | some v => cAtoms v.cells.toList
    | none => none
  | none => none

def cX (ρ : Nat → Option Nat) : Operand → Option X
  | .tmp t => some (.s t)
  | .const v => (cConst v).map .k
  | .func f => (ρ f).map fun g => .k (.a (.fn g []))
  | .global _ => none

def cXs (ρ : Nat → Option Nat) : List Operand → Option (List X)
  | [] => some []
  | x :: r =>
    match cX ρ x, cXs ρ r with
    | some y, some l => some (y :: l)
    | _, _ => none

def cXo (ρ : Nat → Option Nat) : Option Operand → Option (Option X)
  | none => some none
  | some x => (cX ρ x).map some

def cParts (ρ : Nat → Option Nat) (place : Nat → Option (Nat × Nat)) : List (Nat × Operand) → Option (List (Nat × Nat × X))
  | [] => some []
  | (i, x) :: r =>
    match place i, cX ρ x, cParts ρ place r with
    | some (off, n), some y, some l => some ((off, n, y) :: l)
    | _, _, _ => none

def intBin : BinOp → Bool
  | .add | .sub | .mul | .quo | .rem | .eql | .neq | .lss | .leq | .gtr | .geq => true
  | _ => false

def nilC : Bool → Operand → Bool
  | true, .const .nilIface => true
  | false, .const (.slice none 0 0) => true
  | _, _ => false

/-- A struct all of whose fields are numbers, bools, strings. -/
def flatT (P : Program) (t : TypeId) : Bool :=
  match P.underlying t with
  | some (.struct fs) => !P.stoodInHeld t && fs.toList.all (fun f => f.name != "_" && (match P.underlying f.type with
      | some (.int _) | some .bool | some .string => true
      | _ => false)) && fs.toList.zipIdx.all (fun (f, i) => f.offset == i) && !P.eqGuardType P.depth t
  | _ => false

def cBuiltin (ρ : Nat → Option Nat) (P : Program) (b : Builtin) (args : List Operand) (ts : List TypeId) : Option O :=
  match b, args, ts with
  | .append, [x, y], [t, u] =>
    match P.underlying t, P.underlying u with
    | some (.slice e), some d =>
      match d with
      | .int _ => none
      | _ =>
        match szT P e, bytesT P e, zeroT P e, cX ρ x, cX ρ y with
        | some s, some b, some z, some x, some y => if s = 0 ∨ z.length ≠ s then none else some (.app s b x y)
        | _, _, _, _, _ => none
    | _, _ => none
  | .len, [x], [t] =>
    match P.underlying t with
    | some .string => (cX ρ x).map .lens
    | some (.slice _) => (cX ρ x).map .len
    | some (.array n _) => some (.mov (.k (.i n)))
    | some (.pointer a) => match P.underlying a with
      | some (.array n _) => some (.mov (.k (.i n)))
      | _ => none
    | _ => none
  | .min, [x, y], _ => match cX ρ x, cX ρ y with
    | some x, some y => some (.mn x y)
    | _, _ => none
  | .max, [x, y], _ => match cX ρ x, cX ρ y with
    | some x, some y => some (.mx x y)
    | _, _ => none
  | .copy, [x, y], t :: _ =>
    match P.underlying t with
    | some (.slice e) => match szT P e, cX ρ x, cX ρ y with
      | some s, some x, some y => some (.cpy s x y)
      | _, _, _ => none
    | _ => none
  | .clear, [x], [t] =>
    match P.underlying t with
    | some (.slice e) => match szT P e, zeroT P e, cX ρ x with
      | some s, some z, some x => if s = 0 ∨ z.length ≠ s then none else some (.clr z x)
      | _, _, _ => none
    | _ => none
  | _, _, _ => none

def cOp (ρ : Nat → Option Nat) (P : Program) (op : Op) : Option O :=
  match op with
  | .move x | .assign x => (cX ρ x).map .mov
  | .pick c a b => match cX ρ c, cX ρ a, cX ρ b with
    | some c, some a, some b => some (.pick c a b)
    | _, _, _ => none
  | .alloc t => (zeroT P t).map .alloc
  | .box _ x => (cX ρ x).map .box
  | .build t ps =>
    match zeroT P t, P.underlying t with
    | some z, some (.struct fs) =>
      if fs.toList.all (fun f => (szT P f.type).isSome) then
        (cParts ρ (fun i => (fs[i]?).bind fun f => (szT P f.type).map fun n => (f.offset, n)) ps.toList).map (.build z)
      else none
    | some z, some (.array _ e) => match szT P e with
      | some s => (cParts ρ (fun i => some (i * s, s)) ps.toList).map (.build z)
      | none => none
    | _, _ => none
  | .buildSlice t len ps =>
    match P.underlying t with
    | some (.slice e) => match szT P e, zeroT P e with
      | some s, some z => if s = 0 ∨ z.length ≠ s ∨ len * s > 2 ^ 24 then none else
        (cParts ρ (fun i => some (i * s, s)) ps.toList).map (.lit z len)
      | _, _ => none
    | _ => none
  | .load t a => match aggT P t, szT P t, cX ρ a with
    | some true, some n, some a => some (.load true n a)
    | some false, some _, some a => some (.load false 1 a)
    | _, _, _ => none
  | .store t a x => match szT P t, cX ρ a, cX ρ x with
    | some n, some a, some x => some (.store n a x)
    | _, _, _ => none
  | .nilCheck x => (cX ρ x).map .nilc
  | .binOp op t x y _ =>
    match P.underlying t, cX ρ x, cX ρ y with
    | some d, some x', some y' =>
      match d with
      | .int _ | .string => if intBin op then some (.bin op x' y') else none
      | .bool => match op with
        | .eql => some (.beq false x' y')
        | .neq => some (.beq true x' y')
        | _ => none
      | .interface _ => if nilC true y then (match op with
        | .eql => some (.isn true false x')
        | .neq => some (.isn true true x')
        | _ => none) else none
      | .slice _ => if nilC false y then (match op with
        | .eql => some (.isn false false x')
        | .neq => some (.isn false true x')
        | _ => none) else none
      | _ => none
    | _, _, _ => none
  | .unOp .neg _ x => (cX ρ x).map .neg
  | .unOp .not _ x => (cX ρ x).map .not
  | .convert src dst x =>
    match P.underlying src, P.underlying dst, cX ρ x with
    | some (.int _), some (.int k), some x => some (.cvt k x)
    | some .string, some (.slice e), some x => match P.underlying e with
      | some (.int .u8) => some (.s2b x)
      | _ => none
    | some (.slice e), some .string, some x => match P.underlying e with
      | some (.int .u8) => some (.b2s x)
      | _ => none
    | some (.int _), some .string, some x => some (.i2s x)
    | _, _, _ => none
  | .makeFunc (.func f) first caps =>
    if first.size = 0 then
      match ρ f, cXs ρ caps.toList with
      | some g, some xs => some (.fnv g xs)
      | _, _ => none
    else none
  | .makeSlice t l c =>
    match P.underlying t with
    | some (.slice e) => match szT P e, zeroT P e, bytesT P e, cX ρ l, cX ρ c with
      | some s, some z, some b, some l, some c => if s = 0 ∨ z.length ≠ s then none else some (.mk z b l c)
      | _, _, _, _, _ => none
    | _ => none
  | .slice t x lo hi mx =>
    match P.underlying t, cX ρ x, cXo ρ lo, cXo ρ hi, cXo ρ mx with
    | some .string, some x, some lo, some hi, some none => some (.sstr x lo hi)
    | some (.slice e), some x, some lo, some hi, some mx => match szT P e with
      | some s => if mx.isSome ∧ hi.isNone then none else some (.slc s x lo hi mx)
      | none => none
    | some (.array n e), some x, some lo, some hi, some none => match szT P e with
      | some s => some (.sarr n s x lo hi)
      | none => none
    | _, _, _, _, _ => none
  | .fieldAddr t x f =>
    match P.underlying t, cX ρ x with
    | some (.struct fs), some x => match fs[f]? with
      | some fd => match szT P fd.type with
        | some n => if n = 0 then none else some (.fadr fd.offset x)
        | none => none
      | none => none
    | _, _ => none
  | .field t x f =>
    match P.underlying t, cX ρ x with
    | some (.struct fs), some x => match fs[f]? with
      | some fd => match aggT P fd.type, szT P fd.type with
        | some g, some n => some (.fld g fd.offset n x)
        | _, _ => none
      | none => none
    | _, _ => none
  | .indexAddr t x i =>
    match P.underlying t, cX ρ x, cX ρ i with
    | some (.slice e), some x, some i => (szT P e).map fun s => .ia s x i
    | some (.array n e), some x, some i => (szT P e).map fun s => .iap n s x i
    | _, _, _ => none
  | .index t x i =>
    match P.underlying t, cX ρ x, cX ρ i with
    | some .string, some x, some i => some (.ixs x i)
    | some (.array n e), some x, some i => match aggT P e, szT P e with
      | some g, some s => some (.ixa n s g x i)
      | _, _ => none
    | _, _, _ => none
  | .range t x =>
    match P.underlying t with
    | some .string => (cX ρ x).map .rng
    | _ => none
  | .next x true => (cX ρ x).map .nxt
  | .extract x i => (cX ρ x).map fun x => .ext x i
  | .call c =>
    match c.callee with
    | .value (.func f) => match ρ f, cXs ρ c.args.toList with
      | some g, some xs => some (.call g xs)
      | _, _ => none
    | .value (.tmp t) => (cXs ρ c.args.toList).map (.callv (.s t))
    | .builtin b => cBuiltin ρ P b c.args.toList c.argTypes.toList
    | _ => none
  | _ => none

def dIn (nt : Nat) : Option Nat → Bool
  | some d => d < nt
  | none => true

def cG (ops : Array Oper) : Option (Nat × Bool) → Option (Option (Nat × Bool))
  | none => some none
  | some (j, t) => ((ops[j]?).bind (·.dst)).map fun s => some (s, t)

def cI (ρ : Nat → Option Nat) (P : Program) (nt : Nat) (ops : Array Oper) (o : Oper) : Option I :=
  if dIn nt o.dst then (cG ops o.guard).map fun g => ⟨o.dst, (cOp ρ P o.op).getD .bad, g⟩ else none

def cIs (ρ : Nat → Option Nat) (P : Program) (nt : Nat) (ops : Array Oper) : List Oper → Option (List I)
  | [] => some []
  | o :: r => match cI ρ P nt ops o, cIs ρ P nt ops r with
    | some i, some l => some (i :: l)
    | _, _ => none

end Go.AL
