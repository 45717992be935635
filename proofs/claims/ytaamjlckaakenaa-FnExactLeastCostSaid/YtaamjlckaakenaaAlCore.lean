/-
  An interpreter for the operations of Go functions, over an abstract memory: values, memory, one operation, code. No theorem stands here.
-/
import GoSem.Step
import Derived.Below
import Derived.Laws.Cells
import Derived.Laws.IdiomCopy
namespace Go.AL
set_option linter.unusedSimpArgs false
set_option linter.unusedVariables false

/-- A slice's capacity: known, or 'all the rest of its block' (elements of s cells). -/
inductive Cap where
  | ex (n : Nat)
  | rest (s : Nat)
  deriving DecidableEq, Inhabited

/-- What one cell can hold. -/
inductive A where
  | int (k : IntKind) (n : Int)
  | bool (b : Bool)
  | str (s : List UInt8)
  | ptr (b o : Nat)
  | nilp
  | sl (b o len : Nat) (c : Cap)
  | nils
  | zs (a : Addr)
  | fn (f : Nat) (caps : List (Nat × Nat))
  | nilf
  | err (b : Nat)
  | nili
  deriving DecidableEq, Inhabited

/-- One cell, or the cells of a struct or an array. -/
inductive U where
  | a (x : A)
  | g (cs : List A)
  deriving DecidableEq, Inhabited

inductive V where
  | u (x : U)
  | t (vs : List U)
  | z
  deriving DecidableEq, Inhabited

abbrev V.a (x : A) : V := .u (.a x)
abbrev V.g (x : List A) : V := .u (.g x)
abbrev V.i (n : Int) : V := .u (.a (.int .i64 n))
abbrev V.b (t : Bool) : V := .u (.a (.bool t))
abbrev V.s (s : List UInt8) : V := .u (.a (.str s))

def U.cells : U → List A
  | .a x => [x]
  | .g cs => cs

inductive Blk where
  | cells (w : Bool) (cs : List A)
  | iter (s : List UInt8) (pos : Nat)
  | dead
  deriving DecidableEq, Inhabited

abbrev Mem := List Blk
abbrev Fr := List V

def fget : Fr → Nat → V
  | [], _ => .z
  | x :: _, 0 => x
  | _ :: r, n + 1 => fget r n

def fset : Fr → Nat → V → Fr
  | [], 0, v => [v]
  | [], n + 1, v => .z :: fset [] n v
  | _ :: r, 0, v => v :: r
  | x :: r, n + 1, v => x :: fset r n v

inductive X where
  | s (i : Nat)
  | k (v : V)
  deriving DecidableEq, Inhabited

def ev (fr : Fr) : X → V
  | .s i => fget fr i
  | .k v => v

def V.toA : V → Option A
  | .u (.a x) => some x
  | _ => none
def V.toU : V → Option U
  | .u x => some x
  | _ => none
def evA (fr : Fr) (x : X) : Option A := (ev fr x).toA
def evU (fr : Fr) (x : X) : Option U := (ev fr x).toU

/-- Cells written one behind the other. -/
def splice : List A → Nat → List A → List A
  | cs, _, [] => cs
  | cs, o, x :: xs => splice (cs.set o x) (o + 1) xs

def rd (m : Mem) (b o n : Nat) : Option (List A) :=
  match m[b]? with
  | some (.cells _ cs) => if o + n ≤ cs.length then some ((cs.drop o).take n) else none
  | _ => none

def wr (m : Mem) (b o : Nat) (xs : List A) : Option Mem :=
  match m[b]? with
  | some (.cells true cs) => if o + xs.length ≤ cs.length then some (m.set b (.cells true (splice cs o xs))) else none
  | _ => none

/-- How many cells of a block are known. -/
def known (m : Mem) (b : Nat) : Nat :=
  match m[b]? with
  | some (.cells _ cs) => cs.length
  | _ => 0

inductive O where
  | mov (x : X)
  | pick (c a b : X)
  | alloc (z : List A)
  | box (x : X)
  | build (z : List A) (ps : List (Nat × Nat × X))
  | lit (z : List A) (len : Nat) (ps : List (Nat × Nat × X))
  | load (g : Bool) (n : Nat) (p : X)
  | store (n : Nat) (p x : X)
  | nilc (x : X)
  | bin (op : BinOp) (x y : X)
  | beq (neq : Bool) (x y : X)
  | eqg (neq : Bool) (x y : X)
  | isn (ifc neq : Bool) (x : X)
  | neg (x : X)
  | not (x : X)
  | cvt (k : IntKind) (x : X)
  | s2b (x : X)
  | b2s (x : X)
  | i2s (x : X)
  | mk (z : List A) (bytes : Nat) (l c : X)
  | slc (s : Nat) (x : X) (lo hi mx : Option X)
  | sstr (x : X) (lo hi : Option X)
  | sarr (n s : Nat) (x : X) (lo hi : Option X)
  | fadr (off : Nat) (x : X)
  | fld (g : Bool) (off n : Nat) (x : X)
  | ia (s : Nat) (x i : X)
  | iap (n s : Nat) (x i : X)
  | ixs (x i : X)
  | ixa (n s : Nat) (g : Bool) (x i : X)
  | rng (x : X)
  | nxt (x : X)
  | ext (x : X) (i : Nat)
  | call (f : Nat) (xs : List X)
  | callv (x : X) (xs : List X)
  | app (s bytes : Nat) (x y : X)
  | len (x : X)
  | lens (x : X)
  | mn (x y : X)
  | mx (x y : X)
  | cpy (s : Nat) (x y : X)
  | clr (z : List A) (x : X)
  | fnv (f : Nat) (caps : List X)
  | bad
  deriving DecidableEq, Inhabited

structure I where
  d : Option Nat
  op : O
  gd : Option (Nat × Bool)
  deriving DecidableEq, Inhabited

/-- A region that draws its order: its operations in one order; behind an operation that acts, the loads that another order may have brought behind it are held against what they gave. -/
structure DI where
  i : I
  chk : List I
  deriving DecidableEq, Inhabited

inductive IC where
  | skip
  | ops (l : List I)
  | dops (l : List DI)
  | seq (x y : IC)
  | cond (c : X) (x y : IC)
  | block (id : Nat) (x : IC)
  | loop (x : IC)
  | exit (id : Nat)
  | ret
  | bad
  deriving DecidableEq, Inhabited

/-- Where a result lies: in a slot, or in the cells that a slot points to. -/
inductive Rv where
  | t (s : Nat)
  | c (s : Nat) (g : Bool) (n : Nat)
  deriving DecidableEq, Inhabited

structure Fn where
  res : List Rv
  body : IC
  deriving DecidableEq, Inhabited

abbrev CallE := Nat → List V → Mem → Option (V × Mem)

def fillE (fr : Fr) : List A → List (Nat × Nat × X) → Option (List A)
  | cs, [] => some cs
  | cs, (off, n, x) :: r =>
    match evU fr x with
    | some y => if y.cells.length = n ∧ off + n ≤ cs.length then fillE fr (splice cs off y.cells) r else none
    | none => none

def bytesLt : List UInt8 → List UInt8 → Bool
  | _, [] => false
  | [], _ :: _ => true
  | a :: x, b :: y => a < b || (a == b && bytesLt x y)

def binA (op : BinOp) : A → A → Option A
  | .int k a, .int k' b =>
    if k ≠ k' then none else
    match op with
    | .add => some (.int k (k.wrap (a + b)))
    | .sub => some (.int k (k.wrap (a - b)))
    | .mul => some (.int k (k.wrap (a * b)))
    | .quo => if b = 0 then none else some (.int k (k.wrap (a.tdiv b)))
    | .rem => if b = 0 then none else some (.int k (a.tmod b))
    | .eql => some (.bool (a == b))
    | .neq => some (.bool (a != b))
    | .lss => some (.bool (a < b))
    | .leq => some (.bool (a ≤ b))
    | .gtr => some (.bool (a > b))
    | .geq => some (.bool (a ≥ b))
    | _ => none
  | .str a, .str b =>
    match op with
    | .add => if a.length + b.length ≤ 9223372036854775807 then some (.str (a ++ b)) else none
    | .eql => some (.bool (a == b))
    | .neq => some (.bool (!(a == b)))
    | .lss => some (.bool (bytesLt a b))
    | .leq => some (.bool (bytesLt a b || a == b))
    | .gtr => some (.bool (!(bytesLt a b || a == b)))
    | .geq => some (.bool (!bytesLt a b))
    | _ => none
  | _, _ => none

def isNil : Bool → A → Option Bool
  | true, .nili => some true
  | true, .err _ => some false
  | false, .nils => some true
  | false, .sl _ _ _ _ => some false
  | _, _ => none

/-- Bounds of a slice expression: low, high. -/
def bnd (fr : Fr) (dflt : Nat) (top : Nat) : Option X → Option Nat
  | none => some dflt
  | some x =>
    match evA fr x with
    | some (.int _ i) => if 0 ≤ i ∧ i ≤ (top : Int) then some i.toNat else none
    | _ => none

def atoms : List X → Fr → Option (List (Nat × Nat))
  | [], _ => some []
  | x :: r, fr =>
    match evA fr x, atoms r fr with
    | some (.ptr b o), some l => some ((b, o) :: l)
    | _, _ => none

def bytesOf : List A → Option (List UInt8)
  | [] => some []
  | .int .u8 n :: r =>
    match bytesOf r with
    | some l => some (UInt8.ofNat n.toNat :: l)
    | none => none
  | _ :: _ => none

def u8s (s : List UInt8) : List A := s.map fun c => .int .u8 c.toNat

/-- The cells that an append or a copy takes from its source: n elements of s cells. -/
def srcCells (m : Mem) (s n : Nat) : A → Option (List A)
  | .nils => if n = 0 then some [] else none
  | .sl b o len _ => if n ≤ len then rd m b o (n * s) else none
  | .str t => if s = 1 ∧ n ≤ t.length then some (u8s (t.take n)) else none
  | _ => none

def lenA : A → Option Nat
  | .str t => some t.length
  | .nils => some 0
  | .sl _ _ n _ => some n
  | _ => none

def appE (m : Mem) (s bytes : Nat) (x y : A) : Option (V × Mem) :=
  match lenA y with
  | none => none
  | some n =>
    match srcCells m s n y with
    | none => none
    | some new =>
      match x with
      | .nils =>
        if n = 0 then some (.a .nils, m)
        else if n ≤ 1099511627776 ∧ n * bytes ≤ 1099511627776 then some (.a (.sl m.length 0 n (.rest s)), m ++ [.cells true new]) else none
      | .sl b o len c =>
        if n = 0 then (match c with
          | .ex cap => if len ≤ cap then some (.a x, m) else none
          | .rest s' => if s' = s ∧ o + len * s ≤ known m b then some (.a x, m) else none)
        else if ¬ (len + n ≤ 1099511627776 ∧ (len + n) * bytes ≤ 1099511627776) then none
        else match c with
        | .ex cap =>
          if len + n ≤ cap then
            match wr m b (o + len * s) new with
            | some m' => some (.a (.sl b o (len + n) (.ex cap)), m')
            | none => none
          else match rd m b o (len * s) with
            | some old => some (.a (.sl m.length 0 (len + n) (.rest s)), m ++ [.cells true (old ++ new)])
            | none => none
        | .rest s' =>
          if s' ≠ s then none else
          if o + (len + n) * s ≤ known m b then
            match wr m b (o + len * s) new with
            | some m' => some (.a (.sl b o (len + n) (.rest s)), m')
            | none => none
          else match m[b]? with
            | some (.cells true cs) =>
              if o + len * s ≤ cs.length then
                some (.a (.sl m.length 0 (len + n) (.rest s)), m.set b .dead ++ [.cells true ((cs.drop o).take (len * s) ++ new)])
              else none
            | _ => none
      | _ => none

def part (g : Bool) (cs : List A) (off n : Nat) : Option V :=
  if g then some (.g ((cs.drop off).take n)) else (cs[off]?).map .a

def scalar : A → Bool
  | .int .. | .bool _ | .str _ => true
  | _ => false

def opE (call : CallE) (fr : Fr) (m : Mem) : O → Option (V × Mem)
  | .mov x => some (ev fr x, m)
  | .pick c a b =>
    match evA fr c with
    | some (.bool t) => some (if t then ev fr a else ev fr b, m)
    | _ => none
  | .alloc z => some (.a (.ptr m.length 0), m ++ [.cells true z])
  | .box x => match evU fr x with
    | some y => some (.a (.ptr m.length 0), m ++ [.cells true y.cells])
    | none => none
  | .build z ps => match fillE fr z ps with
    | some cs => some (.g cs, m)
    | none => none
  | .lit z len ps =>
    match fillE fr (List.replicate len z).flatten ps with
    | some cs => some (.a (.sl m.length 0 len (.ex len)), m ++ [.cells true cs])
    | none => none
  | .load g n p =>
    match evA fr p with
    | some (.ptr b o) =>
      match rd m b o n with
      | some cs => if g then some (.g cs, m) else match cs with
        | [c] => some (.a c, m)
        | _ => none
      | none => none
    | _ => none
  | .store n p x =>
    match evA fr p, evU fr x with
    | some (.ptr b o), some y => if y.cells.length = n then (match wr m b o y.cells with
        | some m' => some (.z, m')
        | none => none) else none
    | _, _ => none
  | .nilc x =>
    match evA fr x with
    | some (.ptr b o) => some (.a (.ptr b o), m)
    | some (.fn f c) => some (.a (.fn f c), m)
    | _ => none
  | .bin op x y =>
    match evA fr x, evA fr y with
    | some a, some b => (binA op a b).map fun r => (.a r, m)
    | _, _ => none
  | .beq neq x y =>
    match evA fr x, evA fr y with
    | some (.bool a), some (.bool b) => some (.b (if neq then !(a == b) else (a == b)), m)
    | _, _ => none
  | .eqg neq x y =>
    match ev fr x, ev fr y with
    | .u (.g xs), .u (.g ys) => if xs.length = ys.length ∧ xs.all scalar ∧ ys.all scalar then some (.b (if neq then !(xs == ys) else (xs == ys)), m) else none
    | _, _ => none
  | .isn ifc neq x => match evA fr x with
    | some a => (isNil ifc a).map fun t => (.b (t != neq), m)
    | none => none
  | .neg x => match evA fr x with
    | some (.int k n) => some (.a (.int k (k.wrap (0 - n))), m)
    | _ => none
  | .not x => match evA fr x with
    | some (.bool t) => some (.b (!t), m)
    | _ => none
  | .cvt k x => match evA fr x with
    | some (.int _ n) => some (.a (.int k (k.wrap n)), m)
    | _ => none
  | .s2b x => match evA fr x with
    | some (.str s) => some (.a (.sl m.length 0 s.length (.rest 1)), m ++ [.cells true (u8s s)])
    | _ => none
  | .b2s x => match evA fr x with
    | some .nils => some (.s [], m)
    | some (.sl b o len _) => match rd m b o len with
      | some cs => (bytesOf cs).map fun l => (.s l, m)
      | none => none
    | _ => none
  | .i2s x => match evA fr x with
    | some (.int _ n) => if 0 ≤ n ∧ n < 128 then some (.s [UInt8.ofNat n.toNat], m) else none
    | _ => none
  | .mk z bytes l c =>
    match evA fr l, evA fr c with
    | some (.int _ l), some (.int _ c) =>
      if 0 ≤ l ∧ l ≤ c ∧ c ≤ 1099511627776 ∧ c * bytes ≤ 1099511627776 then
        some (.a (.sl m.length 0 l.toNat (.ex c.toNat)), m ++ [.cells true (List.replicate c.toNat z).flatten])
      else none
    | _, _ => none
  | .slc s x lo hi mx =>
    match evA fr x with
    | some .nils =>
      match bnd fr 0 0 mx, bnd fr 0 0 hi, bnd fr 0 0 lo with
      | some 0, some 0, some 0 => some (.a .nils, m)
      | _, _, _ => none
    | some (.sl b o len (.ex c)) =>
      match bnd fr c c mx with
      | none => none
      | some k => match bnd fr len k hi with
        | none => none
        | some h => match bnd fr 0 h lo with
          | none => none
          | some l => if l ≤ h then some (.a (.sl b (if k = l then o else o + l * s) (h - l) (.ex (k - l))), m) else none
    | some (.sl b o len (.rest s')) =>
      if s' ≠ s ∨ s = 0 then none else
      match mx with
      | some mx =>
        match bnd fr 0 ((known m b - o) / s) (some mx) with
        | none => none
        | some k => match bnd fr len k hi with
          | none => none
          | some h => match bnd fr 0 h lo with
            | none => none
            | some l => if l ≤ h ∧ h ≤ k then some (.a (.sl b (if k = l then o else o + l * s) (h - l) (.ex (k - l))), m) else none
      | none =>
        match bnd fr len ((known m b - o) / s) hi with
        | none => none
        | some h => match bnd fr 0 h lo with
          | none => none
          | some l =>
            if ¬ (l ≤ h ∧ o + h * s ≤ known m b) then none else
            if l = 0 then some (.a (.sl b o h (.rest s)), m)
            else if o + (l + 1) * s ≤ known m b then some (.a (.sl b (o + l * s) (h - l) (.rest s)), m)
            else some (.a (.sl m.length 0 0 (.rest s)), m ++ [.cells false []])
    | _ => none
  | .sstr x lo hi =>
    match evA fr x with
    | some (.str s) =>
      match bnd fr s.length s.length hi with
      | none => none
      | some h => match bnd fr 0 h lo with
        | none => none
        | some l => some (.s ((s.take h).drop l), m)
    | _ => none
  | .sarr n s x lo hi =>
    match evA fr x with
    | some (.ptr b o) =>
      match bnd fr n n hi with
      | none => none
      | some h => match bnd fr 0 h lo with
        | none => none
        | some l => if l ≤ h then some (.a (.sl b (if n = l then o else o + l * s) (h - l) (.ex (n - l))), m) else none
    | _ => none
  | .fadr off x => match evA fr x with
    | some (.ptr b o) => some (.a (.ptr b (o + off)), m)
    | _ => none
  | .fld g off n x => match ev fr x with
    | .u (.g cs) => (part g cs off n).map fun v => (v, m)
    | _ => none
  | .ia s x i =>
    match evA fr x, evA fr i with
    | some (.sl b o len _), some (.int _ j) => if 0 ≤ j ∧ j < (len : Int) then some (.a (.ptr b (o + j.toNat * s)), m) else none
    | _, _ => none
  | .iap n s x i =>
    match evA fr x, evA fr i with
    | some (.ptr b o), some (.int _ j) => if 0 ≤ j ∧ j < (n : Int) then some (.a (.ptr b (o + j.toNat * s)), m) else none
    | _, _ => none
  | .ixs x i =>
    match evA fr x, evA fr i with
    | some (.str t), some (.int _ j) => if 0 ≤ j then (t[j.toNat]?).map fun c => (.a (.int .u8 c.toNat), m) else none
    | _, _ => none
  | .ixa n s g x i =>
    match ev fr x, evA fr i with
    | .u (.g cs), some (.int _ j) => if 0 ≤ j ∧ j < (n : Int) then (part g cs (j.toNat * s) s).map fun v => (v, m) else none
    | _, _ => none
  | .rng x => match evA fr x with
    | some (.str s) => some (.a (.ptr m.length 0), m ++ [.iter s 0])
    | _ => none
  | .nxt x => match evA fr x with
    | some (.ptr b 0) => match m[b]? with
      | some (.iter s pos) => match s[pos]? with
        | some c => if c.toNat < 128 then some (.t [.a (.bool true), .a (.int .i64 pos), .a (.int .i32 c.toNat)], m.set b (.iter s (pos + 1))) else none
        | none => some (.t [.a (.bool false)], m)
      | _ => none
    | _ => none
  | .ext x i => match ev fr x with
    | .t vs => (vs[i]?).map fun u => (.u u, m)
    | _ => none
  | .call f xs => call f (xs.map (ev fr)) m
  | .callv x xs => match evA fr x with
    | some (.fn f caps) => call f (xs.map (ev fr) ++ caps.map fun p => .a (.ptr p.1 p.2)) m
    | _ => none
  | .app s bytes x y =>
    match evA fr x, evA fr y with
    | some a, some b => appE m s bytes a b
    | _, _ => none
  | .len x => match evA fr x with
    | some .nils => some (.i 0, m)
    | some (.sl _ _ n _) => some (.i n, m)
    | some (.zs _) => some (.i 0, m)
    | _ => none
  | .lens x => match evA fr x with
    | some (.str s) => some (.i s.length, m)
    | _ => none
  | .mn x y => match evA fr x, evA fr y with
    | some (.int k a), some (.int k' b) => if k = k' then some (.a (.int k (if b < a then b else a)), m) else none
    | _, _ => none
  | .mx x y => match evA fr x, evA fr y with
    | some (.int k a), some (.int k' b) => if k = k' then some (.a (.int k (if b > a then b else a)), m) else none
    | _, _ => none
  | .cpy s x y =>
    match evA fr x, evA fr y with
    | some .nils, some b => match lenA b with
      | some _ => some (.i 0, m)
      | none => none
    | some (.sl d o len _), some b => match lenA b with
      | none => none
      | some n => match srcCells m s (min n len) b with
        | none => none
        | some cs => match wr m d o cs with
          | some m' => some (.i (min n len : Nat), m')
          | none => none
    | _, _ => none
  | .clr z x =>
    match evA fr x with
    | some .nils => some (.t [], m)
    | some (.sl b o len _) => if len = 0 then some (.t [], m) else match wr m b o (List.replicate len z).flatten with
      | some m' => some (.t [], m')
      | none => none
    | _ => none
  | .fnv f caps => match atoms caps fr with
    | some l => some (.a (.fn f l), m)
    | none => none
  | .bad => none

def wanted (fr : Fr) : Option (Nat × Bool) → Option Bool
  | none => some true
  | some (s, t) => match fget fr s with
    | .u (.a (.bool b)) => some (b == t)
    | .z => some false
    | _ => none

def put (fr : Fr) : Option Nat → V → Fr
  | some d, v => fset fr d v
  | none, _ => fr

/-- The value of one operation: none (z) where its guard says no. -/
def stepV (call : CallE) (fr : Fr) (m : Mem) (i : I) : Option (V × Mem) :=
  match wanted fr i.gd with
  | some true => opE call fr m i.op
  | some false => some (.z, m)
  | none => none

def stepE (call : CallE) (fr : Fr) (m : Mem) (i : I) : Option (Fr × Mem) :=
  match stepV call fr m i with
  | some (v, m') => some (put fr i.d v, m')
  | none => none

def opsE (call : CallE) : List I → Fr → Mem → Option (Fr × Mem)
  | [], fr, m => some (fr, m)
  | i :: r, fr, m => match stepE call fr m i with
    | some (fr', m') => opsE call r fr' m'
    | none => none

/-- An operation carried out before gives the same once more. -/
def again (call : CallE) (fr : Fr) (m : Mem) (k : I) : Bool :=
  match stepV call fr m k, k.d with
  | some (v, m'), some d => v == fget fr d && m'.length == m.length
  | _, _ => false

/-- 0: looks at no memory; 1: reads memory alone; 2: acts. -/
def O.cls : O → Nat
  | .mov _ | .pick _ _ _ | .build _ _ | .nilc _ | .bin _ _ _ | .beq _ _ _ | .isn _ _ _ | .neg _ | .not _ | .cvt _ _ | .i2s _ | .sstr _ _ _ | .sarr _ _ _ _ _
  | .fadr _ _ | .fld _ _ _ _ | .ia _ _ _ | .iap _ _ _ _ | .ixs _ _ | .ixa _ _ _ _ _ | .ext _ _ | .len _ | .lens _ | .mn _ _ | .mx _ _ | .fnv _ _ => 0
  | .load _ _ _ | .b2s _ | .slc _ _ _ _ _ => 1
  | _ => 2

def dopsE (call : CallE) : List DI → Fr → Mem → Option (Fr × Mem)
  | [], fr, m => some (fr, m)
  | i :: r, fr, m => match stepE call fr m i.i with
    | some (fr', m') => if (i.i.op.cls = 2 ∨ m'.length = m.length) ∧ i.chk.all (again call fr' m') = true then dopsE call r fr' m' else none
    | none => none

inductive Ex where
  | nrm
  | exit (id : Nat)
  | ret
  deriving DecidableEq

def resU (fr : Fr) (m : Mem) : Rv → Option U
  | .t s => (fget fr s).toU
  | .c s g n => match (fget fr s).toA with
    | some (.ptr b o) => match rd m b o n with
      | some cs => if g then some (.g cs) else match cs with
        | [c] => some (.a c)
        | _ => none
      | none => none
    | _ => none

def resL (fr : Fr) (m : Mem) : List Rv → Option (List U)
  | [] => some []
  | r :: rs => match resU fr m r, resL fr m rs with
    | some u, some l => some (u :: l)
    | _, _ => none

def resE (fr : Fr) (m : Mem) (rs : List Rv) : Option V :=
  match resL fr m rs with
  | some [u] => some (.u u)
  | some l => some (.t l)
  | none => none

/-- What a function number stands for: code, or a function of the library taken by its contract. -/
inductive Def where
  | code (f : Fn)
  | prim (f : List V → Mem → Option (V × Mem))

abbrev Env := Nat → Option Def

mutual
def exec (G : Env) : Nat → IC → Fr → Mem → Option (Ex × Fr × Mem)
  | 0, _, _, _ => none
  | k + 1, c, fr, m =>
    match c with
    | .skip => some (.nrm, fr, m)
    | .ops l => match opsE (run G k) l fr m with
      | some (fr', m') => some (.nrm, fr', m')
      | none => none
    | .dops l => match dopsE (run G k) l fr m with
      | some (fr', m') => some (.nrm, fr', m')
      | none => none
    | .seq x y => match exec G k x fr m with
      | some (.nrm, fr', m') => exec G k y fr' m'
      | r => r
    | .cond c x y => match ev fr c with
      | .u (.a (.bool t)) => exec G k (if t then x else y) fr m
      | _ => none
    | .block id x => match exec G k x fr m with
      | some (.exit j, fr', m') => some (if j = id then .nrm else .exit j, fr', m')
      | r => r
    | .loop x => match exec G k x fr m with
      | some (.nrm, fr', m') => exec G k (.loop x) fr' m'
      | r => r
    | .exit id => some (.exit id, fr, m)
    | .ret => some (.ret, fr, m)
    | .bad => none
def run (G : Env) : Nat → Nat → List V → Mem → Option (V × Mem)
  | 0, _, _, _ => none
  | k + 1, f, args, m =>
    match G f with
    | none => none
    | some (.prim p) => p args m
    | some (.code fn) =>
      match exec G k fn.body args m with
      | some (.nrm, fr, m') | some (.ret, fr, m') => (resE fr m' fn.res).map fun v => (v, m')
      | _ => none
end

end Go.AL
/-
  What it means that a world of the model holds an abstract memory; how that is kept by the model's own steps.
-/
namespace Go.AL
set_option linter.unusedSimpArgs false
set_option linter.unusedVariables false
open Go.RowKit

structure Em where
  blk : Nat
  off : Nat
  tot : Nat
  ty : Nat
  deriving Inhabited

abbrev Emb := Nat → Em

def at_ (E : Emb) (b o : Nat) : Addr := ⟨(E b).blk, (E b).off + o, none⟩

def cA (σ : Nat → Nat) (E : Emb) : A → Value
  | .int k n => .int k n
  | .bool b => .bool b
  | .str s => .string ⟨s.toArray⟩
  | .ptr b o => .pointer (some (at_ E b o))
  | .nilp => .pointer none
  | .sl b o len c => .slice (some (at_ E b o)) len (match c with
    | .ex n => n
    | .rest s => ((E b).tot - o) / s)
  | .nils => .slice none 0 0
  | .zs a => .slice (some a) 0 0
  | .fn f caps => .func (.func (σ f)) #[] (caps.map fun p => Value.pointer (some (at_ E p.1 p.2))).toArray
  | .nilf => .nilFunc
  | .err b => .iface (E b).ty (.pointer (some (at_ E b 0)))
  | .nili => .nilIface

def cU (σ : Nat → Nat) (E : Emb) : U → Value
  | .a x => cA σ E x
  | .g cs => .agg (cs.map (cA σ E)).toArray

def cV (σ : Nat → Nat) (E : Emb) : V → Value
  | .u x => cU σ E x
  | .t vs => .tuple (vs.map (cU σ E)).toArray
  | .z => undef

def A.ok (n : Nat) : A → Prop
  | .ptr b _ | .sl b _ _ _ | .err b => b < n
  | .fn _ caps => ∀ p ∈ caps, p.1 < n
  | _ => True
def U.ok (n : Nat) : U → Prop
  | .a x => x.ok n
  | .g cs => ∀ x ∈ cs, x.ok n
def V.ok (n : Nat) : V → Prop
  | .u x => x.ok n
  | .t vs => ∀ x ∈ vs, x.ok n
  | .z => True

theorem A.ok.mono {n n' : Nat} {x : A} (h : x.ok n) (hn : n ≤ n') : x.ok n' := by
  cases x <;> simp only [A.ok] at * <;> first | trivial | (intro p hp; exact Nat.lt_of_lt_of_le (h p hp) hn) | omega
theorem U.ok.mono {n n' : Nat} {x : U} (h : x.ok n) (hn : n ≤ n') : x.ok n' := by
  cases x with
  | a x => exact A.ok.mono h hn
  | g cs => exact fun x hx => A.ok.mono (h x hx) hn
theorem V.ok.mono {n n' : Nat} {x : V} (h : x.ok n) (hn : n ≤ n') : x.ok n' := by
  cases x with
  | u x => exact U.ok.mono h hn
  | t vs => exact fun x hx => U.ok.mono (h x hx) hn
  | z => trivial

def Agree (n : Nat) (E E' : Emb) : Prop := ∀ i, i < n → E' i = E i
theorem Agree.refl (n : Nat) (E : Emb) : Agree n E E := fun _ _ => rfl
theorem Agree.trans {n n' : Nat} {E E' E'' : Emb} (h : Agree n E E') (h' : Agree n' E' E'') (hn : n ≤ n') : Agree n E E'' :=
  fun i hi => (h' i (Nat.lt_of_lt_of_le hi hn)).trans (h i hi)
theorem Agree.mono {n n' : Nat} {E E' : Emb} (h : Agree n' E E') (hn : n ≤ n') : Agree n E E' := fun i hi => h i (Nat.lt_of_lt_of_le hi hn)

theorem at_agree {n : Nat} {E E' : Emb} (h : Agree n E E') {b : Nat} (hb : b < n) (o : Nat) : at_ E' b o = at_ E b o := by
  unfold at_; rw [h b hb]

theorem cA_agree {σ : Nat → Nat} {n : Nat} {E E' : Emb} (h : Agree n E E') {x : A} (hx : x.ok n) : cA σ E' x = cA σ E x := by
  cases x with
  | ptr b o => simp only [cA, at_agree h (show b < n from hx)]
  | sl b o len c => simp only [cA, at_agree h (show b < n from hx), h b hx]
  | err b => simp only [cA, at_agree h (show b < n from hx), h b hx]
  | fn f caps =>
    simp only [cA]
    congr 2
    exact List.map_congr_left fun p hp => by rw [at_agree h (hx p hp)]
  | _ => rfl
theorem cU_agree {σ : Nat → Nat} {n : Nat} {E E' : Emb} (h : Agree n E E') {x : U} (hx : x.ok n) : cU σ E' x = cU σ E x := by
  cases x with
  | a x => exact cA_agree h hx
  | g cs => simp only [cU]; congr 2; exact List.map_congr_left fun x hx' => cA_agree h (hx x hx')
theorem cV_agree {σ : Nat → Nat} {n : Nat} {E E' : Emb} (h : Agree n E E') {x : V} (hx : x.ok n) : cV σ E' x = cV σ E x := by
  cases x with
  | u x => exact cU_agree h hx
  | t vs => simp only [cV]; congr 2; exact List.map_congr_left fun x hx' => cU_agree h (hx x hx')
  | z => rfl

theorem cU_cells (σ : Nat → Nat) (E : Emb) (x : U) : (cU σ E x).cells = (x.cells.map (cA σ E)).toArray := by
  cases x with
  | a x => cases x <;> rfl
  | g cs => rfl

theorem cA_oneCell (σ : Nat → Nat) (E : Emb) (x : A) : (cA σ E x).oneCell' = true := by cases x <;> rfl

theorem U.cells_ok {n : Nat} {x : U} (h : x.ok n) : ∀ y ∈ x.cells, A.ok n y := by
  cases x with
  | a x => intro y hy; simp [U.cells] at hy; subst hy; exact h
  | g cs => exact h

/-! ### Frames -/
theorem fget_nil (i : Nat) : fget [] i = .z := by cases i <;> rfl
theorem fget_set_same : ∀ (fr : Fr) (i : Nat) (v : V), fget (fset fr i v) i = v
  | [], 0, _ => rfl
  | [], n + 1, v => by simp only [fset, fget]; exact fget_set_same [] n v
  | _ :: _, 0, _ => rfl
  | _ :: r, n + 1, v => by simp only [fset, fget]; exact fget_set_same r n v
theorem fget_set_ne : ∀ (fr : Fr) (i j : Nat) (v : V), i ≠ j → fget (fset fr i v) j = fget fr j
  | [], 0, 0, _, h => absurd rfl h
  | [], 0, j + 1, v, _ => by simp only [fset, fget]
  | [], i + 1, 0, v, _ => rfl
  | [], i + 1, j + 1, v, h => by simp only [fset, fget]; rw [fget_set_ne [] i j v (by omega), fget_nil]
  | _ :: _, 0, 0, _, h => absurd rfl h
  | _ :: _, 0, j + 1, _, _ => rfl
  | _ :: _, i + 1, 0, _, _ => rfl
  | _ :: r, i + 1, j + 1, v, h => by simp only [fset, fget]; exact fget_set_ne r i j v (by omega)
theorem y52 (fr : Fr) (i j : Nat) (v : V) : fget (fset fr i v) j = if i = j then v else fget fr j := by
  split
  · subst i; exact fget_set_same fr j v
  · exact fget_set_ne fr i j v (by assumption)

structure FR (σ : Nat → Nat) (E : Emb) (n nt : Nat) (fr : Fr) (tmps : Array Value) : Prop where
  size : nt ≤ tmps.size
  val : ∀ i, tmps.getD i undef = cV σ E (fget fr i)
  ok : ∀ i, (fget fr i).ok n

theorem FR.put {σ : Nat → Nat} {E E' : Emb} {n n' nt : Nat} {fr : Fr} {tmps : Array Value} (h : FR σ E n nt fr tmps) (ha : Agree n E E') (hn : n ≤ n')
    {d : Nat} (hd : d < nt) {v : V} (hv : v.ok n') : FR σ E' n' nt (fset fr d v) (tmps.setIfInBounds d (cV σ E' v)) := by
  refine ⟨by simpa using h.size, fun i => ?_, fun i => ?_⟩
  · rw [y52]
    by_cases hdi : d = i
    · subst hdi; rw [if_pos rfl]; simp [Array.getD, Nat.lt_of_lt_of_le hd h.size]
    · rw [if_neg hdi, cV_agree ha (h.ok i), ← h.val i]
      simp [Array.getD_eq_getD_getElem?, Array.getElem?_setIfInBounds_ne hdi]
  · rw [y52]; split
    · exact hv
    · exact (h.ok i).mono hn

theorem FR.same {σ : Nat → Nat} {E E' : Emb} {n n' nt : Nat} {fr : Fr} {tmps : Array Value} (h : FR σ E n nt fr tmps) (ha : Agree n E E') (hn : n ≤ n') : FR σ E' n' nt fr tmps :=
  ⟨h.size, fun i => by rw [cV_agree ha (h.ok i), h.val i], fun i => (h.ok i).mono hn⟩

/-! ### Memory -/
def owned (m : Mem) (b : Nat) : Prop := match m[b]? with
  | some (.cells true _) | some (.iter _ _) => True
  | _ => False

structure Holds (σ : Nat → Nat) (B : Nat) (E : Emb) (w : World) (b : Nat) (W : Bool) (cs : List A) : Prop where
  mk ::
  there : ∃ arr elem fz, w.heap[(E b).blk]? = some (Obj.cells arr elem fz) ∧ (E b).off + (E b).tot ≤ arr.size ∧
    (∀ (j : Nat) (x : A), cs[j]? = some x → arr[(E b).off + j]? = some (cA σ E x)) ∧ (W = true → fz.2 ≤ fz.1 ∨ (E b).off + (E b).tot ≤ fz.1)
  le : cs.length ≤ (E b).tot
  mine : W = true → B ≤ (E b).blk
  old : W = false → cs = [] ∨ (E b).blk < B

structure Sim (σ : Nat → Nat) (B : Nat) (w0 : World) (E : Emb) (m : Mem) (w : World) : Prop where
  below : Below B w0 w
  base : B ≤ w0.heap.size
  blk : ∀ (b : Nat) (W : Bool) (cs : List A), m[b]? = some (Blk.cells W cs) → Holds σ B E w b W cs
  iter : ∀ (b : Nat) (s : List UInt8) (pos : Nat), m[b]? = some (Blk.iter s pos) → w.heap[(E b).blk]? = some (Obj.stringIter ⟨s.toArray⟩ pos) ∧ B ≤ (E b).blk ∧ (E b).off = 0
  inj : ∀ (b b' : Nat), b ≠ b' → owned m b → owned m b' → (E b).blk ≠ (E b').blk
  sc : ∀ (b : Nat) (W : Bool) (cs : List A), m[b]? = some (Blk.cells W cs) → ∀ x ∈ cs, A.ok m.length x

theorem Sim.size {σ B w0 E m w} (h : Sim σ B w0 E m w) : B ≤ w.heap.size := Nat.le_trans h.base h.below.size

theorem Sim.lt_of_some {m : Mem} {b : Nat} {x : Blk} (h : m[b]? = some x) : b < m.length := by
  rcases Nat.lt_or_ge b m.length with h' | h'
  · exact h'
  · simp [List.getElem?_eq_none h'] at h

theorem Sim.there {σ B w0 E m w} (h : Sim σ B w0 E m w) {b : Nat} {x : Blk} (hb : m[b]? = some x) (hx : x ≠ .dead) : (E b).blk < w.heap.size := by
  have key : ∀ o, w.heap[(E b).blk]? = some o → (E b).blk < w.heap.size := fun o ho => by
    rcases Nat.lt_or_ge (E b).blk w.heap.size with h' | h'
    · exact h'
    · simp [Array.getElem?_eq_none h'] at ho
  cases x with
  | cells W cs => obtain ⟨arr, elem, fz, h1, _⟩ := (h.blk b W cs hb).there; exact key _ h1
  | iter s pos => exact key _ (h.iter b s pos hb).1
  | dead => exact absurd rfl hx

/-- A draw. -/
theorem Sim.drew {σ B w0 E m w} (h : Sim σ B w0 E m w) : Sim σ B w0 E m { w with drawn := w.drawn + 1 } :=
  ⟨⟨h.below.os, h.below.tape, h.below.output, h.below.size, h.below.block⟩, h.base,
    fun b W cs hb => let ⟨a, b', c, d⟩ := h.blk b W cs hb; ⟨a, b', c, d⟩, h.iter, h.inj, h.sc⟩

def Emb.up (E : Emb) (n : Nat) (e : Em) : Emb := fun i => if i = n then e else E i
theorem Emb.up_same (E : Emb) (n : Nat) (e : Em) : E.up n e n = e := if_pos rfl
theorem Emb.up_ne (E : Emb) (n : Nat) (e : Em) {i : Nat} (h : i ≠ n) : E.up n e i = E i := if_neg h
theorem Emb.up_agree (E : Emb) (n : Nat) (e : Em) : Agree n E (E.up n e) := fun i hi => E.up_ne n e (by omega)

theorem get_push {m : Mem} {x : Blk} {b : Nat} {y : Blk} (h : (m ++ [x])[b]? = some y) : (b < m.length ∧ m[b]? = some y) ∨ (b = m.length ∧ y = x) := by
  rcases Nat.lt_trichotomy b m.length with hb | hb | hb
  · left; exact ⟨hb, by rwa [List.getElem?_append_left hb] at h⟩
  · right; subst hb; simp at h; exact ⟨rfl, h.symm⟩
  · rw [List.getElem?_append_right (by omega)] at h
    have : b - m.length ≠ 0 := by omega
    obtain ⟨k, hk⟩ : ∃ k, b - m.length = k + 1 := ⟨b - m.length - 1, by omega⟩
    rw [hk] at h; simp at h

theorem owned_push {m : Mem} {x : Blk} {b : Nat} (h : owned (m ++ [x]) b) : (b < m.length ∧ owned m b) ∨ b = m.length := by
  unfold owned at h ⊢
  cases hb : (m ++ [x])[b]? with
  | none => rw [hb] at h; exact h.elim
  | some y =>
    rcases get_push hb with ⟨h1, h2⟩ | ⟨h1, _⟩
    · left; rw [hb] at h; rw [h2]; exact ⟨h1, h⟩
    · exact .inr h1

theorem owned_some {m : Mem} {b : Nat} (h : owned m b) : ∃ x, m[b]? = some x ∧ x ≠ .dead := by
  unfold owned at h
  cases hb : m[b]? with
  | none => rw [hb] at h; exact h.elim
  | some y => exact ⟨y, rfl, fun e => by subst e; rw [hb] at h; exact h.elim⟩

theorem holds_heap {σ B E w w' b W cs} (h : Holds σ B E w b W cs) (hw : w'.heap[(E b).blk]? = w.heap[(E b).blk]?) : Holds σ B E w' b W cs := by
  obtain ⟨⟨arr, elem, fz, h1, h2⟩, h3, h4, h5⟩ := h
  exact ⟨⟨arr, elem, fz, by rw [hw]; exact h1, h2⟩, h3, h4, h5⟩

theorem holds_emb {σ B E E' w b W cs n} (h : Holds σ B E w b W cs) (ha : Agree n E E') (hb : b < n) (hsc : ∀ x ∈ cs, A.ok n x) : Holds σ B E' w b W cs := by
  obtain ⟨⟨arr, elem, fz, h1, h2, h3, h4⟩, h5, h6, h7⟩ := h
  have hE := ha b hb
  refine ⟨⟨arr, elem, fz, by rw [hE]; exact h1, by rw [hE]; exact h2, fun j x hx => ?_, by rw [hE]; exact h4⟩, by rw [hE]; exact h5, by rw [hE]; exact h6, by rw [hE]; exact h7⟩
  rw [hE, cA_agree ha (hsc x (List.mem_of_getElem? hx))]
  exact h3 j x hx

/-- A new block of cells. -/
theorem Sim.new {σ B w0 E m w} (h : Sim σ B w0 E m w) (arr : Array Value) (elem : TypeId) (cs : List A) (tot ty : Nat)
    (htot : tot ≤ arr.size) (hle : cs.length ≤ tot) (hcs : ∀ (j : Nat) (x : A), cs[j]? = some x → arr[j]? = some (cA σ E x)) (hok : ∀ x ∈ cs, A.ok m.length x) :
    Sim σ B w0 (E.up m.length ⟨w.heap.size, 0, tot, ty⟩) (m ++ [Blk.cells true cs]) (w.alloc (.cells arr elem)) := by
  have ha := E.up_agree m.length ⟨w.heap.size, 0, tot, ty⟩
  have hheap : ∀ k, k < w.heap.size → (w.alloc (.cells arr elem)).heap[k]? = w.heap[k]? := fun k hk => Below.heap_alloc _ _ _ hk
  have hnew : (w.alloc (.cells arr elem)).heap[w.heap.size]? = some (.cells arr elem (0, 0)) := by
    show (w.heap.push _)[w.heap.size]? = _
    simp
  refine ⟨h.below.alloc h.size _, h.base, fun b W cs' hb => ?_, fun b s pos hb => ?_, fun b b' hne hb hb' => ?_, fun b W cs' hb x hx => ?_⟩
  · rcases get_push hb with ⟨hlt, hb⟩ | ⟨rfl, hq⟩
    · have h1 := h.blk b W cs' hb
      refine holds_emb (n := m.length) (holds_heap h1 (hheap _ (h.there hb (by simp)))) ha hlt (h.sc b W cs' hb)
    · cases hq
      refine ⟨⟨arr, elem, (0, 0), by rw [Emb.up_same]; exact hnew, by rw [Emb.up_same]; simpa using htot, fun j x hx => ?_, fun _ => .inl (Nat.le_refl _)⟩,
        by rw [Emb.up_same]; exact hle, fun _ => by rw [Emb.up_same]; exact h.size, fun h => by cases h⟩
      rw [Emb.up_same, cA_agree ha (hok x (List.mem_of_getElem? hx))]
      simpa using hcs j x hx
  · rcases get_push hb with ⟨hlt, hb⟩ | ⟨_, hq⟩
    · obtain ⟨h1, h2, h3⟩ := h.iter b s pos hb
      rw [ha b hlt]
      exact ⟨by rw [hheap _ (h.there hb (by simp))]; exact h1, h2, h3⟩
    · cases hq
  · rcases owned_push hb with ⟨hlt, hb⟩ | rfl <;> rcases owned_push hb' with ⟨hlt', hb'⟩ | rfl
    · rw [ha b hlt, ha b' hlt']; exact h.inj b b' hne hb hb'
    · obtain ⟨x, hx, hd⟩ := owned_some hb
      rw [ha b hlt, Emb.up_same]; have := h.there hx hd; simp; omega
    · obtain ⟨x, hx, hd⟩ := owned_some hb'
      rw [ha b' hlt', Emb.up_same]; have := h.there hx hd; simp; omega
    · exact absurd rfl hne
  · rcases get_push hb with ⟨hlt, hb⟩ | ⟨_, hq⟩
    · exact (h.sc b W cs' hb x hx).mono (by simp)
    · cases hq
      exact (hok x hx).mono (by simp)

end Go.AL
/-
  Stores, and a block that is taken over: how an abstract memory is kept.
-/
namespace Go.AL
set_option linter.unusedSimpArgs false
set_option linter.unusedVariables false
open Go.RowKit

def spl (arr : Array Value) : Nat → List Value → Array Value
  | _, [] => arr
  | o, v :: r => spl (arr.setIfInBounds o v) (o + 1) r

theorem spl_size : ∀ (vs : List Value) (arr : Array Value) (o : Nat), (spl arr o vs).size = arr.size
  | [], _, _ => rfl
  | v :: r, arr, o => by simp only [spl]; rw [spl_size r]; simp

theorem spl_other : ∀ (vs : List Value) (arr : Array Value) (o j : Nat), j < o ∨ o + vs.length ≤ j → (spl arr o vs)[j]? = arr[j]?
  | [], _, _, _, _ => rfl
  | v :: r, arr, o, j, h => by
    simp only [spl]
    rw [spl_other r _ _ j (by simp at h; omega), Array.getElem?_setIfInBounds_ne (by simp at h; omega)]

theorem spl_here : ∀ (vs : List Value) (arr : Array Value) (o j : Nat) (v : Value), o + vs.length ≤ arr.size → vs[j]? = some v → (spl arr o vs)[o + j]? = some v
  | [], _, _, _, _, _, h => by simp at h
  | x :: r, arr, o, 0, v, hs, h => by
    simp only [spl]
    rw [spl_other r _ _ _ (by omega)]
    simp at h; subst h
    simp at hs
    simp [show o < arr.size by omega]
  | x :: r, arr, o, j + 1, v, hs, h => by
    simp only [spl]
    have := spl_here r (arr.setIfInBounds o x) (o + 1) j v (by simp at hs ⊢; omega) (by simpa using h)
    rwa [show o + (j + 1) = o + 1 + j by omega]

theorem splice_length : ∀ (xs cs : List A) (o : Nat), (splice cs o xs).length = cs.length
  | [], _, _ => rfl
  | x :: r, cs, o => by simp only [splice]; rw [splice_length r]; simp

theorem splice_mem : ∀ (xs cs : List A) (o : Nat) (y : A), y ∈ splice cs o xs → y ∈ cs ∨ y ∈ xs
  | [], _, _, _, h => .inl h
  | x :: r, cs, o, y, h => by
    simp only [splice] at h
    rcases splice_mem r _ _ y h with h | h
    · rcases List.mem_or_eq_of_mem_set h with h | h
      · exact .inl h
      · exact .inr (by simp [h])
    · exact .inr (by simp [h])

theorem splice_spl {σ : Nat → Nat} {E : Emb} (off : Nat) : ∀ (xs cs : List A) (arr : Array Value) (o : Nat), off + o + xs.length ≤ arr.size → o + xs.length ≤ cs.length →
    (∀ (j : Nat) (x : A), cs[j]? = some x → arr[off + j]? = some (cA σ E x)) →
    ∀ (j : Nat) (x : A), (splice cs o xs)[j]? = some x → (spl arr (off + o) (xs.map (cA σ E)))[off + j]? = some (cA σ E x)
  | [], _, _, _, _, _, h => h
  | y :: r, cs, arr, o, hs, hc, h => by
    simp only [splice, List.map_cons, spl]
    have := splice_spl (σ := σ) (E := E) off r (cs.set o y) (arr.setIfInBounds (off + o) (cA σ E y)) (o + 1) (by simp at hs ⊢; omega) (by simp at hc ⊢; omega) (fun j x hx => by
      by_cases hj : o = j
      · subst hj
        simp at hc hs
        rw [List.getElem?_set_self (by omega)] at hx
        cases hx
        simp [show off + o < arr.size by omega]
      · rw [List.getElem?_set_ne hj] at hx
        rw [Array.getElem?_setIfInBounds_ne (by omega)]
        exact h j x hx)
    rwa [show off + o + 1 = off + (o + 1) by omega]

def World.put (w : World) (blk : Nat) (o : Obj) : World := { w with heap := w.heap.setIfInBounds blk o }

theorem put_self (w : World) (blk : Nat) (o : Obj) (h : blk < w.heap.size) : (World.put w blk o).heap[blk]? = some o := by
  simp [World.put, h]
theorem put_other (w : World) (blk k : Nat) (o : Obj) (h : k ≠ blk) : (World.put w blk o).heap[k]? = w.heap[k]? := by
  simp only [World.put]; rw [Array.getElem?_setIfInBounds_ne (Ne.symm h)]

theorem lt_of_heap {w : World} {k : Nat} {o : Obj} (h : w.heap[k]? = some o) : k < w.heap.size := by
  rcases Nat.lt_or_ge k w.heap.size with h' | h'
  · exact h'
  · simp [Array.getElem?_eq_none h'] at h

theorem addr_add (b o n : Nat) : (⟨b, o, none⟩ : Addr).add n = ⟨b, o + n, none⟩ := by
  unfold Addr.add; split
  · subst n; rfl
  · rfl

theorem run_store_at {P : Program} {w : World} {b o : Nat} {v : Value} {arr : Array Value} {elem : TypeId} {fz : Nat × Nat}
    (hb : w.heap[b]? = some (Obj.cells arr elem fz)) (ho : o < arr.size) (hf : fz.2 ≤ fz.1 ∨ o < fz.1) (hv : v.oneCell' = true) :
    (store ⟨b, o, none⟩ v).run P w = .ok () (World.put w b (.cells (arr.setIfInBounds o v) elem fz)) := by
  have hc : w.cell? ⟨b, o, none⟩ = some arr[o] := by simp [World.cell?, hb, ho]
  have hfz : w.frozen? ⟨b, o, none⟩ = false := by
    obtain ⟨lo, hi⟩ := fz
    simp only [World.frozen?, hb]
    simp only [Bool.and_eq_false_iff, decide_eq_false_iff_not, Nat.not_le, Nat.not_lt]
    simp at hf
    omega
  rw [run_store P w _ v _ hv]
  simp only [hc, hfz]
  simp only [Bool.false_eq_true, if_false, Result.ok.injEq, true_and]
  unfold World.setCell World.put
  congr 1
  apply Array.ext_getElem?
  intro k
  by_cases hk : k = b
  · subst hk
    rw [Array.getElem?_modify, if_pos rfl, hb, Array.getElem?_setIfInBounds_self_of_lt (lt_of_heap hb)]
    rfl
  · rw [Array.getElem?_modify, if_neg (by exact fun h => hk h.symm), Array.getElem?_setIfInBounds_ne (fun h => hk h.symm)]

theorem put_put (w : World) (b : Nat) (o o' : Obj) : World.put (World.put w b o) b o' = World.put w b o' := by
  unfold World.put; simp

theorem put_id {w : World} {b : Nat} {o : Obj} (h : w.heap[b]? = some o) : World.put w b o = w := by
  unfold World.put
  have : w.heap.setIfInBounds b o = w.heap := by
    apply Array.ext_getElem?
    intro k
    by_cases hk : b = k
    · subst hk; rw [Array.getElem?_setIfInBounds_self_of_lt (lt_of_heap h), h]
    · rw [Array.getElem?_setIfInBounds_ne hk]
  rw [this]

theorem run_storeCells_put {P : Program} (b o : Nat) (elem : TypeId) (fz : Nat × Nat) : ∀ (vs : List Value) (i : Nat) (w : World) (arr : Array Value),
    w.heap[b]? = some (Obj.cells arr elem fz) → o + i + vs.length ≤ arr.size → (fz.2 ≤ fz.1 ∨ o + i + vs.length ≤ fz.1) → (∀ v ∈ vs, v.oneCell' = true) →
    (storeCells ⟨b, o, none⟩ vs i).run P w = .ok () (World.put w b (.cells (spl arr (o + i) vs) elem fz))
  | [], i, w, arr, hb, _, _, _ => by
    simp only [storeCells, Sem.run_pure, spl]
    rw [put_id hb]
  | v :: r, i, w, arr, hb, hs, hf, h1 => by
    simp at hs hf
    simp only [storeCells, Sem.run_bind, addr_add]
    rw [run_store_at hb (by omega) (by omega) (h1 v (by simp))]
    simp only [Result.andThen_ok]
    rw [run_storeCells_put b o elem fz r (i + 1) _ (arr.setIfInBounds (o + i) v) (put_self _ _ _ (lt_of_heap hb)) (by simp; omega) (by omega) (fun v hv => h1 v (by simp [hv])), put_put]
    simp only [spl]
    rw [show o + (i + 1) = o + i + 1 by omega]

/-- One block's cells are others now. -/
theorem Sim.rewrite {σ B w0 E m w} (h : Sim σ B w0 E m w) {blk : Nat} {arr arr' : Array Value} {elem : TypeId} {fz : Nat × Nat}
    (hb : w.heap[blk]? = some (Obj.cells arr elem fz)) (hB : B ≤ blk) (hs : arr'.size = arr.size) {m' : Mem} (hlen : m'.length = m.length)
    (hm : ∀ (b : Nat) (x : Blk), m'[b]? = some x → (m[b]? = some x ∧ (owned m b → (E b).blk ≠ blk)) ∨
      (∃ cs cs', m[b]? = some (Blk.cells true cs) ∧ x = Blk.cells true cs' ∧ (E b).blk = blk ∧ cs'.length = cs.length ∧
        (∀ (j : Nat) (x : A), cs'[j]? = some x → arr'[(E b).off + j]? = some (cA σ E x)) ∧ ∀ x ∈ cs', A.ok m.length x) ∨ x = .dead) :
    Sim σ B w0 E m' (World.put w blk (.cells arr' elem fz)) := by
  have hsz : blk < w.heap.size := lt_of_heap hb
  have hown : ∀ b, owned m' b → owned m b := fun b ho => by
    obtain ⟨x, hx, hd⟩ := owned_some ho
    rcases hm b x hx with ⟨h1, _⟩ | ⟨cs, cs', h1, _⟩ | h1
    · unfold owned at ho ⊢; rw [hx] at ho; rw [h1]; exact ho
    · unfold owned; rw [h1]; trivial
    · exact absurd h1 hd
  refine ⟨h.below.trans ⟨rfl, rfl, rfl, by simp [World.put], fun k hk => put_other _ _ _ _ (by omega)⟩, h.base, fun b W cs hbb => ?_, fun b s pos hbb => ?_,
    fun b b' hne ho ho' => h.inj b b' hne (hown b ho) (hown b' ho'), fun b W cs hbb x hx => ?_⟩
  · rcases hm b _ hbb with ⟨h1, h2⟩ | ⟨cs0, cs', h1, h2, h3, h4, h5, h6⟩ | h1
    · have hh := h.blk b W cs h1
      by_cases hk : (E b).blk = blk
      · cases W with
        | true => exact absurd hk (h2 (by unfold owned; rw [h1]; trivial))
        | false =>
          obtain ⟨⟨a0, e0, z0, g1, g2, g3, g4⟩, g5, g6, g7⟩ := hh
          rcases g7 rfl with rfl | hlt
          · rw [hk] at g1
            rw [hb] at g1
            cases g1
            exact ⟨⟨arr', elem, fz, by rw [hk]; exact put_self _ _ _ hsz, by rw [hs]; exact g2, fun j x hx => by simp at hx, fun h => by cases h⟩, g5, fun h => (by cases h), fun _ => .inl rfl⟩
          · omega
      · exact holds_heap hh (put_other _ _ _ _ hk)
    · cases h2
      obtain ⟨⟨a0, e0, z0, g1, g2, g3, g4⟩, g5, g6, g7⟩ := h.blk b true cs0 h1
      rw [h3, hb] at g1
      cases g1
      exact ⟨⟨arr', elem, fz, by rw [h3]; exact put_self _ _ _ hsz, by rw [hs]; exact g2, h5, g4⟩, by rw [h4]; exact g5, g6, fun h => (by cases h)⟩
    · cases h1
  · rcases hm b _ hbb with ⟨h1, h2⟩ | ⟨cs0, cs', h1, h2, _⟩ | h1
    · obtain ⟨g1, g2, g3⟩ := h.iter b s pos h1
      exact ⟨by rw [put_other _ _ _ _ (h2 (by unfold owned; rw [h1]; trivial))]; exact g1, g2, g3⟩
    · cases h2
    · cases h1
  · rw [hlen]
    rcases hm b _ hbb with ⟨h1, h2⟩ | ⟨cs0, cs', h1, h2, _, _, _, h6⟩ | h1
    · exact h.sc b W cs h1 x hx
    · cases h2; exact h6 x hx
    · cases h1

theorem get_set {m : Mem} {b i : Nat} {x y : Blk} (h : (m.set b x)[i]? = some y) : (i = b ∧ y = x) ∨ (i ≠ b ∧ m[i]? = some y) := by
  by_cases hi : i = b
  · subst hi
    left
    refine ⟨rfl, ?_⟩
    rcases Nat.lt_or_ge i m.length with hl | hl
    · rw [List.getElem?_set_self hl] at h; cases h; rfl
    · rw [List.getElem?_eq_none (by simpa using hl)] at h; cases h
  · right
    exact ⟨hi, by rwa [List.getElem?_set_ne (fun e => hi e.symm)] at h⟩

/-- Cells of one block written: what 'wr' says. -/
theorem Sim.wr {σ B w0 E m w P} (h : Sim σ B w0 E m w) {b o : Nat} {xs : List A} {m' : Mem} (hw : wr m b o xs = some m') (hx : ∀ x ∈ xs, A.ok m.length x) :
    ∃ w', (storeCells (at_ E b o) (xs.map (cA σ E))).run P w = .ok () w' ∧ Sim σ B w0 E m' w' ∧ m'.length = m.length := by
  unfold AL.wr at hw
  split at hw
  case h_2 => cases hw
  rename_i cs hb
  split at hw
  case isFalse => cases hw
  rename_i hle
  cases hw
  have hh := h.blk b true cs hb
  obtain ⟨⟨arr, elem, fz, g1, g2, g3, g4⟩, g5, g6, g7⟩ := hh
  have g4 := g4 rfl
  refine ⟨_, run_storeCells_put (E b).blk ((E b).off + o) elem fz (xs.map (cA σ E)) 0 w arr g1 (by simp; omega) (by simp; omega) (fun v hv => by
    obtain ⟨x, _, rfl⟩ := List.mem_map.1 hv; exact cA_oneCell σ E x), ?_, by simp⟩
  refine h.rewrite g1 (g6 rfl) (spl_size _ _ _) (by simp) (fun b' x hb' => ?_)
  rcases get_set hb' with ⟨rfl, rfl⟩ | ⟨hne, hb'⟩
  · refine .inr (.inl ⟨cs, _, hb, rfl, rfl, splice_length _ _ _, ?_, fun x hx' => ?_⟩)
    · exact splice_spl (E b').off xs cs arr o (by omega) hle g3
    · rcases splice_mem _ _ _ _ hx' with h1 | h1
      · exact h.sc b' true cs hb x h1
      · exact hx x h1
  · exact .inl ⟨hb', fun ho => h.inj b' b hne ho (by unfold owned; rw [hb]; trivial)⟩

/-- A block of the run's own that nobody owns is taken over. -/
theorem Sim.adopt {σ B w0 E m w} (h : Sim σ B w0 E m w) {blk off tot ty : Nat} {arr : Array Value} {elem : TypeId} {fz : Nat × Nat} {cs : List A}
    (hb : w.heap[blk]? = some (Obj.cells arr elem fz)) (hB : B ≤ blk) (htot : off + tot ≤ arr.size) (hle : cs.length ≤ tot)
    (hcs : ∀ (j : Nat) (x : A), cs[j]? = some x → arr[off + j]? = some (cA σ E x)) (hfz : fz.2 ≤ fz.1 ∨ off + tot ≤ fz.1) (hok : ∀ x ∈ cs, A.ok m.length x)
    (hown : ∀ b, owned m b → (E b).blk ≠ blk) : Sim σ B w0 (E.up m.length ⟨blk, off, tot, ty⟩) (m ++ [Blk.cells true cs]) w := by
  have ha := E.up_agree m.length ⟨blk, off, tot, ty⟩
  refine ⟨h.below, h.base, fun b W cs' hb' => ?_, fun b s pos hb' => ?_, fun b b' hne ho ho' => ?_, fun b W cs' hb' x hx => ?_⟩
  · rcases get_push hb' with ⟨hlt, hb'⟩ | ⟨rfl, hq⟩
    · exact holds_emb (n := m.length) (h.blk b W cs' hb') ha hlt (h.sc b W cs' hb')
    · cases hq
      refine ⟨⟨arr, elem, fz, by rw [Emb.up_same]; exact hb, by rw [Emb.up_same]; exact htot, fun j x hx => ?_, fun _ => by rw [Emb.up_same]; exact hfz⟩,
        by rw [Emb.up_same]; exact hle, fun _ => by rw [Emb.up_same]; exact hB, fun h => by cases h⟩
      rw [Emb.up_same, cA_agree ha (hok x (List.mem_of_getElem? hx))]
      exact hcs j x hx
  · rcases get_push hb' with ⟨hlt, hb'⟩ | ⟨_, hq⟩
    · rw [ha b hlt]; exact h.iter b s pos hb'
    · cases hq
  · rcases owned_push ho with ⟨hlt, ho⟩ | rfl <;> rcases owned_push ho' with ⟨hlt', ho'⟩ | rfl
    · rw [ha b hlt, ha b' hlt']; exact h.inj b b' hne ho ho'
    · rw [ha b hlt, Emb.up_same]; exact hown b ho
    · rw [ha b' hlt', Emb.up_same]; exact (hown b' ho').symm
    · exact absurd rfl hne
  · rcases get_push hb' with ⟨hlt, hb'⟩ | ⟨_, hq⟩
    · exact (h.sc b W cs' hb' x hx).mono (by simp)
    · cases hq; exact (hok x hx).mono (by simp)

/-- More blocks behind, nothing else. -/
theorem Sim.ext {σ B w0 E m w w'} (h : Sim σ B w0 E m w) (ho : w'.os = w.os) (ht : w'.tape = w.tape) (hp : w'.output = w.output) (hs : w.heap.size ≤ w'.heap.size)
    (hh : ∀ k, k < w.heap.size → w'.heap[k]? = w.heap[k]?) : Sim σ B w0 E m w' :=
  ⟨h.below.trans ⟨ho, ht, hp, hs, fun k hk => hh k (Nat.lt_of_lt_of_le hk h.size)⟩, h.base,
    fun b W cs hb => holds_heap (h.blk b W cs hb) (hh _ (h.there hb (by simp))),
    fun b s pos hb => let ⟨g1, g2, g3⟩ := h.iter b s pos hb; ⟨by rw [hh _ (h.there hb (by simp))]; exact g1, g2, g3⟩, h.inj, h.sc⟩

theorem Sim.own_lt {σ B w0 E m w} (h : Sim σ B w0 E m w) {b : Nat} (hb : owned m b) : (E b).blk < w.heap.size := by
  obtain ⟨x, hx, hd⟩ := owned_some hb
  exact h.there hx hd

/-- A block is given up. -/
theorem Sim.dead {σ B w0 E m w} (h : Sim σ B w0 E m w) (b : Nat) : Sim σ B w0 E (m.set b Blk.dead) w := by
  have hget : ∀ (i : Nat) (y : Blk), (m.set b Blk.dead)[i]? = some y → y ≠ .dead → m[i]? = some y := fun i y hy hd => by
    rcases get_set hy with ⟨_, rfl⟩ | ⟨_, h1⟩
    · exact absurd rfl hd
    · exact h1
  have hown : ∀ i, owned (m.set b Blk.dead) i → owned m i := fun i ho => by
    obtain ⟨x, hx, hd⟩ := owned_some ho
    unfold owned at ho ⊢; rw [hx] at ho; rw [hget i x hx hd]; exact ho
  refine ⟨h.below, h.base, fun i W cs hi => h.blk i W cs (hget i _ hi (by simp)), fun i s pos hi => h.iter i s pos (hget i _ hi (by simp)),
    fun i j hne ho ho' => h.inj i j hne (hown i ho) (hown j ho'), fun i W cs hi x hx => ?_⟩
  rw [List.length_set]
  exact h.sc i W cs (hget i _ hi (by simp)) x hx

/-- An empty piece of a block that is there: no cell of it is known, none may be written. -/
theorem Sim.view {σ B w0 E m w} (h : Sim σ B w0 E m w) {blk off tot ty : Nat} {arr : Array Value} {elem : TypeId} {fz : Nat × Nat}
    (hb : w.heap[blk]? = some (Obj.cells arr elem fz)) (htot : off + tot ≤ arr.size) : Sim σ B w0 (E.up m.length ⟨blk, off, tot, ty⟩) (m ++ [Blk.cells false []]) w := by
  have ha := E.up_agree m.length ⟨blk, off, tot, ty⟩
  have hno : ¬ owned (m ++ [Blk.cells false []]) m.length := by unfold owned; simp
  refine ⟨h.below, h.base, fun b W cs' hb' => ?_, fun b s pos hb' => ?_, fun b b' hne ho ho' => ?_, fun b W cs' hb' x hx => ?_⟩
  · rcases get_push hb' with ⟨hlt, hb'⟩ | ⟨rfl, hq⟩
    · exact holds_emb (n := m.length) (h.blk b W cs' hb') ha hlt (h.sc b W cs' hb')
    · cases hq
      exact ⟨⟨arr, elem, fz, by rw [Emb.up_same]; exact hb, by rw [Emb.up_same]; exact htot, fun j x hx => by simp at hx, fun h => by cases h⟩, by simp, fun h => (by cases h), fun _ => .inl rfl⟩
  · rcases get_push hb' with ⟨hlt, hb'⟩ | ⟨_, hq⟩
    · rw [ha b hlt]; exact h.iter b s pos hb'
    · cases hq
  · rcases owned_push ho with ⟨hlt, h1⟩ | rfl
    · rcases owned_push ho' with ⟨hlt', h2⟩ | rfl
      · rw [ha b hlt, ha b' hlt']; exact h.inj b b' hne h1 h2
      · exact absurd ho' hno
    · exact absurd ho hno
  · rcases get_push hb' with ⟨hlt, hb'⟩ | ⟨_, hq⟩
    · exact (h.sc b W cs' hb' x hx).mono (by simp)
    · cases hq; simp at hx

/-- A string's iterator: made, moved on. -/
theorem Sim.newIter {σ B w0 E m w} (h : Sim σ B w0 E m w) (s : List UInt8) :
    Sim σ B w0 (E.up m.length ⟨w.heap.size, 0, 0, 0⟩) (m ++ [Blk.iter s 0]) (w.alloc (.stringIter ⟨s.toArray⟩ 0)) := by
  have ha := E.up_agree m.length ⟨w.heap.size, 0, 0, 0⟩
  have hheap : ∀ k, k < w.heap.size → (w.alloc (.stringIter ⟨s.toArray⟩ 0)).heap[k]? = w.heap[k]? := fun k hk => Below.heap_alloc _ _ _ hk
  refine ⟨h.below.alloc h.size _, h.base, fun b W cs' hb => ?_, fun b s' pos hb => ?_, fun b b' hne hb hb' => ?_, fun b W cs' hb x hx => ?_⟩
  · rcases get_push hb with ⟨hlt, hb⟩ | ⟨_, hq⟩
    · exact holds_emb (n := m.length) (holds_heap (h.blk b W cs' hb) (hheap _ (h.there hb (by simp)))) ha hlt (h.sc b W cs' hb)
    · cases hq
  · rcases get_push hb with ⟨hlt, hb⟩ | ⟨rfl, hq⟩
    · obtain ⟨h1, h2, h3⟩ := h.iter b s' pos hb
      rw [ha b hlt]
      exact ⟨by rw [hheap _ (h.there hb (by simp))]; exact h1, h2, h3⟩
    · cases hq
      rw [Emb.up_same]
      exact ⟨by show (w.heap.push _)[w.heap.size]? = _; simp, h.size, rfl⟩
  · rcases owned_push hb with ⟨hlt, hb⟩ | rfl <;> rcases owned_push hb' with ⟨hlt', hb'⟩ | rfl
    · rw [ha b hlt, ha b' hlt']; exact h.inj b b' hne hb hb'
    · obtain ⟨x, hx, hd⟩ := owned_some hb
      rw [ha b hlt, Emb.up_same]; have := h.there hx hd; simp; omega
    · obtain ⟨x, hx, hd⟩ := owned_some hb'
      rw [ha b' hlt', Emb.up_same]; have := h.there hx hd; simp; omega
    · exact absurd rfl hne
  · rcases get_push hb with ⟨hlt, hb⟩ | ⟨_, hq⟩
    · exact (h.sc b W cs' hb x hx).mono (by simp)
    · cases hq

theorem Sim.moveIter {σ B w0 E m w} (h : Sim σ B w0 E m w) {b : Nat} {s : List UInt8} {pos : Nat} (hb : m[b]? = some (Blk.iter s pos)) (pos' : Nat) :
    Sim σ B w0 E (m.set b (Blk.iter s pos')) (World.put w (E b).blk (.stringIter ⟨s.toArray⟩ pos')) := by
  obtain ⟨g1, g2, g3⟩ := h.iter b s pos hb
  have hob : owned m b := by unfold owned; rw [hb]; trivial
  have hown : ∀ i, owned (m.set b (Blk.iter s pos')) i → owned m i := fun i ho => by
    by_cases hi : i = b
    · subst hi; exact hob
    · unfold owned at ho ⊢; rwa [List.getElem?_set_ne (fun e => hi e.symm)] at ho
  refine ⟨h.below.trans ⟨rfl, rfl, rfl, by simp [World.put], fun k hk => put_other _ _ _ _ (by omega)⟩, h.base, fun i W cs hi => ?_, fun i s' p' hi => ?_,
    fun i j hne ho ho' => h.inj i j hne (hown i ho) (hown j ho'), fun i W cs hi x hx => ?_⟩
  · rcases get_set hi with ⟨_, hq⟩ | ⟨hne, hi⟩
    · cases hq
    · have hh := h.blk i W cs hi
      refine holds_heap hh (put_other _ _ _ _ ?_)
      cases W with
      | true => exact h.inj i b hne (by unfold owned; rw [hi]; trivial) hob
      | false =>
        obtain ⟨⟨a0, e0, z0, k1, _⟩, _⟩ := hh
        intro e
        rw [e, g1] at k1
        cases k1
  · rcases get_set hi with ⟨rfl, hq⟩ | ⟨hne, hi⟩
    · cases hq
      exact ⟨put_self _ _ _ (lt_of_heap g1), g2, g3⟩
    · obtain ⟨k1, k2, k3⟩ := h.iter i s' p' hi
      exact ⟨by rw [put_other _ _ _ _ (h.inj i b hne (by unfold owned; rw [hi]; trivial) hob)]; exact k1, k2, k3⟩
  · rw [List.length_set]
    rcases get_set hi with ⟨_, hq⟩ | ⟨hne, hi⟩
    · cases hq
    · exact h.sc i W cs hi x hx

/-- Cells read: what 'rd' says. -/
theorem Sim.rd {σ B w0 E m w P} (h : Sim σ B w0 E m w) {b o n : Nat} {cs : List A} (hr : rd m b o n = some cs) :
    (loadCells (at_ E b o) n).run P w = .ok (cs.map (cA σ E)).toArray w ∧ cs.length = n ∧ ∀ x ∈ cs, A.ok m.length x := by
  unfold AL.rd at hr
  split at hr
  case h_2 => cases hr
  rename_i W cs0 hb
  split at hr
  case isFalse => cases hr
  rename_i hle
  cases hr
  have hlen : ((cs0.drop o).take n).length = n := by simp; omega
  obtain ⟨⟨arr, elem, fz, g1, g2, g3, g4⟩, g5, g6, g7⟩ := h.blk b W cs0 hb
  refine ⟨?_, hlen, fun x hx => h.sc b W cs0 hb x (List.mem_of_mem_drop (List.mem_of_mem_take hx))⟩
  have := run_loadCells_list (P := P) w (at_ E b o) (((cs0.drop o).take n).map (cA σ E)) (fun j v hv => by
    rw [List.getElem?_map] at hv
    obtain ⟨x, hx, rfl⟩ := Option.map_eq_some_iff.1 hv
    rw [List.getElem?_take] at hx
    split at hx
    case isFalse => cases hx
    rw [List.getElem?_drop] at hx
    have := g3 (o + j) x hx
    unfold at_
    rw [addr_add]
    simp only [World.cell?, g1]
    simpa [Nat.add_assoc] using this)
  rwa [List.length_map, hlen] at this

theorem Sim.rd_one {σ B w0 E m w} (h : Sim σ B w0 E m w) {b o : Nat} {c : A} (hr : AL.rd m b o 1 = some [c]) : w.cell? (at_ E b o) = some (cA σ E c) ∧ A.ok m.length c := by
  unfold AL.rd at hr
  split at hr
  case h_2 => cases hr
  rename_i W cs0 hb
  split at hr
  case isFalse => cases hr
  rename_i hle
  obtain ⟨⟨arr, elem, fz, g1, g2, g3, g4⟩, g5, g6, g7⟩ := h.blk b W cs0 hb
  have h0 : cs0[o]? = some c := by
    have := congrArg (fun l => l[0]?) (Option.some.inj hr)
    simpa using this
  refine ⟨?_, h.sc b W cs0 hb c (List.mem_of_getElem? h0)⟩
  unfold at_
  simp only [World.cell?, g1]
  simpa using g3 o c h0

end Go.AL
/-
  From the model's own code to the interpreter's: what Lean checks, function by function, by evaluation.
-/
namespace Go.AL
set_option linter.unusedSimpArgs false
set_option linter.unusedVariables false

def szT (P : Program) (t : TypeId) : Option Nat := (P.info? t).map (·.size)
def bytesT (P : Program) (t : TypeId) : Option Nat := (P.info? t).map (·.bytes)
def aggT (P : Program) (t : TypeId) : Option Bool :=
  match P.underlying t with
  | some (.struct _) | some (.array _ _) => some true
  | some _ => some false
  | none => none

def cAtom : Value → Option A
  | .int k n => some (.int k n)
  | .bool b => some (.bool b)
  | .string s => some (.str s.data.toList)
  | .pointer none => some .nilp
  | .slice none 0 0 => some .nils
  | .nilFunc => some .nilf
  | .nilIface => some .nili
  | _ => none

def cAtoms : List Value → Option (List A)
  | [] => some []
  | v :: r =>
    match cAtom v, cAtoms r with
    | some x, some l => some (x :: l)
    | _, _ => none

def cConst : Value → Option V
  | .agg cs => (cAtoms cs.toList).map .g
  | v => (cAtom v).map .a

def zeroT (P : Program) (t : TypeId) : Option (List A) :=
  match P.info? t with
  | some i => match i.zero with
    | some v => cAtoms v.cells.toList
    | none => none
  | none => none

def cX (ρ : Nat → Option Nat) : Operand → Option X
  | .tmp t => some (.s t)
  | .const v => (cConst v).map .k
  | .func f => (ρ f).map fun g => .k (.a (.fn g []))
  | .global _ => none

def cXs (ρ : Nat → Option Nat) : List Operand → Option (List X)
  | [] => some []
  | x :: r =>
    match cX ρ x, cXs ρ r with
    | some y, some l => some (y :: l)
    | _, _ => none

def cXo (ρ : Nat → Option Nat) : Option Operand → Option (Option X)
  | none => some none
  | some x => (cX ρ x).map some

def cParts (ρ : Nat → Option Nat) (place : Nat → Option (Nat × Nat)) : List (Nat × Operand) → Option (List (Nat × Nat × X))
  | [] => some []
  | (i, x) :: r =>
    match place i, cX ρ x, cParts ρ place r with
    | some (off, n), some y, some l => some ((off, n, y) :: l)
    | _, _, _ => none

def intBin : BinOp → Bool
  | .add | .sub | .mul | .quo | .rem | .eql | .neq | .lss | .leq | .gtr | .geq => true
  | _ => false

def nilC : Bool → Operand → Bool
  | true, .const .nilIface => true
  | false, .const (.slice none 0 0) => true
  | _, _ => false

/-- A struct all of whose fields are numbers, bools, strings. -/
def flatT (P : Program) (t : TypeId) : Bool :=
  match P.underlying t with
  | some (.struct fs) => !P.stoodInHeld t && fs.toList.all (fun f => f.name != "_" && (match P.underlying f.type with
      | some (.int _) | some .bool | some .string => true
      | _ => false)) && fs.toList.zipIdx.all (fun (f, i) => f.offset == i) && !P.eqGuardType P.depth t
  | _ => false

def cBuiltin (ρ : Nat → Option Nat) (P : Program) (b : Builtin) (args : List Operand) (ts : List TypeId) : Option O :=
  match b, args, ts with
  | .append, [x, y], [t, u] =>
    match P.underlying t, P.underlying u with
    | some (.slice e), some d =>
      match d with
      | .int _ => none
      | _ =>
        match szT P e, bytesT P e, zeroT P e, cX ρ x, cX ρ y with
        | some s, some b, some z, some x, some y => if s = 0 ∨ z.length ≠ s then none else some (.app s b x y)
        | _, _, _, _, _ => none
    | _, _ => none
  | .len, [x], [t] =>
    match P.underlying t with
    | some .string => (cX ρ x).map .lens
    | some (.slice _) => (cX ρ x).map .len
    | some (.array n _) => some (.mov (.k (.i n)))
    | some (.pointer a) => match P.underlying a with
      | some (.array n _) => some (.mov (.k (.i n)))
      | _ => none
    | _ => none
  | .min, [x, y], _ => match cX ρ x, cX ρ y with
    | some x, some y => some (.mn x y)
    | _, _ => none
  | .max, [x, y], _ => match cX ρ x, cX ρ y with
    | some x, some y => some (.mx x y)
    | _, _ => none
  | .copy, [x, y], t :: _ =>
    match P.underlying t with
    | some (.slice e) => match szT P e, cX ρ x, cX ρ y with
      | some s, some x, some y => some (.cpy s x y)
      | _, _, _ => none
    | _ => none
  | .clear, [x], [t] =>
    match P.underlying t with
    | some (.slice e) => match szT P e, zeroT P e, cX ρ x with
      | some s, some z, some x => if s = 0 ∨ z.length ≠ s then none else some (.clr z x)
      | _, _, _ => none
    | _ => none
  | _, _, _ => none

def cOp (ρ : Nat → Option Nat) (P : Program) (op : Op) : Option O :=
  match op with
  | .move x | .assign x => (cX ρ x).map .mov
  | .pick c a b => match cX ρ c, cX ρ a, cX ρ b with
    | some c, some a, some b => some (.pick c a b)
    | _, _, _ => none
  | .alloc t => (zeroT P t).map .alloc
  | .box _ x => (cX ρ x).map .box
  | .build t ps =>
    match zeroT P t, P.underlying t with
    | some z, some (.struct fs) =>
      if fs.toList.all (fun f => (szT P f.type).isSome) then
        (cParts ρ (fun i => (fs[i]?).bind fun f => (szT P f.type).map fun n => (f.offset, n)) ps.toList).map (.build z)
      else none
    | some z, some (.array _ e) => match szT P e with
      | some s => (cParts ρ (fun i => some (i * s, s)) ps.toList).map (.build z)
      | none => none
    | _, _ => none
  | .buildSlice t len ps =>
    match P.underlying t with
    | some (.slice e) => match szT P e, zeroT P e with
      | some s, some z => if s = 0 ∨ z.length ≠ s ∨ len * s > 2 ^ 24 then none else
        (cParts ρ (fun i => some (i * s, s)) ps.toList).map (.lit z len)
      | _, _ => none
    | _ => none
  | .load t a => match aggT P t, szT P t, cX ρ a with
    | some true, some n, some a => some (.load true n a)
    | some false, some _, some a => some (.load false 1 a)
    | _, _, _ => none
  | .store t a x => match szT P t, cX ρ a, cX ρ x with
    | some n, some a, some x => some (.store n a x)
    | _, _, _ => none
  | .nilCheck x => (cX ρ x).map .nilc
  | .binOp op t x y _ =>
    match P.underlying t, cX ρ x, cX ρ y with
    | some d, some x', some y' =>
      match d with
      | .int _ | .string => if intBin op then some (.bin op x' y') else none
      | .bool => match op with
        | .eql => some (.beq false x' y')
        | .neq => some (.beq true x' y')
        | _ => none
      | .interface _ => if nilC true y then (match op with
        | .eql => some (.isn true false x')
        | .neq => some (.isn true true x')
        | _ => none) else none
      | .slice _ => if nilC false y then (match op with
        | .eql => some (.isn false false x')
        | .neq => some (.isn false true x')
        | _ => none) else none
      | _ => none
    | _, _, _ => none
  | .unOp .neg _ x => (cX ρ x).map .neg
  | .unOp .not _ x => (cX ρ x).map .not
  | .convert src dst x =>
    match P.underlying src, P.underlying dst, cX ρ x with
    | some (.int _), some (.int k), some x => some (.cvt k x)
    | some .string, some (.slice e), some x => match P.underlying e with
      | some (.int .u8) => some (.s2b x)
      | _ => none
    | some (.slice e), some .string, some x => match P.underlying e with
      | some (.int .u8) => some (.b2s x)
      | _ => none
    | some (.int _), some .string, some x => some (.i2s x)
    | _, _, _ => none
  | .makeFunc (.func f) first caps =>
    if first.size = 0 then
      match ρ f, cXs ρ caps.toList with
      | some g, some xs => some (.fnv g xs)
      | _, _ => none
    else none
  | .makeSlice t l c =>
    match P.underlying t with
    | some (.slice e) => match szT P e, zeroT P e, bytesT P e, cX ρ l, cX ρ c with
      | some s, some z, some b, some l, some c => if s = 0 ∨ z.length ≠ s then none else some (.mk z b l c)
      | _, _, _, _, _ => none
    | _ => none
  | .slice t x lo hi mx =>
    match P.underlying t, cX ρ x, cXo ρ lo, cXo ρ hi, cXo ρ mx with
    | some .string, some x, some lo, some hi, some none => some (.sstr x lo hi)
    | some (.slice e), some x, some lo, some hi, some mx => match szT P e with
      | some s => if mx.isSome ∧ hi.isNone then none else some (.slc s x lo hi mx)
      | none => none
    | some (.array n e), some x, some lo, some hi, some none => match szT P e with
      | some s => some (.sarr n s x lo hi)
      | none => none
    | _, _, _, _, _ => none
  | .fieldAddr t x f =>
    match P.underlying t, cX ρ x with
    | some (.struct fs), some x => match fs[f]? with
      | some fd => match szT P fd.type with
        | some n => if n = 0 then none else some (.fadr fd.offset x)
        | none => none
      | none => none
    | _, _ => none
  | .field t x f =>
    match P.underlying t, cX ρ x with
    | some (.struct fs), some x => match fs[f]? with
      | some fd => match aggT P fd.type, szT P fd.type with
        | some g, some n => some (.fld g fd.offset n x)
        | _, _ => none
      | none => none
    | _, _ => none
  | .indexAddr t x i =>
    match P.underlying t, cX ρ x, cX ρ i with
    | some (.slice e), some x, some i => (szT P e).map fun s => .ia s x i
    | some (.array n e), some x, some i => (szT P e).map fun s => .iap n s x i
    | _, _, _ => none
  | .index t x i =>
    match P.underlying t, cX ρ x, cX ρ i with
    | some .string, some x, some i => some (.ixs x i)
    | some (.array n e), some x, some i => match aggT P e, szT P e with
      | some g, some s => some (.ixa n s g x i)
      | _, _ => none
    | _, _, _ => none
  | .range t x =>
    match P.underlying t with
    | some .string => (cX ρ x).map .rng
    | _ => none
  | .next x true => (cX ρ x).map .nxt
  | .extract x i => (cX ρ x).map fun x => .ext x i
  | .call c =>
    match c.callee with
    | .value (.func f) => match ρ f, cXs ρ c.args.toList with
      | some g, some xs => some (.call g xs)
      | _, _ => none
    | .value (.tmp t) => (cXs ρ c.args.toList).map (.callv (.s t))
    | .builtin b => cBuiltin ρ P b c.args.toList c.argTypes.toList
    | _ => none
  | _ => none

def dIn (nt : Nat) : Option Nat → Bool
  | some d => d < nt
  | none => true

def cG (ops : Array Oper) : Option (Nat × Bool) → Option (Option (Nat × Bool))
  | none => some none
  | some (j, t) => ((ops[j]?).bind (·.dst)).map fun s => some (s, t)

def cI (ρ : Nat → Option Nat) (P : Program) (nt : Nat) (ops : Array Oper) (o : Oper) : Option I :=
  if dIn nt o.dst then (cG ops o.guard).map fun g => ⟨o.dst, (cOp ρ P o.op).getD .bad, g⟩ else none

def cIs (ρ : Nat → Option Nat) (P : Program) (nt : Nat) (ops : Array Oper) : List Oper → Option (List I)
  | [] => some []
  | o :: r => match cI ρ P nt ops o, cIs ρ P nt ops r with
    | some i, some l => some (i :: l)
    | _, _ => none

end Go.AL
