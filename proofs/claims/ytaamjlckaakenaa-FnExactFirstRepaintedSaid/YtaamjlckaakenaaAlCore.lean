/-
  An interpreter for the operations of Go functions, over an abstract memory: values, memory, one operation, code. No theorem stands here.
-/
import GoSem.Step
namespace Go.AL
set_option linter.unusedSimpArgs false
set_option linter.unusedVariables false

/-- A slice's capacity: known, or 'all the rest of its block' (elements of s cells). -/
inductive Cap where
  | ex (n : Nat)
  | rest (s : Nat)
  deriving DecidableEq, Inhabited

/-- What one cell can hold. -/
inductive A where
  | int (k : IntKind) (n : Int)
  | bool (b : Bool)
  | str (s : List UInt8)
  | ptr (b o : Nat)
  | nilp
  | sl (b o len : Nat) (c : Cap)
  | nils
  | fn (f : Nat) (caps : List (Nat × Nat))
  | nilf
  | err (b : Nat)
  | nili
  deriving DecidableEq, Inhabited

/-- One cell, or the cells of a struct or an array. -/
inductive U where
  | a (x : A)
  | g (cs : List A)
  deriving DecidableEq, Inhabited

inductive V where
  | u (x : U)
  | t (vs : List U)
  | z
  deriving DecidableEq, Inhabited

abbrev V.a (x : A) : V := .u (.a x)
abbrev V.g (x : List A) : V := .u (.g x)
abbrev V.i (n : Int) : V := .u (.a (.int .i64 n))
abbrev V.b (t : Bool) : V := .u (.a (.bool t))
abbrev V.s (s : List UInt8) : V := .u (.a (.str s))

def U.cells : U → List A
  | .a x => [x]
  | .g cs => cs

inductive Blk where
  | cells (w : Bool) (cs : List A)
  | iter (s : List UInt8) (pos : Nat)
  | dead
  deriving DecidableEq, Inhabited

abbrev Mem := List Blk
abbrev Fr := List V

def fget : Fr → Nat → V
  | [], _ => .z
  | x :: _, 0 => x
  | _ :: r, n + 1 => fget r n

def fset : Fr → Nat → V → Fr
  | [], 0, v => [v]
  | [], n + 1, v => .z :: fset [] n v
  | _ :: r, 0, v => v :: r
  | x :: r, n + 1, v => x :: fset r n v

inductive X where
  | s (i : Nat)
  | k (v : V)
  deriving DecidableEq, Inhabited

def ev (fr : Fr) : X → V
  | .s i => fget fr i
  | .k v => v

def V.toA : V → Option A
  | .u (.a x) => some x
  | _ => none
def V.toU : V → Option U
  | .u x => some x
  | _ => none
def evA (fr : Fr) (x : X) : Option A := (ev fr x).toA
def evU (fr : Fr) (x : X) : Option U := (ev fr x).toU

/-- Cells written one behind the other. -/
def splice : List A → Nat → List A → List A
  | cs, _, [] => cs
  | cs, o, x :: xs => splice (cs.set o x) (o + 1) xs

def rd (m : Mem) (b o n : Nat) : Option (List A) :=
  match m[b]? with
  | some (.cells _ cs) => if o + n ≤ cs.length then some ((cs.drop o).take n) else none
  | _ => none

def wr (m : Mem) (b o : Nat) (xs : List A) : Option Mem :=
  match m[b]? with
  | some (.cells true cs) => if o + xs.length ≤ cs.length then some (m.set b (.cells true (splice cs o xs))) else none
  | _ => none

/-- How many cells of a block are known. -/
def known (m : Mem) (b : Nat) : Nat :=
  match m[b]? with
  | some (.cells _ cs) => cs.length
  | _ => 0

inductive O where
  | mov (x : X)
  | pick (c a b : X)
  | alloc (z : List A)
  | box (x : X)
  | build (z : List A) (ps : List (Nat × Nat × X))
  | lit (z : List A) (len : Nat) (ps : List (Nat × Nat × X))
  | load (g : Bool) (n : Nat) (p : X)
  | store (n : Nat) (p x : X)
  | nilc (x : X)
  | bin (op : BinOp) (x y : X)
  | beq (neq : Bool) (x y : X)
  | eqg (neq : Bool) (x y : X)
  | isn (ifc neq : Bool) (x : X)
  | neg (x : X)
  | not (x : X)
  | cvt (k : IntKind) (x : X)
  | s2b (x : X)
  | b2s (x : X)
  | i2s (x : X)
  | mk (z : List A) (bytes : Nat) (l c : X)
  | slc (s : Nat) (x : X) (lo hi mx : Option X)
  | sstr (x : X) (lo hi : Option X)
  | sarr (n s : Nat) (x : X) (lo hi : Option X)
  | fadr (off : Nat) (x : X)
  | fld (g : Bool) (off n : Nat) (x : X)
  | ia (s : Nat) (x i : X)
  | iap (n s : Nat) (x i : X)
  | ixs (x i : X)
  | ixa (n s : Nat) (g : Bool) (x i : X)
  | rng (x : X)
  | nxt (x : X)
  | ext (x : X) (i : Nat)
  | call (f : Nat) (xs : List X)
  | callv (x : X) (xs : List X)
  | app (s bytes : Nat) (x y : X)
  | len (x : X)
  | lens (x : X)
  | mn (x y : X)
  | mx (x y : X)
  | cpy (s : Nat) (x y : X)
  | clr (z : List A) (x : X)
  | fnv (f : Nat) (caps : List X)
  | bad
  deriving DecidableEq, Inhabited

structure I where
  d : Option Nat
  op : O
  gd : Option (Nat × Bool)
  deriving DecidableEq, Inhabited

/-- A region that draws its order: its operations in one order; behind an operation that acts, the loads that another order may have brought behind it are held against what they gave. -/
structure DI where
  i : I
  chk : List I
  deriving DecidableEq, Inhabited

inductive IC where
  | skip
  | ops (l : List I)
  | dops (l : List DI)
  | seq (x y : IC)
  | cond (c : X) (x y : IC)
  | block (id : Nat) (x : IC)
  | loop (x : IC)
  | exit (id : Nat)
  | ret
  | bad
  deriving DecidableEq, Inhabited

/-- Where a result lies: in a slot, or in the cells that a slot points to. -/
inductive Rv where
  | t (s : Nat)
  | c (s : Nat) (g : Bool) (n : Nat)
  deriving DecidableEq, Inhabited

structure Fn where
  res : List Rv
  body : IC
  deriving DecidableEq, Inhabited

abbrev CallE := Nat → List V → Mem → Option (V × Mem)

def fillE (fr : Fr) : List A → List (Nat × Nat × X) → Option (List A)
  | cs, [] => some cs
  | cs, (off, n, x) :: r =>
    match evU fr x with
    | some y => if y.cells.length = n ∧ off + n ≤ cs.length then fillE fr (splice cs off y.cells) r else none
    | none => none

def bytesLt : List UInt8 → List UInt8 → Bool
  | _, [] => false
  | [], _ :: _ => true
  | a :: x, b :: y => a < b || (a == b && bytesLt x y)

def binA (op : BinOp) : A → A → Option A
  | .int k a, .int k' b =>
    if k ≠ k' then none else
    match op with
    | .add => some (.int k (k.wrap (a + b)))
    | .sub => some (.int k (k.wrap (a - b)))
    | .mul => some (.int k (k.wrap (a * b)))
    | .quo => if b = 0 then none else some (.int k (k.wrap (a.tdiv b)))
    | .rem => if b = 0 then none else some (.int k (a.tmod b))
    | .eql => some (.bool (a == b))
    | .neq => some (.bool (a != b))
    | .lss => some (.bool (a < b))
    | .leq => some (.bool (a ≤ b))
    | .gtr => some (.bool (a > b))
    | .geq => some (.bool (a ≥ b))
    | _ => none
  | .str a, .str b =>
    match op with
    | .add => if a.length + b.length ≤ 9223372036854775807 then some (.str (a ++ b)) else none
    | .eql => some (.bool (a == b))
    | .neq => some (.bool (!(a == b)))
    | .lss => some (.bool (bytesLt a b))
    | .leq => some (.bool (bytesLt a b || a == b))
    | .gtr => some (.bool (!(bytesLt a b || a == b)))
    | .geq => some (.bool (!bytesLt a b))
    | _ => none
  | _, _ => none

def isNil : Bool → A → Option Bool
  | true, .nili => some true
  | true, .err _ => some false
  | false, .nils => some true
  | false, .sl _ _ _ _ => some false
  | _, _ => none

/-- Bounds of a slice expression: low, high. -/
def bnd (fr : Fr) (dflt : Nat) (top : Nat) : Option X → Option Nat
  | none => some dflt
  | some x =>
    match evA fr x with
    | some (.int _ i) => if 0 ≤ i ∧ i ≤ (top : Int) then some i.toNat else none
    | _ => none

def atoms : List X → Fr → Option (List (Nat × Nat))
  | [], _ => some []
  | x :: r, fr =>
    match evA fr x, atoms r fr with
    | some (.ptr b o), some l => some ((b, o) :: l)
    | _, _ => none

def bytesOf : List A → Option (List UInt8)
  | [] => some []
  | .int .u8 n :: r =>
    match bytesOf r with
    | some l => some (UInt8.ofNat n.toNat :: l)
    | none => none
  | _ :: _ => none

def u8s (s : List UInt8) : List A := s.map fun c => .int .u8 c.toNat

/-- The cells that an append or a copy takes from its source: n elements of s cells. -/
def srcCells (m : Mem) (s n : Nat) : A → Option (List A)
  | .nils => if n = 0 then some [] else none
  | .sl b o len _ => if n ≤ len then rd m b o (n * s) else none
  | .str t => if s = 1 ∧ n ≤ t.length then some (u8s (t.take n)) else none
  | _ => none

def lenA : A → Option Nat
  | .str t => some t.length
  | .nils => some 0
  | .sl _ _ n _ => some n
  | _ => none

def appE (m : Mem) (s bytes : Nat) (x y : A) : Option (V × Mem) :=
  match lenA y with
  | none => none
  | some n =>
    match srcCells m s n y with
    | none => none
    | some new =>
      match x with
      | .nils =>
        if n = 0 then some (.a .nils, m)
        else if n ≤ 1099511627776 ∧ n * bytes ≤ 1099511627776 then some (.a (.sl m.length 0 n (.rest s)), m ++ [.cells true new]) else none
      | .sl b o len c =>
        if n = 0 then (match c with
          | .ex cap => if len ≤ cap then some (.a x, m) else none
          | .rest s' => if s' = s ∧ o + len * s ≤ known m b then some (.a x, m) else none)
        else if ¬ (len + n ≤ 1099511627776 ∧ (len + n) * bytes ≤ 1099511627776) then none
        else match c with
        | .ex cap =>
          if len + n ≤ cap then
            match wr m b (o + len * s) new with
            | some m' => some (.a (.sl b o (len + n) (.ex cap)), m')
            | none => none
          else match rd m b o (len * s) with
            | some old => some (.a (.sl m.length 0 (len + n) (.rest s)), m ++ [.cells true (old ++ new)])
            | none => none
        | .rest s' =>
          if s' ≠ s then none else
          if o + (len + n) * s ≤ known m b then
            match wr m b (o + len * s) new with
            | some m' => some (.a (.sl b o (len + n) (.rest s)), m')
            | none => none
          else match m[b]? with
            | some (.cells true cs) =>
              if o + len * s ≤ cs.length then
                some (.a (.sl m.length 0 (len + n) (.rest s)), m.set b .dead ++ [.cells true ((cs.drop o).take (len * s) ++ new)])
              else none
            | _ => none
      | _ => none

def part (g : Bool) (cs : List A) (off n : Nat) : Option V :=
  if g then some (.g ((cs.drop off).take n)) else (cs[off]?).map .a

def scalar : A → Bool
  | .int .. | .bool _ | .str _ => true
  | _ => false

def opE (call : CallE) (fr : Fr) (m : Mem) : O → Option (V × Mem)
  | .mov x => some (ev fr x, m)
  | .pick c a b =>
    match evA fr c with
    | some (.bool t) => some (if t then ev fr a else ev fr b, m)
    | _ => none
  | .alloc z => some (.a (.ptr m.length 0), m ++ [.cells true z])
  | .box x => match evU fr x with
    | some y => some (.a (.ptr m.length 0), m ++ [.cells true y.cells])
    | none => none
  | .build z ps => match fillE fr z ps with
    | some cs => some (.g cs, m)
    | none => none
  | .lit z len ps =>
    match fillE fr (List.replicate len z).flatten ps with
    | some cs => some (.a (.sl m.length 0 len (.ex len)), m ++ [.cells true cs])
    | none => none
  | .load g n p =>
    match evA fr p with
    | some (.ptr b o) =>
      match rd m b o n with
      | some cs => if g then some (.g cs, m) else match cs with
        | [c] => some (.a c, m)
        | _ => none
      | none => none
    | _ => none
  | .store n p x =>
    match evA fr p, evU fr x with
    | some (.ptr b o), some y => if y.cells.length = n then (match wr m b o y.cells with
        | some m' => some (.z, m')
        | none => none) else none
    | _, _ => none
  | .nilc x =>
    match evA fr x with
    | some (.ptr b o) => some (.a (.ptr b o), m)
    | some (.fn f c) => some (.a (.fn f c), m)
    | _ => none
  | .bin op x y =>
    match evA fr x, evA fr y with
    | some a, some b => (binA op a b).map fun r => (.a r, m)
    | _, _ => none
  | .beq neq x y =>
    match evA fr x, evA fr y with
    | some (.bool a), some (.bool b) => some (.b (if neq then !(a == b) else (a == b)), m)
    | _, _ => none
  | .eqg neq x y =>
    match ev fr x, ev fr y with
    | .u (.g xs), .u (.g ys) => if xs.length = ys.length ∧ xs.all scalar ∧ ys.all scalar then some (.b (if neq then !(xs == ys) else (xs == ys)), m) else none
    | _, _ => none
  | .isn ifc neq x => match evA fr x with
    | some a => (isNil ifc a).map fun t => (.b (t != neq), m)
    | none => none
  | .neg x => match evA fr x with
    | some (.int k n) => some (.a (.int k (k.wrap (0 - n))), m)
    | _ => none
  | .not x => match evA fr x with
    | some (.bool t) => some (.b (!t), m)
    | _ => none
  | .cvt k x => match evA fr x with
    | some (.int _ n) => some (.a (.int k (k.wrap n)), m)
    | _ => none
  | .s2b x => match evA fr x with
    | some (.str s) => some (.a (.sl m.length 0 s.length (.rest 1)), m ++ [.cells true (u8s s)])
    | _ => none
  | .b2s x => match evA fr x with
    | some .nils => some (.s [], m)
    | some (.sl b o len _) => match rd m b o len with
      | some cs => (bytesOf cs).map fun l => (.s l, m)
      | none => none
    | _ => none
  | .i2s x => match evA fr x with
    | some (.int _ n) => if 0 ≤ n ∧ n < 128 then some (.s [UInt8.ofNat n.toNat], m) else none
    | _ => none
  | .mk z bytes l c =>
    match evA fr l, evA fr c with
    | some (.int _ l), some (.int _ c) =>
      if 0 ≤ l ∧ l ≤ c ∧ c ≤ 1099511627776 ∧ c * bytes ≤ 1099511627776 then
        some (.a (.sl m.length 0 l.toNat (.ex c.toNat)), m ++ [.cells true (List.replicate c.toNat z).flatten])
      else none
    | _, _ => none
  | .slc s x lo hi mx =>
    match evA fr x with
    | some .nils =>
      match bnd fr 0 0 mx, bnd fr 0 0 hi, bnd fr 0 0 lo with
      | some 0, some 0, some 0 => some (.a .nils, m)
      | _, _, _ => none
    | some (.sl b o len (.ex c)) =>
      match bnd fr c c mx with
      | none => none
      | some k => match bnd fr len k hi with
        | none => none
        | some h => match bnd fr 0 h lo with
          | none => none
          | some l => if l ≤ h then some (.a (.sl b (if k = l then o else o + l * s) (h - l) (.ex (k - l))), m) else none
    | some (.sl b o len (.rest s')) =>
      if s' ≠ s ∨ s = 0 then none else
      match mx with
      | some mx =>
        match bnd fr 0 ((known m b - o) / s) (some mx) with
        | none => none
        | some k => match bnd fr len k hi with
          | none => none
          | some h => match bnd fr 0 h lo with
            | none => none
            | some l => if l ≤ h ∧ h ≤ k then some (.a (.sl b (if k = l then o else o + l * s) (h - l) (.ex (k - l))), m) else none
      | none =>
        match bnd fr len ((known m b - o) / s) hi with
        | none => none
        | some h => match bnd fr 0 h lo with
          | none => none
          | some l =>
            if ¬ (l ≤ h ∧ o + h * s ≤ known m b) then none else
            if l = 0 then some (.a (.sl b o h (.rest s)), m)
            else if o + (l + 1) * s ≤ known m b then some (.a (.sl b (o + l * s) (h - l) (.rest s)), m)
            else some (.a (.sl m.length 0 0 (.rest s)), m ++ [.cells false []])
    | _ => none
  | .sstr x lo hi =>
    match evA fr x with
    | some (.str s) =>
      match bnd fr s.length s.length hi with
      | none => none
      | some h => match bnd fr 0 h lo with
        | none => none
        | some l => some (.s ((s.take h).drop l), m)
    | _ => none
  | .sarr n s x lo hi =>
    match evA fr x with
    | some (.ptr b o) =>
      match bnd fr n n hi with
      | none => none
      | some h => match bnd fr 0 h lo with
        | none => none
        | some l => if l ≤ h then some (.a (.sl b (if n = l then o else o + l * s) (h - l) (.ex (n - l))), m) else none
    | _ => none
  | .fadr off x => match evA fr x with
    | some (.ptr b o) => some (.a (.ptr b (o + off)), m)
    | _ => none
  | .fld g off n x => match ev fr x with
    | .u (.g cs) => (part g cs off n).map fun v => (v, m)
    | _ => none
  | .ia s x i =>
    match evA fr x, evA fr i with
    | some (.sl b o len _), some (.int _ j) => if 0 ≤ j ∧ j < (len : Int) then some (.a (.ptr b (o + j.toNat * s)), m) else none
    | _, _ => none
  | .iap n s x i =>
    match evA fr x, evA fr i with
    | some (.ptr b o), some (.int _ j) => if 0 ≤ j ∧ j < (n : Int) then some (.a (.ptr b (o + j.toNat * s)), m) else none
    | _, _ => none
  | .ixs x i =>
    match evA fr x, evA fr i with
    | some (.str t), some (.int _ j) => if 0 ≤ j then (t[j.toNat]?).map fun c => (.a (.int .u8 c.toNat), m) else none
    | _, _ => none
  | .ixa n s g x i =>
    match ev fr x, evA fr i with
    | .u (.g cs), some (.int _ j) => if 0 ≤ j ∧ j < (n : Int) then (part g cs (j.toNat * s) s).map fun v => (v, m) else none
    | _, _ => none
  | .rng x => match evA fr x with
    | some (.str s) => some (.a (.ptr m.length 0), m ++ [.iter s 0])
    | _ => none
  | .nxt x => match evA fr x with
    | some (.ptr b 0) => match m[b]? with
      | some (.iter s pos) => match s[pos]? with
        | some c => if c.toNat < 128 then some (.t [.a (.bool true), .a (.int .i64 pos), .a (.int .i32 c.toNat)], m.set b (.iter s (pos + 1))) else none
        | none => some (.t [.a (.bool false)], m)
      | _ => none
    | _ => none
  | .ext x i => match ev fr x with
    | .t vs => (vs[i]?).map fun u => (.u u, m)
    | _ => none
  | .call f xs => call f (xs.map (ev fr)) m
  | .callv x xs => match evA fr x with
    | some (.fn f caps) => call f (xs.map (ev fr) ++ caps.map fun p => .a (.ptr p.1 p.2)) m
    | _ => none
  | .app s bytes x y =>
    match evA fr x, evA fr y with
    | some a, some b => appE m s bytes a b
    | _, _ => none
  | .len x => match evA fr x with
    | some .nils => some (.i 0, m)
    | some (.sl _ _ n _) => some (.i n, m)
    | _ => none
  | .lens x => match evA fr x with
    | some (.str s) => some (.i s.length, m)
    | _ => none
  | .mn x y => match evA fr x, evA fr y with
    | some (.int k a), some (.int k' b) => if k = k' then some (.a (.int k (if b < a then b else a)), m) else none
    | _, _ => none
  | .mx x y => match evA fr x, evA fr y with
    | some (.int k a), some (.int k' b) => if k = k' then some (.a (.int k (if b > a then b else a)), m) else none
    | _, _ => none
  | .cpy s x y =>
    match evA fr x, evA fr y with
    | some .nils, some b => match lenA b with
      | some _ => some (.i 0, m)
      | none => none
    | some (.sl d o len _), some b => match lenA b with
      | none => none
      | some n => match srcCells m s (min n len) b with
        | none => none
        | some cs => match wr m d o cs with
          | some m' => some (.i (min n len : Nat), m')
          | none => none
    | _, _ => none
  | .clr z x =>
    match evA fr x with
    | some .nils => some (.t [], m)
    | some (.sl b o len _) => if len = 0 then some (.t [], m) else match wr m b o (List.replicate len z).flatten with
      | some m' => some (.t [], m')
      | none => none
    | _ => none
  | .fnv f caps => match atoms caps fr with
    | some l => some (.a (.fn f l), m)
    | none => none
  | .bad => none

def wanted (fr : Fr) : Option (Nat × Bool) → Option Bool
  | none => some true
  | some (s, t) => match fget fr s with
    | .u (.a (.bool b)) => some (b == t)
    | .z => some false
    | _ => none

def put (fr : Fr) : Option Nat → V → Fr
  | some d, v => fset fr d v
  | none, _ => fr

/-- The value of one operation: none (z) where its guard says no. -/
def stepV (call : CallE) (fr : Fr) (m : Mem) (i : I) : Option (V × Mem) :=
  match wanted fr i.gd with
  | some true => opE call fr m i.op
  | some false => some (.z, m)
  | none => none

def stepE (call : CallE) (fr : Fr) (m : Mem) (i : I) : Option (Fr × Mem) :=
  match stepV call fr m i with
  | some (v, m') => some (put fr i.d v, m')
  | none => none

def opsE (call : CallE) : List I → Fr → Mem → Option (Fr × Mem)
  | [], fr, m => some (fr, m)
  | i :: r, fr, m => match stepE call fr m i with
    | some (fr', m') => opsE call r fr' m'
    | none => none

/-- An operation carried out before gives the same once more. -/
def again (call : CallE) (fr : Fr) (m : Mem) (k : I) : Bool :=
  match stepV call fr m k, k.d with
  | some (v, m'), some d => v == fget fr d && m'.length == m.length
  | _, _ => false

/-- 0: looks at no memory; 1: reads memory alone; 2: acts. -/
def O.cls : O → Nat
  | .mov _ | .pick _ _ _ | .build _ _ | .nilc _ | .bin _ _ _ | .beq _ _ _ | .isn _ _ _ | .neg _ | .not _ | .cvt _ _ | .i2s _ | .sstr _ _ _ | .sarr _ _ _ _ _
  | .fadr _ _ | .fld _ _ _ _ | .ia _ _ _ | .iap _ _ _ _ | .ixs _ _ | .ixa _ _ _ _ _ | .ext _ _ | .len _ | .lens _ | .mn _ _ | .mx _ _ | .fnv _ _ => 0
  | .load _ _ _ | .b2s _ | .slc _ _ _ _ _ => 1
  | _ => 2

def dopsE (call : CallE) : List DI → Fr → Mem → Option (Fr × Mem)
  | [], fr, m => some (fr, m)
  | i :: r, fr, m => match stepE call fr m i.i with
    | some (fr', m') => if (i.i.op.cls = 2 ∨ m'.length = m.length) ∧ i.chk.all (again call fr' m') = true then dopsE call r fr' m' else none
    | none => none

inductive Ex where
  | nrm
  | exit (id : Nat)
  | ret
  deriving DecidableEq

def resU (fr : Fr) (m : Mem) : Rv → Option U
  | .t s => (fget fr s).toU
  | .c s g n => match (fget fr s).toA with
    | some (.ptr b o) => match rd m b o n with
      | some cs => if g then some (.g cs) else match cs with
        | [c] => some (.a c)
        | _ => none
      | none => none
    | _ => none

def resL (fr : Fr) (m : Mem) : List Rv → Option (List U)
  | [] => some []
  | r :: rs => match resU fr m r, resL fr m rs with
    | some u, some l => some (u :: l)
    | _, _ => none

def resE (fr : Fr) (m : Mem) (rs : List Rv) : Option V :=
  match resL fr m rs with
  | some [u] => some (.u u)
  | some l => some (.t l)
  | none => none

/-- What a function number stands for: code, or a function of the library taken by its contract. -/
inductive Def where
  | code (f : Fn)
  | prim (f : List V → Mem → Option (V × Mem))

abbrev Env := Nat → Option Def

mutual
def exec (G : Env) : Nat → IC → Fr → Mem → Option (Ex × Fr × Mem)
  | 0, _, _, _ => none
  | k + 1, c, fr, m =>
    match c with
    | .skip => some (.nrm, fr, m)
    | .ops l => match opsE (run G k) l fr m with
      | some (fr', m') => some (.nrm, fr', m')
      | none => none
    | .dops l => match dopsE (run G k) l fr m with
      | some (fr', m') => some (.nrm, fr', m')
      | none => none
    | .seq x y => match exec G k x fr m with
      | some (.nrm, fr', m') => exec G k y fr' m'
      | r => r
    | .cond c x y => match ev fr c with
      | .u (.a (.bool t)) => exec G k (if t then x else y) fr m
      | _ => none
    | .block id x => match exec G k x fr m with
      | some (.exit j, fr', m') => some (if j = id then .nrm else .exit j, fr', m')
      | r => r
    | .loop x => match exec G k x fr m with
      | some (.nrm, fr', m') => exec G k (.loop x) fr' m'
      | r => r
    | .exit id => some (.exit id, fr, m)
    | .ret => some (.ret, fr, m)
    | .bad => none
def run (G : Env) : Nat → Nat → List V → Mem → Option (V × Mem)
  | 0, _, _, _ => none
  | k + 1, f, args, m =>
    match G f with
    | none => none
    | some (.prim p) => p args m
    | some (.code fn) =>
      match exec G k fn.body args m with
      | some (.nrm, fr, m') | some (.ret, fr, m') => (resE fr m' fn.res).map fun v => (v, m')
      | _ => none
end

end Go.AL
