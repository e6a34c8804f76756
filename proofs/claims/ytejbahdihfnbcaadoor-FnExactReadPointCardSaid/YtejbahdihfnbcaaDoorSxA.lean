/- A function's code, run once on names for its floats, gives a tree of float operations and tests; that tree is a summary of the function, for every input. -/
import GoSem.Step
import Derived.KernelRfl
import Derived.Orders
import Derived.Below
import Derived.Laws.CopyRow
import Derived.Laws.Cells
import Derived.Laws.Tables
import Derived.Great.BuildSlice
/- Trees of float operations and tests, and what they denote. -/
namespace Go.Proofs.YtejbahdihfnbcaaDoor.Sx
open Go

inductive UO where | neg | widen | narrow | sqrt | rte | abs
  deriving DecidableEq
inductive BO where | add | sub | mul | div
  deriving DecidableEq

/-- A scalar: a float (none: a NaN), a bool, an integer. -/
inductive Sc where
  | f (k : FloatKind) (d : Option Nat)
  | b (v : Bool)
  | i (k : IntKind) (n : Int)
  deriving DecidableEq

inductive Rf where
  | v (i : Nat)
  | b (v : Bool)
  | i (k : IntKind) (n : Int)
  deriving DecidableEq

inductive T where
  | ret (vs : List Rf)
  | un (o : UO) (k : FloatKind) (a : Nat) (t : T)
  | bin (o : BO) (k : FloatKind) (a b : Nat) (t : T)
  | cst (k : FloatKind) (b : Nat) (t : T)
  | tst (c : Nat) (k : FloatKind) (a b : Nat) (x y : T)
  | tsb (k : FloatKind) (a b : Nat) (x y : T)        -- the same bits, of two that are no NaN
  | call (g : Nat) (args : List Rf) (n : Nat) (t : T)
  | br (r : Nat) (x y : T)
  | sw (r : Nat) (n : Int) (x y : T)
  | bad (why : String)

def isNaNb (k : FloatKind) (b : Nat) : Bool := match k.format.read b with | .nan .. => true | _ => false
def canon (k : FloatKind) (b : Nat) : Option Nat := match isNaNb k b with | true => none | false => some b

def BO.fn (o : BO) (f : Ieee.Format) (x y : Nat) : Option Nat :=
  match o with | .add => f.add x y | .sub => f.sub x y | .mul => f.mul x y | .div => f.div x y
def BO.den (o : BO) (k : FloatKind) : Option Nat → Option Nat → Option Nat
  | some x, some y => o.fn k.format x y
  | _, _ => none

/-- k: the kind of the operand. 'none' at the outside: not told (a number too great is narrowed). -/
def UO.kind (o : UO) (k : FloatKind) : FloatKind := match o with | .widen => .f64 | .narrow => .f32 | _ => k
def convD (k l : FloatKind) (b : Nat) : Option (Option Nat) :=
  match (l.decode (l.encode (k.decode b))).isInfinity && !(k.decode b).isInfinity with
  | true => none
  | false => some (some (l.encode (k.decode b)))
def UO.fn (o : UO) (k : FloatKind) (b : Nat) : Option (Option Nat) :=
  match o with
  | .neg => some (some (Op.negFloat k b))
  | .widen => convD k .f64 b
  | .narrow => convD k .f32 b
  | .sqrt => some (k.format.sqrt b)
  | .rte => some (some (k.encode ((k.decode b).integral .even)))
  | .abs => some (some (b % k.format.signWeight))
def UO.den (o : UO) (k : FloatKind) : Option Nat → Option (Option Nat)
  | some b => o.fn k b
  | none => some none

/-- c: 0 less, 1 less or equal, 2 equal -/
def cmpC (c : Nat) (f : Ieee.Format) (x y : Nat) : Bool :=
  let r := f.order x y
  match c with
  | 0 => r == some .lt
  | 1 => r == some .lt || r == some .eq
  | _ => r == some .eq
def cmpD (c : Nat) (k : FloatKind) : Option Nat → Option Nat → Bool
  | some x, some y => cmpC c k.format x y
  | _, _ => false

def fkEq (a b : FloatKind) : Bool := match a, b with | .f32, .f32 => true | .f64, .f64 => true | _, _ => false

/-- the float number a of the environment, of kind k -/
def getF (env : List Sc) (k : FloatKind) (a : Nat) : Option (Option Nat) :=
  match env[a]? with
  | some (.f l d) => if l = k then some d else none
  | _ => none

def Rf.den (env : List Sc) : Rf → Option Sc
  | .v j => env[j]?
  | .b x => some (.b x)
  | .i k n => some (.i k n)
def denL (env : List Sc) : List Rf → Option (List Sc)
  | [] => some []
  | r :: rs => match r.den env, denL env rs with
    | some x, some xs => some (x :: xs)
    | _, _ => none

def T.den (G : Nat → List Sc → Option (List Sc)) : T → List Sc → Option (List Sc)
  | .ret vs, env => denL env vs
  | .un o k a t, env => match getF env k a with
    | some d => match o.den k d with
      | some r => t.den G (env ++ [.f (o.kind k) r])
      | none => none
    | none => none
  | .bin o k a b t, env => match getF env k a, getF env k b with
    | some x, some y => t.den G (env ++ [.f k (o.den k x y)])
    | _, _ => none
  | .cst k b t, env => t.den G (env ++ [.f k (canon k b)])
  | .tst c k a b x y, env => match getF env k a, getF env k b with
    | some p, some q => match cmpD c k p q with
      | true => x.den G env
      | false => y.den G env
    | _, _ => none
  | .tsb k a b x y, env => match getF env k a, getF env k b with
    | some (some p), some (some q) => match Nat.beq p q with
      | true => x.den G env
      | false => y.den G env
    | _, _ => none
  | .call g args n t, env => match denL env args with
    | some vs => match G g vs with
      | some rs => if rs.length = n then t.den G (env ++ rs) else none
      | none => none
    | none => none
  | .br r x y, env => match env[r]? with
    | some (.b true) => x.den G env
    | some (.b false) => y.den G env
    | _ => none
  | .sw r n x y, env => match env[r]? with
    | some (.i _ m) => if m = n then x.den G env else y.den G env
    | _ => none
  | .bad _, _ => none

/-- the summaries of a table, the last first -/
def denTab : List T → Nat → List Sc → Option (List Sc)
  | [], _, _ => none
  | t :: ts, g, args => if g = ts.length then t.den (denTab ts) args else denTab ts g args

end Go.Proofs.YtejbahdihfnbcaaDoor.Sx

/- The evaluator: from the model's code to trees. -/
namespace Go.Proofs.YtejbahdihfnbcaaDoor.Sx
open Go

/-! Tries keyed by numbers. -/
inductive Tr (α : Type) where
  | nil
  | node (l : Tr α) (v : Option α) (r : Tr α)

def Tr.get {α : Type} : Tr α → Nat → Option α
  | .nil, _ => none
  | .node l v r, k => match Nat.beq k 0 with
    | true => v
    | false => match Nat.beq (Nat.mod k 2) 1 with
      | true => l.get (Nat.div k 2)
      | false => r.get (Nat.sub (Nat.div k 2) 1)

def Tr.left {α : Type} : Tr α → Tr α | .nil => .nil | .node l _ _ => l
def Tr.right {α : Type} : Tr α → Tr α | .nil => .nil | .node _ _ r => r
def Tr.here {α : Type} : Tr α → Option α | .nil => none | .node _ v _ => v

def Tr.setF {α : Type} (x : α) : Nat → Tr α → Nat → Tr α
  | 0, t, _ => .node t.left (some x) t.right
  | n + 1, t, k => match Nat.beq k 0 with
    | true => .node t.left (some x) t.right
    | false => match Nat.beq (Nat.mod k 2) 1 with
      | true => .node (t.left.setF x n (Nat.div k 2)) t.here t.right
      | false => .node t.left t.here (t.right.setF x n (Nat.sub (Nat.div k 2) 1))
def Tr.set {α : Type} (t : Tr α) (k : Nat) (x : α) : Tr α := t.setF x k k

inductive AV where
  | undef
  | bool (b : Bool)
  | int (k : IntKind) (n : Int)
  | flt (k : FloatKind) (id : Nat)
  | bits (k : FloatKind) (id : Nat)
  | abits (id : Nat)          -- the bits of a float64 without its sign
  | ptr (b off : Nat)
  | slice (b off len cap : Nat)
  | nils                      -- the nil slice
  | func (f : FuncId) (cap : List AV)
  | agg (cs : List AV)
  | tuple (vs : List AV)

def AV.cells : AV → List AV
  | .agg cs => cs
  | v => [v]

/-- nn: how long the environment is; heap: the blocks, the youngest first; next: the next block's name; wlo: blocks from here on may be written -/
structure St where
  nn : Nat
  heap : List (Nat × List AV)
  next : Nat
  wlo : Nat

abbrev K := AV → St → T

def St.up (st : St) : St := { st with nn := Nat.add st.nn 1 }

/-! Types -/
def size? (P : Program) (t : TypeId) : Option Nat := (P.info? t).map (·.size)
def aggT (P : Program) (t : TypeId) : Option Bool := match P.underlying t with
  | some (.struct _) => some true | some (.array ..) => some true | some _ => some false | none => none

/-! Values -/
def fltOk (k : FloatKind) (b : Nat) : Bool := match k with | .f32 => Nat.blt b 0x100000000 | .f64 => Nat.blt b 0x10000000000000000
def cstF (k : FloatKind) (b : Nat) (st : St) (kk : K) : T :=
  match fltOk k b with
  | true => .cst k b (kk (.flt k st.nn) st.up)
  | false => .bad "cst"
def ofValue : Value → St → K → T
  | .bool b, st, kk => kk (.bool b) st
  | .int k n, st, kk => kk (.int k n) st
  | .float k b, st, kk => cstF k b st kk
  | .slice none n m, st, kk => match Nat.beq n 0 && Nat.beq m 0 with | true => kk .nils st | false => .bad "ofValue"
  | _, _, _ => .bad "ofValue"

def ofValues : List Value → St → (List AV → St → T) → T
  | [], st, kk => kk [] st
  | v :: vs, st, kk => ofValue v st fun a st => ofValues vs st fun as st => kk (a :: as) st

def opd (tm : Tr AV) (x : Operand) (st : St) (kk : K) : T :=
  match x with
  | .tmp t => match tm.get t with | some v => kk v st | none => kk .undef st
  | .const v => ofValue v st kk
  | .func f => kk (.func f []) st
  | .global _ => .bad "global"

def opds (tm : Tr AV) : List Operand → St → (List AV → St → T) → T
  | [], st, kk => kk [] st
  | x :: xs, st, kk => opd tm x st fun v st => opds tm xs st fun vs st => kk (v :: vs) st

/-! Memory -/
def findB (id : Nat) : List (Nat × List AV) → Option (List AV)
  | [] => none
  | (j, cs) :: r => match Nat.beq id j with | true => some cs | false => findB id r
def setB (id : Nat) (cs : List AV) : List (Nat × List AV) → List (Nat × List AV)
  | [] => []
  | (j, ds) :: r => match Nat.beq id j with | true => (j, cs) :: r | false => (j, ds) :: setB id cs r

def takeAt (off n : Nat) (cs : List AV) : Option (List AV) :=
  match Nat.ble (Nat.add off n) cs.length with | true => some ((cs.drop off).take n) | false => none
def putAt (off : Nat) (vs cs : List AV) : Option (List AV) :=
  match Nat.ble (Nat.add off vs.length) cs.length with
  | true => some (cs.take off ++ vs ++ cs.drop (Nat.add off vs.length))
  | false => none

def newB (cs : List AV) (st : St) (kk : Nat → St → T) : T :=
  kk st.next { st with heap := (st.next, cs) :: st.heap, next := Nat.add st.next 1 }

def loadT (P : Program) (t : TypeId) (b off : Nat) (st : St) (kk : K) : T :=
  match findB b st.heap, aggT P t, size? P t with
  | some cs, some true, some n => match takeAt off n cs with | some vs => kk (.agg vs) st | none => .bad "load"
  | some cs, some false, some _ => match cs[off]? with | some v => kk v st | none => .bad "load"
  | _, _, _ => .bad "load"

/-- a value of one cell -/
def AV.one : AV → Bool
  | .undef | .agg _ | .tuple _ => false
  | _ => true

def storeT (P : Program) (t : TypeId) (b off : Nat) (v : AV) (st : St) (kk : St → T) : T :=
  match Nat.ble st.wlo b && Nat.blt b st.next, findB b st.heap, size? P t with
  | true, some cs, some n => match Nat.beq n v.cells.length && v.cells.all AV.one && Nat.blt 0 n with
    | true => match putAt off v.cells cs with
      | some cs' => kk { st with heap := setB b cs' st.heap }
      | none => .bad "store"
    | false => .bad "store size"
  | _, _, _ => .bad "store"

/-- no pointer to blocks from lo on -/
def AV.low (lo : Nat) : AV → Bool
  | .ptr b _ => Nat.blt b lo
  | .slice b _ _ _ => Nat.blt b lo
  | .agg cs => go cs
  | .tuple cs => go cs
  | .func _ cs => go cs
  | _ => true
  where go : List AV → Bool
  | [] => true
  | c :: cs => c.low lo && go cs

def dropHeap (lo : Nat) : List (Nat × List AV) → List (Nat × List AV)
  | [] => []
  | (j, cs) :: r => match Nat.ble lo j with | true => dropHeap lo r | false => (j, cs) :: dropHeap lo r

abbrev CallK := FuncId → List AV → St → K → T

def fillA (off : Nat → Option (Nat × Nat)) (cells : List AV) : List (Nat × AV) → Option (List AV)
  | [] => some cells
  | (i, v) :: r => match off i with
    | none => none
    | some (o, n) => match Nat.beq n v.cells.length with
      | false => none
      | true => match putAt o v.cells cells with
        | some cs => fillA off cs r
        | none => none

def opdParts (tm : Tr AV) : List (Nat × Operand) → St → (List (Nat × AV) → St → T) → T
  | [], st, kk => kk [] st
  | (i, x) :: xs, st, kk => opd tm x st fun v st => opdParts tm xs st fun vs st => kk ((i, v) :: vs) st

def cmpN : BinOp → Option (Nat × Bool × Bool)   -- cmp, swapped, negated
  | .eql => some (2, false, false) | .neq => some (2, false, true) | .lss => some (0, false, false) | .leq => some (1, false, false)
  | .gtr => some (0, true, false) | .geq => some (1, true, false) | _ => none
def boOf : BinOp → Option BO | .add => some .add | .sub => some .sub | .mul => some .mul | .quo => some .div | _ => none

def ikEq (a b : IntKind) : Bool := decide (a = b)

def mkTst (c : Nat) (k : FloatKind) (a b : Nat) (sw ng : Bool) (st : St) (kk : K) : T :=
  match sw with
  | true => .tst c k b a (kk (.bool (!ng)) st) (kk (.bool ng) st)
  | false => .tst c k a b (kk (.bool (!ng)) st) (kk (.bool ng) st)

def binFlt (op : BinOp) (k : FloatKind) (a b : Nat) (st : St) (kk : K) : T :=
  match boOf op with
  | some o => .bin o k a b (kk (.flt k st.nn) st.up)
  | none => match cmpN op with
    | some (c, sw, ng) => mkTst c k a b sw ng st kk
    | none => .bad "binop"

def binInt (op : BinOp) (k : IntKind) (a b : Int) (st : St) (kk : K) : T :=
  match op with
  | .add => kk (.int k (k.wrap (a + b))) st
  | .sub => kk (.int k (k.wrap (a - b))) st
  | .mul => kk (.int k (k.wrap (a * b))) st
  | .eql => kk (.bool (a == b)) st
  | .neq => kk (.bool (a != b)) st
  | .lss => kk (.bool (decide (a < b))) st
  | .leq => kk (.bool (decide (a ≤ b))) st
  | .gtr => kk (.bool (decide (a > b))) st
  | .geq => kk (.bool (decide (a ≥ b))) st
  | _ => .bad "int binop"

def isBoolT (P : Program) (t : TypeId) : Bool := match P.underlying t with | some .bool => true | _ => false
def binBool (P : Program) (t : TypeId) (op : BinOp) (a b : Bool) (st : St) (kk : K) : T :=
  match isBoolT P t with
  | true => match op with
    | .eql => kk (.bool (a == b)) st
    | .neq => kk (.bool (a != b)) st
    | _ => .bad "bool binop"
  | false => .bad "bool binop"

def binBits (op : BinOp) (k : FloatKind) (a b : Nat) (st : St) (kk : K) : T :=
  match op with
  | .eql => .tsb k a b (kk (.bool true) st) (kk (.bool false) st)
  | .neq => .tsb k a b (kk (.bool false) st) (kk (.bool true) st)
  | _ => .bad "bits binop"

def binAV (P : Program) (t : TypeId) (op : BinOp) (x y : AV) (st : St) (kk : K) : T :=
  match x with
  | .flt k a => match y with
    | .flt l b => match fkEq k l with
      | true => binFlt op k a b st kk
      | false => .bad "kinds"
    | _ => .bad "binop"
  | .int k a => match y with
    | .int l b => match ikEq k l with
      | true => binInt op k a b st kk
      | false => .bad "kinds"
    | _ => .bad "binop"
  | .bool a => match y with
    | .bool b => binBool P t op a b st kk
    | _ => .bad "binop"
  | .bits k a => match y with
    | .bits l b => match fkEq k l with
      | true => binBits op k a b st kk
      | false => .bad "kinds"
    | .int l n => match op with
      | .andNot => match fkEq k .f64 && ikEq l .u64 && (n == (9223372036854775808 : Int)) with
        | true => kk (.abits a) st
        | false => .bad "andNot"
      | _ => .bad "bits"
    | _ => .bad "binop"
  | _ => .bad "binop"

def unAV (op : UnOp) (x : AV) (st : St) (kk : K) : T :=
  match op with
  | .not => match x with
    | .bool b => kk (.bool (!b)) st
    | _ => .bad "not"
  | .neg => match x with
    | .flt k a => .un .neg k a (kk (.flt k st.nn) st.up)
    | .int k n => kk (.int k (k.wrap (0 - n))) st
    | _ => .bad "neg"
  | _ => .bad "unop"

def convF (k : FloatKind) (x : AV) (st : St) (kk : K) : T :=
  match x with
  | .int _ n => cstF k (k.nearest n) st kk
  | .flt l a => match fkEq k l with
    | true => kk (.flt k a) st
    | false => match k with
      | .f64 => .un .widen .f32 a (kk (.flt .f64 st.nn) st.up)
      | .f32 => .un .narrow .f64 a (kk (.flt .f32 st.nn) st.up)
  | _ => .bad "convert"
def convAV (P : Program) (src dst : TypeId) (x : AV) (st : St) (kk : K) : T :=
  match P.underlying src with
  | none => .bad "convert"
  | some _ => match P.underlying dst with
    | some (.float k) => convF k x st kk
    | some (.int k) => match x with
      | .int _ n => kk (.int k (k.wrap n)) st
      | _ => .bad "convert"
    | _ => .bad "convert"

def fldOff (P : Program) (s : TypeId) (f : Nat) : Option Nat :=
  match P.underlying s with
  | some (.struct fs) => match fs[f]? with
    | some fd => match size? P fd.type with | some 0 => none | some _ => some fd.offset | none => none
    | none => none
  | _ => none

inductive Ext where | bits32 | frombits64 | bits64 | sqrt | rte
  deriving DecidableEq
def findE (f : FuncId) : List (FuncId × Ext) → Option Ext
  | [] => none
  | (g, e) :: r => match Nat.beq f g with | true => some e | false => findE f r

def extCall (e : Ext) (args : List AV) (st : St) (kk : K) : T :=
  match args with
  | [x] => match e with
    | .bits32 => match x with | .flt .f32 a => kk (.bits .f32 a) st | _ => .bad "ext"
    | .bits64 => match x with | .flt .f64 a => kk (.bits .f64 a) st | _ => .bad "ext"
    | .frombits64 => match x with
      | .int .u64 n => cstF .f64 n.toNat st kk
      | .abits a => .un .abs .f64 a (kk (.flt .f64 st.nn) st.up)
      | _ => .bad "ext"
    | .sqrt => match x with | .flt .f64 a => .un .sqrt .f64 a (kk (.flt .f64 st.nn) st.up) | _ => .bad "ext"
    | .rte => match x with | .flt .f64 a => .un .rte .f64 a (kk (.flt .f64 st.nn) st.up) | _ => .bad "ext"
  | _ => .bad "ext"

/-! Summaries -/
inductive SK where | f (k : FloatKind) | b | i (k : IntKind)
  deriving DecidableEq
/-- the shape of an argument: one scalar; a struct or an array; a pointer to cells; a slice over cells -/
inductive Sh where | val (s : SK) | agg (ss : List SK) | ptr (ss : List SK) | slice (len : Nat) (ss : List SK)
/-- the shape of a result; an integer with the values that it may have -/
inductive RK where | f (k : FloatKind) | b | i (k : IntKind) (may : List Int)
inductive Rs where | val (r : RK) | agg (rs : List RK)
structure Sum where
  idx : Nat
  args : List Sh
  res : List Rs

def rfOf (s : SK) (v : AV) : Option Rf :=
  match s with
  | .f k => match v with | .flt l a => (match fkEq k l with | true => some (.v a) | false => none) | _ => none
  | .b => match v with | .bool x => some (.b x) | _ => none
  | .i k => match v with | .int l n => (match ikEq k l with | true => some (.i k n) | false => none) | _ => none
def rfsOf : List SK → List AV → Option (List Rf)
  | [], [] => some []
  | s :: ss, v :: vs => match rfOf s v, rfsOf ss vs with
    | some r, some rs => some (r :: rs)
    | _, _ => none
  | _, _ => none
def rfsSh (heap : List (Nat × List AV)) (s : Sh) (v : AV) : Option (List Rf) :=
  match s with
  | .val k => rfsOf [k] [v]
  | .agg ks => match v with | .agg cs => rfsOf ks cs | _ => none
  | .ptr ks => match v with
    | .ptr b off => match findB b heap with
      | some cs => match takeAt off ks.length cs with | some vs => rfsOf ks vs | none => none
      | none => none
    | _ => none
  | .slice n ks => match v with
    | .slice b off len cap => match Nat.beq n len && Nat.beq n cap, findB b heap with
      | true, some cs => match takeAt off ks.length cs with | some vs => rfsOf ks vs | none => none
      | _, _ => none
    | _ => none
def rfsShs (heap : List (Nat × List AV)) : List Sh → List AV → Option (List Rf)
  | [], [] => some []
  | s :: ss, v :: vs => match rfsSh heap s v, rfsShs heap ss vs with
    | some r, some rs => some (r ++ rs)
    | _, _ => none
  | _, _ => none

def swInt (r : Nat) (k : IntKind) : List Int → (AV → T) → T
  | [], _ => .bad "sw"
  | n :: ns, kk => .sw r n (kk (.int k n)) (swInt r k ns kk)
/-- one scalar result, at r -/
def bindRK (q : RK) (r : Nat) (kk : AV → T) : T :=
  match q with
  | .f k => kk (.flt k r)
  | .b => .br r (kk (.bool true)) (kk (.bool false))
  | .i k may => swInt r k may kk
def bindRKs : List RK → Nat → (List AV → T) → T
  | [], _, kk => kk []
  | q :: qs, r, kk => bindRK q r fun v => bindRKs qs (Nat.add r 1) fun vs => kk (v :: vs)
def Rs.len : Rs → Nat | .val _ => 1 | .agg rs => rs.length
def bindRs (s : Rs) (r : Nat) (kk : AV → T) : T :=
  match s with
  | .val q => bindRK q r kk
  | .agg qs => bindRKs qs r fun vs => kk (.agg vs)
def bindRss : List Rs → Nat → (List AV → T) → T
  | [], _, kk => kk []
  | s :: ss, r, kk => bindRs s r fun v => bindRss ss (Nat.add r s.len) fun vs => kk (v :: vs)
def lens : List Rs → Nat
  | [] => 0
  | s :: ss => Nat.add s.len (lens ss)

def tupleOf (vs : List AV) : AV := match vs with | [v] => v | vs => .tuple vs

def callSum (s : Sum) (args : List AV) (st : St) (kk : K) : T :=
  match rfsShs st.heap s.args args with
  | none => .bad "callSum"
  | some rfs =>
    let n := lens s.res
    .call s.idx rfs n (bindRss s.res st.nn fun vs => kk (tupleOf vs) { st with nn := Nat.add st.nn n })

def findS (f : FuncId) : List (FuncId × Sum) → Option Sum
  | [] => none
  | (g, s) :: r => match Nat.beq f g with | true => some s | false => findS f r

section
variable (P : Program) (sm : List (FuncId × Sum)) (ex : List (FuncId × Ext)) (call : CallK)

def callF (f : FuncId) (args : List AV) (st : St) (kk : K) : T :=
  match findS f sm with
  | some s => callSum s args st kk
  | none => match findE f ex with
    | some e => extCall e args st kk
    | none => call f args st kk

variable (tm : Tr AV)
def kPick (a b : Operand) (kk : K) (cv : AV) (st : St) : T := match cv with
    | .bool true => opd tm a st kk
    | .bool false => opd tm b st kk
    | _ => .bad "pick"
def evAlloc (t : TypeId) (st : St) (kk : K) : T := match P.info? t with
    | some i => match i.zero with
      | some z => ofValues z.cells.toList st fun cs st => newB cs st fun b st => kk (.ptr b 0) st
      | none => .bad "alloc"
    | none => .bad "alloc"
def fillStruct (fs : Array Field) (j : Nat) : Option (Nat × Nat) := match fs[j]? with
  | some f => match size? P f.type with | some n => some (f.offset, n) | none => none
  | none => none
def evBuild (t : TypeId) (ps : Array (Nat × Operand)) (st : St) (kk : K) : T := opdParts tm ps.toList st fun vs st => match P.info? t with
    | some i => match i.zero with
      | some z => ofValues z.cells.toList st fun cs st => match P.underlying t with
        | some (.struct fs) => match fs.toList.all (fun f => (size? P f.type).isSome), fillA (fillStruct P fs) cs vs with
          | true, some cs => kk (.agg cs) st
          | _, _ => .bad "build"
        | some (.array _ e) => match size? P e with
          | some n => match fillA (fun j => some (Nat.mul j n, n)) cs vs with
            | some cs => kk (.agg cs) st
            | none => .bad "build"
          | none => .bad "build"
        | _ => .bad "build"
      | none => .bad "build"
    | none => .bad "build"
def evBuildSlice (t : TypeId) (len : Nat) (ps : Array (Nat × Operand)) (st : St) (kk : K) : T := opdParts tm ps.toList st fun vs st => match P.underlying t with
    | some (.slice e) => match P.info? e with
      | some i => match i.zero with
        | some z => match Nat.ble (Nat.mul len i.size) 1000 && Nat.beq z.cells.size i.size && Nat.blt 0 (Nat.mul len i.size) with
          | true => ofValues z.cells.toList st fun cs st =>
            match fillA (fun j => some (Nat.mul j i.size, i.size)) (List.replicate len cs).flatten vs with
            | some cs => newB cs st fun b st => kk (.slice b 0 len len) st
            | none => .bad "buildSlice"
          | false => .bad "buildSlice"
        | none => .bad "buildSlice"
      | none => .bad "buildSlice"
    | _ => .bad "buildSlice"
def evLoad (t : TypeId) (kk : K) (v : AV) (st : St) : T := match v with
    | .ptr b off => loadT P t b off st kk
    | _ => .bad "load ptr"
def evStore2 (t : TypeId) (kk : K) (v u : AV) (st : St) : T := match v with
    | .ptr b off => storeT P t b off u st fun st => kk .undef st
    | _ => .bad "store ptr"
def evNil (kk : K) (v : AV) (st : St) : T := match v with
    | .ptr .. => kk v st
    | _ => .bad "nilCheck"
def evBin (op : BinOp) (t : TypeId) (x y : Operand) (st : St) (kk : K) : T := opd tm x st fun v st => opd tm y st fun u st => binAV P t op v u st kk
def evStore (t : TypeId) (a x : Operand) (st : St) (kk : K) : T := opd tm a st fun v st => opd tm x st fun u st => evStore2 P t kk v u st
def evFieldAddr (s : TypeId) (f : Nat) (kk : K) (v : AV) (st : St) : T := match v with
    | .ptr b off => match fldOff P s f with
      | some d => kk (.ptr b (Nat.add off d)) st
      | none => .bad "fieldAddr"
    | _ => .bad "fieldAddr"
def inRange (n : Int) (len : Nat) : Bool := decide (0 ≤ n) && decide (n < len)
def evIndexAddr2 (t : TypeId) (kk : K) (v iv : AV) (st : St) : T := match iv with
    | .int _ n => match P.underlying t with
      | some (.array len e) => match v with
        | .ptr b off => match size? P e, inRange n len with
          | some s, true => kk (.ptr b (Nat.add off (Nat.mul n.toNat s))) st
          | _, _ => .bad "indexAddr"
        | _ => .bad "indexAddr"
      | some (.slice e) => match v with
        | .slice b off len _ => match size? P e, inRange n len with
          | some s, true => kk (.ptr b (Nat.add off (Nat.mul n.toNat s))) st
          | _, _ => .bad "indexAddr"
        | _ => .bad "indexAddr"
      | _ => .bad "indexAddr"
    | _ => .bad "indexAddr"
def evIndexAddr (t : TypeId) (x i : Operand) (st : St) (kk : K) : T := opd tm x st fun v st => opd tm i st fun iv st => evIndexAddr2 P t kk v iv st
def partAV (e : TypeId) (off : Nat) (cs : List AV) (st : St) (kk : K) : T :=
  match aggT P e, size? P e with
  | some true, some n => match takeAt off n cs with | some vs => kk (.agg vs) st | none => .bad "part"
  | some false, some _ => match cs[off]? with | some v => kk v st | none => .bad "part"
  | _, _ => .bad "part"
def evField (t : TypeId) (f : Nat) (kk : K) (v : AV) (st : St) : T := match v with
    | .agg cs => match P.underlying t with
      | some (.struct fs) => match fs[f]? with
        | some fd => partAV P fd.type fd.offset cs st kk
        | none => .bad "field"
      | _ => .bad "field"
    | _ => .bad "field"
def evIndex2 (t : TypeId) (kk : K) (v iv : AV) (st : St) : T := match v with
    | .agg cs => match iv with
      | .int _ n => match P.underlying t with
        | some (.array len e) => match size? P e, inRange n len with
          | some s, true => partAV P e (Nat.mul n.toNat s) cs st kk
          | _, _ => .bad "index"
        | _ => .bad "index"
      | _ => .bad "index"
    | _ => .bad "index"
def evIndex (t : TypeId) (x i : Operand) (st : St) (kk : K) : T := opd tm x st fun v st => opd tm i st fun iv st => evIndex2 P t kk v iv st
def evSlice (t : TypeId) (kk : K) (v : AV) (st : St) : T := match v with
    | .ptr b off => match P.underlying t with
      | some (.array n e) => match size? P e with
        | some _ => kk (.slice b off n n) st
        | none => .bad "slice"
      | _ => .bad "slice"
    | _ => .bad "slice"
def evSliceO (t : TypeId) (x : Operand) (l h m : Option Operand) (st : St) (kk : K) : T := match l, h, m with
    | none, none, none => opd tm x st (evSlice P t kk)
    | _, _, _ => .bad "slice"
def evExtract (i : Nat) (kk : K) (v : AV) (st : St) : T := match v with
    | .tuple vs => match vs[i]? with | some v => kk v st | none => .bad "extract"
    | _ => .bad "extract"
def evMakeFunc (fn : Fn) (first cs : Array Operand) (st : St) (kk : K) : T := match fn with
    | .func f => match first.size with
      | 0 => opds tm cs.toList st fun vs st => kk (.func f vs) st
      | _ => .bad "makeFunc"
    | _ => .bad "makeFunc"
def evCallV (kk : K) (fv : AV) (vs : List AV) (st : St) : T := match fv with
      | .func f cap => callF sm ex call f (vs ++ cap) st kk
      | _ => .bad "call"
def evLen (kk : K) (vs : List AV) (st : St) : T := match vs with
      | [.slice _ _ n _] => kk (.int .i64 n) st
      | [.nils] => kk (.int .i64 0) st
      | _ => .bad "len"
def evCall (c : Call) (st : St) (kk : K) : T := match c.callee with
    | .value fx => opd tm fx st fun fv st => opds tm c.args.toList st (evCallV sm ex call kk fv)
    | .builtin .len => match c.argTypes.toList with
      | [t] => match P.underlying t with
        | some (.slice _) => opds tm c.args.toList st (evLen kk)
        | _ => .bad "len"
      | _ => .bad "len"
    | _ => .bad "callee"

def evOp (tm : Tr AV) (o : Op) (st : St) (kk : K) : T :=
  match o with
  | .move x => opd tm x st kk
  | .assign x => opd tm x st kk
  | .pick c a b => opd tm c st (kPick tm a b kk)
  | .alloc t => evAlloc P t st kk
  | .box _ x => opd tm x st fun v st => newB v.cells st fun b st => kk (.ptr b 0) st
  | .build t ps => evBuild P tm t ps st kk
  | .buildSlice t len ps => evBuildSlice P tm t len ps st kk
  | .load t a => opd tm a st (evLoad P t kk)
  | .store t a x => evStore P tm t a x st kk
  | .nilCheck x => opd tm x st (evNil kk)
  | .binOp op t x y _ => evBin P tm op t x y st kk
  | .unOp op _ x => opd tm x st fun v st => unAV op v st kk
  | .convert src dst x => opd tm x st fun v st => convAV P src dst v st kk
  | .fieldAddr s x f => opd tm x st (evFieldAddr P s f kk)
  | .indexAddr t x i => evIndexAddr P tm t x i st kk
  | .field t x f => opd tm x st (evField P t f kk)
  | .index t x i => evIndex P tm t x i st kk
  | .slice t x l h m => evSliceO P tm t x l h m st kk
  | .extract x i => opd tm x st (evExtract i kk)
  | .makeFunc fn first cs => evMakeFunc tm fn first cs st kk
  | .call c => evCall P sm ex call tm c st kk
  | _ => .bad "op"

def setT (tm : Tr AV) (d : Option Tmp) (v : AV) : Tr AV := match d with | some t => tm.set t v | none => tm

def wants (ops : Array Oper) (tm : Tr AV) (o : Oper) : Bool :=
  match o.guard with
  | none => true
  | some (j, want) => match ((ops[j]?).bind (·.dst)).bind tm.get with
    | some (.bool b) => b == want
    | _ => false

/-- a region in the order of the text, nothing hidden -/
def runOps (ops : Array Oper) : List Oper → Tr AV → St → (Tr AV → St → T) → T
  | [], tm, st, kk => kk tm st
  | o :: r, tm, st, kk => match wants ops tm o with
    | false => runOps ops r (setT tm o.dst .undef) st kk
    | true => evOp P sm ex call tm o.op st fun v st => runOps ops r (setT tm o.dst v) st kk

def ownerOk (own : List (Nat × Nat)) (bef : Nat) (b : Nat) : Bool := match own with
  | [] => true
  | (j, lo) :: r => match Nat.ble lo b with
    | true => Nat.testBit bef j
    | false => ownerOk r bef b

def isStore : Op → Bool | .store .. => true | _ => false

def hideHeap (own : List (Nat × Nat)) (bef : Nat) : List (Nat × List AV) → List (Nat × List AV)
  | [] => []
  | (j, cs) :: r => match ownerOk own bef j with | true => (j, cs) :: hideHeap own bef r | false => hideHeap own bef r

def newOnes (lo hi : Nat) : List (Nat × List AV) → List (Nat × List AV) → List (Nat × List AV)
  | [], full => full
  | (j, cs) :: r, full => match Nat.ble lo j && Nat.blt j hi with | true => (j, cs) :: newOnes lo hi r full | false => full

def allVis (own : List (Nat × Nat)) (bef : Nat) : List (Nat × List AV) → Bool
  | [] => true
  | (j, _) :: r => ownerOk own bef j && allVis own bef r
def allLt (hi : Nat) : List (Nat × List AV) → Bool
  | [] => true
  | (j, _) :: r => Nat.blt j hi && allLt hi r

def idsEq : List (Nat × List AV) → List (Nat × List AV) → Bool
  | [], [] => true
  | (i, _) :: r, (j, _) :: s => Nat.beq i j && idsEq r s
  | _, _ => false

def looksAtMemory : Op → Bool
  | .load .. | .store .. | .call _ => true
  | _ => false

def isLoad : Op → Bool | .load .. => true | _ => false
def ptrB : Option AV → Option Nat
  | some v => match v with | .ptr b _ => some b | _ => none
  | none => none
/-- the block that a load or a store names -/
def tgt (tm : Tr AV) : Op → Option Nat
  | .load _ a => match a with | .tmp t => ptrB (tm.get t) | _ => none
  | .store _ a _ => match a with | .tmp t => ptrB (tm.get t) | _ => none
  | _ => none
def onlyB (b : Nat) (h : List (Nat × List AV)) : List (Nat × List AV) := match findB b h with | some cs => [(b, cs)] | none => []
/-- a load and a store of one block are ordered -/
def acOk (sto : Bool) (b bef : Nat) : List (Nat × Bool × Nat) → Bool
  | [] => true
  | (i, s, c) :: r => (s == sto || !Nat.beq c b || Nat.testBit bef i) && acOk sto b bef r
def stepAc (tm : Tr AV) (o : Op) (j bef : Nat) (ac : List (Nat × Bool × Nat)) : Option (List (Nat × Bool × Nat)) :=
  match isStore o || isLoad o with
  | false => some ac
  | true => match tgt tm o with
    | some b => match acOk (isStore o) b bef ac with
      | true => some ((j, isStore o, b) :: ac)
      | false => none
    | none => none
/-- what an operation that is no store sees of the heap -/
def visOf (tm : Tr AV) (o : Op) (own : List (Nat × Nat)) (bef : Nat) (h : List (Nat × List AV)) : List (Nat × List AV) :=
  match looksAtMemory o with
  | false => []
  | true => match isLoad o with
    | true => match tgt tm o with | some b => onlyB b (hideHeap own bef h) | none => []
    | false => hideHeap own bef h

/-- a region that draws: an operation that looks at memory sees the blocks of the operations before it alone (a load: its own block); any other sees none -/
def runDraw (ops : Array Oper) : Nat → List Oper → List Nat → List (Nat × Nat) → List (Nat × Bool × Nat) → Tr AV → St → (Tr AV → St → T) → T
  | j, o :: r, bef :: bs, own, ac, tm, st, kk => match wants ops tm o with
    | false => runDraw ops (Nat.add j 1) r bs own ac (setT tm o.dst .undef) st kk
    | true => match stepAc tm o.op j bef ac with
      | none => .bad "apart"
      | some ac' => match isStore o.op with
        | true => match allVis own bef st.heap with
          | true => evOp P sm ex call tm o.op st fun v st' => match idsEq st'.heap st.heap with
            | true => runDraw ops (Nat.add j 1) r bs ((j, st.next) :: own) ac' (setT tm o.dst v) st' kk
            | false => .bad "idsEq"
          | false => .bad "allVis"
        | false => evOp P sm ex call tm o.op { st with heap := visOf tm o.op own bef st.heap, wlo := st.next } fun v st' =>
            runDraw ops (Nat.add j 1) r bs ((j, st.next) :: own) ac' (setT tm o.dst v) { st' with heap := newOnes st.next st'.next st'.heap st.heap, wlo := st.wlo } kk
  | _, [], _, _, _, tm, st, kk => kk tm st
  | _, _ :: _, [], _, _, _, _, _ => .bad "befores"
def runDraw0 (ops : Array Oper) (tm : Tr AV) (st : St) (kk : Tr AV → St → T) : T :=
  match allLt st.next st.heap && Nat.ble st.wlo st.next with
  | true => runDraw P sm ex call ops 0 ops.toList (Go.Region.before ops).toList [] [] tm st kk
  | false => .bad "draw"

inductive Ex where | normal | ret | exit (id : Nat)

def runCode : Nat → Code → Tr AV → St → (Ex → Tr AV → St → T) → T
  | 0, _, _, _, _ => .bad "fuel"
  | n + 1, c, tm, st, kk => match c with
    | .skip => kk .normal tm st
    | .region _ ops draw => match draw with
      | false => runOps P sm ex call ops ops.toList tm st (kk .normal)
      | true => runDraw0 P sm ex call ops tm st (kk .normal)
    | .seq a b => runCode n a tm st fun e tm st => match e with
      | .normal => runCode n b tm st kk
      | e => kk e tm st
    | .cond x a b => opd tm x st fun v st => match v with
      | .bool true => runCode n a tm st kk
      | .bool false => runCode n b tm st kk
      | _ => .bad "cond"
    | .block id b => runCode n b tm st fun e tm st => match e with
      | .exit j => match Nat.beq id j with | true => kk .normal tm st | false => kk (.exit j) tm st
      | e => kk e tm st
    | .loop b => runCode n b tm st fun e tm st => match e with
      | .normal => runCode n (.loop b) tm st kk
      | e => kk e tm st
    | .scope b => runCode n b tm st kk
    | .exit id => kk (.exit id) tm st
    | .label _ => kk .normal tm st
    | .ret => kk .ret tm st
    | _ => .bad "code"

def resVals : List ResultVar → Tr AV → St → (List AV → T) → T
  | [], _, _, kk => kk []
  | .tmp t :: r, tm, st, kk => resVals r tm st fun vs => kk ((match tm.get t with | some v => v | none => .undef) :: vs)
  | .cell a t :: r, tm, st, kk => match tm.get a with
    | some (.ptr b off) => loadT P t b off st fun v _ => resVals r tm st fun vs => kk (v :: vs)
    | _ => .bad "result"

def setArgs : Nat → List AV → Tr AV → Tr AV
  | _, [], tm => tm
  | i, v :: vs, tm => setArgs (Nat.add i 1) vs (tm.set i v)
end

/-- what is asked of a region that draws: each edge that binds leads back; no temporary's writer and reader or writer are unordered; no store and no operation that looks at memory are unordered -/
def namesOf (ops : Array Oper) (o : Oper) : List Tmp := o.dst.toList ++ (o.op.operands.toList.filterMap fun | .tmp t => some t | _ => none) ++ (match o.guard with | some (j, _) => ((ops[j]?).bind (·.dst)).toList | none => [])
def apartD (ops : Array Oper) (o p : Oper) : Bool := match o.dst with | some d => !(namesOf ops p).contains d | none => true
/-- a store, and what an order must bind to it whatever the blocks are -/
def hard (o p : Op) : Bool := isStore o && looksAtMemory p && !isLoad p
def drawOk (ops : Array Oper) : Bool :=
  let b := Go.Region.before ops
  let l := ops.toList.zipIdx
  l.all fun (o, i) => o.after.all (fun e => !Go.Region.binds .any e || Nat.blt e.on i) &&
    l.all fun (p, j) => !Nat.blt j i || (b.getD i 0).testBit j ||
      (!hard o.op p.op && !hard p.op o.op && apartD ops o p && apartD ops p o)
def dstOk (n : Nat) (o : Oper) : Bool := match o.dst with | some d => Nat.blt d n | none => true
def codeOk (n : Nat) : Code → Bool
  | .region _ ops draw => ops.toList.all (dstOk n) && (match draw with | true => drawOk ops | false => true)
  | .seq a b | .cond _ a b => codeOk n a && codeOk n b
  | .block _ b | .loop b | .scope b => codeOk n b
  | _ => true

section
variable (P : Program) (sm : List (FuncId × Sum)) (ex : List (FuncId × Ext))
def runFn : Nat → CallK
  | 0, _, _, _, _ => .bad "depth"
  | n + 1, f, args, st, kk => match P.funcs[f]? with
    | none => .bad "no func"
    | some fn => match fn.body with
      | none => .bad "no body"
      | some c => match fn.name == "runtime.NumGoroutine", codeOk fn.ntmps c with
        | false, true =>
         runCode P sm ex (runFn n) 100000 c (setArgs 0 args .nil) st fun e tm st' => match e with
          | .exit _ => .bad "exit"
          | _ => resVals P fn.results.toList tm st' fun vs =>
            match (tupleOf vs).low st.next with
            | true => kk (tupleOf vs) { st' with heap := dropHeap st.next st'.heap }
            | false => kk (tupleOf vs) st'
        | _, _ => .bad "codeOk"

/-- the arguments of a summary, out of an environment from r on -/
def argRK (s : SK) (r : Nat) (kk : AV → T) : T := match s with
  | .f k => kk (.flt k r)
  | _ => .bad "arg"
def argSKs : List SK → Nat → (List AV → T) → T
  | [], _, kk => kk []
  | s :: ss, r, kk => argRK s r fun v => argSKs ss (Nat.add r 1) fun vs => kk (v :: vs)
def argSh (s : Sh) (st : St) (kk : AV → St → T) : T := match s with
  | .val k => argRK k st.nn fun v => kk v { st with nn := Nat.add st.nn 1 }
  | .agg ks => argSKs ks st.nn fun vs => kk (.agg vs) { st with nn := Nat.add st.nn ks.length }
  | .ptr ks => argSKs ks st.nn fun vs => kk (.ptr st.next 0) { st with nn := Nat.add st.nn ks.length, heap := (st.next, vs) :: st.heap, next := Nat.add st.next 1, wlo := Nat.add st.next 1 }
  | .slice n ks => argSKs ks st.nn fun vs => kk (.slice st.next 0 n n) { st with nn := Nat.add st.nn ks.length, heap := (st.next, vs) :: st.heap, next := Nat.add st.next 1, wlo := Nat.add st.next 1 }
def argShs : List Sh → St → (List AV → St → T) → T
  | [], st, kk => kk [] st
  | s :: ss, st, kk => argSh s st fun v st => argShs ss st fun vs st => kk (v :: vs) st

def rfR (q : RK) (v : AV) : Option Rf := match q with
  | .f k => rfOf (.f k) v
  | .b => rfOf .b v
  | .i k _ => rfOf (.i k) v
def rfRs : List RK → List AV → Option (List Rf)
  | [], [] => some []
  | s :: ss, v :: vs => match rfR s v, rfRs ss vs with
    | some r, some rs => some (r :: rs)
    | _, _ => none
  | _, _ => none
def rfRes (s : Rs) (v : AV) : Option (List Rf) := match s with
  | .val q => rfRs [q] [v]
  | .agg qs => match v with | .agg cs => rfRs qs cs | _ => none
def rfRess : List Rs → List AV → Option (List Rf)
  | [], [] => some []
  | s :: ss, v :: vs => match rfRes s v, rfRess ss vs with
    | some r, some rs => some (r ++ rs)
    | _, _ => none
  | _, _ => none
def unTuple (n : Nat) (v : AV) : List AV := match n with
  | 1 => [v]
  | _ => match v with | .tuple vs => vs | _ => [.undef]

/-- the tree of a function at a shape -/
def treeOf (f : FuncId) (s : Sum) : T :=
  argShs s.args { nn := 0, heap := [], next := 0, wlo := 0 } fun vs st =>
    runFn P sm ex 1000 f vs st fun v _ => match rfRess s.res (unTuple s.res.length v) with
      | some rs => .ret rs
      | none => .bad "res"
end
end Go.Proofs.YtejbahdihfnbcaaDoor.Sx

/- The relation between the evaluator's values and the model's. -/
namespace Go.Proofs.YtejbahdihfnbcaaDoor.Sx
open Go

def FRel (k : FloatKind) (b : Nat) (d : Option Nat) : Prop := fltOk k b = true ∧ canon k b = d
def ik : FloatKind → IntKind | .f32 => .u32 | .f64 => .u64
abbrev Th := Nat → Option (Nat × Nat)

mutual
def Rel (env : List Sc) (θ : Th) : AV → Value → Prop
  | .undef, v => v = .tuple #[]
  | .bool b, v => v = .bool b
  | .int k n, v => v = .int k n
  | .flt k r, v => ∃ d b, env[r]? = some (.f k d) ∧ v = .float k b ∧ FRel k b d
  | .bits k r, v => ∃ d b, env[r]? = some (.f k d) ∧ v = .int (ik k) (b : Nat) ∧ FRel k b d
  | .abits r, v => ∃ d b, env[r]? = some (.f .f64 d) ∧ v = .int .u64 ((b % 2 ^ 63 : Nat) : Int) ∧ FRel .f64 b d
  | .ptr b off, v => ∃ r base, θ b = some (r, base) ∧ v = .pointer (some ⟨r, base + off, none⟩)
  | .slice b off len cap, v => ∃ r base, θ b = some (r, base) ∧ v = .slice (some ⟨r, base + off, none⟩) len cap
  | .nils, v => v = .slice none 0 0
  | .func f cap, v => ∃ vs, v = .func (.func f) #[] ⟨vs⟩ ∧ RelL env θ cap vs
  | .agg cs, v => ∃ vs, v = .agg ⟨vs⟩ ∧ RelL env θ cs vs
  | .tuple cs, v => ∃ vs, v = .tuple ⟨vs⟩ ∧ RelL env θ cs vs
def RelL (env : List Sc) (θ : Th) : List AV → List Value → Prop
  | [], vs => vs = []
  | c :: cs, vs => ∃ v vs', vs = v :: vs' ∧ Rel env θ c v ∧ RelL env θ cs vs'
end

def Pfx (e e' : List Sc) : Prop := ∃ x, e' = e ++ x
theorem Pfx.refl (e : List Sc) : Pfx e e := ⟨[], by simp⟩
theorem Pfx.trans {a b c : List Sc} (h : Pfx a b) (k : Pfx b c) : Pfx a c := by
  obtain ⟨x, rfl⟩ := h; obtain ⟨y, rfl⟩ := k; exact ⟨x ++ y, by simp⟩
theorem Pfx.get {e e' : List Sc} (h : Pfx e e') {i : Nat} {x : Sc} (hx : e[i]? = some x) : e'[i]? = some x := by
  obtain ⟨y, rfl⟩ := h
  rw [List.getElem?_append_left]
  · exact hx
  · exact (List.getElem?_eq_some_iff.1 hx).1
theorem Pfx.len {e e' : List Sc} (h : Pfx e e') : e.length ≤ e'.length := by
  obtain ⟨y, rfl⟩ := h; simp

def ThLe (θ θ' : Th) : Prop := ∀ i x, θ i = some x → θ' i = some x
theorem ThLe.refl (θ : Th) : ThLe θ θ := fun _ _ h => h
theorem ThLe.trans {a b c : Th} (h : ThLe a b) (k : ThLe b c) : ThLe a c := fun i x hx => k i x (h i x hx)

mutual
theorem Rel.mono {e e' : List Sc} {θ θ' : Th} (he : Pfx e e') (ht : ThLe θ θ') : ∀ (a : AV) (v : Value), Rel e θ a v → Rel e' θ' a v
  | .undef, v, h => h
  | .bool b, v, h => h
  | .int k n, v, h => h
  | .nils, v, h => h
  | .flt k r, v, h => by
    simp only [Rel] at h ⊢; obtain ⟨d, b, h1, h2, h3⟩ := h; exact ⟨d, b, he.get h1, h2, h3⟩
  | .bits k r, v, h => by
    simp only [Rel] at h ⊢; obtain ⟨d, b, h1, h2, h3⟩ := h; exact ⟨d, b, he.get h1, h2, h3⟩
  | .abits r, v, h => by
    simp only [Rel] at h ⊢; obtain ⟨d, b, h1, h2, h3⟩ := h; exact ⟨d, b, he.get h1, h2, h3⟩
  | .ptr b off, v, h => by
    simp only [Rel] at h ⊢; obtain ⟨r, s, h1, h2⟩ := h; exact ⟨r, s, ht _ _ h1, h2⟩
  | .slice b off len cap, v, h => by
    simp only [Rel] at h ⊢; obtain ⟨r, s, h1, h2⟩ := h; exact ⟨r, s, ht _ _ h1, h2⟩
  | .func f cap, v, h => by
    simp only [Rel] at h ⊢; obtain ⟨vs, h1, h2⟩ := h; exact ⟨vs, h1, RelL.mono he ht cap vs h2⟩
  | .agg cs, v, h => by
    simp only [Rel] at h ⊢; obtain ⟨vs, h1, h2⟩ := h; exact ⟨vs, h1, RelL.mono he ht cs vs h2⟩
  | .tuple cs, v, h => by
    simp only [Rel] at h ⊢; obtain ⟨vs, h1, h2⟩ := h; exact ⟨vs, h1, RelL.mono he ht cs vs h2⟩
theorem RelL.mono {e e' : List Sc} {θ θ' : Th} (he : Pfx e e') (ht : ThLe θ θ') : ∀ (a : List AV) (v : List Value), RelL e θ a v → RelL e' θ' a v
  | [], v, h => h
  | c :: cs, v, h => by
    simp only [RelL] at h ⊢; obtain ⟨x, xs, h1, h2, h3⟩ := h; exact ⟨x, xs, h1, Rel.mono he ht c x h2, RelL.mono he ht cs xs h3⟩
end

/-! Lists -/
theorem RelL.nil {e : List Sc} {θ : Th} : RelL e θ [] [] := by simp [RelL]
theorem RelL.cons {e : List Sc} {θ : Th} {c : AV} {cs : List AV} {v : Value} {vs : List Value} (h : Rel e θ c v) (t : RelL e θ cs vs) : RelL e θ (c :: cs) (v :: vs) := by
  simp only [RelL]; exact ⟨v, vs, rfl, h, t⟩
theorem RelL.length {e : List Sc} {θ : Th} : ∀ {cs : List AV} {vs : List Value}, RelL e θ cs vs → vs.length = cs.length
  | [], vs, h => by simp only [RelL] at h; subst h; rfl
  | c :: cs, vs, h => by
    simp only [RelL] at h; obtain ⟨x, xs, rfl, _, h3⟩ := h
    simp [RelL.length h3]
theorem RelL.get {e : List Sc} {θ : Th} : ∀ {cs : List AV} {vs : List Value}, RelL e θ cs vs → ∀ {i : Nat} {c : AV}, cs[i]? = some c → ∃ v, vs[i]? = some v ∧ Rel e θ c v
  | [], vs, h, i, c, hc => by simp at hc
  | c :: cs, vs, h, i, d, hc => by
    simp only [RelL] at h; obtain ⟨x, xs, rfl, h2, h3⟩ := h
    cases i with
    | zero => simp at hc; subst hc; exact ⟨x, by simp, h2⟩
    | succ i =>
      obtain ⟨v, hv, hr⟩ := RelL.get h3 (i := i) (by simpa using hc)
      exact ⟨v, by simpa using hv, hr⟩
theorem RelL.append {e : List Sc} {θ : Th} : ∀ {cs ds : List AV} {vs ws : List Value}, RelL e θ cs vs → RelL e θ ds ws → RelL e θ (cs ++ ds) (vs ++ ws)
  | [], ds, vs, ws, h, k => by simp only [RelL] at h; subst h; simpa using k
  | c :: cs, ds, vs, ws, h, k => by
    simp only [RelL] at h; obtain ⟨x, xs, rfl, h2, h3⟩ := h
    exact RelL.cons h2 (RelL.append h3 k)
theorem RelL.drop {e : List Sc} {θ : Th} : ∀ (n : Nat) {cs : List AV} {vs : List Value}, RelL e θ cs vs → RelL e θ (cs.drop n) (vs.drop n)
  | 0, cs, vs, h => by simpa using h
  | n + 1, [], vs, h => by simp only [RelL] at h; subst h; simp [RelL]
  | n + 1, c :: cs, vs, h => by
    simp only [RelL] at h; obtain ⟨x, xs, rfl, h2, h3⟩ := h
    simpa using RelL.drop n h3
theorem RelL.take {e : List Sc} {θ : Th} : ∀ (n : Nat) {cs : List AV} {vs : List Value}, RelL e θ cs vs → RelL e θ (cs.take n) (vs.take n)
  | 0, cs, vs, h => by simp [RelL]
  | n + 1, [], vs, h => by simp only [RelL] at h; subst h; simp [RelL]
  | n + 1, c :: cs, vs, h => by
    simp only [RelL] at h; obtain ⟨x, xs, rfl, h2, h3⟩ := h
    simpa using RelL.cons h2 (RelL.take n h3)
theorem RelL.of_get {e : List Sc} {θ : Th} : ∀ {cs : List AV} {vs : List Value}, vs.length = cs.length → (∀ (i : Nat) (c : AV) (v : Value), cs[i]? = some c → vs[i]? = some v → Rel e θ c v) → RelL e θ cs vs
  | [], vs, h, _ => by simp at h; subst h; exact RelL.nil
  | c :: cs, [], h, _ => by simp at h
  | c :: cs, v :: vs, h, k => RelL.cons (k 0 c v rfl rfl) (RelL.of_get (by simpa using h) (fun i a b ha hb => k (i + 1) a b (by simpa using ha) (by simpa using hb)))

theorem Rel.agg {e : List Sc} {θ : Th} {cs : List AV} {vs : List Value} (h : RelL e θ cs vs) : Rel e θ (.agg cs) (.agg ⟨vs⟩) := by simp only [Rel]; exact ⟨vs, rfl, h⟩
theorem Rel.tuple {e : List Sc} {θ : Th} {cs : List AV} {vs : List Value} (h : RelL e θ cs vs) : Rel e θ (.tuple cs) (.tuple ⟨vs⟩) := by simp only [Rel]; exact ⟨vs, rfl, h⟩

theorem Rel.cells {e : List Sc} {θ : Th} {a : AV} {v : Value} (h : Rel e θ a v) : RelL e θ a.cells v.cells.toList := by
  cases a with
  | agg cs => simp only [Rel] at h; obtain ⟨vs, rfl, h⟩ := h; simpa [AV.cells, Value.cells] using h
  | undef => have h' := h; simp only [Rel] at h; subst h; exact RelL.cons h' RelL.nil
  | bool b => have h' := h; simp only [Rel] at h; subst h; exact RelL.cons h' RelL.nil
  | nils => have h' := h; simp only [Rel] at h; subst h; exact RelL.cons h' RelL.nil
  | int k n => have h' := h; simp only [Rel] at h; subst h; exact RelL.cons h' RelL.nil
  | flt k r => have h' := h; simp only [Rel] at h; obtain ⟨d, b, _, rfl, _⟩ := h; exact RelL.cons h' RelL.nil
  | bits k r => have h' := h; simp only [Rel] at h; obtain ⟨d, b, _, rfl, _⟩ := h; exact RelL.cons h' RelL.nil
  | abits r => have h' := h; simp only [Rel] at h; obtain ⟨d, b, _, rfl, _⟩ := h; exact RelL.cons h' RelL.nil
  | ptr b o => have h' := h; simp only [Rel] at h; obtain ⟨d, b, _, rfl⟩ := h; exact RelL.cons h' RelL.nil
  | slice b o l c => have h' := h; simp only [Rel] at h; obtain ⟨d, b, _, rfl⟩ := h; exact RelL.cons h' RelL.nil
  | func f c => have h' := h; simp only [Rel] at h; obtain ⟨d, rfl, _⟩ := h; exact RelL.cons h' RelL.nil
  | tuple c => have h' := h; simp only [Rel] at h; obtain ⟨d, rfl, _⟩ := h; exact RelL.cons h' RelL.nil

/-! no block of lo or more is met: other names there do not matter -/
mutual
theorem Rel.low {e : List Sc} {θ θ' : Th} {lo : Nat} (ht : ∀ i, i < lo → θ' i = θ i) : ∀ (a : AV) (v : Value), a.low lo = true → Rel e θ a v → Rel e θ' a v
  | .undef, v, _, h => h
  | .bool b, v, _, h => h
  | .int k n, v, _, h => h
  | .nils, v, _, h => h
  | .flt k r, v, _, h => by simp only [Rel] at h ⊢; exact h
  | .bits k r, v, _, h => by simp only [Rel] at h ⊢; exact h
  | .abits r, v, _, h => by simp only [Rel] at h ⊢; exact h
  | .ptr b off, v, l, h => by
    simp only [Rel] at h ⊢; obtain ⟨r, s, h1, h2⟩ := h
    simp [AV.low, Nat.blt] at l
    exact ⟨r, s, by rw [ht _ (by omega)]; exact h1, h2⟩
  | .slice b off len cap, v, l, h => by
    simp only [Rel] at h ⊢; obtain ⟨r, s, h1, h2⟩ := h
    simp [AV.low, Nat.blt] at l
    exact ⟨r, s, by rw [ht _ (by omega)]; exact h1, h2⟩
  | .func f cap, v, l, h => by
    simp only [Rel] at h ⊢; obtain ⟨vs, h1, h2⟩ := h; exact ⟨vs, h1, RelL.low ht cap vs (by simpa [AV.low] using l) h2⟩
  | .agg cs, v, l, h => by
    simp only [Rel] at h ⊢; obtain ⟨vs, h1, h2⟩ := h; exact ⟨vs, h1, RelL.low ht cs vs (by simpa [AV.low] using l) h2⟩
  | .tuple cs, v, l, h => by
    simp only [Rel] at h ⊢; obtain ⟨vs, h1, h2⟩ := h; exact ⟨vs, h1, RelL.low ht cs vs (by simpa [AV.low] using l) h2⟩
theorem RelL.low {e : List Sc} {θ θ' : Th} {lo : Nat} (ht : ∀ i, i < lo → θ' i = θ i) : ∀ (a : List AV) (v : List Value), AV.low.go lo a = true → RelL e θ a v → RelL e θ' a v
  | [], v, _, h => h
  | c :: cs, v, l, h => by
    simp only [RelL] at h ⊢; obtain ⟨x, xs, h1, h2, h3⟩ := h
    simp [AV.low.go] at l
    exact ⟨x, xs, h1, Rel.low ht c x l.1 h2, RelL.low ht cs xs l.2 h3⟩
end

/-! Tries -/
theorem Tr.get_nil {α : Type} (k : Nat) : (Tr.nil : Tr α).get k = none := rfl
theorem Tr.get_setF {α : Type} (x : α) : ∀ (n : Nat) (t : Tr α) (k j : Nat), k ≤ n → (t.setF x n k).get j = if j = k then some x else t.get j := by
  intro n
  induction n with
  | zero =>
    intro t k j hk
    obtain rfl : k = 0 := by omega
    cases j with
    | zero => simp [Tr.setF, Tr.get]
    | succ j =>
      cases t <;> simp [Tr.setF, Tr.get, Tr.left, Tr.right, Nat.beq]
      split <;> rfl
  | succ n ih =>
    intro t k j hk
    unfold Tr.setF
    cases hk0 : Nat.beq k 0 with
    | true =>
      obtain rfl : k = 0 := Nat.eq_of_beq_eq_true hk0
      cases j with
      | zero => simp [Tr.get]
      | succ j =>
        cases t <;> simp [Tr.get, Tr.left, Tr.right, Nat.beq]
        split <;> rfl
    | false =>
      have hk1 : k ≠ 0 := by rintro rfl; simp at hk0
      cases hm : Nat.beq (Nat.mod k 2) 1 with
      | true =>
        have hm' : k % 2 = 1 := Nat.eq_of_beq_eq_true hm
        simp only [Tr.get]
        cases hj0 : Nat.beq j 0 with
        | true =>
          obtain rfl : j = 0 := Nat.eq_of_beq_eq_true hj0
          cases t <;> simp [Tr.get, Tr.here, hk1.symm]
        | false =>
          have hj1 : j ≠ 0 := by rintro rfl; simp at hj0
          cases hjm : Nat.beq (Nat.mod j 2) 1 with
          | true =>
            have hjm' : j % 2 = 1 := Nat.eq_of_beq_eq_true hjm
            simp only []
            rw [ih _ _ _ (by show k / 2 ≤ n; omega)]
            have : (Nat.div j 2 = Nat.div k 2) ↔ j = k := by show (j / 2 = k / 2) ↔ _; omega
            by_cases e : j = k
            · simp [e]
            · rw [if_neg (by rw [this]; exact e), if_neg e]
              cases t <;> simp [Tr.get, Tr.left, hj0, hjm]
          | false =>
            have hne : j ≠ k := by rintro rfl; rw [hm] at hjm; cases hjm
            rw [if_neg hne]
            cases t <;> simp [Tr.get, Tr.right, hj0, hjm]
      | false =>
        have hm' : k % 2 ≠ 1 := by intro h; rw [show Nat.mod k 2 = 1 from h] at hm; simp at hm
        simp only [Tr.get]
        cases hj0 : Nat.beq j 0 with
        | true =>
          obtain rfl : j = 0 := Nat.eq_of_beq_eq_true hj0
          cases t <;> simp [Tr.get, Tr.here, hk1.symm]
        | false =>
          have hj1 : j ≠ 0 := by rintro rfl; simp at hj0
          cases hjm : Nat.beq (Nat.mod j 2) 1 with
          | true =>
            have hne : j ≠ k := by rintro rfl; rw [hm] at hjm; cases hjm
            rw [if_neg hne]
            cases t <;> simp [Tr.get, Tr.left, hj0, hjm]
          | false =>
            have hjm' : j % 2 ≠ 1 := by intro h; rw [show Nat.mod j 2 = 1 from h] at hjm; simp at hjm
            simp only []
            rw [ih _ _ _ (by show k / 2 - 1 ≤ n; omega)]
            have : (Nat.sub (Nat.div j 2) 1 = Nat.sub (Nat.div k 2) 1) ↔ j = k := by show (j / 2 - 1 = k / 2 - 1) ↔ _; omega
            by_cases e : j = k
            · simp [e]
            · rw [if_neg (by rw [this]; exact e), if_neg e]
              cases t <;> simp [Tr.get, Tr.right, hj0, hjm]
theorem Tr.get_set {α : Type} (t : Tr α) (k j : Nat) (x : α) : (t.set k x).get j = if j = k then some x else t.get j :=
  Tr.get_setF x k t k j (Nat.le_refl _)

/-! The temporaries -/
def look (tm : Tr AV) (t : Nat) : AV := match tm.get t with | some v => v | none => .undef
def TmRel (env : List Sc) (θ : Th) (tm : Tr AV) (tmps : Array Value) : Prop := ∀ t, Rel env θ (look tm t) (tmps.getD t undef)

/-! Memory -/
def BRel (env : List Sc) (θ : Th) (ro : Nat) (w : World) (id : Nat) (cs : List AV) : Prop :=
  ∃ r base vs e fz, θ id = some (r, base) ∧ w.heap[r]? = some (.cells vs e fz) ∧ (ro ≤ id → fz = (0, 0)) ∧
    ∀ j c, cs[j]? = some c → ∃ v, vs[base + j]? = some v ∧ Rel env θ c v
def WRel (env : List Sc) (θ : Th) (ro : Nat) (heap : List (Nat × List AV)) (w : World) : Prop :=
  ∀ id cs, findB id heap = some cs → BRel env θ ro w id cs
def Inj (θ : Th) (ro : Nat) (w : World) : Prop :=
  (∀ i r b, θ i = some (r, b) → r < w.heap.size) ∧ ∀ i j r b b', ro ≤ i → θ i = some (r, b) → θ j = some (r, b') → i = j
def Fresh (θ : Th) (lo hi : Nat) : Prop := ∀ i, lo ≤ i → i < hi → θ i = none

/-- one step of the world: blocks lo .. hi have been made, blocks from wlo on may have been written -/
structure Stp (θ θ' : Th) (lo hi wlo : Nat) (w w' : World) : Prop where
  ext : ThLe θ θ'
  new : ∀ i r b, θ' i = some (r, b) → θ i = none → lo ≤ i ∧ i < hi ∧ w.heap.size ≤ r ∧ r < w'.heap.size
  inj : ∀ i j r b b', θ i = none → θ j = none → θ' i = some (r, b) → θ' j = some (r, b') → i = j
  os : w'.os = w.os
  tape : w'.tape = w.tape
  output : w'.output = w.output
  size : w.heap.size ≤ w'.heap.size
  block : ∀ r, r < w.heap.size → (∀ i b, wlo ≤ i → i < hi → θ i ≠ some (r, b)) → w'.heap[r]? = w.heap[r]?

theorem Stp.refl (θ : Th) (lo hi wlo : Nat) (w : World) : Stp θ θ lo hi wlo w w :=
  ⟨ThLe.refl _, fun i r b h k => (by rw [h] at k; cases k), fun i j r b b' h _ k => (by rw [h] at k; cases k), rfl, rfl, rfl, Nat.le_refl _, fun _ _ _ => rfl⟩

theorem Stp.drew {θ θ' : Th} {lo hi wlo : Nat} {w w' : World} (h : Stp θ θ' lo hi wlo w w') (n : Nat) : Stp θ θ' lo hi wlo w { w' with drawn := n } :=
  ⟨h.ext, h.new, h.inj, h.os, h.tape, h.output, h.size, h.block⟩

theorem Stp.trans {θ1 θ2 θ3 : Th} {lo mid hi wlo : Nat} {w1 w2 w3 : World} (h : Stp θ1 θ2 lo mid wlo w1 w2) (k : Stp θ2 θ3 mid hi wlo w2 w3)
    (h1 : lo ≤ mid) (h2 : mid ≤ hi) : Stp θ1 θ3 lo hi wlo w1 w3 := by
  refine ⟨h.ext.trans k.ext, ?_, ?_, k.os.trans h.os, k.tape.trans h.tape, k.output.trans h.output, Nat.le_trans h.size k.size, ?_⟩
  · intro i r b h3 hn
    cases h2' : θ2 i with
    | none =>
      obtain ⟨a1, a2, a3, a4⟩ := k.new i r b h3 h2'
      have := h.size
      exact ⟨by omega, a2, by omega, a4⟩
    | some x =>
      have := k.ext i x h2'
      rw [h3] at this; cases this
      obtain ⟨a1, a2, a3, a4⟩ := h.new i r b h2' hn
      have := k.size
      exact ⟨a1, by omega, a3, by omega⟩
  · intro i j r b b' hi hj h3 h3'
    cases e : θ2 i with
    | none =>
      cases e' : θ2 j with
      | none => exact k.inj i j r b b' e e' h3 h3'
      | some y =>
        have := k.ext j y e'; rw [h3'] at this; cases this
        have p := k.new i r b h3 e
        have q := h.new j r b' e' hj
        omega
    | some x =>
      have := k.ext i x e; rw [h3] at this; cases this
      cases e' : θ2 j with
      | none =>
        have p := k.new j r b' h3' e'
        have q := h.new i r b e hi
        omega
      | some y =>
        have := k.ext j y e'; rw [h3'] at this; cases this
        exact h.inj i j r b b' hi hj e e'
  · intro r hr hno
    rw [k.block r (Nat.lt_of_lt_of_le hr h.size) ?_, h.block r hr (fun i b hw hl => hno i b hw (by omega))]
    intro i b hw hl h2'
    cases e : θ1 i with
    | none =>
      have q := h.new i r b h2' e
      omega
    | some x =>
      have := h.ext i x e; rw [h2'] at this; cases this
      exact hno i b hw hl e

theorem Inj.step {θ θ' : Th} {ro lo hi wlo : Nat} {w w' : World} (h : Inj θ ro w) (k : Stp θ θ' lo hi wlo w w') : Inj θ' ro w' := by
  refine ⟨?_, ?_⟩
  · intro i r b h'
    cases e : θ i with
    | none => exact (k.new i r b h' e).2.2.2
    | some x =>
      have := k.ext i x e; rw [h'] at this; cases this
      exact Nat.lt_of_lt_of_le (h.1 i r b e) k.size
  · intro i j r b b' hr h1 h2
    cases e : θ i with
    | none =>
      cases e' : θ j with
      | none => exact k.inj i j r b b' e e' h1 h2
      | some y =>
        have := k.ext j y e'; rw [h2] at this; cases this
        have p := k.new i r b h1 e
        have q := h.1 j r b' e'
        omega
    | some x =>
      have := k.ext i x e; rw [h1] at this; cases this
      cases e' : θ j with
      | none =>
        have p := k.new j r b' h2 e'
        have q := h.1 i r b e
        omega
      | some y =>
        have := k.ext j y e'; rw [h2] at this; cases this
        exact h.2 i j r b b' hr e e'

theorem Fresh.step {θ θ' : Th} {lo mid hi wlo : Nat} {w w' : World} (h : Fresh θ lo hi) (k : Stp θ θ' lo mid wlo w w') (hm : lo ≤ mid) : Fresh θ' mid hi := by
  intro i h1 h2
  cases e : θ' i with
  | none => rfl
  | some x =>
    have hn := h i (by omega) h2
    have := k.new i x.1 x.2 e hn
    omega

end Go.Proofs.YtejbahdihfnbcaaDoor.Sx

/- The model's float operations meet the trees' ones. -/
namespace Go.Proofs.YtejbahdihfnbcaaDoor.Sx
open Go
set_option linter.unusedSimpArgs false
set_option linter.unusedVariables false

/-! Words that are no NaN -/
theorem nan_iff (k : FloatKind) (b : Nat) : isNaNb k b = decide (k.format.infRung < b % k.format.signWeight) := by
  unfold isNaNb Ieee.Format.read
  have hb : k.format.binade ≤ k.format.infRung := by cases k <;> decide
  by_cases h1 : b % k.format.signWeight < k.format.binade
  · simp [h1]; omega
  · by_cases h2 : b % k.format.signWeight < k.format.infRung
    · simp [h1, h2]; omega
    · by_cases h3 : b % k.format.signWeight = k.format.infRung
      · simp [h3, Nat.lt_irrefl]
        rw [if_neg (by omega)]
      · simp [h1, h2, h3]; omega

theorem word_ok (k : FloatKind) (s : Bool) (r : Nat) (h : r ≤ k.format.infRung) : fltOk k (k.format.word s r) = true ∧ isNaNb k (k.format.word s r) = false := by
  have e : k.format.infRung < k.format.signWeight := by cases k <;> decide
  have e2 : fltOk k (k.format.word s r) = decide (k.format.word s r < 2 * k.format.signWeight) := by
    rw [Bool.eq_iff_iff]
    cases k <;> simp [fltOk, FloatKind.format, Ieee.single, Ieee.double, Ieee.Format.signWeight, Nat.blt_eq] <;> exact decide_eq_true_iff.symm
  have e3 : k.format.word s r % k.format.signWeight = r := by
    unfold Ieee.Format.word
    cases s
    · simp; exact Nat.mod_eq_of_lt (by omega)
    · simp; exact Nat.mod_eq_of_lt (by omega)
  refine ⟨?_, ?_⟩
  · rw [e2]; unfold Ieee.Format.word; cases s <;> simp <;> omega
  · rw [nan_iff, e3]; simp; omega

theorem nearest_ok (k : FloatKind) (s : Bool) (m : Nat) (p : Int) : fltOk k (k.format.nearest s m p) = true ∧ isNaNb k (k.format.nearest s m p) = false := by
  unfold Ieee.Format.nearest
  by_cases h : m = 0
  · rw [if_pos h]; exact word_ok k s 0 (Nat.zero_le _)
  · rw [if_neg h]; exact word_ok k s _ (Nat.min_le_right _ _)

def good (d : Ieee.Datum) : Prop := d.isNaN = false
theorem write_ok (k : FloatKind) (d : Ieee.Datum) (h : good d) : fltOk k (k.format.write d) = true ∧ isNaNb k (k.format.write d) = false := by
  cases d with
  | number s m p => exact nearest_ok k s m p
  | infinity s => exact word_ok k s _ (Nat.le_refl _)
  | nan s t => simp [good, Ieee.Datum.isNaN] at h

theorem frel_of_ok {k : FloatKind} {b : Nat} (h : fltOk k b = true ∧ isNaNb k b = false) : FRel k b (some b) := ⟨h.1, by simp [canon, h.2]⟩
theorem frel_nan {k : FloatKind} {b : Nat} (h : fltOk k b = true) (n : isNaNb k b = true) : FRel k b none := ⟨h, by simp [canon, n]⟩
theorem FRel.some {k : FloatKind} {b x : Nat} (h : FRel k b (some x)) : b = x ∧ isNaNb k b = false := by
  unfold FRel canon at h
  cases e : isNaNb k b <;> simp [e] at h
  exact ⟨h.2, rfl⟩
theorem FRel.none {k : FloatKind} {b : Nat} (h : FRel k b none) : isNaNb k b = true := by
  unfold FRel canon at h
  cases e : isNaNb k b <;> simp [e] at h
  rfl

theorem sum_good {x y d : Ieee.Datum} (h : x.sum y = some d) : good d := by
  cases x <;> cases y <;> simp [Ieee.Datum.sum] at h <;> (try subst h) <;> try rfl
  obtain ⟨_, rfl⟩ := h; rfl
theorem product_good {x y d : Ieee.Datum} (h : x.product y = some d) : good d := by
  cases x <;> cases y <;> simp [Ieee.Datum.product] at h <;> (try subst h) <;> try rfl
  · obtain ⟨_, rfl⟩ := h; rfl
  · obtain ⟨_, rfl⟩ := h; rfl
theorem quotient_good {n : Nat} {x y d : Ieee.Datum} (h : x.quotient n y = some d) : good d := by
  cases x <;> cases y <;> simp [Ieee.Datum.quotient] at h <;> (try subst h) <;> try rfl
  split at h
  · split at h
    · cases h
    · cases h; rfl
  · cases h; rfl
theorem root_good {n : Nat} {x d : Ieee.Datum} (h : x.root n = some d) : good d := by
  cases x <;> simp [Ieee.Datum.root] at h
  · split at h
    · cases h; rfl
    · split at h
      · cases h
      · cases h; rfl
  · obtain ⟨_, rfl⟩ := h; rfl

theorem bo_ok (o : BO) (k : FloatKind) (x y r : Nat) (h : o.fn k.format x y = some r) : fltOk k r = true ∧ isNaNb k r = false := by
  cases o <;> simp only [BO.fn, Ieee.Format.add, Ieee.Format.sub, Ieee.Format.mul, Ieee.Format.div, Option.map_eq_some_iff] at h <;> obtain ⟨d, hd, rfl⟩ := h <;> apply write_ok
  · exact sum_good hd
  · exact sum_good hd
  · exact product_good hd
  · exact quotient_good hd

theorem read_nan {k : FloatKind} {b : Nat} (h : isNaNb k b = true) : ∃ s t, k.format.read b = .nan s t := by
  unfold isNaNb at h
  cases e : k.format.read b <;> simp [e] at h
  exact ⟨_, _, rfl⟩

theorem bo_nan (o : BO) (k : FloatKind) (x y : Nat) (h : isNaNb k x = true ∨ isNaNb k y = true) : o.fn k.format x y = none := by
  rcases h with h | h
  · obtain ⟨s, t, e⟩ := read_nan h
    cases o <;> simp only [BO.fn, Ieee.Format.add, Ieee.Format.sub, Ieee.Format.mul, Ieee.Format.div, e, Option.map_eq_none_iff] <;>
      (cases k.format.read y <;> rfl)
  · obtain ⟨s, t, e⟩ := read_nan h
    cases o <;> simp only [BO.fn, Ieee.Format.add, Ieee.Format.sub, Ieee.Format.mul, Ieee.Format.div, e, Option.map_eq_none_iff] <;>
      (cases k.format.read x <;> rfl)

def nan32 (t : Nat) : Nat := (t % 2) * 2147483648 + 2139095040 + 1 + (t / 2) % 8388607
def nan64 (t : Nat) : Nat := (t % 2) * 9223372036854775808 + 9218868437227405312 + 1 + (t / 2) % 4503599627370495
theorem nan32_ok (t : Nat) : fltOk .f32 (nan32 t) = true ∧ isNaNb .f32 (nan32 t) = true := by
  rw [nan_iff]
  simp only [fltOk, Nat.blt_eq, decide_eq_true_eq]
  show nan32 t < 4294967296 ∧ 2139095040 < nan32 t % 2147483648
  unfold nan32
  have h2 : t / 2 % 8388607 < 8388607 := Nat.mod_lt _ (by decide)
  generalize t / 2 % 8388607 = y at h2 ⊢
  rcases Nat.mod_two_eq_zero_or_one t with h | h <;> rw [h] <;> constructor <;> omega
theorem nan64_ok (t : Nat) : fltOk .f64 (nan64 t) = true ∧ isNaNb .f64 (nan64 t) = true := by
  rw [nan_iff]
  simp only [fltOk, Nat.blt_eq, decide_eq_true_eq]
  show nan64 t < 18446744073709551616 ∧ 9218868437227405312 < nan64 t % 9223372036854775808
  unfold nan64
  have h2 : t / 2 % 4503599627370495 < 4503599627370495 := Nat.mod_lt _ (by decide)
  generalize t / 2 % 4503599627370495 = y at h2 ⊢
  rcases Nat.mod_two_eq_zero_or_one t with h | h <;> rw [h] <;> constructor <;> omega
theorem cut_nan (k : FloatKind) (x y t : Nat) : fltOk k ((Question.nanBits k x y).cut t) = true ∧ isNaNb k ((Question.nanBits k x y).cut t) = true := by
  cases k
  · exact nan32_ok t
  · exact nan64_ok t
theorem cut_conv (k : FloatKind) (b t : Nat) : fltOk k ((Question.nanConv k b).cut t) = true ∧ isNaNb k ((Question.nanConv k b).cut t) = true := by
  cases k
  · exact nan32_ok t
  · exact nan64_ok t

/-- the world but for a draw -/
def Drew (w w' : World) : Prop := ∃ n, w' = { w with drawn := n }
theorem Drew.refl (w : World) : Drew w w := ⟨w.drawn, rfl⟩

theorem run_bin (P : Program) (bo : BinOp) (o : BO) (ho : boOf bo = some o) (k : FloatKind) (x y : Nat) (dx dy : Option Nat) (hx : FRel k x dx) (hy : FRel k y dy) (w : World) :
    ∃ r w', (Op.floatArith bo k x y).run P w = .ok (.float k r) w' ∧ FRel k r (o.den k dx dy) ∧ Drew w w' := by
  have hres : (Op.floatArith bo k x y).run P w = (match o.fn k.format x y with | some r => Result.ok (Value.float k r) w | none => .ok (.float k ((Question.nanBits k x y).cut (w.tape w.drawn (.nanBits k x y)))) { w with drawn := w.drawn + 1 }) := by
    cases bo <;> simp [boOf] at ho <;> subst ho <;> simp only [Op.floatArith, BO.fn]
    · show Sem.run P (Sem.bind (Sem.pure (k.format.add x y)) _) w = _
      simp only [Sem.bind]
      cases k.format.add x y <;> rfl
    · show Sem.run P (Sem.bind (Sem.pure (k.format.sub x y)) _) w = _
      simp only [Sem.bind]
      cases k.format.sub x y <;> rfl
    · show Sem.run P (Sem.bind (Sem.pure (k.format.mul x y)) _) w = _
      simp only [Sem.bind]
      cases k.format.mul x y <;> rfl
    · show Sem.run P (Sem.bind (Sem.pure (k.format.div x y)) _) w = _
      simp only [Sem.bind]
      cases k.format.div x y <;> rfl
  have hden : o.den k dx dy = o.fn k.format x y := by
    cases dx with
    | none => rw [bo_nan o k x y (.inl hx.none)]; rfl
    | some a =>
      cases dy with
      | none => rw [bo_nan o k x y (.inr hy.none)]; rfl
      | some b => rw [hx.some.1, hy.some.1]; rfl
  rw [hres, hden]
  cases e : o.fn k.format x y with
  | some r => exact ⟨r, w, rfl, frel_of_ok (bo_ok o k x y r e), Drew.refl w⟩
  | none => exact ⟨_, _, rfl, frel_nan (cut_nan k x y _).1 (cut_nan k x y _).2, _, rfl⟩

theorem order_nan (k : FloatKind) (x y : Nat) (h : isNaNb k x = true ∨ isNaNb k y = true) : k.format.order x y = none := by
  rcases h with h | h
  · obtain ⟨s, t, e⟩ := read_nan h
    simp only [Ieee.Format.order, e]; cases k.format.read y <;> rfl
  · obtain ⟨s, t, e⟩ := read_nan h
    simp only [Ieee.Format.order, e]; cases k.format.read x <;> rfl

theorem cmpD_eq (c : Nat) (k : FloatKind) (x y : Nat) (dx dy : Option Nat) (hx : FRel k x dx) (hy : FRel k y dy) : cmpD c k dx dy = cmpC c k.format x y := by
  cases dx with
  | none =>
    unfold cmpC; rw [order_nan k x y (.inl hx.none)]
    match c with
    | 0 => rfl
    | 1 => rfl
    | n + 2 => rfl
  | some a =>
    cases dy with
    | none =>
      unfold cmpC; rw [order_nan k x y (.inr hy.none)]
      match c with
      | 0 => rfl
      | 1 => rfl
      | n + 2 => rfl
    | some b => rw [hx.some.1, hy.some.1]; rfl

/-- a swap of the operands -/
theorem order_swap (a b : Ieee.Datum) : (a.order b == some .gt) = (b.order a == some .lt) ∧ (a.order b == some .eq) = (b.order a == some .eq) := by
  have hc : ∀ x y : Nat, (compare x y == Ordering.gt) = (compare y x == Ordering.lt) ∧ (compare x y == Ordering.eq) = (compare y x == Ordering.eq) := by
    intro x y
    rcases Nat.lt_trichotomy x y with h | h | h
    · have e1 : compare x y = .lt := Nat.compare_eq_lt.2 h
      have e2 : compare y x = .gt := Nat.compare_eq_gt.2 h
      rw [e1, e2]; decide
    · subst h; have e1 : compare x x = .eq := Nat.compare_eq_eq.2 rfl
      rw [e1]; decide
    · have e1 : compare x y = .gt := Nat.compare_eq_gt.2 h
      have e2 : compare y x = .lt := Nat.compare_eq_lt.2 h
      rw [e1, e2]; decide
  have hi : ∀ x y : Int, (compare x y == Ordering.gt) = (compare y x == Ordering.lt) ∧ (compare x y == Ordering.eq) = (compare y x == Ordering.eq) := by
    intro x y
    rcases Int.lt_trichotomy x y with h | h | h
    · have e1 : compare x y = .lt := Int.compare_eq_lt.2 h
      have e2 : compare y x = .gt := Int.compare_eq_gt.2 h
      rw [e1, e2]; decide
    · subst h; have e1 : compare x x = .eq := Int.compare_eq_eq.2 rfl
      rw [e1]; decide
    · have e1 : compare x y = .gt := Int.compare_eq_gt.2 h
      have e2 : compare y x = .lt := Int.compare_eq_lt.2 h
      rw [e1, e2]; decide
  cases a <;> cases b <;> simp only [Ieee.Datum.order]
  · rename_i s m i t n j
    have := hi (Ieee.signed s m (i - min i j).toNat) (Ieee.signed t n (j - min i j).toNat)
    rw [show min j i = min i j from Int.min_comm _ _]
    simpa using this
  · rename_i s m i t; cases t <;> decide
  · decide
  · rename_i t s m i; cases t <;> decide
  · rename_i s t; have := hc t.toNat s.toNat; simpa using this
  · decide
  · decide
  · decide
  · decide

theorem run_cmp (P : Program) (bo : BinOp) (c : Nat) (sw ng : Bool) (ho : cmpN bo = some (c, sw, ng)) (k : FloatKind) (x y : Nat) (w : World) :
    (Op.floatCmp bo k x y).run P w = .ok (.bool ((match sw with | true => cmpC c k.format y x | false => cmpC c k.format x y) != ng)) w := by
  obtain ⟨h1, h2⟩ := order_swap (k.format.read x) (k.format.read y)
  have h1' : (k.format.order x y == some .gt) = (k.format.order y x == some .lt) := h1
  have h2' : (k.format.order x y == some .eq) = (k.format.order y x == some .eq) := h2
  cases bo <;> simp [cmpN] at ho <;> obtain ⟨rfl, rfl, rfl⟩ := ho <;> simp only [Op.floatCmp, cmpC]
  · show Result.ok (Value.bool (k.format.order x y == some .eq)) w = _; simp
  · show Result.ok (Value.bool (k.format.order x y != some .eq)) w = _; simp [bne]
  · show Result.ok (Value.bool (k.format.order x y == some .lt)) w = _; simp
  · show Result.ok (Value.bool (k.format.order x y == some .lt || k.format.order x y == some .eq)) w = _; simp
  · show Result.ok (Value.bool (k.format.order x y == some .gt)) w = _; rw [h1']; simp
  · show Result.ok (Value.bool (k.format.order x y == some .gt || k.format.order x y == some .eq)) w = _; rw [h1', h2']; simp

end Go.Proofs.YtejbahdihfnbcaaDoor.Sx

/- Unary float operations, conversions, and the library functions without a body. -/
namespace Go.Proofs.YtejbahdihfnbcaaDoor.Sx
open Go
set_option linter.unusedSimpArgs false
set_option linter.unusedVariables false

theorem negFloat_eq (k : FloatKind) (b : Nat) (h : fltOk k b = true) :
    Op.negFloat k b = if b < k.format.signWeight then b + k.format.signWeight else b - k.format.signWeight := by
  have hx : ∀ n b : Nat, b < 2 ^ (n + 1) → b ^^^ 2 ^ n = if b < 2 ^ n then b + 2 ^ n else b - 2 ^ n := by
    intro n b hb
    have key : ∀ x, x < 2 ^ n → x ^^^ 2 ^ n = x + 2 ^ n := by
      intro x hx
      have h1 : x ||| 2 ^ n = x + 2 ^ n := by
        rw [Nat.or_comm, Nat.add_comm]
        have := Nat.two_pow_add_eq_or_of_lt (i := n) (b := x) hx 1
        simpa using this.symm
      rw [← h1]
      apply Nat.eq_of_testBit_eq
      intro i
      simp only [Nat.testBit_xor, Nat.testBit_or, Nat.testBit_two_pow]
      by_cases e : n = i
      · subst e; simp [Nat.testBit_lt_two_pow hx]
      · simp [e]
    by_cases hlt : b < 2 ^ n
    · rw [if_pos hlt]; exact key b hlt
    · rw [if_neg hlt]
      have hb' : b - 2 ^ n < 2 ^ n := by rw [Nat.pow_succ] at hb; omega
      have e : b = (b - 2 ^ n) ^^^ 2 ^ n := by rw [key _ hb']; omega
      calc b ^^^ 2 ^ n = ((b - 2 ^ n) ^^^ 2 ^ n) ^^^ 2 ^ n := by rw [← e]
        _ = b - 2 ^ n := by rw [Nat.xor_assoc, Nat.xor_self, Nat.xor_zero]
  cases k
  · exact hx 31 b (by simpa [fltOk, Nat.blt_eq] using h)
  · exact hx 63 b (by simpa [fltOk, Nat.blt_eq] using h)

theorem lt_of_fltOk {k : FloatKind} {b : Nat} (h : fltOk k b = true) : b < 2 * k.format.signWeight := by
  cases k <;> simpa [fltOk, Nat.blt_eq, FloatKind.format, Ieee.single, Ieee.double, Ieee.Format.signWeight] using h
theorem fltOk_of_lt {k : FloatKind} {b : Nat} (h : b < 2 * k.format.signWeight) : fltOk k b = true := by
  cases k <;> simpa [fltOk, Nat.blt_eq, FloatKind.format, Ieee.single, Ieee.double, Ieee.Format.signWeight] using h

theorem neg_ok (k : FloatKind) (b : Nat) (h : fltOk k b = true) : fltOk k (Op.negFloat k b) = true ∧ isNaNb k (Op.negFloat k b) = isNaNb k b := by
  rw [negFloat_eq k b h]
  have hb := lt_of_fltOk h
  refine ⟨fltOk_of_lt ?_, ?_⟩
  · split <;> omega
  · rw [nan_iff, nan_iff]
    have : (if b < k.format.signWeight then b + k.format.signWeight else b - k.format.signWeight) % k.format.signWeight = b % k.format.signWeight := by
      split
      · exact Nat.add_mod_right _ _
      · rw [← Nat.mod_eq_sub_mod (by omega)]
    rw [this]

theorem den_neg {k : FloatKind} {b : Nat} {d : Option Nat} (h : FRel k b d) : ∃ r, UO.neg.den k d = some r ∧ FRel k (Op.negFloat k b) r := by
  cases d with
  | none =>
    refine ⟨none, rfl, frel_nan (neg_ok k b h.1).1 ?_⟩
    rw [(neg_ok k b h.1).2]; exact h.none
  | some x =>
    obtain ⟨rfl, hn⟩ := h.some
    refine ⟨some (Op.negFloat k b), rfl, frel_of_ok ⟨(neg_ok k b h.1).1, ?_⟩⟩
    rw [(neg_ok k b h.1).2]; exact hn

theorem abs_ok (b : Nat) : fltOk .f64 (b % 2 ^ 63) = true ∧ isNaNb .f64 (b % 2 ^ 63) = isNaNb .f64 b := by
  refine ⟨?_, ?_⟩
  · simp only [fltOk, Nat.blt_eq]; omega
  · rw [nan_iff, nan_iff]
    show decide (_ < b % 2 ^ 63 % 9223372036854775808) = decide (_ < b % 9223372036854775808)
    congr 2; omega

theorem den_abs {b : Nat} {d : Option Nat} (h : FRel .f64 b d) : ∃ r, UO.abs.den .f64 d = some r ∧ FRel .f64 (b % 2 ^ 63) r := by
  cases d with
  | none =>
    refine ⟨none, rfl, frel_nan (abs_ok b).1 ?_⟩
    rw [(abs_ok b).2]; exact h.none
  | some x =>
    obtain ⟨rfl, hn⟩ := h.some
    refine ⟨some (b % 2 ^ 63), rfl, frel_of_ok ⟨(abs_ok b).1, ?_⟩⟩
    rw [(abs_ok b).2]; exact hn

theorem decode_ok {k : FloatKind} {b : Nat} (h : isNaNb k b = false) : good (k.decode b) := by
  unfold isNaNb at h
  unfold good FloatKind.decode
  cases e : k.format.read b <;> simp [e] at h <;> rfl

/-- a conversion to another format, where it is told -/
theorem run_conv (P : Program) (k l : FloatKind) (hkl : k ≠ l) (b : Nat) (d : Option Nat) (h : FRel k b d) (o : UO) (ho : ∀ x, o.fn k x = convD k l x) (r : Option Nat) (hr : o.den k d = some r) (w : World) :
    ∃ b' w', (Conv.floatToFloat k b l).run P w = .ok (.float l b') w' ∧ FRel l b' r ∧ Drew w w' := by
  unfold Conv.floatToFloat
  rw [if_neg hkl]
  cases d with
  | none =>
    cases hr
    obtain ⟨s, t, e⟩ := read_nan h.none
    have e' : k.decode b = .nan s t := e
    rw [e']
    exact ⟨_, _, rfl, frel_nan (cut_conv l b _).1 (cut_conv l b _).2, _, rfl⟩
  | some x =>
    obtain ⟨rfl, hn⟩ := h.some
    have hr' : convD k l b = some r := by rw [← ho]; exact hr
    have hg := decode_ok hn
    unfold convD at hr'
    have hw := write_ok l (k.decode b) hg
    cases e : k.decode b with
    | nan s t => rw [e] at hg; simp [good, Ieee.Datum.isNaN] at hg
    | infinity s =>
      rw [e] at hr' hw
      simp [Ieee.Datum.isInfinity] at hr'
      subst hr'
      exact ⟨_, w, rfl, frel_of_ok hw, Drew.refl w⟩
    | number s m p =>
      rw [e] at hr' hw
      cases hi : (l.decode (l.encode (.number s m p))).isInfinity with
      | true => rw [hi] at hr'; simp [Ieee.Datum.isInfinity] at hr'
      | false =>
        rw [hi] at hr'; simp at hr'; subst hr'
        refine ⟨l.encode (.number s m p), w, ?_, frel_of_ok hw, Drew.refl w⟩
        simp only [hi]; rfl

theorem run_sqrt (P : Program) (b : Nat) (d : Option Nat) (h : FRel .f64 b d) (w : World) :
    ∃ b' r w', (Extern.MathSqrt.sqrt #[.float .f64 b]).run P w = .ok (.float .f64 b') w' ∧ UO.sqrt.den .f64 d = some r ∧ FRel .f64 b' r ∧ Drew w w' := by
  have hres : (Extern.MathSqrt.sqrt #[.float .f64 b]).run P w = (match FloatKind.f64.format.sqrt b with | some r => Result.ok (Value.float .f64 r) w | none => .ok (.float .f64 ((Question.nanBits .f64 b b).cut (w.tape w.drawn (.nanBits .f64 b b)))) { w with drawn := w.drawn + 1 }) := by
    have hm : Extern.MathSqrt.sqrt #[.float .f64 b] = (match FloatKind.f64.format.sqrt b with
      | some r => pure (.float .f64 r)
      | none => do pure (.float .f64 (← choose (.nanBits .f64 b b)))) := rfl
    rw [hm]
    cases FloatKind.f64.format.sqrt b <;> rfl
  rw [hres]
  have hn : isNaNb .f64 b = true → FloatKind.f64.format.sqrt b = none := by
    intro hh; obtain ⟨s, t, e⟩ := read_nan hh
    simp only [Ieee.Format.sqrt, e]; rfl
  have hd : UO.sqrt.den .f64 d = some (FloatKind.f64.format.sqrt b) := by
    cases d with
    | none => rw [hn h.none]; rfl
    | some x => rw [h.some.1]; rfl
  cases e : FloatKind.f64.format.sqrt b with
  | some r =>
    refine ⟨r, some r, w, rfl, by rw [hd, e], frel_of_ok ?_, Drew.refl w⟩
    simp only [Ieee.Format.sqrt, Option.map_eq_some_iff] at e
    obtain ⟨q, hq, rfl⟩ := e
    exact write_ok .f64 q (root_good hq)
  | none => exact ⟨_, none, _, rfl, by rw [hd, e], frel_nan (cut_nan .f64 b b _).1 (cut_nan .f64 b b _).2, _, rfl⟩

theorem quiet_nan (s : Bool) (t : Nat) (ht : t < 2 ^ 52) : fltOk .f64 (FloatKind.f64.encode (.nan s (FloatKind.f64.format.quiet t))) = true ∧ isNaNb .f64 (FloatKind.f64.encode (.nan s (FloatKind.f64.format.quiet t))) = true := by
  have hq : 2 ^ 51 ≤ FloatKind.f64.format.quiet t ∧ FloatKind.f64.format.quiet t < 2 ^ 52 := by
    show 2 ^ 51 ≤ t ||| 2 ^ 51 ∧ t ||| 2 ^ 51 < 2 ^ 52
    exact ⟨Nat.right_le_or, Nat.or_lt_two_pow ht (by decide)⟩
  generalize FloatKind.f64.format.quiet t = q at hq
  show fltOk .f64 (FloatKind.f64.format.word s (9218868437227405312 + q % 4503599627370496)) = true ∧ isNaNb .f64 (FloatKind.f64.format.word s (9218868437227405312 + q % 4503599627370496)) = true
  rw [Nat.mod_eq_of_lt (show q < 4503599627370496 by omega), nan_iff]
  simp only [fltOk, Nat.blt_eq, decide_eq_true_eq]
  show FloatKind.f64.format.word s (9218868437227405312 + q) < 18446744073709551616 ∧ 9218868437227405312 < FloatKind.f64.format.word s (9218868437227405312 + q) % 9223372036854775808
  unfold Ieee.Format.word
  have : FloatKind.f64.format.signWeight = 9223372036854775808 := by decide
  rw [this]
  cases s <;> simp only [Bool.false_eq_true, if_false, if_true] <;> constructor <;> omega

theorem nan_frac {b : Nat} {s : Bool} {t : Nat} (h : FloatKind.f64.decode b = .nan s t) : t < 2 ^ 52 := by
  unfold FloatKind.decode Ieee.Format.read at h
  have : FloatKind.f64.format.signWeight = 9223372036854775808 := by decide
  have h2 : FloatKind.f64.format.infRung = 9218868437227405312 := by decide
  have hm : b % FloatKind.f64.format.signWeight < 9223372036854775808 := by rw [this]; exact Nat.mod_lt _ (by decide)
  dsimp only at h
  split at h
  · cases h
  · split at h
    · cases h
    · split at h
      · cases h
      · cases h; rw [h2]; omega

theorem run_rte (P : Program) (b : Nat) (d : Option Nat) (h : FRel .f64 b d) (w : World) :
    ∃ b' r w', (Extern.MathFloor.toIntegral "math.RoundToEven" .even #[.float .f64 b]).run P w = .ok (.float .f64 b') w' ∧ UO.rte.den .f64 d = some r ∧ FRel .f64 b' r ∧ Drew w w' := by
  have hrun : ∀ dd, dd = FloatKind.f64.decode b → (Extern.MathFloor.toIntegral "math.RoundToEven" .even #[.float .f64 b]).run P w = ((match dd with
        | .nan s t => if FloatKind.f64.format.quiet t = t then pure (.float .f64 b) else do
            let kept ← choose (.extern "math.Floor,Ceil,Trunc,RoundToEven.signallingNaN kept" 2)
            pure (.float .f64 (if kept == 1 then b else FloatKind.f64.encode (.nan s (FloatKind.f64.format.quiet t))))
        | d => pure (.float .f64 (FloatKind.f64.encode (d.integral .even))) : Sem Value)).run P w := by
    intro dd e; subst e; rfl
  cases d with
  | none =>
    obtain ⟨s, t, e⟩ := read_nan h.none
    have e' : FloatKind.f64.decode b = .nan s t := e
    rw [hrun _ e'.symm]
    dsimp only
    by_cases hq : FloatKind.f64.format.quiet t = t
    · rw [if_pos hq]; exact ⟨b, none, w, rfl, rfl, h, Drew.refl w⟩
    · rw [if_neg hq]
      have hqn := quiet_nan s t (nan_frac e')
      have hall : ∀ n : Nat, FRel .f64 (if (n == 1) = true then b else FloatKind.f64.encode (.nan s (FloatKind.f64.format.quiet t))) none := by
        intro n
        cases (n == 1)
        · exact frel_nan hqn.1 hqn.2
        · exact h
      exact ⟨_, none, _, rfl, rfl, hall _, _, rfl⟩
  | some x =>
    obtain ⟨rfl, hn⟩ := h.some
    have hg := decode_ok hn
    have hg' : good ((FloatKind.f64.decode b).integral .even) := by
      cases e : FloatKind.f64.decode b with
      | nan s t => rw [e] at hg; simp [good, Ieee.Datum.isNaN] at hg
      | _ => rfl
    refine ⟨_, some _, w, ?_, rfl, frel_of_ok (write_ok .f64 _ hg'), Drew.refl w⟩
    rw [hrun _ rfl]
    cases e : FloatKind.f64.decode b with
    | nan s t => rw [e] at hg; simp [good, Ieee.Datum.isNaN] at hg
    | _ => rfl

theorem run_andNot (P : Program) (b : Nat) (w : World) : (Op.intBits .andNot .u64 (b : Nat) 9223372036854775808).run P w = .ok (.int .u64 ((b % 2 ^ 63 : Nat) : Int)) w := by
  have hk : (BitVec.ofInt 64 (b : Int) &&& ~~~ BitVec.ofInt 64 9223372036854775808).toNat = b % 2 ^ 63 := by
    rw [show (BitVec.ofInt 64 (b : Int)) = BitVec.ofNat 64 b from by simp]
    rw [show (~~~ BitVec.ofInt 64 9223372036854775808 : BitVec 64) = BitVec.ofNat 64 (2 ^ 63 - 1) from by decide]
    rw [BitVec.toNat_and, BitVec.toNat_ofNat, BitVec.toNat_ofNat]
    rw [show (2 ^ 63 - 1) % 2 ^ 64 = 2 ^ 63 - 1 from by decide, Nat.and_two_pow_sub_one_eq_mod]
    omega
  show Result.ok (Value.int .u64 (IntKind.u64.wrap ((BitVec.ofInt 64 (b : Int) &&& ~~~ BitVec.ofInt 64 9223372036854775808).toNat : Nat))) w = _
  rw [hk]
  congr 2
  simp [IntKind.wrap, IntKind.signed, IntKind.bits]
  omega

end Go.Proofs.YtejbahdihfnbcaaDoor.Sx

/- Operations: what the evaluator says of each is what the model runs. -/
namespace Go.Proofs.YtejbahdihfnbcaaDoor.Sx
open Go
set_option linter.unusedSimpArgs false
set_option linter.unusedVariables false

abbrev Gs := Nat → List Sc → Option (List Sc)

structure OpPre (ro : Nat) (env : List Sc) (θ : Th) (tm : Tr AV) (st : St) (a : Act) (w : World) : Prop where
  tm : TmRel env θ tm a.tmps
  wr : WRel env θ ro st.heap w
  inj : Inj θ ro w

def OpPost (ro : Nat) (env : List Sc) (θ : Th) (st st' : St) (av : AV) (w : World) (v : Value) (w' : World) : Prop :=
  ∃ θ', Rel env θ' av v ∧ WRel env θ' ro st'.heap w' ∧ Stp θ θ' st.next st'.next st.wlo w w'

/-- the leaf at which the evaluator goes on -/
def Lands (G : Gs) (rs : List Sc) (env : List Sc) (st : St) (kk : K) (Φ : List Sc → AV → St → Prop) : Prop :=
  ∃ env' av st', (kk av st').den G env' = some rs ∧ Pfx env env' ∧ st'.nn = env'.length ∧ st.next ≤ st'.next ∧ st'.wlo = st.wlo ∧ Φ env' av st'

theorem Lands.imp {G : Gs} {rs env : List Sc} {st : St} {kk : K} {Φ Ψ : List Sc → AV → St → Prop} (h : Lands G rs env st kk Φ) (hi : ∀ e a s, Pfx env e → s.nn = e.length → st.next ≤ s.next → s.wlo = st.wlo → Φ e a s → Ψ e a s) : Lands G rs env st kk Ψ := by
  obtain ⟨e, a, s, h1, h2, h3, h4, h5, h6⟩ := h
  exact ⟨e, a, s, h1, h2, h3, h4, h5, hi e a s h2 h3 h4 h5 h6⟩

/-- what is sound of an operation that is no call -/
def Runs (P : Program) (ro : Nat) (env0 env : List Sc) (st st' : St) (tm : Tr AV) (o : Oper) (av : AV) : Prop :=
  ∀ a w θ, OpPre ro env0 θ tm st a w → Fresh θ st.next st'.next →
    ∃ v w', ((execOp a.eval o).run P w = .ok (.value v) w' ∨ ((execOp a.eval o).run P w = .ok .skip w' ∧ v = undef)) ∧ OpPost ro env θ st st' av w v w'

/-- what an operation's run gives -/
def Gives (P : Program) (r : Result Next) (Ψ : Value → World → Prop) : Prop :=
  match r with
  | .ok (.value v) w' => Ψ v w'
  | .ok .skip w' => Ψ undef w'
  | .ok (.enter f args) w' => Calls P f args w' fun e w'' => ∃ v, e = .returned v ∧ Ψ v w''
  | _ => False
theorem Gives.wp {P : Program} {o : Oper} {a : Act} {w : World} {Ψ : Value → World → Prop} {K : Act → World → Prop} {Q : Exit → Act → World → Prop} (h : Gives P ((execOp a.eval o).run P w) Ψ) (hk : ∀ v w', Ψ v w' → K (a.put o.dst v) w') : o.wp P a w K Q := by
  unfold Oper.wp
  generalize (execOp a.eval o).run P w = r at h ⊢
  cases r with
  | halt x w' => exact h.elim
  | ok n w' =>
    cases n <;> (try exact h.elim)
    · exact hk _ _ h
    · exact hk _ _ h
    · exact Calls.mono h fun e w'' ⟨v, he, hp⟩ => by subst he; exact hk _ _ hp

theorem Gives.mono {P : Program} {Ψ Φ : Value → World → Prop} {r : Result Next} (hg : Gives P r Ψ) (himp : ∀ v w', Ψ v w' → Φ v w') : Gives P r Φ := by
  cases r with
  | halt x w' => exact hg.elim
  | ok n w' =>
    cases n <;> (try exact hg.elim)
    · exact himp _ _ hg
    · exact himp _ _ hg
    · exact Calls.mono hg fun e w'' ⟨v, he, hp⟩ => ⟨v, he, himp _ _ hp⟩

/-- what is sound of any operation -/
def Sound (P : Program) (ro : Nat) (env0 env : List Sc) (st st' : St) (tm : Tr AV) (o : Oper) (av : AV) : Prop :=
  ∀ a w θ, OpPre ro env0 θ tm st a w → Fresh θ st.next st'.next → Gives P ((execOp a.eval o).run P w) (OpPost ro env θ st st' av w)

theorem Runs.sound {P : Program} {ro : Nat} {env0 env : List Sc} {st st' : St} {tm : Tr AV} {o : Oper} {av : AV} (h : Runs P ro env0 env st st' tm o av) : Sound P ro env0 env st st' tm o av := by
  intro a w θ hp hf
  obtain ⟨v, w', hr, hpost⟩ := h a w θ hp hf
  rcases hr with hr | ⟨hr, rfl⟩
  · rw [hr]; exact hpost
  · rw [hr]; exact hpost

/-- what is sound of a store: it changes one block alone -/
def StoreOk (P : Program) (ro : Nat) (env0 env : List Sc) (st st' : St) (tm : Tr AV) (o : Oper) (av : AV) : Prop :=
  ∃ b, ro ≤ b ∧ (findB b st.heap).isSome = true ∧ st'.next = st.next ∧ (∀ id, id ≠ b → findB id st'.heap = findB id st.heap) ∧ (∀ x, tgt tm o.op = some x → x = b) ∧
    ∀ a w θ, OpPre ro env0 θ tm st a w → Gives P ((execOp a.eval o).run P w) fun v w' => OpPost ro env θ st st' av w v w' ∧ ∀ r, (∀ base, θ b ≠ some (r, base)) → w'.heap[r]? = w.heap[r]?

theorem WRel.mono {e e' : List Sc} {θ θ' : Th} {ro : Nat} {heap : List (Nat × List AV)} {w : World} (he : Pfx e e') (ht : ThLe θ θ') (h : WRel e θ ro heap w) : WRel e' θ' ro heap w := by
  intro id cs hc
  obtain ⟨r, base, vs, el, fz, h1, h2, h3, h4⟩ := h id cs hc
  refine ⟨r, base, vs, el, fz, ht _ _ h1, h2, h3, fun j c hj => ?_⟩
  obtain ⟨v, hv, hr⟩ := h4 j c hj
  exact ⟨v, hv, Rel.mono he ht c v hr⟩
theorem WRel.drew {e : List Sc} {θ : Th} {ro : Nat} {heap : List (Nat × List AV)} {w w' : World} (h : WRel e θ ro heap w) (d : Drew w w') : WRel e θ ro heap w' := by
  obtain ⟨n, rfl⟩ := d; exact h
theorem TmRel.mono {e e' : List Sc} {θ θ' : Th} {tm : Tr AV} {tmps : Array Value} (he : Pfx e e') (ht : ThLe θ θ') (h : TmRel e θ tm tmps) : TmRel e' θ' tm tmps :=
  fun t => Rel.mono he ht _ _ (h t)
theorem Stp.of_drew {θ : Th} {lo hi wlo : Nat} {w w' : World} (d : Drew w w') : Stp θ θ lo hi wlo w w' := by
  obtain ⟨n, rfl⟩ := d; exact (Stp.refl θ lo hi wlo w).drew n

/-- a plain value, the world but for a draw -/
theorem post_plain {ro : Nat} {env env' : List Sc} {θ : Th} {tm : Tr AV} {st st' : St} {a : Act} {av : AV} {w w' : World} {v : Value} (hp : OpPre ro env θ tm st a w) (he : Pfx env env') (hh : st'.heap = st.heap) (hn : st.next ≤ st'.next) (hr : Rel env' θ av v) (d : Drew w w') :
    OpPost ro env' θ st st' av w v w' :=
  ⟨θ, hr, by rw [hh]; exact (hp.wr.mono he (ThLe.refl θ)).drew d, Stp.of_drew d⟩

/-! Constants and operands -/
theorem cstF_ok {G : Gs} {rs env : List Sc} {k : FloatKind} {b : Nat} {st : St} {kk : K} (h : (cstF k b st kk).den G env = some rs) (hn : st.nn = env.length) :
    Lands G rs env st kk fun e av s => s.heap = st.heap ∧ s.next = st.next ∧ ∀ θ, Rel e θ av (.float k b) := by
  unfold cstF at h
  cases hb : fltOk k b with
  | false => rw [hb] at h; simp [T.den] at h
  | true =>
    rw [hb] at h
    simp only [T.den] at h
    refine ⟨env ++ [.f k (canon k b)], .flt k st.nn, st.up, h, ⟨_, rfl⟩, by simp [St.up, hn], Nat.le_refl _, rfl, rfl, rfl, fun θ => ?_⟩
    simp only [Rel]
    exact ⟨canon k b, b, by simp [hn], rfl, hb, rfl⟩

theorem ofValue_ok {G : Gs} {rs env : List Sc} {v : Value} {st : St} {kk : K} (h : (ofValue v st kk).den G env = some rs) (hn : st.nn = env.length) :
    Lands G rs env st kk fun e av s => s.heap = st.heap ∧ s.next = st.next ∧ ∀ θ, Rel e θ av v := by
  cases v <;> simp only [ofValue, T.den] at h <;> try (cases h; done)
  · rename_i b; exact ⟨env, .bool b, st, h, Pfx.refl _, hn, Nat.le_refl _, rfl, rfl, rfl, fun θ => by simp [Rel]⟩
  · rename_i k n; exact ⟨env, .int k n, st, h, Pfx.refl _, hn, Nat.le_refl _, rfl, rfl, rfl, fun θ => by simp [Rel]⟩
  · rename_i k b; exact cstF_ok h hn
  · rename_i a n m
    cases a with
    | some a => simp [ofValue, T.den] at h
    | none =>
      simp only [ofValue] at h
      split at h
      · rename_i e
        rw [Bool.and_eq_true] at e
        have e1 := Nat.eq_of_beq_eq_true e.1
        have e2 := Nat.eq_of_beq_eq_true e.2
        subst e1 e2
        exact ⟨env, .nils, st, h, Pfx.refl _, hn, Nat.le_refl _, rfl, rfl, rfl, fun θ => by simp [Rel]⟩
      · simp [T.den] at h

theorem opd_ok {G : Gs} {rs env : List Sc} {tm : Tr AV} {x : Operand} {st : St} {kk : K} (h : (opd tm x st kk).den G env = some rs) (hn : st.nn = env.length) :
    Lands G rs env st kk fun e av s => s.heap = st.heap ∧ s.next = st.next ∧ ∀ (a : Act) θ, TmRel env θ tm a.tmps → Rel e θ av (a.eval x) := by
  cases x with
  | tmp t =>
    have h' : (kk (look tm t) st).den G env = some rs := by
      simp only [opd] at h
      unfold look
      cases e : tm.get t <;> simp only [e] at h ⊢ <;> exact h
    exact ⟨env, _, st, h', Pfx.refl _, hn, Nat.le_refl _, rfl, rfl, rfl, fun a θ ht => ht t⟩
  | const v =>
    unfold opd at h
    exact (ofValue_ok h hn).imp fun e av s _ _ _ _ hq => ⟨hq.1, hq.2.1, fun a θ _ => hq.2.2 θ⟩
  | global g => simp [opd, T.den] at h
  | func f =>
    unfold opd at h
    exact ⟨env, _, st, h, Pfx.refl _, hn, Nat.le_refl _, rfl, rfl, rfl, fun a θ ht => by simp only [Rel]; exact ⟨[], rfl, RelL.nil⟩⟩

/-- the block that an operand names -/
def opdB (tm : Tr AV) (x : Operand) : Option Nat := match x with | .tmp t => ptrB (tm.get t) | _ => none
theorem opd_ok2 {G : Gs} {rs env : List Sc} {tm : Tr AV} {x : Operand} {st : St} {kk : K} (h : (opd tm x st kk).den G env = some rs) (hn : st.nn = env.length) :
    Lands G rs env st kk fun e av s => (s.heap = st.heap ∧ s.next = st.next ∧ ∀ (a : Act) θ, TmRel env θ tm a.tmps → Rel e θ av (a.eval x)) ∧ ∀ z, opdB tm x = some z → ∃ off, av = .ptr z off := by
  cases hx : opdB tm x with
  | none => exact (opd_ok h hn).imp fun e av s _ _ _ _ hq => ⟨hq, fun z hz => by cases hz⟩
  | some b =>
    cases x <;> simp only [opdB] at hx <;> (try (cases hx; done))
    rename_i t
    cases hq : tm.get t with
    | none => rw [hq] at hx; simp [ptrB] at hx
    | some v =>
      rw [hq] at hx
      cases v <;> simp [ptrB] at hx
      rename_i b' off
      subst hx
      have h' : (kk (look tm t) st).den G env = some rs := by
        simp only [opd] at h
        unfold look
        cases e : tm.get t <;> simp only [e] at h ⊢ <;> exact h
      refine ⟨env, _, st, h', Pfx.refl _, hn, Nat.le_refl _, rfl, ⟨rfl, rfl, fun a θ ht => ht t⟩, fun z hz => ?_⟩
      cases hz
      exact ⟨off, by simp [look, hq]⟩

def LandsL (G : Gs) (rs : List Sc) (env : List Sc) (st : St) (kk : List AV → St → T) (Φ : List Sc → List AV → St → Prop) : Prop :=
  ∃ env' av st', (kk av st').den G env' = some rs ∧ Pfx env env' ∧ st'.nn = env'.length ∧ st.next ≤ st'.next ∧ st'.wlo = st.wlo ∧ Φ env' av st'

theorem ofValues_ok {G : Gs} {rs : List Sc} : ∀ (vs : List Value) {env : List Sc} {st : St} {kk : List AV → St → T}, (ofValues vs st kk).den G env = some rs → st.nn = env.length →
    LandsL G rs env st kk fun e av s => s.heap = st.heap ∧ s.next = st.next ∧ ∀ θ, RelL e θ av vs
  | [], env, st, kk, h, hn => ⟨env, [], st, h, Pfx.refl _, hn, Nat.le_refl _, rfl, rfl, rfl, fun θ => RelL.nil⟩
  | v :: vs, env, st, kk, h, hn => by
    unfold ofValues at h
    obtain ⟨e1, a1, s1, h1, p1, n1, x1, w1, hh1, hx1, r1⟩ := ofValue_ok h hn
    obtain ⟨e2, a2, s2, h2, p2, n2, x2, w2, hh2, hx2, r2⟩ := ofValues_ok vs h1 n1
    exact ⟨e2, a1 :: a2, s2, h2, p1.trans p2, n2, by omega, w2.trans w1, hh2.trans hh1, hx2.trans hx1, fun θ => RelL.cons (Rel.mono p2 (ThLe.refl θ) _ _ (r1 θ)) (r2 θ)⟩

theorem opds_ok {G : Gs} {rs : List Sc} {tm : Tr AV} : ∀ (xs : List Operand) {env : List Sc} {st : St} {kk : List AV → St → T}, (opds tm xs st kk).den G env = some rs → st.nn = env.length →
    LandsL G rs env st kk fun e av s => s.heap = st.heap ∧ s.next = st.next ∧ ∀ (a : Act) θ, TmRel env θ tm a.tmps → RelL e θ av (xs.map a.eval)
  | [], env, st, kk, h, hn => ⟨env, [], st, h, Pfx.refl _, hn, Nat.le_refl _, rfl, rfl, rfl, fun a θ _ => RelL.nil⟩
  | x :: xs, env, st, kk, h, hn => by
    unfold opds at h
    obtain ⟨e1, a1, s1, h1, p1, n1, x1, w1, hh1, hx1, r1⟩ := opd_ok h hn
    obtain ⟨e2, a2, s2, h2, p2, n2, x2, w2, hh2, hx2, r2⟩ := opds_ok xs h1 n1
    exact ⟨e2, a1 :: a2, s2, h2, p1.trans p2, n2, by omega, w2.trans w1, hh2.trans hh1, hx2.trans hx1, fun a θ ht => RelL.cons (Rel.mono p2 (ThLe.refl θ) _ _ (r1 a θ ht)) (r2 a θ (ht.mono p1 (ThLe.refl θ)))⟩

/-- parts of a build -/
def RelP (e : List Sc) (θ : Th) : List (Nat × AV) → List (Nat × Value) → Prop
  | [], vs => vs = []
  | (i, c) :: cs, vs => ∃ v vs', vs = (i, v) :: vs' ∧ Rel e θ c v ∧ RelP e θ cs vs'
theorem RelP.mono {e e' : List Sc} {θ θ' : Th} (he : Pfx e e') (ht : ThLe θ θ') : ∀ {cs : List (Nat × AV)} {vs : List (Nat × Value)}, RelP e θ cs vs → RelP e' θ' cs vs
  | [], vs, h => h
  | (i, c) :: cs, vs, h => by
    obtain ⟨v, vs', rfl, h2, h3⟩ := h
    exact ⟨v, vs', rfl, Rel.mono he ht _ _ h2, RelP.mono he ht h3⟩
def LandsP (G : Gs) (rs : List Sc) (env : List Sc) (st : St) (kk : List (Nat × AV) → St → T) (Φ : List Sc → List (Nat × AV) → St → Prop) : Prop :=
  ∃ env' av st', (kk av st').den G env' = some rs ∧ Pfx env env' ∧ st'.nn = env'.length ∧ st.next ≤ st'.next ∧ st'.wlo = st.wlo ∧ Φ env' av st'
theorem opdParts_ok {G : Gs} {rs : List Sc} {tm : Tr AV} : ∀ (xs : List (Nat × Operand)) {env : List Sc} {st : St} {kk : List (Nat × AV) → St → T}, (opdParts tm xs st kk).den G env = some rs → st.nn = env.length →
    LandsP G rs env st kk fun e av s => s.heap = st.heap ∧ s.next = st.next ∧ ∀ (a : Act) θ, TmRel env θ tm a.tmps → RelP e θ av (xs.map fun p => (p.1, a.eval p.2))
  | [], env, st, kk, h, hn => ⟨env, [], st, h, Pfx.refl _, hn, Nat.le_refl _, rfl, rfl, rfl, fun a θ _ => rfl⟩
  | (i, x) :: xs, env, st, kk, h, hn => by
    unfold opdParts at h
    obtain ⟨e1, a1, s1, h1, p1, n1, x1, w1, hh1, hx1, r1⟩ := opd_ok h hn
    obtain ⟨e2, a2, s2, h2, p2, n2, x2, w2, hh2, hx2, r2⟩ := opdParts_ok xs h1 n1
    exact ⟨e2, (i, a1) :: a2, s2, h2, p1.trans p2, n2, by omega, w2.trans w1, hh2.trans hh1, hx2.trans hx1, fun a θ ht => ⟨_, _, rfl, Rel.mono p2 (ThLe.refl θ) _ _ (r1 a θ ht), r2 a θ (ht.mono p1 (ThLe.refl θ))⟩⟩

theorem run_value {P : Program} {s : Sem Value} {w w' : World} {v : Value} (h : s.run P w = .ok v w') : (do pure (Next.value (← s)) : Sem Next).run P w = .ok (.value v) w' := by
  rw [Sem.run_bind, h]; rfl

/-! Memory -/
theorem add_addr (r b o n : Nat) : (⟨r, b + o, none⟩ : Addr).add n = ⟨r, b + (o + n), none⟩ := by
  unfold Addr.add
  by_cases h : n = 0
  · simp [h]
  · simp [h, Nat.add_assoc]

theorem findB_cons {id j : Nat} {cs ds : List AV} {heap : List (Nat × List AV)} (h : findB id ((j, cs) :: heap) = some ds) : (id = j ∧ ds = cs) ∨ (id ≠ j ∧ findB id heap = some ds) := by
  unfold findB at h
  cases e : Nat.beq id j with
  | true => rw [e] at h; exact .inl ⟨Nat.eq_of_beq_eq_true e, by simpa using h.symm⟩
  | false =>
    rw [e] at h
    refine .inr ⟨?_, h⟩
    rintro rfl
    rw [Nat.beq_refl _] at e
    cases e

theorem size?_run {P : Program} {t n : Nat} (h : size? P t = some n) (w : World) : (Go.sizeOf t).run P w = .ok n w := by
  unfold size? at h
  cases e : P.info? t with
  | none => simp [e] at h
  | some i => simp [e] at h; simp [Go.sizeOf, typeInfo, e, h]
theorem underlying_run {P : Program} {t : Nat} {d : TypeDesc} (h : P.underlying t = some d) (w : World) : (underlying t).run P w = .ok d w := by
  simp [underlying, h]
theorem aggT_run {P : Program} {t : Nat} {b : Bool} (h : aggT P t = some b) (w : World) : (isAgg t).run P w = .ok b w := by
  unfold aggT at h
  cases e : P.underlying t with
  | none => simp [e] at h
  | some d =>
    unfold isAgg
    rw [Sem.run_bind, underlying_run e]
    simp only [e] at h
    cases d <;> simp_all

/-- reading n cells of a block that the evaluator knows -/
theorem load_cells {e : List Sc} {θ : Th} {ro : Nat} {w : World} {id off n : Nat} {cs avs : List AV} (hb : BRel e θ ro w id cs) (ht : takeAt off n cs = some avs) :
    ∃ r base vals, θ id = some (r, base) ∧ vals.length = n ∧ RelL e θ avs vals ∧ ∀ j v, vals[j]? = some v → w.cell? ⟨r, base + (off + j), none⟩ = some v := by
  obtain ⟨r, base, vs, el, fz, h1, h2, h3, h4⟩ := hb
  unfold takeAt at ht
  cases hle : Nat.ble (Nat.add off n) cs.length with
  | false => rw [hle] at ht; cases ht
  | true =>
    rw [hle] at ht
    have hle' : off + n ≤ cs.length := Nat.le_of_ble_eq_true hle
    cases ht
    have hsz : ∀ j, j < n → ∃ v, vs[base + (off + j)]? = some v ∧ True := by
      intro j hj
      have hlt : off + j < cs.length := by omega
      obtain ⟨v, hv, hr⟩ := h4 (off + j) cs[off + j] (by simp [hlt])
      exact ⟨v, hv, trivial⟩
    refine ⟨r, base, (vs.toList.drop (base + off)).take n, h1, ?_, ?_, ?_⟩
    · rw [List.length_take, List.length_drop]
      by_cases hn0 : n = 0
      · omega
      · obtain ⟨v, hv, _⟩ := hsz (n - 1) (by omega)
        have := (Array.getElem?_eq_some_iff.1 hv).1
        simp only [Array.length_toList]; omega
    · apply RelL.of_get
      · rw [List.length_take, List.length_drop, List.length_take, List.length_drop]
        by_cases hn0 : n = 0
        · omega
        · obtain ⟨v, hv, _⟩ := hsz (n - 1) (by omega)
          have := (Array.getElem?_eq_some_iff.1 hv).1
          simp only [Array.length_toList]; omega
      · intro i c v hc hv
        have hi : i < n := by
          have := (List.getElem?_eq_some_iff.1 hc).1
          simp only [List.length_take] at this; omega
        rw [List.getElem?_take_of_lt hi, List.getElem?_drop] at hc hv
        obtain ⟨v', hv', hr⟩ := h4 (off + i) c hc
        have : vs.toList[base + off + i]? = some v' := by rw [Array.getElem?_toList, Nat.add_assoc]; exact hv'
        rw [this] at hv; cases hv
        exact hr
    · intro j v hv
      have hj : j < n := by
        have := (List.getElem?_eq_some_iff.1 hv).1
        simp only [List.length_take] at this; omega
      rw [List.getElem?_take_of_lt hj, List.getElem?_drop] at hv
      simp only [World.cell?, h2]
      simpa [Nat.add_assoc] using hv

theorem load_one {e : List Sc} {θ : Th} {ro : Nat} {w : World} {id off : Nat} {cs : List AV} {c : AV} (hb : BRel e θ ro w id cs) (hc : cs[off]? = some c) :
    ∃ r base v, θ id = some (r, base) ∧ Rel e θ c v ∧ w.cell? ⟨r, base + off, none⟩ = some v := by
  obtain ⟨r, base, vs, el, fz, h1, h2, h3, h4⟩ := hb
  obtain ⟨v, hv, hr⟩ := h4 off c hc
  exact ⟨r, base, v, h1, hr, by simp [World.cell?, h2, hv]⟩

/-- a load, as the evaluator makes it -/
theorem loadT_ok {G : Gs} {P : Program} {rs env : List Sc} {t b off : Nat} {st : St} {kk : K} (h : (loadT P t b off st kk).den G env = some rs) :
    ∃ av, (kk av st).den G env = some rs ∧ ∀ ro θ w, WRel env θ ro st.heap w → ∃ r base v, θ b = some (r, base) ∧ Rel env θ av v ∧ (loadVar t ⟨r, base + off, none⟩).run P w = .ok v w := by
  unfold loadT at h
  cases hf : findB b st.heap with
  | none => simp [hf, T.den] at h
  | some cs =>
    cases ha : aggT P t with
    | none => simp [hf, ha, T.den] at h
    | some g =>
      cases hs : size? P t with
      | none => simp [hf, ha, hs, T.den] at h
      | some n =>
        cases g with
        | true =>
          simp only [hf, ha, hs] at h
          cases htk : takeAt off n cs with
          | none => simp [htk, T.den] at h
          | some avs =>
            simp only [htk] at h
            refine ⟨.agg avs, h, fun ro θ w hw => ?_⟩
            obtain ⟨r, base, vals, h1, h2, h3, h4⟩ := load_cells (hw b cs hf) htk
            refine ⟨r, base, .agg ⟨vals⟩, h1, Rel.agg h3, ?_⟩
            have hl := run_loadCells_list (P := P) w ⟨r, base + off, none⟩ vals (fun j v hv => by rw [add_addr]; exact h4 j v hv)
            rw [h2] at hl
            unfold loadVar
            rw [Sem.run_bind, aggT_run ha]
            simp only [Result.andThen_ok, if_true, Sem.run_bind, size?_run hs, hl, Sem.run_pure]
        | false =>
          simp only [hf, ha, hs] at h
          cases hc : cs[off]? with
          | none => simp [hc, T.den] at h
          | some c =>
            simp only [hc] at h
            refine ⟨c, h, fun ro θ w hw => ?_⟩
            obtain ⟨r, base, v, h1, h2, h3⟩ := load_one (hw b cs hf) hc
            refine ⟨r, base, v, h1, h2, ?_⟩
            unfold loadVar
            rw [Sem.run_bind, aggT_run ha]
            simp only [Result.andThen_ok, Bool.false_eq_true, if_false, run_load, h3]

/-- a new block -/
theorem new_block {e : List Sc} {θ : Th} {ro : Nat} {heap : List (Nat × List AV)} {w : World} {next wlo : Nat} {cs : List AV} {vs : List Value} (t : TypeId) (hw : WRel e θ ro heap w) (hr : RelL e θ cs vs) (hi : Inj θ ro w) (hn : θ next = none) :
    ∃ θ', θ' next = some (w.heap.size, 0) ∧ ThLe θ θ' ∧ WRel e θ' ro ((next, cs) :: heap) { w with heap := w.heap.push (.cells ⟨vs⟩ t) } ∧ Stp θ θ' next (next + 1) wlo w { w with heap := w.heap.push (.cells ⟨vs⟩ t) } := by
  let θ' : Th := fun i => if i = next then some (w.heap.size, 0) else θ i
  have hle : ThLe θ θ' := by
    intro i x hx
    show (if i = next then _ else _) = _
    rw [if_neg]
    · exact hx
    · rintro rfl; rw [hn] at hx; cases hx
  refine ⟨θ', by simp [θ'], hle, ?_, ⟨hle, ?_, ?_, rfl, rfl, rfl, by simp, ?_⟩⟩
  · intro id ds hd
    rcases findB_cons hd with ⟨rfl, rfl⟩ | ⟨hne, hd⟩
    · refine ⟨w.heap.size, 0, ⟨vs⟩, t, (0, 0), by simp [θ'], by simp, fun _ => rfl, fun j c hc => ?_⟩
      obtain ⟨v, hv, hr'⟩ := hr.get hc
      exact ⟨v, by simpa using hv, Rel.mono (Pfx.refl e) hle _ _ hr'⟩
    · obtain ⟨r, base, us, el, fz, h1, h2, h3, h4⟩ := hw id ds hd
      have hlt : r < w.heap.size := (Array.getElem?_eq_some_iff.1 h2).1
      refine ⟨r, base, us, el, fz, hle _ _ h1, by rw [Array.getElem?_push, if_neg (by omega)]; exact h2, h3, fun j c hc => ?_⟩
      obtain ⟨v, hv, hr'⟩ := h4 j c hc
      exact ⟨v, hv, Rel.mono (Pfx.refl e) hle _ _ hr'⟩
  · intro i r b h' hi0
    have : i = next := by
      by_cases e : i = next
      · exact e
      · have : θ' i = θ i := by simp [θ', e]
        rw [this, hi0] at h'; cases h'
    subst this
    have : θ' i = some (w.heap.size, 0) := by simp [θ']
    rw [this] at h'; cases h'
    simp
  · intro i j r b b' hi0 hj0 h1 h2
    have e1 : i = next := by
      by_cases e : i = next
      · exact e
      · have : θ' i = θ i := by simp [θ', e]
        rw [this, hi0] at h1; cases h1
    have e2 : j = next := by
      by_cases e : j = next
      · exact e
      · have : θ' j = θ j := by simp [θ', e]
        rw [this, hj0] at h2; cases h2
    rw [e1, e2]
  · intro r hr' _
    show (w.heap.push _)[r]? = _
    rw [Array.getElem?_push, if_neg (by omega)]

theorem findB_setB_ne {id b : Nat} {cs' : List AV} (hne : id ≠ b) : ∀ {heap : List (Nat × List AV)}, findB id (setB b cs' heap) = findB id heap
  | [] => rfl
  | (j, es) :: heap => by
    unfold setB
    cases e : Nat.beq b j with
    | true =>
      have ej : b = j := Nat.eq_of_beq_eq_true e
      subst ej
      simp only [findB]
      rw [show Nat.beq id b = false from by
        cases q : Nat.beq id b
        · rfl
        · exact absurd (Nat.eq_of_beq_eq_true q) hne]
    | false =>
      simp only [findB]
      rw [findB_setB_ne hne]
theorem findB_setB {id b : Nat} {cs' : List AV} : ∀ {heap : List (Nat × List AV)} {ds : List AV}, findB id (setB b cs' heap) = some ds → (id = b ∧ ds = cs' ∧ ∃ x, findB b heap = some x) ∨ (id ≠ b ∧ findB id heap = some ds)
  | [], ds, h => by simp [setB, findB] at h
  | (j, es) :: heap, ds, h => by
    unfold setB at h
    cases e : Nat.beq b j with
    | true =>
      rw [e] at h
      have ej : b = j := Nat.eq_of_beq_eq_true e
      subst ej
      rcases findB_cons h with ⟨rfl, rfl⟩ | ⟨hne, h⟩
      · exact .inl ⟨rfl, rfl, es, by simp [findB, e]⟩
      · refine .inr ⟨hne, ?_⟩
        unfold findB
        rw [show Nat.beq id b = false from by
          cases q : Nat.beq id b
          · rfl
          · exact absurd (Nat.eq_of_beq_eq_true q) hne]
        exact h
    | false =>
      rw [e] at h
      rcases findB_cons h with ⟨rfl, rfl⟩ | ⟨hne, h⟩
      · refine .inr ⟨?_, by simp [findB, Nat.beq_refl _]⟩
        rintro rfl
        rw [Nat.beq_refl _] at e; cases e
      · rcases findB_setB h with ⟨rfl, rfl, x, hx⟩ | ⟨hne', h⟩
        · refine .inl ⟨rfl, rfl, x, ?_⟩
          unfold findB; rw [e]; exact hx
        · refine .inr ⟨hne', ?_⟩
          unfold findB
          rw [show Nat.beq id j = false from by
            cases q : Nat.beq id j
            · rfl
            · exact absurd (Nat.eq_of_beq_eq_true q) hne]
          exact h

theorem one_cell {e : List Sc} {θ : Th} {a : AV} {v : Value} (h : Rel e θ a v) (h1 : a.one = true) : v.oneCell' = true := by
  cases a <;> simp [AV.one] at h1 <;> simp only [Rel] at h
  · subst h; rfl
  · subst h; rfl
  · obtain ⟨_, _, _, rfl, _⟩ := h; rfl
  · obtain ⟨_, _, _, rfl, _⟩ := h; rfl
  · obtain ⟨_, _, _, rfl, _⟩ := h; rfl
  · obtain ⟨_, _, _, rfl⟩ := h; rfl
  · obtain ⟨_, _, _, rfl⟩ := h; rfl
  · subst h; rfl
  · obtain ⟨_, rfl, _⟩ := h; rfl

end Go.Proofs.YtejbahdihfnbcaaDoor.Sx

/- Each operation that is no call. -/
namespace Go.Proofs.YtejbahdihfnbcaaDoor.Sx
open Go
set_option linter.unusedSimpArgs false
set_option linter.unusedVariables false

section
variable {P : Program} {G : Gs} {rs env : List Sc} {tm : Tr AV} {st : St} {kk : K} {ro : Nat} {o : Oper}

def OpLands (P : Program) (G : Gs) (rs env : List Sc) (tm : Tr AV) (st : St) (kk : K) (ro : Nat) (o : Oper) : Prop :=
  Lands G rs env st kk fun e av s => Sound P ro env e st s tm o av

theorem Rel.ptr {e : List Sc} {θ : Th} {b off : Nat} {v : Value} (h : Rel e θ (.ptr b off) v) : ∃ r base, θ b = some (r, base) ∧ v = .pointer (some ⟨r, base + off, none⟩) := by simpa [Rel] using h

theorem ok_move (x : Operand) (ho : o.op = .move x ∨ o.op = .assign x) (h : (opd tm x st kk).den G env = some rs) (hn : st.nn = env.length) : OpLands P G rs env tm st kk ro o := by
  refine (opd_ok h hn).imp fun e av s p n x1 w1 ⟨hh, hx, hr⟩ => Runs.sound ?_
  intro a w θ hp hf
  refine ⟨a.eval x, w, .inl ?_, post_plain hp p hh x1 (hr a θ hp.tm) (Drew.refl w)⟩
  rcases ho with ho | ho <;> simp only [execOp, ho] <;> rfl

theorem ok_pick (c x y : Operand) (ho : o.op = .pick c x y) (h : (opd tm c st (kPick tm x y kk)).den G env = some rs) (hn : st.nn = env.length) : OpLands P G rs env tm st kk ro o := by
  obtain ⟨e1, a1, s1, h1, p1, n1, x1, w1, hh1, hx1, r1⟩ := opd_ok h hn
  unfold kPick at h1
  cases a1 <;> (try simp only [T.den] at h1) <;> (try (cases h1; done))
  rename_i b
  cases b with
  | true =>
    obtain ⟨e2, a2, s2, h2, p2, n2, x2, w2, hh2, hx2, r2⟩ := opd_ok h1 n1
    refine ⟨e2, a2, s2, h2, p1.trans p2, n2, by omega, w2.trans w1, Runs.sound ?_⟩
    intro a w θ hp hf
    have hc := r1 a θ hp.tm
    simp only [Rel] at hc
    refine ⟨a.eval x, w, .inl ?_, post_plain hp (p1.trans p2) (hh2.trans hh1) (by omega) (r2 a θ (hp.tm.mono p1 (ThLe.refl θ))) (Drew.refl w)⟩
    simp only [execOp, ho, hc]; rfl
  | false =>
    obtain ⟨e2, a2, s2, h2, p2, n2, x2, w2, hh2, hx2, r2⟩ := opd_ok h1 n1
    refine ⟨e2, a2, s2, h2, p1.trans p2, n2, by omega, w2.trans w1, Runs.sound ?_⟩
    intro a w θ hp hf
    have hc := r1 a θ hp.tm
    simp only [Rel] at hc
    refine ⟨a.eval y, w, .inl ?_, post_plain hp (p1.trans p2) (hh2.trans hh1) (by omega) (r2 a θ (hp.tm.mono p1 (ThLe.refl θ))) (Drew.refl w)⟩
    simp only [execOp, ho, hc]; rfl

theorem post_new {env e : List Sc} {θ : Th} {a : Act} {w : World} {s s' : St} {cs : List AV} {vs : List Value} (t : TypeId) (hp : OpPre ro env θ tm st a w) (hpx : Pfx env e) (hh : s.heap = st.heap) (hx : s.next = st.next) (hr : RelL e θ cs vs)
    (hs : s' = { s with heap := (s.next, cs) :: s.heap, next := Nat.add s.next 1 }) (hfr : Fresh θ st.next s'.next) (av : AV) (hav : av = .ptr s.next 0 ∨ ∃ l, av = .slice s.next 0 l l) (v : Value)
    (hv : v = (match av with | .slice _ _ l c => .slice (some ⟨w.heap.size, 0, none⟩) l c | _ => .pointer (some ⟨w.heap.size, 0, none⟩))) :
    OpPost ro e θ st s' av w v { w with heap := w.heap.push (.cells ⟨vs⟩ t) } := by
  subst hs
  have hno : θ s.next = none := hfr s.next (by omega) (by show s.next < s.next + 1; omega)
  obtain ⟨θ', h1, h2, h3, h4⟩ := new_block (wlo := st.wlo) t ((hp.wr.mono hpx (ThLe.refl θ))) hr hp.inj hno
  refine ⟨θ', ?_, by rw [hh]; exact h3, by rw [← hx]; exact h4⟩
  rcases hav with rfl | ⟨l, rfl⟩
  · subst hv; simp only [Rel]; exact ⟨w.heap.size, 0, h1, rfl⟩
  · subst hv; simp only [Rel]; exact ⟨w.heap.size, 0, h1, rfl⟩

theorem ok_box (t : TypeId) (x : Operand) (ho : o.op = .box t x) (h : (opd tm x st fun v st => newB v.cells st fun b st => kk (.ptr b 0) st).den G env = some rs) (hn : st.nn = env.length) : OpLands P G rs env tm st kk ro o := by
  obtain ⟨e1, a1, s1, h1, p1, n1, x1, w1, hh1, hx1, r1⟩ := opd_ok h hn
  unfold newB at h1
  refine ⟨e1, .ptr s1.next 0, _, h1, p1, n1, by show st.next ≤ s1.next + 1; omega, w1, Runs.sound ?_⟩
  intro a w θ hp hf
  have hc := (r1 a θ hp.tm).cells
  refine ⟨_, _, .inl ?_, post_new t hp p1 hh1 hx1 hc rfl hf _ (.inl rfl) _ rfl⟩
  simp only [execOp, ho]
  refine run_value ?_
  simp only [Instr.box, newVar, newRow, Sem.run_bind, run_newObj, Result.andThen_ok, Sem.run_pure]

theorem ok_alloc (t : TypeId) (ho : o.op = .alloc t) (h : (evAlloc P t st kk).den G env = some rs) (hn : st.nn = env.length) : OpLands P G rs env tm st kk ro o := by
  unfold evAlloc at h
  cases hi : P.info? t with
  | none => simp [hi, T.den] at h
  | some i =>
    cases hz : i.zero with
    | none => simp [hi, hz, T.den] at h
    | some z =>
      simp only [hi, hz] at h
      obtain ⟨e1, a1, s1, h1, p1, n1, x1, w1, hh1, hx1, r1⟩ := ofValues_ok _ h hn
      unfold newB at h1
      refine ⟨e1, .ptr s1.next 0, _, h1, p1, n1, by show st.next ≤ s1.next + 1; omega, w1, Runs.sound ?_⟩
      intro a w θ hp hf
      refine ⟨_, _, .inl ?_, post_new t hp p1 hh1 hx1 (r1 θ) rfl hf _ (.inl rfl) _ rfl⟩
      simp only [execOp, ho]
      refine run_value ?_
      simp only [Instr.alloc, zeroValue, typeInfo, Sem.run_bind, run_program, Result.andThen_ok, hi, hz, Sem.run_pure, newVar, newRow, run_newObj]

theorem ok_load (t : TypeId) (x : Operand) (ho : o.op = .load t x) (h : (opd tm x st (evLoad P t kk)).den G env = some rs) (hn : st.nn = env.length) : OpLands P G rs env tm st kk ro o := by
  obtain ⟨e1, a1, s1, h1, p1, n1, x1, w1, hh1, hx1, r1⟩ := opd_ok h hn
  unfold evLoad at h1
  cases a1 <;> simp only [T.den] at h1 <;> try (cases h1; done)
  rename_i b off
  obtain ⟨av, h2, hl⟩ := loadT_ok h1
  refine ⟨e1, av, s1, h2, p1, n1, x1, w1, Runs.sound ?_⟩
  intro a w θ hp hf
  obtain ⟨r', base', hθ', hptr⟩ := (r1 a θ hp.tm).ptr
  obtain ⟨r, base, v, hθ, hrel, hrun⟩ := hl ro θ w (by rw [hh1]; exact hp.wr.mono p1 (ThLe.refl θ))
  rw [hθ'] at hθ; cases hθ
  refine ⟨v, w, .inl ?_, post_plain hp p1 hh1 x1 hrel (Drew.refl w)⟩
  simp only [execOp, ho]
  refine run_value ?_
  simp only [Instr.loadAt, hptr, Instr.sureAddr, Sem.run_bind, Sem.run_pure, Result.andThen_ok]
  exact hrun

theorem ok_nil (x : Operand) (ho : o.op = .nilCheck x) (h : (opd tm x st (evNil kk)).den G env = some rs) (hn : st.nn = env.length) : OpLands P G rs env tm st kk ro o := by
  obtain ⟨e1, a1, s1, h1, p1, n1, x1, w1, hh1, hx1, r1⟩ := opd_ok h hn
  unfold evNil at h1
  cases a1 <;> simp only [T.den] at h1 <;> try (cases h1; done)
  rename_i b off
  refine ⟨e1, _, s1, h1, p1, n1, x1, w1, Runs.sound ?_⟩
  intro a w θ hp hf
  obtain ⟨r', base', hθ', hptr⟩ := (r1 a θ hp.tm).ptr
  refine ⟨a.eval x, w, .inl ?_, post_plain hp p1 hh1 x1 (r1 a θ hp.tm) (Drew.refl w)⟩
  simp only [execOp, ho, hptr]; rfl

theorem fldOff_ok {s f d : Nat} (h : fldOff P s f = some d) : ∃ fs fd n, P.underlying s = some (.struct fs) ∧ fs[f]? = some fd ∧ size? P fd.type = some (n + 1) ∧ fd.offset = d := by
  unfold fldOff at h
  split at h
  · rename_i fs hu
    split at h
    · rename_i fd hfd
      cases hs : size? P fd.type with
      | none => simp [hs] at h
      | some n =>
        cases n with
        | zero => simp [hs] at h
        | succ n => exact ⟨fs, fd, n, hu, hfd, hs, by simpa [hs] using h⟩
    · cases h
  · cases h

theorem ok_fieldAddr (s : TypeId) (x : Operand) (f : Nat) (ho : o.op = .fieldAddr s x f) (h : (opd tm x st (evFieldAddr P s f kk)).den G env = some rs) (hn : st.nn = env.length) : OpLands P G rs env tm st kk ro o := by
  obtain ⟨e1, a1, s1, h1, p1, n1, x1, w1, hh1, hx1, r1⟩ := opd_ok h hn
  unfold evFieldAddr at h1
  cases a1 <;> simp only [T.den] at h1 <;> try (cases h1; done)
  rename_i b off
  cases hd : fldOff P s f with
  | none => simp [hd, T.den] at h1
  | some d =>
    simp only [hd] at h1
    refine ⟨e1, _, s1, h1, p1, n1, x1, w1, Runs.sound ?_⟩
    intro a w θ hp hf
    obtain ⟨r, base, hθ, hptr⟩ := (r1 a θ hp.tm).ptr
    obtain ⟨fs, fd, n, hu, hfd, hsz, rfl⟩ := fldOff_ok hd
    refine ⟨.pointer (some ⟨r, base + (off + fd.offset), none⟩), w, .inl ?_, post_plain hp p1 hh1 x1 (by simp only [Rel]; exact ⟨r, base, hθ, rfl⟩) (Drew.refl w)⟩
    simp only [execOp, ho]
    refine run_value ?_
    simp only [Instr.fieldAt, hptr, Sem.run_bind, underlying_run hu, Result.andThen_ok, hfd, Instr.sureAddr, Sem.run_pure, fieldPlace, size?_run hsz]
    simp only [Nat.add_eq_zero_iff, Nat.one_ne_zero, and_false, if_false, Sem.run_pure, Result.andThen_ok, add_addr]

theorem inRange_ok {n : Int} {len : Nat} (h : inRange n len = true) : 0 ≤ n ∧ n < len := by
  simp [inRange] at h; exact h

theorem ok_indexAddr (t : TypeId) (x i : Operand) (ho : o.op = .indexAddr t x i) (h : (evIndexAddr P tm t x i st kk).den G env = some rs) (hn : st.nn = env.length) : OpLands P G rs env tm st kk ro o := by
  unfold evIndexAddr at h
  obtain ⟨e1, a1, s1, h1, p1, n1, x1, w1, hh1, hx1, r1⟩ := opd_ok h hn
  obtain ⟨e2, a2, s2, h2, p2, n2, x2, w2, hh2, hx2, r2⟩ := opd_ok h1 n1
  unfold evIndexAddr2 at h2
  cases a2 <;> simp only [T.den] at h2 <;> try (cases h2; done)
  rename_i k n
  split at h2
  · rename_i len el hu
    cases a1 <;> simp only [T.den] at h2 <;> try (cases h2; done)
    rename_i b off
    cases hs : size? P el with
    | none => simp [hs, T.den] at h2
    | some sz =>
      cases hr : inRange n len with
      | false => simp [hs, hr, T.den] at h2
      | true =>
        simp only [hs, hr] at h2
        refine ⟨e2, _, s2, h2, p1.trans p2, n2, by omega, w2.trans w1, Runs.sound ?_⟩
        intro a w θ hp hf
        obtain ⟨r, base, hθ, hptr⟩ := (r1 a θ hp.tm).ptr
        have hi := r2 a θ (hp.tm.mono p1 (ThLe.refl θ))
        simp only [Rel] at hi
        obtain ⟨hr1, hr2⟩ := inRange_ok hr
        refine ⟨.pointer (some ⟨r, base + (off + n.toNat * sz), none⟩), w, .inl ?_, post_plain hp (p1.trans p2) (hh2.trans hh1) (by omega) (by simp only [Rel]; exact ⟨r, base, hθ, rfl⟩) (Drew.refl w)⟩
        simp only [execOp, ho]
        refine run_value ?_
        simp only [Instr.indexAt, hptr, hi, asIntOf, Sem.run_bind, Sem.run_pure, underlying_run hu, Result.andThen_ok, Instr.sureAddr, hr1, hr2, and_self, if_true, size?_run hs, add_addr]
  · rename_i el hu
    cases a1 <;> simp only [T.den] at h2 <;> try (cases h2; done)
    rename_i b off len cap
    cases hs : size? P el with
    | none => simp [hs, T.den] at h2
    | some sz =>
      cases hr : inRange n len with
      | false => simp [hs, hr, T.den] at h2
      | true =>
        simp only [hs, hr] at h2
        refine ⟨e2, _, s2, h2, p1.trans p2, n2, by omega, w2.trans w1, Runs.sound ?_⟩
        intro a w θ hp hf
        have hsl := r1 a θ hp.tm
        simp only [Rel] at hsl
        obtain ⟨r, base, hθ, hptr⟩ := hsl
        have hi := r2 a θ (hp.tm.mono p1 (ThLe.refl θ))
        simp only [Rel] at hi
        obtain ⟨hr1, hr2⟩ := inRange_ok hr
        refine ⟨.pointer (some ⟨r, base + (off + n.toNat * sz), none⟩), w, .inl ?_, post_plain hp (p1.trans p2) (hh2.trans hh1) (by omega) (by simp only [Rel]; exact ⟨r, base, hθ, rfl⟩) (Drew.refl w)⟩
        simp only [execOp, ho]
        refine run_value ?_
        simp only [Instr.indexAt, hptr, hi, asIntOf, Sem.run_bind, Sem.run_pure, underlying_run hu, Result.andThen_ok, Instr.sureAddr, hr1, hr2, and_self, if_true, size?_run hs, add_addr]
  · simp [T.den] at h2

theorem part_ok {el : TypeId} {off : Nat} {cs : List AV} {s : St} {e : List Sc} (h : (partAV P el off cs s kk).den G e = some rs) :
    ∃ av, (kk av s).den G e = some rs ∧ ∀ θ vs w, RelL e θ cs vs → ∃ v, Rel e θ av v ∧ (part el ⟨vs⟩ off).run P w = .ok v w := by
  unfold partAV at h
  cases ha : aggT P el with
  | none => simp [ha, T.den] at h
  | some g =>
    cases hs : size? P el with
    | none => cases g <;> simp [ha, hs, T.den] at h
    | some n =>
      cases g with
      | true =>
        simp only [ha, hs] at h
        cases ht : takeAt off n cs with
        | none => simp [ht, T.den] at h
        | some avs =>
          simp only [ht] at h
          refine ⟨_, h, fun θ vs w hr => ⟨.agg ⟨(vs.drop off).take n⟩, ?_, ?_⟩⟩
          · unfold takeAt at ht
            split at ht
            · cases ht; exact Rel.agg (RelL.take n (RelL.drop off hr))
            · cases ht
          · unfold part
            rw [Sem.run_bind, aggT_run ha]
            simp only [Result.andThen_ok, if_true, Sem.run_bind, size?_run hs, Sem.run_pure]
            congr 2
            apply Array.toList_inj.1
            simp [Array.toList_extract, List.extract, List.drop_take]
      | false =>
        simp only [ha, hs] at h
        cases hc : cs[off]? with
        | none => simp [hc, T.den] at h
        | some c =>
          simp only [hc] at h
          refine ⟨_, h, fun θ vs w hr => ?_⟩
          obtain ⟨v, hv, hrel⟩ := hr.get hc
          refine ⟨v, hrel, ?_⟩
          unfold part
          rw [Sem.run_bind, aggT_run ha]
          have hv' : (⟨vs⟩ : Array Value)[off]? = some v := by simpa using hv
          simp only [Result.andThen_ok, Bool.false_eq_true, if_false, hv', Sem.run_pure]

theorem ok_field (t : TypeId) (x : Operand) (f : Nat) (ho : o.op = .field t x f) (h : (opd tm x st (evField P t f kk)).den G env = some rs) (hn : st.nn = env.length) : OpLands P G rs env tm st kk ro o := by
  obtain ⟨e1, a1, s1, h1, p1, n1, x1, w1, hh1, hx1, r1⟩ := opd_ok h hn
  unfold evField at h1
  cases a1 <;> simp only [T.den] at h1 <;> try (cases h1; done)
  rename_i cs
  split at h1
  · rename_i fs hu
    cases hfd : fs[f]? with
    | none => simp [hfd, T.den] at h1
    | some fd =>
      simp only [hfd] at h1
      obtain ⟨av, h2, hl⟩ := part_ok h1
      refine ⟨e1, av, s1, h2, p1, n1, x1, w1, Runs.sound ?_⟩
      intro a w θ hp hf
      have hc := r1 a θ hp.tm
      simp only [Rel] at hc
      obtain ⟨vs, hv, hr⟩ := hc
      obtain ⟨v, hrel, hrun⟩ := hl θ vs w hr
      refine ⟨v, w, .inl ?_, post_plain hp p1 hh1 x1 hrel (Drew.refl w)⟩
      simp only [execOp, ho]
      refine run_value ?_
      simp only [Instr.field, hv, Sem.run_bind, underlying_run hu, Result.andThen_ok, hfd, asAgg, Sem.run_pure]
      exact hrun
  · simp [T.den] at h1

theorem ok_index (t : TypeId) (x i : Operand) (ho : o.op = .index t x i) (h : (evIndex P tm t x i st kk).den G env = some rs) (hn : st.nn = env.length) : OpLands P G rs env tm st kk ro o := by
  unfold evIndex at h
  obtain ⟨e1, a1, s1, h1, p1, n1, x1, w1, hh1, hx1, r1⟩ := opd_ok h hn
  obtain ⟨e2, a2, s2, h2, p2, n2, x2, w2, hh2, hx2, r2⟩ := opd_ok h1 n1
  unfold evIndex2 at h2
  cases a1 <;> simp only [T.den] at h2 <;> try (cases h2; done)
  rename_i cs
  cases a2 <;> simp only [T.den] at h2 <;> try (cases h2; done)
  rename_i k n
  split at h2
  · rename_i len el hu
    cases hs : size? P el with
    | none => simp [hs, T.den] at h2
    | some sz =>
      cases hr : inRange n len with
      | false => simp [hs, hr, T.den] at h2
      | true =>
        simp only [hs, hr] at h2
        obtain ⟨av, h3, hl⟩ := part_ok h2
        refine ⟨e2, av, s2, h3, p1.trans p2, n2, by omega, w2.trans w1, Runs.sound ?_⟩
        intro a w θ hp hf
        have hc := r1 a θ hp.tm
        simp only [Rel] at hc
        obtain ⟨vs, hv, hrl⟩ := hc
        have hi := r2 a θ (hp.tm.mono p1 (ThLe.refl θ))
        simp only [Rel] at hi
        obtain ⟨hr1, hr2⟩ := inRange_ok hr
        obtain ⟨v, hrel, hrun⟩ := hl θ vs w (RelL.mono p2 (ThLe.refl θ) _ _ hrl)
        refine ⟨v, w, .inl ?_, post_plain hp (p1.trans p2) (hh2.trans hh1) (by omega) hrel (Drew.refl w)⟩
        simp only [execOp, ho]
        refine run_value ?_
        simp only [Instr.index, hv, hi, asIntOf, Sem.run_bind, Sem.run_pure, underlying_run hu, Result.andThen_ok, hr1, hr2, and_self, if_true, size?_run hs]
        exact hrun
  · simp [T.den] at h2

theorem ok_slice (t : TypeId) (x : Operand) (l hi m : Option Operand) (ho : o.op = .slice t x l hi m) (h : (evSliceO P tm t x l hi m st kk).den G env = some rs) (hn : st.nn = env.length) : OpLands P G rs env tm st kk ro o := by
  unfold evSliceO at h
  split at h
  · obtain ⟨e1, a1, s1, h1, p1, n1, x1, w1, hh1, hx1, r1⟩ := opd_ok h hn
    unfold evSlice at h1
    cases a1 <;> simp only [T.den] at h1 <;> try (cases h1; done)
    rename_i b off
    split at h1
    · rename_i n el hu
      cases hs : size? P el with
      | none => simp [hs, T.den] at h1
      | some sz =>
        simp only [hs] at h1
        refine ⟨e1, _, s1, h1, p1, n1, x1, w1, Runs.sound ?_⟩
        intro a w θ hp hf
        obtain ⟨r, base, hθ, hptr⟩ := (r1 a θ hp.tm).ptr
        refine ⟨.slice (some ⟨r, base + off, none⟩) n n, w, .inl ?_, post_plain hp p1 hh1 x1 (by simp only [Rel]; exact ⟨r, base, hθ, rfl⟩) (Drew.refl w)⟩
        simp only [execOp, ho]
        refine run_value ?_
        simp only [Instr.sliceAt, hptr, Sem.run_bind, Sem.run_pure, underlying_run hu, Result.andThen_ok, Instr.sureAddr, Instr.sliceBounds, Option.map_none, size?_run hs, Nat.zero_mul, Nat.sub_zero]
        congr 3
        split
        · rfl
        · simp [Addr.add]
    · simp [T.den] at h1
  · simp [T.den] at h

end
end Go.Proofs.YtejbahdihfnbcaaDoor.Sx

/- Operations, the second part: stores, arithmetic, builds. -/
namespace Go.Proofs.YtejbahdihfnbcaaDoor.Sx
open Go
set_option linter.unusedSimpArgs false
set_option linter.unusedVariables false

/-! Filling -/
theorem fold_set (off : Nat) : ∀ (l : List Value) (k : Nat) (cells : Array Value),
    ((l.zipIdx k).foldl (fun (cs : Array Value) (p : Value × Nat) => cs.setIfInBounds (off + p.2) p.1) cells).size = cells.size ∧
    ∀ i, ((l.zipIdx k).foldl (fun (cs : Array Value) (p : Value × Nat) => cs.setIfInBounds (off + p.2) p.1) cells)[i]? = if off + k ≤ i ∧ i < off + k + l.length ∧ i < cells.size then l[i - off - k]? else cells[i]?
  | [], k, cells => by
    refine ⟨by simp, fun i => ?_⟩
    rw [if_neg (by simp; omega)]; simp
  | v :: l, k, cells => by
    obtain ⟨h1, h2⟩ := fold_set off l (k + 1) (cells.setIfInBounds (off + k) v)
    simp only [List.zipIdx_cons, List.foldl_cons]
    refine ⟨by rw [h1]; simp, fun i => ?_⟩
    rw [h2 i]
    simp only [Array.size_setIfInBounds, List.length_cons, Array.getElem?_setIfInBounds]
    by_cases e : off + k = i
    · subst e
      have z : off + k - off - k = 0 := by omega
      by_cases hs : off + k < cells.size
      · simp [hs, z]
        intro h; omega
      · simp [hs]
    · by_cases hc : off + (k + 1) ≤ i ∧ i < off + (k + 1) + l.length ∧ i < cells.size
      · rw [if_pos hc, if_pos (by omega)]
        have : i - off - k = (i - off - (k + 1)) + 1 := by omega
        rw [this]; simp
      · rw [if_neg hc, if_neg (by omega), if_neg (by omega)]

theorem put_get {off : Nat} {vs cs cs' : List AV} (h : putAt off vs cs = some cs') : off + vs.length ≤ cs.length ∧ cs'.length = cs.length ∧ ∀ i, cs'[i]? = if off ≤ i ∧ i < off + vs.length then vs[i - off]? else cs[i]? := by
  unfold putAt at h
  cases hle : Nat.ble (Nat.add off vs.length) cs.length with
  | false => rw [hle] at h; cases h
  | true =>
    rw [hle] at h
    have hle' : off + vs.length ≤ cs.length := Nat.le_of_ble_eq_true hle
    cases h
    refine ⟨hle', ?_, fun i => ?_⟩
    · simp only [List.length_append, List.length_take, List.length_drop]
      show min off cs.length + vs.length + (cs.length - (off + vs.length)) = _
      omega
    · by_cases h1 : i < off
      · rw [if_neg (by omega), List.append_assoc, List.getElem?_append_left (by simp; omega), List.getElem?_take_of_lt h1]
      · by_cases h2 : i < off + vs.length
        · rw [if_pos ⟨by omega, h2⟩, List.append_assoc, List.getElem?_append_right (by simp; omega), List.getElem?_append_left (by simp; omega)]
          congr 1; simp; omega
        · rw [if_neg (by omega), List.getElem?_append_right (by simp; omega), List.getElem?_drop]
          congr 1
          show off + vs.length + (i - (List.take off cs ++ vs).length) = i
          simp; omega

theorem fill_ok {e : List Sc} {θ : Th} {off : Nat → Option (Nat × Nat)} : ∀ {ps : List (Nat × AV)} {vs : List (Nat × Value)} {cs cs' : List AV} {cells : Array Value}, RelP e θ ps vs → RelL e θ cs cells.toList → fillA off cs ps = some cs' →
    ∃ cells', Instr.fill off cells vs = some cells' ∧ RelL e θ cs' cells'.toList
  | [], vs, cs, cs', cells, hp, hc, h => by
    simp only [RelP] at hp; subst hp
    simp only [fillA] at h; cases h
    exact ⟨cells, rfl, hc⟩
  | (i, c) :: ps, vs, cs, cs', cells, hp, hc, h => by
    simp only [RelP] at hp
    obtain ⟨v, vs', rfl, h2, h3⟩ := hp
    unfold fillA at h
    cases ho : off i with
    | none => simp [ho] at h
    | some x =>
      obtain ⟨o, n⟩ := x
      simp only [ho] at h
      cases hn : Nat.beq n c.cells.length with
      | false => simp [hn] at h
      | true =>
        simp only [hn] at h
        cases hput : putAt o c.cells cs with
        | none => simp [hput] at h
        | some cs1 =>
          simp only [hput] at h
          obtain ⟨p1, p2, p3⟩ := put_get hput
          have hcl := h2.cells
          have hlen := hcl.length
          have hcs := hc.length
          simp only [Array.length_toList] at hlen hcs
          have hn' : n = c.cells.length := Nat.eq_of_beq_eq_true hn
          have hfold : v.cells.zipIdx.foldl (fun cs (c, j) => cs.setIfInBounds (o + j) c) cells = (v.cells.toList.zipIdx 0).foldl (fun (cs : Array Value) (p : Value × Nat) => cs.setIfInBounds (o + p.2) p.1) cells := by
            rw [← Array.foldl_toList, Array.toList_zipIdx]
          obtain ⟨f1, f2⟩ := fold_set o v.cells.toList 0 cells
          have hrel : RelL e θ cs1 (v.cells.zipIdx.foldl (fun cs (c, j) => cs.setIfInBounds (o + j) c) cells).toList := by
            rw [hfold]
            apply RelL.of_get
            · rw [Array.length_toList, f1, p2, hcs]
            · intro j d u hd hu
              rw [Array.getElem?_toList, f2 j] at hu
              rw [p3 j] at hd
              by_cases hin : o ≤ j ∧ j < o + c.cells.length
              · rw [if_pos hin] at hd
                rw [if_pos ⟨by omega, by simp only [Array.length_toList]; omega, by omega⟩] at hu
                obtain ⟨u', hu', hr⟩ := hcl.get hd
                rw [show j - o - 0 = j - o from by omega, hu'] at hu
                cases hu; exact hr
              · rw [if_neg hin] at hd
                rw [if_neg (by simp only [Array.length_toList]; omega)] at hu
                obtain ⟨u', hu', hr⟩ := hc.get hd
                rw [Array.getElem?_toList, hu] at hu'
                cases hu'; exact hr
          obtain ⟨cells', k1, k2⟩ := fill_ok h3 hrel h
          refine ⟨cells', ?_, k2⟩
          unfold Instr.fill
          simp only [ho]
          rw [if_neg (by simp; omega)]
          exact k1

section
variable {P : Program} {G : Gs} {rs env : List Sc} {tm : Tr AV} {st : St} {kk : K} {ro : Nat} {o : Oper}

theorem mapM_sizes : ∀ (fs : List Field), fs.all (fun f => (size? P f.type).isSome) = true → ∃ places, fs.mapM (fun f => (P.info? f.type).map fun i => (f.offset, i.size)) = some places ∧ places.length = fs.length ∧ ∀ (j : Nat) (f : Field), fs[j]? = some f → ∃ n, size? P f.type = some n ∧ places[j]? = some (f.offset, n)
  | [], _ => ⟨[], rfl, rfl, fun j f h => by simp at h⟩
  | f :: fs, h => by
    simp only [List.all_cons, Bool.and_eq_true] at h
    obtain ⟨ps, h1, h2, h3⟩ := mapM_sizes fs h.2
    cases hi : P.info? f.type with
    | none => simp [size?, hi] at h
    | some i =>
      refine ⟨(f.offset, i.size) :: ps, by simp [List.mapM_cons, hi, h1], by simp [h2], ?_⟩
      intro j g hg
      cases j with
      | zero => simp at hg; subst hg; exact ⟨i.size, by simp [size?, hi], by simp⟩
      | succ j => obtain ⟨n, a, b⟩ := h3 j g (by simpa using hg); exact ⟨n, a, by simpa using b⟩

theorem fill_congr {p q : Nat → Option (Nat × Nat)} (h : ∀ i, p i = q i) : ∀ (vs : List (Nat × Value)) (cells : Array Value), Instr.fill p cells vs = Instr.fill q cells vs := by
  have : p = q := funext h
  subst this; intros; rfl

theorem ok_build (t : TypeId) (ps : Array (Nat × Operand)) (ho : o.op = .build t ps) (h : (evBuild P tm t ps st kk).den G env = some rs) (hn : st.nn = env.length) : OpLands P G rs env tm st kk ro o := by
  unfold evBuild at h
  obtain ⟨e1, a1, s1, h1, p1, n1, x1, w1, hh1, hx1, r1⟩ := opdParts_ok _ h hn
  cases hi : P.info? t with
  | none => simp [hi, T.den] at h1
  | some i =>
    cases hz : i.zero with
    | none => simp [hi, hz, T.den] at h1
    | some z =>
      simp only [hi, hz] at h1
      obtain ⟨e2, a2, s2, h2, p2, n2, x2, w2, hh2, hx2, r2⟩ := ofValues_ok _ h1 n1
      have fin : ∀ (cs' : List AV) (hlands : (kk (.agg cs') s2).den G e2 = some rs)
          (hb : ∀ θ (vals : List (Nat × Value)), RelP e2 θ a1 vals → ∃ cells', P.built t vals = some cells' ∧ RelL e2 θ cs' cells'.toList), OpLands P G rs env tm st kk ro o := by
        intro cs' hlands hb
        refine ⟨e2, _, s2, hlands, p1.trans p2, n2, by omega, w2.trans w1, Runs.sound ?_⟩
        intro a w θ hp hf
        obtain ⟨cells', hbt, hrel⟩ := hb θ _ ((r1 a θ hp.tm).mono p2 (ThLe.refl θ))
        refine ⟨.agg cells', w, .inl ?_, post_plain hp (p1.trans p2) (hh2.trans hh1) (by omega) (Rel.agg (vs := cells'.toList) hrel) (Drew.refl w)⟩
        simp only [execOp, ho]
        refine run_value (run_build w t _ cells' ?_)
        rw [← hbt]; congr 1; simp
      cases hu : P.underlying t with
      | none => simp [hu, T.den] at h2
      | some d =>
        simp only [hu] at h2
        cases d <;> simp only [T.den] at h2 <;> try (cases h2; done)
        case array n el =>
          cases hs : size? P el with
          | none => simp [hs, T.den] at h2
          | some sz =>
            simp only [hs] at h2
            split at h2
            case h_2 => simp [T.den] at h2
            case h_1 cs' hfa =>
              refine fin cs' h2 fun θ vals hv => ?_
              obtain ⟨cells', k1, k2⟩ := fill_ok (cells := z.cells) hv (r2 θ) hfa
              refine ⟨cells', ?_, k2⟩
              unfold size? at hs
              cases hie : P.info? el with
              | none => simp [hie] at hs
              | some ie =>
                simp [hie] at hs
                simp only [Program.built, hi, hu, hz, hie, hs]
                exact k1
        case struct fs =>
          cases hall : fs.toList.all (fun f => (size? P f.type).isSome) with
          | false => simp only [hall] at h2; simp [T.den] at h2
          | true =>
            cases hfa : fillA (fillStruct P fs) a2 a1 with
            | none => simp only [hall, hfa] at h2; simp [T.den] at h2
            | some cs' =>
              simp only [hall, hfa] at h2
              refine fin cs' h2 fun θ vals hv => ?_
              obtain ⟨cells', k1, k2⟩ := fill_ok (cells := z.cells) hv (r2 θ) hfa
              refine ⟨cells', ?_, k2⟩
              obtain ⟨places, m1, m2, m3⟩ := mapM_sizes fs.toList hall
              simp only [Program.built, hi, hu, hz, m1]
              rw [← k1]
              apply fill_congr
              intro j
              simp only [fillStruct, List.getElem?_toArray]
              cases hf : fs[j]? with
              | none =>
                simp only []
                rw [List.getElem?_eq_none]
                rw [m2, Array.length_toList]
                exact Array.getElem?_eq_none_iff.1 hf
              | some f =>
                obtain ⟨n, q1, q2⟩ := m3 j f (by simpa using hf)
                simp only [q1]; exact q2

theorem range_zero (len sz : Nat) (z : Array Value) (hz : z.size = sz) : (Array.range (len * sz)).map (z[· % sz]!) = ((List.replicate len z.toList).flatten).toArray := by
  apply Array.toList_inj.1
  apply List.ext_getElem?
  intro i
  simp only [Array.toList_map, Array.toList_range, List.getElem?_map]
  by_cases hi : i < len * sz
  · rw [List.getElem?_range hi]
    simp only [Option.map_some]
    have hsz : 0 < sz := by
      rcases Nat.eq_zero_or_pos sz with h | h
      · subst h; omega
      · exact h
    have hm : i % sz < z.size := by rw [hz]; exact Nat.mod_lt _ hsz
    have key : ∀ len i, i < len * sz → (List.replicate len z.toList).flatten[i]? = z.toList[i % sz]? := by
      intro len
      induction len with
      | zero => intro i h; omega
      | succ len ih =>
        intro i h
        rw [List.replicate_succ, List.flatten_cons]
        by_cases h1 : i < sz
        · rw [List.getElem?_append_left (by simp [hz, h1]), Nat.mod_eq_of_lt h1]
        · rw [List.getElem?_append_right (by simp [hz]; omega), Array.length_toList, hz, ih (i - sz) (by rw [Nat.succ_mul] at h; omega)]
          congr 1
          rw [Nat.mod_eq_sub_mod (a := i) (by omega)]
    rw [key len i hi]
    simp [hm]
  · rw [List.getElem?_eq_none (by simpa using hi), List.getElem?_eq_none]
    · rfl
    · simp [hz]; simpa using hi

theorem RelL.flat {e : List Sc} {θ : Th} {cs : List AV} {vs : List Value} (h : RelL e θ cs vs) : ∀ n, RelL e θ (List.replicate n cs).flatten (List.replicate n vs).flatten
  | 0 => RelL.nil
  | n + 1 => by simp only [List.replicate_succ, List.flatten_cons]; exact h.append (RelL.flat h n)

theorem ok_buildSlice (t : TypeId) (len : Nat) (ps : Array (Nat × Operand)) (ho : o.op = .buildSlice t len ps) (h : (evBuildSlice P tm t len ps st kk).den G env = some rs) (hn : st.nn = env.length) : OpLands P G rs env tm st kk ro o := by
  unfold evBuildSlice at h
  obtain ⟨e1, a1, s1, h1, p1, n1, x1, w1, hh1, hx1, r1⟩ := opdParts_ok _ h hn
  cases hu : P.underlying t with
  | none => simp [hu, T.den] at h1
  | some d =>
    simp only [hu] at h1
    cases d <;> simp only [T.den] at h1 <;> try (cases h1; done)
    case slice el =>
      cases hi : P.info? el with
      | none => simp [hi, T.den] at h1
      | some i =>
        cases hz : i.zero with
        | none => simp [hi, hz, T.den] at h1
        | some z =>
          simp only [hi, hz] at h1
          split at h1
          · rename_i hc
            simp only [Bool.and_eq_true, Nat.blt_eq] at hc
            obtain ⟨⟨c1, c2⟩, c3⟩ := hc
            have c1' : len * i.size ≤ 1000 := Nat.le_of_ble_eq_true c1
            have c2' : z.cells.size = i.size := Nat.eq_of_beq_eq_true c2
            have c3' : 0 < len * i.size := c3
            obtain ⟨e2, a2, s2, h2, p2, n2, x2, w2, hh2, hx2, r2⟩ := ofValues_ok _ h1 n1
            dsimp only at h2
            split at h2
            · rename_i cs' hfa
              unfold newB at h2
              refine ⟨e2, .slice s2.next 0 len len, _, h2, p1.trans p2, n2, by show st.next ≤ s2.next + 1; omega, w2.trans w1, Runs.sound ?_⟩
              intro a w θ hp hf
              obtain ⟨cells', k1, k2⟩ := fill_ok (cells := ((List.replicate len z.cells.toList).flatten).toArray) ((r1 a θ hp.tm).mono p2 (ThLe.refl θ)) (by simpa using RelL.flat (r2 θ) len) hfa
              refine ⟨_, _, .inl ?_, post_new (cs := cs') (vs := cells'.toList) el hp (p1.trans p2) (hh2.trans hh1) (by omega) k2 rfl hf _ (.inr ⟨len, rfl⟩) _ rfl⟩
              simp only [execOp, ho]
              refine run_value ?_
              rw [run_buildSlice w t el len _ cells' i z hu hi hz (by omega) (by omega) ?_]
              · rfl
              · rw [c2', range_zero len i.size z.cells c2']
                rw [← k1]; congr 1; simp
            · simp [T.den] at h2
          · simp [T.den] at h1

theorem ok_extract (x : Operand) (i : Nat) (ho : o.op = .extract x i) (h : (opd tm x st (evExtract i kk)).den G env = some rs) (hn : st.nn = env.length) : OpLands P G rs env tm st kk ro o := by
  obtain ⟨e1, a1, s1, h1, p1, n1, x1, w1, hh1, hx1, r1⟩ := opd_ok h hn
  unfold evExtract at h1
  cases a1 <;> simp only [T.den] at h1 <;> try (cases h1; done)
  rename_i vs
  cases hv : vs[i]? with
  | none => simp [hv, T.den] at h1
  | some c =>
    simp only [hv] at h1
    refine ⟨e1, _, s1, h1, p1, n1, x1, w1, Runs.sound ?_⟩
    intro a w θ hp hf
    have hc := r1 a θ hp.tm
    simp only [Rel] at hc
    obtain ⟨us, hu, hr⟩ := hc
    obtain ⟨v, hv', hrel⟩ := hr.get hv
    refine ⟨v, w, .inl ?_, post_plain hp p1 hh1 x1 hrel (Drew.refl w)⟩
    have hv2 : (⟨us⟩ : Array Value)[i]? = some v := by simpa using hv'
    simp only [execOp, ho]
    refine run_value ?_
    simp only [Instr.extract, hu, hv2, Sem.run_pure]

theorem ok_makeFunc (fn : Fn) (first cs : Array Operand) (ho : o.op = .makeFunc fn first cs) (h : (evMakeFunc tm fn first cs st kk).den G env = some rs) (hn : st.nn = env.length) : OpLands P G rs env tm st kk ro o := by
  unfold evMakeFunc at h
  split at h
  · rename_i f
    split at h
    · rename_i hz
      obtain ⟨e1, a1, s1, h1, p1, n1, x1, w1, hh1, hx1, r1⟩ := opds_ok _ h hn
      refine ⟨e1, _, s1, h1, p1, n1, x1, w1, Runs.sound ?_⟩
      intro a w θ hp hf
      have hc := r1 a θ hp.tm
      have hfe : first = #[] := Array.eq_empty_of_size_eq_zero hz
      refine ⟨.func (.func f) #[] ⟨cs.toList.map a.eval⟩, w, .inl ?_, post_plain hp p1 hh1 x1 (by simp only [Rel]; exact ⟨_, rfl, hc⟩) (Drew.refl w)⟩
      simp only [execOp, ho]
      refine run_value ?_
      subst hfe
      simp only [Instr.makeFunc]
      have : Array.map a.eval cs = ⟨cs.toList.map a.eval⟩ := by apply Array.toList_inj.1; simp
      rw [this]; simp
    · simp [T.den] at h
  · simp [T.den] at h

/-! Arithmetic -/
theorem eqGuard_run {bo : BinOp} {t : TypeId} {x y : Operand} {u v : Value} (hu : (u matches .nilIface | .agg _) = false) (w : World) : (eqGuard bo t x y u v).run P w = .ok () w := by
  unfold eqGuard
  cases bo <;> first | rfl | (cases u <;> first | rfl | (simp at hu))

end
end Go.Proofs.YtejbahdihfnbcaaDoor.Sx

/- Operations, the third part: arithmetic, conversions, stores. -/
namespace Go.Proofs.YtejbahdihfnbcaaDoor.Sx
open Go
set_option linter.unusedSimpArgs false
set_option linter.unusedVariables false

theorem fkEq_eq {a b : FloatKind} (h : fkEq a b = true) : a = b := by cases a <;> cases b <;> simp [fkEq] at h <;> rfl
theorem ikEq_eq {a b : IntKind} (h : ikEq a b = true) : a = b := by simpa [ikEq] using h

theorem getF_of {env : List Sc} {k : FloatKind} {a : Nat} {d : Option Nat} (h : env[a]? = some (.f k d)) : getF env k a = some d := by
  simp [getF, h]

theorem binOp_arith {op : BinOp} {o : BO} (h : boOf op = some o) (t : TypeId) (k : FloatKind) (x y : Nat) : Go.binOp op t (.float k x) (.float k y) = Op.floatArith op k x y := by
  cases op <;> simp [boOf] at h <;> simp [Go.binOp]
theorem binOp_cmp {op : BinOp} {c : Nat} {sw ng : Bool} (h : cmpN op = some (c, sw, ng)) (t : TypeId) (k : FloatKind) (x y : Nat) : Go.binOp op t (.float k x) (.float k y) = Op.floatCmp op k x y := by
  cases op <;> simp [cmpN] at h <;> simp [Go.binOp]

section
variable {P : Program} {G : Gs} {rs env : List Sc} {tm : Tr AV} {st : St} {kk : K} {ro : Nat} {o : Oper}

theorem Rel.flt {e : List Sc} {θ : Th} {k : FloatKind} {r : Nat} {v : Value} (h : Rel e θ (.flt k r) v) : ∃ d b, e[r]? = some (.f k d) ∧ v = .float k b ∧ FRel k b d := by simpa [Rel] using h
theorem Rel.bits {e : List Sc} {θ : Th} {k : FloatKind} {r : Nat} {v : Value} (h : Rel e θ (.bits k r) v) : ∃ d b, e[r]? = some (.f k d) ∧ v = .int (ik k) (b : Nat) ∧ FRel k b d := by simpa [Rel] using h

/-- what a run gives -/
def RunLands (P : Program) (G : Gs) (rs : List Sc) (e : List Sc) (s : St) (kk : K) (f : (Th → World → Sem Value → Prop)) : Prop := True

/-- from two operands on: the value of a pure operation of them -/
def VLands (P : Program) (G : Gs) (rs : List Sc) (e : List Sc) (s : St) (kk : K) (run : Value → Value → Sem Value) (x y : AV) : Prop :=
  ∃ e' av, (kk av { s with nn := e'.length }).den G e' = some rs ∧ Pfx e e' ∧ ∀ θ u v w, Rel e θ x u → Rel e θ y v → ∃ r w', (run u v).run P w = .ok r w' ∧ Rel e' θ av r ∧ Drew w w'

theorem VLands.same {e : List Sc} {s : St} {run : Value → Value → Sem Value} {x y av : AV} (hn : s.nn = e.length) (h : (kk av s).den G e = some rs)
    (hr : ∀ θ u v w, Rel e θ x u → Rel e θ y v → ∃ r w', (run u v).run P w = .ok r w' ∧ Rel e θ av r ∧ Drew w w') : VLands P G rs e s kk run x y := by
  refine ⟨e, av, ?_, Pfx.refl _, hr⟩
  have : { s with nn := e.length } = s := by cases s; simp at hn ⊢; exact hn.symm
  rw [this]; exact h

theorem VLands.int {e : List Sc} {s : St} {run : Value → Value → Sem Value} {x y : AV} {k : IntKind} {n : Int} (hn : s.nn = e.length) (h : (kk (.int k n) s).den G e = some rs)
    (hr : ∀ θ u v w, Rel e θ x u → Rel e θ y v → (run u v).run P w = .ok (.int k n) w) : VLands P G rs e s kk run x y :=
  VLands.same hn h fun θ u v w hu hv => ⟨_, w, hr θ u v w hu hv, by simp [Rel], Drew.refl w⟩
theorem VLands.bool {e : List Sc} {s : St} {run : Value → Value → Sem Value} {x y : AV} {b : Bool} (hn : s.nn = e.length) (h : (kk (.bool b) s).den G e = some rs)
    (hr : ∀ θ u v w, Rel e θ x u → Rel e θ y v → (run u v).run P w = .ok (.bool b) w) : VLands P G rs e s kk run x y :=
  VLands.same hn h fun θ u v w hu hv => ⟨_, w, hr θ u v w hu hv, by simp [Rel], Drew.refl w⟩

theorem up_eq {s : St} {e : List Sc} {x : Sc} (hn : s.nn = e.length) : s.up = { s with nn := (e ++ [x]).length } := by
  simp [St.up, hn]

theorem binFlt_ok {op : BinOp} {t : TypeId} {k : FloatKind} {a b : Nat} {s : St} {e : List Sc} (h : (binFlt op k a b s kk).den G e = some rs) (hn : s.nn = e.length) :
    VLands P G rs e s kk (Go.binOp op t) (.flt k a) (.flt k b) := by
  unfold binFlt at h
  cases hb : boOf op with
  | some bo =>
    simp only [hb, T.den] at h
    cases ha : getF e k a with
    | none => simp [ha] at h
    | some dx =>
      cases hbb : getF e k b with
      | none => simp [ha, hbb] at h
      | some dy =>
        simp only [ha, hbb] at h
        refine ⟨_, .flt k s.nn, by rw [← up_eq hn]; exact h, ⟨_, rfl⟩, fun θ u v w hu hv => ?_⟩
        obtain ⟨d1, b1, g1, rfl, f1⟩ := hu.flt
        obtain ⟨d2, b2, g2, rfl, f2⟩ := hv.flt
        rw [getF_of g1] at ha; cases ha
        rw [getF_of g2] at hbb; cases hbb
        obtain ⟨r, w', hrun, hf, hd⟩ := run_bin P op bo hb k b1 b2 _ _ f1 f2 w
        exact ⟨_, w', by rw [binOp_arith hb]; exact hrun, by simp only [Rel]; exact ⟨_, _, by simp [hn], rfl, hf⟩, hd⟩
  | none =>
    simp only [hb] at h
    cases hc : cmpN op with
    | none => simp [hc, T.den] at h
    | some q =>
      obtain ⟨c, sw, ng⟩ := q
      simp only [hc] at h
      unfold mkTst at h
      have key : ∀ (p q : Nat) (v : Bool), (match sw with | true => (p = b ∧ q = a) | false => (p = a ∧ q = b)) → ∀ dp dq, getF e k p = some dp → getF e k q = some dq → cmpD c k dp dq = v →
          ∀ θ u v' w, Rel e θ (.flt k a) u → Rel e θ (.flt k b) v' → ∃ r w', (Go.binOp op t u v').run P w = .ok r w' ∧ Rel e θ (.bool (v != ng)) r ∧ Drew w w' := by
        intro p q v hpq dp dq hp hq hcmp θ u v' w hu hv
        obtain ⟨d1, b1, g1, rfl, f1⟩ := hu.flt
        obtain ⟨d2, b2, g2, rfl, f2⟩ := hv.flt
        refine ⟨_, w, by rw [binOp_cmp hc]; exact run_cmp P op c sw ng hc k b1 b2 w, ?_, Drew.refl w⟩
        simp only [Rel]
        cases sw with
        | true =>
          obtain ⟨rfl, rfl⟩ := hpq
          rw [getF_of g2] at hp; cases hp
          rw [getF_of g1] at hq; cases hq
          rw [← hcmp, cmpD_eq c k b2 b1 _ _ f2 f1]
        | false =>
          obtain ⟨rfl, rfl⟩ := hpq
          rw [getF_of g1] at hp; cases hp
          rw [getF_of g2] at hq; cases hq
          rw [← hcmp, cmpD_eq c k b1 b2 _ _ f1 f2]
      cases sw with
      | true =>
        simp only [T.den] at h
        cases ha : getF e k b with
        | none => simp [ha] at h
        | some dp =>
          cases hbb : getF e k a with
          | none => simp [ha, hbb] at h
          | some dq =>
            simp only [ha, hbb] at h
            cases hv : cmpD c k dp dq with
            | true => rw [hv] at h; exact VLands.same hn h (by simpa using key b a true ⟨rfl, rfl⟩ dp dq ha hbb hv)
            | false => rw [hv] at h; exact VLands.same hn h (by simpa using key b a false ⟨rfl, rfl⟩ dp dq ha hbb hv)
      | false =>
        simp only [T.den] at h
        cases ha : getF e k a with
        | none => simp [ha] at h
        | some dp =>
          cases hbb : getF e k b with
          | none => simp [ha, hbb] at h
          | some dq =>
            simp only [ha, hbb] at h
            cases hv : cmpD c k dp dq with
            | true => rw [hv] at h; exact VLands.same hn h (by simpa using key a b true ⟨rfl, rfl⟩ dp dq ha hbb hv)
            | false => rw [hv] at h; exact VLands.same hn h (by simpa using key a b false ⟨rfl, rfl⟩ dp dq ha hbb hv)

theorem binInt_ok {op : BinOp} {t : TypeId} {k : IntKind} {a b : Int} {s : St} {e : List Sc} (h : (binInt op k a b s kk).den G e = some rs) (hn : s.nn = e.length) :
    VLands P G rs e s kk (Go.binOp op t) (.int k a) (.int k b) := by
  cases op <;> simp only [binInt, T.den] at h <;> (try (cases h; done)) <;>
    first
    | exact VLands.int hn h fun θ u v w hu hv => (by simp only [Rel] at hu hv; subst hu hv; simp [Go.binOp, Op.intArith, Op.intCmp])
    | exact VLands.bool hn h fun θ u v w hu hv => (by simp only [Rel] at hu hv; subst hu hv; simp [Go.binOp, Op.intArith, Op.intCmp])

theorem isBoolT_ok {t : TypeId} (h : isBoolT P t = true) : P.underlying t = some .bool := by
  unfold isBoolT at h
  split at h
  · assumption
  · cases h

theorem equal_bool {t : TypeId} (h : P.underlying t = some .bool) (a b : Bool) (w : World) : (Op.equal t (.bool a) (.bool b)).run P w = .ok (a == b) w := by
  show (Op.equalIn (9999 + 1) t (.bool a) (.bool b)).run P w = _
  unfold Op.equalIn
  rw [Sem.run_bind, underlying_run h]
  rfl

theorem binBool_ok {op : BinOp} {t : TypeId} {a b : Bool} {s : St} {e : List Sc} (h : (binBool P t op a b s kk).den G e = some rs) (hn : s.nn = e.length) :
    VLands P G rs e s kk (Go.binOp op t) (.bool a) (.bool b) := by
  unfold binBool at h
  cases hb : isBoolT P t with
  | false => simp [hb, T.den] at h
  | true =>
    have hu := isBoolT_ok hb
    simp only [hb] at h
    cases op <;> simp only [T.den] at h <;> (try (cases h; done)) <;>
      (refine VLands.same hn h fun θ u v w hu' hv => ?_; simp only [Rel] at hu' hv; subst hu' hv)
    · refine ⟨.bool (a == b), w, ?_, by simp [Rel], Drew.refl w⟩
      simp only [Go.binOp]
      rw [Sem.run_bind, equal_bool hu]; rfl
    · refine ⟨.bool (a != b), w, ?_, by simp [Rel], Drew.refl w⟩
      simp only [Go.binOp]
      rw [Sem.run_bind, equal_bool hu]; rfl

theorem binBits_ok {op : BinOp} {t : TypeId} {k : FloatKind} {a b : Nat} {s : St} {e : List Sc} (h : (binBits op k a b s kk).den G e = some rs) (hn : s.nn = e.length) :
    VLands P G rs e s kk (Go.binOp op t) (.bits k a) (.bits k b) := by
  have key : ∀ (p q : Nat) (v : Bool), getF e k a = some (some p) → getF e k b = some (some q) → Nat.beq p q = v → ∀ θ u v' , Rel e θ (.bits k a) u → Rel e θ (.bits k b) v' → ∃ x y : Nat, u = .int (ik k) x ∧ v' = .int (ik k) y ∧ ((x : Int) == (y : Int)) = v := by
    intro p q v hp hq hv θ u v' hu hv'
    obtain ⟨d1, b1, g1, rfl, f1⟩ := hu.bits
    obtain ⟨d2, b2, g2, rfl, f2⟩ := hv'.bits
    rw [getF_of g1] at hp; cases hp
    rw [getF_of g2] at hq; cases hq
    obtain ⟨rfl, _⟩ := f1.some
    obtain ⟨rfl, _⟩ := f2.some
    refine ⟨_, _, rfl, rfl, ?_⟩
    rw [← hv, Bool.eq_iff_iff]
    simp
    omega
  unfold binBits at h
  cases op <;> simp only [T.den] at h <;> (try (cases h; done))
  · split at h
    · rename_i p q hp hq
      split at h
      · rename_i hv
        refine VLands.same hn h fun θ u v w hu hv' => ?_
        obtain ⟨x, y, rfl, rfl, he⟩ := key p q true hp hq hv θ u v hu hv'
        refine ⟨.bool (((x : Int) == (y : Int))), w, ?_, by simp only [Rel]; rw [he], Drew.refl w⟩
        cases k <;> simp [Go.binOp, ik, Op.intCmp]
      · rename_i hv
        refine VLands.same hn h fun θ u v w hu hv' => ?_
        obtain ⟨x, y, rfl, rfl, he⟩ := key p q false hp hq hv θ u v hu hv'
        refine ⟨.bool (((x : Int) == (y : Int))), w, ?_, by simp only [Rel]; rw [he], Drew.refl w⟩
        cases k <;> simp [Go.binOp, ik, Op.intCmp]
    · cases h
  · split at h
    · rename_i p q hp hq
      split at h
      · rename_i hv
        refine VLands.same hn h fun θ u v w hu hv' => ?_
        obtain ⟨x, y, rfl, rfl, he⟩ := key p q true hp hq hv θ u v hu hv'
        refine ⟨.bool (((x : Int) != (y : Int))), w, ?_, by simp only [Rel, bne]; rw [he]; rfl, Drew.refl w⟩
        cases k <;> simp [Go.binOp, ik, Op.intCmp]
      · rename_i hv
        refine VLands.same hn h fun θ u v w hu hv' => ?_
        obtain ⟨x, y, rfl, rfl, he⟩ := key p q false hp hq hv θ u v hu hv'
        refine ⟨.bool (((x : Int) != (y : Int))), w, ?_, by simp only [Rel, bne]; rw [he]; rfl, Drew.refl w⟩
        cases k <;> simp [Go.binOp, ik, Op.intCmp]
    · cases h

theorem binAV_ok {op : BinOp} {t : TypeId} {x y : AV} {s : St} {e : List Sc} (h : (binAV P t op x y s kk).den G e = some rs) (hn : s.nn = e.length) :
    VLands P G rs e s kk (Go.binOp op t) x y ∧ (∀ θ u, Rel e θ x u → (u matches .nilIface | .agg _) = false) := by
  unfold binAV at h
  cases x <;> simp only [T.den] at h <;> (try (cases h; done))
  · rename_i a
    cases y <;> (try simp only [T.den] at h) <;> (try (cases h; done))
    exact ⟨binBool_ok h hn, fun θ u hu => by simp only [Rel] at hu; subst hu; rfl⟩
  · rename_i k a
    cases y <;> (try simp only [T.den] at h) <;> (try (cases h; done))
    rename_i l b
    split at h
    · rename_i hk
      obtain rfl := ikEq_eq hk
      exact ⟨binInt_ok h hn, fun θ u hu => by simp only [Rel] at hu; subst hu; rfl⟩
    · simp [T.den] at h
  · rename_i k a
    cases y <;> (try simp only [T.den] at h) <;> (try (cases h; done))
    rename_i l b
    split at h
    · rename_i hk
      obtain rfl := fkEq_eq hk
      exact ⟨binFlt_ok h hn, fun θ u hu => by obtain ⟨_, _, _, rfl, _⟩ := hu.flt; rfl⟩
    · simp [T.den] at h
  · rename_i k a
    refine ⟨?_, fun θ u hu => by obtain ⟨_, _, _, rfl, _⟩ := hu.bits; rfl⟩
    cases y <;> (try simp only [T.den] at h) <;> (try (cases h; done))
    · rename_i l n
      cases op <;> (try simp only [T.den] at h) <;> (try (cases h; done))
      split at h
      · rename_i hc
        simp only [Bool.and_eq_true, beq_iff_eq] at hc
        obtain ⟨⟨h1, h2⟩, rfl⟩ := hc
        obtain rfl := fkEq_eq h1
        obtain rfl := ikEq_eq h2
        refine VLands.same hn h fun θ u v w hu hv => ?_
        obtain ⟨d, b, g, rfl, f⟩ := hu.bits
        simp only [Rel] at hv; subst hv
        refine ⟨.int .u64 ((b % 2 ^ 63 : Nat) : Int), w, ?_, ?_, Drew.refl w⟩
        · have := run_andNot P b w
          simpa [Go.binOp, ik] using this
        · simp only [Rel]; exact ⟨d, b, g, rfl, f⟩
      · simp [T.den] at h
    · rename_i l b
      split at h
      · rename_i hk
        obtain rfl := fkEq_eq hk
        exact binBits_ok h hn
      · simp [T.den] at h

theorem ok_bin (op : BinOp) (t : TypeId) (x y : Operand) (ty : TypeId) (ho : o.op = .binOp op t x y ty) (h : (evBin P tm op t x y st kk).den G env = some rs) (hn : st.nn = env.length) : OpLands P G rs env tm st kk ro o := by
  unfold evBin at h
  obtain ⟨e1, a1, s1, h1, p1, n1, x1, w1, hh1, hx1, r1⟩ := opd_ok h hn
  obtain ⟨e2, a2, s2, h2, p2, n2, x2, w2, hh2, hx2, r2⟩ := opd_ok h1 n1
  obtain ⟨⟨e3, av, h3, p3, hv⟩, hg⟩ := binAV_ok h2 n2
  refine ⟨e3, av, _, h3, (p1.trans p2).trans p3, rfl, by show st.next ≤ s2.next; omega, w2.trans w1, Runs.sound ?_⟩
  intro a w θ hp hf
  have hu := Rel.mono p2 (ThLe.refl θ) _ _ (r1 a θ hp.tm)
  have hw := r2 a θ (hp.tm.mono p1 (ThLe.refl θ))
  obtain ⟨r, w', hrun, hrel, hd⟩ := hv θ _ _ w hu hw
  refine ⟨r, w', .inl ?_, post_plain hp ((p1.trans p2).trans p3) (by show s2.heap = st.heap; rw [hh2, hh1]) (by show st.next ≤ s2.next; omega) hrel hd⟩
  simp only [execOp, ho]
  refine run_value ?_
  rw [Sem.run_bind, eqGuard_run (hg θ _ hu)]
  exact hrun

theorem ok_un (op : UnOp) (t : TypeId) (x : Operand) (ho : o.op = .unOp op t x) (h : (opd tm x st fun v st => unAV op v st kk).den G env = some rs) (hn : st.nn = env.length) : OpLands P G rs env tm st kk ro o := by
  obtain ⟨e1, a1, s1, h1, p1, n1, x1, w1, hh1, hx1, r1⟩ := opd_ok h hn
  have fin : ∀ (e3 : List Sc) (av : AV), (kk av { s1 with nn := e3.length }).den G e3 = some rs → Pfx e1 e3 → (∀ θ u w, Rel e1 θ a1 u → ∃ r, (Op.unary op u).run P w = .ok r w ∧ Rel e3 θ av r) → OpLands P G rs env tm st kk ro o := by
    intro e3 av h3 p3 hv
    refine ⟨e3, av, _, h3, p1.trans p3, rfl, by show st.next ≤ s1.next; omega, w1, Runs.sound ?_⟩
    intro a w θ hp hf
    obtain ⟨r, hrun, hrel⟩ := hv θ _ w (r1 a θ hp.tm)
    refine ⟨r, w, .inl ?_, post_plain hp (p1.trans p3) hh1 (by show st.next ≤ s1.next; omega) hrel (Drew.refl w)⟩
    simp only [execOp, ho]
    exact run_value hrun
  have same : ({ s1 with nn := e1.length } : St) = s1 := by cases s1; simp at n1 ⊢; exact n1.symm
  unfold unAV at h1
  cases op <;> (try simp only [T.den] at h1) <;> (try (cases h1; done))
  · cases a1 <;> (try simp only [T.den] at h1) <;> (try (cases h1; done))
    · rename_i k n
      refine fin e1 _ (by rw [same]; exact h1) (Pfx.refl _) fun θ u w hu => ?_
      simp only [Rel] at hu; subst hu
      exact ⟨_, rfl, by simp [Rel]⟩
    · rename_i k r
      cases hg : getF e1 k r with
      | none => simp [hg] at h1
      | some d =>
        simp only [hg] at h1
        cases hd : UO.neg.den k d with
        | none => simp [hd] at h1
        | some q =>
          simp only [hd] at h1
          refine fin _ (.flt k s1.nn) (by rw [← up_eq n1]; exact h1) ⟨_, rfl⟩ fun θ u w hu => ?_
          obtain ⟨d', b, g, rfl, f⟩ := hu.flt
          rw [getF_of g] at hg; cases hg
          obtain ⟨q', hq', hf'⟩ := den_neg f
          rw [hq'] at hd; cases hd
          exact ⟨_, rfl, by simp only [Rel]; exact ⟨_, _, by simp [n1, UO.kind], rfl, hf'⟩⟩
  · cases a1 <;> (try simp only [T.den] at h1) <;> (try (cases h1; done))
    rename_i b
    refine fin e1 _ (by rw [same]; exact h1) (Pfx.refl _) fun θ u w hu => ?_
    simp only [Rel] at hu; subst hu
    exact ⟨_, rfl, by simp [Rel]⟩

theorem cstF_at {k : FloatKind} {b : Nat} {s : St} {e : List Sc} (h : (cstF k b s kk).den G e = some rs) (hn : s.nn = e.length) :
    ∃ e' av, (kk av { s with nn := e'.length }).den G e' = some rs ∧ Pfx e e' ∧ ∀ θ, Rel e' θ av (.float k b) := by
  unfold cstF at h
  cases hb : fltOk k b with
  | false => rw [hb] at h; simp [T.den] at h
  | true =>
    rw [hb] at h
    simp only [T.den] at h
    refine ⟨e ++ [.f k (canon k b)], .flt k s.nn, by rw [← up_eq hn]; exact h, ⟨_, rfl⟩, fun θ => ?_⟩
    simp only [Rel]
    exact ⟨canon k b, b, by simp [hn], rfl, hb, rfl⟩

theorem un_at {uo : UO} {k : FloatKind} {r : Nat} {s : St} {e : List Sc} (h : (T.un uo k r (kk (.flt (uo.kind k) s.nn) s.up)).den G e = some rs) (hn : s.nn = e.length) :
    ∃ d q, getF e k r = some d ∧ uo.den k d = some q ∧ (kk (.flt (uo.kind k) s.nn) { s with nn := (e ++ [Sc.f (uo.kind k) q]).length }).den G (e ++ [.f (uo.kind k) q]) = some rs ∧ (e ++ [Sc.f (uo.kind k) q])[s.nn]? = some (.f (uo.kind k) q) := by
  simp only [T.den] at h
  cases hg : getF e k r with
  | none => simp [hg] at h
  | some d =>
    simp only [hg] at h
    cases hd : uo.den k d with
    | none => simp [hd] at h
    | some q =>
      simp only [hd] at h
      exact ⟨d, q, rfl, hd, by rw [← up_eq hn]; exact h, by simp [hn]⟩

theorem convert_eq {src dst : TypeId} {d0 : TypeDesc} {k : FloatKind} (h0 : P.underlying src = some d0) (h1 : P.underlying dst = some (.float k)) (w : World) :
    (∀ l n, (convert src dst (.int l n)).run P w = (Conv.intToFloat k n).run P w) ∧ (∀ l b, (convert src dst (.float l b)).run P w = (Conv.floatToFloat l b k).run P w) := by
  refine ⟨fun l n => ?_, fun l b => ?_⟩
  · unfold convert
    rw [Sem.run_bind, underlying_run h0]
    simp only [Result.andThen_ok]
    rw [Sem.run_bind, underlying_run h1]
    all_goals (try simp only [Result.andThen_ok])
    all_goals (cases d0 <;> rfl)
  · unfold convert
    rw [Sem.run_bind, underlying_run h0]
    simp only [Result.andThen_ok]
    rw [Sem.run_bind, underlying_run h1]
    all_goals (try simp only [Result.andThen_ok])
    all_goals (cases d0 <;> rfl)
theorem convert_int {src dst : TypeId} {d0 : TypeDesc} {k : IntKind} (h0 : P.underlying src = some d0) (h1 : P.underlying dst = some (.int k)) (w : World) (l : IntKind) (n : Int) :
    (convert src dst (.int l n)).run P w = .ok (.int k (k.wrap n)) w := by
  unfold convert
  rw [Sem.run_bind, underlying_run h0]
  simp only [Result.andThen_ok]
  rw [Sem.run_bind, underlying_run h1]
  simp only [Result.andThen_ok]
  cases d0 <;> rfl

theorem ok_convert (src dst : TypeId) (x : Operand) (ho : o.op = .convert src dst x) (h : (opd tm x st fun v st => convAV P src dst v st kk).den G env = some rs) (hn : st.nn = env.length) : OpLands P G rs env tm st kk ro o := by
  obtain ⟨e1, a1, s1, h1, p1, n1, x1, w1, hh1, hx1, r1⟩ := opd_ok h hn
  have fin : ∀ (e3 : List Sc) (av : AV), (kk av { s1 with nn := e3.length }).den G e3 = some rs → Pfx e1 e3 → (∀ θ u w, Rel e1 θ a1 u → ∃ r w', (convert src dst u).run P w = .ok r w' ∧ Rel e3 θ av r ∧ Drew w w') → OpLands P G rs env tm st kk ro o := by
    intro e3 av h3 p3 hv
    refine ⟨e3, av, _, h3, p1.trans p3, rfl, by show st.next ≤ s1.next; omega, w1, Runs.sound ?_⟩
    intro a w θ hp hf
    obtain ⟨r, w', hrun, hrel, hd⟩ := hv θ _ w (r1 a θ hp.tm)
    refine ⟨r, w', .inl ?_, post_plain hp (p1.trans p3) hh1 (by show st.next ≤ s1.next; omega) hrel hd⟩
    simp only [execOp, ho]
    exact run_value hrun
  have same : ({ s1 with nn := e1.length } : St) = s1 := by cases s1; simp at n1 ⊢; exact n1.symm
  unfold convAV at h1
  cases h0 : P.underlying src with
  | none => simp [h0, T.den] at h1
  | some d0 =>
    cases hd : P.underlying dst with
    | none => simp [h0, hd, T.den] at h1
    | some d1 =>
      simp only [h0, hd] at h1
      cases d1 <;> (try simp only [T.den] at h1) <;> (try (cases h1; done))
      · rename_i k
        cases a1 <;> (try simp only [T.den] at h1) <;> (try (cases h1; done))
        rename_i l n
        refine fin e1 _ (by rw [same]; exact h1) (Pfx.refl _) fun θ u w hu => ?_
        simp only [Rel] at hu; subst hu
        exact ⟨_, w, convert_int h0 hd w l n, by simp [Rel], Drew.refl w⟩
      · rename_i k
        unfold convF at h1
        cases a1 <;> (try simp only [T.den] at h1) <;> (try (cases h1; done))
        · rename_i l n
          obtain ⟨e3, av, h3, p3, hr⟩ := cstF_at h1 n1
          refine fin e3 av h3 p3 fun θ u w hu => ?_
          simp only [Rel] at hu; subst hu
          exact ⟨_, w, by rw [(convert_eq h0 hd w).1]; rfl, hr θ, Drew.refl w⟩
        · rename_i l r
          cases hk : fkEq k l with
          | true =>
            simp only [hk] at h1
            obtain rfl := fkEq_eq hk
            refine fin e1 _ (by rw [same]; exact h1) (Pfx.refl _) fun θ u w hu => ?_
            obtain ⟨d, b, g, rfl, f⟩ := hu.flt
            refine ⟨.float k b, w, ?_, by simp only [Rel]; exact ⟨d, b, g, rfl, f⟩, Drew.refl w⟩
            rw [(convert_eq h0 hd w).2]
            simp [Conv.floatToFloat]
          | false =>
            simp only [hk] at h1
            have go : ∀ (uo : UO) (l' k' : FloatKind), l' ≠ k' → uo.kind l' = k' → (∀ x, uo.fn l' x = convD l' k' x) → l = l' → k = k' → (T.un uo l' r (kk (.flt k' s1.nn) s1.up)).den G e1 = some rs → OpLands P G rs env tm st kk ro o := by
              intro uo l' k' hne hkind hfn hl hk' h1
              subst hl hk' hkind
              obtain ⟨d, q, hg, hq, h3, hget⟩ := un_at h1 n1
              refine fin _ _ h3 ⟨_, rfl⟩ fun θ u w hu => ?_
              obtain ⟨d', b, g, rfl, f⟩ := hu.flt
              rw [getF_of g] at hg; cases hg
              obtain ⟨b', w', hrun, hf', hd'⟩ := run_conv P l _ hne b d f uo hfn q hq w
              exact ⟨_, w', by rw [(convert_eq h0 hd w).2]; exact hrun, by simp only [Rel]; exact ⟨_, _, hget, rfl, hf'⟩, hd'⟩
            cases k with
            | f64 =>
              cases l with
              | f64 => simp [fkEq] at hk
              | f32 => exact go .widen .f32 .f64 (by decide) rfl (fun _ => rfl) rfl rfl h1
            | f32 =>
              cases l with
              | f32 => simp [fkEq] at hk
              | f64 => exact go .narrow .f64 .f32 (by decide) rfl (fun _ => rfl) rfl rfl h1

end
end Go.Proofs.YtejbahdihfnbcaaDoor.Sx

/- Stores and calls; any operation. -/
namespace Go.Proofs.YtejbahdihfnbcaaDoor.Sx
open Go
set_option linter.unusedSimpArgs false
set_option linter.unusedVariables false

/-! What a summary says -/
def ScRel : SK → Sc → Value → Prop
  | .f k, x, v => ∃ d b, x = .f k d ∧ v = .float k b ∧ FRel k b d
  | .b, x, v => ∃ y, x = .b y ∧ v = .bool y
  | .i k, x, v => ∃ n, x = .i k n ∧ v = .int k n
def ScRels : List SK → List Sc → List Value → Prop
  | [], xs, vs => xs = [] ∧ vs = []
  | s :: ss, xs, vs => ∃ x xs' v vs', xs = x :: xs' ∧ vs = v :: vs' ∧ ScRel s x v ∧ ScRels ss xs' vs'
/-- the cells from an address on are these -/
def CellsAt (w : World) (r o : Nat) (us : List Value) : Prop := ∃ vs e fz, w.heap[r]? = some (.cells vs e fz) ∧ ∀ j u, us[j]? = some u → vs[o + j]? = some u
def ArgRel (w : World) : Sh → List Sc → Value → Prop
  | .val s, xs, v => ∃ x, xs = [x] ∧ ScRel s x v
  | .agg ss, xs, v => ∃ vs, v = .agg ⟨vs⟩ ∧ ScRels ss xs vs
  | .ptr ss, xs, v => ∃ r o us, v = .pointer (some ⟨r, o, none⟩) ∧ ScRels ss xs us ∧ CellsAt w r o us
  | .slice n ss, xs, v => ∃ r o us, v = .slice (some ⟨r, o, none⟩) n n ∧ ScRels ss xs us ∧ CellsAt w r o us
def ArgRels (w : World) : List Sh → List Sc → List Value → Prop
  | [], xs, vs => xs = [] ∧ vs = []
  | s :: ss, xs, vs => ∃ x xs' v vs', xs = x ++ xs' ∧ vs = v :: vs' ∧ ArgRel w s x v ∧ ArgRels w ss xs' vs'
def RK.sk : RK → SK | .f k => .f k | .b => .b | .i k _ => .i k
def RsRel : Rs → List Sc → Value → Prop
  | .val q, xs, v => ∃ x, xs = [x] ∧ ScRel q.sk x v
  | .agg qs, xs, v => ∃ vs, v = .agg ⟨vs⟩ ∧ ScRels (qs.map RK.sk) xs vs
def RsRels : List Rs → List Sc → List Value → Prop
  | [], xs, vs => xs = [] ∧ vs = []
  | s :: ss, xs, vs => ∃ x xs' v vs', xs = x ++ xs' ∧ vs = v :: vs' ∧ RsRel s x v ∧ RsRels ss xs' vs'
def tupV (vs : List Value) : Value := match vs with | [v] => v | vs => .tuple ⟨vs⟩
def ResRel (s : List Rs) (xs : List Sc) (v : Value) : Prop := ∃ vs, RsRels s xs vs ∧ v = tupV vs

def Enters (P : Program) (f : FuncId) : Prop := ∀ (args : Array Value) (w : World), (callFunc f args).run P w = .ok (.enter f args) w
def CallOk (P : Program) (f : FuncId) (s : Sum) (F : List Sc → Option (List Sc)) : Prop :=
  ∀ scs rs (args : List Value) w, ArgRels w s.args scs args → F scs = some rs → Calls P f ⟨args⟩ w fun e w' => ∃ v, e = .returned v ∧ ResRel s.res rs v ∧ RowKit.Below w.heap.size w w'
structure SumOk (P : Program) (f : FuncId) (s : Sum) (G : Gs) : Prop where
  enters : Enters P f
  call : CallOk P f s (G s.idx)

def Ext.sem : Ext → Array Value → Sem Value
  | .bits32 => Extern.MathFloatBits.float32bits
  | .frombits64 => Extern.MathFloatBits.float64frombits
  | .bits64 => Extern.MathFloatBits.float64bits
  | .sqrt => Extern.MathSqrt.sqrt
  | .rte => Extern.MathFloor.toIntegral "math.RoundToEven" .even
def ExtOk (P : Program) (f : FuncId) (e : Ext) : Prop :=
  ∀ (args : Array Value) (w : World), (callFunc f args).run P w = ((e.sem args).run P w).andThen fun v w' => .ok (.value v) w'

/-- what is asked of the function that runs a callee in place -/
def CallKOk (P : Program) (G : Gs) (call : CallK) : Prop :=
  ∀ ro f args st kk env rs, ro ≤ St.wlo st → ro ≤ st.next → (call f args st kk).den G env = some rs → st.nn = env.length →
    Lands G rs env st kk fun e av s => Enters P f ∧ ∀ (vals : List Value) w θ, RelL env θ args vals → WRel env θ ro st.heap w → Inj θ ro w → Fresh θ st.next s.next →
      Calls P f ⟨vals⟩ w fun en w' => ∃ v, en = .returned v ∧ OpPost ro e θ st s av w v w'

structure Ctx (P : Program) (sm : List (FuncId × Sum)) (ex : List (FuncId × Ext)) (call : CallK) (G : Gs) : Prop where
  sums : ∀ f s, findS f sm = some s → SumOk P f s G
  exts : ∀ f e, findE f ex = some e → ExtOk P f e
  call : CallKOk P G call

section
variable {P : Program} {G : Gs} {rs env : List Sc} {tm : Tr AV} {st : St} {kk : K} {ro : Nat} {o : Oper}

theorem ok_store2 (t : TypeId) (x y : Operand) (hro : ro ≤ st.wlo) (ho : o.op = .store t x y) (h : (evStore P tm t x y st kk).den G env = some rs) (hn : st.nn = env.length) : Lands G rs env st kk fun e av s => StoreOk P ro env e st s tm o av := by
  unfold evStore at h
  obtain ⟨e1, a1, s1, h1, p1, n1, x1, w1, ⟨hh1, hx1, r1⟩, hB⟩ := opd_ok2 h hn
  obtain ⟨e2, a2, s2, h2, p2, n2, x2, w2, hh2, hx2, r2⟩ := opd_ok h1 n1
  unfold evStore2 at h2
  cases a1 <;> (try simp only [T.den] at h2) <;> (try (cases h2; done))
  rename_i b off
  unfold storeT at h2
  split at h2
  case h_2 => simp [T.den] at h2
  case h_1 cs n hble hfind hsize =>
  split at h2
  case h_2 => simp [T.den] at h2
  case h_1 hc =>
  split at h2
  case h_2 => simp [T.den] at h2
  case h_1 cs' hput =>
  simp only [Bool.and_eq_true, Nat.blt_eq] at hc
  obtain ⟨⟨hlen, hone⟩, hpos⟩ := hc
  have hlen' : n = a2.cells.length := Nat.eq_of_beq_eq_true hlen
  simp only [Bool.and_eq_true, Nat.blt_eq] at hble
  obtain ⟨hble, hlt⟩ := hble
  have hble' : st.wlo ≤ b := by have := Nat.le_of_ble_eq_true hble; omega
  have hheap : s2.heap = st.heap := hh2.trans hh1
  have hnext : s2.next = st.next := hx2.trans hx1
  rw [hheap] at hfind
  refine ⟨e2, .undef, _, h2, p1.trans p2, n2, by show st.next ≤ s2.next; omega, w2.trans w1, b, by omega, by rw [hfind]; rfl, hnext, ?_, ?_, ?_⟩
  · intro id hne
    show findB id (setB b cs' s2.heap) = _
    rw [hheap]
    exact findB_setB_ne hne
  · intro z hz
    rw [ho] at hz
    obtain ⟨off', e⟩ := hB z hz
    cases e; rfl
  intro a w θ hp
  obtain ⟨r, base, hθ, hptr⟩ := (r1 a θ hp.tm).ptr
  have hval := r2 a θ (hp.tm.mono p1 (ThLe.refl θ))
  have hcells := hval.cells
  have hwr : WRel e2 θ ro st.heap w := hp.wr.mono (p1.trans p2) (ThLe.refl θ)
  obtain ⟨r', base', vs, el, fz, hθ', hblk, hfz, hrel⟩ := hwr b cs hfind
  rw [hθ] at hθ'; cases hθ'
  have hfz' := hfz (by omega)
  subst hfz'
  obtain ⟨q1, q2, q3⟩ := put_get hput
  have hvl := hcells.length
  have hfit : base + off + (a.eval y).cells.toList.length ≤ vs.size := by
    rw [hvl]
    obtain ⟨v, hv, _⟩ := hrel (off + a2.cells.length - 1) _ (List.getElem?_eq_getElem (by omega))
    have := (Array.getElem?_eq_some_iff.1 hv).1
    omega
  have hone' : ∀ v ∈ (a.eval y).cells.toList, v.oneCell' = true := by
    intro v hv
    obtain ⟨j, hj, rfl⟩ := List.getElem_of_mem hv
    have hj' : j < a2.cells.length := by omega
    obtain ⟨v', hv', hr⟩ := hcells.get (List.getElem?_eq_getElem hj')
    rw [List.getElem?_eq_getElem hj] at hv'
    cases hv'
    exact one_cell hr (List.all_eq_true.1 hone _ (List.getElem_mem hj'))
  have hst := run_storeCells_at P r (base + off) el (a.eval y).cells.toList 0 vs w hblk (by omega) hone'
  generalize hnew : (vs.toList.take (base + off + 0) ++ (a.eval y).cells.toList ++ vs.toList.drop (base + off + 0 + (a.eval y).cells.toList.length)).toArray = new at hst
  have hget : ∀ i, new[i]? = if base + off ≤ i ∧ i < base + off + (a.eval y).cells.toList.length then (a.eval y).cells.toList[i - (base + off)]? else vs[i]? := by
    intro i
    rw [← hnew]
    simp only [List.getElem?_toArray, Nat.add_zero]
    by_cases i1 : i < base + off
    · rw [if_neg (by omega), List.append_assoc, List.getElem?_append_left (by simp; omega), List.getElem?_take_of_lt i1, Array.getElem?_toList]
    · by_cases i2 : i < base + off + (a.eval y).cells.toList.length
      · rw [if_pos ⟨by omega, i2⟩, List.append_assoc, List.getElem?_append_right (by simp; omega), List.getElem?_append_left (by simp at i2 ⊢; omega)]
        congr 1
        simp; omega
      · rw [if_neg (by omega), List.getElem?_append_right (by simp at i2 ⊢; omega), List.getElem?_drop, Array.getElem?_toList]
        congr 1
        simp at i2 ⊢; omega
  have hexec : (execOp a.eval o).run P w = .ok .skip (w.setRow r new) := by
    have hs' : (storeVar t ⟨r, base + off, none⟩ (a.eval y)).run P w = .ok () (w.setRow r new) := by
      unfold storeVar
      rw [Sem.run_bind, size?_run hsize]
      simp only [Result.andThen_ok]
      have hsz : ¬ (a.eval y).cells.size ≠ n := by
        have : (a.eval y).cells.toList.length = (a.eval y).cells.size := Array.length_toList
        omega
      rw [if_neg hsz]
      exact hst
    simp only [execOp, ho, Instr.storeAt, hptr, Instr.sureAddr, Sem.run_bind, Sem.run_pure, Result.andThen_ok, hs']
  rw [hexec]
  refine ⟨⟨θ, by simp only [Rel]; rfl, ?_, ⟨ThLe.refl θ, fun i r b h k => (by rw [h] at k; cases k), fun i j r b b' h _ k => (by rw [h] at k; cases k), rfl, rfl, rfl, by simp [World.setRow], ?_⟩⟩, ?_⟩
  · show WRel e2 θ ro (setB b cs' s2.heap) (w.setRow r new)
    rw [hheap]
    intro id ds hd
    rcases findB_setB hd with ⟨rfl, rfl, _⟩ | ⟨hne, hd'⟩
    · refine ⟨r, base, new, el, (0, 0), hθ, setRow_heap w r vs new el (0, 0) hblk, fun _ => rfl, fun j c hc => ?_⟩
      rw [q3 j] at hc
      rw [hget (base + j)]
      by_cases hin : off ≤ j ∧ j < off + a2.cells.length
      · rw [if_pos hin] at hc
        rw [if_pos (by omega)]
        obtain ⟨v, hv, hr⟩ := hcells.get hc
        exact ⟨v, by rw [← hv]; congr 1; omega, hr⟩
      · rw [if_neg hin] at hc
        rw [if_neg (by omega)]
        exact hrel j c hc
    · obtain ⟨r2', base2, us, el2, fz2, g1, g2, g3, g4⟩ := hwr id ds hd'
      have hne2 : r2' ≠ r := by
        rintro rfl
        exact hne (hp.inj.2 b id _ _ _ (by omega) hθ g1).symm
      exact ⟨r2', base2, us, el2, fz2, g1, by rw [setRow_other w r r2' new hne2]; exact g2, g3, g4⟩
  · intro k hk hno
    rw [setRow_other]
    rintro rfl
    refine hno b base hble' ?_ hθ
    exact hlt
  · intro k hno
    rw [setRow_other]
    rintro rfl
    exact hno base hθ

theorem ok_store (t : TypeId) (x y : Operand) (hro : ro ≤ st.wlo) (ho : o.op = .store t x y) (h : (evStore P tm t x y st kk).den G env = some rs) (hn : st.nn = env.length) : OpLands P G rs env tm st kk ro o :=
  (ok_store2 t x y hro ho h hn).imp fun e av s _ _ _ _ hs => by
    obtain ⟨b, _, _, _, _, _, hg⟩ := hs
    intro a w θ hp hf
    exact (hg a w θ hp).mono fun v w' h => h.1

end
end Go.Proofs.YtejbahdihfnbcaaDoor.Sx

/- Calls; any operation. -/
namespace Go.Proofs.YtejbahdihfnbcaaDoor.Sx
open Go
set_option linter.unusedSimpArgs false
set_option linter.unusedVariables false

theorem rfOf_ok {env : List Sc} {θ : Th} {s : SK} {a : AV} {v : Value} {r : Rf} (h : rfOf s a = some r) (hr : Rel env θ a v) : ∃ x, r.den env = some x ∧ ScRel s x v := by
  cases s with
  | f k =>
    cases a <;> simp [rfOf] at h
    rename_i l q
    cases hk : fkEq k l with
    | false => simp [hk] at h
    | true =>
      simp [hk] at h
      obtain rfl := fkEq_eq hk
      obtain ⟨d, b, g, rfl, f⟩ := hr.flt
      subst h
      exact ⟨_, g, d, b, rfl, rfl, f⟩
  | b =>
    cases a <;> simp [rfOf] at h
    simp only [Rel] at hr; subst hr h
    exact ⟨_, rfl, _, rfl, rfl⟩
  | i k =>
    cases a <;> simp [rfOf] at h
    rename_i l n
    cases hk : ikEq k l with
    | false => simp [hk] at h
    | true =>
      simp [hk] at h
      obtain rfl := ikEq_eq hk
      simp only [Rel] at hr; subst hr h
      exact ⟨_, rfl, _, rfl, rfl⟩

theorem rfsOf_ok {env : List Sc} {θ : Th} : ∀ {ss : List SK} {as : List AV} {vs : List Value} {rfs : List Rf}, rfsOf ss as = some rfs → RelL env θ as vs → ∃ xs, denL env rfs = some xs ∧ ScRels ss xs vs
  | [], [], vs, rfs, h, hr => by
    simp [rfsOf] at h; simp only [RelL] at hr; subst h hr
    exact ⟨[], rfl, rfl, rfl⟩
  | [], _ :: _, vs, rfs, h, hr => by simp [rfsOf] at h
  | _ :: _, [], vs, rfs, h, hr => by simp [rfsOf] at h
  | s :: ss, a :: as, vs, rfs, h, hr => by
    simp only [RelL] at hr
    obtain ⟨v, vs', rfl, h1, h2⟩ := hr
    unfold rfsOf at h
    cases e1 : rfOf s a with
    | none => simp [e1] at h
    | some r =>
      cases e2 : rfsOf ss as with
      | none => simp [e1, e2] at h
      | some rr =>
        simp [e1, e2] at h; subst h
        obtain ⟨x, g1, g2⟩ := rfOf_ok e1 h1
        obtain ⟨xs, k1, k2⟩ := rfsOf_ok e2 h2
        exact ⟨x :: xs, by simp [denL, g1, k1], x, xs, v, vs', rfl, rfl, g2, k2⟩

theorem denL_append {env : List Sc} : ∀ {a b : List Rf} {xs ys : List Sc}, denL env a = some xs → denL env b = some ys → denL env (a ++ b) = some (xs ++ ys)
  | [], b, xs, ys, h, k => by simp [denL] at h; subst h; simpa using k
  | r :: a, b, xs, ys, h, k => by
    unfold denL at h
    cases e1 : r.den env with
    | none => simp [e1] at h
    | some x =>
      cases e2 : denL env a with
      | none => simp [e1, e2] at h
      | some zs =>
        simp [e1, e2] at h; subst h
        simp [denL, e1, denL_append e2 k]

theorem cells_at {e : List Sc} {θ : Th} {ro : Nat} {w : World} {id off n : Nat} {cs avs : List AV} (hb : BRel e θ ro w id cs) (ht : takeAt off n cs = some avs) :
    ∃ r base vals, θ id = some (r, base) ∧ RelL e θ avs vals ∧ CellsAt w r (base + off) vals := by
  obtain ⟨r, base, vals, h1, h2, h3, h4⟩ := load_cells hb ht
  obtain ⟨r', base', vs, el, fz, g1, g2, g3, g4⟩ := hb
  rw [h1] at g1; cases g1
  refine ⟨r, base, vals, h1, h3, vs, el, fz, g2, fun j u hu => ?_⟩
  have := h4 j u hu
  simp only [World.cell?, g2] at this
  simpa [Nat.add_assoc] using this

theorem rfsSh_ok {env : List Sc} {θ : Th} {ro : Nat} {heap : List (Nat × List AV)} {w : World} {s : Sh} {a : AV} {v : Value} {rfs : List Rf} (h : rfsSh heap s a = some rfs) (hr : Rel env θ a v) (hw : WRel env θ ro heap w) :
    ∃ xs, denL env rfs = some xs ∧ ArgRel w s xs v := by
  cases s with
  | val k =>
    simp only [rfsSh] at h
    obtain ⟨xs, h1, h2⟩ := rfsOf_ok h (RelL.cons hr RelL.nil)
    refine ⟨xs, h1, ?_⟩
    simp only [ScRels] at h2
    obtain ⟨x, xs', v', vs', rfl, hv, hs, rfl, _⟩ := h2
    cases hv
    exact ⟨x, rfl, hs⟩
  | agg ks =>
    cases a <;> simp [rfsSh] at h
    simp only [Rel] at hr
    obtain ⟨vs, rfl, hr⟩ := hr
    obtain ⟨xs, h1, h2⟩ := rfsOf_ok h hr
    exact ⟨xs, h1, vs, rfl, h2⟩
  | ptr ks =>
    cases a <;> simp [rfsSh] at h
    rename_i b off
    cases hf : findB b heap with
    | none => simp [hf] at h
    | some cs =>
      simp only [hf] at h
      cases ht : takeAt off ks.length cs with
      | none => simp [ht] at h
      | some vs =>
        simp only [ht] at h
        obtain ⟨r, base, hθ, rfl⟩ := hr.ptr
        obtain ⟨r', base', vals, g1, g2, g3⟩ := cells_at (hw b cs hf) ht
        rw [hθ] at g1; cases g1
        obtain ⟨xs, h1, h2⟩ := rfsOf_ok h g2
        exact ⟨xs, h1, r, base + off, vals, rfl, h2, g3⟩
  | slice n ks =>
    cases a <;> simp [rfsSh] at h
    rename_i b off len cap
    cases hnl : Nat.beq n len && Nat.beq n cap with
    | false => rw [hnl] at h; simp at h
    | true =>
      cases hf : findB b heap with
      | none => rw [hnl] at h; simp [hf] at h
      | some cs =>
        rw [hnl] at h
        simp only [hf] at h
        cases ht : takeAt off ks.length cs with
        | none => simp [ht] at h
        | some vs =>
          simp only [ht] at h
          simp only [Rel] at hr
          obtain ⟨r, base, hθ, rfl⟩ := hr
          obtain ⟨r', base', vals, g1, g2, g3⟩ := cells_at (hw b cs hf) ht
          rw [hθ] at g1; cases g1
          obtain ⟨xs, h1, h2⟩ := rfsOf_ok h g2
          simp only [Bool.and_eq_true] at hnl
          obtain rfl : n = len := Nat.eq_of_beq_eq_true hnl.1
          obtain rfl : n = cap := Nat.eq_of_beq_eq_true hnl.2
          exact ⟨xs, h1, r, base + off, vals, rfl, h2, g3⟩

theorem rfsShs_ok {env : List Sc} {θ : Th} {ro : Nat} {heap : List (Nat × List AV)} {w : World} (hw : WRel env θ ro heap w) : ∀ {ss : List Sh} {as : List AV} {vs : List Value} {rfs : List Rf}, rfsShs heap ss as = some rfs → RelL env θ as vs →
    ∃ xs, denL env rfs = some xs ∧ ArgRels w ss xs vs
  | [], [], vs, rfs, h, hr => by
    simp [rfsShs] at h; simp only [RelL] at hr; subst h hr
    exact ⟨[], rfl, rfl, rfl⟩
  | [], _ :: _, vs, rfs, h, hr => by simp [rfsShs] at h
  | _ :: _, [], vs, rfs, h, hr => by simp [rfsShs] at h
  | s :: ss, a :: as, vs, rfs, h, hr => by
    simp only [RelL] at hr
    obtain ⟨v, vs', rfl, h1, h2⟩ := hr
    unfold rfsShs at h
    cases e1 : rfsSh heap s a with
    | none => simp [e1] at h
    | some r =>
      cases e2 : rfsShs heap ss as with
      | none => simp [e1, e2] at h
      | some rr =>
        simp [e1, e2] at h; subst h
        obtain ⟨x, g1, g2⟩ := rfsSh_ok e1 h1 hw
        obtain ⟨xs, k1, k2⟩ := rfsShs_ok hw e2 h2
        exact ⟨x ++ xs, denL_append g1 k1, x, xs, v, vs', rfl, rfl, g2, k2⟩

/-! The results -/
def Seg (env : List Sc) (r : Nat) (xs : List Sc) : Prop := ∀ j x, xs[j]? = some x → env[r + j]? = some x
theorem Seg.head {env : List Sc} {r : Nat} {x : Sc} {xs : List Sc} (h : Seg env r (x :: xs)) : env[r]? = some x := h 0 x rfl
theorem Seg.tail {env : List Sc} {r : Nat} {x : Sc} {xs : List Sc} (h : Seg env r (x :: xs)) : Seg env (Nat.add r 1) xs := by
  intro j y hj
  have := h (j + 1) y (by simpa using hj)
  rw [show Nat.add r 1 + j = r + (j + 1) from by show r + 1 + j = _; omega]; exact this
theorem Seg.left {env : List Sc} {r : Nat} {xs ys : List Sc} (h : Seg env r (xs ++ ys)) : Seg env r xs := by
  intro j y hj
  exact h j y (by rw [List.getElem?_append_left (List.getElem?_eq_some_iff.1 hj).1]; exact hj)
theorem Seg.right {env : List Sc} {r : Nat} {xs ys : List Sc} (h : Seg env r (xs ++ ys)) : Seg env (Nat.add r xs.length) ys := by
  intro j y hj
  have := h (xs.length + j) y (by rw [List.getElem?_append_right (by omega)]; simpa using hj)
  rw [show Nat.add r xs.length + j = r + (xs.length + j) from by show r + xs.length + j = _; omega]; exact this

section
variable {P : Program} {G : Gs} {rs env : List Sc} {tm : Tr AV} {st : St} {kk : K} {ro : Nat} {o : Oper}

theorem swInt_ok {r : Nat} {k : IntKind} {x : Sc} {kk : AV → T} (hx : env[r]? = some x) : ∀ {may : List Int}, (swInt r k may kk).den G env = some rs → ∃ av, (kk av).den G env = some rs ∧ ∀ θ v, ScRel (.i k) x v → Rel env θ av v
  | [], h => by simp [swInt, T.den] at h
  | n :: may, h => by
    simp only [swInt, T.den, hx] at h
    cases x <;> (try (cases h; done)) <;> (try dsimp only at h)
    rename_i l m
    by_cases hm : m = n
    · rw [if_pos hm] at h
      refine ⟨_, h, fun θ v hv => ?_⟩
      obtain ⟨q, hq, rfl⟩ := hv
      cases hq
      simp only [Rel]; rw [hm]
    · rw [if_neg hm] at h
      exact swInt_ok hx h

theorem bindRK_ok {q : RK} {r : Nat} {x : Sc} {kk : AV → T} (hx : env[r]? = some x) (h : (bindRK q r kk).den G env = some rs) : ∃ av, (kk av).den G env = some rs ∧ ∀ θ v, ScRel q.sk x v → Rel env θ av v := by
  cases q with
  | f k =>
    refine ⟨_, h, fun θ v hv => ?_⟩
    obtain ⟨d, b, rfl, rfl, f⟩ := hv
    simp only [Rel]; exact ⟨d, b, hx, rfl, f⟩
  | b =>
    simp only [bindRK, T.den, hx] at h
    cases x <;> (try (cases h; done)) <;> (try dsimp only at h)
    rename_i y
    cases y with
    | true =>
      refine ⟨_, h, fun θ v hv => ?_⟩
      obtain ⟨z, hz, rfl⟩ := hv
      cases hz; simp only [Rel]
    | false =>
      refine ⟨_, h, fun θ v hv => ?_⟩
      obtain ⟨z, hz, rfl⟩ := hv
      cases hz; simp only [Rel]
  | i k may => exact swInt_ok hx h

theorem bindRKs_ok : ∀ {qs : List RK} {r : Nat} {xs : List Sc} {kk : List AV → T}, xs.length = qs.length → Seg env r xs → (bindRKs qs r kk).den G env = some rs → ∃ avs, (kk avs).den G env = some rs ∧ ∀ θ vs, ScRels (qs.map RK.sk) xs vs → RelL env θ avs vs
  | [], r, xs, kk, hl, hs, h => ⟨[], h, fun θ vs hv => by simp only [List.map_nil, ScRels] at hv; simp only [RelL]; exact hv.2⟩
  | q :: qs, r, [], kk, hl, hs, h => by simp at hl
  | q :: qs, r, x :: xs, kk, hl, hs, h => by
    unfold bindRKs at h
    obtain ⟨av, h1, h2⟩ := bindRK_ok hs.head h
    obtain ⟨avs, h3, h4⟩ := bindRKs_ok (by simpa using hl) hs.tail h1
    refine ⟨av :: avs, h3, fun θ vs hv => ?_⟩
    simp only [List.map_cons, ScRels] at hv
    obtain ⟨x', xs', v, vs', hxs, rfl, k1, k2⟩ := hv
    cases hxs
    exact RelL.cons (h2 θ v k1) (h4 θ vs' k2)

theorem ScRels.length : ∀ {ss : List SK} {xs : List Sc} {vs : List Value}, ScRels ss xs vs → xs.length = ss.length
  | [], xs, vs, h => by simp only [ScRels] at h; rw [h.1]; rfl
  | s :: ss, xs, vs, h => by
    simp only [ScRels] at h
    obtain ⟨x, xs', v, vs', rfl, rfl, _, h2⟩ := h
    simp [ScRels.length h2]
theorem RsRel.length {s : Rs} {xs : List Sc} {v : Value} (h : RsRel s xs v) : xs.length = s.len := by
  cases s with
  | val q => obtain ⟨x, rfl, _⟩ := h; rfl
  | agg qs => obtain ⟨vs, _, h2⟩ := h; simpa [Rs.len] using h2.length

theorem bindRs_ok {s : Rs} {r : Nat} {xs : List Sc} {kk : AV → T} (hl : xs.length = s.len) (hs : Seg env r xs) (h : (bindRs s r kk).den G env = some rs) : ∃ av, (kk av).den G env = some rs ∧ ∀ θ v, RsRel s xs v → Rel env θ av v := by
  cases s with
  | val q =>
    match xs, hl with
    | [x], _ =>
      obtain ⟨av, h1, h2⟩ := bindRK_ok hs.head h
      refine ⟨av, h1, fun θ v hv => ?_⟩
      obtain ⟨y, hy, hv⟩ := hv
      cases hy
      exact h2 θ v hv
  | agg qs =>
    obtain ⟨avs, h1, h2⟩ := bindRKs_ok (by simpa [Rs.len] using hl) hs h
    refine ⟨_, h1, fun θ v hv => ?_⟩
    obtain ⟨vs, rfl, hv⟩ := hv
    exact Rel.agg (h2 θ vs hv)

theorem bindRss_ok : ∀ {ss : List Rs} {r : Nat} {xs : List Sc} {kk : List AV → T}, xs.length = lens ss → Seg env r xs → (bindRss ss r kk).den G env = some rs → ∃ avs, (kk avs).den G env = some rs ∧ ∀ θ vs, RsRels ss xs vs → RelL env θ avs vs
  | [], r, xs, kk, hl, hs, h => ⟨[], h, fun θ vs hv => by simp only [RsRels] at hv; simp only [RelL]; exact hv.2⟩
  | s :: ss, r, xs, kk, hl, hs, h => by
    unfold bindRss at h
    have hlen : s.len ≤ xs.length := by rw [hl]; show s.len ≤ s.len + lens ss; omega
    have hxs : xs.take s.len ++ xs.drop s.len = xs := List.take_append_drop _ _
    have hl1 : (xs.take s.len).length = s.len := by simp [hlen]
    rw [← hxs] at hs
    obtain ⟨av, h1, h2⟩ := bindRs_ok hl1 hs.left h
    have hr := hs.right
    rw [hl1] at hr
    obtain ⟨avs, h3, h4⟩ := bindRss_ok (xs := xs.drop s.len) (by rw [List.length_drop, hl]; show s.len + lens ss - s.len = _; omega) hr h1
    refine ⟨av :: avs, h3, fun θ vs hv => ?_⟩
    simp only [RsRels] at hv
    obtain ⟨x, xs', v, vs', hx, rfl, k1, k2⟩ := hv
    have hxl := k1.length
    have e1 : xs.take s.len = x := by rw [hx, ← hxl]; simp
    have e2 : xs.drop s.len = xs' := by rw [hx, ← hxl]; simp
    rw [e1] at h2; rw [e2] at h4
    exact RelL.cons (h2 θ v k1) (h4 θ vs' k2)

theorem tupleOf_rel {θ : Th} {avs : List AV} {vs : List Value} (h : RelL env θ avs vs) : Rel env θ (tupleOf avs) (tupV vs) := by
  match avs, vs, h with
  | [], vs, h => simp only [RelL] at h; subst h; exact Rel.tuple RelL.nil
  | [a], vs, h =>
    simp only [RelL] at h
    obtain ⟨v, vs', rfl, h1, rfl⟩ := h
    exact h1
  | a :: b :: cs, vs, h =>
    have h' := h
    simp only [RelL] at h
    obtain ⟨v, vs', rfl, h1, v2, vs2, rfl, h2, h3⟩ := h
    exact Rel.tuple h'

/-! What a call runs -/
theorem run_call {c : Call} {fx : Operand} {a : Act} {w : World} {f : FuncId} {caps vals : List Value} (hc : c.callee = .value fx) (hf : a.eval fx = .func (.func f) #[] ⟨caps⟩) (hv : c.args.toList.map a.eval = vals) (ty : TypeId) :
    (do let d ← resolve a.eval c ty; invoke d.target d.args : Sem Next).run P w = (callFunc f ⟨vals ++ caps⟩).run P w := by
  have hm : c.args.map a.eval = ⟨vals⟩ := by apply Array.toList_inj.1; simpa using hv
  unfold resolve
  simp only [hc, hf, Deferred.ofValue, hm]
  show (invoke (.fn (.func f) ⟨caps⟩) (#[] ++ ⟨vals⟩)).run P w = _
  have : ((#[] ++ (⟨vals⟩ : Array Value)) ++ (⟨caps⟩ : Array Value)) = ⟨vals ++ caps⟩ := by apply Array.toList_inj.1; simp
  show (callFunc f ((#[] ++ (⟨vals⟩ : Array Value)) ++ (⟨caps⟩ : Array Value))).run P w = _
  rw [this]

theorem ext_ok {e : Ext} {args : List AV} {s : St} {e0 : List Sc} (h : (extCall e args s kk).den G e0 = some rs) (hn : s.nn = e0.length) :
    ∃ e' av, (kk av { s with nn := e'.length }).den G e' = some rs ∧ Pfx e0 e' ∧ ∀ θ vs w, RelL e0 θ args vs → ∃ r w', (e.sem ⟨vs⟩).run P w = .ok r w' ∧ Rel e' θ av r ∧ Drew w w' := by
  have same : ({ s with nn := e0.length } : St) = s := by cases s; simp at hn ⊢; exact hn.symm
  unfold extCall at h
  split at h
  case h_2 => simp [T.den] at h
  case h_1 x =>
  have one : ∀ {θ : Th} {vs : List Value}, RelL e0 θ [x] vs → ∃ v, vs = [v] ∧ Rel e0 θ x v := by
    intro θ vs hv
    simp only [RelL] at hv
    obtain ⟨v, vs', rfl, h1, rfl⟩ := hv
    exact ⟨v, rfl, h1⟩
  cases e <;> simp only [] at h
  · split at h
    · rename_i r
      refine ⟨e0, _, by rw [same]; exact h, Pfx.refl _, fun θ vs w hv => ?_⟩
      obtain ⟨v, rfl, hr⟩ := one hv
      obtain ⟨d, b, g, rfl, f⟩ := hr.flt
      exact ⟨_, w, rfl, by simp only [Rel]; exact ⟨d, b, g, rfl, f⟩, Drew.refl w⟩
    · simp [T.den] at h
  · split at h
    · rename_i n
      obtain ⟨e3, av, h3, p3, hr⟩ := cstF_at h hn
      refine ⟨e3, av, h3, p3, fun θ vs w hv => ?_⟩
      obtain ⟨v, rfl, hr'⟩ := one hv
      simp only [Rel] at hr'; subst hr'
      exact ⟨_, w, rfl, hr θ, Drew.refl w⟩
    · rename_i r
      obtain ⟨d, q, hg, hq, h3, hget⟩ := un_at (uo := .abs) (k := .f64) h hn
      refine ⟨_, _, h3, ⟨_, rfl⟩, fun θ vs w hv => ?_⟩
      obtain ⟨v, rfl, hr'⟩ := one hv
      simp only [Rel] at hr'
      obtain ⟨d', b, g, rfl, f⟩ := hr'
      rw [getF_of g] at hg; cases hg
      obtain ⟨q', hq', hf'⟩ := den_abs f
      rw [hq'] at hq; cases hq
      refine ⟨.float .f64 (b % 2 ^ 63), w, ?_, by simp only [Rel]; exact ⟨_, _, hget, rfl, hf'⟩, Drew.refl w⟩
      show Result.ok (Value.float .f64 ((b % 2 ^ 63 : Nat) : Int).toNat) w = _
      rw [Int.toNat_natCast]
    · simp [T.den] at h
  · split at h
    · rename_i r
      refine ⟨e0, _, by rw [same]; exact h, Pfx.refl _, fun θ vs w hv => ?_⟩
      obtain ⟨v, rfl, hr⟩ := one hv
      obtain ⟨d, b, g, rfl, f⟩ := hr.flt
      exact ⟨_, w, rfl, by simp only [Rel]; exact ⟨d, b, g, rfl, f⟩, Drew.refl w⟩
    · simp [T.den] at h
  · split at h
    · rename_i r
      obtain ⟨d, q, hg, hq, h3, hget⟩ := un_at (uo := .sqrt) (k := .f64) h hn
      refine ⟨_, _, h3, ⟨_, rfl⟩, fun θ vs w hv => ?_⟩
      obtain ⟨v, rfl, hr'⟩ := one hv
      obtain ⟨d', b, g, rfl, f⟩ := hr'.flt
      rw [getF_of g] at hg; cases hg
      obtain ⟨b', q', w', hrun, hq', hf', hd'⟩ := run_sqrt P b d f w
      rw [hq'] at hq; cases hq
      exact ⟨_, w', hrun, by simp only [Rel]; exact ⟨_, _, hget, rfl, hf'⟩, hd'⟩
    · simp [T.den] at h
  · split at h
    · rename_i r
      obtain ⟨d, q, hg, hq, h3, hget⟩ := un_at (uo := .rte) (k := .f64) h hn
      refine ⟨_, _, h3, ⟨_, rfl⟩, fun θ vs w hv => ?_⟩
      obtain ⟨v, rfl, hr'⟩ := one hv
      obtain ⟨d', b, g, rfl, f⟩ := hr'.flt
      rw [getF_of g] at hg; cases hg
      obtain ⟨b', q', w', hrun, hq', hf', hd'⟩ := run_rte P b d f w
      rw [hq'] at hq; cases hq
      exact ⟨_, w', hrun, by simp only [Rel]; exact ⟨_, _, hget, rfl, hf'⟩, hd'⟩
    · simp [T.den] at h

theorem below_stp {θ : Th} {lo hi wlo : Nat} {w w' : World} (h : RowKit.Below w.heap.size w w') : Stp θ θ lo hi wlo w w' :=
  ⟨ThLe.refl θ, fun i r b h k => (by rw [h] at k; cases k), fun i j r b b' h _ k => (by rw [h] at k; cases k), h.os, h.tape, h.output, h.size, fun r hr _ => h.block r hr⟩
theorem WRel.below {e : List Sc} {θ : Th} {ro : Nat} {heap : List (Nat × List AV)} {w w' : World} (h : WRel e θ ro heap w) (hb : RowKit.Below w.heap.size w w') : WRel e θ ro heap w' := by
  intro id cs hc
  obtain ⟨r, base, vs, el, fz, h1, h2, h3, h4⟩ := h id cs hc
  exact ⟨r, base, vs, el, fz, h1, by rw [hb.block r (Array.getElem?_eq_some_iff.1 h2).1]; exact h2, h3, h4⟩

variable {sm : List (FuncId × Sum)} {ex : List (FuncId × Ext)} {call : CallK}

theorem callF_ok (hctx : Ctx P sm ex call G) (c : Call) (fx : Operand) (hro : ro ≤ st.wlo) (hrn : ro ≤ st.next) (hcal : c.callee = .value fx) (ho : o.op = .call c) {s1 : St} {e1 : List Sc} {f : FuncId} {avs caps : List AV}
    (h : (callF sm ex call f (avs ++ caps) s1 kk).den G e1 = some rs) (hp : Pfx env e1) (hn : s1.nn = e1.length) (hh : s1.heap = st.heap) (hx : s1.next = st.next) (hw : s1.wlo = st.wlo)
    (hf : ∀ (a : Act) θ, TmRel env θ tm a.tmps → ∃ cv, a.eval fx = .func (.func f) #[] ⟨cv⟩ ∧ RelL e1 θ caps cv)
    (hv : ∀ (a : Act) θ, TmRel env θ tm a.tmps → RelL e1 θ avs (c.args.toList.map a.eval)) : OpLands P G rs env tm st kk ro o := by
  unfold callF at h
  cases hs : findS f sm with
  | some s =>
    simp only [hs] at h
    have hok := hctx.sums f s hs
    unfold callSum at h
    cases hr : rfsShs s1.heap s.args (avs ++ caps) with
    | none => simp [hr, T.den] at h
    | some rfs =>
      simp only [hr, T.den] at h
      cases hd : denL e1 rfs with
      | none => simp [hd] at h
      | some xs =>
        cases hg : G s.idx xs with
        | none => simp [hd, hg] at h
        | some rr =>
          simp only [hd, hg] at h
          by_cases hlen : rr.length = lens s.res
          · rw [if_pos hlen] at h
            have hseg : Seg (e1 ++ rr) s1.nn rr := by
              intro j x hj
              rw [hn, List.getElem?_append_right (by omega)]
              simpa using hj
            obtain ⟨ravs, h2, h3⟩ := bindRss_ok hlen hseg h
            refine ⟨e1 ++ rr, tupleOf ravs, _, h2, hp.trans ⟨rr, rfl⟩, by simp [hn, hlen], by show st.next ≤ s1.next; omega, hw, ?_⟩
            intro a w θ hpre hfr
            obtain ⟨cv, hcv, hcr⟩ := hf a θ hpre.tm
            have hargs := (hv a θ hpre.tm).append hcr
            have hwr : WRel e1 θ ro s1.heap w := by rw [hh]; exact hpre.wr.mono hp (ThLe.refl θ)
            obtain ⟨xs', hxs, harg⟩ := rfsShs_ok hwr hr hargs
            rw [hd] at hxs; cases hxs
            have hc := hok.call xs rr _ w harg hg
            rw [show (execOp a.eval o).run P w = .ok (.enter f ⟨c.args.toList.map a.eval ++ cv⟩) w from by
              simp only [execOp, ho]
              rw [run_call hcal hcv rfl, hok.enters]]
            refine Calls.mono hc fun e w' hq => ?_
            obtain ⟨v, rfl, ⟨vs, hrs, rfl⟩, hbel⟩ := hq
            refine ⟨_, rfl, θ, tupleOf_rel (h3 θ vs hrs), ?_, below_stp hbel⟩
            show WRel _ θ ro s1.heap w'
            exact (hwr.mono ⟨rr, rfl⟩ (ThLe.refl θ)).below hbel
          · rw [if_neg hlen] at h; cases h
  | none =>
    simp only [hs] at h
    cases he : findE f ex with
    | some e =>
      simp only [he] at h
      have hok := hctx.exts f e he
      obtain ⟨e2, av, h2, p2, hrun⟩ := ext_ok (P := P) h hn
      refine ⟨e2, av, _, h2, hp.trans p2, rfl, by show st.next ≤ s1.next; omega, hw, Runs.sound ?_⟩
      intro a w θ hpre hfr
      obtain ⟨cv, hcv, hcr⟩ := hf a θ hpre.tm
      have hargs := (hv a θ hpre.tm).append hcr
      obtain ⟨r, w', hr, hrel, hd⟩ := hrun θ _ w hargs
      refine ⟨r, w', .inl ?_, post_plain hpre (hp.trans p2) hh (by show st.next ≤ s1.next; omega) hrel hd⟩
      simp only [execOp, ho]
      rw [run_call hcal hcv rfl, hok, hr]; rfl
    | none =>
      simp only [he] at h
      obtain ⟨e2, av, s2, h2, p2, n2, x2, w2, hent, hcall⟩ := hctx.call ro f _ s1 kk e1 rs (by omega) (by omega) h hn
      refine ⟨e2, av, s2, h2, hp.trans p2, n2, by omega, w2.trans hw, ?_⟩
      intro a w θ hpre hfr
      obtain ⟨cv, hcv, hcr⟩ := hf a θ hpre.tm
      have hargs := (hv a θ hpre.tm).append hcr
      have hc := hcall _ w θ hargs (by rw [hh]; exact hpre.wr.mono hp (ThLe.refl θ)) hpre.inj (by rw [hx]; exact hfr)
      rw [show (execOp a.eval o).run P w = .ok (.enter f ⟨c.args.toList.map a.eval ++ cv⟩) w from by
        simp only [execOp, ho]
        rw [run_call hcal hcv rfl, hent]]
      refine Calls.mono hc fun e w' hq => ?_
      obtain ⟨v, rfl, hpost⟩ := hq
      refine ⟨_, rfl, ?_⟩
      unfold OpPost at hpost ⊢
      rw [hx, hw] at hpost
      exact hpost

theorem ok_call (hctx : Ctx P sm ex call G) (c : Call) (hro : ro ≤ st.wlo) (hrn : ro ≤ st.next) (ho : o.op = .call c) (h : (evCall P sm ex call tm c st kk).den G env = some rs) (hn : st.nn = env.length) : OpLands P G rs env tm st kk ro o := by
  unfold evCall at h
  cases hc : c.callee with
  | invoke r m => simp [hc, T.den] at h
  | value fx =>
    simp only [hc] at h
    obtain ⟨e1, a1, s1, h1, p1, n1, x1, w1, hh1, hx1, r1⟩ := opd_ok h hn
    obtain ⟨e2, a2, s2, h2, p2, n2, x2, w2, hh2, hx2, r2⟩ := opds_ok _ h1 n1
    unfold evCallV at h2
    cases a1 <;> (try simp only [T.den] at h2) <;> (try (cases h2; done))
    rename_i f caps
    refine callF_ok hctx c fx hro hrn hc ho h2 (p1.trans p2) n2 (hh2.trans hh1) (hx2.trans hx1) (w2.trans w1) ?_ ?_
    · intro a θ ht
      have := r1 a θ ht
      simp only [Rel] at this
      obtain ⟨vs, hv, hr⟩ := this
      exact ⟨vs, hv, RelL.mono p2 (ThLe.refl θ) _ _ hr⟩
    · intro a θ ht
      exact r2 a θ (ht.mono p1 (ThLe.refl θ))
  | builtin b =>
    cases b <;> (try simp only [hc] at h) <;> (try simp only [T.den] at h) <;> (try (cases h; done))
    split at h
    · rename_i t hty
      split at h
      · rename_i el hu
        obtain ⟨e1, a1, s1, h1, p1, n1, x1, w1, hh1, hx1, r1⟩ := opds_ok _ h hn
        unfold evLen at h1
        split at h1
        · rename_i bb off n cap
          refine ⟨e1, _, s1, h1, p1, n1, x1, w1, Runs.sound ?_⟩
          intro a w θ hp hf
          have hr := r1 a θ hp.tm
          simp only [RelL] at hr
          obtain ⟨v, vs', hvs, hrel, rfl⟩ := hr
          simp only [Rel] at hrel
          obtain ⟨r, base, hθ, rfl⟩ := hrel
          refine ⟨.int .i64 n, w, .inl ?_, post_plain hp p1 hh1 x1 (by simp [Rel]) (Drew.refl w)⟩
          have hm : c.args.map a.eval = #[.slice (some ⟨r, base + off, none⟩) n cap] := by apply Array.toList_inj.1; simpa using hvs
          have ht : c.argTypes = #[t] := by apply Array.toList_inj.1; simpa using hty
          have key : ∀ cb : Array Bool, (do let d ← (pure { target := Target.builtin .len c.argTypes o.type cb, args := #[.slice (some ⟨r, base + off, none⟩) n cap] } : Sem Deferred); invoke d.target d.args : Sem Next).run P w = .ok (.value (.int .i64 n)) w := by
            intro cb
            rw [ht]
            show (do pure (Next.value (← Builtin.len_ #[t] o.type #[.slice (some ⟨r, base + off, none⟩) n cap])) : Sem Next).run P w = _
            refine run_value ?_
            unfold Builtin.len_
            simp only [List.getElem?_toArray, List.getElem?_cons_zero]
            rw [Sem.run_bind, underlying_run hu]
            rfl
          simp only [execOp, ho]
          unfold resolve
          simp only [hc, hm]
          exact key _
        · skip
          refine ⟨e1, _, s1, h1, p1, n1, x1, w1, Runs.sound ?_⟩
          intro a w θ hp hf
          have hr := r1 a θ hp.tm
          simp only [RelL] at hr
          obtain ⟨v, vs', hvs, hrel, rfl⟩ := hr
          simp only [Rel] at hrel
          subst hrel
          refine ⟨.int .i64 0, w, .inl ?_, post_plain hp p1 hh1 x1 (by simp [Rel]) (Drew.refl w)⟩
          have hm : c.args.map a.eval = #[.slice none 0 0] := by apply Array.toList_inj.1; simpa using hvs
          have ht : c.argTypes = #[t] := by apply Array.toList_inj.1; simpa using hty
          have key : ∀ cb : Array Bool, (do let d ← (pure { target := Target.builtin .len c.argTypes o.type cb, args := #[.slice none 0 0] } : Sem Deferred); invoke d.target d.args : Sem Next).run P w = .ok (.value (.int .i64 0)) w := by
            intro cb
            rw [ht]
            show (do pure (Next.value (← Builtin.len_ #[t] o.type #[.slice none 0 0])) : Sem Next).run P w = _
            refine run_value ?_
            unfold Builtin.len_
            simp only [List.getElem?_toArray, List.getElem?_cons_zero]
            rw [Sem.run_bind, underlying_run hu]
            rfl
          simp only [execOp, ho]
          unfold resolve
          simp only [hc, hm]
          exact key _
        · simp [T.den] at h1
      · simp [T.den] at h
    · simp [T.den] at h

/-- any operation -/
theorem op_ok (hctx : Ctx P sm ex call G) (hro : ro ≤ st.wlo) (hrn : ro ≤ st.next) (h : (evOp P sm ex call tm o.op st kk).den G env = some rs) (hn : st.nn = env.length) : OpLands P G rs env tm st kk ro o := by
  cases ho : o.op <;> rw [ho] at h <;> simp only [evOp] at h <;> (try (simp [T.den] at h; done))
  · exact ok_move _ (.inl ho) h hn
  · exact ok_move _ (.inr ho) h hn
  · exact ok_pick _ _ _ ho h hn
  · exact ok_alloc _ ho h hn
  · exact ok_box _ _ ho h hn
  · exact ok_build _ _ ho h hn
  · exact ok_buildSlice _ _ _ ho h hn
  · exact ok_load _ _ ho h hn
  · exact ok_store _ _ _ hro ho h hn
  · exact ok_nil _ ho h hn
  · exact ok_bin _ _ _ _ _ ho h hn
  · exact ok_un _ _ _ ho h hn
  · exact ok_convert _ _ _ ho h hn
  · exact ok_makeFunc _ _ _ ho h hn
  · exact ok_slice _ _ _ _ _ ho h hn
  · exact ok_fieldAddr _ _ _ ho h hn
  · exact ok_field _ _ _ ho h hn
  · exact ok_indexAddr _ _ _ ho h hn
  · exact ok_index _ _ _ ho h hn
  · exact ok_extract _ _ ho h hn
  · exact ok_call hctx _ hro hrn ho h hn

end
end Go.Proofs.YtejbahdihfnbcaaDoor.Sx

