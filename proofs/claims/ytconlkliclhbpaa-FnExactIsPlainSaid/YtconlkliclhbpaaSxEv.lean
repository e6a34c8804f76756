/- The evaluator: from the model's code to trees. -/
import Derived.Test.YtconlkliclhbpaaSxT
namespace Go.Proofs.Ytconlkliclhbpaa.Sx
open Go

/-! Tries keyed by numbers. -/
inductive Tr (α : Type) where
  | nil
  | node (l : Tr α) (v : Option α) (r : Tr α)

def Tr.get {α : Type} : Tr α → Nat → Option α
  | .nil, _ => none
  | .node l v r, k => match Nat.beq k 0 with
    | true => v
    | false => match Nat.beq (Nat.mod k 2) 1 with
      | true => l.get (Nat.div k 2)
      | false => r.get (Nat.sub (Nat.div k 2) 1)

def Tr.left {α : Type} : Tr α → Tr α | .nil => .nil | .node l _ _ => l
def Tr.right {α : Type} : Tr α → Tr α | .nil => .nil | .node _ _ r => r
def Tr.here {α : Type} : Tr α → Option α | .nil => none | .node _ v _ => v

def Tr.setF {α : Type} (x : α) : Nat → Tr α → Nat → Tr α
  | 0, t, _ => .node t.left (some x) t.right
  | n + 1, t, k => match Nat.beq k 0 with
    | true => .node t.left (some x) t.right
    | false => match Nat.beq (Nat.mod k 2) 1 with
      | true => .node (t.left.setF x n (Nat.div k 2)) t.here t.right
      | false => .node t.left t.here (t.right.setF x n (Nat.sub (Nat.div k 2) 1))
def Tr.set {α : Type} (t : Tr α) (k : Nat) (x : α) : Tr α := t.setF x k k

inductive AV where
  | undef
  | bool (b : Bool)
  | int (k : IntKind) (n : Int)
  | flt (k : FloatKind) (id : Nat)
  | bits (k : FloatKind) (id : Nat)
  | abits (id : Nat)          -- the bits of a float64 without its sign
  | ptr (b off : Nat)
  | slice (b off len cap : Nat)
  | func (f : FuncId) (cap : List AV)
  | agg (cs : List AV)
  | tuple (vs : List AV)

def AV.cells : AV → List AV
  | .agg cs => cs
  | v => [v]

/-- nn: how long the environment is; heap: the blocks, the youngest first; next: the next block's name; wlo: blocks from here on may be written -/
structure St where
  nn : Nat
  heap : List (Nat × List AV)
  next : Nat
  wlo : Nat

abbrev K := AV → St → T

def St.up (st : St) : St := { st with nn := Nat.add st.nn 1 }

/-! Types -/
def size? (P : Program) (t : TypeId) : Option Nat := (P.info? t).map (·.size)
def aggT (P : Program) (t : TypeId) : Option Bool := match P.underlying t with
  | some (.struct _) => some true | some (.array ..) => some true | some _ => some false | none => none

/-! Values -/
def fltOk (k : FloatKind) (b : Nat) : Bool := match k with | .f32 => Nat.blt b 0x100000000 | .f64 => Nat.blt b 0x10000000000000000
def cstF (k : FloatKind) (b : Nat) (st : St) (kk : K) : T :=
  match fltOk k b with
  | true => .cst k b (kk (.flt k st.nn) st.up)
  | false => .bad "cst"
def ofValue : Value → St → K → T
  | .bool b, st, kk => kk (.bool b) st
  | .int k n, st, kk => kk (.int k n) st
  | .float k b, st, kk => cstF k b st kk
  | _, _, _ => .bad "ofValue"

def ofValues : List Value → St → (List AV → St → T) → T
  | [], st, kk => kk [] st
  | v :: vs, st, kk => ofValue v st fun a st => ofValues vs st fun as st => kk (a :: as) st

def opd (tm : Tr AV) (x : Operand) (st : St) (kk : K) : T :=
  match x with
  | .tmp t => match tm.get t with | some v => kk v st | none => kk .undef st
  | .const v => ofValue v st kk
  | .func f => kk (.func f []) st
  | .global _ => .bad "global"

def opds (tm : Tr AV) : List Operand → St → (List AV → St → T) → T
  | [], st, kk => kk [] st
  | x :: xs, st, kk => opd tm x st fun v st => opds tm xs st fun vs st => kk (v :: vs) st

/-! Memory -/
def findB (id : Nat) : List (Nat × List AV) → Option (List AV)
  | [] => none
  | (j, cs) :: r => match Nat.beq id j with | true => some cs | false => findB id r
def setB (id : Nat) (cs : List AV) : List (Nat × List AV) → List (Nat × List AV)
  | [] => []
  | (j, ds) :: r => match Nat.beq id j with | true => (j, cs) :: r | false => (j, ds) :: setB id cs r

def takeAt (off n : Nat) (cs : List AV) : Option (List AV) :=
  match Nat.ble (Nat.add off n) cs.length with | true => some ((cs.drop off).take n) | false => none
def putAt (off : Nat) (vs cs : List AV) : Option (List AV) :=
  match Nat.ble (Nat.add off vs.length) cs.length with
  | true => some (cs.take off ++ vs ++ cs.drop (Nat.add off vs.length))
  | false => none

def newB (cs : List AV) (st : St) (kk : Nat → St → T) : T :=
  kk st.next { st with heap := (st.next, cs) :: st.heap, next := Nat.add st.next 1 }

def loadT (P : Program) (t : TypeId) (b off : Nat) (st : St) (kk : K) : T :=
  match findB b st.heap, aggT P t, size? P t with
  | some cs, some true, some n => match takeAt off n cs with | some vs => kk (.agg vs) st | none => .bad "load"
  | some cs, some false, some _ => match cs[off]? with | some v => kk v st | none => .bad "load"
  | _, _, _ => .bad "load"

/-- a value of one cell -/
def AV.one : AV → Bool
  | .undef | .agg _ | .tuple _ => false
  | _ => true

def storeT (P : Program) (t : TypeId) (b off : Nat) (v : AV) (st : St) (kk : St → T) : T :=
  match Nat.ble st.wlo b && Nat.blt b st.next, findB b st.heap, size? P t with
  | true, some cs, some n => match Nat.beq n v.cells.length && v.cells.all AV.one && Nat.blt 0 n with
    | true => match putAt off v.cells cs with
      | some cs' => kk { st with heap := setB b cs' st.heap }
      | none => .bad "store"
    | false => .bad "store size"
  | _, _, _ => .bad "store"

/-- no pointer to blocks from lo on -/
def AV.low (lo : Nat) : AV → Bool
  | .ptr b _ => Nat.blt b lo
  | .slice b _ _ _ => Nat.blt b lo
  | .agg cs => go cs
  | .tuple cs => go cs
  | .func _ cs => go cs
  | _ => true
  where go : List AV → Bool
  | [] => true
  | c :: cs => c.low lo && go cs

def dropHeap (lo : Nat) : List (Nat × List AV) → List (Nat × List AV)
  | [] => []
  | (j, cs) :: r => match Nat.ble lo j with | true => dropHeap lo r | false => (j, cs) :: dropHeap lo r

abbrev CallK := FuncId → List AV → St → K → T

def fillA (off : Nat → Option (Nat × Nat)) (cells : List AV) : List (Nat × AV) → Option (List AV)
  | [] => some cells
  | (i, v) :: r => match off i with
    | none => none
    | some (o, n) => match Nat.beq n v.cells.length with
      | false => none
      | true => match putAt o v.cells cells with
        | some cs => fillA off cs r
        | none => none

def opdParts (tm : Tr AV) : List (Nat × Operand) → St → (List (Nat × AV) → St → T) → T
  | [], st, kk => kk [] st
  | (i, x) :: xs, st, kk => opd tm x st fun v st => opdParts tm xs st fun vs st => kk ((i, v) :: vs) st

def cmpN : BinOp → Option (Nat × Bool × Bool)   -- cmp, swapped, negated
  | .eql => some (2, false, false) | .neq => some (2, false, true) | .lss => some (0, false, false) | .leq => some (1, false, false)
  | .gtr => some (0, true, false) | .geq => some (1, true, false) | _ => none
def boOf : BinOp → Option BO | .add => some .add | .sub => some .sub | .mul => some .mul | .quo => some .div | _ => none

def ikEq (a b : IntKind) : Bool := decide (a = b)

def mkTst (c : Nat) (k : FloatKind) (a b : Nat) (sw ng : Bool) (st : St) (kk : K) : T :=
  match sw with
  | true => .tst c k b a (kk (.bool (!ng)) st) (kk (.bool ng) st)
  | false => .tst c k a b (kk (.bool (!ng)) st) (kk (.bool ng) st)

def binFlt (op : BinOp) (k : FloatKind) (a b : Nat) (st : St) (kk : K) : T :=
  match boOf op with
  | some o => .bin o k a b (kk (.flt k st.nn) st.up)
  | none => match cmpN op with
    | some (c, sw, ng) => mkTst c k a b sw ng st kk
    | none => .bad "binop"

def binInt (op : BinOp) (k : IntKind) (a b : Int) (st : St) (kk : K) : T :=
  match op with
  | .add => kk (.int k (k.wrap (a + b))) st
  | .sub => kk (.int k (k.wrap (a - b))) st
  | .mul => kk (.int k (k.wrap (a * b))) st
  | .eql => kk (.bool (a == b)) st
  | .neq => kk (.bool (a != b)) st
  | .lss => kk (.bool (decide (a < b))) st
  | .leq => kk (.bool (decide (a ≤ b))) st
  | .gtr => kk (.bool (decide (a > b))) st
  | .geq => kk (.bool (decide (a ≥ b))) st
  | _ => .bad "int binop"

def isBoolT (P : Program) (t : TypeId) : Bool := match P.underlying t with | some .bool => true | _ => false
def binBool (P : Program) (t : TypeId) (op : BinOp) (a b : Bool) (st : St) (kk : K) : T :=
  match isBoolT P t with
  | true => match op with
    | .eql => kk (.bool (a == b)) st
    | .neq => kk (.bool (a != b)) st
    | _ => .bad "bool binop"
  | false => .bad "bool binop"

def binBits (op : BinOp) (k : FloatKind) (a b : Nat) (st : St) (kk : K) : T :=
  match op with
  | .eql => .tsb k a b (kk (.bool true) st) (kk (.bool false) st)
  | .neq => .tsb k a b (kk (.bool false) st) (kk (.bool true) st)
  | _ => .bad "bits binop"

def binAV (P : Program) (t : TypeId) (op : BinOp) (x y : AV) (st : St) (kk : K) : T :=
  match x with
  | .flt k a => match y with
    | .flt l b => match fkEq k l with
      | true => binFlt op k a b st kk
      | false => .bad "kinds"
    | _ => .bad "binop"
  | .int k a => match y with
    | .int l b => match ikEq k l with
      | true => binInt op k a b st kk
      | false => .bad "kinds"
    | _ => .bad "binop"
  | .bool a => match y with
    | .bool b => binBool P t op a b st kk
    | _ => .bad "binop"
  | .bits k a => match y with
    | .bits l b => match fkEq k l with
      | true => binBits op k a b st kk
      | false => .bad "kinds"
    | .int l n => match op with
      | .andNot => match fkEq k .f64 && ikEq l .u64 && (n == (9223372036854775808 : Int)) with
        | true => kk (.abits a) st
        | false => .bad "andNot"
      | _ => .bad "bits"
    | _ => .bad "binop"
  | _ => .bad "binop"

def unAV (op : UnOp) (x : AV) (st : St) (kk : K) : T :=
  match op with
  | .not => match x with
    | .bool b => kk (.bool (!b)) st
    | _ => .bad "not"
  | .neg => match x with
    | .flt k a => .un .neg k a (kk (.flt k st.nn) st.up)
    | .int k n => kk (.int k (k.wrap (0 - n))) st
    | _ => .bad "neg"
  | _ => .bad "unop"

def convF (k : FloatKind) (x : AV) (st : St) (kk : K) : T :=
  match x with
  | .int _ n => cstF k (k.nearest n) st kk
  | .flt l a => match fkEq k l with
    | true => kk (.flt k a) st
    | false => match k with
      | .f64 => .un .widen .f32 a (kk (.flt .f64 st.nn) st.up)
      | .f32 => .un .narrow .f64 a (kk (.flt .f32 st.nn) st.up)
  | _ => .bad "convert"
def convAV (P : Program) (src dst : TypeId) (x : AV) (st : St) (kk : K) : T :=
  match P.underlying src with
  | none => .bad "convert"
  | some _ => match P.underlying dst with
    | some (.float k) => convF k x st kk
    | some (.int k) => match x with
      | .int _ n => kk (.int k (k.wrap n)) st
      | _ => .bad "convert"
    | _ => .bad "convert"

def fldOff (P : Program) (s : TypeId) (f : Nat) : Option Nat :=
  match P.underlying s with
  | some (.struct fs) => match fs[f]? with
    | some fd => match size? P fd.type with | some 0 => none | some _ => some fd.offset | none => none
    | none => none
  | _ => none

inductive Ext where | bits32 | frombits64 | bits64 | sqrt | rte
  deriving DecidableEq
def findE (f : FuncId) : List (FuncId × Ext) → Option Ext
  | [] => none
  | (g, e) :: r => match Nat.beq f g with | true => some e | false => findE f r

def extCall (e : Ext) (args : List AV) (st : St) (kk : K) : T :=
  match args with
  | [x] => match e with
    | .bits32 => match x with | .flt .f32 a => kk (.bits .f32 a) st | _ => .bad "ext"
    | .bits64 => match x with | .flt .f64 a => kk (.bits .f64 a) st | _ => .bad "ext"
    | .frombits64 => match x with
      | .int .u64 n => cstF .f64 n.toNat st kk
      | .abits a => .un .abs .f64 a (kk (.flt .f64 st.nn) st.up)
      | _ => .bad "ext"
    | .sqrt => match x with | .flt .f64 a => .un .sqrt .f64 a (kk (.flt .f64 st.nn) st.up) | _ => .bad "ext"
    | .rte => match x with | .flt .f64 a => .un .rte .f64 a (kk (.flt .f64 st.nn) st.up) | _ => .bad "ext"
  | _ => .bad "ext"

/-! Summaries -/
inductive SK where | f (k : FloatKind) | b | i (k : IntKind)
  deriving DecidableEq
/-- the shape of an argument: one scalar; a struct or an array; a pointer to cells; a slice over cells -/
inductive Sh where | val (s : SK) | agg (ss : List SK) | ptr (ss : List SK) | slice (len : Nat) (ss : List SK)
/-- the shape of a result; an integer with the values that it may have -/
inductive RK where | f (k : FloatKind) | b | i (k : IntKind) (may : List Int)
inductive Rs where | val (r : RK) | agg (rs : List RK)
structure Sum where
  idx : Nat
  args : List Sh
  res : List Rs

def rfOf (s : SK) (v : AV) : Option Rf :=
  match s with
  | .f k => match v with | .flt l a => (match fkEq k l with | true => some (.v a) | false => none) | _ => none
  | .b => match v with | .bool x => some (.b x) | _ => none
  | .i k => match v with | .int l n => (match ikEq k l with | true => some (.i k n) | false => none) | _ => none
def rfsOf : List SK → List AV → Option (List Rf)
  | [], [] => some []
  | s :: ss, v :: vs => match rfOf s v, rfsOf ss vs with
    | some r, some rs => some (r :: rs)
    | _, _ => none
  | _, _ => none
def rfsSh (heap : List (Nat × List AV)) (s : Sh) (v : AV) : Option (List Rf) :=
  match s with
  | .val k => rfsOf [k] [v]
  | .agg ks => match v with | .agg cs => rfsOf ks cs | _ => none
  | .ptr ks => match v with
    | .ptr b off => match findB b heap with
      | some cs => match takeAt off ks.length cs with | some vs => rfsOf ks vs | none => none
      | none => none
    | _ => none
  | .slice n ks => match v with
    | .slice b off len cap => match Nat.beq n len && Nat.beq n cap, findB b heap with
      | true, some cs => match takeAt off ks.length cs with | some vs => rfsOf ks vs | none => none
      | _, _ => none
    | _ => none
def rfsShs (heap : List (Nat × List AV)) : List Sh → List AV → Option (List Rf)
  | [], [] => some []
  | s :: ss, v :: vs => match rfsSh heap s v, rfsShs heap ss vs with
    | some r, some rs => some (r ++ rs)
    | _, _ => none
  | _, _ => none

def swInt (r : Nat) (k : IntKind) : List Int → (AV → T) → T
  | [], _ => .bad "sw"
  | n :: ns, kk => .sw r n (kk (.int k n)) (swInt r k ns kk)
/-- one scalar result, at r -/
def bindRK (q : RK) (r : Nat) (kk : AV → T) : T :=
  match q with
  | .f k => kk (.flt k r)
  | .b => .br r (kk (.bool true)) (kk (.bool false))
  | .i k may => swInt r k may kk
def bindRKs : List RK → Nat → (List AV → T) → T
  | [], _, kk => kk []
  | q :: qs, r, kk => bindRK q r fun v => bindRKs qs (Nat.add r 1) fun vs => kk (v :: vs)
def Rs.len : Rs → Nat | .val _ => 1 | .agg rs => rs.length
def bindRs (s : Rs) (r : Nat) (kk : AV → T) : T :=
  match s with
  | .val q => bindRK q r kk
  | .agg qs => bindRKs qs r fun vs => kk (.agg vs)
def bindRss : List Rs → Nat → (List AV → T) → T
  | [], _, kk => kk []
  | s :: ss, r, kk => bindRs s r fun v => bindRss ss (Nat.add r s.len) fun vs => kk (v :: vs)
def lens : List Rs → Nat
  | [] => 0
  | s :: ss => Nat.add s.len (lens ss)

def tupleOf (vs : List AV) : AV := match vs with | [v] => v | vs => .tuple vs

def callSum (s : Sum) (args : List AV) (st : St) (kk : K) : T :=
  match rfsShs st.heap s.args args with
  | none => .bad "callSum"
  | some rfs =>
    let n := lens s.res
    .call s.idx rfs n (bindRss s.res st.nn fun vs => kk (tupleOf vs) { st with nn := Nat.add st.nn n })

def findS (f : FuncId) : List (FuncId × Sum) → Option Sum
  | [] => none
  | (g, s) :: r => match Nat.beq f g with | true => some s | false => findS f r

section
variable (P : Program) (sm : List (FuncId × Sum)) (ex : List (FuncId × Ext)) (call : CallK)

def callF (f : FuncId) (args : List AV) (st : St) (kk : K) : T :=
  match findS f sm with
  | some s => callSum s args st kk
  | none => match findE f ex with
    | some e => extCall e args st kk
    | none => call f args st kk

variable (tm : Tr AV)
def kPick (a b : Operand) (kk : K) (cv : AV) (st : St) : T := match cv with
    | .bool true => opd tm a st kk
    | .bool false => opd tm b st kk
    | _ => .bad "pick"
def evAlloc (t : TypeId) (st : St) (kk : K) : T := match P.info? t with
    | some i => match i.zero with
      | some z => ofValues z.cells.toList st fun cs st => newB cs st fun b st => kk (.ptr b 0) st
      | none => .bad "alloc"
    | none => .bad "alloc"
def fillStruct (fs : Array Field) (j : Nat) : Option (Nat × Nat) := match fs[j]? with
  | some f => match size? P f.type with | some n => some (f.offset, n) | none => none
  | none => none
def evBuild (t : TypeId) (ps : Array (Nat × Operand)) (st : St) (kk : K) : T := opdParts tm ps.toList st fun vs st => match P.info? t with
    | some i => match i.zero with
      | some z => ofValues z.cells.toList st fun cs st => match P.underlying t with
        | some (.struct fs) => match fs.toList.all (fun f => (size? P f.type).isSome), fillA (fillStruct P fs) cs vs with
          | true, some cs => kk (.agg cs) st
          | _, _ => .bad "build"
        | some (.array _ e) => match size? P e with
          | some n => match fillA (fun j => some (Nat.mul j n, n)) cs vs with
            | some cs => kk (.agg cs) st
            | none => .bad "build"
          | none => .bad "build"
        | _ => .bad "build"
      | none => .bad "build"
    | none => .bad "build"
def evBuildSlice (t : TypeId) (len : Nat) (ps : Array (Nat × Operand)) (st : St) (kk : K) : T := opdParts tm ps.toList st fun vs st => match P.underlying t with
    | some (.slice e) => match P.info? e with
      | some i => match i.zero with
        | some z => match Nat.ble (Nat.mul len i.size) 1000 && Nat.beq z.cells.size i.size && Nat.blt 0 (Nat.mul len i.size) with
          | true => ofValues z.cells.toList st fun cs st =>
            match fillA (fun j => some (Nat.mul j i.size, i.size)) (List.replicate len cs).flatten vs with
            | some cs => newB cs st fun b st => kk (.slice b 0 len len) st
            | none => .bad "buildSlice"
          | false => .bad "buildSlice"
        | none => .bad "buildSlice"
      | none => .bad "buildSlice"
    | _ => .bad "buildSlice"
def evLoad (t : TypeId) (kk : K) (v : AV) (st : St) : T := match v with
    | .ptr b off => loadT P t b off st kk
    | _ => .bad "load ptr"
def evStore2 (t : TypeId) (kk : K) (v u : AV) (st : St) : T := match v with
    | .ptr b off => storeT P t b off u st fun st => kk .undef st
    | _ => .bad "store ptr"
def evNil (kk : K) (v : AV) (st : St) : T := match v with
    | .ptr .. => kk v st
    | _ => .bad "nilCheck"
def evBin (op : BinOp) (t : TypeId) (x y : Operand) (st : St) (kk : K) : T := opd tm x st fun v st => opd tm y st fun u st => binAV P t op v u st kk
def evStore (t : TypeId) (a x : Operand) (st : St) (kk : K) : T := opd tm a st fun v st => opd tm x st fun u st => evStore2 P t kk v u st
def evFieldAddr (s : TypeId) (f : Nat) (kk : K) (v : AV) (st : St) : T := match v with
    | .ptr b off => match fldOff P s f with
      | some d => kk (.ptr b (Nat.add off d)) st
      | none => .bad "fieldAddr"
    | _ => .bad "fieldAddr"
def inRange (n : Int) (len : Nat) : Bool := decide (0 ≤ n) && decide (n < len)
def evIndexAddr2 (t : TypeId) (kk : K) (v iv : AV) (st : St) : T := match iv with
    | .int _ n => match P.underlying t with
      | some (.array len e) => match v with
        | .ptr b off => match size? P e, inRange n len with
          | some s, true => kk (.ptr b (Nat.add off (Nat.mul n.toNat s))) st
          | _, _ => .bad "indexAddr"
        | _ => .bad "indexAddr"
      | some (.slice e) => match v with
        | .slice b off len _ => match size? P e, inRange n len with
          | some s, true => kk (.ptr b (Nat.add off (Nat.mul n.toNat s))) st
          | _, _ => .bad "indexAddr"
        | _ => .bad "indexAddr"
      | _ => .bad "indexAddr"
    | _ => .bad "indexAddr"
def evIndexAddr (t : TypeId) (x i : Operand) (st : St) (kk : K) : T := opd tm x st fun v st => opd tm i st fun iv st => evIndexAddr2 P t kk v iv st
def partAV (e : TypeId) (off : Nat) (cs : List AV) (st : St) (kk : K) : T :=
  match aggT P e, size? P e with
  | some true, some n => match takeAt off n cs with | some vs => kk (.agg vs) st | none => .bad "part"
  | some false, some _ => match cs[off]? with | some v => kk v st | none => .bad "part"
  | _, _ => .bad "part"
def evField (t : TypeId) (f : Nat) (kk : K) (v : AV) (st : St) : T := match v with
    | .agg cs => match P.underlying t with
      | some (.struct fs) => match fs[f]? with
        | some fd => partAV P fd.type fd.offset cs st kk
        | none => .bad "field"
      | _ => .bad "field"
    | _ => .bad "field"
def evIndex2 (t : TypeId) (kk : K) (v iv : AV) (st : St) : T := match v with
    | .agg cs => match iv with
      | .int _ n => match P.underlying t with
        | some (.array len e) => match size? P e, inRange n len with
          | some s, true => partAV P e (Nat.mul n.toNat s) cs st kk
          | _, _ => .bad "index"
        | _ => .bad "index"
      | _ => .bad "index"
    | _ => .bad "index"
def evIndex (t : TypeId) (x i : Operand) (st : St) (kk : K) : T := opd tm x st fun v st => opd tm i st fun iv st => evIndex2 P t kk v iv st
def evSlice (t : TypeId) (kk : K) (v : AV) (st : St) : T := match v with
    | .ptr b off => match P.underlying t with
      | some (.array n e) => match size? P e with
        | some _ => kk (.slice b off n n) st
        | none => .bad "slice"
      | _ => .bad "slice"
    | _ => .bad "slice"
def evSliceO (t : TypeId) (x : Operand) (l h m : Option Operand) (st : St) (kk : K) : T := match l, h, m with
    | none, none, none => opd tm x st (evSlice P t kk)
    | _, _, _ => .bad "slice"
def evExtract (i : Nat) (kk : K) (v : AV) (st : St) : T := match v with
    | .tuple vs => match vs[i]? with | some v => kk v st | none => .bad "extract"
    | _ => .bad "extract"
def evMakeFunc (fn : Fn) (first cs : Array Operand) (st : St) (kk : K) : T := match fn with
    | .func f => match first.size with
      | 0 => opds tm cs.toList st fun vs st => kk (.func f vs) st
      | _ => .bad "makeFunc"
    | _ => .bad "makeFunc"
def evCallV (kk : K) (fv : AV) (vs : List AV) (st : St) : T := match fv with
      | .func f cap => callF sm ex call f (vs ++ cap) st kk
      | _ => .bad "call"
def evLen (kk : K) (vs : List AV) (st : St) : T := match vs with
      | [.slice _ _ n _] => kk (.int .i64 n) st
      | _ => .bad "len"
def evCall (c : Call) (st : St) (kk : K) : T := match c.callee with
    | .value fx => opd tm fx st fun fv st => opds tm c.args.toList st (evCallV sm ex call kk fv)
    | .builtin .len => match c.argTypes.toList with
      | [t] => match P.underlying t with
        | some (.slice _) => opds tm c.args.toList st (evLen kk)
        | _ => .bad "len"
      | _ => .bad "len"
    | _ => .bad "callee"

def evOp (tm : Tr AV) (o : Op) (st : St) (kk : K) : T :=
  match o with
  | .move x => opd tm x st kk
  | .assign x => opd tm x st kk
  | .pick c a b => opd tm c st (kPick tm a b kk)
  | .alloc t => evAlloc P t st kk
  | .box _ x => opd tm x st fun v st => newB v.cells st fun b st => kk (.ptr b 0) st
  | .build t ps => evBuild P tm t ps st kk
  | .buildSlice t len ps => evBuildSlice P tm t len ps st kk
  | .load t a => opd tm a st (evLoad P t kk)
  | .store t a x => evStore P tm t a x st kk
  | .nilCheck x => opd tm x st (evNil kk)
  | .binOp op t x y _ => evBin P tm op t x y st kk
  | .unOp op _ x => opd tm x st fun v st => unAV op v st kk
  | .convert src dst x => opd tm x st fun v st => convAV P src dst v st kk
  | .fieldAddr s x f => opd tm x st (evFieldAddr P s f kk)
  | .indexAddr t x i => evIndexAddr P tm t x i st kk
  | .field t x f => opd tm x st (evField P t f kk)
  | .index t x i => evIndex P tm t x i st kk
  | .slice t x l h m => evSliceO P tm t x l h m st kk
  | .extract x i => opd tm x st (evExtract i kk)
  | .makeFunc fn first cs => evMakeFunc tm fn first cs st kk
  | .call c => evCall P sm ex call tm c st kk
  | _ => .bad "op"

def setT (tm : Tr AV) (d : Option Tmp) (v : AV) : Tr AV := match d with | some t => tm.set t v | none => tm

def wants (ops : Array Oper) (tm : Tr AV) (o : Oper) : Bool :=
  match o.guard with
  | none => true
  | some (j, want) => match ((ops[j]?).bind (·.dst)).bind tm.get with
    | some (.bool b) => b == want
    | _ => false

/-- a region in the order of the text, nothing hidden -/
def runOps (ops : Array Oper) : List Oper → Tr AV → St → (Tr AV → St → T) → T
  | [], tm, st, kk => kk tm st
  | o :: r, tm, st, kk => match wants ops tm o with
    | false => runOps ops r (setT tm o.dst .undef) st kk
    | true => evOp P sm ex call tm o.op st fun v st => runOps ops r (setT tm o.dst v) st kk

def ownerOk (own : List (Nat × Nat)) (bef : Nat) (b : Nat) : Bool := match own with
  | [] => true
  | (j, lo) :: r => match Nat.ble lo b with
    | true => Nat.testBit bef j
    | false => ownerOk r bef b

def isStore : Op → Bool | .store .. => true | _ => false

def hideHeap (own : List (Nat × Nat)) (bef : Nat) : List (Nat × List AV) → List (Nat × List AV)
  | [] => []
  | (j, cs) :: r => match ownerOk own bef j with | true => (j, cs) :: hideHeap own bef r | false => hideHeap own bef r

def newOnes (lo hi : Nat) : List (Nat × List AV) → List (Nat × List AV) → List (Nat × List AV)
  | [], full => full
  | (j, cs) :: r, full => match Nat.ble lo j && Nat.blt j hi with | true => (j, cs) :: newOnes lo hi r full | false => full

def allVis (own : List (Nat × Nat)) (bef : Nat) : List (Nat × List AV) → Bool
  | [] => true
  | (j, _) :: r => ownerOk own bef j && allVis own bef r
def allLt (hi : Nat) : List (Nat × List AV) → Bool
  | [] => true
  | (j, _) :: r => Nat.blt j hi && allLt hi r

def idsEq : List (Nat × List AV) → List (Nat × List AV) → Bool
  | [], [] => true
  | (i, _) :: r, (j, _) :: s => Nat.beq i j && idsEq r s
  | _, _ => false

def looksAtMemory : Op → Bool
  | .load .. | .store .. | .call _ => true
  | _ => false

/-- a region that draws: an operation that looks at memory sees the blocks of the operations before it alone; any other sees none -/
def runDraw (ops : Array Oper) : Nat → List Oper → List Nat → List (Nat × Nat) → Tr AV → St → (Tr AV → St → T) → T
  | j, o :: r, bef :: bs, own, tm, st, kk => match wants ops tm o with
    | false => runDraw ops (Nat.add j 1) r bs own (setT tm o.dst .undef) st kk
    | true => match isStore o.op with
      | true => match allVis own bef st.heap with
        | true => evOp P sm ex call tm o.op st fun v st' => match idsEq st'.heap st.heap with
          | true => runDraw ops (Nat.add j 1) r bs ((j, st.next) :: own) (setT tm o.dst v) st' kk
          | false => .bad "idsEq"
        | false => .bad "allVis"
      | false => evOp P sm ex call tm o.op { st with heap := (match looksAtMemory o.op with | true => hideHeap own bef st.heap | false => []), wlo := st.next } fun v st' =>
          runDraw ops (Nat.add j 1) r bs ((j, st.next) :: own) (setT tm o.dst v) { st' with heap := newOnes st.next st'.next st'.heap st.heap, wlo := st.wlo } kk
  | _, [], _, _, tm, st, kk => kk tm st
  | _, _ :: _, [], _, _, _, _ => .bad "befores"
def runDraw0 (ops : Array Oper) (tm : Tr AV) (st : St) (kk : Tr AV → St → T) : T :=
  match allLt st.next st.heap && Nat.ble st.wlo st.next with
  | true => runDraw P sm ex call ops 0 ops.toList (Go.Region.before ops).toList [] tm st kk
  | false => .bad "draw"

inductive Ex where | normal | ret | exit (id : Nat)

def runCode : Nat → Code → Tr AV → St → (Ex → Tr AV → St → T) → T
  | 0, _, _, _, _ => .bad "fuel"
  | n + 1, c, tm, st, kk => match c with
    | .skip => kk .normal tm st
    | .region _ ops draw => match draw with
      | false => runOps P sm ex call ops ops.toList tm st (kk .normal)
      | true => runDraw0 P sm ex call ops tm st (kk .normal)
    | .seq a b => runCode n a tm st fun e tm st => match e with
      | .normal => runCode n b tm st kk
      | e => kk e tm st
    | .cond x a b => opd tm x st fun v st => match v with
      | .bool true => runCode n a tm st kk
      | .bool false => runCode n b tm st kk
      | _ => .bad "cond"
    | .block id b => runCode n b tm st fun e tm st => match e with
      | .exit j => match Nat.beq id j with | true => kk .normal tm st | false => kk (.exit j) tm st
      | e => kk e tm st
    | .loop b => runCode n b tm st fun e tm st => match e with
      | .normal => runCode n (.loop b) tm st kk
      | e => kk e tm st
    | .scope b => runCode n b tm st kk
    | .exit id => kk (.exit id) tm st
    | .label _ => kk .normal tm st
    | .ret => kk .ret tm st
    | _ => .bad "code"

def resVals : List ResultVar → Tr AV → St → (List AV → T) → T
  | [], _, _, kk => kk []
  | .tmp t :: r, tm, st, kk => resVals r tm st fun vs => kk ((match tm.get t with | some v => v | none => .undef) :: vs)
  | .cell a t :: r, tm, st, kk => match tm.get a with
    | some (.ptr b off) => loadT P t b off st fun v _ => resVals r tm st fun vs => kk (v :: vs)
    | _ => .bad "result"

def setArgs : Nat → List AV → Tr AV → Tr AV
  | _, [], tm => tm
  | i, v :: vs, tm => setArgs (Nat.add i 1) vs (tm.set i v)
end

/-- what is asked of a region that draws: each edge that binds leads back; no temporary's writer and reader or writer are unordered; no store and no operation that looks at memory are unordered -/
def namesOf (ops : Array Oper) (o : Oper) : List Tmp := o.dst.toList ++ (o.op.operands.toList.filterMap fun | .tmp t => some t | _ => none) ++ (match o.guard with | some (j, _) => ((ops[j]?).bind (·.dst)).toList | none => [])
def apartD (ops : Array Oper) (o p : Oper) : Bool := match o.dst with | some d => !(namesOf ops p).contains d | none => true
def drawOk (ops : Array Oper) : Bool :=
  let b := Go.Region.before ops
  let l := ops.toList.zipIdx
  l.all fun (o, i) => o.after.all (fun e => !Go.Region.binds .any e || Nat.blt e.on i) &&
    l.all fun (p, j) => !Nat.blt j i || (b.getD i 0).testBit j ||
      (!(isStore o.op && looksAtMemory p.op) && !(isStore p.op && looksAtMemory o.op) && apartD ops o p && apartD ops p o)
def dstOk (n : Nat) (o : Oper) : Bool := match o.dst with | some d => Nat.blt d n | none => true
def codeOk (n : Nat) : Code → Bool
  | .region _ ops draw => ops.toList.all (dstOk n) && (match draw with | true => drawOk ops | false => true)
  | .seq a b | .cond _ a b => codeOk n a && codeOk n b
  | .block _ b | .loop b | .scope b => codeOk n b
  | _ => true

section
variable (P : Program) (sm : List (FuncId × Sum)) (ex : List (FuncId × Ext))
def runFn : Nat → CallK
  | 0, _, _, _, _ => .bad "depth"
  | n + 1, f, args, st, kk => match P.funcs[f]? with
    | none => .bad "no func"
    | some fn => match fn.body with
      | none => .bad "no body"
      | some c => match fn.name == "runtime.NumGoroutine", codeOk fn.ntmps c with
        | false, true =>
         runCode P sm ex (runFn n) 100000 c (setArgs 0 args .nil) st fun e tm st' => match e with
          | .exit _ => .bad "exit"
          | _ => resVals P fn.results.toList tm st' fun vs =>
            match (tupleOf vs).low st.next with
            | true => kk (tupleOf vs) { st' with heap := dropHeap st.next st'.heap }
            | false => kk (tupleOf vs) st'
        | _, _ => .bad "codeOk"

/-- the arguments of a summary, out of an environment from r on -/
def argRK (s : SK) (r : Nat) (kk : AV → T) : T := match s with
  | .f k => kk (.flt k r)
  | _ => .bad "arg"
def argSKs : List SK → Nat → (List AV → T) → T
  | [], _, kk => kk []
  | s :: ss, r, kk => argRK s r fun v => argSKs ss (Nat.add r 1) fun vs => kk (v :: vs)
def argSh (s : Sh) (st : St) (kk : AV → St → T) : T := match s with
  | .val k => argRK k st.nn fun v => kk v { st with nn := Nat.add st.nn 1 }
  | .agg ks => argSKs ks st.nn fun vs => kk (.agg vs) { st with nn := Nat.add st.nn ks.length }
  | .ptr ks => argSKs ks st.nn fun vs => kk (.ptr st.next 0) { st with nn := Nat.add st.nn ks.length, heap := (st.next, vs) :: st.heap, next := Nat.add st.next 1, wlo := Nat.add st.next 1 }
  | .slice n ks => argSKs ks st.nn fun vs => kk (.slice st.next 0 n n) { st with nn := Nat.add st.nn ks.length, heap := (st.next, vs) :: st.heap, next := Nat.add st.next 1, wlo := Nat.add st.next 1 }
def argShs : List Sh → St → (List AV → St → T) → T
  | [], st, kk => kk [] st
  | s :: ss, st, kk => argSh s st fun v st => argShs ss st fun vs st => kk (v :: vs) st

def rfR (q : RK) (v : AV) : Option Rf := match q with
  | .f k => rfOf (.f k) v
  | .b => rfOf .b v
  | .i k _ => rfOf (.i k) v
def rfRs : List RK → List AV → Option (List Rf)
  | [], [] => some []
  | s :: ss, v :: vs => match rfR s v, rfRs ss vs with
    | some r, some rs => some (r :: rs)
    | _, _ => none
  | _, _ => none
def rfRes (s : Rs) (v : AV) : Option (List Rf) := match s with
  | .val q => rfRs [q] [v]
  | .agg qs => match v with | .agg cs => rfRs qs cs | _ => none
def rfRess : List Rs → List AV → Option (List Rf)
  | [], [] => some []
  | s :: ss, v :: vs => match rfRes s v, rfRess ss vs with
    | some r, some rs => some (r ++ rs)
    | _, _ => none
  | _, _ => none
def unTuple (n : Nat) (v : AV) : List AV := match n with
  | 1 => [v]
  | _ => match v with | .tuple vs => vs | _ => [.undef]

/-- the tree of a function at a shape -/
def treeOf (f : FuncId) (s : Sum) : T :=
  argShs s.args { nn := 0, heap := [], next := 0, wlo := 0 } fun vs st =>
    runFn P sm ex 1000 f vs st fun v _ => match rfRess s.res (unTuple s.res.length v) with
      | some rs => .ret rs
      | none => .bad "res"
end
end Go.Proofs.Ytconlkliclhbpaa.Sx
