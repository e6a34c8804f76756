/- The engine: trees run on named floats, with what is known of them. -/
import Derived.Test.YtconlkliclhbpaaSxEv
namespace Go.Proofs.Ytconlkliclhbpaa.Sx
open Go

inductive Nd where
  | inp (k : FloatKind)
  | cst (k : FloatKind) (b : Nat)
  | nan (k : FloatKind)
  | un (o : UO) (k : FloatKind) (a : Nat)      -- k: the kind of the operand
  | bin (o : BO) (k : FloatKind) (a b : Nat)

/-- c: 0 less, 1 less or equal, 2 equal, 3 the same; first: the node is the first of the two -/
structure Fact where
  c : Nat
  k : FloatKind
  o : Nat
  first : Bool
  v : Bool

inductive SV where
  | f (k : FloatKind) (i : Nat)
  | b (v : Bool)
  | i (k : IntKind) (n : Int)

structure ES where
  nn : Nat
  nodes : Tr Nd
  itab : Tr (List (Nd × Nat))
  facts : Tr (List Fact)
  memo : List (Nat × List SV × List SV)

inductive Out where
  | ok
  | bad (why : String) (st : ES) (is : List Nat)
def Out.and : Out → Out → Out
  | .ok, y => y
  | x, _ => x

def fk (k : FloatKind) : Nat := match k with | .f32 => 0 | .f64 => 1
def uoN : UO → Nat | .neg => 0 | .widen => 1 | .narrow => 2 | .sqrt => 3 | .rte => 4 | .abs => 5
def boN : BO → Nat | .add => 0 | .sub => 1 | .mul => 2 | .div => 3
def hashNd : Nd → Nat
  | .inp _ => 0
  | .cst _ b => Nat.mod b 1021
  | .nan k => fk k
  | .un o _ a => Nat.mod (Nat.add (Nat.mul a 5) (uoN o)) 1024
  | .bin o _ a b => Nat.mod (Nat.add (Nat.add (Nat.mul a 7) (Nat.mul b 3)) (boN o)) 1024
def ndEq : Nd → Nd → Bool
  | .cst k i, .cst l j => match fkEq k l with | true => Nat.beq i j | false => false
  | .nan k, .nan l => fkEq k l
  | .un o k a, .un p l b => match Nat.beq a b with | true => (match Nat.beq (uoN o) (uoN p) with | true => fkEq k l | false => false) | false => false
  | .bin o k a b, .bin p l c d => match Nat.beq a c with
    | true => (match Nat.beq b d with | true => (match Nat.beq (boN o) (boN p) with | true => fkEq k l | false => false) | false => false)
    | false => false
  | _, _ => false
def findNd (x : Nd) : List (Nd × Nat) → Option Nat
  | [] => none
  | (y, i) :: r => match ndEq x y with | true => some i | false => findNd x r

abbrev K1 := Nat → ES → Out
def bucket (st : ES) (h : Nat) : List (Nd × Nat) := match st.itab.get h with | some l => l | none => []
def lookNd (x : Nd) (st : ES) : Option Nat := findNd x (bucket st (hashNd x))
def addNd (x : Nd) (st : ES) : ES := { st with nn := Nat.add st.nn 1, nodes := st.nodes.set st.nn x, itab := st.itab.set (hashNd x) ((x, st.nn) :: bucket st (hashNd x)) }
def intern (x : Nd) (st : ES) (k : K1) : Out :=
  match lookNd x st with
  | some i => k i st
  | none => k st.nn (addNd x st)

def node (st : ES) (i : Nat) : Option Nd := st.nodes.get i
def mkD (k : FloatKind) (d : Option Nat) (st : ES) (kk : K1) : Out :=
  match d with
  | some b => intern (.cst k b) st kk
  | none => intern (.nan k) st kk
/-- some d: the node is the constant d of kind k -/
def dOf (st : ES) (k : FloatKind) (i : Nat) : Option (Option Nat) :=
  match node st i with
  | some (.cst l b) => match fkEq k l with | true => some (some b) | false => none
  | some (.nan l) => match fkEq k l with | true => some none | false => none
  | _ => none
def cstOf (st : ES) (k : FloatKind) (i : Nat) : Option Nat :=
  match node st i with
  | some (.cst l b) => match fkEq k l with | true => some b | false => none
  | _ => none
def isNanNd (st : ES) (i : Nat) : Bool := match node st i with | some (.nan _) => true | _ => false
def isCst (st : ES) (i : Nat) : Bool := match node st i with | some (.cst ..) => true | some (.nan ..) => true | _ => false

/-! Facts -/
def factsAt (st : ES) (i : Nat) : List Fact := match st.facts.get i with | some l => l | none => []
def addF (i : Nat) (f : Fact) (st : ES) : ES := { st with facts := st.facts.set i (f :: factsAt st i) }
def assume (c : Nat) (k : FloatKind) (a b : Nat) (v : Bool) (st : ES) : ES :=
  let st1 := match isCst st a with | true => st | false => addF a ⟨c, k, b, true, v⟩ st
  match isCst st b with | true => st1 | false => addF b ⟨c, k, a, false, v⟩ st1
def lookF (c : Nat) (k : FloatKind) (o : Nat) (first : Bool) : List Fact → Option Bool
  | [] => none
  | f :: r => match Nat.beq c f.c with
    | false => lookF c k o first r
    | true => match Nat.beq o f.o with
      | false => lookF c k o first r
      | true => match first == f.first && fkEq k f.k with | true => some f.v | false => lookF c k o first r
def known (c : Nat) (k : FloatKind) (a b : Nat) (st : ES) : Option Bool :=
  match isCst st a with
  | false => lookF c k b true (factsAt st a)
  | true => lookF c k a false (factsAt st b)
def cmp4 (c : Nat) (k : FloatKind) (x y : Option Nat) : Bool := match c with
  | 3 => decide (x = y)
  | c => cmpD c k x y

/-! Bounds: 2^e with e from 0 -/
/-- the rung of 2^e -/
def rung2 (k : FloatKind) (e : Nat) : Nat := match k with
  | .f32 => Nat.mul (Nat.add e 127) 8388608
  | .f64 => Nat.mul (Nat.add e 1023) 4503599627370496
def maxE (k : FloatKind) : Nat := match k with | .f32 => 127 | .f64 => 1023
def sw (k : FloatKind) : Nat := match k with | .f32 => 0x80000000 | .f64 => 0x8000000000000000
/-- the rung of 2^-e, e at most 64 -/
def rungL (k : FloatKind) (e : Nat) : Nat := match k with
  | .f32 => Nat.mul (Nat.sub 127 e) 8388608
  | .f64 => Nat.mul (Nat.sub 1023 e) 4503599627370496
def bdC (k : FloatKind) (m : Nat) : Nat → Nat → Option Nat
  | 0, _ => none
  | n + 1, e => match Nat.ble m (rung2 k e) with | true => some e | false => bdC k m n (Nat.add e 1)
/-- a bound of a constant -/
def bdCst (k : FloatKind) (b : Nat) : Option Nat := bdC k (Nat.mod b (sw k)) 128 0
def geC (k : FloatKind) (b : Nat) : Nat → Nat → Option Nat
  | 0, _ => none
  | n + 1, e => match Nat.ble (rungL k e) b with | true => some e | false => geC k b n (Nat.add e 1)
/-- e with 2^-e ≤ b -/
def cstGe (k : FloatKind) (b : Nat) : Option Nat := match Nat.blt b (sw k) with | true => geC k b 64 0 | false => none

/-- bounds by the facts: a constant above, one below; none of the fact is an equality -/
def ubF (st : ES) (k : FloatKind) (first : Bool) : List Fact → Option Nat
  | [] => none
  | f :: r => match f.v && (f.first == first) && fkEq f.k k && Nat.blt f.c 2 with
    | false => ubF st k first r
    | true => match cstOf st k f.o with
      | some b => bdCst k b
      | none => ubF st k first r
/-- e with 2^-e ≤ x -/
def lowF (st : ES) (k : FloatKind) : List Fact → Option Nat
  | [] => none
  | f :: r => match f.v && !f.first && fkEq f.k k && Nat.blt f.c 2 with
    | false => lowF st k r
    | true => match cstOf st k f.o with
      | some b => match cstGe k b with | some e => some e | none => lowF st k r
      | none => lowF st k r
/-- a true test that says that the node is no NaN -/
def anyTrue (k : FloatKind) : List Fact → Bool
  | [] => false
  | f :: r => match f.v && fkEq f.k k && Nat.blt f.c 3 with | true => true | false => anyTrue k r
/-- a true fact: equal to the constant 0 -/
def isZeroF (st : ES) (k : FloatKind) : List Fact → Bool
  | [] => false
  | f :: r => match f.v && f.first && fkEq f.k k && Nat.beq f.c 2 with
    | false => isZeroF st k r
    | true => match cstOf st k f.o with
      | some 0 => true
      | _ => isZeroF st k r
/-- do we know x - x == 0 ? -/
def finF (st : ES) (k : FloatKind) (i : Nat) : Bool := match lookNd (.bin .sub k i i) st with
  | none => false
  | some s => isZeroF st k (factsAt st s)
def fin0 (st : ES) (k : FloatKind) (i : Nat) : Bool :=
  match finF st k i with
  | true => true
  | false => match node st i with | some (.un .widen .f32 j) => (match k with | .f64 => finF st .f32 j | _ => false) | _ => false
/-- is it known that the whole number nearest to it is 0 ? -/
def rteZero (st : ES) (k : FloatKind) (i : Nat) : Bool := match lookNd (.un .rte k i) st with
  | none => false
  | some s => isZeroF st k (factsAt st s)

/-- never below 0, if no NaN -/
def nonneg (st : ES) : Nat → FloatKind → Nat → Bool
  | 0, _, _ => false
  | n + 1, k, i => match node st i with
    | some (.bin .mul l a b) => fkEq k l && Nat.beq a b
    | some (.bin .add l a b) => fkEq k l && nonneg st n k a && nonneg st n k b
    | some (.un .sqrt l a) => fkEq k l && nonneg st n k a
    | some (.un .abs l _) => fkEq k l
    | some (.un .widen .f32 a) => fkEq k .f64 && nonneg st n .f32 a
    | some (.un .narrow .f64 a) => fkEq k .f32 && nonneg st n .f64 a
    | _ => false

/-- x is one of the three whose squares n is the root of -/
def isRootOf (st : ES) (x n : Nat) : Bool :=
  match node st n with
  | some (.un .narrow .f64 s) => match node st s with
    | some (.un .sqrt .f64 w) => match node st w with
      | some (.un .widen .f32 d) => match node st d with
        | some (.bin .add .f32 e zz) => match node st e, node st zz with
          | some (.bin .add .f32 xx yy), some (.bin .mul .f32 z z') => match node st xx, node st yy with
            | some (.bin .mul .f32 a a'), some (.bin .mul .f32 b b') =>
              Nat.beq a a' && Nat.beq b b' && Nat.beq z z' && (Nat.beq x a || Nat.beq x b || Nat.beq x z)
            | _, _ => false
          | _, _ => false
        | _ => false
      | _ => false
    | _ => false
  | _ => false

def capE (k : FloatKind) (e : Nat) : Option Nat := match Nat.ble e (maxE k) with | true => some e | false => none
def max2 (x y : Option Nat) : Option Nat := match x, y with | some x, some y => some (Nat.max x y) | _, _ => none

/-- some e: finite, and |x| ≤ 2^e -/
def bd (st : ES) : Nat → FloatKind → Nat → Option Nat
  | 0, _, _ => none
  | n + 1, k, i =>
    match max2 (ubF st k true (factsAt st i)) (ubF st k false (factsAt st i)) with
    | some e => some e
    | none =>
    match rteZero st k i with
    | true => some 0
    | false => match node st i with
      | some (.cst l b) => match fkEq k l with | true => bdCst k b | false => none
      | some (.bin .add l a b) => match fkEq k l with
        | true => (match max2 (bd st n k a) (bd st n k b) with | some x => capE k (Nat.add x 1) | none => none)
        | false => none
      | some (.bin .sub l a b) => match fkEq k l with
        | true => match (match node st b with | some (.un .rte m c) => Nat.beq a c && fkEq k m | _ => false) with
          | true => match fin0 st k a with | true => some 0 | false => none
          | false => match max2 (bd st n k a) (bd st n k b) with | some x => capE k (Nat.add x 1) | none => none
        | false => none
      | some (.bin .mul l a b) => match fkEq k l with
        | true => match bd st n k a, bd st n k b with | some x, some y => capE k (Nat.add x y) | _, _ => none
        | false => none
      | some (.bin .div l a b) => match fkEq k l with
        | true =>
          match lowF st k (factsAt st b) with
          | some e => match (match k with | .f32 => isRootOf st a b && Nat.ble e 20 && (finF st k i || (bd st n k a).isSome) | .f64 => false) with
            | true => some 1
            | false => match bd st n k a, bd st n k b with | some x, some _ => capE k (Nat.add x e) | _, _ => none
          | none => match cstOf st k b with
            | some c => match cstGe k c, bdCst k c, bd st n k a with
              | some e, some _, some x => capE k (Nat.add x e)
              | _, _, _ => none
            | none => none
        | false => none
      | some (.un .sqrt l a) => match fkEq k l && nonneg st 20 k a with
        | true => match bd st n k a with | some x => some (Nat.div (Nat.add x 1) 2) | none => none
        | false => none
      | some (.un .widen .f32 a) => match k with | .f64 => bd st n .f32 a | _ => none
      | some (.un .narrow .f64 a) => match k with | .f32 => (match bd st n .f64 a with | some x => capE .f32 x | none => none) | _ => none
      | some (.un .neg l a) => match fkEq k l with | true => bd st n k a | false => none
      | some (.un .abs l a) => match fkEq k l with | true => bd st n k a | false => none
      | _ => none

def bdF (st : ES) (k : FloatKind) (i : Nat) : Bool := match bd st 64 k i with | some _ => true | none => false
def nonNaN (st : ES) (k : FloatKind) (i : Nat) : Bool :=
  match dOf st k i with
  | some (some b) => !isNaNb k b
  | some none => false
  | none => match anyTrue k (factsAt st i) with
    | true => true
    | false => match finF st k i with
      | true => true
      | false => bdF st k i
def isNegC (k : FloatKind) (b : Nat) : Bool := cmpC 0 k.format b 0
def isPosC (k : FloatKind) (b : Nat) : Bool := cmpC 0 k.format 0 b
/-- the opposite test: a < b is not b ≤ a -/
def decSwap (c' : Nat) (k : FloatKind) (a b : Nat) (st : ES) : Option Bool := match known c' k b a st with
  | some true => some false
  | some false => match nonNaN st k a && nonNaN st k b with | true => some true | false => none
  | none => none
/-- |e| < L by what is known of e -/
def decAbs (k : FloatKind) (a b : Nat) (st : ES) : Option Bool :=
  match cstOf st k b with
  | none => none
  | some L => match node st a with
    | some (.un .narrow .f64 x) => match node st x with
      | some (.un .abs .f64 y) => match node st y with
        | some (.un .widen .f32 e) => match k with
          | .f64 => none
          | .f32 => match isPosC .f32 L && Nat.blt L (sw .f32) with
            | false => none
            | true => match known 1 .f32 b e st with
              | some true => some false
              | r => match lookNd (.cst .f32 (Op.negFloat .f32 L)) st with
                | none => none
                | some nl => match known 1 .f32 e nl st with
                  | some true => some false
                  | some false => match r with
                    | some false => (match nonNaN st .f32 e with | true => some true | false => none)
                    | _ => none
                  | none => none
        | _ => none
      | _ => none
    | _ => none
def dec (c : Nat) (k : FloatKind) (a b : Nat) (st : ES) : Option Bool :=
  match dOf st k a, dOf st k b with
  | some x, some y => some (cmpD c k x y)
  | some none, _ => some false
  | _, some none => some false
  | _, db =>
  match known c k a b st with
  | some v => some v
  | none =>
  match Nat.beq a b with
  | true => match c with
    | 0 => some false
    | _ => match nonNaN st k a with | true => some true | false => none
  | false =>
  match c with
  | 0 => match decSwap 1 k a b st with
    | some v => some v
    | none => decAbs k a b st
  | 1 => match decSwap 0 k a b st with
    | some v => some v
    | none => match db with
      | some (some y) => match isNegC k y && nonneg st 20 k a with | true => some false | false => none
      | _ => none
  | 2 =>
    -- is it the finite test?
    match db with
    | some (some 0) => match node st a with
      | some (.bin .sub l x y) => match fkEq k l && Nat.beq x y && bdF st k x with | true => some true | false => none
      | _ => none
    | _ => none
  | _ => none
def fork (c : Nat) (k : FloatKind) (a b : Nat) (st : ES) (kk : Bool → ES → Out) : Out :=
  match kk true (assume c k a b true st) with
  | .ok => kk false (assume c k a b false st)
  | x => x
def cmpOp (c : Nat) (k : FloatKind) (a b : Nat) (st : ES) (kk : Bool → ES → Out) : Out :=
  match dec c k a b st with
  | some v => kk v st
  | none => fork c k a b st kk

/-- the same bits, of two that are no NaN -/
def sameB (k : FloatKind) (a b : Nat) (st : ES) (kk : Bool → ES → Out) : Out :=
  match Nat.beq a b with
  | true => kk true st
  | false => match dOf st k a, dOf st k b with
    | some x, some y => kk (decide (x = y)) st
    | _, _ => match known 3 k a b st with
      | some v => kk v st
      | none => fork 3 k a b st kk

/-! Operations -/
def two (k : FloatKind) : Nat := match k with | .f32 => 0x40000000 | .f64 => 0x4000000000000000
def half (k : FloatKind) : Nat := match k with | .f32 => 0x3f000000 | .f64 => 0x3fe0000000000000
def mkBin (o : BO) (k : FloatKind) (a b : Nat) (st : ES) (kk : K1) : Out :=
  match dOf st k a, dOf st k b with
  | some x, some y => mkD k (o.den k x y) st kk
  | some none, _ => mkD k none st kk
  | _, some none => mkD k none st kk
  | _, some (some y) => match o with
    | .div => match Nat.beq y (two k) with
      | true => intern (.cst k (half k)) st fun h st => intern (.bin .mul k h a) st kk
      | false => intern (.bin .div k a b) st kk
    | o => intern (.bin o k a b) st kk
  | _, _ => intern (.bin o k a b) st kk
/-- a number that is not too great for a float32 -/
def wellNarrow (st : ES) (a : Nat) : Bool :=
  match node st a with
  | some (.un .sqrt .f64 b) => match node st b with | some (.un .widen .f32 _) => true | _ => (match bd st 64 .f64 a with | some e => Nat.ble e 127 | none => false)
  | some (.un .abs .f64 b) => match node st b with | some (.un .widen .f32 _) => true | _ => (match bd st 64 .f64 a with | some e => Nat.ble e 127 | none => false)
  | _ => match bd st 64 .f64 a with | some e => Nat.ble e 127 | none => false
def mkUn (o : UO) (k : FloatKind) (a : Nat) (st : ES) (kk : K1) : Out :=
  match dOf st k a with
  | some d => match o.den k d with
    | some r => mkD (o.kind k) r st kk
    | none => .bad "narrow const" st [a]
  | none => match o with
    | .narrow => match k with
      | .f64 => match wellNarrow st a with
        | true => intern (.un .narrow .f64 a) st kk
        | false => .bad "narrow" st [a]
      | .f32 => .bad "narrow f32" st [a]
    | .widen => match k with
      | .f32 => intern (.un .widen .f32 a) st kk
      | .f64 => .bad "widen f64" st [a]
    | o => intern (.un o k a) st kk

/-! Trees -/
abbrev KL := List SV → ES → Out
abbrev CallE := Nat → List SV → ES → KL → Out
def svR (env : Tr SV) : Rf → Option SV
  | .v j => env.get j
  | .b x => some (.b x)
  | .i k n => some (.i k n)
def svL (env : Tr SV) : List Rf → Option (List SV)
  | [] => some []
  | r :: rs => match svR env r with
    | some x => match svL env rs with | some xs => some (x :: xs) | none => none
    | none => none
def getSV (env : Tr SV) (k : FloatKind) (a : Nat) : Option Nat := match env.get a with
  | some (.f l i) => match fkEq l k with | true => some i | false => none
  | _ => none
def pushL : List SV → Tr SV → Nat → Tr SV
  | [], env, _ => env
  | v :: vs, env, n => pushL vs (env.set n v) (Nat.add n 1)
def runT (call : CallE) : T → Tr SV → Nat → ES → KL → Out
  | .ret vs, env, _, st, kk => match svL env vs with
    | some l => kk l st
    | none => .bad "ret" st []
  | .un o k a t, env, n, st, kk => match getSV env k a with
    | some i => mkUn o k i st fun j st => runT call t (env.set n (.f (o.kind k) j)) (Nat.add n 1) st kk
    | none => .bad "un" st []
  | .bin o k a b t, env, n, st, kk => match getSV env k a with
    | some i => match getSV env k b with
      | some j => mkBin o k i j st fun r st => runT call t (env.set n (.f k r)) (Nat.add n 1) st kk
      | none => .bad "bin" st []
    | none => .bad "bin" st []
  | .cst k b t, env, n, st, kk => mkD k (canon k b) st fun j st => runT call t (env.set n (.f k j)) (Nat.add n 1) st kk
  | .tst c k a b x y, env, n, st, kk => match getSV env k a with
    | some i => match getSV env k b with
      | some j => cmpOp c k i j st fun v st => match v with
        | true => runT call x env n st kk
        | false => runT call y env n st kk
      | none => .bad "tst" st []
    | none => .bad "tst" st []
  | .tsb k a b x y, env, n, st, kk => match getSV env k a with
    | some i => match getSV env k b with
      | some j => match nonNaN st k i && nonNaN st k j with
        | true => sameB k i j st fun v st => match v with
          | true => runT call x env n st kk
          | false => runT call y env n st kk
        | false => .bad "tsb NaN" st [i, j]
      | none => .bad "tsb" st []
    | none => .bad "tsb" st []
  | .call g args m t, env, n, st, kk => match svL env args with
    | some vs => call g vs st fun rs st => match Nat.beq rs.length m with
      | true => runT call t (pushL rs env n) (Nat.add n m) st kk
      | false => .bad "results" st []
    | none => .bad "call" st []
  | .br r x y, env, n, st, kk => match env.get r with
    | some (.b true) => runT call x env n st kk
    | some (.b false) => runT call y env n st kk
    | _ => .bad "br" st []
  | .sw r m x y, env, n, st, kk => match env.get r with
    | some (.i _ l) => match decide (l = m) with | true => runT call x env n st kk | false => runT call y env n st kk
    | _ => .bad "sw" st []
  | .bad w, _, _, st, _ => .bad w st []

/-! Calls -/
inductive Mode where
  | inl (t : T)
  /-- class, kinds of the arguments, results, is it a test for sameness -/
  | opq (c : Nat) (as : List FloatKind) (rs : List RK) (same : Bool)
def svEq : SV → SV → Bool
  | .f k i, .f l j => match Nat.beq i j with | true => fkEq k l | false => false
  | .b x, .b y => x == y
  | .i k n, .i l m => match decide (n = m) with | true => decide (k = l) | false => false
  | _, _ => false
def svEqL : List SV → List SV → Bool
  | [], [] => true
  | x :: xs, y :: ys => match svEq x y with | true => svEqL xs ys | false => false
  | _, _ => false
def lookM (c : Nat) (vs : List SV) : List (Nat × List SV × List SV) → Option (List SV)
  | [] => none
  | (d, ws, rs) :: r => match Nat.beq c d with
    | true => (match svEqL vs ws with | true => some rs | false => lookM c vs r)
    | false => lookM c vs r
def kindsOk : List FloatKind → List SV → Bool
  | [], [] => true
  | k :: ks, .f l _ :: vs => match fkEq k l with | true => kindsOk ks vs | false => false
  | _, _ => false
def addInp (k : FloatKind) (st : ES) : ES := { st with nn := Nat.add st.nn 1, nodes := st.nodes.set st.nn (.inp k) }
def forkI (k : IntKind) (kk : SV → Out) : List Int → Out
  | [] => .ok
  | n :: ns => match kk (.i k n) with
    | .ok => forkI k kk ns
    | x => x
def freshL : List RK → ES → KL → Out
  | [], st, kk => kk [] st
  | .f k :: rs, st, kk => freshL rs (addInp k st) fun vs st' => kk (.f k st.nn :: vs) st'
  | .b :: rs, st, kk => match freshL rs st fun vs st' => kk (.b true :: vs) st' with
    | .ok => freshL rs st fun vs st' => kk (.b false :: vs) st'
    | x => x
  | .i k may :: rs, st, kk => forkI k (fun v => freshL rs st fun vs st' => kk (v :: vs) st') may
def sameArgs : List SV → Bool
  | [x, y] => svEq x y
  | _ => false
def callE (md : Nat → Mode) : Nat → CallE
  | 0, _, _, st, _ => .bad "depth" st []
  | n + 1, g, vs, st, kk => match md g with
    | .inl t => runT (callE md n) t (pushL vs .nil 0) vs.length st kk
    | .opq c as rs same => match kindsOk as vs with
      | false => .bad "args" st [g]
      | true => match same && sameArgs vs with
        | true => kk [.b true] st
        | false => match lookM c vs st.memo with
          | some ws => kk ws st
          | none => freshL rs st fun ws st' => kk ws { st' with memo := (c, vs, ws) :: st'.memo }

/-! Checks -/
def st0 : ES := ⟨0, .nil, .nil, .nil, []⟩
def inps : List FloatKind → ES → KL → Out
  | [], st, kk => kk [] st
  | k :: ks, st, kk => inps ks (addInp k st) fun vs st' => kk (.f k st.nn :: vs) st'
def isTrue : KL := fun vs st => match vs with
  | [.b true] => .ok
  | _ => .bad "false" st []
/-- a tree is always true -/
def chkLaw (md : Nat → Mode) (as : List FloatKind) (t : T) : Out :=
  inps as st0 fun vs st => runT (callE md 100) t (pushL vs .nil 0) vs.length st isTrue
def rkOk : List RK → List SV → Bool
  | [], [] => true
  | .f k :: rs, .f l _ :: vs => fkEq k l && rkOk rs vs
  | .b :: rs, .b _ :: vs => rkOk rs vs
  | .i k may :: rs, .i l n :: vs => decide (k = l) && may.contains n && rkOk rs vs
  | _, _ => false
/-- a tree has always results of this form -/
def chkRes (md : Nat → Mode) (as : List FloatKind) (rs : List RK) (t : T) : Out :=
  inps as st0 fun vs st => runT (callE md 100) t (pushL vs .nil 0) vs.length st fun ws st => match rkOk rs ws with | true => .ok | false => .bad "res" st []
/-- two trees have always the same results -/
def chkSame (md : Nat → Mode) (as : List FloatKind) (rs : List RK) (t u : T) : Out :=
  inps as st0 fun vs st => runT (callE md 100) t (pushL vs .nil 0) vs.length st fun ws st =>
    runT (callE md 100) u (pushL vs .nil 0) vs.length st fun xs st => match svEqL ws xs && rkOk rs ws with | true => .ok | false => .bad "differ" st []
/-- of two that are the same a tree is true -/
def chkRefl (md : Nat → Mode) (k : FloatKind) (t : T) : Out :=
  inps [k] st0 fun vs st => runT (callE md 100) t (pushL (vs ++ vs) .nil 0) 2 st isTrue
end Go.Proofs.Ytconlkliclhbpaa.Sx
