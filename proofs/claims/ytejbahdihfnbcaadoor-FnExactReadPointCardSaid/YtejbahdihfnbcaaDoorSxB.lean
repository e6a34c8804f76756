/- An engine that runs such trees with what is known of their floats is sound: what it finds true is true of every input. -/
import Derived.Test.YtejbahdihfnbcaaDoorSxA
/- The engine: trees run on named floats, with what is known of them. -/
namespace Go.Proofs.YtejbahdihfnbcaaDoor.Sx
open Go

inductive Nd where
  | inp (k : FloatKind)
  | cst (k : FloatKind) (b : Nat)
  | nan (k : FloatKind)
  | un (o : UO) (k : FloatKind) (a : Nat)      -- k: the kind of the operand
  | bin (o : BO) (k : FloatKind) (a b : Nat)

/-- c: 0 less, 1 less or equal, 2 equal, 3 the same; first: the node is the first of the two -/
structure Fact where
  c : Nat
  k : FloatKind
  o : Nat
  first : Bool
  v : Bool

inductive SV where
  | f (k : FloatKind) (i : Nat)
  | b (v : Bool)
  | i (k : IntKind) (n : Int)

structure ES where
  nn : Nat
  nodes : Tr Nd
  itab : Tr (List (Nd × Nat))
  facts : Tr (List Fact)
  memo : List (Nat × List SV × List SV)

inductive Out where
  | ok
  | bad (why : String) (st : ES) (is : List Nat)
def Out.and : Out → Out → Out
  | .ok, y => y
  | x, _ => x

def fk (k : FloatKind) : Nat := match k with | .f32 => 0 | .f64 => 1
def uoN : UO → Nat | .neg => 0 | .widen => 1 | .narrow => 2 | .sqrt => 3 | .rte => 4 | .abs => 5
def boN : BO → Nat | .add => 0 | .sub => 1 | .mul => 2 | .div => 3
def hashNd : Nd → Nat
  | .inp _ => 0
  | .cst _ b => Nat.mod b 1021
  | .nan k => fk k
  | .un o _ a => Nat.mod (Nat.add (Nat.mul a 5) (uoN o)) 1024
  | .bin o _ a b => Nat.mod (Nat.add (Nat.add (Nat.mul a 7) (Nat.mul b 3)) (boN o)) 1024
def ndEq : Nd → Nd → Bool
  | .cst k i, .cst l j => match fkEq k l with | true => Nat.beq i j | false => false
  | .nan k, .nan l => fkEq k l
  | .un o k a, .un p l b => match Nat.beq a b with | true => (match Nat.beq (uoN o) (uoN p) with | true => fkEq k l | false => false) | false => false
  | .bin o k a b, .bin p l c d => match Nat.beq a c with
    | true => (match Nat.beq b d with | true => (match Nat.beq (boN o) (boN p) with | true => fkEq k l | false => false) | false => false)
    | false => false
  | _, _ => false
def findNd (x : Nd) : List (Nd × Nat) → Option Nat
  | [] => none
  | (y, i) :: r => match ndEq x y with | true => some i | false => findNd x r

abbrev K1 := Nat → ES → Out
def bucket (st : ES) (h : Nat) : List (Nd × Nat) := match st.itab.get h with | some l => l | none => []
def lookNd (x : Nd) (st : ES) : Option Nat := findNd x (bucket st (hashNd x))
def addNd (x : Nd) (st : ES) : ES := { st with nn := Nat.add st.nn 1, nodes := st.nodes.set st.nn x, itab := st.itab.set (hashNd x) ((x, st.nn) :: bucket st (hashNd x)) }
def intern (x : Nd) (st : ES) (k : K1) : Out :=
  match lookNd x st with
  | some i => k i st
  | none => k st.nn (addNd x st)

def node (st : ES) (i : Nat) : Option Nd := st.nodes.get i
def mkD (k : FloatKind) (d : Option Nat) (st : ES) (kk : K1) : Out :=
  match d with
  | some b => intern (.cst k b) st kk
  | none => intern (.nan k) st kk
/-- some d: the node is the constant d of kind k -/
def dOf (st : ES) (k : FloatKind) (i : Nat) : Option (Option Nat) :=
  match node st i with
  | some (.cst l b) => match fkEq k l with | true => some (some b) | false => none
  | some (.nan l) => match fkEq k l with | true => some none | false => none
  | _ => none
def cstOf (st : ES) (k : FloatKind) (i : Nat) : Option Nat :=
  match node st i with
  | some (.cst l b) => match fkEq k l with | true => some b | false => none
  | _ => none
def isNanNd (st : ES) (i : Nat) : Bool := match node st i with | some (.nan _) => true | _ => false
def isCst (st : ES) (i : Nat) : Bool := match node st i with | some (.cst ..) => true | some (.nan ..) => true | _ => false

/-! Facts -/
def factsAt (st : ES) (i : Nat) : List Fact := match st.facts.get i with | some l => l | none => []
def addF (i : Nat) (f : Fact) (st : ES) : ES := { st with facts := st.facts.set i (f :: factsAt st i) }
def assume (c : Nat) (k : FloatKind) (a b : Nat) (v : Bool) (st : ES) : ES :=
  let st1 := match isCst st a with | true => st | false => addF a ⟨c, k, b, true, v⟩ st
  match isCst st b with | true => st1 | false => addF b ⟨c, k, a, false, v⟩ st1
def lookF (c : Nat) (k : FloatKind) (o : Nat) (first : Bool) : List Fact → Option Bool
  | [] => none
  | f :: r => match Nat.beq c f.c with
    | false => lookF c k o first r
    | true => match Nat.beq o f.o with
      | false => lookF c k o first r
      | true => match first == f.first && fkEq k f.k with | true => some f.v | false => lookF c k o first r
def known (c : Nat) (k : FloatKind) (a b : Nat) (st : ES) : Option Bool :=
  match isCst st a with
  | false => lookF c k b true (factsAt st a)
  | true => lookF c k a false (factsAt st b)
def cmp4 (c : Nat) (k : FloatKind) (x y : Option Nat) : Bool := match c with
  | 3 => decide (x = y)
  | c => cmpD c k x y

/-! Bounds: 2^e with e from 0 -/
/-- the rung of 2^e -/
def rung2 (k : FloatKind) (e : Nat) : Nat := match k with
  | .f32 => Nat.mul (Nat.add e 127) 8388608
  | .f64 => Nat.mul (Nat.add e 1023) 4503599627370496
def maxE (k : FloatKind) : Nat := match k with | .f32 => 127 | .f64 => 1023
def sw (k : FloatKind) : Nat := match k with | .f32 => 0x80000000 | .f64 => 0x8000000000000000
/-- the rung of 2^-e, e at most 64 -/
def rungL (k : FloatKind) (e : Nat) : Nat := match k with
  | .f32 => Nat.mul (Nat.sub 127 e) 8388608
  | .f64 => Nat.mul (Nat.sub 1023 e) 4503599627370496
def bdC (k : FloatKind) (m : Nat) : Nat → Nat → Option Nat
  | 0, _ => none
  | n + 1, e => match Nat.ble m (rung2 k e) with | true => some e | false => bdC k m n (Nat.add e 1)
/-- a bound of a constant -/
def bdCst (k : FloatKind) (b : Nat) : Option Nat := bdC k (Nat.mod b (sw k)) 128 0
def geC (k : FloatKind) (b : Nat) : Nat → Nat → Option Nat
  | 0, _ => none
  | n + 1, e => match Nat.ble (rungL k e) b with | true => some e | false => geC k b n (Nat.add e 1)
/-- e with 2^-e ≤ b -/
def cstGe (k : FloatKind) (b : Nat) : Option Nat := match Nat.blt b (sw k) with | true => geC k b 64 0 | false => none

/-- bounds by the facts: a constant above, one below; none of the fact is an equality -/
def ubF (st : ES) (k : FloatKind) (first : Bool) : List Fact → Option Nat
  | [] => none
  | f :: r => match f.v && (f.first == first) && fkEq f.k k && Nat.blt f.c 2 with
    | false => ubF st k first r
    | true => match cstOf st k f.o with
      | some b => bdCst k b
      | none => ubF st k first r
/-- e with 2^-e ≤ x -/
def lowF (st : ES) (k : FloatKind) : List Fact → Option Nat
  | [] => none
  | f :: r => match f.v && !f.first && fkEq f.k k && Nat.blt f.c 2 with
    | false => lowF st k r
    | true => match cstOf st k f.o with
      | some b => match cstGe k b with | some e => some e | none => lowF st k r
      | none => lowF st k r
/-- a true test that says that the node is no NaN -/
def anyTrue (k : FloatKind) : List Fact → Bool
  | [] => false
  | f :: r => match f.v && fkEq f.k k && Nat.blt f.c 3 with | true => true | false => anyTrue k r
/-- a true fact: equal to the constant 0 -/
def isZeroF (st : ES) (k : FloatKind) : List Fact → Bool
  | [] => false
  | f :: r => match f.v && f.first && fkEq f.k k && Nat.beq f.c 2 with
    | false => isZeroF st k r
    | true => match cstOf st k f.o with
      | some 0 => true
      | _ => isZeroF st k r
/-- do we know x - x == 0 ? -/
def finF (st : ES) (k : FloatKind) (i : Nat) : Bool := match lookNd (.bin .sub k i i) st with
  | none => false
  | some s => isZeroF st k (factsAt st s)
def fin0 (st : ES) (k : FloatKind) (i : Nat) : Bool :=
  match finF st k i with
  | true => true
  | false => match node st i with | some (.un .widen .f32 j) => (match k with | .f64 => finF st .f32 j | _ => false) | _ => false
/-- is it known that the whole number nearest to it is 0 ? -/
def rteZero (st : ES) (k : FloatKind) (i : Nat) : Bool := match lookNd (.un .rte k i) st with
  | none => false
  | some s => isZeroF st k (factsAt st s)

/-- never below 0, if no NaN -/
def nonneg (st : ES) : Nat → FloatKind → Nat → Bool
  | 0, _, _ => false
  | n + 1, k, i => match node st i with
    | some (.bin .mul l a b) => fkEq k l && Nat.beq a b
    | some (.bin .add l a b) => fkEq k l && nonneg st n k a && nonneg st n k b
    | some (.un .sqrt l a) => fkEq k l && nonneg st n k a
    | some (.un .abs l _) => fkEq k l
    | some (.un .widen .f32 a) => fkEq k .f64 && nonneg st n .f32 a
    | some (.un .narrow .f64 a) => fkEq k .f32 && nonneg st n .f64 a
    | _ => false

/-- x is one of the three whose squares n is the root of -/
def isRootOf (st : ES) (x n : Nat) : Bool :=
  match node st n with
  | some (.un .narrow .f64 s) => match node st s with
    | some (.un .sqrt .f64 w) => match node st w with
      | some (.un .widen .f32 d) => match node st d with
        | some (.bin .add .f32 e zz) => match node st e, node st zz with
          | some (.bin .add .f32 xx yy), some (.bin .mul .f32 z z') => match node st xx, node st yy with
            | some (.bin .mul .f32 a a'), some (.bin .mul .f32 b b') =>
              Nat.beq a a' && Nat.beq b b' && Nat.beq z z' && (Nat.beq x a || Nat.beq x b || Nat.beq x z)
            | _, _ => false
          | _, _ => false
        | _ => false
      | _ => false
    | _ => false
  | _ => false

def capE (k : FloatKind) (e : Nat) : Option Nat := match Nat.ble e (maxE k) with | true => some e | false => none
def max2 (x y : Option Nat) : Option Nat := match x, y with | some x, some y => some (Nat.max x y) | _, _ => none

/-- some e: finite, and |x| ≤ 2^e -/
def bd (st : ES) : Nat → FloatKind → Nat → Option Nat
  | 0, _, _ => none
  | n + 1, k, i =>
    match max2 (ubF st k true (factsAt st i)) (ubF st k false (factsAt st i)) with
    | some e => some e
    | none =>
    match rteZero st k i with
    | true => some 0
    | false => match node st i with
      | some (.cst l b) => match fkEq k l with | true => bdCst k b | false => none
      | some (.bin .add l a b) => match fkEq k l with
        | true => (match max2 (bd st n k a) (bd st n k b) with | some x => capE k (Nat.add x 1) | none => none)
        | false => none
      | some (.bin .sub l a b) => match fkEq k l with
        | true => match (match node st b with | some (.un .rte m c) => Nat.beq a c && fkEq k m | _ => false) with
          | true => match fin0 st k a with
            | true => some 0
            | false => match bd st n k a with | some _ => some 0 | none => none
          | false => match max2 (bd st n k a) (bd st n k b) with | some x => capE k (Nat.add x 1) | none => none
        | false => none
      | some (.bin .mul l a b) => match fkEq k l with
        | true => match bd st n k a, bd st n k b with | some x, some y => capE k (Nat.add x y) | _, _ => none
        | false => none
      | some (.bin .div l a b) => match fkEq k l with
        | true =>
          match lowF st k (factsAt st b) with
          | some e => match (match k with | .f32 => isRootOf st a b && Nat.ble e 20 && (finF st k i || (bd st n k a).isSome) | .f64 => false) with
            | true => some 1
            | false => match bd st n k a, bd st n k b with | some x, some _ => capE k (Nat.add x e) | _, _ => none
          | none => match cstOf st k b with
            | some c => match cstGe k c, bdCst k c, bd st n k a with
              | some e, some _, some x => capE k (Nat.add x e)
              | _, _, _ => none
            | none => none
        | false => none
      | some (.un .sqrt l a) => match fkEq k l && nonneg st 20 k a with
        | true => match bd st n k a with | some x => some (Nat.div (Nat.add x 1) 2) | none => none
        | false => none
      | some (.un .widen .f32 a) => match k with | .f64 => bd st n .f32 a | _ => none
      | some (.un .narrow .f64 a) => match k with | .f32 => (match bd st n .f64 a with | some x => capE .f32 x | none => none) | _ => none
      | some (.un .neg l a) => match fkEq k l with | true => bd st n k a | false => none
      | some (.un .abs l a) => match fkEq k l with | true => bd st n k a | false => none
      | _ => none

def bdF (st : ES) (k : FloatKind) (i : Nat) : Bool := match bd st 64 k i with | some _ => true | none => false
def nonNaN (st : ES) (k : FloatKind) (i : Nat) : Bool :=
  match dOf st k i with
  | some (some b) => !isNaNb k b
  | some none => false
  | none => match anyTrue k (factsAt st i) with
    | true => true
    | false => match finF st k i with
      | true => true
      | false => bdF st k i
def isNegC (k : FloatKind) (b : Nat) : Bool := cmpC 0 k.format b 0
def isPosC (k : FloatKind) (b : Nat) : Bool := cmpC 0 k.format 0 b
/-- the opposite test: a < b is not b ≤ a -/
def decSwap (c' : Nat) (k : FloatKind) (a b : Nat) (st : ES) : Option Bool := match known c' k b a st with
  | some true => some false
  | some false => match nonNaN st k a && nonNaN st k b with | true => some true | false => none
  | none => none
/-- |e| < L by what is known of e -/
def decAbs (k : FloatKind) (a b : Nat) (st : ES) : Option Bool :=
  match cstOf st k b with
  | none => none
  | some L => match node st a with
    | some (.un .narrow .f64 x) => match node st x with
      | some (.un .abs .f64 y) => match node st y with
        | some (.un .widen .f32 e) => match k with
          | .f64 => none
          | .f32 => match isPosC .f32 L && Nat.blt L (sw .f32) with
            | false => none
            | true => match known 1 .f32 b e st with
              | some true => some false
              | r => match lookNd (.cst .f32 (Op.negFloat .f32 L)) st with
                | none => none
                | some nl => match known 1 .f32 e nl st with
                  | some true => some false
                  | some false => match r with
                    | some false => (match nonNaN st .f32 e with | true => some true | false => none)
                    | _ => none
                  | none => none
        | _ => none
      | _ => none
    | _ => none
def dec (c : Nat) (k : FloatKind) (a b : Nat) (st : ES) : Option Bool :=
  match dOf st k a, dOf st k b with
  | some x, some y => some (cmpD c k x y)
  | some none, _ => some false
  | _, some none => some false
  | _, db =>
  match known c k a b st with
  | some v => some v
  | none =>
  match Nat.beq a b with
  | true => match c with
    | 0 => some false
    | _ => match nonNaN st k a with | true => some true | false => none
  | false =>
  match c with
  | 0 => match decSwap 1 k a b st with
    | some v => some v
    | none => decAbs k a b st
  | 1 => match decSwap 0 k a b st with
    | some v => some v
    | none => match db with
      | some (some y) => match isNegC k y && nonneg st 20 k a with | true => some false | false => none
      | _ => none
  | 2 =>
    -- is it the finite test?
    match db with
    | some (some 0) => match node st a with
      | some (.bin .sub l x y) => match fkEq k l && Nat.beq x y && bdF st k x with | true => some true | false => none
      | _ => none
    | _ => none
  | _ => none
def fork (c : Nat) (k : FloatKind) (a b : Nat) (st : ES) (kk : Bool → ES → Out) : Out :=
  match kk true (assume c k a b true st) with
  | .ok => kk false (assume c k a b false st)
  | x => x
def cmpOp (c : Nat) (k : FloatKind) (a b : Nat) (st : ES) (kk : Bool → ES → Out) : Out :=
  match dec c k a b st with
  | some v => kk v st
  | none => fork c k a b st kk

/-- the same bits, of two that are no NaN -/
def sameB (k : FloatKind) (a b : Nat) (st : ES) (kk : Bool → ES → Out) : Out :=
  match Nat.beq a b with
  | true => kk true st
  | false => match dOf st k a, dOf st k b with
    | some x, some y => kk (decide (x = y)) st
    | _, _ => match known 3 k a b st with
      | some v => kk v st
      | none => fork 3 k a b st kk

/-! Operations -/
def two (k : FloatKind) : Nat := match k with | .f32 => 0x40000000 | .f64 => 0x4000000000000000
def half (k : FloatKind) : Nat := match k with | .f32 => 0x3f000000 | .f64 => 0x3fe0000000000000
def mkBin (o : BO) (k : FloatKind) (a b : Nat) (st : ES) (kk : K1) : Out :=
  match dOf st k a, dOf st k b with
  | some x, some y => mkD k (o.den k x y) st kk
  | some none, _ => mkD k none st kk
  | _, some none => mkD k none st kk
  | _, some (some y) => match o with
    | .div => match Nat.beq y (two k) with
      | true => intern (.cst k (half k)) st fun h st => intern (.bin .mul k h a) st kk
      | false => intern (.bin .div k a b) st kk
    | o => intern (.bin o k a b) st kk
  | _, _ => intern (.bin o k a b) st kk
/-- a number that is not too great for a float32 -/
def wellNarrow (st : ES) (a : Nat) : Bool :=
  match node st a with
  | some (.un .sqrt .f64 b) => match node st b with | some (.un .widen .f32 _) => true | _ => (match bd st 64 .f64 a with | some e => Nat.ble e 127 | none => false)
  | some (.un .abs .f64 b) => match node st b with | some (.un .widen .f32 _) => true | _ => (match bd st 64 .f64 a with | some e => Nat.ble e 127 | none => false)
  | _ => match bd st 64 .f64 a with | some e => Nat.ble e 127 | none => false
def mkUn (o : UO) (k : FloatKind) (a : Nat) (st : ES) (kk : K1) : Out :=
  match dOf st k a with
  | some d => match o.den k d with
    | some r => mkD (o.kind k) r st kk
    | none => .bad "narrow const" st [a]
  | none => match o with
    | .narrow => match k with
      | .f64 => match wellNarrow st a with
        | true => intern (.un .narrow .f64 a) st kk
        | false => .bad "narrow" st [a]
      | .f32 => .bad "narrow f32" st [a]
    | .widen => match k with
      | .f32 => intern (.un .widen .f32 a) st kk
      | .f64 => .bad "widen f64" st [a]
    | o => intern (.un o k a) st kk

/-! Trees -/
abbrev KL := List SV → ES → Out
abbrev CallE := Nat → List SV → ES → KL → Out
def svR (env : Tr SV) : Rf → Option SV
  | .v j => env.get j
  | .b x => some (.b x)
  | .i k n => some (.i k n)
def svL (env : Tr SV) : List Rf → Option (List SV)
  | [] => some []
  | r :: rs => match svR env r with
    | some x => match svL env rs with | some xs => some (x :: xs) | none => none
    | none => none
def getSV (env : Tr SV) (k : FloatKind) (a : Nat) : Option Nat := match env.get a with
  | some (.f l i) => match fkEq l k with | true => some i | false => none
  | _ => none
def pushL : List SV → Tr SV → Nat → Tr SV
  | [], env, _ => env
  | v :: vs, env, n => pushL vs (env.set n v) (Nat.add n 1)
def runT (call : CallE) : T → Tr SV → Nat → ES → KL → Out
  | .ret vs, env, _, st, kk => match svL env vs with
    | some l => kk l st
    | none => .bad "ret" st []
  | .un o k a t, env, n, st, kk => match getSV env k a with
    | some i => mkUn o k i st fun j st => runT call t (env.set n (.f (o.kind k) j)) (Nat.add n 1) st kk
    | none => .bad "un" st []
  | .bin o k a b t, env, n, st, kk => match getSV env k a with
    | some i => match getSV env k b with
      | some j => mkBin o k i j st fun r st => runT call t (env.set n (.f k r)) (Nat.add n 1) st kk
      | none => .bad "bin" st []
    | none => .bad "bin" st []
  | .cst k b t, env, n, st, kk => mkD k (canon k b) st fun j st => runT call t (env.set n (.f k j)) (Nat.add n 1) st kk
  | .tst c k a b x y, env, n, st, kk => match getSV env k a with
    | some i => match getSV env k b with
      | some j => cmpOp c k i j st fun v st => match v with
        | true => runT call x env n st kk
        | false => runT call y env n st kk
      | none => .bad "tst" st []
    | none => .bad "tst" st []
  | .tsb k a b x y, env, n, st, kk => match getSV env k a with
    | some i => match getSV env k b with
      | some j => match nonNaN st k i && nonNaN st k j with
        | true => sameB k i j st fun v st => match v with
          | true => runT call x env n st kk
          | false => runT call y env n st kk
        | false => .bad "tsb NaN" st [i, j]
      | none => .bad "tsb" st []
    | none => .bad "tsb" st []
  | .call g args m t, env, n, st, kk => match svL env args with
    | some vs => call g vs st fun rs st => match Nat.beq rs.length m with
      | true => runT call t (pushL rs env n) (Nat.add n m) st kk
      | false => .bad "results" st []
    | none => .bad "call" st []
  | .br r x y, env, n, st, kk => match env.get r with
    | some (.b true) => runT call x env n st kk
    | some (.b false) => runT call y env n st kk
    | _ => .bad "br" st []
  | .sw r m x y, env, n, st, kk => match env.get r with
    | some (.i _ l) => match decide (l = m) with | true => runT call x env n st kk | false => runT call y env n st kk
    | _ => .bad "sw" st []
  | .bad w, _, _, st, _ => .bad w st []

/-! Calls -/
inductive Mode where
  | inl (t : T)
  /-- class, kinds of the arguments, results, is it a test for sameness -/
  | opq (c : Nat) (as : List FloatKind) (rs : List RK) (same : Bool)
  /-- a test of a class: where it is true its tree runs in place, for its facts; where it is false just that is known -/
  | opt (c : Nat) (as : List FloatKind) (t : T)
def svEq : SV → SV → Bool
  | .f k i, .f l j => match Nat.beq i j with | true => fkEq k l | false => false
  | .b x, .b y => x == y
  | .i k n, .i l m => match decide (n = m) with | true => decide (k = l) | false => false
  | _, _ => false
def svEqL : List SV → List SV → Bool
  | [], [] => true
  | x :: xs, y :: ys => match svEq x y with | true => svEqL xs ys | false => false
  | _, _ => false
def lookM (c : Nat) (vs : List SV) : List (Nat × List SV × List SV) → Option (List SV)
  | [] => none
  | (d, ws, rs) :: r => match Nat.beq c d with
    | true => (match svEqL vs ws with | true => some rs | false => lookM c vs r)
    | false => lookM c vs r
def kindsOk : List FloatKind → List SV → Bool
  | [], [] => true
  | k :: ks, .f l _ :: vs => match fkEq k l with | true => kindsOk ks vs | false => false
  | _, _ => false
def addInp (k : FloatKind) (st : ES) : ES := { st with nn := Nat.add st.nn 1, nodes := st.nodes.set st.nn (.inp k) }
def forkI (k : IntKind) (kk : SV → Out) : List Int → Out
  | [] => .ok
  | n :: ns => match kk (.i k n) with
    | .ok => forkI k kk ns
    | x => x
def freshL : List RK → ES → KL → Out
  | [], st, kk => kk [] st
  | .f k :: rs, st, kk => freshL rs (addInp k st) fun vs st' => kk (.f k st.nn :: vs) st'
  | .b :: rs, st, kk => match freshL rs st fun vs st' => kk (.b true :: vs) st' with
    | .ok => freshL rs st fun vs st' => kk (.b false :: vs) st'
    | x => x
  | .i k may :: rs, st, kk => forkI k (fun v => freshL rs st fun vs st' => kk (v :: vs) st') may
def sameArgs : List SV → Bool
  | [x, y] => svEq x y
  | _ => false
def callE (md : Nat → Mode) : Nat → CallE
  | 0, _, _, st, _ => .bad "depth" st []
  | n + 1, g, vs, st, kk => match md g with
    | .inl t => runT (callE md n) t (pushL vs .nil 0) vs.length st kk
    | .opq c as rs same => match kindsOk as vs with
      | false => .bad "args" st [g]
      | true => match same && sameArgs vs with
        | true => kk [.b true] st
        | false => match lookM c vs st.memo with
          | some ws => kk ws st
          | none => freshL rs st fun ws st' => kk ws { st' with memo := (c, vs, ws) :: st'.memo }
    | .opt c as t => match kindsOk as vs with
      | false => .bad "args" st [g]
      | true => match lookM c vs st.memo with
        | some ws => kk ws st
        | none => match kk [.b false] { st with memo := (c, vs, [.b false]) :: st.memo } with
          | .ok => runT (callE md n) t (pushL vs .nil 0) vs.length st fun ws st' => match ws with
            | [.b true] => kk [.b true] { st' with memo := (c, vs, [.b true]) :: st'.memo }
            | [.b false] => .ok
            | _ => .bad "opt" st' []
          | x => x

/-! Checks -/
def st0 : ES := ⟨0, .nil, .nil, .nil, []⟩
def inps : List FloatKind → ES → KL → Out
  | [], st, kk => kk [] st
  | k :: ks, st, kk => inps ks (addInp k st) fun vs st' => kk (.f k st.nn :: vs) st'
def isTrue : KL := fun vs st => match vs with
  | [.b true] => .ok
  | _ => .bad "false" st []
/-- a tree is always true -/
def chkLaw (md : Nat → Mode) (as : List FloatKind) (t : T) : Out :=
  inps as st0 fun vs st => runT (callE md 100) t (pushL vs .nil 0) vs.length st isTrue
def rkOk : List RK → List SV → Bool
  | [], [] => true
  | .f k :: rs, .f l _ :: vs => fkEq k l && rkOk rs vs
  | .b :: rs, .b _ :: vs => rkOk rs vs
  | .i k may :: rs, .i l n :: vs => decide (k = l) && may.contains n && rkOk rs vs
  | _, _ => false
/-- a tree has always results of this form -/
def chkRes (md : Nat → Mode) (as : List FloatKind) (rs : List RK) (t : T) : Out :=
  inps as st0 fun vs st => runT (callE md 100) t (pushL vs .nil 0) vs.length st fun ws st => match rkOk rs ws with | true => .ok | false => .bad "res" st []
/-- two trees have always the same results -/
def chkSame (md : Nat → Mode) (as : List FloatKind) (rs : List RK) (t u : T) : Out :=
  inps as st0 fun vs st => runT (callE md 100) t (pushL vs .nil 0) vs.length st fun ws st =>
    runT (callE md 100) u (pushL vs .nil 0) vs.length st fun xs st => match svEqL ws xs && rkOk rs ws with | true => .ok | false => .bad "differ" st []
/-- of two that are the same a tree is true -/
def chkRefl (md : Nat → Mode) (k : FloatKind) (t : T) : Out :=
  inps [k] st0 fun vs st => runT (callE md 100) t (pushL (vs ++ vs) .nil 0) 2 st isTrue
end Go.Proofs.YtejbahdihfnbcaaDoor.Sx

/- The engine's states and what they stand for. -/
namespace Go.Proofs.YtejbahdihfnbcaaDoor.Sx
open Go
set_option linter.unusedSimpArgs false
set_option linter.unusedVariables false

abbrev Val := Nat → Option Nat
def NdOk (nn : Nat) (ν : Val) : Nd → Option Nat → Prop
  | .inp _, _ => True
  | .cst _ b, d => d = some b
  | .nan _, d => d = none
  | .un o k a, d => a < nn ∧ o.den k (ν a) = some d
  | .bin o k a b, d => a < nn ∧ b < nn ∧ d = o.den k (ν a) (ν b)
def FactOk (nn : Nat) (ν : Val) (i : Nat) (f : Fact) : Prop :=
  i < nn ∧ f.o < nn ∧ cmp4 f.c f.k (match f.first with | true => ν i | false => ν f.o) (match f.first with | true => ν f.o | false => ν i) = f.v
def SVRel (nn : Nat) (ν : Val) : SV → Sc → Prop
  | .f k i, x => i < nn ∧ x = .f k (ν i)
  | .b v, x => x = .b v
  | .i k n, x => x = .i k n
def SVRels (nn : Nat) (ν : Val) : List SV → List Sc → Prop
  | [], xs => xs = []
  | v :: vs, xs => ∃ x xs', xs = x :: xs' ∧ SVRel nn ν v x ∧ SVRels nn ν vs xs'

abbrev Cls := Nat → List Sc → Option (List Sc)
structure Good (C : Cls) (st : ES) (ν : Val) : Prop where
  node : ∀ i nd, st.nodes.get i = some nd → i < st.nn ∧ NdOk st.nn ν nd (ν i)
  tab : ∀ h p, p ∈ bucket st h → st.nodes.get p.2 = some p.1
  fact : ∀ i f, f ∈ factsAt st i → FactOk st.nn ν i f
  memo : ∀ c vs ws, (c, vs, ws) ∈ st.memo → ∃ xs ys, SVRels st.nn ν vs xs ∧ SVRels st.nn ν ws ys ∧ C c xs = some ys
structure Le (st : ES) (ν : Val) (st' : ES) (ν' : Val) : Prop where
  nn : st.nn ≤ st'.nn
  eq : ∀ i, i < st.nn → ν' i = ν i
theorem Le.refl (st : ES) (ν : Val) : Le st ν st ν := ⟨Nat.le_refl _, fun _ _ => rfl⟩
theorem Le.trans {s1 s2 s3 : ES} {n1 n2 n3 : Val} (h : Le s1 n1 s2 n2) (k : Le s2 n2 s3 n3) : Le s1 n1 s3 n3 :=
  ⟨Nat.le_trans h.nn k.nn, fun i hi => by rw [k.eq i (Nat.lt_of_lt_of_le hi h.nn), h.eq i hi]⟩

theorem NdOk.mono {nn nn' : Nat} {ν ν' : Val} (hn : nn ≤ nn') (he : ∀ i, i < nn → ν' i = ν i) {nd : Nd} {d : Option Nat} (h : NdOk nn ν nd d) : NdOk nn' ν' nd d := by
  cases nd with
  | inp k => trivial
  | cst k b => exact h
  | nan k => exact h
  | un o k a => exact ⟨Nat.lt_of_lt_of_le h.1 hn, by rw [he a h.1]; exact h.2⟩
  | bin o k a b => exact ⟨Nat.lt_of_lt_of_le h.1 hn, Nat.lt_of_lt_of_le h.2.1 hn, by rw [he a h.1, he b h.2.1]; exact h.2.2⟩
theorem FactOk.mono {nn nn' : Nat} {ν ν' : Val} (hn : nn ≤ nn') (he : ∀ i, i < nn → ν' i = ν i) {i : Nat} {f : Fact} (h : FactOk nn ν i f) : FactOk nn' ν' i f :=
  ⟨Nat.lt_of_lt_of_le h.1 hn, Nat.lt_of_lt_of_le h.2.1 hn, by rw [he i h.1, he f.o h.2.1]; exact h.2.2⟩
theorem SVRel.mono {nn nn' : Nat} {ν ν' : Val} (hn : nn ≤ nn') (he : ∀ i, i < nn → ν' i = ν i) {v : SV} {x : Sc} (h : SVRel nn ν v x) : SVRel nn' ν' v x := by
  cases v with
  | f k i => exact ⟨Nat.lt_of_lt_of_le h.1 hn, by rw [he i h.1]; exact h.2⟩
  | b v => exact h
  | i k n => exact h
theorem SVRels.mono {nn nn' : Nat} {ν ν' : Val} (hn : nn ≤ nn') (he : ∀ i, i < nn → ν' i = ν i) : ∀ {vs : List SV} {xs : List Sc}, SVRels nn ν vs xs → SVRels nn' ν' vs xs
  | [], _, h => h
  | v :: vs, _, ⟨x, xs', e, h1, h2⟩ => ⟨x, xs', e, h1.mono hn he, SVRels.mono hn he h2⟩
theorem SVRels.len {nn : Nat} {ν : Val} : ∀ {vs : List SV} {xs : List Sc}, SVRels nn ν vs xs → xs.length = vs.length
  | [], _, h => by rw [show _ = [] from h]; rfl
  | v :: vs, _, ⟨x, xs', e, h1, h2⟩ => by rw [e]; simp [h2.len]
theorem SVRels.get {nn : Nat} {ν : Val} : ∀ {vs : List SV} {xs : List Sc}, SVRels nn ν vs xs → ∀ {j : Nat} {v : SV}, vs[j]? = some v → ∃ x, xs[j]? = some x ∧ SVRel nn ν v x
  | [], _, h, j, v, hv => by simp at hv
  | v :: vs, _, ⟨x, xs', e, h1, h2⟩, 0, w, hv => by simp at hv; subst hv; exact ⟨x, by rw [e]; rfl, h1⟩
  | v :: vs, _, ⟨x, xs', e, h1, h2⟩, j + 1, w, hv => by
    obtain ⟨y, hy, hr⟩ := h2.get (j := j) (v := w) (by simpa using hv)
    exact ⟨y, by rw [e]; simpa using hy, hr⟩
theorem SVRel.uniq {nn : Nat} {ν : Val} {v : SV} {x y : Sc} (h : SVRel nn ν v x) (k : SVRel nn ν v y) : x = y := by
  cases v with
  | f k i => exact h.2.trans k.2.symm
  | b v => exact Eq.trans h (Eq.symm k)
  | i k n => exact Eq.trans h (Eq.symm k)
theorem SVRels.uniq {nn : Nat} {ν : Val} : ∀ {vs : List SV} {xs ys : List Sc}, SVRels nn ν vs xs → SVRels nn ν vs ys → xs = ys
  | [], _, _, h, k => by rw [h, k]
  | v :: vs, _, _, ⟨x, xs', e, h1, h2⟩, ⟨y, ys', e', k1, k2⟩ => by rw [e, e', h1.uniq k1, h2.uniq k2]

theorem Good.ext {C : Cls} {st : ES} {ν ν' : Val} (h : Good C st ν) (he : ∀ i, i < st.nn → ν' i = ν i) : Good C st ν' := by
  refine ⟨fun i nd hi => ?_, h.tab, fun i f hf => (h.fact i f hf).mono (Nat.le_refl _) he, fun c vs ws hm => ?_⟩
  · obtain ⟨h1, h2⟩ := h.node i nd hi
    exact ⟨h1, by rw [he i h1]; exact h2.mono (Nat.le_refl _) he⟩
  · obtain ⟨xs, ys, h1, h2, h3⟩ := h.memo c vs ws hm
    exact ⟨xs, ys, h1.mono (Nat.le_refl _) he, h2.mono (Nat.le_refl _) he, h3⟩

def upd (ν : Val) (n : Nat) (d : Option Nat) : Val := fun i => if i = n then d else ν i
theorem upd_lt {ν : Val} {n : Nat} {d : Option Nat} : ∀ i, i < n → upd ν n d i = ν i := by
  intro i hi; unfold upd; rw [if_neg (by omega)]
theorem upd_at {ν : Val} {n : Nat} {d : Option Nat} : upd ν n d n = d := by unfold upd; rw [if_pos rfl]

/-- a new node -/
theorem Good.add {C : Cls} {st : ES} {ν : Val} (h : Good C st ν) {x : Nd} {d : Option Nat} (hx : NdOk st.nn ν x d) (tab : Tr (List (Nd × Nat)))
    (ht : ∀ h' p, p ∈ (match tab.get h' with | some l => l | none => []) → p = (x, st.nn) ∨ p ∈ bucket st h') :
    Good C { st with nn := Nat.add st.nn 1, nodes := st.nodes.set st.nn x, itab := tab } (upd ν st.nn d) := by
  have hle : st.nn ≤ Nat.add st.nn 1 := Nat.le_add_right _ _
  refine ⟨fun i nd hi => ?_, fun h' p hp => ?_, fun i f hf => (h.fact i f hf).mono hle upd_lt, fun c vs ws hm => ?_⟩
  · dsimp only at hi
    rw [Tr.get_set] at hi
    by_cases e : i = st.nn
    · subst e
      rw [if_pos rfl] at hi; cases hi
      exact ⟨Nat.lt_succ_self _, by rw [upd_at]; exact hx.mono hle upd_lt⟩
    · rw [if_neg e] at hi
      obtain ⟨h1, h2⟩ := h.node i nd hi
      exact ⟨Nat.lt_of_lt_of_le h1 hle, by rw [upd_lt i h1]; exact h2.mono hle upd_lt⟩
  · show (st.nodes.set st.nn x).get p.2 = some p.1
    rw [Tr.get_set]
    rcases ht h' p hp with rfl | hp
    · simp
    · have := h.tab h' p hp
      have hlt := (h.node _ _ this).1
      rw [if_neg (by omega)]; exact this
  · obtain ⟨xs, ys, h1, h2, h3⟩ := h.memo c vs ws hm
    exact ⟨xs, ys, h1.mono hle upd_lt, h2.mono hle upd_lt, h3⟩
theorem Good.addNd {C : Cls} {st : ES} {ν : Val} (h : Good C st ν) {x : Nd} {d : Option Nat} (hx : NdOk st.nn ν x d) : Good C (addNd x st) (upd ν st.nn d) := by
  refine h.add hx _ fun h' p hp => ?_
  rw [Tr.get_set] at hp
  by_cases e : h' = hashNd x
  · subst e
    rw [if_pos rfl] at hp
    rcases List.mem_cons.1 hp with hp | hp
    · exact .inl hp
    · exact .inr hp
  · rw [if_neg e] at hp
    exact .inr hp
theorem Good.addInp {C : Cls} {st : ES} {ν : Val} (h : Good C st ν) (k : FloatKind) (d : Option Nat) : Good C (addInp k st) (upd ν st.nn d) :=
  h.add (x := .inp k) trivial _ fun h' p hp => .inr hp

theorem fkE_eq {a b : FloatKind} (h : fkEq a b = true) : a = b := by
  cases a <;> cases b <;> first | rfl | simp [fkEq] at h
theorem ndEq_eq {x y : Nd} (h : ndEq x y = true) : x = y := by
  cases x <;> cases y <;> unfold ndEq at h <;> (try (cases h; done))
  case cst k b l c =>
    dsimp only at h
    split at h
    · rename_i e; rw [fkE_eq e, Nat.eq_of_beq_eq_true h]
    · cases h
  case nan k l => rw [fkE_eq h]
  case un o k a p l b =>
    dsimp only at h
    split at h
    · rename_i e1
      split at h
      · rename_i e2
        rw [fkE_eq h, Nat.eq_of_beq_eq_true e1]
        congr
        have := Nat.eq_of_beq_eq_true e2
        cases o <;> cases p <;> first | rfl | simp [uoN] at this
      · cases h
    · cases h
  case bin o k a b p l c d =>
    dsimp only at h
    split at h
    · rename_i e1
      split at h
      · rename_i e3
        split at h
        · rename_i e2
          rw [fkE_eq h, Nat.eq_of_beq_eq_true e1, Nat.eq_of_beq_eq_true e3]
          congr
          have := Nat.eq_of_beq_eq_true e2
          cases o <;> cases p <;> first | rfl | simp [boN] at this
        · cases h
      · cases h
    · cases h
theorem findNd_ok {x : Nd} : ∀ {l : List (Nd × Nat)} {i : Nat}, findNd x l = some i → (x, i) ∈ l
  | [], i, h => by simp [findNd] at h
  | (y, j) :: r, i, h => by
    unfold findNd at h
    split at h
    · rename_i e; rw [ndEq_eq e]; cases h; exact List.mem_cons_self
    · exact List.mem_cons_of_mem _ (findNd_ok h)
theorem lookNd_ok {C : Cls} {st : ES} {ν : Val} (hg : Good C st ν) {x : Nd} {i : Nat} (h : lookNd x st = some i) : i < st.nn ∧ NdOk st.nn ν x (ν i) := by
  have := hg.tab _ _ (findNd_ok h)
  exact hg.node _ _ this
theorem node_ok {C : Cls} {st : ES} {ν : Val} (hg : Good C st ν) {x : Nd} {i : Nat} (h : node st i = some x) : i < st.nn ∧ NdOk st.nn ν x (ν i) := hg.node _ _ h

/-- what a continuation gets -/
def Got (C : Cls) (st : ES) (ν : Val) (d : Option Nat) (kk : K1) : Prop :=
  ∃ i st' ν', kk i st' = .ok ∧ Good C st' ν' ∧ Le st ν st' ν' ∧ i < st'.nn ∧ ν' i = d
theorem NdOk.det {nn : Nat} {ν : Val} {x : Nd} {d d' : Option Nat} (hx : ∀ k, x ≠ .inp k) (h : NdOk nn ν x d) (k : NdOk nn ν x d') : d = d' := by
  cases x with
  | inp l => exact absurd rfl (hx l)
  | cst l b => exact Eq.trans h (Eq.symm k)
  | nan l => exact Eq.trans h (Eq.symm k)
  | un o l a => have := h.2.symm.trans k.2; simpa using this
  | bin o l a b => exact h.2.2.trans k.2.2.symm
theorem intern_ok {C : Cls} {st : ES} {ν : Val} (hg : Good C st ν) {x : Nd} {d : Option Nat} {kk : K1} (hn : ∀ k, x ≠ .inp k) (hx : NdOk st.nn ν x d) (h : intern x st kk = .ok) : Got C st ν d kk := by
  unfold intern at h
  split at h
  · rename_i i e
    obtain ⟨h1, h2⟩ := lookNd_ok hg e
    exact ⟨i, st, ν, h, hg, Le.refl _ _, h1, h2.det hn hx⟩
  · exact ⟨st.nn, addNd x st, upd ν st.nn d, h, hg.addNd hx, ⟨Nat.le_add_right _ _, upd_lt⟩, Nat.lt_succ_self _, upd_at⟩
theorem mkD_ok {C : Cls} {st : ES} {ν : Val} (hg : Good C st ν) {k : FloatKind} {d : Option Nat} {kk : K1} (h : mkD k d st kk = .ok) : Got C st ν d kk := by
  unfold mkD at h
  cases d with
  | some b => exact intern_ok hg (x := .cst k b) (by simp) rfl h
  | none => exact intern_ok hg (x := .nan k) (by simp) rfl h
theorem dOf_ok {C : Cls} {st : ES} {ν : Val} (hg : Good C st ν) {k : FloatKind} {i : Nat} {d : Option Nat} (h : dOf st k i = some d) : ν i = d := by
  unfold dOf at h
  split at h
  · rename_i l b e
    split at h
    · cases h; exact (node_ok hg e).2
    · cases h
  · rename_i l e
    split at h
    · cases h; exact (node_ok hg e).2
    · cases h
  · cases h
theorem cstOf_ok {C : Cls} {st : ES} {ν : Val} (hg : Good C st ν) {k : FloatKind} {i b : Nat} (h : cstOf st k i = some b) : ν i = some b := by
  unfold cstOf at h
  split at h
  · rename_i l b e
    split at h
    · cases h; exact (node_ok hg e).2
    · cases h
  · cases h

/-! Facts -/
theorem lookF_ok {c : Nat} {k : FloatKind} {o : Nat} {first v : Bool} : ∀ {l : List Fact}, lookF c k o first l = some v → ⟨c, k, o, first, v⟩ ∈ l
  | [], h => by simp [lookF] at h
  | f :: r, h => by
    unfold lookF at h
    split at h
    · exact List.mem_cons_of_mem _ (lookF_ok h)
    · rename_i e1
      split at h
      · exact List.mem_cons_of_mem _ (lookF_ok h)
      · rename_i e2
        split at h
        · rename_i e3
          simp only [Bool.and_eq_true, beq_iff_eq] at e3
          have := fkE_eq e3.2
          cases h
          obtain ⟨c', k', o', f', v'⟩ := f
          simp at e1 e2 e3 this
          obtain ⟨rfl, _⟩ := e3
          subst e1 e2 this
          exact List.mem_cons_self
        · exact List.mem_cons_of_mem _ (lookF_ok h)
theorem known_ok {C : Cls} {st : ES} {ν : Val} (hg : Good C st ν) {c : Nat} {k : FloatKind} {a b : Nat} {v : Bool} (h : known c k a b st = some v) : cmp4 c k (ν a) (ν b) = v := by
  unfold known at h
  split at h
  · exact (hg.fact _ _ (lookF_ok h)).2.2
  · exact (hg.fact _ _ (lookF_ok h)).2.2
theorem factsAt_addF (i : Nat) (f : Fact) (st : ES) (j : Nat) : factsAt (addF i f st) j = if j = i then f :: factsAt st i else factsAt st j := by
  show (match (st.facts.set i (f :: factsAt st i)).get j with | some l => l | none => []) = _
  rw [Tr.get_set]
  by_cases e : j = i
  · rw [if_pos e, if_pos e]
  · rw [if_neg e, if_neg e]; rfl
theorem Good.addF {C : Cls} {st : ES} {ν : Val} (hg : Good C st ν) {i : Nat} {f : Fact} (hf : FactOk st.nn ν i f) : Good C (addF i f st) ν := by
  refine ⟨hg.node, hg.tab, fun j g hj => ?_, hg.memo⟩
  rw [factsAt_addF] at hj
  by_cases e : j = i
  · subst e
    rw [if_pos rfl] at hj
    rcases List.mem_cons.1 hj with rfl | hj
    · exact hf
    · exact hg.fact _ _ hj
  · rw [if_neg e] at hj
    exact hg.fact _ _ hj
theorem assume_ok {C : Cls} {st : ES} {ν : Val} (hg : Good C st ν) {c : Nat} {k : FloatKind} {a b : Nat} (ha : a < st.nn) (hb : b < st.nn) {v : Bool} (h : cmp4 c k (ν a) (ν b) = v) :
    Good C (assume c k a b v st) ν ∧ (assume c k a b v st).nn = st.nn := by
  have h1 : ∀ s : ES, Good C s ν → s.nn = st.nn → Good C (Sx.addF a ⟨c, k, b, true, v⟩ s) ν := fun s hs hn => hs.addF ⟨by rw [hn]; exact ha, by rw [hn]; exact hb, h⟩
  have h2 : ∀ s : ES, Good C s ν → s.nn = st.nn → Good C (Sx.addF b ⟨c, k, a, false, v⟩ s) ν := fun s hs hn => hs.addF ⟨by rw [hn]; exact hb, by rw [hn]; exact ha, h⟩
  unfold assume
  split <;> split
  · exact ⟨hg, rfl⟩
  · exact ⟨h2 _ hg rfl, rfl⟩
  · exact ⟨h1 _ hg rfl, rfl⟩
  · exact ⟨h2 _ (h1 _ hg rfl) rfl, rfl⟩

def GotB (C : Cls) (st : ES) (ν : Val) (v : Bool) (kk : Bool → ES → Out) : Prop :=
  ∃ st', kk v st' = .ok ∧ Good C st' ν ∧ st'.nn = st.nn
theorem fork_ok {C : Cls} {st : ES} {ν : Val} (hg : Good C st ν) {c : Nat} {k : FloatKind} {a b : Nat} (ha : a < st.nn) (hb : b < st.nn) {kk : Bool → ES → Out} (h : fork c k a b st kk = .ok) :
    GotB C st ν (cmp4 c k (ν a) (ν b)) kk := by
  unfold fork at h
  split at h
  · rename_i e
    cases hv : cmp4 c k (ν a) (ν b) with
    | true => obtain ⟨h1, h2⟩ := assume_ok hg ha hb hv; exact ⟨_, e, h1, h2⟩
    | false => obtain ⟨h1, h2⟩ := assume_ok hg ha hb hv; exact ⟨_, h, h1, h2⟩
  · rename_i hne
    exact absurd h hne
end Go.Proofs.YtejbahdihfnbcaaDoor.Sx

/- The engine is sound: what it finds true of a tree is true of it. -/
namespace Go.Proofs.YtejbahdihfnbcaaDoor.Sx
open Go
set_option linter.unusedSimpArgs false
set_option linter.unusedVariables false

/-- what is asked of the rules for floats -/
structure Rules : Prop where
  dec : ∀ {C : Cls} {st : ES} {ν : Val} {c : Nat} {k : FloatKind} {a b : Nat} {v : Bool}, Good C st ν → c < 3 → dec c k a b st = some v → cmpD c k (ν a) (ν b) = v
  nonNaN : ∀ {C : Cls} {st : ES} {ν : Val} {k : FloatKind} {a : Nat}, Good C st ν → nonNaN st k a = true → ∃ b, ν a = some b
  half : ∀ (k : FloatKind) (d : Option Nat), BO.mul.den k (some (half k)) d = BO.div.den k d (some (two k))
  wide : ∀ d : Option Nat, ∃ r, UO.widen.den .f32 d = some r
  well : ∀ {C : Cls} {st : ES} {ν : Val} {a : Nat}, Good C st ν → wellNarrow st a = true → ∃ r, UO.narrow.den .f64 (ν a) = some r

section
variable {C : Cls} {G : Nat → List Sc → Option (List Sc)} {st : ES} {ν : Val}

theorem cmpOp_ok (R : Rules) (hg : Good C st ν) {c : Nat} (hc : c < 3) {k : FloatKind} {a b : Nat} (ha : a < st.nn) (hb : b < st.nn) {kk : Bool → ES → Out} (h : cmpOp c k a b st kk = .ok) :
    GotB C st ν (cmpD c k (ν a) (ν b)) kk := by
  unfold cmpOp at h
  split at h
  · rename_i v e
    rw [R.dec hg hc e]
    exact ⟨st, h, hg, rfl⟩
  · have := fork_ok hg ha hb h
    have e : cmp4 c k (ν a) (ν b) = cmpD c k (ν a) (ν b) := by
      match c, hc with
      | 0, _ => rfl
      | 1, _ => rfl
      | 2, _ => rfl
    rw [e] at this; exact this

theorem sameB_ok (hg : Good C st ν) {k : FloatKind} {a b : Nat} (ha : a < st.nn) (hb : b < st.nn) {kk : Bool → ES → Out} (h : sameB k a b st kk = .ok) :
    GotB C st ν (decide (ν a = ν b)) kk := by
  unfold sameB at h
  split at h
  · rename_i e
    have := Nat.eq_of_beq_eq_true e; subst this
    exact ⟨st, by simpa using h, hg, rfl⟩
  · split at h
    · rename_i x y e1 e2
      rw [dOf_ok hg e1, dOf_ok hg e2]
      exact ⟨st, h, hg, rfl⟩
    · split at h
      · rename_i v e
        have := known_ok hg e
        rw [show decide (ν a = ν b) = v from this]
        exact ⟨st, h, hg, rfl⟩
      · exact fork_ok hg ha hb h

theorem Got.of_intern (hg : Good C st ν) {x : Nd} {d : Option Nat} {kk : K1} (hn : ∀ k, x ≠ .inp k) (hx : NdOk st.nn ν x d) (h : intern x st kk = .ok) : Got C st ν d kk := intern_ok hg hn hx h

theorem mkBin_ok (R : Rules) (hg : Good C st ν) {o : BO} {k : FloatKind} {a b : Nat} (ha : a < st.nn) (hb : b < st.nn) {kk : K1} (h : mkBin o k a b st kk = .ok) : Got C st ν (o.den k (ν a) (ν b)) kk := by
  have main : ∀ {kk : K1}, intern (.bin o k a b) st kk = .ok → Got C st ν (o.den k (ν a) (ν b)) kk := fun h => intern_ok hg (x := .bin o k a b) (by simp) ⟨ha, hb, rfl⟩ h
  unfold mkBin at h
  split at h
  · rename_i x y e1 e2
    rw [dOf_ok hg e1, dOf_ok hg e2]
    exact mkD_ok hg h
  · rename_i e1 _
    rw [dOf_ok hg e1]
    exact mkD_ok hg h
  · rename_i e1 _ 
    rw [dOf_ok hg e1]
    have : o.den k (ν a) none = none := by cases ν a <;> rfl
    rw [this]
    exact mkD_ok hg h
  · rename_i y e2 _
    split at h
    · split at h
      · rename_i e3
        have := Nat.eq_of_beq_eq_true e3; subst this
        obtain ⟨i, st', ν', h1, g1, l1, i1, v1⟩ := intern_ok hg (x := .cst k (half k)) (by simp) rfl h
        obtain ⟨j, st2, ν2, h2, g2, l2, i2, v2⟩ := intern_ok g1 (x := .bin .mul k i a) (by simp) ⟨i1, Nat.lt_of_lt_of_le ha l1.nn, rfl⟩ h1
        refine ⟨j, st2, ν2, h2, g2, l1.trans l2, i2, ?_⟩
        rw [v2, v1, l1.eq a ha, dOf_ok hg e2, R.half]
      · exact main h
    · exact main h
  · exact main h

theorem mkUn_ok (R : Rules) (hg : Good C st ν) {o : UO} {k : FloatKind} {a : Nat} (ha : a < st.nn) {kk : K1} (h : mkUn o k a st kk = .ok) : ∃ d, o.den k (ν a) = some d ∧ Got C st ν d kk := by
  unfold mkUn at h
  split at h
  · rename_i d e
    rw [dOf_ok hg e]
    split at h
    · rename_i r er
      exact ⟨r, er, mkD_ok hg h⟩
    · cases h
  · have main : ∀ {o : UO} {k : FloatKind} {r : Option Nat}, o.den k (ν a) = some r → intern (.un o k a) st kk = .ok → ∃ d, o.den k (ν a) = some d ∧ Got C st ν d kk :=
      fun {o k r} hr h => ⟨_, hr, intern_ok hg (x := .un o k a) (by simp) ⟨ha, hr⟩ h⟩
    have tot : ∀ {o : UO} {k : FloatKind}, (∀ b, ∃ r, o.fn k b = some r) → ∃ r, o.den k (ν a) = some r := by
      intro o k hf
      cases ν a with
      | none => exact ⟨none, rfl⟩
      | some b => exact hf b
    split at h
    · split at h
      · split at h
        · rename_i e
          obtain ⟨r, hr⟩ := R.well hg e
          exact main hr h
        · cases h
      · cases h
    · split at h
      · obtain ⟨r, hr⟩ := R.wide (ν a)
        exact main hr h
      · cases h
    · rename_i hn hw
      cases o with
      | neg => obtain ⟨r, hr⟩ := tot (o := .neg) (k := k) fun b => ⟨_, rfl⟩; exact main hr h
      | widen => exact absurd rfl hw
      | narrow => exact absurd rfl hn
      | sqrt => obtain ⟨r, hr⟩ := tot (o := .sqrt) (k := k) fun b => ⟨_, rfl⟩; exact main hr h
      | rte => obtain ⟨r, hr⟩ := tot (o := .rte) (k := k) fun b => ⟨_, rfl⟩; exact main hr h
      | abs => obtain ⟨r, hr⟩ := tot (o := .abs) (k := k) fun b => ⟨_, rfl⟩; exact main hr h
end

/-! Environments -/
theorem svf {nn : Nat} {ν : Val} {k : FloatKind} {i : Nat} {d : Option Nat} (h : i < nn) (e : ν i = d) : SVRel nn ν (.f k i) (.f k d) := ⟨h, by rw [e]⟩
def EnvOk (nn : Nat) (ν : Val) (env : Tr SV) (xs : List Sc) : Prop := ∀ j v, env.get j = some v → ∃ x, xs[j]? = some x ∧ SVRel nn ν v x
theorem EnvOk.mono {nn nn' : Nat} {ν ν' : Val} (hn : nn ≤ nn') (he : ∀ i, i < nn → ν' i = ν i) {env : Tr SV} {xs : List Sc} (h : EnvOk nn ν env xs) : EnvOk nn' ν' env xs := by
  intro j v hv
  obtain ⟨x, hx, hr⟩ := h j v hv
  exact ⟨x, hx, hr.mono hn he⟩
theorem EnvOk.push {nn : Nat} {ν : Val} {env : Tr SV} {xs : List Sc} (h : EnvOk nn ν env xs) {v : SV} {x : Sc} (hv : SVRel nn ν v x) : EnvOk nn ν (env.set xs.length v) (xs ++ [x]) := by
  intro j w hw
  rw [Tr.get_set] at hw
  by_cases e : j = xs.length
  · subst e
    rw [if_pos rfl] at hw; cases hw
    exact ⟨x, by simp, hv⟩
  · rw [if_neg e] at hw
    obtain ⟨y, hy, hr⟩ := h j w hw
    refine ⟨y, ?_, hr⟩
    have := (List.getElem?_eq_some_iff.1 hy).1
    rw [List.getElem?_append_left this]; exact hy
theorem EnvOk.pushL {nn : Nat} {ν : Val} : ∀ {vs : List SV} {ys : List Sc} {env : Tr SV} {xs : List Sc}, EnvOk nn ν env xs → SVRels nn ν vs ys → EnvOk nn ν (pushL vs env xs.length) (xs ++ ys)
  | [], ys, env, xs, h, hv => by rw [show ys = [] from hv]; simpa [Sx.pushL] using h
  | v :: vs, _, env, xs, h, ⟨y, ys', e, h1, h2⟩ => by
    unfold Sx.pushL
    have := (h.push h1).pushL h2
    simp at this
    rw [e]; exact this
theorem EnvOk.nil {nn : Nat} {ν : Val} : EnvOk nn ν .nil [] := by intro j v h; simp [Tr.get] at h
theorem svR_ok {nn : Nat} {ν : Val} {env : Tr SV} {xs : List Sc} (h : EnvOk nn ν env xs) {r : Rf} {v : SV} (hv : svR env r = some v) : ∃ x, r.den xs = some x ∧ SVRel nn ν v x := by
  cases r with
  | v j => exact h j v hv
  | b x => simp [svR] at hv; subst hv; exact ⟨_, rfl, rfl⟩
  | i k n => simp [svR] at hv; subst hv; exact ⟨_, rfl, rfl⟩
theorem svL_ok {nn : Nat} {ν : Val} {env : Tr SV} {xs : List Sc} (h : EnvOk nn ν env xs) : ∀ {rs : List Rf} {vs : List SV}, svL env rs = some vs → ∃ ys, denL xs rs = some ys ∧ SVRels nn ν vs ys
  | [], vs, hv => by simp [svL] at hv; subst hv; exact ⟨[], rfl, rfl⟩
  | r :: rs, vs, hv => by
    unfold svL at hv
    split at hv
    · rename_i x e
      split at hv
      · rename_i ys e2
        cases hv
        obtain ⟨y, h1, h2⟩ := svR_ok h e
        obtain ⟨zs, h3, h4⟩ := svL_ok h e2
        exact ⟨y :: zs, by simp [denL, h1, h3], y, zs, rfl, h2, h4⟩
      · cases hv
    · cases hv
theorem getSV_ok {nn : Nat} {ν : Val} {env : Tr SV} {xs : List Sc} (h : EnvOk nn ν env xs) {k : FloatKind} {a i : Nat} (hv : getSV env k a = some i) : i < nn ∧ getF xs k a = some (ν i) := by
  unfold getSV at hv
  split at hv
  · rename_i l j e
    split at hv
    · rename_i e2
      cases hv
      obtain ⟨x, hx, h1, rfl⟩ := h a _ e
      refine ⟨h1, ?_⟩
      unfold getF
      rw [hx, fkE_eq e2]; simp
    · cases hv
  · cases hv

def GotL (C : Cls) (st : ES) (ν : Val) (ys : List Sc) (kk : KL) : Prop :=
  ∃ ws st' ν', kk ws st' = .ok ∧ Good C st' ν' ∧ Le st ν st' ν' ∧ SVRels st'.nn ν' ws ys
def CallEOk (C : Cls) (G : Nat → List Sc → Option (List Sc)) (call : CallE) : Prop :=
  ∀ g vs st kk ν xs, call g vs st kk = .ok → Good C st ν → SVRels st.nn ν vs xs → ∃ ys, G g xs = some ys ∧ GotL C st ν ys kk

/-- tests with a number below 3 -/
def T.testsOk : T → Bool
  | .un _ _ _ t | .bin _ _ _ _ t | .cst _ _ t | .call _ _ _ t => t.testsOk
  | .tst c _ _ _ x y => Nat.blt c 3 && x.testsOk && y.testsOk
  | .tsb _ _ _ x y | .br _ x y | .sw _ _ x y => x.testsOk && y.testsOk
  | _ => true

theorem runT_ok {C : Cls} {G : Nat → List Sc → Option (List Sc)} (R : Rules) {call : CallE} (hcall : CallEOk C G call) : ∀ (t : T) {env : Tr SV} {st : ES} {kk : KL} {ν : Val} {xs : List Sc}, t.testsOk = true →
    runT call t env xs.length st kk = .ok → Good C st ν → EnvOk st.nn ν env xs → ∃ ys, t.den G xs = some ys ∧ GotL C st ν ys kk := by
  intro t
  induction t with
  | ret vs =>
    intro env st kk ν xs ht h hg he
    unfold runT at h
    split at h
    · rename_i l e
      obtain ⟨ys, h1, h2⟩ := svL_ok he e
      exact ⟨ys, h1, l, st, ν, h, hg, Le.refl _ _, h2⟩
    · cases h
  | un o k a t ih =>
    intro env st kk ν xs ht h hg he
    unfold runT at h
    split at h
    · rename_i i e
      obtain ⟨hi, hd⟩ := getSV_ok he e
      obtain ⟨d, h1, j, st', ν', h2, g2, l2, j2, v2⟩ := mkUn_ok R hg hi h
      have := ih (xs := xs ++ [.f (o.kind k) d]) (st := st') (ν := ν') ht (by simpa using h2) g2 ((he.mono l2.nn l2.eq).push (svf j2 v2))
      obtain ⟨ys, h3, ws, st3, ν3, h4, g4, l4, r4⟩ := this
      refine ⟨ys, ?_, ws, st3, ν3, h4, g4, l2.trans l4, r4⟩
      simp only [T.den, hd, h1]; exact h3
    · cases h
  | bin o k a b t ih =>
    intro env st kk ν xs ht h hg he
    unfold runT at h
    split at h
    · rename_i i e
      split at h
      · rename_i j e2
        obtain ⟨hi, hd⟩ := getSV_ok he e
        obtain ⟨hj, hd2⟩ := getSV_ok he e2
        obtain ⟨r, st', ν', h2, g2, l2, j2, v2⟩ := mkBin_ok R hg hi hj h
        have := ih (xs := xs ++ [.f k (o.den k (ν i) (ν j))]) (st := st') (ν := ν') ht (by simpa using h2) g2 ((he.mono l2.nn l2.eq).push (svf j2 v2))
        obtain ⟨ys, h3, ws, st3, ν3, h4, g4, l4, r4⟩ := this
        refine ⟨ys, ?_, ws, st3, ν3, h4, g4, l2.trans l4, r4⟩
        simp only [T.den, hd, hd2]; exact h3
      · cases h
    · cases h
  | cst k b t ih =>
    intro env st kk ν xs ht h hg he
    unfold runT at h
    obtain ⟨r, st', ν', h2, g2, l2, j2, v2⟩ := mkD_ok hg h
    have := ih (xs := xs ++ [.f k (canon k b)]) (st := st') (ν := ν') ht (by simpa using h2) g2 ((he.mono l2.nn l2.eq).push (svf j2 v2))
    obtain ⟨ys, h3, ws, st3, ν3, h4, g4, l4, r4⟩ := this
    exact ⟨ys, by simp only [T.den]; exact h3, ws, st3, ν3, h4, g4, l2.trans l4, r4⟩
  | tst c k a b x y ihx ihy =>
    intro env st kk ν xs ht h hg he
    simp only [T.testsOk, Bool.and_eq_true, Nat.blt_eq] at ht
    unfold runT at h
    split at h
    · rename_i i e
      split at h
      · rename_i j e2
        obtain ⟨hi, hd⟩ := getSV_ok he e
        obtain ⟨hj, hd2⟩ := getSV_ok he e2
        obtain ⟨st', h2, g2, n2⟩ := cmpOp_ok R hg ht.1.1 hi hj h
        have l2 : Le st ν st' ν := ⟨by omega, fun _ _ => rfl⟩
        cases hv : cmpD c k (ν i) (ν j) with
        | true =>
          rw [hv] at h2
          obtain ⟨ys, h3, ws, st3, ν3, h4, g4, l4, r4⟩ := ihx ht.1.2 h2 g2 (he.mono l2.nn l2.eq)
          exact ⟨ys, by simp only [T.den, hd, hd2, hv]; exact h3, ws, st3, ν3, h4, g4, l2.trans l4, r4⟩
        | false =>
          rw [hv] at h2
          obtain ⟨ys, h3, ws, st3, ν3, h4, g4, l4, r4⟩ := ihy ht.2 h2 g2 (he.mono l2.nn l2.eq)
          exact ⟨ys, by simp only [T.den, hd, hd2, hv]; exact h3, ws, st3, ν3, h4, g4, l2.trans l4, r4⟩
      · cases h
    · cases h
  | tsb k a b x y ihx ihy =>
    intro env st kk ν xs ht h hg he
    simp only [T.testsOk, Bool.and_eq_true] at ht
    unfold runT at h
    split at h
    · rename_i i e
      split at h
      · rename_i j e2
        split at h
        · rename_i e3
          rw [Bool.and_eq_true] at e3
          obtain ⟨hi, hd⟩ := getSV_ok he e
          obtain ⟨hj, hd2⟩ := getSV_ok he e2
          obtain ⟨p, hp⟩ := R.nonNaN hg e3.1
          obtain ⟨q, hq⟩ := R.nonNaN hg e3.2
          obtain ⟨st', h2, g2, n2⟩ := sameB_ok hg hi hj h
          have l2 : Le st ν st' ν := ⟨by omega, fun _ _ => rfl⟩
          have hv : decide (ν i = ν j) = Nat.beq p q := by
            rw [hp, hq]
            by_cases e : p = q
            · subst e; simp
            · rw [decide_eq_false (by simpa using e)]
              cases e2 : Nat.beq p q with
              | true => exact absurd (Nat.eq_of_beq_eq_true e2) e
              | false => rfl
          rw [hv] at h2
          rw [hp] at hd
          rw [hq] at hd2
          cases hv : Nat.beq p q with
          | true =>
            rw [hv] at h2
            obtain ⟨ys, h3, ws, st3, ν3, h4, g4, l4, r4⟩ := ihx ht.1 h2 g2 (he.mono l2.nn l2.eq)
            exact ⟨ys, by simp only [T.den, hd, hd2, hv]; exact h3, ws, st3, ν3, h4, g4, l2.trans l4, r4⟩
          | false =>
            rw [hv] at h2
            obtain ⟨ys, h3, ws, st3, ν3, h4, g4, l4, r4⟩ := ihy ht.2 h2 g2 (he.mono l2.nn l2.eq)
            exact ⟨ys, by simp only [T.den, hd, hd2, hv]; exact h3, ws, st3, ν3, h4, g4, l2.trans l4, r4⟩
        · cases h
      · cases h
    · cases h
  | call g args m t ih =>
    intro env st kk ν xs ht h hg he
    unfold runT at h
    split at h
    · rename_i vs e
      obtain ⟨ys, h1, h2⟩ := svL_ok he e
      obtain ⟨rs, h3, ws, st', ν', h4, g4, l4, r4⟩ := hcall _ _ _ _ _ _ h hg h2
      dsimp only at h4
      split at h4
      · rename_i hm
        have hm := Nat.eq_of_beq_eq_true hm
        have hlen : rs.length = m := by rw [r4.len, hm]
        have := ih (xs := xs ++ rs) (env := pushL ws env xs.length) (st := st') (ν := ν') ht (by rw [List.length_append, hlen]; exact h4) g4 ((he.mono l4.nn l4.eq).pushL r4)
        obtain ⟨ys', h5, ws', st3, ν3, h6, g6, l6, r6⟩ := this
        exact ⟨ys', by simp only [T.den, h1, h3, hlen, if_pos]; exact h5, ws', st3, ν3, h6, g6, l4.trans l6, r6⟩
      · cases h4
    · cases h
  | br r x y ihx ihy =>
    intro env st kk ν xs ht h hg he
    simp only [T.testsOk, Bool.and_eq_true] at ht
    unfold runT at h
    split at h
    · rename_i e
      obtain ⟨v, hv, hr⟩ := he _ _ e
      rw [show v = .b true from hr] at hv
      obtain ⟨ys, h3, h4⟩ := ihx ht.1 h hg he
      exact ⟨ys, by simp only [T.den, hv]; exact h3, h4⟩
    · rename_i e
      obtain ⟨v, hv, hr⟩ := he _ _ e
      rw [show v = .b false from hr] at hv
      obtain ⟨ys, h3, h4⟩ := ihy ht.2 h hg he
      exact ⟨ys, by simp only [T.den, hv]; exact h3, h4⟩
    · cases h
  | sw r n x y ihx ihy =>
    intro env st kk ν xs ht h hg he
    simp only [T.testsOk, Bool.and_eq_true] at ht
    unfold runT at h
    split at h
    · rename_i k l e
      obtain ⟨v, hv, hr⟩ := he _ _ e
      rw [show v = .i k l from hr] at hv
      split at h
      · rename_i e2
        have e2 := of_decide_eq_true e2
        obtain ⟨ys, h3, h4⟩ := ihx ht.1 h hg he
        exact ⟨ys, by simp only [T.den, hv, e2, if_pos]; exact h3, h4⟩
      · rename_i e2
        have e2 := of_decide_eq_false e2
        obtain ⟨ys, h3, h4⟩ := ihy ht.2 h hg he
        exact ⟨ys, by simp only [T.den, hv, e2, if_neg, not_false_eq_true]; exact h3, h4⟩
    · cases h
  | bad w =>
    intro env st kk ν xs ht h hg he
    simp [runT] at h

/-! Calls -/
def SVRelR (q : RK) (x : Sc) : Prop := match q with
  | .f k => ∃ d, x = .f k d
  | .b => ∃ v, x = .b v
  | .i k may => ∃ n, x = .i k n ∧ n ∈ may
def ResFit : List RK → List Sc → Prop
  | [], xs => xs = []
  | q :: qs, xs => ∃ x xs', xs = x :: xs' ∧ SVRelR q x ∧ ResFit qs xs'
def ArgFit : List FloatKind → List Sc → Prop
  | [], xs => xs = []
  | k :: ks, xs => ∃ d xs', xs = .f k d :: xs' ∧ ArgFit ks xs'
structure ModeOk (C : Cls) (G : Nat → List Sc → Option (List Sc)) (g : Nat) (m : Mode) : Prop where
  inl : ∀ t, m = .inl t → t.testsOk = true ∧ ∀ xs ys, t.den G xs = some ys → G g xs = some ys
  opq : ∀ c as rs same, m = .opq c as rs same → ∀ xs, ArgFit as xs → ∃ ys, G g xs = some ys ∧ C c xs = some ys ∧ ResFit rs ys ∧ (same = true → ∀ x, xs = [x, x] → ys = [.b true])
  opt : ∀ c as t, m = .opt c as t → t.testsOk = true ∧ ∀ xs, ArgFit as xs → ∃ v, G g xs = some [.b v] ∧ C c xs = some [.b v] ∧ t.den G xs = some [.b v]

theorem forkI_ok {k : IntKind} {kk : SV → Out} : ∀ {may : List Int}, forkI k kk may = .ok → ∀ n ∈ may, kk (.i k n) = .ok
  | [], _, n, hn => by simp at hn
  | m :: ms, h, n, hn => by
    unfold forkI at h
    split at h
    · rename_i e
      rcases List.mem_cons.1 hn with rfl | hn
      · exact e
      · exact forkI_ok h n hn
    · rename_i hne; exact absurd h hne

theorem freshL_ok {C : Cls} : ∀ {rs : List RK} {st : ES} {ν : Val} {kk : KL} {ys : List Sc}, freshL rs st kk = .ok → Good C st ν → ResFit rs ys →
    ∃ ws st' ν', kk ws st' = .ok ∧ Good C st' ν' ∧ Le st ν st' ν' ∧ SVRels st'.nn ν' ws ys
  | [], st, ν, kk, ys, h, hg, hf => ⟨[], st, ν, h, hg, Le.refl _ _, hf⟩
  | .f k :: rs, st, ν, kk, _, h, hg, ⟨x, ys, rfl, ⟨d, hx⟩, h2⟩ => by
    subst hx
    unfold freshL at h
    obtain ⟨ws, st', ν', h3, g3, l3, r3⟩ := freshL_ok h (hg.addInp k d) h2
    have l1 : Le st ν (addInp k st) (upd ν st.nn d) := ⟨Nat.le_add_right _ _, upd_lt⟩
    have lt : st.nn < (addInp k st).nn := Nat.lt_succ_self _
    refine ⟨_, st', ν', h3, g3, l1.trans l3, _, ys, rfl, ⟨Nat.lt_of_lt_of_le lt l3.nn, ?_⟩, r3⟩
    rw [l3.eq _ lt, upd_at]
  | .b :: rs, st, ν, kk, _, h, hg, ⟨x, ys, rfl, ⟨v, hx⟩, h2⟩ => by
    subst hx
    unfold freshL at h
    split at h
    · rename_i e
      cases v with
      | true =>
        obtain ⟨ws, st', ν', h3, g3, l3, r3⟩ := freshL_ok e hg h2
        exact ⟨_, st', ν', h3, g3, l3, _, ys, rfl, rfl, r3⟩
      | false =>
        obtain ⟨ws, st', ν', h3, g3, l3, r3⟩ := freshL_ok h hg h2
        exact ⟨_, st', ν', h3, g3, l3, _, ys, rfl, rfl, r3⟩
    · rename_i hne; exact absurd h hne
  | .i k may :: rs, st, ν, kk, _, h, hg, ⟨x, ys, rfl, ⟨n, hx, hn⟩, h2⟩ => by
    subst hx
    unfold freshL at h
    obtain ⟨ws, st', ν', h3, g3, l3, r3⟩ := freshL_ok (forkI_ok h n hn) hg h2
    exact ⟨_, st', ν', h3, g3, l3, _, ys, rfl, rfl, r3⟩

theorem svEq_eq {x y : SV} (h : svEq x y = true) : x = y := by
  cases x <;> cases y <;> unfold svEq at h <;> (try (cases h; done))
  · dsimp only at h
    split at h
    · rename_i e; rw [fkE_eq h, Nat.eq_of_beq_eq_true e]
    · cases h
  · dsimp only at h; rw [eq_of_beq h]
  · dsimp only at h
    split at h
    · rename_i e; rw [of_decide_eq_true e, of_decide_eq_true h]
    · cases h
theorem svEqL_eq : ∀ {xs ys : List SV}, svEqL xs ys = true → xs = ys
  | [], [], _ => rfl
  | [], _ :: _, h => by simp [svEqL] at h
  | _ :: _, [], h => by simp [svEqL] at h
  | x :: xs, y :: ys, h => by
    unfold svEqL at h
    split at h
    · rename_i e; rw [svEq_eq e, svEqL_eq h]
    · cases h
theorem lookM_ok {c : Nat} {vs ws : List SV} : ∀ {l : List (Nat × List SV × List SV)}, lookM c vs l = some ws → (c, vs, ws) ∈ l
  | [], h => by simp [lookM] at h
  | (d, us, rs) :: r, h => by
    unfold lookM at h
    split at h
    · rename_i e
      split at h
      · rename_i e2
        cases h
        rw [Nat.eq_of_beq_eq_true e, svEqL_eq e2]
        exact List.mem_cons_self
      · exact List.mem_cons_of_mem _ (lookM_ok h)
    · exact List.mem_cons_of_mem _ (lookM_ok h)
theorem kindsOk_ok {nn : Nat} {ν : Val} : ∀ {ks : List FloatKind} {vs : List SV} {xs : List Sc}, kindsOk ks vs = true → SVRels nn ν vs xs → ArgFit ks xs
  | [], [], xs, h, hv => hv
  | [], _ :: _, xs, h, hv => by simp [kindsOk] at h
  | k :: ks, [], xs, h, hv => by simp [kindsOk] at h
  | k :: ks, .f l i :: vs, _, h, ⟨x, xs', rfl, h1, h2⟩ => by
    unfold kindsOk at h
    split at h
    · rename_i e
      have := fkE_eq e; subst this
      exact ⟨ν i, xs', by rw [h1.2], kindsOk_ok h h2⟩
    · cases h
  | k :: ks, .b _ :: vs, xs, h, hv => by simp [kindsOk] at h
  | k :: ks, .i _ _ :: vs, xs, h, hv => by simp [kindsOk] at h

theorem callE_ok {C : Cls} {G : Nat → List Sc → Option (List Sc)} (R : Rules) {md : Nat → Mode} (hmd : ∀ g, ModeOk C G g (md g)) : ∀ n, CallEOk C G (callE md n) := by
  intro n
  induction n with
  | zero => intro g vs st kk ν xs h; simp [callE] at h
  | succ n ih =>
    intro g vs st kk ν xs h hg hv
    unfold callE at h
    split at h
    · rename_i t e
      obtain ⟨ht, hd⟩ := (hmd g).inl t e
      rw [← hv.len] at h
      obtain ⟨ys, h1, h2⟩ := runT_ok R ih t (xs := xs) ht h hg (by have := (EnvOk.nil (nn := st.nn) (ν := ν)).pushL hv; simpa using this)
      exact ⟨ys, hd _ _ h1, h2⟩
    · rename_i c as rs same e
      split at h
      · cases h
      · rename_i hk
        obtain ⟨ys, h1, hc, h2, h3⟩ := (hmd g).opq c as rs same e xs (kindsOk_ok hk hv)
        refine ⟨ys, h1, ?_⟩
        split at h
        · rename_i hs
          rw [Bool.and_eq_true] at hs
          have : ∃ x, xs = [x, x] := by
            match vs, hs.2, hv with
            | [a, b], hs2, ⟨x, xs', e1, r1, y, ys', e2, r2, e3⟩ =>
              have := svEq_eq (x := a) (y := b) hs2
              subst this
              rw [show ys' = [] from e3] at e2
              exact ⟨x, by rw [e1, e2, r1.uniq r2]⟩
          obtain ⟨x, hx⟩ := this
          rw [h3 hs.1 x hx]
          exact ⟨_, st, ν, h, hg, Le.refl _ _, _, [], rfl, rfl, rfl⟩
        · split at h
          · rename_i ws hm
            obtain ⟨xs', ys', r1, r2, r3⟩ := hg.memo _ _ _ (lookM_ok hm)
            have := r1.uniq hv; subst this
            rw [hc] at r3; cases r3
            exact ⟨ws, st, ν, h, hg, Le.refl _ _, r2⟩
          · obtain ⟨ws, st', ν', h4, g4, l4, r4⟩ := freshL_ok h hg h2
            refine ⟨ws, _, ν', h4, ⟨g4.node, g4.tab, g4.fact, ?_⟩, ⟨l4.nn, l4.eq⟩, r4⟩
            intro c' vs' ws' hm
            rcases List.mem_cons.1 hm with hm | hm
            · cases hm
              exact ⟨xs, ys, hv.mono l4.nn l4.eq, r4, hc⟩
            · exact g4.memo _ _ _ hm
    · rename_i c as t e
      split at h
      · cases h
      · rename_i hk
        obtain ⟨ht, hq⟩ := (hmd g).opt c as t e
        obtain ⟨v, h1, hc, h2⟩ := hq xs (kindsOk_ok hk hv)
        refine ⟨[.b v], h1, ?_⟩
        split at h
        · rename_i ws hm
          obtain ⟨xs', ys', r1, r2, r3⟩ := hg.memo _ _ _ (lookM_ok hm)
          have := r1.uniq hv; subst this
          rw [hc] at r3; cases r3
          exact ⟨ws, st, ν, h, hg, Le.refl _ _, r2⟩
        · split at h
          · rename_i hf
            cases v with
            | false =>
              refine ⟨[.b false], _, ν, hf, ⟨hg.node, hg.tab, hg.fact, ?_⟩, ⟨Nat.le_refl _, fun _ _ => rfl⟩, _, [], rfl, rfl, rfl⟩
              intro c' vs' ws' hm
              rcases List.mem_cons.1 hm with hm | hm
              · cases hm
                exact ⟨xs, _, hv, ⟨_, [], rfl, rfl, rfl⟩, hc⟩
              · exact hg.memo _ _ _ hm
            | true =>
              rw [← hv.len] at h
              obtain ⟨ys, h4, ws, st', ν', h5, g5, l5, r5⟩ := runT_ok R ih t (xs := xs) ht h hg (by have := (EnvOk.nil (nn := st.nn) (ν := ν)).pushL hv; simpa using this)
              rw [h2] at h4; cases h4
              dsimp only at h5
              split at h5
              · refine ⟨[.b true], _, ν', h5, ⟨g5.node, g5.tab, g5.fact, ?_⟩, ⟨l5.nn, l5.eq⟩, _, [], rfl, rfl, rfl⟩
                intro c' vs' ws' hm
                rcases List.mem_cons.1 hm with hm | hm
                · cases hm
                  exact ⟨xs, _, hv.mono l5.nn l5.eq, ⟨_, [], rfl, rfl, rfl⟩, hc⟩
                · exact g5.memo _ _ _ hm
              · obtain ⟨x, xs', e1, e2, _⟩ := r5
                cases e1
                cases e2
              · cases h5
          · rename_i hne
            exact absurd h hne
theorem good0 (C : Cls) (ν : Val) : Good C st0 ν := by
  refine ⟨fun i nd h => ?_, fun h p hp => ?_, fun i f hf => ?_, fun c vs ws hm => ?_⟩
  · simp [st0, Tr.get] at h
  · simp [bucket, st0, Tr.get] at hp
  · simp [factsAt, st0, Tr.get] at hf
  · simp [st0] at hm
theorem inps_ok {C : Cls} : ∀ {ks : List FloatKind} {st : ES} {ν : Val} {kk : KL} {xs : List Sc}, inps ks st kk = .ok → Good C st ν → ArgFit ks xs →
    ∃ vs st' ν', kk vs st' = .ok ∧ Good C st' ν' ∧ Le st ν st' ν' ∧ SVRels st'.nn ν' vs xs
  | [], st, ν, kk, xs, h, hg, hf => ⟨[], st, ν, h, hg, Le.refl _ _, hf⟩
  | k :: ks, st, ν, kk, _, h, hg, ⟨d, xs, rfl, h2⟩ => by
    unfold inps at h
    obtain ⟨vs, st', ν', h3, g3, l3, r3⟩ := inps_ok h (hg.addInp k d) h2
    have l1 : Le st ν (addInp k st) (upd ν st.nn d) := ⟨Nat.le_add_right _ _, upd_lt⟩
    have lt : st.nn < (addInp k st).nn := Nat.lt_succ_self _
    refine ⟨_, st', ν', h3, g3, l1.trans l3, _, xs, rfl, ⟨Nat.lt_of_lt_of_le lt l3.nn, ?_⟩, r3⟩
    rw [l3.eq _ lt, upd_at]

section
variable {C : Cls} {G : Nat → List Sc → Option (List Sc)} {md : Nat → Mode}

theorem chkLaw_ok (R : Rules) (hmd : ∀ g, ModeOk C G g (md g)) {as : List FloatKind} {t : T} (ht : t.testsOk = true) (h : chkLaw md as t = .ok) (xs : List Sc) (hx : ArgFit as xs) : t.den G xs = some [.b true] := by
  unfold chkLaw at h
  obtain ⟨vs, st, ν, h1, g1, l1, r1⟩ := inps_ok h (good0 C fun _ => none) hx
  rw [← r1.len] at h1
  obtain ⟨ys, h2, ws, st', ν', h3, g3, l3, r3⟩ := runT_ok R (callE_ok R hmd 100) t ht h1 g1 (by have := (EnvOk.nil (nn := st.nn) (ν := ν)).pushL r1; simpa using this)
  unfold isTrue at h3
  split at h3
  · obtain ⟨x, xs', rfl, r4, r5⟩ := r3
    rw [h2, show x = .b true from r4, show xs' = [] from r5]
  · cases h3

theorem rkOk_ok {nn : Nat} {ν : Val} : ∀ {rs : List RK} {vs : List SV} {xs : List Sc}, rkOk rs vs = true → SVRels nn ν vs xs → ResFit rs xs
  | [], [], xs, h, hv => hv
  | [], _ :: _, xs, h, hv => by simp [rkOk] at h
  | q :: rs, [], xs, h, hv => by cases q <;> simp [rkOk] at h
  | .f k :: rs, .f l i :: vs, _, h, ⟨x, xs', rfl, h1, h2⟩ => by
    simp only [rkOk, Bool.and_eq_true] at h
    have := fkE_eq h.1; subst this
    exact ⟨x, xs', rfl, ⟨ν i, h1.2⟩, rkOk_ok h.2 h2⟩
  | .b :: rs, .b v :: vs, _, h, ⟨x, xs', rfl, h1, h2⟩ => by
    simp only [rkOk] at h
    exact ⟨x, xs', rfl, ⟨v, h1⟩, rkOk_ok h h2⟩
  | .i k may :: rs, .i l n :: vs, _, h, ⟨x, xs', rfl, h1, h2⟩ => by
    simp only [rkOk, Bool.and_eq_true, decide_eq_true_eq] at h
    obtain ⟨⟨rfl, hn⟩, h⟩ := h
    exact ⟨x, xs', rfl, ⟨n, h1, by simpa using hn⟩, rkOk_ok h h2⟩
  | .f k :: rs, .b _ :: vs, _, h, _ => by simp [rkOk] at h
  | .f k :: rs, .i _ _ :: vs, _, h, _ => by simp [rkOk] at h
  | .b :: rs, .f _ _ :: vs, _, h, _ => by simp [rkOk] at h
  | .b :: rs, .i _ _ :: vs, _, h, _ => by simp [rkOk] at h
  | .i _ _ :: rs, .f _ _ :: vs, _, h, _ => by simp [rkOk] at h
  | .i _ _ :: rs, .b _ :: vs, _, h, _ => by simp [rkOk] at h

theorem chkRes_ok (R : Rules) (hmd : ∀ g, ModeOk C G g (md g)) {as : List FloatKind} {rs : List RK} {t : T} (ht : t.testsOk = true) (h : chkRes md as rs t = .ok) (xs : List Sc) (hx : ArgFit as xs) : ∃ ys, t.den G xs = some ys ∧ ResFit rs ys := by
  unfold chkRes at h
  obtain ⟨vs, st, ν, h1, g1, l1, r1⟩ := inps_ok h (good0 C fun _ => none) hx
  rw [← r1.len] at h1
  obtain ⟨ys, h2, ws, st', ν', h3, g3, l3, r3⟩ := runT_ok R (callE_ok R hmd 100) t ht h1 g1 (by have := (EnvOk.nil (nn := st.nn) (ν := ν)).pushL r1; simpa using this)
  dsimp only at h3
  split at h3
  · rename_i e
    exact ⟨ys, h2, rkOk_ok e r3⟩
  · cases h3

theorem chkSame_ok (R : Rules) (hmd : ∀ g, ModeOk C G g (md g)) {as : List FloatKind} {rs : List RK} {t u : T} (ht : t.testsOk = true) (hu : u.testsOk = true) (h : chkSame md as rs t u = .ok) (xs : List Sc) (hx : ArgFit as xs) :
    ∃ ys, t.den G xs = some ys ∧ u.den G xs = some ys ∧ ResFit rs ys := by
  unfold chkSame at h
  obtain ⟨vs, st, ν, h1, g1, l1, r1⟩ := inps_ok h (good0 C fun _ => none) hx
  rw [← r1.len] at h1
  obtain ⟨ys, h2, ws, st', ν', h3, g3, l3, r3⟩ := runT_ok R (callE_ok R hmd 100) t ht h1 g1 (by have := (EnvOk.nil (nn := st.nn) (ν := ν)).pushL r1; simpa using this)
  have r1' := r1.mono l3.nn l3.eq
  dsimp only at h3
  obtain ⟨zs, h4, us, st2, ν2, h5, g5, l5, r5⟩ := runT_ok R (callE_ok R hmd 100) u hu h3 g3 (by have := (EnvOk.nil (nn := st'.nn) (ν := ν')).pushL r1'; simpa using this)
  dsimp only at h5
  split at h5
  · rename_i e
    rw [Bool.and_eq_true] at e
    have := svEqL_eq e.1; subst this
    have := (r3.mono l5.nn l5.eq).uniq r5; subst this
    exact ⟨ys, h2, h4, rkOk_ok e.2 r3⟩
  · cases h5

theorem chkRefl_ok (R : Rules) (hmd : ∀ g, ModeOk C G g (md g)) {k : FloatKind} {t : T} (ht : t.testsOk = true) (h : chkRefl md k t = .ok) (d : Option Nat) : t.den G [.f k d, .f k d] = some [.b true] := by
  unfold chkRefl at h
  obtain ⟨vs, st, ν, h1, g1, l1, r1⟩ := inps_ok h (good0 C fun _ => none) (xs := [.f k d]) ⟨d, [], rfl, rfl⟩
  have r2 : SVRels st.nn ν (vs ++ vs) [.f k d, .f k d] := by
    match vs, r1 with
    | [v], ⟨x, xs', e, q1, q2⟩ =>
      cases e
      exact ⟨_, _, rfl, q1, _, _, rfl, q1, rfl⟩
    | [], q => cases q
    | v :: w :: vs, ⟨x, xs', e, q1, y, ys, e2, q2⟩ => cases e; cases e2
  obtain ⟨ys, h2, ws, st', ν', h3, g3, l3, r3⟩ := runT_ok R (callE_ok R hmd 100) t (xs := [.f k d, .f k d]) ht h1 g1 (by have := (EnvOk.nil (nn := st.nn) (ν := ν)).pushL r2; simpa using this)
  unfold isTrue at h3
  split at h3
  · obtain ⟨x, xs', rfl, r4, r5⟩ := r3
    rw [h2, show x = .b true from r4, show xs' = [] from r5]
  · cases h3
end
end Go.Proofs.YtejbahdihfnbcaaDoor.Sx

/- Rounding to the nearest word: it keeps order. -/
namespace Go.Proofs.YtejbahdihfnbcaaDoor.Sx
open Go Ieee
set_option linter.unusedSimpArgs false
set_option linter.unusedVariables false

/-- m * 2^p ≤ n * 2^q -/
def vle (m : Nat) (p : Int) (n : Nat) (q : Int) : Prop := m * 2 ^ (p - min p q).toNat ≤ n * 2 ^ (q - min p q).toNat
theorem vle_iff {m n : Nat} {p q b : Int} (hp : b ≤ p) (hq : b ≤ q) : vle m p n q ↔ m * 2 ^ (p - b).toNat ≤ n * 2 ^ (q - b).toNat := by
  unfold vle
  have e1 : (p - b).toNat = (p - min p q).toNat + (min p q - b).toNat := by omega
  have e2 : (q - b).toNat = (q - min p q).toNat + (min p q - b).toNat := by omega
  rw [e1, e2, Nat.pow_add, Nat.pow_add, ← Nat.mul_assoc, ← Nat.mul_assoc]
  exact (Nat.mul_le_mul_right_iff (Nat.two_pow_pos _)).symm
theorem vle_nat {m n b p q : Nat} {P Q B : Int} (hP : P = B + p) (hQ : Q = B + q) : vle m P n Q ↔ m * 2 ^ p ≤ n * 2 ^ q := by
  rw [vle_iff (b := B) (by omega) (by omega), show (P - B).toNat = p by omega, show (Q - B).toNat = q by omega]
theorem vle.refl (m : Nat) (p : Int) : vle m p m p := by unfold vle; simp
theorem vle.trans {m n k : Nat} {p q r : Int} (h : vle m p n q) (g : vle n q k r) : vle m p k r := by
  have b1 : min p (min q r) ≤ p := by omega
  have b2 : min p (min q r) ≤ q := by omega
  have b3 : min p (min q r) ≤ r := by omega
  rw [vle_iff b1 b2] at h
  rw [vle_iff b2 b3] at g
  rw [vle_iff b1 b3]
  exact Nat.le_trans h g
theorem vle_zero (p : Int) (n : Nat) (q : Int) : vle 0 p n q := by unfold vle; simp

/-! cut -/
theorem cut_le {neg : Bool} {n d M : Nat} (h : n ≤ M * 2 ^ d) : Toward.even.cut neg n d ≤ M := by
  unfold Toward.cut
  simp only [Nat.one_shiftLeft]
  by_cases hd : d ≤ n.log2 + 2
  · rw [Nat.min_eq_left hd]
    have hpos := Nat.two_pow_pos d
    have hdm := Nat.div_add_mod n (2 ^ d)
    have hle : n / 2 ^ d ≤ M := Nat.div_le_of_le_mul (by rw [Nat.mul_comm]; exact h)
    by_cases he : n / 2 ^ d = M
    · have hr : n % 2 ^ d = 0 := by
        rw [he] at hdm
        have : 2 ^ d * M = M * 2 ^ d := Nat.mul_comm _ _
        omega
      rw [hr, he]
      have h1 : decide (2 ^ d < 2 * 0) = false := by simp
      have h2 : (2 ^ d == 2 * 0) = false := by simp [Nat.ne_of_gt hpos]
      simp [h1, h2]
    · have := Bool.toNat_le (decide (2 ^ d < 2 * (n % 2 ^ d)) || 2 ^ d == 2 * (n % 2 ^ d) && n / 2 ^ d % 2 == 1)
      omega
  · rw [Nat.min_eq_right (by omega)]
    have hn : n < 2 ^ (n.log2 + 1) := Nat.lt_log2_self
    have h4 : 2 ^ (n.log2 + 2) = 2 * 2 ^ (n.log2 + 1) := by rw [Nat.pow_succ]; omega
    have hdiv : n / 2 ^ (n.log2 + 2) = 0 := Nat.div_eq_of_lt (by omega)
    have hmod : n % 2 ^ (n.log2 + 2) = n := Nat.mod_eq_of_lt (by omega)
    rw [hdiv, hmod]
    have h1 : decide (2 ^ (n.log2 + 2) < 2 * n) = false := by simp; omega
    simp [h1]
theorem cut_ge {neg : Bool} {n d M : Nat} (h : M * 2 ^ d ≤ n) : M ≤ Toward.even.cut neg n d := by
  unfold Toward.cut
  simp only [Nat.one_shiftLeft]
  by_cases hd : d ≤ n.log2 + 2
  · rw [Nat.min_eq_left hd]
    have : M ≤ n / 2 ^ d := (Nat.le_div_iff_mul_le (Nat.two_pow_pos d)).2 h
    omega
  · have hn : n < 2 ^ (n.log2 + 1) := Nat.lt_log2_self
    have h4 : 2 ^ (n.log2 + 1) ≤ 2 ^ d := Nat.pow_le_pow_right (by omega) (by omega)
    have : M = 0 := by
      rcases Nat.eq_zero_or_pos M with h0 | h0
      · exact h0
      · have := Nat.le_mul_of_pos_left (2 ^ d) h0
        omega
    rw [this]; exact Nat.zero_le _

/-! nearest -/
/-- the number M * 2^P of a format, and its rung -/
structure Rep (f : Format) (M : Nat) (P : Int) (R : Nat) : Prop where
  lo : f.leastPlace ≤ P
  lt : M < 2 ^ (f.fractionBits + 1)
  norm : 2 ^ f.fractionBits ≤ M ∨ P = f.leastPlace
  rung : R = (P - f.leastPlace).toNat * 2 ^ f.fractionBits + M

def lastP (f : Format) (m : Nat) (p : Int) : Int := max (p + m.log2 - f.fractionBits) f.leastPlace
def nearR (f : Format) (neg : Bool) (m : Nat) (p : Int) : Nat :=
  (lastP f m p - f.leastPlace).toNat * f.binade + Toward.even.cut neg (m <<< (p - lastP f m p).toNat) (lastP f m p - p).toNat
theorem nearest_eq {f : Format} {neg : Bool} {m : Nat} {p : Int} (h : m ≠ 0) : f.nearest neg m p = f.word neg (min (nearR f neg m p) f.infRung) := by
  unfold Format.nearest; rw [if_neg h]; rfl

theorem near_le {f : Format} {neg : Bool} {m M R : Nat} {p P : Int} (h0 : m ≠ 0) (h : vle m p M P) (hr : Rep f M P R) : nearR f neg m p ≤ R := by
  have hl1 : 2 ^ m.log2 ≤ m := Nat.log2_self_le h0
  have hl2 : m < 2 ^ (m.log2 + 1) := Nat.lt_log2_self
  obtain ⟨hlo, hlt, hnorm, rfl⟩ := hr
  unfold nearR Format.binade
  generalize hL : f.leastPlace = L at *
  generalize hfb : f.fractionBits = fb at *
  have hlast : lastP f m p = max (p + m.log2 - fb) L := by unfold lastP; rw [hL, hfb]
  generalize hla : lastP f m p = la at *
  generalize m.log2 = l at *
  rw [Nat.shiftLeft_eq]
  let b : Int := min p L
  have hbp : b ≤ p := by omega
  have hbL : b ≤ L := by omega
  rw [vle_iff hbp (by omega)] at h
  rcases Int.lt_trichotomy P la with hc | hc | hc
  · -- last > P
    exfalso
    have e1 : la = p + l - fb := by omega
    have h1 : 2 ^ l * 2 ^ (p - b).toNat ≤ m * 2 ^ (p - b).toNat := Nat.mul_le_mul_right _ hl1
    have h2 : M * 2 ^ (P - b).toNat < 2 ^ (fb + 1) * 2 ^ (P - b).toNat := (Nat.mul_lt_mul_right (Nat.two_pow_pos _)).2 hlt
    rw [← Nat.pow_add] at h1 h2
    have h3 : 2 ^ (fb + 1 + (P - b).toNat) ≤ 2 ^ (l + (p - b).toNat) := Nat.pow_le_pow_right (by omega) (by omega)
    omega
  · subst hc
    have : Toward.even.cut neg (m * 2 ^ (p - P).toNat) (P - p).toNat ≤ M := by
      refine cut_le ?_
      rcases Int.le_total P p with hp | hp
      · have := (vle_iff (m := m) (n := M) (p := p) (q := P) (b := b) hbp (by omega)).2 h
        rw [vle_iff (b := P) hp (Int.le_refl _)] at this
        rw [show (P - p).toNat = 0 by omega]
        simpa using this
      · have := (vle_iff (m := m) (n := M) (p := p) (q := P) (b := b) hbp (by omega)).2 h
        rw [vle_iff (b := p) (Int.le_refl _) hp] at this
        rw [show (p - P).toNat = 0 by omega]
        simpa using this
    omega
  · have hM : 2 ^ fb ≤ M := by rcases hnorm with h1 | h1 <;> omega
    have hk : Toward.even.cut neg (m * 2 ^ (p - la).toNat) (la - p).toNat ≤ 2 ^ (fb + 1) := by
      refine cut_le ?_
      have h1 : m * 2 ^ (p - la).toNat ≤ 2 ^ (l + 1) * 2 ^ (p - la).toNat := Nat.mul_le_mul_right _ (by omega)
      rw [← Nat.pow_add] at h1 ⊢
      exact Nat.le_trans h1 (Nat.pow_le_pow_right (by omega) (by omega))
    have e : 2 ^ (fb + 1) = 2 * 2 ^ fb := by rw [Nat.pow_succ]; omega
    have h3 : ((la - L).toNat + 1) * 2 ^ fb ≤ (P - L).toNat * 2 ^ fb := Nat.mul_le_mul_right _ (by omega)
    rw [Nat.add_mul] at h3
    omega

theorem near_ge {f : Format} {neg : Bool} {m M R : Nat} {p P : Int} (h0 : m ≠ 0) (h : vle M P m p) (hr : Rep f M P R) : R ≤ nearR f neg m p := by
  have hl1 : 2 ^ m.log2 ≤ m := Nat.log2_self_le h0
  have hl2 : m < 2 ^ (m.log2 + 1) := Nat.lt_log2_self
  obtain ⟨hlo, hlt, hnorm, rfl⟩ := hr
  unfold nearR Format.binade
  generalize hL : f.leastPlace = L at *
  generalize hfb : f.fractionBits = fb at *
  have hlast : lastP f m p = max (p + m.log2 - fb) L := by unfold lastP; rw [hL, hfb]
  generalize hla : lastP f m p = la at *
  generalize m.log2 = l at *
  rw [Nat.shiftLeft_eq]
  let b : Int := min p L
  have hbp : b ≤ p := by omega
  have hbL : b ≤ L := by omega
  have h' := h
  rw [vle_iff (b := b) (by omega) hbp] at h
  have e : 2 ^ (fb + 1) = 2 * 2 ^ fb := by rw [Nat.pow_succ]; omega
  rcases Int.lt_trichotomy P la with hc | hc | hc
  · have e1 : la = p + l - fb := by omega
    have hk : 2 ^ fb ≤ Toward.even.cut neg (m * 2 ^ (p - la).toNat) (la - p).toNat := by
      refine cut_ge ?_
      have h1 : 2 ^ l * 2 ^ (p - la).toNat ≤ m * 2 ^ (p - la).toNat := Nat.mul_le_mul_right _ (by omega)
      rw [← Nat.pow_add] at h1 ⊢
      exact Nat.le_trans (Nat.pow_le_pow_right (by omega) (by omega)) h1
    have h3 : ((P - L).toNat + 1) * 2 ^ fb ≤ (la - L).toNat * 2 ^ fb := Nat.mul_le_mul_right _ (by omega)
    rw [Nat.add_mul] at h3
    omega
  · subst hc
    have : M ≤ Toward.even.cut neg (m * 2 ^ (p - P).toNat) (P - p).toNat := by
      refine cut_ge ?_
      rcases Int.le_total P p with hp | hp
      · rw [vle_iff (b := P) (Int.le_refl _) hp] at h'
        rw [show (P - p).toNat = 0 by omega]
        simpa using h'
      · rw [vle_iff (b := p) hp (Int.le_refl _)] at h'
        rw [show (p - P).toNat = 0 by omega]
        simpa using h'
    omega
  · exfalso
    have hM : 2 ^ fb ≤ M := by rcases hnorm with h1 | h1 <;> omega
    have h1 : m * 2 ^ (p - b).toNat < 2 ^ (l + 1) * 2 ^ (p - b).toNat := (Nat.mul_lt_mul_right (Nat.two_pow_pos _)).2 hl2
    have h2 : 2 ^ fb * 2 ^ (P - b).toNat ≤ M * 2 ^ (P - b).toNat := Nat.mul_le_mul_right _ hM
    rw [← Nat.pow_add] at h1 h2
    have h3 : 2 ^ (l + 1 + (p - b).toNat) ≤ 2 ^ (fb + (P - b).toNat) := Nat.pow_le_pow_right (by omega) (by omega)
    omega

theorem near_eq {f : Format} {neg : Bool} {m M R : Nat} {p P : Int} (h0 : m ≠ 0) (h : vle m p M P) (h' : vle M P m p) (hr : Rep f M P R) : nearR f neg m p = R :=
  Nat.le_antisymm (near_le h0 h hr) (near_ge h0 h' hr)

/-! read -/
theorem read_rep {f : Format} {w : Nat} (h : w % f.signWeight < f.infRung) : ∃ M P, f.read w = .number (w / f.signWeight % 2 == 1) M P ∧ Rep f M P (w % f.signWeight) := by
  unfold Format.read
  simp only
  generalize w % f.signWeight = r at *
  by_cases h1 : r < f.binade
  · rw [if_pos h1]
    refine ⟨_, _, rfl, Int.le_refl _, ?_, .inr rfl, by simp⟩
    unfold Format.binade at h1
    exact Nat.lt_of_lt_of_le h1 (Nat.pow_le_pow_right (by omega) (by omega))
  · rw [if_neg h1, if_pos h]
    have hb : 0 < f.binade := Nat.two_pow_pos _
    have h2 : r % f.binade < f.binade := Nat.mod_lt _ hb
    have h3 := Nat.div_add_mod r f.binade
    have h4 : 1 ≤ r / f.binade := (Nat.le_div_iff_mul_le hb).2 (by omega)
    refine ⟨_, _, rfl, by omega, ?_, .inl ?_, ?_⟩
    · unfold Format.binade at *; rw [Nat.pow_succ]; omega
    · unfold Format.binade at *; omega
    · have e : (f.leastPlace + (r / f.binade - 1 : Nat) - f.leastPlace).toNat = r / f.binade - 1 := by omega
      rw [e]
      show r = (r / f.binade - 1) * f.binade + (f.binade + r % f.binade)
      rw [Nat.sub_mul, Nat.one_mul, Nat.mul_comm]
      have : f.binade ≤ f.binade * (r / f.binade) := Nat.le_mul_of_pos_right _ h4
      omega

theorem Rep.vle_of_le {f : Format} {M N R S : Nat} {P Q : Int} (h : Rep f M P R) (k : Rep f N Q S) (hrs : R ≤ S) : vle M P N Q := by
  obtain ⟨hlo, hlt, hnorm, rfl⟩ := h
  obtain ⟨klo, klt, knorm, rfl⟩ := k
  generalize f.leastPlace = L at *
  generalize f.fractionBits = fb at *
  have e : 2 ^ (fb + 1) = 2 * 2 ^ fb := by rw [Nat.pow_succ]; omega
  rcases Int.lt_trichotomy P Q with hc | hc | hc
  · rw [vle_iff (b := P) (Int.le_refl _) (by omega)]
    have hN : 2 ^ fb ≤ N := by rcases knorm with h1 | h1 <;> omega
    have : 2 ^ 1 ≤ 2 ^ (Q - P).toNat := Nat.pow_le_pow_right (by omega) (by omega)
    have h2 : N * 2 ≤ N * 2 ^ (Q - P).toNat := Nat.mul_le_mul_left _ (by omega)
    simp
    omega
  · subst hc
    rw [vle_iff (b := P) (Int.le_refl _) (Int.le_refl _)]
    simp
    omega
  · exfalso
    have hM : 2 ^ fb ≤ M := by rcases hnorm with h1 | h1 <;> omega
    have h3 : ((Q - L).toNat + 1) * 2 ^ fb ≤ (P - L).toNat * 2 ^ fb := Nat.mul_le_mul_right _ (by omega)
    rw [Nat.add_mul] at h3
    omega
theorem Rep.vle_iff {f : Format} {M N R S : Nat} {P Q : Int} (h : Rep f M P R) (k : Rep f N Q S) : vle M P N Q ↔ R ≤ S := by
  refine ⟨fun hv => ?_, h.vle_of_le k⟩
  by_cases h0 : M = 0
  · subst h0
    have := h.norm
    have hp := Nat.two_pow_pos f.fractionBits
    have : P = f.leastPlace := by rcases this with h1 | h1; omega; exact h1
    rw [h.rung, this]; simp
  · have h1 := near_ge (f := f) (neg := false) h0 (vle.refl M P) h
    have h2 := near_le (f := f) (neg := false) h0 hv k
    omega

/-! shifting -/
theorem cut_scale {neg : Bool} {n d k : Nat} : Toward.even.cut neg (n * 2 ^ k) (d + k) = Toward.even.cut neg n d := by
  by_cases hn : n = 0
  · subst hn; simp [Toward.cut]
  · have hl : (n * 2 ^ k).log2 = n.log2 + k := by
      have h1 : 2 ^ n.log2 ≤ n := Nat.log2_self_le hn
      have h2 : n < 2 ^ (n.log2 + 1) := Nat.lt_log2_self
      have hne : n * 2 ^ k ≠ 0 := Nat.mul_ne_zero hn (Nat.ne_of_gt (Nat.two_pow_pos k))
      refine (Nat.log2_eq_iff hne).2 ⟨?_, ?_⟩
      · rw [Nat.pow_add]; exact Nat.mul_le_mul_right _ h1
      · rw [show n.log2 + k + 1 = (n.log2 + 1) + k by omega, Nat.pow_add]
        exact (Nat.mul_lt_mul_right (Nat.two_pow_pos k)).2 h2
    unfold Toward.cut
    simp only [Nat.one_shiftLeft, hl]
    have e : min (d + k) (n.log2 + k + 2) = min d (n.log2 + 2) + k := by omega
    rw [e]
    generalize min d (n.log2 + 2) = g
    have hk := Nat.two_pow_pos k
    have e1 : n * 2 ^ k / 2 ^ (g + k) = n / 2 ^ g := by
      rw [Nat.pow_add]; exact Nat.mul_div_mul_right _ _ hk
    have e2 : n * 2 ^ k % 2 ^ (g + k) = n % 2 ^ g * 2 ^ k := by
      rw [Nat.pow_add]; exact Nat.mul_mod_mul_right _ _ _
    rw [e1, e2]
    have e3 : decide (2 ^ (g + k) < 2 * (n % 2 ^ g * 2 ^ k)) = decide (2 ^ g < 2 * (n % 2 ^ g)) := by
      rw [Nat.pow_add, ← Nat.mul_assoc]
      exact decide_eq_decide.2 (Nat.mul_lt_mul_right hk)
    have e4 : (2 ^ (g + k) == 2 * (n % 2 ^ g * 2 ^ k)) = (2 ^ g == 2 * (n % 2 ^ g)) := by
      rw [Nat.pow_add, ← Nat.mul_assoc]
      rw [Bool.eq_iff_iff]
      simp only [beq_iff_eq]
      exact Nat.mul_left_inj (Nat.ne_of_gt hk)
    simp only [e3, e4]
theorem nearest_shift {f : Format} {neg : Bool} {m k : Nat} {p : Int} : f.nearest neg (m * 2 ^ k) (p - k) = f.nearest neg m p := by
  by_cases h0 : m = 0
  · subst h0; simp [Format.nearest]
  · have hne : m * 2 ^ k ≠ 0 := Nat.mul_ne_zero h0 (Nat.ne_of_gt (Nat.two_pow_pos k))
    have hl : (m * 2 ^ k).log2 = m.log2 + k := by
      have h1 : 2 ^ m.log2 ≤ m := Nat.log2_self_le h0
      have h2 : m < 2 ^ (m.log2 + 1) := Nat.lt_log2_self
      refine (Nat.log2_eq_iff hne).2 ⟨?_, ?_⟩
      · rw [Nat.pow_add]; exact Nat.mul_le_mul_right _ h1
      · rw [show m.log2 + k + 1 = (m.log2 + 1) + k by omega, Nat.pow_add]
        exact (Nat.mul_lt_mul_right (Nat.two_pow_pos k)).2 h2
    rw [nearest_eq h0, nearest_eq hne]
    have e1 : lastP f (m * 2 ^ k) (p - k) = lastP f m p := by
      unfold lastP
      rw [hl]
      congr 1
      simp only [Int.natCast_add]; omega
    have e2 : nearR f neg (m * 2 ^ k) (p - k) = nearR f neg m p := by
      unfold nearR
      rw [e1]
      generalize lastP f m p = la
      congr 1
      rw [Nat.shiftLeft_eq, Nat.shiftLeft_eq]
      rcases Int.le_total la (p - k) with h1 | h1
      · rw [show (la - (p - k)).toNat = 0 by omega, show (la - p).toNat = 0 by omega, Nat.mul_assoc, ← Nat.pow_add, show k + (p - k - la).toNat = (p - la).toNat by omega]
      · rw [show (p - k - la).toNat = 0 by omega, Nat.pow_zero, Nat.mul_one]
        rcases Int.le_total la p with h2 | h2
        · rw [show (la - p).toNat = 0 by omega]
          have := cut_scale (neg := neg) (n := m * 2 ^ (p - la).toNat) (d := 0) (k := (la - (p - k)).toNat)
          rw [Nat.mul_assoc, ← Nat.pow_add, show (p - la).toNat + (la - (p - k)).toNat = k by omega, Nat.zero_add] at this
          exact this
        · rw [show (p - la).toNat = 0 by omega, Nat.pow_zero, Nat.mul_one]
          have := cut_scale (neg := neg) (n := m) (d := (la - p).toNat) (k := k)
          rw [show (la - p).toNat + k = (la - (p - k)).toNat by omega] at this
          exact this
    rw [e2]
end Go.Proofs.YtejbahdihfnbcaaDoor.Sx

/- Bounds of sums, products, quotients and roots. -/
namespace Go.Proofs.YtejbahdihfnbcaaDoor.Sx
open Go Ieee
set_option linter.unusedSimpArgs false
set_option linter.unusedVariables false

def fbOf (k : FloatKind) : Nat := match k with | .f32 => 23 | .f64 => 52
theorem fb_eq (k : FloatKind) : k.format.fractionBits = fbOf k := by cases k <;> rfl
theorem sw_eq (k : FloatKind) : k.format.signWeight = sw k := by cases k <;> rfl
theorem rep2 (k : FloatKind) (e : Nat) : Rep k.format (2 ^ fbOf k) ((e : Int) - fbOf k) (rung2 k e) := by
  cases k
  · refine ⟨?_, by decide, .inl (Nat.le_refl _), ?_⟩
    · show (-149 : Int) ≤ e - 23; omega
    · show rung2 .f32 e = ((e : Int) - 23 - (-149)).toNat * 2 ^ 23 + 2 ^ 23
      rw [show ((e : Int) - 23 - (-149)).toNat = e + 126 by omega]
      show (e + 127) * 8388608 = _
      omega
  · refine ⟨?_, by decide, .inl (Nat.le_refl _), ?_⟩
    · show (-1074 : Int) ≤ e - 52; omega
    · show rung2 .f64 e = ((e : Int) - 52 - (-1074)).toNat * 2 ^ 52 + 2 ^ 52
      rw [show ((e : Int) - 52 - (-1074)).toNat = e + 1022 by omega]
      show (e + 1023) * 4503599627370496 = _
      omega
theorem repL (k : FloatKind) (e : Nat) (he : e ≤ 100) : Rep k.format (2 ^ fbOf k) (-(e : Int) - fbOf k) (rungL k e) := by
  cases k
  · refine ⟨?_, by decide, .inl (Nat.le_refl _), ?_⟩
    · show (-149 : Int) ≤ -e - 23; omega
    · show rungL .f32 e = (-(e : Int) - 23 - (-149)).toNat * 2 ^ 23 + 2 ^ 23
      rw [show (-(e : Int) - 23 - (-149)).toNat = 126 - e by omega]
      show (127 - e) * 8388608 = _
      rw [show 127 - e = 126 - e + 1 by omega, Nat.add_mul]
  · refine ⟨?_, by decide, .inl (Nat.le_refl _), ?_⟩
    · show (-1074 : Int) ≤ -e - 52; omega
    · show rungL .f64 e = (-(e : Int) - 52 - (-1074)).toNat * 2 ^ 52 + 2 ^ 52
      rw [show (-(e : Int) - 52 - (-1074)).toNat = 1022 - e by omega]
      show (1023 - e) * 4503599627370496 = _
      rw [show 1023 - e = 1022 - e + 1 by omega, Nat.add_mul]
theorem rung2_fin {k : FloatKind} {e : Nat} (h : e ≤ maxE k) : rung2 k e < k.format.infRung := by
  cases k
  · have h : e ≤ 127 := h
    show (e + 127) * 8388608 < 2139095040
    omega
  · have h : e ≤ 1023 := h
    show (e + 1023) * 4503599627370496 < 9218868437227405312
    omega
theorem inf_lt_sw (k : FloatKind) : k.format.infRung < sw k := by cases k <;> decide

/-- m * 2^p ≤ 2^e -/
def le2 (m : Nat) (p e : Int) : Prop := vle m p 1 e
theorem vle_pow {a : Nat} {q e : Int} (h : e = q + a) : vle (2 ^ a) q 1 e ∧ vle 1 e (2 ^ a) q := by
  rw [vle_iff (b := q) (Int.le_refl _) (by omega), vle_iff (b := q) (by omega) (Int.le_refl _)]
  rw [show (e - q).toNat = a by omega]; simp
theorem le2.mono {m : Nat} {p e e' : Int} (h : le2 m p e) (he : e ≤ e') : le2 m p e' := by
  refine vle.trans h ?_
  rw [vle_iff (b := e) (Int.le_refl _) he]
  have := Nat.two_pow_pos (e' - e).toNat
  simp
  omega

/-- a finite number, at most 2^e -/
theorem read_le {k : FloatKind} {b e : Nat} (he : e ≤ maxE k) (h : b % sw k ≤ rung2 k e) :
    ∃ M P, k.format.read b = .number (b / sw k % 2 == 1) M P ∧ Rep k.format M P (b % sw k) ∧ le2 M P e := by
  have hlt : b % k.format.signWeight < k.format.infRung := by rw [sw_eq]; exact Nat.lt_of_le_of_lt h (rung2_fin he)
  obtain ⟨M, P, h1, h2⟩ := read_rep hlt
  rw [sw_eq] at h1 h2
  refine ⟨M, P, h1, h2, ?_⟩
  exact (h2.vle_of_le (rep2 k e) h).trans (vle_pow (by omega)).1
theorem word_mod {k : FloatKind} {s : Bool} {r : Nat} (h : r < sw k) : k.format.word s r % sw k = r ∧ (k.format.word s r / sw k % 2 == 1) = s := by
  unfold Format.word
  rw [sw_eq]
  have hp : 0 < sw k := by cases k <;> decide
  cases s
  · simp [Nat.mod_eq_of_lt h, Nat.div_eq_of_lt h]
  · simp [Nat.add_mod_left, Nat.mod_eq_of_lt h, Nat.add_div_left _ hp, Nat.div_eq_of_lt h]
theorem nearest_mod {k : FloatKind} {s : Bool} {m : Nat} {p : Int} : ∃ r, k.format.nearest s m p = k.format.word s r ∧ r ≤ k.format.infRung ∧ r = (if m = 0 then 0 else min (nearR k.format s m p) k.format.infRung) := by
  by_cases h : m = 0
  · subst h; exact ⟨0, by simp [Format.nearest], Nat.zero_le _, by simp⟩
  · exact ⟨_, nearest_eq h, Nat.min_le_right _ _, by rw [if_neg h]⟩
theorem nearest_rung {k : FloatKind} {s : Bool} {m : Nat} {p : Int} : k.format.nearest s m p % sw k = (if m = 0 then 0 else min (nearR k.format s m p) k.format.infRung) ∧ (k.format.nearest s m p / sw k % 2 == 1) = s := by
  obtain ⟨r, h1, h2, h3⟩ := nearest_mod (k := k) (s := s) (m := m) (p := p)
  have hr : r < sw k := Nat.lt_of_le_of_lt h2 (inf_lt_sw k)
  rw [h1, ← h3]
  exact word_mod hr
theorem wr_le {k : FloatKind} {s : Bool} {m e : Nat} {p : Int} (he : e ≤ maxE k) (h : le2 m p e) : k.format.nearest s m p % sw k ≤ rung2 k e := by
  rw [nearest_rung.1]
  by_cases h0 : m = 0
  · rw [if_pos h0]; exact Nat.zero_le _
  · rw [if_neg h0]
    exact Nat.le_trans (Nat.min_le_left _ _) (near_le h0 (vle.trans h (vle_pow (by omega)).2) (rep2 k e))

/-- finite, and at most 2^e -/
def Bd (k : FloatKind) (d : Option Nat) (e : Nat) : Prop := e ≤ maxE k ∧ ∃ b, d = some b ∧ b % sw k ≤ rung2 k e

theorem natAbs_signed (s : Bool) (m u : Nat) : (signed s m u).natAbs = m * 2 ^ u := by
  rw [← Nat.shiftLeft_eq]
  cases s
  · show ((m <<< u : Nat) : Int).natAbs = _
    rw [Int.natAbs_natCast]
  · show (-((m <<< u : Nat) : Int)).natAbs = _
    rw [Int.natAbs_neg, Int.natAbs_natCast]

theorem le2.sum {m n : Nat} {i j e : Int} (h : le2 m i e) (g : le2 n j e) (s t : Bool) :
    le2 (signed s m (i - min i j).toNat + signed t n (j - min i j).toNat).natAbs (min i j) (e + 1) := by
  have h1 : (signed s m (i - min i j).toNat + signed t n (j - min i j).toNat).natAbs ≤ m * 2 ^ (i - min i j).toNat + n * 2 ^ (j - min i j).toNat := by
    have := Int.natAbs_add_le (signed s m (i - min i j).toNat) (signed t n (j - min i j).toNat)
    rw [natAbs_signed, natAbs_signed] at this
    exact this
  generalize (signed s m (i - min i j).toNat + signed t n (j - min i j).toNat).natAbs = q at *
  let b : Int := min (min i j) e
  unfold le2 at h g ⊢
  rw [vle_iff (b := b) (by omega) (by omega)] at h g ⊢
  have e1 : (i - b).toNat = (i - min i j).toNat + (min i j - b).toNat := by omega
  have e2 : (j - b).toNat = (j - min i j).toNat + (min i j - b).toNat := by omega
  have e3 : (e + 1 - b).toNat = (e - b).toNat + 1 := by omega
  rw [e1, Nat.pow_add, ← Nat.mul_assoc] at h
  rw [e2, Nat.pow_add, ← Nat.mul_assoc] at g
  rw [e3, Nat.pow_succ]
  have := Nat.mul_le_mul_right (2 ^ (min i j - b).toNat) h1
  rw [Nat.add_mul] at this
  omega

theorem sum_number {s t : Bool} {m n : Nat} {i j : Int} : ∃ u, (Datum.number s m i).sum (.number t n j) = some (.number u (signed s m (i - min i j).toNat + signed t n (j - min i j).toNat).natAbs (min i j)) := ⟨_, rfl⟩

theorem bd_add {k : FloatKind} {x y : Option Nat} {e : Nat} (hx : Bd k x e) (hy : Bd k y e) (he : e + 1 ≤ maxE k) : Bd k (BO.add.den k x y) (e + 1) := by
  obtain ⟨_, a, rfl, ha⟩ := hx
  obtain ⟨_, b, rfl, hb⟩ := hy
  obtain ⟨M, P, r1, _, v1⟩ := read_le (by omega) ha
  obtain ⟨N, Q, r2, _, v2⟩ := read_le (by omega) hb
  refine ⟨he, ?_⟩
  show ∃ r, k.format.add a b = some r ∧ _
  unfold Format.add
  rw [r1, r2]
  obtain ⟨u, hu⟩ := sum_number (s := (a / sw k % 2 == 1)) (t := (b / sw k % 2 == 1)) (m := M) (n := N) (i := P) (j := Q)
  rw [hu]
  exact ⟨_, rfl, wr_le he (le2.sum v1 v2 _ _)⟩
theorem bd_sub {k : FloatKind} {x y : Option Nat} {e : Nat} (hx : Bd k x e) (hy : Bd k y e) (he : e + 1 ≤ maxE k) : Bd k (BO.sub.den k x y) (e + 1) := by
  obtain ⟨_, a, rfl, ha⟩ := hx
  obtain ⟨_, b, rfl, hb⟩ := hy
  obtain ⟨M, P, r1, _, v1⟩ := read_le (by omega) ha
  obtain ⟨N, Q, r2, _, v2⟩ := read_le (by omega) hb
  refine ⟨he, ?_⟩
  show ∃ r, k.format.sub a b = some r ∧ _
  unfold Format.sub
  rw [r1, r2]
  obtain ⟨u, hu⟩ := sum_number (s := (a / sw k % 2 == 1)) (t := !(b / sw k % 2 == 1)) (m := M) (n := N) (i := P) (j := Q)
  show ∃ r, Option.map _ ((Datum.number _ M P).sum (.number _ N Q)) = some r ∧ _
  rw [hu]
  exact ⟨_, rfl, wr_le he (le2.sum v1 v2 _ _)⟩
theorem le2.mul {m n : Nat} {i j d e : Int} (h : le2 m i d) (g : le2 n j e) : le2 (m * n) (i + j) (d + e) := by
  let b : Int := min i d
  let c : Int := min j e
  unfold le2 at h g ⊢
  rw [vle_iff (b := b) (by omega) (by omega)] at h
  rw [vle_iff (b := c) (by omega) (by omega)] at g
  rw [vle_iff (b := b + c) (by omega) (by omega)]
  have e1 : (i + j - (b + c)).toNat = (i - b).toNat + (j - c).toNat := by omega
  have e2 : (d + e - (b + c)).toNat = (d - b).toNat + (e - c).toNat := by omega
  rw [e1, e2, Nat.pow_add, Nat.pow_add, Nat.one_mul]
  rw [Nat.one_mul] at h g
  calc m * n * (2 ^ (i - b).toNat * 2 ^ (j - c).toNat) = m * 2 ^ (i - b).toNat * (n * 2 ^ (j - c).toNat) := by
        simp only [Nat.mul_assoc, Nat.mul_left_comm]
    _ ≤ _ := Nat.mul_le_mul h g
theorem bd_mul {k : FloatKind} {x y : Option Nat} {d e : Nat} (hx : Bd k x d) (hy : Bd k y e) (he : d + e ≤ maxE k) : Bd k (BO.mul.den k x y) (d + e) := by
  obtain ⟨hd, a, rfl, ha⟩ := hx
  obtain ⟨_, b, rfl, hb⟩ := hy
  obtain ⟨M, P, r1, _, v1⟩ := read_le (by omega) ha
  obtain ⟨N, Q, r2, _, v2⟩ := read_le (by omega) hb
  refine ⟨he, ?_⟩
  show ∃ r, k.format.mul a b = some r ∧ _
  unfold Format.mul
  rw [r1, r2]
  refine ⟨_, rfl, wr_le he ?_⟩
  have := le2.mul v1 v2
  rw [Int.natCast_add]
  exact this

/-! quotients -/
/-- m*2^i / (n*2^j) ≤ 2^e where n*2^j*2^e ≥ m*2^i -/
theorem quot_le {digits m n : Nat} {i j e : Int} (hn : n ≠ 0) (h : vle m i n (j + e)) (hm : m ≠ 0) (he : 0 ≤ e + j + (digits + n.log2 - m.log2 : Nat) - i) :
    le2 (2 * ((m <<< (digits + n.log2 - m.log2)) / n) + ((m <<< (digits + n.log2 - m.log2)) % n != 0).toNat) (i - j - (digits + n.log2 - m.log2 : Nat) - 1) e := by
  generalize hmore : digits + n.log2 - m.log2 = more at *
  rw [Nat.shiftLeft_eq]
  generalize hX : (e + j + more - i).toNat = X
  have hX' : (X : Int) = e + j + more - i := by omega
  -- the dividend is at most n * 2^X
  have hD : m * 2 ^ more ≤ n * 2 ^ X := by
    let b : Int := min i (j + e)
    rw [vle_iff (b := b) (by omega) (by omega)] at h
    have hk : ∃ z : Nat, (i - b).toNat + X = more + (j + e - b).toNat := ⟨0, by omega⟩
    obtain ⟨_, hk⟩ := hk
    have h2 := Nat.mul_le_mul_right (2 ^ X) h
    rw [Nat.mul_assoc, ← Nat.pow_add, hk, Nat.pow_add, ← Nat.mul_assoc, Nat.mul_assoc n, Nat.mul_comm (2 ^ (j + e - b).toNat), ← Nat.mul_assoc] at h2
    exact Nat.le_of_mul_le_mul_right h2 (Nat.two_pow_pos _)
  have hpos : 0 < n := Nat.pos_of_ne_zero hn
  have hq : 2 * (m * 2 ^ more / n) + (m * 2 ^ more % n != 0).toNat ≤ 2 * 2 ^ X := by
    have hdm := Nat.div_add_mod (m * 2 ^ more) n
    have hle : m * 2 ^ more / n ≤ 2 ^ X := Nat.div_le_of_le_mul hD
    by_cases hr : m * 2 ^ more % n = 0
    · simp [hr]; omega
    · have : m * 2 ^ more / n ≠ 2 ^ X := by
        intro h0
        rw [h0] at hdm
        omega
      have := Bool.toNat_le (m * 2 ^ more % n != 0)
      omega
  generalize 2 * (m * 2 ^ more / n) + (m * 2 ^ more % n != 0).toNat = q at *
  unfold le2
  rw [vle_iff (b := i - j - more - 1) (by omega) (by omega)]
  have e1 : (e - (i - j - more - 1)).toNat = X + 1 := by omega
  rw [e1, Nat.pow_succ]
  simp
  omega

theorem div_number {k : FloatKind} {a b : Nat} {s t : Bool} {m n : Nat} {i j : Int} (ha : k.format.read a = .number s m i) (hb : k.format.read b = .number t n j) (hn : n ≠ 0) :
    k.format.div a b = some (k.format.nearest (s ^^ t) (2 * ((m <<< (k.format.fractionBits + 2 + n.log2 - m.log2)) / n) + ((m <<< (k.format.fractionBits + 2 + n.log2 - m.log2)) % n != 0).toNat) (i - j - (k.format.fractionBits + 2 + n.log2 - m.log2 : Nat) - 1)) := by
  unfold Format.div
  rw [ha, hb]
  unfold Datum.quotient
  simp only [if_neg hn]
  rfl

/-- at least 2^-e -/
def Lo (k : FloatKind) (d : Option Nat) (e : Nat) : Prop := e ≤ 100 ∧ ∃ b, d = some b ∧ (b / sw k % 2 == 1) = false ∧ rungL k e ≤ b % sw k ∧ b % sw k ≤ k.format.infRung

theorem bd_div {k : FloatKind} {x y : Option Nat} {d e g : Nat} (hx : Bd k x d) (hy : Bd k y g) (hl : Lo k y e) (he : d + e ≤ maxE k) : Bd k (BO.div.den k x y) (d + e) := by
  obtain ⟨_, a, rfl, ha⟩ := hx
  obtain ⟨_, b, rfl, hb⟩ := hy
  obtain ⟨he100, b', hb', l1, l2, l3⟩ := hl
  cases hb'
  obtain ⟨M, P, r1, _, v1⟩ := read_le (by omega) ha
  obtain ⟨N, Q, r2, rep, v2⟩ := read_le (by assumption) hb
  have hlow : vle 1 (-(e : Int)) N Q := ((vle_pow (a := fbOf k) (q := -(e : Int) - fbOf k) (by omega)).2).trans ((repL k e he100).vle_of_le rep l2)
  have hN : N ≠ 0 := by
    rintro rfl
    unfold vle at hlow
    simp at hlow
  refine ⟨he, ?_⟩
  show ∃ r, k.format.div a b = some r ∧ _
  rw [div_number r1 r2 hN]
  refine ⟨_, rfl, ?_⟩
  by_cases hM : M = 0
  · subst hM
    refine wr_le he ?_
    simp <;> exact vle_zero _ _ _
  · refine wr_le he (quot_le (e := ((d + e : Nat) : Int)) hN ?_ hM ?_)
    · -- M*2^P ≤ 2^d ≤ N * 2^(Q+e+d)
      refine vle.trans v1 ?_
      let c : Int := min (-(e : Int)) Q
      rw [vle_iff (b := c) (by omega) (by omega)] at hlow
      rw [vle_iff (b := c + (d + e)) (by omega) (by omega)]
      rw [show ((d : Int) - (c + (d + e))).toNat = (-(e : Int) - c).toNat by omega, show (Q + ((d + e : Nat) : Int) - (c + (d + e))).toNat = (Q - c).toNat by omega]
      exact hlow
    · -- the place is low enough
      have h1 : 2 ^ M.log2 ≤ M := Nat.log2_self_le hM
      have h2 : N < 2 ^ (N.log2 + 1) := Nat.lt_log2_self
      have h3 : P + M.log2 ≤ d := by
        let c : Int := min P d
        unfold le2 at v1
        rw [vle_iff (b := c) (by omega) (by omega)] at v1
        have := Nat.le_trans (Nat.mul_le_mul_right (2 ^ (P - c).toNat) h1) v1
        rw [← Nat.pow_add, Nat.one_mul] at this
        have := (Nat.pow_le_pow_iff_right (by omega : 1 < 2)).1 this
        omega
      have h4 : -(e : Int) ≤ Q + N.log2 := by
        let c : Int := min (-(e : Int)) Q
        rw [vle_iff (b := c) (by omega) (by omega)] at hlow
        have := Nat.lt_of_le_of_lt hlow ((Nat.mul_lt_mul_right (Nat.two_pow_pos (Q - c).toNat)).2 h2)
        rw [← Nat.pow_add, Nat.one_mul] at this
        have := (Nat.pow_lt_pow_iff_right (by omega : 1 < 2)).1 this
        omega
      omega
end Go.Proofs.YtejbahdihfnbcaaDoor.Sx

/- Order, signs, roots, conversions. -/
namespace Go.Proofs.YtejbahdihfnbcaaDoor.Sx
open Go Ieee
set_option linter.unusedSimpArgs false
set_option linter.unusedVariables false

def sgn (k : FloatKind) (b : Nat) : Bool := b / sw k % 2 == 1
/-- the signed rung -/
def sr (k : FloatKind) (b : Nat) : Int := if sgn k b then -((b % sw k : Nat) : Int) else ((b % sw k : Nat) : Int)
theorem nan_rung (k : FloatKind) (b : Nat) : isNaNb k b = false ↔ b % sw k ≤ k.format.infRung := by
  rw [nan_iff, sw_eq]; simp
theorem read_fin {k : FloatKind} {b : Nat} (h : b % sw k < k.format.infRung) : ∃ M P, k.format.read b = .number (sgn k b) M P ∧ Rep k.format M P (b % sw k) := by
  obtain ⟨M, P, h1, h2⟩ := read_rep (f := k.format) (w := b) (by rw [sw_eq]; exact h)
  rw [sw_eq] at h1 h2
  exact ⟨M, P, h1, h2⟩
theorem read_inf {k : FloatKind} {b : Nat} (h : b % sw k = k.format.infRung) : k.format.read b = .infinity (sgn k b) := by
  unfold Format.read
  rw [sw_eq, h]
  have hb : ¬ k.format.infRung < k.format.binade := by cases k <;> decide
  simp only [if_neg hb, if_neg (Nat.lt_irrefl _), if_pos]; rfl

theorem signed_cmp {f : Format} {s t : Bool} {M N R S : Nat} {P Q : Int} (h : Rep f M P R) (g : Rep f N Q S) :
    compare (signed s M (P - min P Q).toNat) (signed t N (Q - min P Q).toNat) = compare (if s then -(R : Int) else R) (if t then -(S : Int) else S) := by
  have e1 := h.vle_iff g
  have e2 := g.vle_iff h
  unfold vle at e1 e2
  rw [Int.min_comm Q P] at e2
  have z1 : M * 2 ^ (P - min P Q).toNat = 0 ↔ R = 0 := by
    have hp := Nat.two_pow_pos (P - min P Q).toNat
    constructor
    · intro h0
      have : M = 0 := by rcases Nat.mul_eq_zero.1 h0 with h1 | h1 <;> omega
      subst this
      have := h.norm
      have hq := Nat.two_pow_pos f.fractionBits
      have : P = f.leastPlace := by rcases this with h1 | h1; omega; exact h1
      rw [h.rung, this]; simp
    · intro h0
      have := h.rung
      have : M = 0 := by omega
      rw [this]; simp
  have z2 : N * 2 ^ (Q - min P Q).toNat = 0 ↔ S = 0 := by
    have hp := Nat.two_pow_pos (Q - min P Q).toNat
    constructor
    · intro h0
      have : N = 0 := by rcases Nat.mul_eq_zero.1 h0 with h1 | h1 <;> omega
      subst this
      have := g.norm
      have hq := Nat.two_pow_pos f.fractionBits
      have : Q = f.leastPlace := by rcases this with h1 | h1; omega; exact h1
      rw [g.rung, this]; simp
    · intro h0
      have := g.rung
      have : N = 0 := by omega
      rw [this]; simp
  have f1 : ∀ s M u, signed s M u = if s then -((M * 2 ^ u : Nat) : Int) else ((M * 2 ^ u : Nat) : Int) := by
    intro s M u; unfold signed; rw [Nat.shiftLeft_eq]
  rw [f1, f1]
  generalize M * 2 ^ (P - min P Q).toNat = a at *
  generalize N * 2 ^ (Q - min P Q).toNat = c at *
  rw [Int.compare_eq_ite_lt, Int.compare_eq_ite_lt]
  have key : ∀ x y z w : Int, (x < y ↔ z < w) → (y < x ↔ w < z) → (if x < y then Ordering.lt else if y < x then Ordering.gt else Ordering.eq) = (if z < w then Ordering.lt else if w < z then Ordering.gt else Ordering.eq) := by
    intro x y z w h1 h2
    by_cases a1 : x < y
    · rw [if_pos a1, if_pos (h1.1 a1)]
    · rw [if_neg a1, if_neg (fun q => a1 (h1.2 q))]
      by_cases a2 : y < x
      · rw [if_pos a2, if_pos (h2.1 a2)]
      · rw [if_neg a2, if_neg (fun q => a2 (h2.2 q))]
  cases s <;> cases t <;> simp only [Bool.false_eq_true, if_false, if_true] <;> refine key _ _ _ _ ?_ ?_ <;> omega

theorem order_sr {k : FloatKind} {x y : Nat} (hx : isNaNb k x = false) (hy : isNaNb k y = false) : k.format.order x y = some (compare (sr k x) (sr k y)) := by
  rw [nan_rung] at hx hy
  have hpos : 0 < k.format.infRung := by cases k <;> decide
  unfold Format.order
  rcases Nat.lt_or_eq_of_le hx with a1 | a1
  · obtain ⟨M, P, r1, p1⟩ := read_fin a1
    rw [r1]
    rcases Nat.lt_or_eq_of_le hy with a2 | a2
    · obtain ⟨N, Q, r2, p2⟩ := read_fin a2
      rw [r2]
      show some (compare _ _) = _
      rw [signed_cmp p1 p2]
      rfl
    · rw [read_inf a2]
      show some _ = _
      congr 1
      rw [Int.compare_eq_ite_lt]
      unfold sr
      rw [a2]
      cases sgn k x <;> cases sgn k y <;> simp
      · omega
      · rw [if_neg (by omega), if_pos (by omega)]
      · omega
      · rw [if_neg (by omega), if_pos (by omega)]
  · rw [read_inf a1]
    rcases Nat.lt_or_eq_of_le hy with a2 | a2
    · obtain ⟨N, Q, r2, p2⟩ := read_fin a2
      rw [r2]
      show some _ = _
      congr 1
      rw [Int.compare_eq_ite_lt]
      unfold sr
      rw [a1]
      cases sgn k x <;> cases sgn k y <;> simp
      · rw [if_neg (by omega), if_pos (by omega)]
      · rw [if_neg (by omega), if_pos (by omega)]
      · omega
      · omega
    · rw [read_inf a2]
      show some (compare (sgn k y).toNat (sgn k x).toNat) = _
      congr 1
      unfold sr
      rw [a1, a2]
      cases sgn k x <;> cases sgn k y <;> simp only [Bool.false_eq_true, if_false, if_true] <;> rw [Int.compare_eq_ite_lt]
      · rw [if_neg (by omega), if_neg (by omega)]; rfl
      · rw [if_neg (by omega), if_pos (by omega)]; rfl
      · rw [if_pos (by omega)]; rfl
      · rw [if_neg (by omega), if_neg (by omega)]; rfl

theorem cmpC_sr {c : Nat} {k : FloatKind} {x y : Nat} (hx : isNaNb k x = false) (hy : isNaNb k y = false) :
    cmpC c k.format x y = match c with | 0 => decide (sr k x < sr k y) | 1 => decide (sr k x ≤ sr k y) | _ => decide (sr k x = sr k y) := by
  unfold cmpC
  rw [order_sr hx hy, Int.compare_eq_ite_lt]
  match c with
  | 0 =>
    show (some _ == some Ordering.lt) = decide _
    by_cases h : sr k x < sr k y
    · rw [if_pos h, decide_eq_true h]; rfl
    · rw [if_neg h, decide_eq_false h]
      by_cases g : sr k y < sr k x
      · rw [if_pos g]; rfl
      · rw [if_neg g]; rfl
  | 1 =>
    show ((some _ == some Ordering.lt) || (some _ == some Ordering.eq)) = decide _
    by_cases h : sr k x < sr k y
    · rw [if_pos h, decide_eq_true (by omega)]; rfl
    · rw [if_neg h]
      by_cases g : sr k y < sr k x
      · rw [if_pos g, decide_eq_false (by omega)]; rfl
      · rw [if_neg g, decide_eq_true (by omega)]; rfl
  | n + 2 =>
    show (some _ == some Ordering.eq) = decide _
    by_cases h : sr k x < sr k y
    · rw [if_pos h, decide_eq_false (by omega)]; rfl
    · rw [if_neg h]
      by_cases g : sr k y < sr k x
      · rw [if_pos g, decide_eq_false (by omega)]; rfl
      · rw [if_neg g, decide_eq_true (by omega)]; rfl
theorem cmpC_nan {c : Nat} {k : FloatKind} {x y : Nat} (h : isNaNb k x = true ∨ isNaNb k y = true) : cmpC c k.format x y = false := by
  unfold cmpC
  rw [order_nan k x y h]
  match c with
  | 0 => rfl
  | 1 => rfl
  | n + 2 => rfl
/-- a test that is true is of two that are no NaN -/
theorem cmpC_true {c : Nat} {k : FloatKind} {x y : Nat} (h : cmpC c k.format x y = true) : isNaNb k x = false ∧ isNaNb k y = false := by
  cases hx : isNaNb k x with
  | true => rw [cmpC_nan (.inl hx)] at h; cases h
  | false =>
    cases hy : isNaNb k y with
    | true => rw [cmpC_nan (.inr hy)] at h; cases h
    | false => exact ⟨rfl, rfl⟩
theorem cmpD_true {c : Nat} {k : FloatKind} {x y : Option Nat} (h : cmpD c k x y = true) : ∃ a b, x = some a ∧ y = some b ∧ isNaNb k a = false ∧ isNaNb k b = false ∧ cmpC c k.format a b = true := by
  match x, y, h with
  | some a, some b, h => exact ⟨a, b, rfl, rfl, (cmpC_true h).1, (cmpC_true h).2, h⟩

/-! no sign, or nothing -/
def NN (k : FloatKind) (d : Option Nat) : Prop := ∀ b, d = some b → sgn k b = true → b % sw k = 0
theorem NN.sr {k : FloatKind} {b : Nat} (h : NN k (some b)) : 0 ≤ Sx.sr k b := by
  unfold Sx.sr
  split
  · rename_i hs; rw [h b rfl hs]; simp
  · omega
theorem word_sgn {k : FloatKind} {s : Bool} {r : Nat} (h : r ≤ k.format.infRung) : sgn k (k.format.word s r) = s ∧ k.format.word s r % sw k = r := by
  have := word_mod (k := k) (s := s) (r := r) (Nat.lt_of_le_of_lt h (inf_lt_sw k))
  exact ⟨this.2, this.1⟩
theorem nearest_sgn {k : FloatKind} {s : Bool} {m : Nat} {p : Int} : sgn k (k.format.nearest s m p) = s := nearest_rung.2
theorem nearest_zero {k : FloatKind} {s : Bool} {p : Int} : k.format.nearest s 0 p % sw k = 0 := by rw [nearest_rung.1, if_pos rfl]
theorem nn_nearest {k : FloatKind} {s : Bool} {m : Nat} {p : Int} (h : s = true → m = 0) : NN k (some (k.format.nearest s m p)) := by
  intro b hb hs
  cases hb
  rw [nearest_sgn] at hs
  rw [h hs]; exact nearest_zero
theorem nn_inf {k : FloatKind} : NN k (some (k.format.word false k.format.infRung)) := by
  intro b hb hs
  cases hb
  rw [(word_sgn (Nat.le_refl _)).1] at hs; cases hs
/-- how a word that is never below 0 reads -/
theorem NN.read {k : FloatKind} {b : Nat} (h : NN k (some b)) : (∃ s M P, k.format.read b = .number s M P ∧ (s = true → M = 0)) ∨ k.format.read b = .infinity false ∨ ∃ t, k.format.read b = .nan false t := by
  rcases Nat.lt_trichotomy (b % sw k) k.format.infRung with h1 | h1 | h1
  · obtain ⟨M, P, r, p⟩ := read_fin h1
    refine .inl ⟨_, M, P, r, fun hs => ?_⟩
    have h0 := h b rfl hs
    have := p.rung
    omega
  · refine .inr (.inl ?_)
    rw [read_inf h1]
    cases hs : sgn k b with
    | false => rfl
    | true =>
      have h0 := h b rfl hs
      have hpos : 0 < k.format.infRung := by cases k <;> decide
      omega
  · refine .inr (.inr ?_)
    have hs : sgn k b = false := by
      cases hs : sgn k b with
      | false => rfl
      | true => have h0 := h b rfl hs; omega
    unfold sgn at hs
    unfold Format.read
    simp only [sw_eq]
    have hb : k.format.binade ≤ k.format.infRung := by cases k <;> decide
    rw [if_neg (by omega), if_neg (by omega), if_neg (by omega), hs]
    exact ⟨_, rfl⟩
theorem nn_mul {k : FloatKind} {x : Option Nat} : NN k (BO.mul.den k x x) := by
  cases x with
  | none => intro b hb; cases hb
  | some a =>
    show NN k (k.format.mul a a)
    unfold Format.mul
    cases k.format.read a with
    | nan s t => intro b hb; cases hb
    | infinity s => show NN k (some (k.format.word (s ^^ s) _)); rw [Bool.xor_self]; exact nn_inf
    | number s m p => show NN k (some (k.format.nearest (s ^^ s) _ _)); rw [Bool.xor_self]; exact nn_nearest (by simp)
theorem nn_add {k : FloatKind} {x y : Option Nat} (hx : NN k x) (hy : NN k y) : NN k (BO.add.den k x y) := by
  match x, y, hx, hy with
  | none, _, _, _ => intro b hb; cases hb
  | some _, none, _, _ => intro b hb; cases hb
  | some a, some c, hx, hy =>
    show NN k (k.format.add a c)
    unfold Format.add
    rcases hx.read with ⟨s, M, P, r1, h1⟩ | r1 | ⟨t, r1⟩ <;> rcases hy.read with ⟨s', N, Q, r2, h2⟩ | r2 | ⟨t', r2⟩ <;> rw [r1, r2]
    · show NN k (some (k.format.nearest (if signed s M (P - min P Q).toNat + signed s' N (Q - min P Q).toNat = 0 then s && s' else decide (signed s M (P - min P Q).toNat + signed s' N (Q - min P Q).toNat < 0)) (signed s M (P - min P Q).toNat + signed s' N (Q - min P Q).toNat).natAbs (min P Q)))
      have p1 : 0 ≤ signed s M (P - min P Q).toNat := by
        unfold signed
        cases s
        · exact Int.natCast_nonneg _
        · rw [h1 rfl]; simp
      have p2 : 0 ≤ signed s' N (Q - min P Q).toNat := by
        unfold signed
        cases s'
        · exact Int.natCast_nonneg _
        · rw [h2 rfl]; simp
      generalize signed s M (P - min P Q).toNat = u at *
      generalize signed s' N (Q - min P Q).toNat = v at *
      refine nn_nearest fun hs => ?_
      by_cases h0 : u + v = 0
      · rw [h0]; rfl
      · rw [if_neg h0] at hs
        simp at hs; omega
    · exact nn_inf
    · intro b hb; cases hb
    · exact nn_inf
    · exact nn_inf
    · intro b hb; cases hb
    · intro b hb; cases hb
    · intro b hb; cases hb
    · intro b hb; cases hb
theorem nn_sqrt {k : FloatKind} {x d : Option Nat} (hx : NN k x) (h : UO.sqrt.den k x = some d) : NN k d := by
  cases x with
  | none => cases h; intro b hb; cases hb
  | some a =>
    simp only [UO.den, UO.fn] at h
    cases h
    unfold Format.sqrt
    rcases hx.read with ⟨s, M, P, r1, h1⟩ | r1 | ⟨t, r1⟩ <;> rw [r1]
    · unfold Datum.root
      by_cases h0 : M = 0
      · simp only [if_pos h0]
        show NN k (some (k.format.nearest s M P))
        rw [h0]; exact nn_nearest fun _ => rfl
      · simp only [if_neg h0]
        have : s = false := by cases s; rfl; exact absurd (h1 rfl) h0
        rw [this]
        exact nn_nearest (by simp)
    · exact nn_inf
    · intro b hb; cases hb
theorem nn_abs {k : FloatKind} {x d : Option Nat} (h : UO.abs.den k x = some d) : NN k d := by
  cases x with
  | none => cases h; intro b hb; cases hb
  | some a =>
    simp only [UO.den, UO.fn] at h
    cases h
    intro b hb hs
    cases hb
    rw [sw_eq] at hs
    unfold sgn at hs
    rw [Nat.div_eq_of_lt (Nat.mod_lt _ (by cases k <;> decide))] at hs
    simp at hs

/-! conversions -/
theorem conv_num {k l : FloatKind} {b : Nat} {s : Bool} {m : Nat} {p : Int} (hr : k.format.read b = .number s m p) (hf : l.format.nearest s m p % sw l < l.format.infRung) : convD k l b = some (some (l.format.nearest s m p)) := by
  unfold convD FloatKind.decode FloatKind.encode
  rw [hr]
  show (match (l.format.read (l.format.nearest s m p)).isInfinity && !(Datum.number s m p).isInfinity with | true => none | false => some (some (l.format.nearest s m p))) = _
  obtain ⟨M, P, h1, _⟩ := read_fin hf
  rw [h1]; rfl
theorem conv_inf {k l : FloatKind} {b : Nat} {s : Bool} (hr : k.format.read b = .infinity s) : convD k l b = some (some (l.format.word s l.format.infRung)) := by
  unfold convD FloatKind.decode FloatKind.encode
  rw [hr]
  simp [Datum.isInfinity]; rfl
theorem binade_inf (l : FloatKind) : l.format.infRung + l.format.binade = sw l ∧ 0 < l.format.binade := by cases l <;> decide
theorem read_nan_word {l : FloatKind} {s : Bool} {t : Nat} (h0 : t ≠ 0) (ht : t < l.format.binade) : l.format.read (l.format.word s (l.format.infRung + t)) = .nan s t := by
  obtain ⟨h1, h2⟩ := binade_inf l
  have hw := word_mod (k := l) (s := s) (r := l.format.infRung + t) (by omega)
  have hb : l.format.binade ≤ l.format.infRung := by cases l <;> decide
  unfold Format.read
  simp only [sw_eq]
  rw [hw.1, hw.2, if_neg (by omega), if_neg (by omega), if_neg (by omega)]
  congr 1; omega
theorem conv_nan {k l : FloatKind} {b : Nat} {s : Bool} {t : Nat} (hr : k.format.read b = .nan s t) (h0 : t ≠ 0) (ht : t < l.format.binade) : convD k l b = some (some (l.format.word s (l.format.infRung + t))) := by
  unfold convD FloatKind.decode FloatKind.encode
  rw [hr]
  have e : l.format.write (.nan s t) = l.format.word s (l.format.infRung + t) := by
    show l.format.word s (l.format.infRung + t % l.format.binade) = _
    rw [Nat.mod_eq_of_lt ht]
  rw [e, read_nan_word h0 ht]; rfl
theorem read_nan_lt {k : FloatKind} {b : Nat} (h : k.format.infRung < b % sw k) : ∃ t, k.format.read b = .nan (sgn k b) t ∧ t ≠ 0 ∧ t < k.format.binade ∧ b % sw k = k.format.infRung + t := by
  obtain ⟨h1, h2⟩ := binade_inf k
  have hb : k.format.binade ≤ k.format.infRung := by cases k <;> decide
  have hlt : b % sw k < sw k := Nat.mod_lt _ (by omega)
  refine ⟨b % sw k - k.format.infRung, ?_, by omega, by omega, by omega⟩
  unfold Format.read
  simp only [sw_eq]
  rw [if_neg (by omega), if_neg (by omega), if_neg (by omega)]; rfl
theorem nn_conv {k l : FloatKind} {b : Nat} {d : Option Nat} (hx : NN k (some b)) (h : convD k l b = some d) : NN l d := by
  have key : ∀ D : Datum, k.format.read b = D → d = some (l.format.write D) := by
    intro D hD
    unfold convD FloatKind.decode FloatKind.encode at h
    rw [hD] at h
    split at h
    · cases h
    · cases h; rfl
  rcases hx.read with ⟨s, M, P, r1, h1⟩ | r1 | ⟨t, r1⟩
  · rw [key _ r1]; exact nn_nearest h1
  · rw [key _ r1]; exact nn_inf
  · rw [key _ r1]
    intro c hc hs
    cases hc
    exfalso
    have hp := (binade_inf l).2
    have := (word_mod (k := l) (s := false) (r := l.format.infRung + t % l.format.binade) (by have := Nat.mod_lt t hp; have := (binade_inf l).1; omega)).2
    have hs' : (l.format.word false (l.format.infRung + t % l.format.binade) / sw l % 2 == 1) = true := hs
    rw [this] at hs'; cases hs'
end Go.Proofs.YtejbahdihfnbcaaDoor.Sx

/- Roots, exact conversions, halves, whole numbers. -/
namespace Go.Proofs.YtejbahdihfnbcaaDoor.Sx
open Go Ieee
set_option linter.unusedSimpArgs false
set_option linter.unusedVariables false

theorem rootFrom_sq (n : Nat) : ∀ (t r : Nat), r * r ≤ n → Datum.rootFrom n t r * Datum.rootFrom n t r ≤ n
  | 0, r, h => h
  | t + 1, r, h => by
    unfold Datum.rootFrom
    simp only
    split
    · rename_i hl; exact rootFrom_sq n t _ hl
    · exact rootFrom_sq n t r h

/-- the root of m * 2^i is at most 2^E if m * 2^i is at most 2^(2E) -/
theorem root_le {n w : Nat} {h E : Int} (hw : w * w ≤ n) (hn : n * 1 ≤ 2 ^ (2 * (E - h).toNat)) (hE : h ≤ E) : le2 (2 * w + (w * w != n).toNat) (h - 1) E := by
  unfold le2
  rw [vle_iff (b := h - 1) (Int.le_refl _) (by omega), show (h - 1 - (h - 1)).toNat = 0 by omega, show (E - (h - 1)).toNat = (E - h).toNat + 1 by omega, Nat.pow_succ]
  generalize (E - h).toNat = X at *
  rw [Nat.mul_comm 2 X, Nat.pow_mul, Nat.pow_two] at hn
  generalize 2 ^ X = K at *
  have hle : w ≤ K := by
    rcases Nat.le_total w K with h1 | h1
    · exact h1
    · have h2 := Nat.mul_le_mul h1 h1
      have : K * K = w * w := by omega
      have := Nat.mul_self_inj.1 this
      omega
  by_cases he : w = K
  · subst he
    have : w * w = n := by omega
    simp [this]
    omega
  · have := Bool.toNat_le (w * w != n)
    simp
    omega

theorem sqrt_num {k : FloatKind} {b m : Nat} {i : Int} (h0 : m ≠ 0) (hr : k.format.read b = .number false m i) :
    ∃ (more n w : Nat) (h : Int), n = m * 2 ^ more ∧ i - more = 2 * h ∧ w * w ≤ n ∧ (2 * (k.format.fractionBits + 2) : Nat) ≤ more + m.log2 ∧ w = Datum.rootFrom n (n.log2 / 2 + 1) 0 ∧
      k.format.sqrt b = some (k.format.nearest false (2 * w + (w * w != n).toNat) (h - 1)) := by
  unfold Format.sqrt
  rw [hr]
  unfold Datum.root
  simp only [if_neg h0, Bool.false_eq_true, if_false]
  generalize hd : 2 * (k.format.fractionBits + 2) - m.log2 = m0
  generalize hmore : m0 + ((i - m0) % 2).toNat = more
  refine ⟨more, m <<< more, _, (i - more) / 2, Nat.shiftLeft_eq _ _, ?_, rootFrom_sq _ _ 0 (Nat.zero_le _), ?_, rfl, rfl⟩
  · have : (i - more) % 2 = 0 := by omega
    omega
  · omega

theorem bd_sqrt {k : FloatKind} {x d : Option Nat} {e : Nat} (hx : Bd k x e) (hn : NN k x) (h : UO.sqrt.den k x = some d) : Bd k d ((e + 1) / 2) := by
  obtain ⟨he, a, rfl, ha⟩ := hx
  obtain ⟨M, P, r1, rep, v1⟩ := read_le he ha
  have he2 : (e + 1) / 2 ≤ maxE k := by have : 1 ≤ maxE k := by cases k <;> decide
                                        omega
  refine ⟨he2, ?_⟩
  simp only [UO.den, UO.fn] at h
  cases h
  by_cases h0 : M = 0
  · refine ⟨k.format.nearest (a / sw k % 2 == 1) M P, ?_, ?_⟩
    · unfold Format.sqrt
      rw [r1]
      unfold Datum.root
      simp only [if_pos h0]; rfl
    · rw [h0, nearest_zero]; exact Nat.zero_le _
  · have hs : (a / sw k % 2 == 1) = false := by
      cases hs : (a / sw k % 2 == 1) with
      | false => rfl
      | true => have hz := hn a rfl hs; have := rep.rung; omega
    rw [hs] at r1
    obtain ⟨more, n, w, hh, rfl, h2, hw, hmore, _, hres⟩ := sqrt_num h0 r1
    refine ⟨_, hres, wr_le he2 (root_le hw ?_ ?_)⟩
    · -- m*2^more ≤ 2^(2(E-h))
      have h3 : P + M.log2 ≤ e := by
        have h1 : 2 ^ M.log2 ≤ M := Nat.log2_self_le h0
        let c : Int := min P e
        unfold le2 at v1
        rw [vle_iff (b := c) (by omega) (by omega)] at v1
        have := Nat.le_trans (Nat.mul_le_mul_right (2 ^ (P - c).toNat) h1) v1
        rw [← Nat.pow_add, Nat.one_mul] at this
        have := (Nat.pow_le_pow_iff_right (by omega : 1 < 2)).1 this
        omega
      let c : Int := min P e
      unfold le2 at v1
      rw [vle_iff (b := P) (Int.le_refl _) (by omega)] at v1
      simp at v1
      rw [Nat.mul_one]
      refine Nat.le_trans (Nat.mul_le_mul_right (2 ^ more) v1) ?_
      rw [← Nat.pow_add]
      exact Nat.pow_le_pow_right (by omega) (by omega)
    · have h3 : P + M.log2 ≤ e := by
        have h1 : 2 ^ M.log2 ≤ M := Nat.log2_self_le h0
        let c : Int := min P e
        unfold le2 at v1
        rw [vle_iff (b := c) (by omega) (by omega)] at v1
        have := Nat.le_trans (Nat.mul_le_mul_right (2 ^ (P - c).toNat) h1) v1
        rw [← Nat.pow_add, Nat.one_mul] at this
        have := (Nat.pow_le_pow_iff_right (by omega : 1 < 2)).1 this
        omega
      omega

/-! exact conversions -/
/-- a number of the first format is one of the second -/
theorem rep_wide {M R : Nat} {P : Int} (h0 : M ≠ 0) (h : Rep FloatKind.f32.format M P R) (hR : R ≤ FloatKind.f32.format.infRung) :
    ∃ N Q S, Rep FloatKind.f64.format N Q S ∧ vle M P N Q ∧ vle N Q M P ∧ S ≤ rung2 .f64 128 := by
  have hl1 : 2 ^ M.log2 ≤ M := Nat.log2_self_le h0
  have hl2 : M < 2 ^ (M.log2 + 1) := Nat.lt_log2_self
  have hl : M.log2 ≤ 23 := by
    have h1 : M < 2 ^ 24 := h.lt
    have := Nat.lt_of_le_of_lt hl1 h1
    have := (Nat.pow_lt_pow_iff_right (by omega : 1 < 2)).1 this
    omega
  have hlo : (-149 : Int) ≤ P := h.lo
  have hv : vle M P (M * 2 ^ (52 - M.log2)) (P - (52 - M.log2 : Nat)) ∧ vle (M * 2 ^ (52 - M.log2)) (P - (52 - M.log2 : Nat)) M P := by
    rw [vle_iff (b := P - (52 - M.log2 : Nat)) (by omega) (Int.le_refl _), vle_iff (b := P - (52 - M.log2 : Nat)) (Int.le_refl _) (by omega)]
    rw [show (P - (P - ((52 - M.log2 : Nat) : Int))).toNat = 52 - M.log2 by omega]; simp
  have hrep : Rep FloatKind.f64.format (M * 2 ^ (52 - M.log2)) (P - (52 - M.log2 : Nat)) ((P - (52 - M.log2 : Nat) - (-1074)).toNat * 2 ^ 52 + M * 2 ^ (52 - M.log2)) := by
    refine ⟨?_, ?_, .inl ?_, rfl⟩
    · show (-1074 : Int) ≤ _; omega
    · show M * 2 ^ (52 - M.log2) < 2 ^ 53
      have := (Nat.mul_lt_mul_right (Nat.two_pow_pos (52 - M.log2))).2 hl2
      rw [← Nat.pow_add, show M.log2 + 1 + (52 - M.log2) = 53 by omega] at this
      exact this
    · show 2 ^ 52 ≤ M * 2 ^ (52 - M.log2)
      have := Nat.mul_le_mul_right (2 ^ (52 - M.log2)) hl1
      rw [← Nat.pow_add, show M.log2 + (52 - M.log2) = 52 by omega] at this
      exact this
  refine ⟨_, _, _, hrep, hv.1, hv.2, ?_⟩
  have hb : vle M P 1 128 := (h.vle_of_le (rep2 .f32 128) hR).trans (vle_pow (by show (128 : Int) = _; have : (fbOf .f32 : Int) = 23 := rfl; omega)).1
  exact (hrep.vle_iff (rep2 .f64 128)).1 (hv.2.trans (hb.trans (vle_pow (by show (128 : Int) = _; have : (fbOf .f64 : Int) = 52 := rfl; omega)).2))

theorem veq_zero {M N : Nat} {P Q : Int} (h : vle M P N Q) (hN : N = 0) : M = 0 := by
  subst hN
  unfold vle at h
  have hp := Nat.two_pow_pos (P - min P Q).toNat
  rw [Nat.zero_mul] at h
  rcases Nat.mul_eq_zero.1 (Nat.le_zero.1 h) with h1 | h1 <;> omega

/-- a word is read back as what was written, if that is a number of the format -/
theorem nearest_exact {k : FloatKind} {s : Bool} {m M R : Nat} {p P : Int} (h0 : m ≠ 0) (h1 : vle m p M P) (h2 : vle M P m p) (hr : Rep k.format M P R) (hR : R ≤ k.format.infRung) :
    k.format.nearest s m p = k.format.word s R := by
  rw [nearest_eq h0, near_eq h0 h1 h2 hr, Nat.min_eq_left hR]

/-- widening a finite number -/
theorem widen_fin {b : Nat} (h : b % sw .f32 < FloatKind.f32.format.infRung) :
    ∃ w M P N Q, convD .f32 .f64 b = some (some w) ∧ FloatKind.f32.format.read b = .number (sgn .f32 b) M P ∧ Rep FloatKind.f32.format M P (b % sw .f32) ∧
      FloatKind.f64.format.read w = .number (sgn .f32 b) N Q ∧ Rep FloatKind.f64.format N Q (w % sw .f64) ∧ sgn .f64 w = sgn .f32 b ∧ w % sw .f64 ≤ rung2 .f64 128 ∧ vle M P N Q ∧ vle N Q M P := by
  obtain ⟨M, P, hr, rep⟩ := read_fin h
  by_cases h0 : M = 0
  · have hz : FloatKind.f64.format.nearest (sgn .f32 b) M P % sw .f64 = 0 := by rw [h0]; exact nearest_zero
    have hlt : FloatKind.f64.format.nearest (sgn .f32 b) M P % sw .f64 < FloatKind.f64.format.infRung := by rw [hz]; decide
    obtain ⟨N, Q, r2, rep2'⟩ := read_fin hlt
    rw [nearest_sgn] at r2
    have hN : N = 0 := by have := rep2'.rung; omega
    refine ⟨_, M, P, N, Q, conv_num hr hlt, hr, rep, r2, rep2', nearest_sgn, by rw [hz]; exact Nat.zero_le _, ?_, ?_⟩
    · rw [h0]; exact vle_zero _ _ _
    · rw [hN]; exact vle_zero _ _ _
  · obtain ⟨N, Q, S, rep3, v1, v2, hS⟩ := rep_wide h0 rep (Nat.le_of_lt h)
    have hfin : S < FloatKind.f64.format.infRung := Nat.lt_of_le_of_lt hS (rung2_fin (k := .f64) (by decide))
    have hw := nearest_exact (k := .f64) (s := sgn .f32 b) h0 v1 v2 rep3 (Nat.le_of_lt hfin)
    obtain ⟨q1, q2⟩ := word_sgn (k := .f64) (s := sgn .f32 b) (Nat.le_of_lt hfin)
    have hlt : FloatKind.f64.format.nearest (sgn .f32 b) M P % sw .f64 < FloatKind.f64.format.infRung := by rw [hw, q2]; exact hfin
    obtain ⟨N', Q', r2, rep4⟩ := read_fin hlt
    rw [nearest_sgn] at r2
    have e : FloatKind.f64.format.nearest (sgn .f32 b) M P % sw .f64 = S := by rw [hw, q2]
    refine ⟨_, M, P, N', Q', conv_num hr hlt, hr, rep, r2, rep4, nearest_sgn, by rw [e]; exact hS, ?_, ?_⟩
    · exact v1.trans ((rep3.vle_iff rep4).2 (by rw [e]; exact Nat.le_refl _))
    · exact ((rep4.vle_iff rep3).2 (by rw [e]; exact Nat.le_refl _)).trans v2

/-- a float64 that is a float32 is narrowed exactly -/
theorem narrow_exact {w : Nat} {s : Bool} {M N R : Nat} {P Q : Int} (hr : FloatKind.f64.format.read w = .number s N Q) (rep : Rep FloatKind.f32.format M P R) (hR : R < FloatKind.f32.format.infRung) (v1 : vle M P N Q) (v2 : vle N Q M P) :
    convD .f64 .f32 w = some (some (FloatKind.f32.format.word s R)) := by
  by_cases h0 : N = 0
  · have hM := veq_zero v1 h0
    subst h0
    have hR0 : R = 0 := by
      have := rep.norm
      have hp := Nat.two_pow_pos FloatKind.f32.format.fractionBits
      have : P = FloatKind.f32.format.leastPlace := by rcases this with h1 | h1; omega; exact h1
      rw [rep.rung, this, hM]; simp
    have e : FloatKind.f32.format.nearest s 0 Q = FloatKind.f32.format.word s 0 := by simp [Format.nearest]
    rw [conv_num hr (by rw [nearest_zero]; decide), e, hR0]
  · have e := nearest_exact (k := .f32) (s := s) h0 v2 v1 rep (Nat.le_of_lt hR)
    rw [conv_num hr (by rw [e, (word_sgn (Nat.le_of_lt hR)).2]; exact hR), e]

/-- the size of a float32, by way of float64 -/
theorem abs_round {b w : Nat} (h : convD .f32 .f64 b = some (some w)) : convD .f64 .f32 (w % sw .f64) = some (some (b % sw .f32)) := by
  rcases Nat.lt_trichotomy (b % sw .f32) FloatKind.f32.format.infRung with h1 | h1 | h1
  · obtain ⟨w', M, P, N, Q, c, r1, rep1, r2, rep2, sg, hS, v1, v2⟩ := widen_fin h1
    rw [h] at c; cases c
    have hfin : w % sw .f64 < FloatKind.f64.format.infRung := Nat.lt_of_le_of_lt hS (rung2_fin (k := .f64) (by decide))
    have hm : w % sw .f64 % sw .f64 = w % sw .f64 := Nat.mod_mod _ _
    obtain ⟨N', Q', r3, rep3⟩ := read_fin (k := .f64) (b := w % sw .f64) (by rw [hm]; exact hfin)
    have hsg : sgn .f64 (w % sw .f64) = false := by unfold sgn; rw [Nat.div_eq_of_lt (Nat.mod_lt _ (by decide))]; rfl
    rw [hsg] at r3
    rw [hm] at rep3
    have := narrow_exact r3 rep1 h1 (v1.trans ((rep2.vle_iff rep3).2 (Nat.le_refl _))) (((rep3.vle_iff rep2).2 (Nat.le_refl _)).trans v2)
    rw [this]; rfl
  · rw [conv_inf (read_inf h1)] at h
    cases h
    have := (word_sgn (k := .f64) (s := sgn .f32 b) (Nat.le_refl _)).2
    rw [this]
    have e : FloatKind.f64.format.infRung % sw .f64 = FloatKind.f64.format.infRung := by decide
    have r : FloatKind.f64.format.read FloatKind.f64.format.infRung = .infinity (sgn .f64 FloatKind.f64.format.infRung) := read_inf e
    rw [conv_inf r, h1]
    rfl
  · obtain ⟨t, r, t0, tl, e⟩ := read_nan_lt h1
    have tl' : t < 8388608 := tl
    rw [conv_nan r t0 (by show t < 4503599627370496; omega)] at h
    cases h
    have hw : FloatKind.f64.format.infRung + t < sw .f64 := by
      have := (binade_inf .f64).1
      have : FloatKind.f64.format.binade = 4503599627370496 := rfl
      omega
    rw [(word_mod (k := .f64) hw).1]
    have r2 : FloatKind.f64.format.read (FloatKind.f64.format.infRung + t) = .nan false t := read_nan_word (l := .f64) (s := false) t0 (by show t < 4503599627370496; omega)
    rw [conv_nan r2 t0 tl, e]
    rfl

/-! halves -/
theorem two_read (k : FloatKind) : k.format.read (two k) = .number false (2 ^ fbOf k) (1 - fbOf k) := by cases k <;> decide +kernel
theorem half_read (k : FloatKind) : k.format.read (half k) = .number false (2 ^ fbOf k) (-1 - fbOf k) := by cases k <;> decide +kernel
theorem half_eq (k : FloatKind) (d : Option Nat) : BO.mul.den k (some (half k)) d = BO.div.den k d (some (two k)) := by
  cases d with
  | none => rfl
  | some b =>
    show k.format.mul (half k) b = k.format.div b (two k)
    have hpos := Nat.two_pow_pos (fbOf k)
    rcases Nat.lt_trichotomy (b % sw k) k.format.infRung with h | h | h
    · obtain ⟨M, P, r, rep⟩ := read_fin h
      rw [div_number r (two_read k) (Nat.ne_of_gt hpos)]
      unfold Format.mul
      rw [half_read, r]
      show some (k.format.nearest (false ^^ sgn k b) (2 ^ fbOf k * M) (-1 - fbOf k + P)) = _
      have hl : (2 ^ fbOf k).log2 = fbOf k := Nat.log2_two_pow
      rw [hl, fb_eq]
      have hM : M.log2 ≤ fbOf k := by
        by_cases h0 : M = 0
        · subst h0; simp
        · have h1 := Nat.lt_of_le_of_lt (Nat.log2_self_le h0) rep.lt
          rw [fb_eq] at h1
          have := (Nat.pow_lt_pow_iff_right (by omega : 1 < 2)).1 h1
          omega
      generalize hmore : fbOf k + 2 + fbOf k - M.log2 = more
      have hm : fbOf k ≤ more := by omega
      rw [Nat.shiftLeft_eq]
      have e1 : M * 2 ^ more = M * 2 ^ (more - fbOf k) * 2 ^ fbOf k := by rw [Nat.mul_assoc, ← Nat.pow_add, Nat.sub_add_cancel hm]
      have e2 : M * 2 ^ more / 2 ^ fbOf k = M * 2 ^ (more - fbOf k) := by rw [e1, Nat.mul_div_cancel _ hpos]
      have e3 : M * 2 ^ more % 2 ^ fbOf k = 0 := by rw [e1]; exact Nat.mul_mod_left _ _
      rw [e2, e3]
      have e4 : 2 * (M * 2 ^ (more - fbOf k)) + (0 != 0 : Bool).toNat = M * 2 ^ (more - fbOf k + 1) := by
        rw [show (0 != 0 : Bool).toNat = 0 from rfl, Nat.add_zero, Nat.pow_succ, Nat.mul_comm (2 ^ (more - fbOf k)) 2, Nat.mul_left_comm]
      rw [e4, Nat.mul_comm (2 ^ fbOf k) M]
      rw [show (-1 - (fbOf k : Int) + P) = (P - 1) - fbOf k by omega, nearest_shift, show P - (1 - (fbOf k : Int)) - more - 1 = (P - 1) - (more - fbOf k + 1 : Nat) by omega, nearest_shift]
      simp
    · unfold Format.mul Format.div
      rw [half_read, read_inf h, two_read]
      have hne : 2 ^ fbOf k ≠ 0 := Nat.ne_of_gt hpos
      simp [Datum.product, Datum.quotient, hne]
    · obtain ⟨t, r, _⟩ := read_nan_lt h
      unfold Format.mul Format.div
      rw [half_read, r, two_read]
      rfl
theorem wide_all (d : Option Nat) : ∃ r, UO.widen.den .f32 d = some r := by
  cases d with
  | none => exact ⟨none, rfl⟩
  | some b =>
    show ∃ r, convD .f32 .f64 b = some r
    rcases Nat.lt_trichotomy (b % sw .f32) FloatKind.f32.format.infRung with h | h | h
    · obtain ⟨w, M, P, N, Q, c, _⟩ := widen_fin h; exact ⟨_, c⟩
    · exact ⟨_, conv_inf (read_inf h)⟩
    · obtain ⟨t, r, t0, tl, e⟩ := read_nan_lt h
      have tl' : t < 8388608 := tl
      exact ⟨_, conv_nan r t0 (by show t < 4503599627370496; omega)⟩
end Go.Proofs.YtejbahdihfnbcaaDoor.Sx

/- Whole numbers near a number; a part of a length is not greater than the length. -/
namespace Go.Proofs.YtejbahdihfnbcaaDoor.Sx
open Go Ieee
set_option linter.unusedSimpArgs false
set_option linter.unusedVariables false

theorem cut_near {neg : Bool} (n d : Nat) : Toward.even.cut neg n d * 2 ^ d ≤ n + 2 ^ d ∧ n ≤ Toward.even.cut neg n d * 2 ^ d + 2 ^ d := by
  have hp := Nat.two_pow_pos d
  have hdm := Nat.div_add_mod n (2 ^ d)
  have hm := Nat.mod_lt n hp
  have e : 2 ^ d * (n / 2 ^ d) = n / 2 ^ d * 2 ^ d := Nat.mul_comm _ _
  have h1 : n / 2 ^ d ≤ Toward.even.cut neg n d := cut_ge (by omega)
  have h2 : Toward.even.cut neg n d ≤ n / 2 ^ d + 1 := cut_le (by rw [Nat.add_mul]; omega)
  have h3 := Nat.mul_le_mul_right (2 ^ d) h1
  have h4 := Nat.mul_le_mul_right (2 ^ d) h2
  rw [Nat.add_mul] at h4
  omega

theorem low_le (k : FloatKind) : k.format.leastPlace ≤ -(fbOf k : Int) ∧ rung2 k 54 < k.format.infRung := by
  cases k
  · exact ⟨by show (-149 : Int) ≤ -23; omega, by decide⟩
  · exact ⟨by show (-1074 : Int) ≤ -52; omega, by decide⟩

/-- a whole number that is not too great is a number of the format -/
theorem int_rep (k : FloatKind) {c : Nat} (h0 : c ≠ 0) (h : c ≤ 2 ^ (fbOf k + 1)) : ∃ M P R, Rep k.format M P R ∧ vle c 0 M P ∧ vle M P c 0 ∧ R < k.format.infRung := by
  have hl1 : 2 ^ c.log2 ≤ c := Nat.log2_self_le h0
  have hl2 : c < 2 ^ (c.log2 + 1) := Nat.lt_log2_self
  obtain ⟨hlo, hfin⟩ := low_le k
  have hfb : fbOf k ≤ 52 := by cases k <;> decide
  have main : ∃ M P R, Rep k.format M P R ∧ vle c 0 M P ∧ vle M P c 0 := by
    by_cases hc : c = 2 ^ (fbOf k + 1)
    · refine ⟨2 ^ fbOf k, 1, _, ⟨by omega, by rw [fb_eq]; exact Nat.pow_lt_pow_right (by omega) (by omega), .inl (by rw [fb_eq]; exact Nat.le_refl _), rfl⟩, ?_, ?_⟩
      · rw [vle_iff (b := 0) (by omega) (by omega), hc, Nat.pow_succ]; simp
      · rw [vle_iff (b := 0) (by omega) (by omega), hc, Nat.pow_succ]; simp
    · have hl : c.log2 ≤ fbOf k := by
        have : 2 ^ c.log2 < 2 ^ (fbOf k + 1) := by omega
        have := (Nat.pow_lt_pow_iff_right (by omega : 1 < 2)).1 this
        omega
      refine ⟨c * 2 ^ (fbOf k - c.log2), (c.log2 : Int) - fbOf k, _, ⟨by omega, ?_, .inl ?_, rfl⟩, ?_, ?_⟩
      · rw [fb_eq]
        have := (Nat.mul_lt_mul_right (Nat.two_pow_pos (fbOf k - c.log2))).2 hl2
        rw [← Nat.pow_add, show c.log2 + 1 + (fbOf k - c.log2) = fbOf k + 1 by omega] at this
        exact this
      · rw [fb_eq]
        have := Nat.mul_le_mul_right (2 ^ (fbOf k - c.log2)) hl1
        rw [← Nat.pow_add, show c.log2 + (fbOf k - c.log2) = fbOf k by omega] at this
        exact this
      · rw [vle_iff (b := (c.log2 : Int) - fbOf k) (by omega) (by omega), show (0 - ((c.log2 : Int) - fbOf k)).toNat = fbOf k - c.log2 by omega]; simp
      · rw [vle_iff (b := (c.log2 : Int) - fbOf k) (by omega) (by omega), show (0 - ((c.log2 : Int) - fbOf k)).toNat = fbOf k - c.log2 by omega]; simp
  obtain ⟨M, P, R, rep, v1, v2⟩ := main
  refine ⟨M, P, R, rep, v1, v2, Nat.lt_of_le_of_lt ?_ hfin⟩
  have h54 : le2 c 0 54 := by
    unfold le2
    rw [vle_iff (b := 0) (by omega) (by omega)]
    have := Nat.le_trans h (Nat.pow_le_pow_right (by omega : 0 < 2) (by omega : fbOf k + 1 ≤ 54))
    simpa using this
  exact (rep.vle_iff (rep2 k 54)).1 (v2.trans (vle.trans h54 (vle_pow (by omega)).2))

/-- the whole number nearest to a finite number -/
theorem rte_fin {k : FloatKind} {b : Nat} (h : b % sw k < k.format.infRung) :
    ∃ M P c y N Q, k.format.read b = .number (sgn k b) M P ∧ Rep k.format M P (b % sw k) ∧ c = Toward.even.cut (sgn k b) (M <<< P.toNat) (-P).toNat ∧ UO.rte.den k (some b) = some (some y) ∧
      y = k.format.nearest (sgn k b) c 0 ∧ k.format.read y = .number (sgn k b) N Q ∧ vle N Q c 0 ∧ vle c 0 N Q := by
  obtain ⟨M, P, r, rep⟩ := read_fin h
  generalize hc : Toward.even.cut (sgn k b) (M <<< P.toNat) (-P).toNat = c
  have hden : UO.rte.den k (some b) = some (some (k.format.nearest (sgn k b) c 0)) := by
    show some (some (k.format.write ((k.format.read b).integral .even))) = _
    rw [r]
    show some (some (k.format.nearest (sgn k b) (Toward.even.cut (sgn k b) (M <<< P.toNat) (-P).toNat) 0)) = _
    rw [hc]
  have key : ∃ N Q, k.format.read (k.format.nearest (sgn k b) c 0) = .number (sgn k b) N Q ∧ vle N Q c 0 ∧ vle c 0 N Q := by
    by_cases h0 : c = 0
    · have hz : k.format.nearest (sgn k b) c 0 % sw k = 0 := by rw [h0]; exact nearest_zero
      obtain ⟨N, Q, r2, rep2'⟩ := read_fin (k := k) (b := k.format.nearest (sgn k b) c 0) (by rw [hz]; cases k <;> decide)
      rw [nearest_sgn] at r2
      have hN : N = 0 := by have := rep2'.rung; omega
      refine ⟨N, Q, r2, ?_, ?_⟩
      · rw [hN]; exact vle_zero _ _ _
      · rw [h0]; exact vle_zero _ _ _
    · have ex : ∃ M' P' R, Rep k.format M' P' R ∧ vle c 0 M' P' ∧ vle M' P' c 0 ∧ R < k.format.infRung := by
        rcases Int.le_total 0 P with hP | hP
        · refine ⟨M, P, _, rep, ?_, ?_, h⟩
          · have hcm : c ≤ M * 2 ^ P.toNat := by
              rw [← hc, show (-P).toNat = 0 by omega, Nat.shiftLeft_eq]
              exact cut_le (by simp)
            rw [vle_iff (b := 0) (by omega) hP]; simpa using hcm
          · have hcm : M * 2 ^ P.toNat ≤ c := by
              rw [← hc, show (-P).toNat = 0 by omega, Nat.shiftLeft_eq]
              exact cut_ge (by simp)
            rw [vle_iff (b := 0) hP (by omega)]; simpa using hcm
        · refine int_rep k h0 ?_
          rw [← hc, show P.toNat = 0 by omega, Nat.shiftLeft_eq]
          refine cut_le ?_
          have h1 := rep.lt
          rw [fb_eq] at h1
          have := Nat.le_mul_of_pos_right (2 ^ (fbOf k + 1)) (Nat.two_pow_pos (-P).toNat)
          rw [Nat.pow_zero, Nat.mul_one]
          omega
      obtain ⟨M', P', R, rep', v1, v2, hR⟩ := ex
      have e := nearest_exact (k := k) (s := sgn k b) h0 v1 v2 rep' (Nat.le_of_lt hR)
      have e2 : k.format.nearest (sgn k b) c 0 % sw k = R := by rw [e]; exact (word_sgn (Nat.le_of_lt hR)).2
      obtain ⟨N, Q, r2, rep2'⟩ := read_fin (k := k) (b := k.format.nearest (sgn k b) c 0) (by rw [e2]; exact hR)
      rw [nearest_sgn] at r2
      rw [e2] at rep2'
      exact ⟨N, Q, r2, ((rep2'.vle_iff rep').2 (Nat.le_refl _)).trans v2, v1.trans ((rep'.vle_iff rep2').2 (Nat.le_refl _))⟩
  obtain ⟨N, Q, k1, k2, k3⟩ := key
  exact ⟨M, P, c, _, N, Q, r, rep, hc.symm, hden, rfl, k1, k2, k3⟩

/-- M*2^P and c differ by at most 1 -/
theorem near_int {s : Bool} {M c : Nat} {P b : Int} (hc : c = Toward.even.cut s (M <<< P.toNat) (-P).toNat) (hb : b ≤ P) (hb0 : b ≤ 0) :
    M * 2 ^ (P - b).toNat ≤ c * 2 ^ (0 - b).toNat + 2 ^ (0 - b).toNat ∧ c * 2 ^ (0 - b).toNat ≤ M * 2 ^ (P - b).toNat + 2 ^ (0 - b).toNat := by
  obtain ⟨h1, h2⟩ := cut_near (neg := s) (M <<< P.toNat) (-P).toNat
  rw [← hc, Nat.shiftLeft_eq] at h1 h2
  rcases Int.le_total 0 P with hP | hP
  · rw [show (-P).toNat = 0 by omega, Nat.pow_zero] at h1 h2
    have e : M * 2 ^ (P - b).toNat = M * 2 ^ P.toNat * 2 ^ (0 - b).toNat := by
      rw [Nat.mul_assoc, ← Nat.pow_add, show P.toNat + (0 - b).toNat = (P - b).toNat by omega]
    rw [e]
    generalize M * 2 ^ P.toNat = u at *
    have g1 := Nat.mul_le_mul_right (2 ^ (0 - b).toNat) h1
    have g2 := Nat.mul_le_mul_right (2 ^ (0 - b).toNat) h2
    rw [Nat.mul_one] at g1 g2
    rw [Nat.add_mul, Nat.one_mul] at g1 g2
    omega
  · rw [show P.toNat = 0 by omega, Nat.pow_zero, Nat.mul_one] at h1 h2
    have e : (0 - b).toNat = (-P).toNat + (P - b).toNat := by omega
    rw [e, Nat.pow_add, ← Nat.mul_assoc]
    have g1 := Nat.mul_le_mul_right (2 ^ (P - b).toNat) h1
    have g2 := Nat.mul_le_mul_right (2 ^ (P - b).toNat) h2
    rw [Nat.add_mul] at g1 g2
    omega

theorem bd_rte {k : FloatKind} {b : Nat} (h : b % sw k < k.format.infRung) {d : Option Nat} (hd : UO.rte.den k (some b) = some d) : Bd k (BO.sub.den k (some b) d) 0 := by
  obtain ⟨M, P, c, y, N, Q, r, rep, hc, hden, hy, r2, v1, v2⟩ := rte_fin h
  rw [hden] at hd; cases hd
  refine ⟨Nat.zero_le _, ?_⟩
  show ∃ z, k.format.sub b y = some z ∧ _
  unfold Format.sub
  rw [r, r2]
  obtain ⟨u, hu⟩ := sum_number (s := sgn k b) (t := !sgn k b) (m := M) (n := N) (i := P) (j := Q)
  show ∃ z, Option.map _ ((Datum.number _ M P).sum (.number (!sgn k b) N Q)) = some z ∧ _
  rw [hu]
  refine ⟨_, rfl, wr_le (Nat.zero_le _) ?_⟩
  have hbase : min (min P Q) 0 ≤ P ∧ min (min P Q) 0 ≤ Q ∧ min (min P Q) 0 ≤ 0 := by omega
  unfold le2
  rw [vle_iff (b := min (min P Q) 0) (by omega) (by omega)]
  rw [vle_iff (b := min (min P Q) 0) hbase.2.1 hbase.2.2] at v1
  rw [vle_iff (b := min (min P Q) 0) hbase.2.2 hbase.2.1] at v2
  obtain ⟨n1, n2⟩ := near_int (s := sgn k b) hc hbase.1 hbase.2.2
  have eP : (P - min (min P Q) 0).toNat = (P - min P Q).toNat + (min P Q - min (min P Q) 0).toNat := by omega
  have eQ : (Q - min (min P Q) 0).toNat = (Q - min P Q).toNat + (min P Q - min (min P Q) 0).toNat := by omega
  rw [eP, Nat.pow_add, ← Nat.mul_assoc] at n1 n2
  rw [eQ, Nat.pow_add, ← Nat.mul_assoc] at v1 v2
  have f1 : ∀ s M u, signed s M u = if s then -((M * 2 ^ u : Nat) : Int) else ((M * 2 ^ u : Nat) : Int) := by
    intro s M u; unfold signed; rw [Nat.shiftLeft_eq]
  rw [f1, f1]
  generalize M * 2 ^ (P - min P Q).toNat = x at *
  generalize N * 2 ^ (Q - min P Q).toNat = w at *
  have hp := Nat.two_pow_pos (min P Q - min (min P Q) 0).toNat
  generalize hK : 2 ^ (min P Q - min (min P Q) 0).toNat = K at *
  have hab : ∀ q : Nat, q + w = x ∨ q + x = w → q * K ≤ 1 * 2 ^ (((0 : Nat) : Int) - min (min P Q) 0).toNat := by
    intro q hq
    have : (q + w) * K = x * K ∨ (q + x) * K = w * K := by
      rcases hq with e | e
      · exact .inl (by rw [e])
      · exact .inr (by rw [e])
    rw [Nat.add_mul, Nat.add_mul] at this
    have e0 : (((0 : Nat) : Int) - min (min P Q) 0).toNat = (0 - min (min P Q) 0).toNat := rfl
    rw [e0]
    omega
  cases sgn k b
  · simp only [Bool.not_false, if_true, Bool.false_eq_true, if_false]
    exact hab _ (by omega)
  · simp only [Bool.not_true, if_true, Bool.false_eq_true, if_false]
    exact hab _ (by omega)

/-- a number whose nearest whole number is 0 -/
theorem bd_rteZero {k : FloatKind} {x d : Option Nat} (hd : UO.rte.den k x = some d) (hz : ∃ y, d = some y ∧ y % sw k = 0) : Bd k x 0 := by
  obtain ⟨y, rfl, hy⟩ := hz
  cases x with
  | none => cases hd
  | some b =>
    refine ⟨Nat.zero_le _, b, rfl, ?_⟩
    have hpos : 0 < k.format.infRung := by cases k <;> decide
    rcases Nat.lt_trichotomy (b % sw k) k.format.infRung with h | h | h
    · obtain ⟨M, P, c, y', N, Q, r, rep, hc, hden, hy', r2, v1, v2⟩ := rte_fin h
      rw [hden] at hd; cases hd
      have hc0 : c = 0 := by
        rcases Nat.eq_zero_or_pos c with h0 | h0
        · exact h0
        · exfalso
          rw [hy', nearest_rung.1, if_neg (by omega)] at hy
          have : 1 ≤ nearR k.format (sgn k b) c 0 := by
            refine near_ge (M := 1) (P := k.format.leastPlace) (by omega) ?_ ⟨Int.le_refl _, ?_, .inr rfl, by simp⟩
            · have := (low_le k).1
              rw [vle_iff (b := k.format.leastPlace) (Int.le_refl _) (by omega)]
              have := Nat.le_mul_of_pos_right c (Nat.two_pow_pos (0 - k.format.leastPlace).toNat)
              simp at *
              omega
            · exact Nat.one_lt_two_pow (by omega)
          omega
      obtain ⟨n1, n2⟩ := near_int (s := sgn k b) (b := min P 0) hc (by omega) (by omega)
      rw [hc0, Nat.zero_mul, Nat.zero_add] at n1
      have hl : le2 M P 0 := by
        unfold le2
        rw [vle_iff (b := min P 0) (by omega) (by omega)]
        simpa using n1
      exact (rep.vle_iff (rep2 k 0)).1 (vle.trans hl (vle_pow (by omega)).2)
    · exfalso
      have : UO.rte.den k (some b) = some (some (k.format.word (sgn k b) k.format.infRung)) := by
        show some (some (k.format.write ((k.format.read b).integral .even))) = _
        rw [read_inf h]; rfl
      rw [this] at hd; cases hd
      rw [(word_sgn (Nat.le_refl _)).2] at hy
      omega
    · exfalso
      obtain ⟨t, r, t0, tl, e⟩ := read_nan_lt h
      have : UO.rte.den k (some b) = some (some (k.format.word (sgn k b) (k.format.infRung + t))) := by
        show some (some (k.format.write ((k.format.read b).integral .even))) = _
        rw [r]
        show some (some (k.format.word (sgn k b) (k.format.infRung + t % k.format.binade))) = _
        rw [Nat.mod_eq_of_lt tl]
      rw [this] at hd; cases hd
      have hw := (word_mod (k := k) (s := sgn k b) (r := k.format.infRung + t) (by have := (binade_inf k).1; omega)).1
      rw [hw] at hy
      omega

/-- x - x is a number: x is finite -/
theorem fin_of_sub {k : FloatKind} {x : Option Nat} {r : Nat} (h : BO.sub.den k x x = some r) : ∃ b, x = some b ∧ b % sw k < k.format.infRung := by
  cases x with
  | none => cases h
  | some b =>
    refine ⟨b, rfl, ?_⟩
    have h' : k.format.sub b b = some r := h
    unfold Format.sub at h'
    rcases Nat.lt_trichotomy (b % sw k) k.format.infRung with h1 | h1 | h1
    · exact h1
    · rw [read_inf h1] at h'
      cases hs : sgn k b <;> rw [hs] at h' <;> simp [Datum.sum, Datum.opposite] at h'
    · obtain ⟨t, r, _⟩ := read_nan_lt h1
      rw [r] at h'
      cases h'
/-- finite: x - x is 0 -/
theorem sub_self {k : FloatKind} {b : Nat} (h : b % sw k < k.format.infRung) : BO.sub.den k (some b) (some b) = some 0 := by
  obtain ⟨M, P, r, _⟩ := read_fin h
  show k.format.sub b b = some 0
  unfold Format.sub
  rw [r]
  have e : signed (sgn k b) M (P - min P P).toNat + signed (!sgn k b) M (P - min P P).toNat = 0 := by
    cases sgn k b
    · show ((M <<< (P - min P P).toNat : Nat) : Int) + -((M <<< (P - min P P).toNat : Nat) : Int) = 0
      exact Int.add_right_neg _
    · show -((M <<< (P - min P P).toNat : Nat) : Int) + ((M <<< (P - min P P).toNat : Nat) : Int) = 0
      exact Int.add_left_neg _
  show some (k.format.nearest (if signed (sgn k b) M (P - min P P).toNat + signed (!sgn k b) M (P - min P P).toNat = 0 then sgn k b && !sgn k b else _) (signed (sgn k b) M (P - min P P).toNat + signed (!sgn k b) M (P - min P P).toNat).natAbs (min P P)) = some 0
  rw [e]
  simp [Format.nearest, Format.word]
end Go.Proofs.YtejbahdihfnbcaaDoor.Sx

/- A part of a length is not greater than the length, nearly. -/
namespace Go.Proofs.YtejbahdihfnbcaaDoor.Sx
open Go Ieee
set_option linter.unusedSimpArgs false
set_option linter.unusedVariables false

theorem rootFrom_ge (n : Nat) {j : Nat} (hj : 2 ^ j * 2 ^ j ≤ n) : ∀ (t r : Nat), (r = 0 ∧ j < t) ∨ 2 ^ j ≤ r → 2 ^ j ≤ Datum.rootFrom n t r
  | 0, r, h => by
    unfold Datum.rootFrom
    rcases h with ⟨_, h⟩ | h
    · omega
    · exact h
  | t + 1, r, h => by
    unfold Datum.rootFrom
    simp only [Nat.one_shiftLeft]
    split
    · refine rootFrom_ge n hj t _ (.inr ?_)
      rcases h with ⟨rfl, h⟩ | h
      · rw [Nat.zero_add]; exact Nat.pow_le_pow_right (by omega) (by omega)
      · have := Nat.two_pow_pos t; omega
    · rename_i hn
      refine rootFrom_ge n hj t _ ?_
      rcases h with ⟨rfl, h⟩ | h
      · refine .inl ⟨rfl, ?_⟩
        rw [Nat.zero_add] at hn
        rcases Nat.lt_or_eq_of_le (Nat.le_of_lt_succ h) with h1 | h1
        · exact h1
        · subst h1; exact absurd hj hn
      · exact .inr h

/-- a power of two as a number of the format -/
theorem repI (k : FloatKind) (t : Int) (h : -100 ≤ t) : ∃ R, Rep k.format (2 ^ fbOf k) (t - fbOf k) R := by
  refine ⟨_, ?_, by rw [fb_eq]; exact Nat.pow_lt_pow_right (by omega) (by omega), .inl (by rw [fb_eq]; exact Nat.le_refl _), rfl⟩
  cases k
  · show (-149 : Int) ≤ t - 23; omega
  · show (-1074 : Int) ≤ t - 52; omega

/-- rounding keeps a bound below -/
theorem wr_ge {k : FloatKind} {s : Bool} {m : Nat} {p t : Int} (ht : -100 ≤ t) (h : vle 1 t m p) {M : Nat} {P : Int} (hf : k.format.nearest s m p % sw k < k.format.infRung) (rep : Rep k.format M P (k.format.nearest s m p % sw k)) : vle 1 t M P := by
  obtain ⟨R, hR⟩ := repI k t ht
  have h0 : m ≠ 0 := by
    rintro rfl
    have hz := veq_zero h rfl
    omega
  have h1 := near_ge (neg := s) h0 (vle.trans (vle_pow (a := fbOf k) (q := t - fbOf k) (by omega)).1 h) hR
  rw [nearest_rung.1, if_neg h0] at hf rep
  have h2 : R ≤ min (nearR k.format s m p) k.format.infRung := by omega
  exact (vle_pow (a := fbOf k) (q := t - fbOf k) (by omega)).2.trans (hR.vle_of_le rep h2)

/-- finite words -/
def Fi (k : FloatKind) (d : Option Nat) : Prop := ∃ b, d = some b ∧ b % sw k < k.format.infRung
theorem inf_fin (k : FloatKind) (s : Bool) : ¬ k.format.word s k.format.infRung % sw k < k.format.infRung := by
  rw [(word_sgn (Nat.le_refl _)).2]; omega

/-- a sum of two that are not below 0 is at least each -/
theorem add_parts {k : FloatKind} {x y : Option Nat} {r : Nat} (hx : NN k x) (hy : NN k y) (h : BO.add.den k x y = some r) (hf : r % sw k < k.format.infRung) :
    ∃ a b, x = some a ∧ y = some b ∧ a % sw k ≤ r % sw k ∧ b % sw k ≤ r % sw k := by
  match x, y, hx, hy, h with
  | some a, some c, hx, hy, h =>
    have h' : k.format.add a c = some r := h
    unfold Format.add at h'
    have fa : a % sw k < k.format.infRung := by
      rcases Nat.lt_trichotomy (a % sw k) k.format.infRung with h1 | h1 | h1
      · exact h1
      · exfalso
        rw [read_inf h1] at h'
        rcases hy.read with ⟨s', N, Q, r2, h2⟩ | r2 | ⟨t', r2⟩ <;> rw [r2] at h'
        · cases h'; exact inf_fin k _ hf
        · cases hs : sgn k a <;> rw [hs] at h'
          · cases h'; exact inf_fin k _ hf
          · cases h'
        · cases h'
      · exfalso
        obtain ⟨t, r1, _⟩ := read_nan_lt h1
        rw [r1] at h'; cases h'
    have fc : c % sw k < k.format.infRung := by
      rcases Nat.lt_trichotomy (c % sw k) k.format.infRung with h1 | h1 | h1
      · exact h1
      · exfalso
        obtain ⟨M, P, r1, _⟩ := read_fin fa
        rw [read_inf h1, r1] at h'
        cases h'; exact inf_fin k _ hf
      · exfalso
        obtain ⟨M, P, r0, _⟩ := read_fin fa
        obtain ⟨t, r1, _⟩ := read_nan_lt h1
        rw [r1, r0] at h'; cases h'
    obtain ⟨M, P, r1, rep1⟩ := read_fin fa
    obtain ⟨N, Q, r2, rep2⟩ := read_fin fc
    rw [r1, r2] at h'
    have hM : sgn k a = true → M = 0 := fun hs => by have := hx a rfl hs; have := rep1.rung; omega
    have hN : sgn k c = true → N = 0 := fun hs => by have := hy c rfl hs; have := rep2.rung; omega
    have f1 : ∀ s M u, (s = true → M = 0) → signed s M u = ((M * 2 ^ u : Nat) : Int) := by
      intro s M u h
      unfold signed
      rw [Nat.shiftLeft_eq]
      cases s
      · rfl
      · rw [h rfl]; simp
    have hres : ∃ u, r = k.format.nearest u (M * 2 ^ (P - min P Q).toNat + N * 2 ^ (Q - min P Q).toNat) (min P Q) := by
      have e : (signed (sgn k a) M (P - min P Q).toNat + signed (sgn k c) N (Q - min P Q).toNat).natAbs = M * 2 ^ (P - min P Q).toNat + N * 2 ^ (Q - min P Q).toNat := by
        rw [f1 _ _ _ hM, f1 _ _ _ hN]
        omega
      obtain ⟨u, hu⟩ := sum_number (s := sgn k a) (t := sgn k c) (m := M) (n := N) (i := P) (j := Q)
      rw [hu, e] at h'
      exact ⟨u, by cases h'; rfl⟩
    obtain ⟨u, rfl⟩ := hres
    have main : ∀ {L R : Nat} {I : Int}, Rep k.format L I R → R < k.format.infRung → vle L I (M * 2 ^ (P - min P Q).toNat + N * 2 ^ (Q - min P Q).toNat) (min P Q) → R ≤ k.format.nearest u (M * 2 ^ (P - min P Q).toNat + N * 2 ^ (Q - min P Q).toNat) (min P Q) % sw k := by
      intro L R I rep hR hv
      by_cases h0 : M * 2 ^ (P - min P Q).toNat + N * 2 ^ (Q - min P Q).toNat = 0
      · have hL := veq_zero hv h0
        have := rep.norm
        have hp := Nat.two_pow_pos k.format.fractionBits
        have hI : I = k.format.leastPlace := by rcases this with h1 | h1; omega; exact h1
        rw [rep.rung, hI, hL]; simp
      · rw [nearest_rung.1, if_neg h0]
        have := near_ge (neg := u) h0 hv rep
        omega
    refine ⟨a, c, rfl, rfl, main rep1 fa ?_, main rep2 fc ?_⟩
    · rw [vle_iff (b := min P Q) (by omega) (Int.le_refl _)]
      rw [show (min P Q - min P Q).toNat = 0 by omega, Nat.pow_zero, Nat.mul_one]
      exact Nat.le_add_right _ _
    · rw [vle_iff (b := min P Q) (by omega) (Int.le_refl _)]
      rw [show (min P Q - min P Q).toNat = 0 by omega, Nat.pow_zero, Nat.mul_one]
      exact Nat.le_add_left _ _

/-- the root of what is at least 2^(2t) is at least 2^t -/
theorem sqrt_ge {k : FloatKind} {w s : Nat} {m M : Nat} {i P t : Int} {u : Bool} (ht : -100 ≤ t) (hr : k.format.read w = .number u m i) (hv : vle 1 (2 * t) m i) (h : k.format.sqrt w = some s) (hf : s % sw k < k.format.infRung)
    (rep : Rep k.format M P (s % sw k)) : vle 1 t M P := by
  have h0 : m ≠ 0 := by
    rintro rfl
    have hz := veq_zero hv rfl
    omega
  have hu : u = false := by
    cases u with
    | false => rfl
    | true =>
      unfold Format.sqrt at h
      rw [hr] at h
      unfold Datum.root at h
      simp [h0] at h
  subst hu
  obtain ⟨more, n, w', hh, rfl, h2, hw, hmore, hw', hres⟩ := sqrt_num h0 hr
  rw [hres] at h
  cases h
  refine wr_ge ht ?_ hf rep
  -- 2^j ≤ w'
  have hm : 2 ^ m.log2 ≤ m := Nat.log2_self_le h0
  have hj : 2 ^ (t - hh).toNat ≤ w' := by
    have hK : 2 ^ (t - hh).toNat * 2 ^ (t - hh).toNat ≤ m * 2 ^ more := by
      rw [← Nat.pow_add]
      rcases Int.le_total hh t with hc | hc
      · let c : Int := min (2 * t) i
        have := (vle_iff (m := 1) (n := m) (p := 2 * t) (q := i) (b := i - more - 0) (by omega) (by omega)).1 hv
        rw [Nat.one_mul, show (2 * t - (i - more - 0)).toNat = (t - hh).toNat + (t - hh).toNat by omega, show (i - (i - more - 0)).toNat = more by omega] at this
        exact this
      · rw [show (t - hh).toNat = 0 by omega]
        have := Nat.mul_le_mul (Nat.pos_of_ne_zero h0) (Nat.two_pow_pos more)
        simpa using this
    rw [hw']
    refine rootFrom_ge _ hK _ _ (.inl ⟨rfl, ?_⟩)
    have hne : m * 2 ^ more ≠ 0 := Nat.mul_ne_zero h0 (Nat.ne_of_gt (Nat.two_pow_pos _))
    rw [← Nat.pow_add] at hK
    have := (Nat.le_log2 hne).2 hK
    omega
  have h3 : 2 * 2 ^ (t - hh).toNat ≤ 2 * w' + (w' * w' != m * 2 ^ more).toNat := by omega
  generalize 2 * w' + (w' * w' != m * 2 ^ more).toNat = q at *
  let c : Int := min t (hh - 1)
  rw [vle_iff (b := c) (by omega) (by omega), Nat.one_mul]
  refine Nat.le_trans ?_ (Nat.mul_le_mul_right _ h3)
  have : 2 * 2 ^ (t - hh).toNat = 2 ^ ((t - hh).toNat + 1) := by rw [Nat.pow_succ]; omega
  rw [this, ← Nat.pow_add]
  exact Nat.pow_le_pow_right (by omega) (by omega)

theorem quot_le' {digits m n : Nat} {i j e : Int} (hn : n ≠ 0) (h : vle m i n (j + e)) (hm : m ≠ 0) :
    le2 (2 * ((m <<< (digits + n.log2 - m.log2)) / n) + ((m <<< (digits + n.log2 - m.log2)) % n != 0).toNat) (i - j - (digits + n.log2 - m.log2 : Nat) - 1) e := by
  refine quot_le hn h hm ?_
  have h1 : 2 ^ m.log2 ≤ m := Nat.log2_self_le hm
  have h2 : n < 2 ^ (n.log2 + 1) := Nat.lt_log2_self
  let c : Int := min i (j + e)
  rw [vle_iff (b := c) (by omega) (by omega)] at h
  have h3 := Nat.le_trans (Nat.mul_le_mul_right (2 ^ (i - c).toNat) h1) h
  have h4 := Nat.lt_of_le_of_lt h3 ((Nat.mul_lt_mul_right (Nat.two_pow_pos (j + e - c).toNat)).2 h2)
  rw [← Nat.pow_add, ← Nat.pow_add] at h4
  have := (Nat.pow_lt_pow_iff_right (by omega : 1 < 2)).1 h4
  omega

/-- of a square that is finite -/
theorem sq_ge {k : FloatKind} {x r : Nat} {M N : Nat} {P Q t : Int} {s : Bool} (ht : -50 ≤ t) (hr : k.format.read x = .number s M P) (hv : vle 1 t M P) (h : k.format.mul x x = some r) (hf : r % sw k < k.format.infRung)
    (rep : Rep k.format N Q (r % sw k)) : vle 1 (2 * t) N Q := by
  unfold Format.mul at h
  rw [hr] at h
  have e : r = k.format.nearest (s ^^ s) (M * M) (P + P) := by cases h; rfl
  subst e
  refine wr_ge (by omega) ?_ hf rep
  let b : Int := min t P
  rw [vle_iff (b := b) (by omega) (by omega), Nat.one_mul] at hv
  rw [vle_iff (b := b + b) (by omega) (by omega), Nat.one_mul]
  have := Nat.mul_le_mul hv hv
  rw [← Nat.pow_add] at this
  rw [show (2 * t - (b + b)).toNat = (t - b).toNat + (t - b).toNat by omega, show (P + P - (b + b)).toNat = (P - b).toNat + (P - b).toNat by omega, Nat.pow_add 2 (P - b).toNat]
  refine Nat.le_trans this (Nat.le_of_eq ?_)
  simp only [Nat.mul_assoc, Nat.mul_left_comm, Nat.mul_comm]

/-- what a node that is a root of three squares says -/
theorem root_div {a b c d e xx yy zz w s n : Option Nat} (hxx : xx = BO.mul.den .f32 a a) (hyy : yy = BO.mul.den .f32 b b) (hzz : zz = BO.mul.den .f32 c c) (he : e = BO.add.den .f32 xx yy) (hd : d = BO.add.den .f32 e zz)
    (hw : UO.widen.den .f32 d = some w) (hs : UO.sqrt.den .f64 w = some s) (hn : UO.narrow.den .f64 s = some n) {x : Option Nat} (hx : x = a ∨ x = b ∨ x = c) (hfx : Fi .f32 x) (hl : Lo .f32 n 20) :
    Bd .f32 (BO.div.den .f32 x n) 1 := by
  obtain ⟨xb, rfl, fx⟩ := hfx
  obtain ⟨_, nb, rfl, n1, n2, n3⟩ := hl
  obtain ⟨M, P, rx, repx⟩ := read_fin fx
  refine ⟨by decide, ?_⟩
  show ∃ r, FloatKind.f32.format.div xb nb = some r ∧ _
  rcases Nat.lt_or_eq_of_le n3 with fn | fn
  rotate_left
  · -- n is infinite
    have rn : FloatKind.f32.format.read nb = .infinity (sgn .f32 nb) := read_inf fn
    unfold Format.div
    rw [rx, rn]
    refine ⟨_, rfl, ?_⟩
    show FloatKind.f32.format.nearest _ 0 0 % sw .f32 ≤ _
    rw [nearest_zero]; exact Nat.zero_le _
  · obtain ⟨N, Q, rn, repn⟩ := read_fin (k := .f32) (b := nb) fn
    have hlow : vle 1 (-20) N Q := ((vle_pow (a := 23) (q := -(20 : Int) - 23) (by omega)).2).trans ((repL .f32 20 (by omega)).vle_of_le repn n2)
    have hN : N ≠ 0 := by
      rintro rfl
      have := veq_zero hlow rfl
      omega
    rw [div_number rx rn hN]
    refine ⟨_, rfl, ?_⟩
    by_cases hM : M = 0
    · subst hM
      refine wr_le (by decide) ?_
      simp <;> exact vle_zero _ _ _
    · refine wr_le (by decide) (quot_le' (e := ((1 : Nat) : Int)) hN ?_ hM)
      -- |x| ≤ 2 n
      have hm1 : 2 ^ M.log2 ≤ M := Nat.log2_self_le hM
      have hm2 : M < 2 ^ (M.log2 + 1) := Nat.lt_log2_self
      generalize ht : P + M.log2 = t
      have hx1 : vle 1 t M P := by
        rw [vle_iff (b := P) (by omega) (Int.le_refl _), show (t - P).toNat = M.log2 by omega]
        simpa using hm1
      have hx2 : vle M P 1 (t + 1) := by
        rw [vle_iff (b := P) (Int.le_refl _) (by omega), show (t + 1 - P).toNat = M.log2 + 1 by omega]
        simp; omega
      have goal_of : ∀ T : Int, t ≤ T → vle 1 T N Q → vle M P N (Q + ((1 : Nat) : Int)) := by
        intro T hT hv
        refine hx2.trans ?_
        let c : Int := min T Q
        rw [vle_iff (b := c) (by omega) (by omega)] at hv
        have hc : c ≤ t + 1 ∨ t + 1 < c := by omega
        rcases hc with hc | hc
        · rw [vle_iff (b := c) hc (by omega), show (Q + ((1 : Nat) : Int) - c).toNat = (Q - c).toNat + 1 by omega, Nat.pow_succ, ← Nat.mul_assoc]
          have h1 : 2 ^ (t + 1 - c).toNat ≤ 2 ^ ((T - c).toNat + 1) := Nat.pow_le_pow_right (by omega) (by omega)
          rw [Nat.pow_succ] at h1
          omega
        · rw [vle_iff (b := t + 1) (Int.le_refl _) (by omega)]
          have h1 := Nat.mul_le_mul (Nat.pos_of_ne_zero hN) (Nat.two_pow_pos (Q + ((1 : Nat) : Int) - (t + 1)).toNat)
          simpa using h1
      rcases Int.lt_or_le t (-20) with hc | hc
      · exact goal_of (-20) (by omega) hlow
      · refine goal_of t (Int.le_refl _) ?_
        -- back from n
        have nn1 : NN .f32 xx := by rw [hxx]; exact nn_mul
        have nn2 : NN .f32 yy := by rw [hyy]; exact nn_mul
        have nn3 : NN .f32 zz := by rw [hzz]; exact nn_mul
        have nne : NN .f32 e := by rw [he]; exact nn_add nn1 nn2
        match s, hn with
        | some sb, hn =>
          have hn' : convD .f64 .f32 sb = some (some nb) := hn
          have fs : sb % sw .f64 < FloatKind.f64.format.infRung := by
            rcases Nat.lt_trichotomy (sb % sw .f64) FloatKind.f64.format.infRung with h1 | h1 | h1
            · exact h1
            · exfalso
              rw [conv_inf (read_inf h1)] at hn'
              cases hn'
              exact inf_fin .f32 _ fn
            · exfalso
              match w, hs with
              | some wb, hs =>
                have hs' : FloatKind.f64.format.sqrt wb = some sb := by simpa [UO.den, UO.fn] using hs
                unfold Format.sqrt at hs'
                cases hD : (FloatKind.f64.format.read wb).root (FloatKind.f64.format.fractionBits + 2) with
                | none => rw [hD] at hs'; cases hs'
                | some D =>
                  rw [hD] at hs'
                  have hg := (write_ok .f64 D (root_good hD)).2
                  have : sb = FloatKind.f64.format.write D := by cases hs'; rfl
                  rw [← this, nan_rung] at hg
                  omega
          obtain ⟨Ms, Ps, rs, reps⟩ := read_fin fs
          have hnb : nb = FloatKind.f32.format.nearest (sgn .f64 sb) Ms Ps := by
            unfold convD FloatKind.decode FloatKind.encode at hn'
            rw [rs] at hn'
            split at hn'
            · cases hn'
            · cases hn'; rfl
          match w, hs with
          | some wb, hs =>
            have hs' : FloatKind.f64.format.sqrt wb = some sb := by simpa [UO.den, UO.fn] using hs
            match d, hw, hd with
            | some db, hw, hd =>
              have hw' : convD .f32 .f64 db = some (some wb) := hw
              have fw : wb % sw .f64 < FloatKind.f64.format.infRung := by
                rcases Nat.lt_trichotomy (wb % sw .f64) FloatKind.f64.format.infRung with h1 | h1 | h1
                · exact h1
                · exfalso
                  unfold Format.sqrt at hs'
                  rw [read_inf h1] at hs'
                  cases hsg : sgn .f64 wb <;> rw [hsg] at hs'
                  · cases hs'; exact inf_fin .f64 _ fs
                  · cases hs'
                · exfalso
                  obtain ⟨t', r', _⟩ := read_nan_lt h1
                  unfold Format.sqrt at hs'
                  rw [r'] at hs'; cases hs'
              have fd : db % sw .f32 < FloatKind.f32.format.infRung := by
                rcases Nat.lt_trichotomy (db % sw .f32) FloatKind.f32.format.infRung with h1 | h1 | h1
                · exact h1
                · exfalso
                  rw [conv_inf (read_inf h1)] at hw'
                  cases hw'
                  exact inf_fin .f64 _ fw
                · exfalso
                  obtain ⟨t', r', t0, tl, _⟩ := read_nan_lt h1
                  have tl' : t' < 8388608 := tl
                  have hb := (binade_inf .f64).1
                  have hbb : FloatKind.f64.format.binade = 4503599627370496 := rfl
                  rw [conv_nan r' t0 (by omega)] at hw'
                  cases hw'
                  rw [(word_mod (k := .f64) (by omega)).1] at fw
                  omega
              obtain ⟨eb, zb, rfl, rfl, g1, g2⟩ := add_parts nne nn3 hd.symm fd
              obtain ⟨xb', yb, rfl, rfl, g3, g4⟩ := add_parts nn1 nn2 he.symm (by omega)
              -- the square of x is at most db
              have hq : ∃ q, FloatKind.f32.format.mul xb xb = some q ∧ q % sw .f32 ≤ db % sw .f32 := by
                rcases hx with rfl | rfl | rfl
                · exact ⟨xb', hxx.symm, by omega⟩
                · exact ⟨yb, hyy.symm, by omega⟩
                · exact ⟨zb, hzz.symm, by omega⟩
              obtain ⟨q, hq1, hq2⟩ := hq
              have fq : q % sw .f32 < FloatKind.f32.format.infRung := by omega
              obtain ⟨Mq, Pq, rq, repq⟩ := read_fin fq
              have v1 := sq_ge (by omega) rx hx1 hq1 fq repq
              obtain ⟨wb', Md, Pd, Mw, Pw, cw, rd, repd, rw', repw, _, _, e1, e2⟩ := widen_fin fd
              rw [hw'] at cw; cases cw
              have v2 : vle 1 (2 * t) Md Pd := v1.trans (repq.vle_of_le repd hq2)
              have v3 : vle 1 (2 * t) Mw Pw := v2.trans e1
              have v4 : vle 1 t Ms Ps := sqrt_ge (by omega) rw' v3 hs' fs reps
              subst hnb
              exact wr_ge (by omega) v4 fn repn
end Go.Proofs.YtejbahdihfnbcaaDoor.Sx

/- The rules for floats hold. -/
namespace Go.Proofs.YtejbahdihfnbcaaDoor.Sx
open Go Ieee
set_option linter.unusedSimpArgs false
set_option linter.unusedVariables false

theorem rung2_mono {k : FloatKind} {d e : Nat} (h : d ≤ e) : rung2 k d ≤ rung2 k e := by
  cases k
  · exact Nat.mul_le_mul_right _ (by show d + 127 ≤ e + 127; omega)
  · exact Nat.mul_le_mul_right _ (by show d + 1023 ≤ e + 1023; omega)
theorem bdC_ok {k : FloatKind} {m : Nat} : ∀ {n e0 e : Nat}, bdC k m n e0 = some e → m ≤ rung2 k e ∧ e < e0 + n
  | 0, e0, e, h => by simp [bdC] at h
  | n + 1, e0, e, h => by
    unfold bdC at h
    split at h
    · rename_i hb
      cases h
      exact ⟨Nat.le_of_ble_eq_true hb, by omega⟩
    · obtain ⟨h1, h2⟩ := bdC_ok h
      have : Nat.add e0 1 = e0 + 1 := rfl
      exact ⟨h1, by omega⟩
theorem maxE_ge (k : FloatKind) : 127 ≤ maxE k := by cases k <;> decide
theorem bdCst_ok {k : FloatKind} {b e : Nat} (h : bdCst k b = some e) : b % sw k ≤ rung2 k e ∧ e ≤ maxE k := by
  obtain ⟨h1, h2⟩ := bdC_ok h
  have := maxE_ge k
  exact ⟨h1, by omega⟩
theorem geC_ok {k : FloatKind} {b : Nat} : ∀ {n e0 e : Nat}, geC k b n e0 = some e → rungL k e ≤ b ∧ e < e0 + n
  | 0, e0, e, h => by simp [geC] at h
  | n + 1, e0, e, h => by
    unfold geC at h
    split at h
    · rename_i hb
      cases h
      exact ⟨Nat.le_of_ble_eq_true hb, by omega⟩
    · obtain ⟨h1, h2⟩ := geC_ok h
      have : Nat.add e0 1 = e0 + 1 := rfl
      exact ⟨h1, by omega⟩
theorem cstGe_ok {k : FloatKind} {b e : Nat} (h : cstGe k b = some e) : b < sw k ∧ rungL k e ≤ b ∧ e < 64 := by
  unfold cstGe at h
  split at h
  · rename_i hb
    obtain ⟨h1, h2⟩ := geC_ok h
    exact ⟨by simpa using hb, h1, by omega⟩
  · cases h

theorem sr_le (k : FloatKind) (b : Nat) : sr k b ≤ (b % sw k : Nat) ∧ -((b % sw k : Nat) : Int) ≤ sr k b := by
  unfold sr; split <;> omega
theorem sr_pos {k : FloatKind} {b : Nat} (h : b < sw k) : sr k b = b := by
  unfold sr sgn
  rw [Nat.div_eq_of_lt h, Nat.mod_eq_of_lt h]; simp
theorem le_of_cmp {c : Nat} {k : FloatKind} {a b : Nat} (hc : c < 2) (h : cmpC c k.format a b = true) : sr k a ≤ sr k b := by
  obtain ⟨h1, h2⟩ := cmpC_true h
  rw [cmpC_sr h1 h2] at h
  match c, hc with
  | 0, _ => simp at h; omega
  | 1, _ => simpa using h
theorem cmp4_lt {c : Nat} (h : c < 3) (k : FloatKind) (x y : Option Nat) : cmp4 c k x y = cmpD c k x y := by
  match c, h with
  | 0, _ => rfl
  | 1, _ => rfl
  | 2, _ => rfl

section
variable {C : Cls} {st : ES} {ν : Val}

/-- the value is no NaN and what is said of its signed rung holds -/
def Is (k : FloatKind) (d : Option Nat) (p : Int → Prop) : Prop := ∃ b, d = some b ∧ isNaNb k b = false ∧ p (sr k b)

theorem ubF_ok (hg : Good C st ν) {k : FloatKind} {i e : Nat} {first : Bool} : ∀ {l : List Fact}, (∀ f ∈ l, f ∈ factsAt st i) → ubF st k first l = some e →
    e ≤ maxE k ∧ Is k (ν i) fun r => match first with | true => r ≤ rung2 k e | false => -(rung2 k e : Int) ≤ r
  | [], hl, h => by simp [ubF] at h
  | f :: r, hl, h => by
    unfold ubF at h
    split at h
    · exact ubF_ok hg (fun g hg' => hl g (List.mem_cons_of_mem _ hg')) h
    · rename_i hc
      split at h
      · rename_i b hb
        simp only [Bool.and_eq_true, beq_iff_eq, Nat.blt_eq] at hc
        obtain ⟨⟨⟨hv, hf⟩, hk⟩, hc⟩ := hc
        have hfact := (hg.fact i f (hl f List.mem_cons_self)).2.2
        rw [hv, hf, cmp4_lt (by omega), fkE_eq hk, cstOf_ok hg hb] at hfact
        obtain ⟨h1, h2⟩ := bdCst_ok h
        refine ⟨h2, ?_⟩
        cases first
        · obtain ⟨x, y, e1, e2, n1, n2, hc'⟩ := cmpD_true hfact
          cases e1
          have := le_of_cmp hc hc'
          have := sr_le k b
          exact ⟨y, e2, n2, by show -(rung2 k e : Int) ≤ sr k y; omega⟩
        · obtain ⟨x, y, e1, e2, n1, n2, hc'⟩ := cmpD_true hfact
          cases e2
          have := le_of_cmp hc hc'
          have := sr_le k b
          exact ⟨x, e1, n1, by show sr k x ≤ (rung2 k e : Int); omega⟩
      · exact ubF_ok hg (fun g hg' => hl g (List.mem_cons_of_mem _ hg')) h
theorem lowF_ok (hg : Good C st ν) {k : FloatKind} {i e : Nat} : ∀ {l : List Fact}, (∀ f ∈ l, f ∈ factsAt st i) → lowF st k l = some e → Lo k (ν i) e
  | [], hl, h => by simp [lowF] at h
  | f :: r, hl, h => by
    unfold lowF at h
    split at h
    · exact lowF_ok hg (fun g hg' => hl g (List.mem_cons_of_mem _ hg')) h
    · rename_i hc
      split at h
      · rename_i b hb
        split at h
        · rename_i e' he
          cases h
          simp only [Bool.and_eq_true, Bool.not_eq_true', Nat.blt_eq] at hc
          obtain ⟨⟨⟨hv, hf⟩, hk⟩, hc⟩ := hc
          have hfact := (hg.fact i f (hl f List.mem_cons_self)).2.2
          rw [hv, hf, cmp4_lt (by omega), fkE_eq hk, cstOf_ok hg hb] at hfact
          obtain ⟨h1, h2, h3⟩ := cstGe_ok he
          obtain ⟨x, y, e1, e2, n1, n2, hc'⟩ := cmpD_true hfact
          cases e1
          have hle := le_of_cmp hc hc'
          rw [sr_pos h1] at hle
          have hpos : 0 < rungL k e := by
            cases k
            · exact Nat.mul_pos (by show 0 < 127 - e; omega) (by decide)
            · exact Nat.mul_pos (by show 0 < 1023 - e; omega) (by decide)
          have hs : sgn k y = false := by
            cases hs : sgn k y with
            | false => rfl
            | true => unfold sr at hle; rw [hs, if_pos rfl] at hle; omega
          unfold sr at hle
          rw [hs] at hle
          simp at hle
          exact ⟨by omega, y, e2, hs, by omega, (nan_rung k y).1 n2⟩
        · exact lowF_ok hg (fun g hg' => hl g (List.mem_cons_of_mem _ hg')) h
      · exact lowF_ok hg (fun g hg' => hl g (List.mem_cons_of_mem _ hg')) h
theorem anyTrue_ok (hg : Good C st ν) {k : FloatKind} {i : Nat} : ∀ {l : List Fact}, (∀ f ∈ l, f ∈ factsAt st i) → anyTrue k l = true → Is k (ν i) fun _ => True
  | [], hl, h => by simp [anyTrue] at h
  | f :: r, hl, h => by
    unfold anyTrue at h
    split at h
    · rename_i hc
      simp only [Bool.and_eq_true, Nat.blt_eq] at hc
      obtain ⟨⟨hv, hk⟩, hc⟩ := hc
      have hfact := (hg.fact i f (hl f List.mem_cons_self)).2.2
      rw [hv, cmp4_lt hc, fkE_eq hk] at hfact
      obtain ⟨x, y, e1, e2, n1, n2, _⟩ := cmpD_true hfact
      cases hf : f.first <;> rw [hf] at e1 e2
      · exact ⟨y, e2, n2, trivial⟩
      · exact ⟨x, e1, n1, trivial⟩
    · exact anyTrue_ok hg (fun g hg' => hl g (List.mem_cons_of_mem _ hg')) h
theorem isZeroF_ok (hg : Good C st ν) {k : FloatKind} {i : Nat} : ∀ {l : List Fact}, (∀ f ∈ l, f ∈ factsAt st i) → isZeroF st k l = true → ∃ y, ν i = some y ∧ y % sw k = 0
  | [], hl, h => by simp [isZeroF] at h
  | f :: r, hl, h => by
    unfold isZeroF at h
    split at h
    · exact isZeroF_ok hg (fun g hg' => hl g (List.mem_cons_of_mem _ hg')) h
    · rename_i hc
      split at h
      · rename_i hb
        simp only [Bool.and_eq_true, Nat.beq_eq] at hc
        obtain ⟨⟨⟨hv, hf⟩, hk⟩, hc⟩ := hc
        have hfact := (hg.fact i f (hl f List.mem_cons_self)).2.2
        rw [hv, hf, cmp4_lt (by omega), fkE_eq hk, cstOf_ok hg hb, hc] at hfact
        obtain ⟨x, y, e1, e2, n1, n2, hc'⟩ := cmpD_true hfact
        cases e2
        rw [cmpC_sr n1 n2] at hc'
        have h0 : sr k 0 = 0 := by rw [sr_pos (by cases k <;> decide)]; rfl
        have hc' : sr k x = sr k 0 := by simpa using hc'
        rw [h0] at hc'
        refine ⟨x, e1, ?_⟩
        unfold sr at hc'
        split at hc' <;> omega
      · exact isZeroF_ok hg (fun g hg' => hl g (List.mem_cons_of_mem _ hg')) h

theorem finF_ok (hg : Good C st ν) {k : FloatKind} {i : Nat} (h : finF st k i = true) : Fi k (ν i) := by
  unfold finF at h
  split at h
  · cases h
  · rename_i s hs
    obtain ⟨_, _, _, hd⟩ := lookNd_ok hg hs
    obtain ⟨y, hy, _⟩ := isZeroF_ok hg (fun f hf => hf) h
    rw [hy] at hd
    exact fin_of_sub hd.symm
theorem fin0_ok (hg : Good C st ν) {k : FloatKind} {i : Nat} (h : fin0 st k i = true) : Fi k (ν i) := by
  unfold fin0 at h
  split at h
  · rename_i h1; exact finF_ok hg h1
  · split at h
    · rename_i j hj
      split at h
      · obtain ⟨b, hb, hf⟩ := finF_ok hg h
        obtain ⟨_, _, hd⟩ := node_ok hg hj
        rw [hb] at hd
        obtain ⟨w, M, P, N, Q, c, _, _, _, _, _, hw, _⟩ := widen_fin hf
        have hd' : convD .f32 .f64 b = some (ν i) := hd
        rw [c] at hd'
        have hd2 := Option.some.inj hd'
        exact ⟨w, hd2.symm, Nat.lt_of_le_of_lt hw (rung2_fin (k := .f64) (by decide))⟩
      · cases h
    · cases h
theorem rteZero_ok (hg : Good C st ν) {k : FloatKind} {i : Nat} (h : rteZero st k i = true) : Bd k (ν i) 0 := by
  unfold rteZero at h
  split at h
  · cases h
  · rename_i s hs
    obtain ⟨_, _, hd⟩ := lookNd_ok hg hs
    exact bd_rteZero hd (isZeroF_ok hg (fun f hf => hf) h)

theorem nonneg_ok (hg : Good C st ν) : ∀ (n : Nat) (k : FloatKind) (i : Nat), nonneg st n k i = true → NN k (ν i)
  | 0, k, i, h => by simp [nonneg] at h
  | n + 1, k, i, h => by
    unfold nonneg at h
    split at h
    · rename_i l a b e
      rw [Bool.and_eq_true] at h
      have := fkE_eq h.1; subst this
      have := Nat.eq_of_beq_eq_true h.2; subst this
      obtain ⟨_, _, _, hd⟩ := node_ok hg e
      rw [hd]; exact nn_mul
    · rename_i l a b e
      simp only [Bool.and_eq_true] at h
      have := fkE_eq h.1.1; subst this
      obtain ⟨_, _, _, hd⟩ := node_ok hg e
      rw [hd]; exact nn_add (nonneg_ok hg n _ _ h.1.2) (nonneg_ok hg n _ _ h.2)
    · rename_i l a e
      rw [Bool.and_eq_true] at h
      have := fkE_eq h.1; subst this
      obtain ⟨_, _, hd⟩ := node_ok hg e
      exact nn_sqrt (nonneg_ok hg n _ _ h.2) hd
    · rename_i l a e
      have := fkE_eq h; subst this
      obtain ⟨_, _, hd⟩ := node_ok hg e
      exact nn_abs hd
    · rename_i a e
      rw [Bool.and_eq_true] at h
      have := fkE_eq h.1; subst this
      obtain ⟨_, _, hd⟩ := node_ok hg e
      have hn := nonneg_ok hg n _ _ h.2
      cases hx : ν a with
      | none =>
        rw [hx] at hd
        have hd2 := Option.some.inj hd
        intro b hb; rw [← hd2] at hb; cases hb
      | some x => rw [hx] at hd hn; exact nn_conv hn hd
    · rename_i a e
      rw [Bool.and_eq_true] at h
      have := fkE_eq h.1; subst this
      obtain ⟨_, _, hd⟩ := node_ok hg e
      have hn := nonneg_ok hg n _ _ h.2
      cases hx : ν a with
      | none =>
        rw [hx] at hd
        have hd2 := Option.some.inj hd
        intro b hb; rw [← hd2] at hb; cases hb
      | some x => rw [hx] at hd hn; exact nn_conv hn hd
    · cases h

theorem isRootOf_ok (hg : Good C st ν) {x n : Nat} (h : isRootOf st x n = true) (hfx : Fi .f32 (ν x)) (hl : Lo .f32 (ν n) 20) : Bd .f32 (BO.div.den .f32 (ν x) (ν n)) 1 := by
  unfold isRootOf at h
  split at h
  · rename_i s es
    split at h
    · rename_i w ew
      split at h
      · rename_i d ed
        split at h
        · rename_i e zz edd
          split at h
          · rename_i xx yy z z' ee ez
            split at h
            · rename_i a a' b b' exx eyy
              simp only [Bool.and_eq_true, Bool.or_eq_true, Nat.beq_eq] at h
              obtain ⟨⟨⟨rfl, rfl⟩, rfl⟩, hx⟩ := h
              refine root_div (node_ok hg exx).2.2.2 (node_ok hg eyy).2.2.2 (node_ok hg ez).2.2.2 (node_ok hg ee).2.2.2 (node_ok hg edd).2.2.2 (node_ok hg ed).2.2 (node_ok hg ew).2.2 (node_ok hg es).2.2 ?_ hfx hl
              rcases hx with (rfl | rfl) | rfl
              · exact .inl rfl
              · exact .inr (.inl rfl)
              · exact .inr (.inr rfl)
            · cases h
          · cases h
        · cases h
      · cases h
    · cases h
  · cases h

theorem Bd.mono {k : FloatKind} {d : Option Nat} {e e' : Nat} (h : Bd k d e) (he : e ≤ e') (h' : e' ≤ maxE k) : Bd k d e' := by
  obtain ⟨_, b, hb, h1⟩ := h
  exact ⟨h', b, hb, Nat.le_trans h1 (rung2_mono he)⟩
theorem Bd.fi {k : FloatKind} {d : Option Nat} {e : Nat} (h : Bd k d e) : Fi k d := by
  obtain ⟨h', b, hb, h1⟩ := h
  exact ⟨b, hb, Nat.lt_of_le_of_lt h1 (rung2_fin h')⟩
theorem max2_some {x y : Option Nat} {e : Nat} (h : max2 x y = some e) : ∃ a b, x = some a ∧ y = some b ∧ e = max a b := by
  unfold max2 at h
  split at h
  · cases h; exact ⟨_, _, rfl, rfl, rfl⟩
  · cases h
theorem capE_some {k : FloatKind} {x e : Nat} (h : capE k x = some e) : e = x ∧ e ≤ maxE k := by
  unfold capE at h
  split at h
  · rename_i hb; cases h; exact ⟨rfl, Nat.le_of_ble_eq_true hb⟩
  · cases h
theorem div_fin {k : FloatKind} {x y : Option Nat} (h : Fi k (BO.div.den k x y)) : Fi k x := by
  obtain ⟨r, hr, hf⟩ := h
  match x, y, hr with
  | some a, some b, hr =>
    refine ⟨a, rfl, ?_⟩
    have hr' : k.format.div a b = some r := hr
    unfold Format.div at hr'
    rcases Nat.lt_trichotomy (a % sw k) k.format.infRung with h1 | h1 | h1
    · exact h1
    · exfalso
      rw [read_inf h1] at hr'
      cases hb : k.format.read b <;> rw [hb] at hr'
      · cases hr'; exact inf_fin k _ hf
      · cases hr'
      · cases hr'
    · exfalso
      obtain ⟨t, r', _⟩ := read_nan_lt h1
      rw [r'] at hr'; cases hr'
theorem bd_conv {k l : FloatKind} {x : Nat} {d : Option Nat} {e : Nat} (hx : Bd k (some x) e) (he : e ≤ maxE l) (h : convD k l x = some d) : Bd l d e := by
  obtain ⟨h', b, hb, h1⟩ := hx
  cases hb
  obtain ⟨M, P, r, rep, v⟩ := read_le h' h1
  have hle := wr_le (k := l) (s := (x / sw k % 2 == 1)) he v
  rw [conv_num r (Nat.lt_of_le_of_lt hle (rung2_fin he))] at h
  cases h
  exact ⟨he, _, rfl, hle⟩
theorem bd_convD {o : UO} {k l : FloatKind} {x d : Option Nat} {e : Nat} (hx : Bd k x e) (he : e ≤ maxE l) (ho : ∀ b, o.fn k b = convD k l b) (h : o.den k x = some d) : Bd l d e := by
  obtain ⟨h', b, rfl, h1⟩ := hx
  exact bd_conv ⟨h', b, rfl, h1⟩ he (by rw [← ho]; exact h)
theorem neg_mod (k : FloatKind) (b : Nat) : Op.negFloat k b % sw k = b % sw k := by
  have e : sw k = 2 ^ (k.format.exponentBits + k.format.fractionBits) := by cases k <;> rfl
  unfold Op.negFloat
  rw [e, Nat.xor_mod_two_pow]
  simp

theorem bd_ok (hg : Good C st ν) : ∀ (n : Nat) (k : FloatKind) (i e : Nat), bd st n k i = some e → Bd k (ν i) e
  | 0, k, i, e, h => by simp [bd] at h
  | n + 1, k, i, e, h => by
    unfold bd at h
    split at h
    · rename_i e' he
      cases h
      obtain ⟨a, b, h1, h2, rfl⟩ := max2_some he
      obtain ⟨a1, x, ax, an, al⟩ := ubF_ok hg (fun f hf => hf) h1
      obtain ⟨b1, y, bx, bn, bl⟩ := ubF_ok hg (fun f hf => hf) h2
      rw [ax] at bx; cases bx
      have al : sr k x ≤ (rung2 k a : Int) := al
      have bl : -(rung2 k b : Int) ≤ sr k x := bl
      have m1 := rung2_mono (k := k) (Nat.le_max_left a b)
      have m2 := rung2_mono (k := k) (Nat.le_max_right a b)
      refine ⟨Nat.max_le.2 ⟨a1, b1⟩, x, ax, ?_⟩
      unfold sr at al bl
      split at al <;> split at bl <;> omega
    · split at h
      · rename_i hz
        cases h
        exact rteZero_ok hg hz
      · split at h
        · rename_i l b en
          split at h
          · rename_i hk
            have := fkE_eq hk; subst this
            obtain ⟨h1, h2⟩ := bdCst_ok h
            exact ⟨h2, b, (node_ok hg en).2, h1⟩
          · cases h
        · rename_i l a b en
          split at h
          · rename_i hk
            have := fkE_eq hk; subst this
            split at h
            · rename_i x hm
              obtain ⟨u, v, h1, h2, rfl⟩ := max2_some hm
              obtain ⟨rfl, hc⟩ := capE_some h
              have hc' : max u v + 1 ≤ maxE k := hc
              rw [(node_ok hg en).2.2.2]
              exact bd_add ((bd_ok hg n _ _ _ h1).mono (Nat.le_max_left _ _) (by omega)) ((bd_ok hg n _ _ _ h2).mono (Nat.le_max_right _ _) (by omega)) hc'
            · cases h
          · cases h
        · rename_i l a b en
          split at h
          · rename_i hk
            have := fkE_eq hk; subst this
            split at h
            · rename_i hr
              have fin : Fi k (ν a) ∧ e = 0 := by
                split at h
                · rename_i hf
                  cases h
                  exact ⟨fin0_ok hg hf, rfl⟩
                · split at h
                  · rename_i u hu
                    cases h
                    exact ⟨(bd_ok hg n _ _ _ hu).fi, rfl⟩
                  · cases h
              obtain ⟨⟨x, hx, hfx⟩, rfl⟩ := fin
              split at hr
              · rename_i m c ec
                rw [Bool.and_eq_true] at hr
                have := fkE_eq hr.2; subst this
                have := Nat.eq_of_beq_eq_true hr.1; subst this
                have hd := (node_ok hg ec).2.2
                rw [(node_ok hg en).2.2.2]
                rw [hx] at hd ⊢
                exact bd_rte hfx hd
              · cases hr
            · split at h
              · rename_i x hm
                obtain ⟨u, v, h1, h2, rfl⟩ := max2_some hm
                obtain ⟨rfl, hc⟩ := capE_some h
                have hc' : max u v + 1 ≤ maxE k := hc
                rw [(node_ok hg en).2.2.2]
                exact bd_sub ((bd_ok hg n _ _ _ h1).mono (Nat.le_max_left _ _) (by omega)) ((bd_ok hg n _ _ _ h2).mono (Nat.le_max_right _ _) (by omega)) hc'
              · cases h
          · cases h
        · rename_i l a b en
          split at h
          · rename_i hk
            have := fkE_eq hk; subst this
            split at h
            · rename_i u v h1 h2
              obtain ⟨rfl, hc⟩ := capE_some h
              rw [(node_ok hg en).2.2.2]
              exact bd_mul (bd_ok hg n _ _ _ h1) (bd_ok hg n _ _ _ h2) hc
            · cases h
          · cases h
        · rename_i l a b en
          split at h
          · rename_i hk
            have := fkE_eq hk; subst this
            have hd := (node_ok hg en).2.2.2
            split at h
            · rename_i e' hlow
              have hlo := lowF_ok hg (fun f hf => hf) hlow
              split at h
              · rename_i hroot
                cases h
                split at hroot
                · simp only [Bool.and_eq_true, Bool.or_eq_true] at hroot
                  obtain ⟨⟨hr, h20⟩, hfin⟩ := hroot
                  have h20 := Nat.le_of_ble_eq_true h20
                  have hfx : Fi .f32 (ν a) := by
                    rcases hfin with hf | hf
                    · have := finF_ok hg hf
                      rw [hd] at this
                      exact div_fin this
                    · obtain ⟨u, hu⟩ := Option.isSome_iff_exists.1 hf
                      exact (bd_ok hg n _ _ _ hu).fi
                  have hlo20 : Lo .f32 (ν b) 20 := by
                    obtain ⟨q1, y, q2, q3, q4, q5⟩ := hlo
                    refine ⟨by omega, y, q2, q3, Nat.le_trans ?_ q4, q5⟩
                    exact Nat.mul_le_mul_right _ (by show 127 - 20 ≤ 127 - e'; omega)
                  rw [hd]
                  exact isRootOf_ok hg hr hfx hlo20
                · cases hroot
              · split at h
                · rename_i u v h1 h2
                  obtain ⟨rfl, hc⟩ := capE_some h
                  rw [hd]
                  exact bd_div (bd_ok hg n _ _ _ h1) (bd_ok hg n _ _ _ h2) hlo hc
                · cases h
            · split at h
              · rename_i c hcst
                split at h
                · rename_i u q v h1 h3 h2
                  obtain ⟨rfl, hc⟩ := capE_some h
                  obtain ⟨g1, g2, g3⟩ := cstGe_ok h1
                  obtain ⟨k1, k2⟩ := bdCst_ok h3
                  have hb := cstOf_ok hg hcst
                  rw [hd]
                  refine bd_div (bd_ok hg n _ _ _ h2) (g := q) ⟨k2, c, hb, k1⟩ ⟨by omega, c, hb, ?_, ?_, ?_⟩ hc
                  · rw [Nat.div_eq_of_lt g1]; rfl
                  · rw [Nat.mod_eq_of_lt g1]; exact g2
                  · exact Nat.le_of_lt (Nat.lt_of_le_of_lt k1 (rung2_fin k2))
                · cases h
              · cases h
          · cases h
        · rename_i l a en
          split at h
          · rename_i hk
            rw [Bool.and_eq_true] at hk
            have := fkE_eq hk.1; subst this
            split at h
            · rename_i x hx
              cases h
              exact bd_sqrt (bd_ok hg n _ _ _ hx) (nonneg_ok hg _ _ _ hk.2) (node_ok hg en).2.2
            · cases h
          · cases h
        · rename_i a en
          split at h
          · have hx := bd_ok hg n _ _ _ h
            have := hx.1
            exact bd_convD (k := .f32) (l := .f64) hx (by have : e ≤ 127 := this; show e ≤ 1023; omega) (fun b => rfl) (node_ok hg en).2.2
          · cases h
        · rename_i a en
          split at h
          · split at h
            · rename_i x hx
              obtain ⟨rfl, hc⟩ := capE_some h
              exact bd_convD (k := .f64) (l := .f32) (bd_ok hg n _ _ _ hx) hc (fun b => rfl) (node_ok hg en).2.2
            · cases h
          · cases h
        · rename_i l a en
          split at h
          · rename_i hk
            have := fkE_eq hk; subst this
            obtain ⟨h1, x, hx, h2⟩ := bd_ok hg n _ _ _ h
            have hd := (node_ok hg en).2.2
            rw [hx] at hd
            have hd' : some (some (Op.negFloat k x)) = some (ν i) := hd
            exact ⟨h1, _, (Option.some.inj hd').symm, by rw [neg_mod]; exact h2⟩
          · cases h
        · rename_i l a en
          split at h
          · rename_i hk
            have := fkE_eq hk; subst this
            obtain ⟨h1, x, hx, h2⟩ := bd_ok hg n _ _ _ h
            have hd := (node_ok hg en).2.2
            rw [hx] at hd
            have hd' : some (some (x % k.format.signWeight)) = some (ν i) := hd
            exact ⟨h1, _, (Option.some.inj hd').symm, by rw [sw_eq, Nat.mod_mod]; exact h2⟩
          · cases h
        · cases h

theorem bdF_ok (hg : Good C st ν) {k : FloatKind} {i : Nat} (h : bdF st k i = true) : Fi k (ν i) := by
  unfold bdF at h
  split at h
  · rename_i e he; exact (bd_ok hg _ _ _ _ he).fi
  · cases h
theorem Fi.nn {k : FloatKind} {d : Option Nat} (h : Fi k d) : Is k d fun _ => True := by
  obtain ⟨b, hb, hf⟩ := h
  exact ⟨b, hb, (nan_rung k b).2 (Nat.le_of_lt hf), trivial⟩
theorem nonNaN_ok (hg : Good C st ν) {k : FloatKind} {i : Nat} (h : nonNaN st k i = true) : Is k (ν i) fun _ => True := by
  unfold nonNaN at h
  split at h
  · rename_i b hb
    exact ⟨b, dOf_ok hg hb, by simpa using h, trivial⟩
  · cases h
  · split at h
    · rename_i ha; exact anyTrue_ok hg (fun f hf => hf) ha
    · split at h
      · rename_i hf; exact (finF_ok hg hf).nn
      · exact (bdF_ok hg h).nn

theorem cmpD_false {c : Nat} {k : FloatKind} {x y : Option Nat} (h : ∀ a b, x = some a → y = some b → isNaNb k a = false → isNaNb k b = false → cmpC c k.format a b = false) : cmpD c k x y = false := by
  cases hc : cmpD c k x y with
  | false => rfl
  | true =>
    obtain ⟨a, b, e1, e2, n1, n2, h'⟩ := cmpD_true hc
    rw [h a b e1 e2 n1 n2] at h'; cases h'

theorem decSwap_ok (hg : Good C st ν) {k : FloatKind} {a b : Nat} {v : Bool} {c c' : Nat} (hc : (c = 0 ∧ c' = 1) ∨ (c = 1 ∧ c' = 0)) (h : decSwap c' k a b st = some v) : cmpD c k (ν a) (ν b) = v := by
  unfold decSwap at h
  split at h
  · rename_i hk
    cases h
    have hk := known_ok hg hk
    rw [cmp4_lt (by omega)] at hk
    obtain ⟨y, x, e1, e2, n1, n2, h'⟩ := cmpD_true hk
    refine cmpD_false fun p q ep eq np nq => ?_
    rw [e2] at ep; cases ep
    rw [e1] at eq; cases eq
    rw [cmpC_sr n1 n2] at h'
    rw [cmpC_sr n2 n1]
    rcases hc with ⟨rfl, rfl⟩ | ⟨rfl, rfl⟩
    · simp at h' ⊢; omega
    · simp at h' ⊢; omega
  · rename_i hk
    split at h
    · rename_i hn
      cases h
      rw [Bool.and_eq_true] at hn
      obtain ⟨x, hx, nx, _⟩ := nonNaN_ok hg hn.1
      obtain ⟨y, hy, ny, _⟩ := nonNaN_ok hg hn.2
      have hk := known_ok hg hk
      rw [cmp4_lt (by omega), hx, hy] at hk
      rw [hx, hy]
      have hk : cmpC c' k.format y x = false := hk
      show cmpC c k.format x y = true
      rw [cmpC_sr ny nx] at hk
      rw [cmpC_sr nx ny]
      rcases hc with ⟨rfl, rfl⟩ | ⟨rfl, rfl⟩
      · simp at hk ⊢; omega
      · simp at hk ⊢; omega
    · cases h
  · cases h

theorem decAbs_ok (hg : Good C st ν) {k : FloatKind} {a b : Nat} {v : Bool} (h : decAbs k a b st = some v) : cmpD 0 k (ν a) (ν b) = v := by
  unfold decAbs at h
  split at h
  · cases h
  · rename_i L hL
    have hL' := cstOf_ok hg hL
    split at h
    · rename_i x ex
      split at h
      · rename_i y ey
        split at h
        · rename_i e ee
          split at h
          · cases h
          · split at h
            · cases h
            · rename_i hpos
              rw [Bool.and_eq_true, Nat.blt_eq] at hpos
              obtain ⟨hp1, hp2⟩ := hpos
              have hLn := (cmpC_true hp1).2
              have hsL := sr_pos (k := .f32) hp2
              -- the size of e
              have habs : ∀ eb, ν e = some eb → ν a = some (eb % sw .f32) := by
                intro eb he
                have d1 := (node_ok hg ee).2.2
                rw [he] at d1
                have d2 := (node_ok hg ey).2.2
                have d3 := (node_ok hg ex).2.2
                have d1' : convD .f32 .f64 eb = some (ν y) := d1
                cases hy : ν y with
                | none =>
                  rw [hy] at d1'
                  unfold convD at d1'
                  split at d1' <;> cases d1'
                | some w =>
                  rw [hy] at d1' d2
                  have d2' : some (some (w % FloatKind.f64.format.signWeight)) = some (ν x) := d2
                  have d2'' := Option.some.inj d2'
                  rw [← d2''] at d3
                  have d3' : convD .f64 .f32 (w % sw .f64) = some (ν a) := by rw [← sw_eq]; exact d3
                  rw [abs_round d1'] at d3'
                  exact (Option.some.inj d3').symm
              have hmm : ∀ eb : Nat, isNaNb .f32 eb = false → isNaNb .f32 (eb % sw .f32) = false ∧ sr .f32 (eb % sw .f32) = (eb % sw .f32 : Nat) := by
                intro eb he
                have hlt : eb % sw .f32 < sw .f32 := Nat.mod_lt _ (by decide)
                refine ⟨?_, sr_pos hlt⟩
                rw [nan_rung] at he ⊢
                rw [Nat.mod_mod]; exact he
              -- if e is at least L either way
              have big : ∀ eb, ν e = some eb → isNaNb .f32 eb = false → (L : Int) ≤ (eb % sw .f32 : Nat) → cmpD 0 .f32 (ν a) (ν b) = false := by
                intro eb he hn hle
                rw [habs eb he, hL']
                show cmpC 0 _ _ _ = false
                rw [cmpC_sr (hmm eb hn).1 hLn, (hmm eb hn).2, hsL]
                simp; omega
              split at h
              · rename_i hk
                cases h
                have hk := known_ok hg hk
                rw [hL'] at hk
                obtain ⟨l, eb, e1, e2, n1, n2, h'⟩ := cmpD_true (c := 1) hk
                cases e1
                have := le_of_cmp (by omega) h'
                have := (sr_le .f32 eb).1
                exact big eb e2 n2 (by omega)
              · rename_i r hr
                split at h
                · cases h
                · rename_i nl hnl
                  have hnl' := (lookNd_ok hg hnl).2
                  have hneg : Op.negFloat .f32 L = L + sw .f32 := by
                    rw [negFloat_eq .f32 L (fltOk_of_lt (by rw [sw_eq]; omega)), sw_eq, if_pos hp2]
                  have hnl2 : ν nl = some (L + sw .f32) := by rw [← hneg]; exact hnl'
                  have hsw : sw .f32 = 2147483648 := rfl
                  have hsn : sr .f32 (L + sw .f32) = -(L : Int) ∧ isNaNb .f32 (L + sw .f32) = false := by
                    have hm : (L + sw .f32) % sw .f32 = L := by rw [Nat.add_mod_right, Nat.mod_eq_of_lt hp2]
                    constructor
                    · unfold sr sgn
                      rw [hm, Nat.add_div_right _ (by decide), Nat.div_eq_of_lt hp2]; simp
                    · rw [nan_rung, hm]
                      have := (nan_rung .f32 L).1 hLn
                      rwa [Nat.mod_eq_of_lt hp2] at this
                  split at h
                  · rename_i hk
                    cases h
                    have hk := known_ok hg hk
                    rw [hnl2] at hk
                    obtain ⟨eb, l, e1, e2, n1, n2, h'⟩ := cmpD_true (c := 1) hk
                    cases e2
                    have := le_of_cmp (by omega) h'
                    rw [hsn.1] at this
                    have := (sr_le .f32 eb).2
                    exact big eb e1 n1 (by omega)
                  · rename_i hk
                    split at h
                    · rename_i hk2
                      split at h
                      · rename_i hn
                        cases h
                        obtain ⟨eb, he, hen, _⟩ := nonNaN_ok hg hn
                        have hk := known_ok hg hk
                        have hk2 := known_ok hg hk2
                        rw [hnl2, he] at hk
                        rw [hL', he] at hk2
                        have hk : cmpC 1 _ eb (L + sw .f32) = false := hk
                        have hk2 : cmpC 1 _ L eb = false := hk2
                        rw [cmpC_sr hen hsn.2, hsn.1] at hk
                        rw [cmpC_sr hLn hen, hsL] at hk2
                        simp at hk hk2
                        rw [habs eb he, hL']
                        show cmpC 0 _ _ _ = true
                        rw [cmpC_sr (hmm eb hen).1 hLn, (hmm eb hen).2, hsL]
                        simp
                        unfold sr at hk hk2
                        split at hk <;> simp_all <;> omega
                      · cases h
                    · cases h
                  · cases h
        · cases h
      · cases h
    · cases h

theorem dec_ok (hg : Good C st ν) {c : Nat} {k : FloatKind} {a b : Nat} {v : Bool} (hc : c < 3) (h : dec c k a b st = some v) : cmpD c k (ν a) (ν b) = v := by
  unfold dec at h
  split at h
  · rename_i x y hx hy
    cases h
    rw [dOf_ok hg hx, dOf_ok hg hy]
  · rename_i hx _
    cases h
    rw [dOf_ok hg hx]; rfl
  · rename_i hy _
    cases h
    rw [dOf_ok hg hy]
    cases ν a <;> rfl
  · rename_i db _ _ _
    split at h
    · rename_i v' hk
      cases h
      have := known_ok hg hk
      rwa [cmp4_lt hc] at this
    · split at h
      · rename_i hab
        have := Nat.eq_of_beq_eq_true hab; subst this
        split at h
        · cases h
          refine cmpD_false fun p q ep eq np nq => ?_
          rw [ep] at eq; cases eq
          rw [cmpC_sr np np]; simp
        · rename_i hc0
          split at h
          · rename_i hn
            cases h
            obtain ⟨x, hx, nx, _⟩ := nonNaN_ok hg hn
            rw [hx]
            show cmpC c _ x x = true
            rw [cmpC_sr nx nx]
            match c, hc, hc0 with
            | 1, _, _ => simp
            | 2, _, _ => simp
          · cases h
      · split at h
        · split at h
          · rename_i v' hs
            cases h
            exact decSwap_ok hg (.inl ⟨rfl, rfl⟩) hs
          · exact decAbs_ok hg h
        · split at h
          · rename_i v' hs
            cases h
            exact decSwap_ok hg (.inr ⟨rfl, rfl⟩) hs
          · split at h
            · rename_i y hdb
              split at h
              · rename_i hn
                cases h
                rw [Bool.and_eq_true] at hn
                have hb := dOf_ok hg hdb
                have hnn := nonneg_ok hg _ _ _ hn.2
                refine cmpD_false fun p q ep eq np nq => ?_
                rw [hb] at eq; cases eq
                rw [ep] at hnn
                have h1 := hnn.sr
                have h2 : cmpC 0 k.format y 0 = true := hn.1
                obtain ⟨z1, z2⟩ := cmpC_true h2
                rw [cmpC_sr z1 z2, sr_pos (b := 0) (by cases k <;> decide)] at h2
                rw [cmpC_sr np nq]
                simp at h2 ⊢; omega
              · cases h
            · cases h
        · split at h
          · rename_i _ _ hdb
            split at h
            · rename_i l x y en
              split at h
              · rename_i hq
                cases h
                simp only [Bool.and_eq_true] at hq
                obtain ⟨⟨hk, hxy⟩, hf⟩ := hq
                have := fkE_eq hk; subst this
                have := Nat.eq_of_beq_eq_true hxy; subst this
                obtain ⟨w, hw, hfin⟩ := bdF_ok hg hf
                rw [(node_ok hg en).2.2.2, hw, sub_self hfin, dOf_ok hg hdb]
                show cmpC 2 _ 0 0 = true
                have hz : isNaNb k 0 = false := by cases k <;> decide +kernel
                rw [cmpC_sr hz hz]; simp
              · cases h
            · cases h
          · cases h
        · cases h

theorem well_ok (hg : Good C st ν) {a : Nat} (h : wellNarrow st a = true) : ∃ r, UO.narrow.den .f64 (ν a) = some r := by
  have viaBd : (match bd st 64 .f64 a with | some e => Nat.ble e 127 | none => false) = true → ∃ r, UO.narrow.den .f64 (ν a) = some r := by
    intro h
    split at h
    · rename_i e he
      have hb := bd_ok hg _ _ _ _ he
      obtain ⟨h', b, hb', h1⟩ := hb
      obtain ⟨M, P, r, rep, v⟩ := read_le h' h1
      have hle := wr_le (k := .f32) (s := (b / sw .f64 % 2 == 1)) (e := e) (Nat.le_of_ble_eq_true h) v
      rw [hb']
      exact ⟨_, conv_num r (Nat.lt_of_le_of_lt hle (rung2_fin (Nat.le_of_ble_eq_true h)))⟩
    · cases h
  unfold wellNarrow at h
  split at h
  · rename_i b eb
    split at h
    · rename_i x ex
      have d1 := (node_ok hg ex).2.2
      have d2 := (node_ok hg eb).2.2
      cases hx : ν x with
      | none =>
        rw [hx] at d1
        have d1' := Option.some.inj d1
        rw [← d1'] at d2
        have d2' := Option.some.inj d2
        rw [← d2']
        exact ⟨none, rfl⟩
      | some xb =>
        rw [hx] at d1
        have d1' : convD .f32 .f64 xb = some (ν b) := d1
        rcases Nat.lt_trichotomy (xb % sw .f32) FloatKind.f32.format.infRung with h1 | h1 | h1
        · obtain ⟨w, M, P, N, Q, c, r1, rep1, r2, rep2, sg, hS, v1, v2⟩ := widen_fin h1
          rw [c] at d1'
          have hb := Option.some.inj d1'
          rw [← hb] at d2
          by_cases hn : NN .f64 (some w)
          · have hbd : Bd .f64 (some w) 128 := ⟨by decide, w, rfl, hS⟩
            obtain ⟨h', y, hy, h1⟩ := bd_sqrt hbd hn d2
            obtain ⟨M, P, r, rep, v⟩ := read_le h' h1
            have hle := wr_le (k := .f32) (s := (y / sw .f64 % 2 == 1)) (e := (128 + 1) / 2) (by decide) v
            rw [hy]
            exact ⟨_, conv_num r (Nat.lt_of_le_of_lt hle (rung2_fin (by decide)))⟩
          · -- a number below 0 has no root
            have hsg : sgn .f64 w = true ∧ w % sw .f64 ≠ 0 := by
              cases hs : sgn .f64 w with
              | false => exact absurd (fun b hb hs' => by cases hb; rw [hs] at hs'; cases hs') hn
              | true => exact ⟨rfl, fun h0 => hn (fun b hb _ => by cases hb; exact h0)⟩
            have hN : N ≠ 0 := by
              rintro rfl
              have := rep2.norm
              have hp := Nat.two_pow_pos FloatKind.f64.format.fractionBits
              have hQ : Q = FloatKind.f64.format.leastPlace := by rcases this with h1 | h1; omega; exact h1
              have := rep2.rung
              rw [hQ] at this
              simp at this
              exact hsg.2 this
            rw [← sg, hsg.1] at r2
            have d2' : some (FloatKind.f64.format.sqrt w) = some (ν a) := d2
            have : FloatKind.f64.format.sqrt w = none := by
              unfold Format.sqrt
              rw [r2]
              unfold Datum.root
              simp only [if_neg hN, if_true]
              rfl
            rw [this] at d2'
            rw [← Option.some.inj d2']
            exact ⟨none, rfl⟩
        · rw [conv_inf (read_inf h1)] at d1'
          rw [← Option.some.inj d1'] at d2
          have d2' : some (FloatKind.f64.format.sqrt (FloatKind.f64.format.word (sgn .f32 xb) FloatKind.f64.format.infRung)) = some (ν a) := d2
          have r : FloatKind.f64.format.read (FloatKind.f64.format.word (sgn .f32 xb) FloatKind.f64.format.infRung) = .infinity (sgn .f64 (FloatKind.f64.format.word (sgn .f32 xb) FloatKind.f64.format.infRung)) := read_inf (word_sgn (Nat.le_refl _)).2
          rw [(word_sgn (Nat.le_refl _)).1] at r
          unfold Format.sqrt at d2'
          rw [r] at d2'
          rw [← Option.some.inj d2']
          cases sgn .f32 xb
          · show ∃ r, convD .f64 .f32 (FloatKind.f64.format.word false FloatKind.f64.format.infRung) = some r
            exact ⟨_, conv_inf (read_inf (word_sgn (Nat.le_refl _)).2)⟩
          · exact ⟨none, rfl⟩
        · obtain ⟨t, r, t0, tl, e⟩ := read_nan_lt h1
          have tl' : t < 8388608 := tl
          rw [conv_nan r t0 (by show t < 4503599627370496; omega)] at d1'
          rw [← Option.some.inj d1'] at d2
          have d2' : some (FloatKind.f64.format.sqrt (FloatKind.f64.format.word (sgn .f32 xb) (FloatKind.f64.format.infRung + t))) = some (ν a) := d2
          unfold Format.sqrt at d2'
          rw [read_nan_word t0 (by show t < 4503599627370496; omega)] at d2'
          rw [← Option.some.inj d2']
          exact ⟨none, rfl⟩
    · exact viaBd h
  · rename_i b eb
    split at h
    · rename_i x ex
      have d1 := (node_ok hg ex).2.2
      have d2 := (node_ok hg eb).2.2
      cases hx : ν x with
      | none =>
        rw [hx] at d1
        have d1' := Option.some.inj d1
        rw [← d1'] at d2
        have d2' := Option.some.inj d2
        rw [← d2']
        exact ⟨none, rfl⟩
      | some xb =>
        rw [hx] at d1
        have d1' : convD .f32 .f64 xb = some (ν b) := d1
        cases hb : ν b with
        | none =>
          rw [hb] at d1'
          unfold convD at d1'
          split at d1' <;> cases d1'
        | some w =>
          rw [hb] at d1' d2
          have d2' : some (some (w % FloatKind.f64.format.signWeight)) = some (ν a) := d2
          rw [← Option.some.inj d2', sw_eq]
          exact ⟨_, abs_round d1'⟩
    · exact viaBd h
  · exact viaBd h
end

theorem rules : Rules where
  dec := fun hg hc h => dec_ok hg hc h
  nonNaN := fun hg h => by obtain ⟨b, hb, _⟩ := nonNaN_ok hg h; exact ⟨b, hb⟩
  half := half_eq
  wide := wide_all
  well := fun hg h => well_ok hg h
end Go.Proofs.YtejbahdihfnbcaaDoor.Sx

