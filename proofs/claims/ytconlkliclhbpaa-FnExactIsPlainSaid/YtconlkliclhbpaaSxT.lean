/- Trees of float operations and tests, and what they denote. -/
import GoSem.Step
import Derived.KernelRfl
namespace Go.Proofs.Ytconlkliclhbpaa.Sx
open Go

inductive UO where | neg | widen | narrow | sqrt | rte | abs
  deriving DecidableEq
inductive BO where | add | sub | mul | div
  deriving DecidableEq

/-- A scalar: a float (none: a NaN), a bool, an integer. -/
inductive Sc where
  | f (k : FloatKind) (d : Option Nat)
  | b (v : Bool)
  | i (k : IntKind) (n : Int)
  deriving DecidableEq

inductive Rf where
  | v (i : Nat)
  | b (v : Bool)
  | i (k : IntKind) (n : Int)
  deriving DecidableEq

inductive T where
  | ret (vs : List Rf)
  | un (o : UO) (k : FloatKind) (a : Nat) (t : T)
  | bin (o : BO) (k : FloatKind) (a b : Nat) (t : T)
  | cst (k : FloatKind) (b : Nat) (t : T)
  | tst (c : Nat) (k : FloatKind) (a b : Nat) (x y : T)
  | tsb (k : FloatKind) (a b : Nat) (x y : T)        -- the same bits, of two that are no NaN
  | call (g : Nat) (args : List Rf) (n : Nat) (t : T)
  | br (r : Nat) (x y : T)
  | sw (r : Nat) (n : Int) (x y : T)
  | bad (why : String)

def isNaNb (k : FloatKind) (b : Nat) : Bool := match k.format.read b with | .nan .. => true | _ => false
def canon (k : FloatKind) (b : Nat) : Option Nat := match isNaNb k b with | true => none | false => some b

def BO.fn (o : BO) (f : Ieee.Format) (x y : Nat) : Option Nat :=
  match o with | .add => f.add x y | .sub => f.sub x y | .mul => f.mul x y | .div => f.div x y
def BO.den (o : BO) (k : FloatKind) : Option Nat → Option Nat → Option Nat
  | some x, some y => o.fn k.format x y
  | _, _ => none

/-- k: the kind of the operand. 'none' at the outside: not told (a number too great is narrowed). -/
def UO.kind (o : UO) (k : FloatKind) : FloatKind := match o with | .widen => .f64 | .narrow => .f32 | _ => k
def convD (k l : FloatKind) (b : Nat) : Option (Option Nat) :=
  match (l.decode (l.encode (k.decode b))).isInfinity && !(k.decode b).isInfinity with
  | true => none
  | false => some (some (l.encode (k.decode b)))
def UO.fn (o : UO) (k : FloatKind) (b : Nat) : Option (Option Nat) :=
  match o with
  | .neg => some (some (Op.negFloat k b))
  | .widen => convD k .f64 b
  | .narrow => convD k .f32 b
  | .sqrt => some (k.format.sqrt b)
  | .rte => some (some (k.encode ((k.decode b).integral .even)))
  | .abs => some (some (b % k.format.signWeight))
def UO.den (o : UO) (k : FloatKind) : Option Nat → Option (Option Nat)
  | some b => o.fn k b
  | none => some none

/-- c: 0 less, 1 less or equal, 2 equal -/
def cmpC (c : Nat) (f : Ieee.Format) (x y : Nat) : Bool :=
  let r := f.order x y
  match c with
  | 0 => r == some .lt
  | 1 => r == some .lt || r == some .eq
  | _ => r == some .eq
def cmpD (c : Nat) (k : FloatKind) : Option Nat → Option Nat → Bool
  | some x, some y => cmpC c k.format x y
  | _, _ => false

def fkEq (a b : FloatKind) : Bool := match a, b with | .f32, .f32 => true | .f64, .f64 => true | _, _ => false

/-- the float number a of the environment, of kind k -/
def getF (env : List Sc) (k : FloatKind) (a : Nat) : Option (Option Nat) :=
  match env[a]? with
  | some (.f l d) => if l = k then some d else none
  | _ => none

def Rf.den (env : List Sc) : Rf → Option Sc
  | .v j => env[j]?
  | .b x => some (.b x)
  | .i k n => some (.i k n)
def denL (env : List Sc) : List Rf → Option (List Sc)
  | [] => some []
  | r :: rs => match r.den env, denL env rs with
    | some x, some xs => some (x :: xs)
    | _, _ => none

def T.den (G : Nat → List Sc → Option (List Sc)) : T → List Sc → Option (List Sc)
  | .ret vs, env => denL env vs
  | .un o k a t, env => match getF env k a with
    | some d => match o.den k d with
      | some r => t.den G (env ++ [.f (o.kind k) r])
      | none => none
    | none => none
  | .bin o k a b t, env => match getF env k a, getF env k b with
    | some x, some y => t.den G (env ++ [.f k (o.den k x y)])
    | _, _ => none
  | .cst k b t, env => t.den G (env ++ [.f k (canon k b)])
  | .tst c k a b x y, env => match getF env k a, getF env k b with
    | some p, some q => match cmpD c k p q with
      | true => x.den G env
      | false => y.den G env
    | _, _ => none
  | .tsb k a b x y, env => match getF env k a, getF env k b with
    | some (some p), some (some q) => match Nat.beq p q with
      | true => x.den G env
      | false => y.den G env
    | _, _ => none
  | .call g args n t, env => match denL env args with
    | some vs => match G g vs with
      | some rs => if rs.length = n then t.den G (env ++ rs) else none
      | none => none
    | none => none
  | .br r x y, env => match env[r]? with
    | some (.b true) => x.den G env
    | some (.b false) => y.den G env
    | _ => none
  | .sw r n x y, env => match env[r]? with
    | some (.i _ m) => if m = n then x.den G env else y.den G env
    | _ => none
  | .bad _, _ => none

/-- the summaries of a table, the last first -/
def denTab : List T → Nat → List Sc → Option (List Sc)
  | [], _, _ => none
  | t :: ts, g, args => if g = ts.length then t.den (denTab ts) args else denTab ts g args

end Go.Proofs.Ytconlkliclhbpaa.Sx
