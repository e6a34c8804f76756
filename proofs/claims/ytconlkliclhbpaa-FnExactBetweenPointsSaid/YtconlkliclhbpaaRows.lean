/-
  No cell of these rows narrows 'for every input' (looked for: loops, veiled, ifaces, maps, wideKeys, modest, calm, conditions, laid).
  DERIVED. THE GIVEN ROWS OF THIS SEAT. 12 by the template 'for every input the law returns true; each argument reads behind the call as it read before'; 0 by the template 'total and deterministic' (their statements: YtconlkliclhbpaaTotals.lean).
  GIVEN WITH THE SEED: the statements are not yours to turn. If you find one false, say at which input.
  Laid BY PROGRAM, IN A SANDBOX (cutbox-rows.mjs): the forced cells as the released guide's own fill.sh prints them over the translation 722842661ff6f671… (all of the seat's roots in one cut). By AI agents, Wed Nov 11 2026. No macro, syntax, notation, axiom, sorry.
-/
import Derived.Test.YtconlkliclhbpaaChecked
import GoSem.Claim
import GoSem.ClaimJoined
import GoSem.ClaimMapViews
import Derived.JoinedTies
import Derived.KernelRfl
namespace Go.Proofs.Ytconlkliclhbpaa
/- THE CELL 'sum', in the pinned program and in every row, IS THE sha256 OF THE DUMP (.gsa) THAT YtconlkliclhbpaaProg.lean LOADS. Nothing in Lean hashes anything: it is a label: what it is worth is what the hold of that sum in a sandbox is worth. -/
noncomputable def Try.pinned : Pinned := { name := "ytconlkliclhbpaa", sum := "722842661ff6f671e05931ecf577b98faaac18d7a2d1a668588d84da6b2855a1", checked := Try.checked }
namespace Rows
def none {H : Type} : Left H := { results := [], args := [] }

/-- 'laws.FnExactConstants': WHATEVER THE INPUT: true; the input reads as it did. -/
def fnExactConstantsSpec : ChangeSpec := { name := "fnExactConstants", fn := fun _ => fun
  | [] => { results := [.lit (.bool true)], args := [] }
  | _ => none }
def fnExactConstantsRow : OpenClaim := { program := "ytconlkliclhbpaa", sum := "722842661ff6f671e05931ecf577b98faaac18d7a2d1a668588d84da6b2855a1", func := "loop.example/g01249/laws.FnExactConstants", spec := "fnExactConstants", apart := false }
def FnExactConstantsSaid : Prop := fnExactConstantsRow.holds Try.pinned (OpenSpec.ofChange fnExactConstantsSpec)

/-- ITS FALSE NEIGHBOUR: 'it returns false'. Refute it at one input. -/
def fnExactConstantsWrong : ChangeSpec := { name := "fnExactConstants", fn := fun _ => fun
  | [] => { results := [.lit (.bool false)], args := [] }
  | _ => none }
def FnExactConstantsWrongFalsely : Prop := fnExactConstantsRow.holds Try.pinned (OpenSpec.ofChange fnExactConstantsWrong)

/-- 'laws.FnExactIsPlain': WHATEVER THE INPUT: true; the input reads as it did. -/
def fnExactIsPlainSpec : ChangeSpec := { name := "fnExactIsPlain", fn := fun _ => fun
  | [d] => { results := [.lit (.bool true)], args := [d] }
  | _ => none }
def fnExactIsPlainRow : OpenClaim := { program := "ytconlkliclhbpaa", sum := "722842661ff6f671e05931ecf577b98faaac18d7a2d1a668588d84da6b2855a1", func := "loop.example/g01249/laws.FnExactIsPlain", spec := "fnExactIsPlain", apart := false }
def FnExactIsPlainSaid : Prop := fnExactIsPlainRow.holds Try.pinned (OpenSpec.ofChange fnExactIsPlainSpec)

/-- ITS FALSE NEIGHBOUR: 'it returns false'. Refute it at one input. -/
def fnExactIsPlainWrong : ChangeSpec := { name := "fnExactIsPlain", fn := fun _ => fun
  | [d] => { results := [.lit (.bool false)], args := [d] }
  | _ => none }
def FnExactIsPlainWrongFalsely : Prop := fnExactIsPlainRow.holds Try.pinned (OpenSpec.ofChange fnExactIsPlainWrong)

/-- 'laws.FnExactSameNumber': WHATEVER THE INPUT: true; the input reads as it did. -/
def fnExactSameNumberSpec : ChangeSpec := { name := "fnExactSameNumber", fn := fun _ => fun
  | [d1, d2] => { results := [.lit (.bool true)], args := [d1, d2] }
  | _ => none }
def fnExactSameNumberRow : OpenClaim := { program := "ytconlkliclhbpaa", sum := "722842661ff6f671e05931ecf577b98faaac18d7a2d1a668588d84da6b2855a1", func := "loop.example/g01249/laws.FnExactSameNumber", spec := "fnExactSameNumber", inPlace := ["math.Float32bits"], apart := false }
def FnExactSameNumberSaid : Prop := fnExactSameNumberRow.holds Try.pinned (OpenSpec.ofChange fnExactSameNumberSpec)

/-- ITS FALSE NEIGHBOUR: 'it returns false'. Refute it at one input. -/
def fnExactSameNumberWrong : ChangeSpec := { name := "fnExactSameNumber", fn := fun _ => fun
  | [d1, d2] => { results := [.lit (.bool false)], args := [d1, d2] }
  | _ => none }
def FnExactSameNumberWrongFalsely : Prop := fnExactSameNumberRow.holds Try.pinned (OpenSpec.ofChange fnExactSameNumberWrong)

/-- 'laws.FnExactCodeName': WHATEVER THE INPUT: true; the input reads as it did. -/
def fnExactCodeNameSpec : ChangeSpec := { name := "fnExactCodeName", fn := fun _ => fun
  | [d] => { results := [.lit (.bool true)], args := [d] }
  | _ => none }
def fnExactCodeNameRow : OpenClaim := { program := "ytconlkliclhbpaa", sum := "722842661ff6f671e05931ecf577b98faaac18d7a2d1a668588d84da6b2855a1", func := "loop.example/g01249/laws.FnExactCodeName", spec := "fnExactCodeName", apart := false }
def FnExactCodeNameSaid : Prop := fnExactCodeNameRow.holds Try.pinned (OpenSpec.ofChange fnExactCodeNameSpec)

/-- ITS FALSE NEIGHBOUR: 'it returns false'. Refute it at one input. -/
def fnExactCodeNameWrong : ChangeSpec := { name := "fnExactCodeName", fn := fun _ => fun
  | [d] => { results := [.lit (.bool false)], args := [d] }
  | _ => none }
def FnExactCodeNameWrongFalsely : Prop := fnExactCodeNameRow.holds Try.pinned (OpenSpec.ofChange fnExactCodeNameWrong)

/-- 'laws.FnExactDotOf': WHATEVER THE INPUT: true; the input reads as it did. -/
def fnExactDotOfSpec : ChangeSpec := { name := "fnExactDotOf", fn := fun _ => fun
  | [d1, d2] => { results := [.lit (.bool true)], args := [d1, d2] }
  | _ => none }
def fnExactDotOfRow : OpenClaim := { program := "ytconlkliclhbpaa", sum := "722842661ff6f671e05931ecf577b98faaac18d7a2d1a668588d84da6b2855a1", func := "loop.example/g01249/laws.FnExactDotOf", spec := "fnExactDotOf", apart := false }
def FnExactDotOfSaid : Prop := fnExactDotOfRow.holds Try.pinned (OpenSpec.ofChange fnExactDotOfSpec)

/-- ITS FALSE NEIGHBOUR: 'it returns false'. Refute it at one input. -/
def fnExactDotOfWrong : ChangeSpec := { name := "fnExactDotOf", fn := fun _ => fun
  | [d1, d2] => { results := [.lit (.bool false)], args := [d1, d2] }
  | _ => none }
def FnExactDotOfWrongFalsely : Prop := fnExactDotOfRow.holds Try.pinned (OpenSpec.ofChange fnExactDotOfWrong)

/-- 'laws.FnExactValidPoint': WHATEVER THE INPUT: true; the input reads as it did. -/
def fnExactValidPointSpec : ChangeSpec := { name := "fnExactValidPoint", fn := fun _ => fun
  | [d] => { results := [.lit (.bool true)], args := [d] }
  | _ => none }
def fnExactValidPointRow : OpenClaim := { program := "ytconlkliclhbpaa", sum := "722842661ff6f671e05931ecf577b98faaac18d7a2d1a668588d84da6b2855a1", func := "loop.example/g01249/laws.FnExactValidPoint", spec := "fnExactValidPoint", unfollowed := true, recurses := true, apart := false }
def FnExactValidPointSaid : Prop := fnExactValidPointRow.holds Try.pinned (OpenSpec.ofChange fnExactValidPointSpec)

/-- ITS FALSE NEIGHBOUR: 'it returns false'. Refute it at one input. -/
def fnExactValidPointWrong : ChangeSpec := { name := "fnExactValidPoint", fn := fun _ => fun
  | [d] => { results := [.lit (.bool false)], args := [d] }
  | _ => none }
def FnExactValidPointWrongFalsely : Prop := fnExactValidPointRow.holds Try.pinned (OpenSpec.ofChange fnExactValidPointWrong)

/-- 'laws.FnExactSamePoint': WHATEVER THE INPUT: true; the input reads as it did. -/
def fnExactSamePointSpec : ChangeSpec := { name := "fnExactSamePoint", fn := fun _ => fun
  | [d1, d2] => { results := [.lit (.bool true)], args := [d1, d2] }
  | _ => none }
def fnExactSamePointRow : OpenClaim := { program := "ytconlkliclhbpaa", sum := "722842661ff6f671e05931ecf577b98faaac18d7a2d1a668588d84da6b2855a1", func := "loop.example/g01249/laws.FnExactSamePoint", spec := "fnExactSamePoint", inPlace := ["math.Float32bits"], apart := false }
def FnExactSamePointSaid : Prop := fnExactSamePointRow.holds Try.pinned (OpenSpec.ofChange fnExactSamePointSpec)

/-- ITS FALSE NEIGHBOUR: 'it returns false'. Refute it at one input. -/
def fnExactSamePointWrong : ChangeSpec := { name := "fnExactSamePoint", fn := fun _ => fun
  | [d1, d2] => { results := [.lit (.bool false)], args := [d1, d2] }
  | _ => none }
def FnExactSamePointWrongFalsely : Prop := fnExactSamePointRow.holds Try.pinned (OpenSpec.ofChange fnExactSamePointWrong)

/-- 'laws.FnExactAddPoints': WHATEVER THE INPUT: true; the input reads as it did. -/
def fnExactAddPointsSpec : ChangeSpec := { name := "fnExactAddPoints", fn := fun _ => fun
  | [d1, d2] => { results := [.lit (.bool true)], args := [d1, d2] }
  | _ => none }
def fnExactAddPointsRow : OpenClaim := { program := "ytconlkliclhbpaa", sum := "722842661ff6f671e05931ecf577b98faaac18d7a2d1a668588d84da6b2855a1", func := "loop.example/g01249/laws.FnExactAddPoints", spec := "fnExactAddPoints", apart := false }
def FnExactAddPointsSaid : Prop := fnExactAddPointsRow.holds Try.pinned (OpenSpec.ofChange fnExactAddPointsSpec)

/-- ITS FALSE NEIGHBOUR: 'it returns false'. Refute it at one input. -/
def fnExactAddPointsWrong : ChangeSpec := { name := "fnExactAddPoints", fn := fun _ => fun
  | [d1, d2] => { results := [.lit (.bool false)], args := [d1, d2] }
  | _ => none }
def FnExactAddPointsWrongFalsely : Prop := fnExactAddPointsRow.holds Try.pinned (OpenSpec.ofChange fnExactAddPointsWrong)

/-- 'laws.FnExactScalePoint': WHATEVER THE INPUT: true; the input reads as it did. -/
def fnExactScalePointSpec : ChangeSpec := { name := "fnExactScalePoint", fn := fun _ => fun
  | [d1, d2] => { results := [.lit (.bool true)], args := [d1, d2] }
  | _ => none }
def fnExactScalePointRow : OpenClaim := { program := "ytconlkliclhbpaa", sum := "722842661ff6f671e05931ecf577b98faaac18d7a2d1a668588d84da6b2855a1", func := "loop.example/g01249/laws.FnExactScalePoint", spec := "fnExactScalePoint", apart := false }
def FnExactScalePointSaid : Prop := fnExactScalePointRow.holds Try.pinned (OpenSpec.ofChange fnExactScalePointSpec)

/-- ITS FALSE NEIGHBOUR: 'it returns false'. Refute it at one input. -/
def fnExactScalePointWrong : ChangeSpec := { name := "fnExactScalePoint", fn := fun _ => fun
  | [d1, d2] => { results := [.lit (.bool false)], args := [d1, d2] }
  | _ => none }
def FnExactScalePointWrongFalsely : Prop := fnExactScalePointRow.holds Try.pinned (OpenSpec.ofChange fnExactScalePointWrong)

/-- 'laws.FnExactSubPoints': WHATEVER THE INPUT: true; the input reads as it did. -/
def fnExactSubPointsSpec : ChangeSpec := { name := "fnExactSubPoints", fn := fun _ => fun
  | [d1, d2] => { results := [.lit (.bool true)], args := [d1, d2] }
  | _ => none }
def fnExactSubPointsRow : OpenClaim := { program := "ytconlkliclhbpaa", sum := "722842661ff6f671e05931ecf577b98faaac18d7a2d1a668588d84da6b2855a1", func := "loop.example/g01249/laws.FnExactSubPoints", spec := "fnExactSubPoints", apart := false }
def FnExactSubPointsSaid : Prop := fnExactSubPointsRow.holds Try.pinned (OpenSpec.ofChange fnExactSubPointsSpec)

/-- ITS FALSE NEIGHBOUR: 'it returns false'. Refute it at one input. -/
def fnExactSubPointsWrong : ChangeSpec := { name := "fnExactSubPoints", fn := fun _ => fun
  | [d1, d2] => { results := [.lit (.bool false)], args := [d1, d2] }
  | _ => none }
def FnExactSubPointsWrongFalsely : Prop := fnExactSubPointsRow.holds Try.pinned (OpenSpec.ofChange fnExactSubPointsWrong)

/-- 'laws.FnExactSamePlane': WHATEVER THE INPUT: true; the input reads as it did. -/
def fnExactSamePlaneSpec : ChangeSpec := { name := "fnExactSamePlane", fn := fun _ => fun
  | [d1, d2] => { results := [.lit (.bool true)], args := [d1, d2] }
  | _ => none }
def fnExactSamePlaneRow : OpenClaim := { program := "ytconlkliclhbpaa", sum := "722842661ff6f671e05931ecf577b98faaac18d7a2d1a668588d84da6b2855a1", func := "loop.example/g01249/laws.FnExactSamePlane", spec := "fnExactSamePlane", inPlace := ["math.Float32bits"], apart := false }
def FnExactSamePlaneSaid : Prop := fnExactSamePlaneRow.holds Try.pinned (OpenSpec.ofChange fnExactSamePlaneSpec)

/-- ITS FALSE NEIGHBOUR: 'it returns false'. Refute it at one input. -/
def fnExactSamePlaneWrong : ChangeSpec := { name := "fnExactSamePlane", fn := fun _ => fun
  | [d1, d2] => { results := [.lit (.bool false)], args := [d1, d2] }
  | _ => none }
def FnExactSamePlaneWrongFalsely : Prop := fnExactSamePlaneRow.holds Try.pinned (OpenSpec.ofChange fnExactSamePlaneWrong)

/-- 'laws.FnExactBetweenPoints': WHATEVER THE INPUT: true; the input reads as it did. -/
def fnExactBetweenPointsSpec : ChangeSpec := { name := "fnExactBetweenPoints", fn := fun _ => fun
  | [d1, d2, d3] => { results := [.lit (.bool true)], args := [d1, d2, d3] }
  | _ => none }
def fnExactBetweenPointsRow : OpenClaim := { program := "ytconlkliclhbpaa", sum := "722842661ff6f671e05931ecf577b98faaac18d7a2d1a668588d84da6b2855a1", func := "loop.example/g01249/laws.FnExactBetweenPoints", spec := "fnExactBetweenPoints", apart := false }
def FnExactBetweenPointsSaid : Prop := fnExactBetweenPointsRow.holds Try.pinned (OpenSpec.ofChange fnExactBetweenPointsSpec)

/-- ITS FALSE NEIGHBOUR: 'it returns false'. Refute it at one input. -/
def fnExactBetweenPointsWrong : ChangeSpec := { name := "fnExactBetweenPoints", fn := fun _ => fun
  | [d1, d2, d3] => { results := [.lit (.bool false)], args := [d1, d2, d3] }
  | _ => none }
def FnExactBetweenPointsWrongFalsely : Prop := fnExactBetweenPointsRow.holds Try.pinned (OpenSpec.ofChange fnExactBetweenPointsWrong)

/- THE SECOND FORM. 'bulk': how many values and letters a reading holds, each counted each time it is reached (what is shared counts as often as it is met; a slice's spare places count too). A statement '..UptoSaid' is the law's where the arguments, and the package variables that the reading takes, are together of bulk at most 1048576: NARROWER than '..Said'. Prove '..Said' where nothing that the law and all that it calls make is longer than what came in: it says more and counts as full. Else prove '..UptoSaid'. A law counts once. -/
mutual
def uptoBulk {H : Type} : DataW H → Nat
  | .lit (.string bytes) => bytes.length + 1
  | .lit _ => 1
  | .nil => 1
  | .ptr d => uptoBulk d + 1
  | .slice elems spare => uptoBulkAll elems + uptoBulkAll spare + 1
  | .agg parts => uptoBulkAll parts + 1
  | .iface _ d => uptoBulk d + 1
  | .map entries => uptoBulkEntries entries + 1
  | .held _ => 1
def uptoBulkAll {H : Type} : List (DataW H) → Nat
  | [] => 0
  | d :: r => uptoBulk d + uptoBulkAll r
def uptoBulkEntries {H : Type} : List (Lit × DataW H) → Nat
  | [] => 0
  | x :: r => uptoBulkEntry x + uptoBulkEntries r
def uptoBulkEntry {H : Type} : Lit × DataW H → Nat
  | (.string bytes, d) => bytes.length + uptoBulk d + 1
  | (_, d) => uptoBulk d + 1
 end
def uptoSmall : (H : Type) → List (DataW H) → Bool := fun _ ds => decide (uptoBulkAll ds ≤ 1048576)
def OpenSpec.upto (s : _root_.Go.ChangeSpec) : _root_.Go.OpenSpec := { _root_.Go.OpenSpec.ofChange s with cond := some uptoSmall }

/-- 'laws.FnExactConstants', WHERE WHAT IT READS IS OF BULK AT MOST 1048576: true; the input reads as it did. -/
def fnExactConstantsUptoRow : OpenClaim := { program := "ytconlkliclhbpaa", sum := "722842661ff6f671e05931ecf577b98faaac18d7a2d1a668588d84da6b2855a1", func := "loop.example/g01249/laws.FnExactConstants", spec := "fnExactConstants", apart := false, narrowed := true }
def FnExactConstantsUptoSaid : Prop := fnExactConstantsUptoRow.holds Try.pinned (OpenSpec.upto fnExactConstantsSpec)

/-- 'laws.FnExactIsPlain', WHERE WHAT IT READS IS OF BULK AT MOST 1048576: true; the input reads as it did. -/
def fnExactIsPlainUptoRow : OpenClaim := { program := "ytconlkliclhbpaa", sum := "722842661ff6f671e05931ecf577b98faaac18d7a2d1a668588d84da6b2855a1", func := "loop.example/g01249/laws.FnExactIsPlain", spec := "fnExactIsPlain", apart := false, narrowed := true }
def FnExactIsPlainUptoSaid : Prop := fnExactIsPlainUptoRow.holds Try.pinned (OpenSpec.upto fnExactIsPlainSpec)

/-- 'laws.FnExactSameNumber', WHERE WHAT IT READS IS OF BULK AT MOST 1048576: true; the input reads as it did. -/
def fnExactSameNumberUptoRow : OpenClaim := { program := "ytconlkliclhbpaa", sum := "722842661ff6f671e05931ecf577b98faaac18d7a2d1a668588d84da6b2855a1", func := "loop.example/g01249/laws.FnExactSameNumber", spec := "fnExactSameNumber", inPlace := ["math.Float32bits"], apart := false, narrowed := true }
def FnExactSameNumberUptoSaid : Prop := fnExactSameNumberUptoRow.holds Try.pinned (OpenSpec.upto fnExactSameNumberSpec)

/-- 'laws.FnExactCodeName', WHERE WHAT IT READS IS OF BULK AT MOST 1048576: true; the input reads as it did. -/
def fnExactCodeNameUptoRow : OpenClaim := { program := "ytconlkliclhbpaa", sum := "722842661ff6f671e05931ecf577b98faaac18d7a2d1a668588d84da6b2855a1", func := "loop.example/g01249/laws.FnExactCodeName", spec := "fnExactCodeName", apart := false, narrowed := true }
def FnExactCodeNameUptoSaid : Prop := fnExactCodeNameUptoRow.holds Try.pinned (OpenSpec.upto fnExactCodeNameSpec)

/-- 'laws.FnExactDotOf', WHERE WHAT IT READS IS OF BULK AT MOST 1048576: true; the input reads as it did. -/
def fnExactDotOfUptoRow : OpenClaim := { program := "ytconlkliclhbpaa", sum := "722842661ff6f671e05931ecf577b98faaac18d7a2d1a668588d84da6b2855a1", func := "loop.example/g01249/laws.FnExactDotOf", spec := "fnExactDotOf", apart := false, narrowed := true }
def FnExactDotOfUptoSaid : Prop := fnExactDotOfUptoRow.holds Try.pinned (OpenSpec.upto fnExactDotOfSpec)

/-- 'laws.FnExactValidPoint', WHERE WHAT IT READS IS OF BULK AT MOST 1048576: true; the input reads as it did. -/
def fnExactValidPointUptoRow : OpenClaim := { program := "ytconlkliclhbpaa", sum := "722842661ff6f671e05931ecf577b98faaac18d7a2d1a668588d84da6b2855a1", func := "loop.example/g01249/laws.FnExactValidPoint", spec := "fnExactValidPoint", unfollowed := true, recurses := true, apart := false, narrowed := true }
def FnExactValidPointUptoSaid : Prop := fnExactValidPointUptoRow.holds Try.pinned (OpenSpec.upto fnExactValidPointSpec)

/-- 'laws.FnExactSamePoint', WHERE WHAT IT READS IS OF BULK AT MOST 1048576: true; the input reads as it did. -/
def fnExactSamePointUptoRow : OpenClaim := { program := "ytconlkliclhbpaa", sum := "722842661ff6f671e05931ecf577b98faaac18d7a2d1a668588d84da6b2855a1", func := "loop.example/g01249/laws.FnExactSamePoint", spec := "fnExactSamePoint", inPlace := ["math.Float32bits"], apart := false, narrowed := true }
def FnExactSamePointUptoSaid : Prop := fnExactSamePointUptoRow.holds Try.pinned (OpenSpec.upto fnExactSamePointSpec)

/-- 'laws.FnExactAddPoints', WHERE WHAT IT READS IS OF BULK AT MOST 1048576: true; the input reads as it did. -/
def fnExactAddPointsUptoRow : OpenClaim := { program := "ytconlkliclhbpaa", sum := "722842661ff6f671e05931ecf577b98faaac18d7a2d1a668588d84da6b2855a1", func := "loop.example/g01249/laws.FnExactAddPoints", spec := "fnExactAddPoints", apart := false, narrowed := true }
def FnExactAddPointsUptoSaid : Prop := fnExactAddPointsUptoRow.holds Try.pinned (OpenSpec.upto fnExactAddPointsSpec)

/-- 'laws.FnExactScalePoint', WHERE WHAT IT READS IS OF BULK AT MOST 1048576: true; the input reads as it did. -/
def fnExactScalePointUptoRow : OpenClaim := { program := "ytconlkliclhbpaa", sum := "722842661ff6f671e05931ecf577b98faaac18d7a2d1a668588d84da6b2855a1", func := "loop.example/g01249/laws.FnExactScalePoint", spec := "fnExactScalePoint", apart := false, narrowed := true }
def FnExactScalePointUptoSaid : Prop := fnExactScalePointUptoRow.holds Try.pinned (OpenSpec.upto fnExactScalePointSpec)

/-- 'laws.FnExactSubPoints', WHERE WHAT IT READS IS OF BULK AT MOST 1048576: true; the input reads as it did. -/
def fnExactSubPointsUptoRow : OpenClaim := { program := "ytconlkliclhbpaa", sum := "722842661ff6f671e05931ecf577b98faaac18d7a2d1a668588d84da6b2855a1", func := "loop.example/g01249/laws.FnExactSubPoints", spec := "fnExactSubPoints", apart := false, narrowed := true }
def FnExactSubPointsUptoSaid : Prop := fnExactSubPointsUptoRow.holds Try.pinned (OpenSpec.upto fnExactSubPointsSpec)

/-- 'laws.FnExactSamePlane', WHERE WHAT IT READS IS OF BULK AT MOST 1048576: true; the input reads as it did. -/
def fnExactSamePlaneUptoRow : OpenClaim := { program := "ytconlkliclhbpaa", sum := "722842661ff6f671e05931ecf577b98faaac18d7a2d1a668588d84da6b2855a1", func := "loop.example/g01249/laws.FnExactSamePlane", spec := "fnExactSamePlane", inPlace := ["math.Float32bits"], apart := false, narrowed := true }
def FnExactSamePlaneUptoSaid : Prop := fnExactSamePlaneUptoRow.holds Try.pinned (OpenSpec.upto fnExactSamePlaneSpec)

/-- 'laws.FnExactBetweenPoints', WHERE WHAT IT READS IS OF BULK AT MOST 1048576: true; the input reads as it did. -/
def fnExactBetweenPointsUptoRow : OpenClaim := { program := "ytconlkliclhbpaa", sum := "722842661ff6f671e05931ecf577b98faaac18d7a2d1a668588d84da6b2855a1", func := "loop.example/g01249/laws.FnExactBetweenPoints", spec := "fnExactBetweenPoints", apart := false, narrowed := true }
def FnExactBetweenPointsUptoSaid : Prop := fnExactBetweenPointsUptoRow.holds Try.pinned (OpenSpec.upto fnExactBetweenPointsSpec)

end Rows
end Go.Proofs.Ytconlkliclhbpaa
