/-
  No cell of these rows narrows 'for every input' (looked for: loops, veiled, ifaces, maps, wideKeys, modest, calm, conditions, laid).
  DERIVED. THE GIVEN ROWS OF THIS SEAT. 12 by the template 'for every input the law returns true; each argument reads behind the call as it read before'; 0 by the template 'total and deterministic' (their statements: YtgdannnnbfkajaaTotals.lean).
  GIVEN WITH THE SEED: the statements are not yours to turn. If you find one false, say at which input.
  Laid BY PROGRAM, IN A SANDBOX (cutbox-rows.mjs): the forced cells as the released guide's own fill.sh prints them over the translation 3bb312f0c5638698… (all of the seat's roots in one cut). By AI agents, Wed Nov 11 2026. No macro, syntax, notation, axiom, sorry.
-/
import Derived.Test.YtgdannnnbfkajaaChecked
import GoSem.Claim
import GoSem.ClaimJoined
import GoSem.ClaimMapViews
import Derived.JoinedTies
import Derived.KernelRfl
namespace Go.Proofs.Ytgdannnnbfkajaa
/- THE CELL 'sum', in the pinned program and in every row, IS THE sha256 OF THE DUMP (.gsa) THAT YtgdannnnbfkajaaProg.lean LOADS. Nothing in Lean hashes anything: it is a label: what it is worth is what the hold of that sum in a sandbox is worth. -/
noncomputable def Try.pinned : Pinned := { name := "ytgdannnnbfkajaa", sum := "3bb312f0c563869888a9f510f947d327312bb3a0bc5b1b7558dc1ee747233b8f", checked := Try.checked }
namespace Rows
def none {H : Type} : Left H := { results := [], args := [] }

/-- 'laws.FnExactPlaneThrough': WHATEVER THE INPUT: true; the input reads as it did. -/
def fnExactPlaneThroughSpec : ChangeSpec := { name := "fnExactPlaneThrough", fn := fun _ => fun
  | [d1, d2, d3] => { results := [.lit (.bool true)], args := [d1, d2, d3] }
  | _ => none }
def fnExactPlaneThroughRow : OpenClaim := { program := "ytgdannnnbfkajaa", sum := "3bb312f0c563869888a9f510f947d327312bb3a0bc5b1b7558dc1ee747233b8f", func := "loop.example/g01249/laws.FnExactPlaneThrough", spec := "fnExactPlaneThrough", inPlace := ["math.sqrt"], unfollowed := true, recurses := true, apart := false }
def FnExactPlaneThroughSaid : Prop := fnExactPlaneThroughRow.holds Try.pinned (OpenSpec.ofChange fnExactPlaneThroughSpec)

/-- ITS FALSE NEIGHBOUR: 'it returns false'. Refute it at one input. -/
def fnExactPlaneThroughWrong : ChangeSpec := { name := "fnExactPlaneThrough", fn := fun _ => fun
  | [d1, d2, d3] => { results := [.lit (.bool false)], args := [d1, d2, d3] }
  | _ => none }
def FnExactPlaneThroughWrongFalsely : Prop := fnExactPlaneThroughRow.holds Try.pinned (OpenSpec.ofChange fnExactPlaneThroughWrong)

/-- 'laws.FnExactMeetLine': WHATEVER THE INPUT: true; the input reads as it did. -/
def fnExactMeetLineSpec : ChangeSpec := { name := "fnExactMeetLine", fn := fun _ => fun
  | [d1, d2, d3] => { results := [.lit (.bool true)], args := [d1, d2, d3] }
  | _ => none }
def fnExactMeetLineRow : OpenClaim := { program := "ytgdannnnbfkajaa", sum := "3bb312f0c563869888a9f510f947d327312bb3a0bc5b1b7558dc1ee747233b8f", func := "loop.example/g01249/laws.FnExactMeetLine", spec := "fnExactMeetLine", inPlace := ["math.sqrt", "math.Float64bits", "math.Float64frombits"], unfollowed := true, recurses := true, apart := false }
def FnExactMeetLineSaid : Prop := fnExactMeetLineRow.holds Try.pinned (OpenSpec.ofChange fnExactMeetLineSpec)

/-- ITS FALSE NEIGHBOUR: 'it returns false'. Refute it at one input. -/
def fnExactMeetLineWrong : ChangeSpec := { name := "fnExactMeetLine", fn := fun _ => fun
  | [d1, d2, d3] => { results := [.lit (.bool false)], args := [d1, d2, d3] }
  | _ => none }
def FnExactMeetLineWrongFalsely : Prop := fnExactMeetLineRow.holds Try.pinned (OpenSpec.ofChange fnExactMeetLineWrong)

/-- 'laws.FnExactMeetPlanes': WHATEVER THE INPUT: true; the input reads as it did. -/
def fnExactMeetPlanesSpec : ChangeSpec := { name := "fnExactMeetPlanes", fn := fun _ => fun
  | [d1, d2] => { results := [.lit (.bool true)], args := [d1, d2] }
  | _ => none }
def fnExactMeetPlanesRow : OpenClaim := { program := "ytgdannnnbfkajaa", sum := "3bb312f0c563869888a9f510f947d327312bb3a0bc5b1b7558dc1ee747233b8f", func := "loop.example/g01249/laws.FnExactMeetPlanes", spec := "fnExactMeetPlanes", inPlace := ["math.sqrt"], unfollowed := true, recurses := true, apart := false }
def FnExactMeetPlanesSaid : Prop := fnExactMeetPlanesRow.holds Try.pinned (OpenSpec.ofChange fnExactMeetPlanesSpec)

/-- ITS FALSE NEIGHBOUR: 'it returns false'. Refute it at one input. -/
def fnExactMeetPlanesWrong : ChangeSpec := { name := "fnExactMeetPlanes", fn := fun _ => fun
  | [d1, d2] => { results := [.lit (.bool false)], args := [d1, d2] }
  | _ => none }
def FnExactMeetPlanesWrongFalsely : Prop := fnExactMeetPlanesRow.holds Try.pinned (OpenSpec.ofChange fnExactMeetPlanesWrong)

/-- 'laws.FnExactDepthOf': WHATEVER THE INPUT: true; the input reads as it did. -/
def fnExactDepthOfSpec : ChangeSpec := { name := "fnExactDepthOf", fn := fun _ => fun
  | [d1, d2] => { results := [.lit (.bool true)], args := [d1, d2] }
  | _ => none }
def fnExactDepthOfRow : OpenClaim := { program := "ytgdannnnbfkajaa", sum := "3bb312f0c563869888a9f510f947d327312bb3a0bc5b1b7558dc1ee747233b8f", func := "loop.example/g01249/laws.FnExactDepthOf", spec := "fnExactDepthOf", inPlace := ["math.sqrt"], unfollowed := true, recurses := true, apart := false }
def FnExactDepthOfSaid : Prop := fnExactDepthOfRow.holds Try.pinned (OpenSpec.ofChange fnExactDepthOfSpec)

/-- ITS FALSE NEIGHBOUR: 'it returns false'. Refute it at one input. -/
def fnExactDepthOfWrong : ChangeSpec := { name := "fnExactDepthOf", fn := fun _ => fun
  | [d1, d2] => { results := [.lit (.bool false)], args := [d1, d2] }
  | _ => none }
def FnExactDepthOfWrongFalsely : Prop := fnExactDepthOfRow.holds Try.pinned (OpenSpec.ofChange fnExactDepthOfWrong)

/-- 'laws.FnExactFrameOf': WHATEVER THE INPUT: true; the input reads as it did. -/
def fnExactFrameOfSpec : ChangeSpec := { name := "fnExactFrameOf", fn := fun _ => fun
  | [d] => { results := [.lit (.bool true)], args := [d] }
  | _ => none }
def fnExactFrameOfRow : OpenClaim := { program := "ytgdannnnbfkajaa", sum := "3bb312f0c563869888a9f510f947d327312bb3a0bc5b1b7558dc1ee747233b8f", func := "loop.example/g01249/laws.FnExactFrameOf", spec := "fnExactFrameOf", inPlace := ["math.sqrt"], unfollowed := true, recurses := true, apart := false }
def FnExactFrameOfSaid : Prop := fnExactFrameOfRow.holds Try.pinned (OpenSpec.ofChange fnExactFrameOfSpec)

/-- ITS FALSE NEIGHBOUR: 'it returns false'. Refute it at one input. -/
def fnExactFrameOfWrong : ChangeSpec := { name := "fnExactFrameOf", fn := fun _ => fun
  | [d] => { results := [.lit (.bool false)], args := [d] }
  | _ => none }
def FnExactFrameOfWrongFalsely : Prop := fnExactFrameOfRow.holds Try.pinned (OpenSpec.ofChange fnExactFrameOfWrong)

/-- 'laws.FnExactDepthFromTwo': WHATEVER THE INPUT: true; the input reads as it did. -/
def fnExactDepthFromTwoSpec : ChangeSpec := { name := "fnExactDepthFromTwo", fn := fun _ => fun
  | [d1, d2, d3, d4] => { results := [.lit (.bool true)], args := [d1, d2, d3, d4] }
  | _ => none }
def fnExactDepthFromTwoRow : OpenClaim := { program := "ytgdannnnbfkajaa", sum := "3bb312f0c563869888a9f510f947d327312bb3a0bc5b1b7558dc1ee747233b8f", func := "loop.example/g01249/laws.FnExactDepthFromTwo", spec := "fnExactDepthFromTwo", inPlace := ["math.sqrt"], unfollowed := true, recurses := true, apart := false }
def FnExactDepthFromTwoSaid : Prop := fnExactDepthFromTwoRow.holds Try.pinned (OpenSpec.ofChange fnExactDepthFromTwoSpec)

/-- ITS FALSE NEIGHBOUR: 'it returns false'. Refute it at one input. -/
def fnExactDepthFromTwoWrong : ChangeSpec := { name := "fnExactDepthFromTwo", fn := fun _ => fun
  | [d1, d2, d3, d4] => { results := [.lit (.bool false)], args := [d1, d2, d3, d4] }
  | _ => none }
def FnExactDepthFromTwoWrongFalsely : Prop := fnExactDepthFromTwoRow.holds Try.pinned (OpenSpec.ofChange fnExactDepthFromTwoWrong)

/-- 'laws.FnExactVanishingSpot': WHATEVER THE INPUT: true; the input reads as it did. -/
def fnExactVanishingSpotSpec : ChangeSpec := { name := "fnExactVanishingSpot", fn := fun _ => fun
  | [d1, d2] => { results := [.lit (.bool true)], args := [d1, d2] }
  | _ => none }
def fnExactVanishingSpotRow : OpenClaim := { program := "ytgdannnnbfkajaa", sum := "3bb312f0c563869888a9f510f947d327312bb3a0bc5b1b7558dc1ee747233b8f", func := "loop.example/g01249/laws.FnExactVanishingSpot", spec := "fnExactVanishingSpot", inPlace := ["math.sqrt", "math.Float64bits", "math.Float64frombits"], unfollowed := true, recurses := true, apart := false }
def FnExactVanishingSpotSaid : Prop := fnExactVanishingSpotRow.holds Try.pinned (OpenSpec.ofChange fnExactVanishingSpotSpec)

/-- ITS FALSE NEIGHBOUR: 'it returns false'. Refute it at one input. -/
def fnExactVanishingSpotWrong : ChangeSpec := { name := "fnExactVanishingSpot", fn := fun _ => fun
  | [d1, d2] => { results := [.lit (.bool false)], args := [d1, d2] }
  | _ => none }
def FnExactVanishingSpotWrongFalsely : Prop := fnExactVanishingSpotRow.holds Try.pinned (OpenSpec.ofChange fnExactVanishingSpotWrong)

/-- 'laws.FnExactRayThrough': WHATEVER THE INPUT: true; the input reads as it did. -/
def fnExactRayThroughSpec : ChangeSpec := { name := "fnExactRayThrough", fn := fun _ => fun
  | [d1, d2] => { results := [.lit (.bool true)], args := [d1, d2] }
  | _ => none }
def fnExactRayThroughRow : OpenClaim := { program := "ytgdannnnbfkajaa", sum := "3bb312f0c563869888a9f510f947d327312bb3a0bc5b1b7558dc1ee747233b8f", func := "loop.example/g01249/laws.FnExactRayThrough", spec := "fnExactRayThrough", inPlace := ["math.sqrt"], unfollowed := true, recurses := true, apart := false }
def FnExactRayThroughSaid : Prop := fnExactRayThroughRow.holds Try.pinned (OpenSpec.ofChange fnExactRayThroughSpec)

/-- ITS FALSE NEIGHBOUR: 'it returns false'. Refute it at one input. -/
def fnExactRayThroughWrong : ChangeSpec := { name := "fnExactRayThrough", fn := fun _ => fun
  | [d1, d2] => { results := [.lit (.bool false)], args := [d1, d2] }
  | _ => none }
def FnExactRayThroughWrongFalsely : Prop := fnExactRayThroughRow.holds Try.pinned (OpenSpec.ofChange fnExactRayThroughWrong)

/-- 'laws.FnExactHorizonOf': WHATEVER THE INPUT: true; the input reads as it did. -/
def fnExactHorizonOfSpec : ChangeSpec := { name := "fnExactHorizonOf", fn := fun _ => fun
  | [d1, d2] => { results := [.lit (.bool true)], args := [d1, d2] }
  | _ => none }
def fnExactHorizonOfRow : OpenClaim := { program := "ytgdannnnbfkajaa", sum := "3bb312f0c563869888a9f510f947d327312bb3a0bc5b1b7558dc1ee747233b8f", func := "loop.example/g01249/laws.FnExactHorizonOf", spec := "fnExactHorizonOf", inPlace := ["math.sqrt"], unfollowed := true, recurses := true, apart := false }
def FnExactHorizonOfSaid : Prop := fnExactHorizonOfRow.holds Try.pinned (OpenSpec.ofChange fnExactHorizonOfSpec)

/-- ITS FALSE NEIGHBOUR: 'it returns false'. Refute it at one input. -/
def fnExactHorizonOfWrong : ChangeSpec := { name := "fnExactHorizonOf", fn := fun _ => fun
  | [d1, d2] => { results := [.lit (.bool false)], args := [d1, d2] }
  | _ => none }
def FnExactHorizonOfWrongFalsely : Prop := fnExactHorizonOfRow.holds Try.pinned (OpenSpec.ofChange fnExactHorizonOfWrong)

/-- 'laws.FnExactProjectPoint': WHATEVER THE INPUT: true; the input reads as it did. -/
def fnExactProjectPointSpec : ChangeSpec := { name := "fnExactProjectPoint", fn := fun _ => fun
  | [d1, d2] => { results := [.lit (.bool true)], args := [d1, d2] }
  | _ => none }
def fnExactProjectPointRow : OpenClaim := { program := "ytgdannnnbfkajaa", sum := "3bb312f0c563869888a9f510f947d327312bb3a0bc5b1b7558dc1ee747233b8f", func := "loop.example/g01249/laws.FnExactProjectPoint", spec := "fnExactProjectPoint", inPlace := ["math.sqrt"], unfollowed := true, recurses := true, apart := false }
def FnExactProjectPointSaid : Prop := fnExactProjectPointRow.holds Try.pinned (OpenSpec.ofChange fnExactProjectPointSpec)

/-- ITS FALSE NEIGHBOUR: 'it returns false'. Refute it at one input. -/
def fnExactProjectPointWrong : ChangeSpec := { name := "fnExactProjectPoint", fn := fun _ => fun
  | [d1, d2] => { results := [.lit (.bool false)], args := [d1, d2] }
  | _ => none }
def FnExactProjectPointWrongFalsely : Prop := fnExactProjectPointRow.holds Try.pinned (OpenSpec.ofChange fnExactProjectPointWrong)

/-- 'laws.FnExactPointAt': WHATEVER THE INPUT: true; the input reads as it did. -/
def fnExactPointAtSpec : ChangeSpec := { name := "fnExactPointAt", fn := fun _ => fun
  | [d1, d2, d3] => { results := [.lit (.bool true)], args := [d1, d2, d3] }
  | _ => none }
def fnExactPointAtRow : OpenClaim := { program := "ytgdannnnbfkajaa", sum := "3bb312f0c563869888a9f510f947d327312bb3a0bc5b1b7558dc1ee747233b8f", func := "loop.example/g01249/laws.FnExactPointAt", spec := "fnExactPointAt", inPlace := ["math.sqrt"], unfollowed := true, recurses := true, apart := false }
def FnExactPointAtSaid : Prop := fnExactPointAtRow.holds Try.pinned (OpenSpec.ofChange fnExactPointAtSpec)

/-- ITS FALSE NEIGHBOUR: 'it returns false'. Refute it at one input. -/
def fnExactPointAtWrong : ChangeSpec := { name := "fnExactPointAt", fn := fun _ => fun
  | [d1, d2, d3] => { results := [.lit (.bool false)], args := [d1, d2, d3] }
  | _ => none }
def FnExactPointAtWrongFalsely : Prop := fnExactPointAtRow.holds Try.pinned (OpenSpec.ofChange fnExactPointAtWrong)

/-- 'laws.FnExactMoveCamera': WHATEVER THE INPUT: true; the input reads as it did. -/
def fnExactMoveCameraSpec : ChangeSpec := { name := "fnExactMoveCamera", fn := fun _ => fun
  | [d1, d2, d3, d4] => { results := [.lit (.bool true)], args := [d1, d2, d3, d4] }
  | _ => none }
def fnExactMoveCameraRow : OpenClaim := { program := "ytgdannnnbfkajaa", sum := "3bb312f0c563869888a9f510f947d327312bb3a0bc5b1b7558dc1ee747233b8f", func := "loop.example/g01249/laws.FnExactMoveCamera", spec := "fnExactMoveCamera", inPlace := ["math.sqrt"], unfollowed := true, recurses := true, apart := false }
def FnExactMoveCameraSaid : Prop := fnExactMoveCameraRow.holds Try.pinned (OpenSpec.ofChange fnExactMoveCameraSpec)

/-- ITS FALSE NEIGHBOUR: 'it returns false'. Refute it at one input. -/
def fnExactMoveCameraWrong : ChangeSpec := { name := "fnExactMoveCamera", fn := fun _ => fun
  | [d1, d2, d3, d4] => { results := [.lit (.bool false)], args := [d1, d2, d3, d4] }
  | _ => none }
def FnExactMoveCameraWrongFalsely : Prop := fnExactMoveCameraRow.holds Try.pinned (OpenSpec.ofChange fnExactMoveCameraWrong)

/- THE SECOND FORM. 'bulk': how many values and letters a reading holds, each counted each time it is reached (what is shared counts as often as it is met; a slice's spare places count too). A statement '..UptoSaid' is the law's where the arguments, and the package variables that the reading takes, are together of bulk at most 1048576: NARROWER than '..Said'. Prove '..Said' where nothing that the law and all that it calls make is longer than what came in: it says more and counts as full. Else prove '..UptoSaid'. A law counts once. -/
mutual
def uptoBulk {H : Type} : DataW H → Nat
  | .lit (.string bytes) => bytes.length + 1
  | .lit _ => 1
  | .nil => 1
  | .ptr d => uptoBulk d + 1
  | .slice elems spare => uptoBulkAll elems + uptoBulkAll spare + 1
  | .agg parts => uptoBulkAll parts + 1
  | .iface _ d => uptoBulk d + 1
  | .map entries => uptoBulkEntries entries + 1
  | .held _ => 1
def uptoBulkAll {H : Type} : List (DataW H) → Nat
  | [] => 0
  | d :: r => uptoBulk d + uptoBulkAll r
def uptoBulkEntries {H : Type} : List (Lit × DataW H) → Nat
  | [] => 0
  | x :: r => uptoBulkEntry x + uptoBulkEntries r
def uptoBulkEntry {H : Type} : Lit × DataW H → Nat
  | (.string bytes, d) => bytes.length + uptoBulk d + 1
  | (_, d) => uptoBulk d + 1
 end
def uptoSmall : (H : Type) → List (DataW H) → Bool := fun _ ds => decide (uptoBulkAll ds ≤ 1048576)
def OpenSpec.upto (s : _root_.Go.ChangeSpec) : _root_.Go.OpenSpec := { _root_.Go.OpenSpec.ofChange s with cond := some uptoSmall }

/-- 'laws.FnExactPlaneThrough', WHERE WHAT IT READS IS OF BULK AT MOST 1048576: true; the input reads as it did. -/
def fnExactPlaneThroughUptoRow : OpenClaim := { program := "ytgdannnnbfkajaa", sum := "3bb312f0c563869888a9f510f947d327312bb3a0bc5b1b7558dc1ee747233b8f", func := "loop.example/g01249/laws.FnExactPlaneThrough", spec := "fnExactPlaneThrough", inPlace := ["math.sqrt"], unfollowed := true, recurses := true, apart := false, narrowed := true }
def FnExactPlaneThroughUptoSaid : Prop := fnExactPlaneThroughUptoRow.holds Try.pinned (OpenSpec.upto fnExactPlaneThroughSpec)

/-- 'laws.FnExactMeetLine', WHERE WHAT IT READS IS OF BULK AT MOST 1048576: true; the input reads as it did. -/
def fnExactMeetLineUptoRow : OpenClaim := { program := "ytgdannnnbfkajaa", sum := "3bb312f0c563869888a9f510f947d327312bb3a0bc5b1b7558dc1ee747233b8f", func := "loop.example/g01249/laws.FnExactMeetLine", spec := "fnExactMeetLine", inPlace := ["math.sqrt", "math.Float64bits", "math.Float64frombits"], unfollowed := true, recurses := true, apart := false, narrowed := true }
def FnExactMeetLineUptoSaid : Prop := fnExactMeetLineUptoRow.holds Try.pinned (OpenSpec.upto fnExactMeetLineSpec)

/-- 'laws.FnExactMeetPlanes', WHERE WHAT IT READS IS OF BULK AT MOST 1048576: true; the input reads as it did. -/
def fnExactMeetPlanesUptoRow : OpenClaim := { program := "ytgdannnnbfkajaa", sum := "3bb312f0c563869888a9f510f947d327312bb3a0bc5b1b7558dc1ee747233b8f", func := "loop.example/g01249/laws.FnExactMeetPlanes", spec := "fnExactMeetPlanes", inPlace := ["math.sqrt"], unfollowed := true, recurses := true, apart := false, narrowed := true }
def FnExactMeetPlanesUptoSaid : Prop := fnExactMeetPlanesUptoRow.holds Try.pinned (OpenSpec.upto fnExactMeetPlanesSpec)

/-- 'laws.FnExactDepthOf', WHERE WHAT IT READS IS OF BULK AT MOST 1048576: true; the input reads as it did. -/
def fnExactDepthOfUptoRow : OpenClaim := { program := "ytgdannnnbfkajaa", sum := "3bb312f0c563869888a9f510f947d327312bb3a0bc5b1b7558dc1ee747233b8f", func := "loop.example/g01249/laws.FnExactDepthOf", spec := "fnExactDepthOf", inPlace := ["math.sqrt"], unfollowed := true, recurses := true, apart := false, narrowed := true }
def FnExactDepthOfUptoSaid : Prop := fnExactDepthOfUptoRow.holds Try.pinned (OpenSpec.upto fnExactDepthOfSpec)

/-- 'laws.FnExactFrameOf', WHERE WHAT IT READS IS OF BULK AT MOST 1048576: true; the input reads as it did. -/
def fnExactFrameOfUptoRow : OpenClaim := { program := "ytgdannnnbfkajaa", sum := "3bb312f0c563869888a9f510f947d327312bb3a0bc5b1b7558dc1ee747233b8f", func := "loop.example/g01249/laws.FnExactFrameOf", spec := "fnExactFrameOf", inPlace := ["math.sqrt"], unfollowed := true, recurses := true, apart := false, narrowed := true }
def FnExactFrameOfUptoSaid : Prop := fnExactFrameOfUptoRow.holds Try.pinned (OpenSpec.upto fnExactFrameOfSpec)

/-- 'laws.FnExactDepthFromTwo', WHERE WHAT IT READS IS OF BULK AT MOST 1048576: true; the input reads as it did. -/
def fnExactDepthFromTwoUptoRow : OpenClaim := { program := "ytgdannnnbfkajaa", sum := "3bb312f0c563869888a9f510f947d327312bb3a0bc5b1b7558dc1ee747233b8f", func := "loop.example/g01249/laws.FnExactDepthFromTwo", spec := "fnExactDepthFromTwo", inPlace := ["math.sqrt"], unfollowed := true, recurses := true, apart := false, narrowed := true }
def FnExactDepthFromTwoUptoSaid : Prop := fnExactDepthFromTwoUptoRow.holds Try.pinned (OpenSpec.upto fnExactDepthFromTwoSpec)

/-- 'laws.FnExactVanishingSpot', WHERE WHAT IT READS IS OF BULK AT MOST 1048576: true; the input reads as it did. -/
def fnExactVanishingSpotUptoRow : OpenClaim := { program := "ytgdannnnbfkajaa", sum := "3bb312f0c563869888a9f510f947d327312bb3a0bc5b1b7558dc1ee747233b8f", func := "loop.example/g01249/laws.FnExactVanishingSpot", spec := "fnExactVanishingSpot", inPlace := ["math.sqrt", "math.Float64bits", "math.Float64frombits"], unfollowed := true, recurses := true, apart := false, narrowed := true }
def FnExactVanishingSpotUptoSaid : Prop := fnExactVanishingSpotUptoRow.holds Try.pinned (OpenSpec.upto fnExactVanishingSpotSpec)

/-- 'laws.FnExactRayThrough', WHERE WHAT IT READS IS OF BULK AT MOST 1048576: true; the input reads as it did. -/
def fnExactRayThroughUptoRow : OpenClaim := { program := "ytgdannnnbfkajaa", sum := "3bb312f0c563869888a9f510f947d327312bb3a0bc5b1b7558dc1ee747233b8f", func := "loop.example/g01249/laws.FnExactRayThrough", spec := "fnExactRayThrough", inPlace := ["math.sqrt"], unfollowed := true, recurses := true, apart := false, narrowed := true }
def FnExactRayThroughUptoSaid : Prop := fnExactRayThroughUptoRow.holds Try.pinned (OpenSpec.upto fnExactRayThroughSpec)

/-- 'laws.FnExactHorizonOf', WHERE WHAT IT READS IS OF BULK AT MOST 1048576: true; the input reads as it did. -/
def fnExactHorizonOfUptoRow : OpenClaim := { program := "ytgdannnnbfkajaa", sum := "3bb312f0c563869888a9f510f947d327312bb3a0bc5b1b7558dc1ee747233b8f", func := "loop.example/g01249/laws.FnExactHorizonOf", spec := "fnExactHorizonOf", inPlace := ["math.sqrt"], unfollowed := true, recurses := true, apart := false, narrowed := true }
def FnExactHorizonOfUptoSaid : Prop := fnExactHorizonOfUptoRow.holds Try.pinned (OpenSpec.upto fnExactHorizonOfSpec)

/-- 'laws.FnExactProjectPoint', WHERE WHAT IT READS IS OF BULK AT MOST 1048576: true; the input reads as it did. -/
def fnExactProjectPointUptoRow : OpenClaim := { program := "ytgdannnnbfkajaa", sum := "3bb312f0c563869888a9f510f947d327312bb3a0bc5b1b7558dc1ee747233b8f", func := "loop.example/g01249/laws.FnExactProjectPoint", spec := "fnExactProjectPoint", inPlace := ["math.sqrt"], unfollowed := true, recurses := true, apart := false, narrowed := true }
def FnExactProjectPointUptoSaid : Prop := fnExactProjectPointUptoRow.holds Try.pinned (OpenSpec.upto fnExactProjectPointSpec)

/-- 'laws.FnExactPointAt', WHERE WHAT IT READS IS OF BULK AT MOST 1048576: true; the input reads as it did. -/
def fnExactPointAtUptoRow : OpenClaim := { program := "ytgdannnnbfkajaa", sum := "3bb312f0c563869888a9f510f947d327312bb3a0bc5b1b7558dc1ee747233b8f", func := "loop.example/g01249/laws.FnExactPointAt", spec := "fnExactPointAt", inPlace := ["math.sqrt"], unfollowed := true, recurses := true, apart := false, narrowed := true }
def FnExactPointAtUptoSaid : Prop := fnExactPointAtUptoRow.holds Try.pinned (OpenSpec.upto fnExactPointAtSpec)

/-- 'laws.FnExactMoveCamera', WHERE WHAT IT READS IS OF BULK AT MOST 1048576: true; the input reads as it did. -/
def fnExactMoveCameraUptoRow : OpenClaim := { program := "ytgdannnnbfkajaa", sum := "3bb312f0c563869888a9f510f947d327312bb3a0bc5b1b7558dc1ee747233b8f", func := "loop.example/g01249/laws.FnExactMoveCamera", spec := "fnExactMoveCamera", inPlace := ["math.sqrt"], unfollowed := true, recurses := true, apart := false, narrowed := true }
def FnExactMoveCameraUptoSaid : Prop := fnExactMoveCameraUptoRow.holds Try.pinned (OpenSpec.upto fnExactMoveCameraSpec)

end Rows
end Go.Proofs.Ytgdannnnbfkajaa
