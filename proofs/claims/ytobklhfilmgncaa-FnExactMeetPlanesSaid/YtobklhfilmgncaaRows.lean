/-
  No cell of these rows narrows 'for every input' (looked for: loops, veiled, ifaces, maps, wideKeys, modest, calm, conditions, laid).
  DERIVED. THE GIVEN ROWS OF THIS SEAT. 4 by the template 'for every input the law returns true; each argument reads behind the call as it read before'; 0 by the template 'total and deterministic' (their statements: YtobklhfilmgncaaTotals.lean).
  GIVEN WITH THE SEED: the statements are not yours to turn. If you find one false, say at which input.
  Laid BY PROGRAM, IN A SANDBOX (cutbox-rows.mjs): the forced cells as the released guide's own fill.sh prints them over the translation 0dffb620c2d79e95… (all of the seat's roots in one cut). By AI agents, Wed Nov 11 2026. No macro, syntax, notation, axiom, sorry.
-/
import Derived.Test.YtobklhfilmgncaaChecked
import GoSem.Claim
import GoSem.ClaimJoined
import GoSem.ClaimMapViews
import Derived.JoinedTies
import Derived.KernelRfl
namespace Go.Proofs.Ytobklhfilmgncaa
/- THE CELL 'sum', in the pinned program and in every row, IS THE sha256 OF THE DUMP (.gsa) THAT YtobklhfilmgncaaProg.lean LOADS. Nothing in Lean hashes anything: it is a label: what it is worth is what the hold of that sum in a sandbox is worth. -/
noncomputable def Try.pinned : Pinned := { name := "ytobklhfilmgncaa", sum := "0dffb620c2d79e95dca2ab98df9231975c0323c5f4a3b2c336eeecab91433576", checked := Try.checked }
namespace Rows
def none {H : Type} : Left H := { results := [], args := [] }

/-- 'laws.FnExactPointAt': WHATEVER THE INPUT: true; the input reads as it did. -/
def fnExactPointAtSpec : ChangeSpec := { name := "fnExactPointAt", fn := fun _ => fun
  | [d1, d2, d3] => { results := [.lit (.bool true)], args := [d1, d2, d3] }
  | _ => none }
def fnExactPointAtRow : OpenClaim := { program := "ytobklhfilmgncaa", sum := "0dffb620c2d79e95dca2ab98df9231975c0323c5f4a3b2c336eeecab91433576", func := "loop.example/g01249/laws.FnExactPointAt", spec := "fnExactPointAt", inPlace := ["math.sqrt"], unfollowed := true, recurses := true, apart := false }
def FnExactPointAtSaid : Prop := fnExactPointAtRow.holds Try.pinned (OpenSpec.ofChange fnExactPointAtSpec)

/-- ITS FALSE NEIGHBOUR: 'it returns false'. Refute it at one input. -/
def fnExactPointAtWrong : ChangeSpec := { name := "fnExactPointAt", fn := fun _ => fun
  | [d1, d2, d3] => { results := [.lit (.bool false)], args := [d1, d2, d3] }
  | _ => none }
def FnExactPointAtWrongFalsely : Prop := fnExactPointAtRow.holds Try.pinned (OpenSpec.ofChange fnExactPointAtWrong)

/-- 'laws.FnExactHorizonOf': WHATEVER THE INPUT: true; the input reads as it did. -/
def fnExactHorizonOfSpec : ChangeSpec := { name := "fnExactHorizonOf", fn := fun _ => fun
  | [d1, d2] => { results := [.lit (.bool true)], args := [d1, d2] }
  | _ => none }
def fnExactHorizonOfRow : OpenClaim := { program := "ytobklhfilmgncaa", sum := "0dffb620c2d79e95dca2ab98df9231975c0323c5f4a3b2c336eeecab91433576", func := "loop.example/g01249/laws.FnExactHorizonOf", spec := "fnExactHorizonOf", inPlace := ["math.sqrt"], unfollowed := true, recurses := true, apart := false }
def FnExactHorizonOfSaid : Prop := fnExactHorizonOfRow.holds Try.pinned (OpenSpec.ofChange fnExactHorizonOfSpec)

/-- ITS FALSE NEIGHBOUR: 'it returns false'. Refute it at one input. -/
def fnExactHorizonOfWrong : ChangeSpec := { name := "fnExactHorizonOf", fn := fun _ => fun
  | [d1, d2] => { results := [.lit (.bool false)], args := [d1, d2] }
  | _ => none }
def FnExactHorizonOfWrongFalsely : Prop := fnExactHorizonOfRow.holds Try.pinned (OpenSpec.ofChange fnExactHorizonOfWrong)

/-- 'laws.FnExactMoveCamera': WHATEVER THE INPUT: true; the input reads as it did. -/
def fnExactMoveCameraSpec : ChangeSpec := { name := "fnExactMoveCamera", fn := fun _ => fun
  | [d1, d2, d3, d4] => { results := [.lit (.bool true)], args := [d1, d2, d3, d4] }
  | _ => none }
def fnExactMoveCameraRow : OpenClaim := { program := "ytobklhfilmgncaa", sum := "0dffb620c2d79e95dca2ab98df9231975c0323c5f4a3b2c336eeecab91433576", func := "loop.example/g01249/laws.FnExactMoveCamera", spec := "fnExactMoveCamera", inPlace := ["math.sqrt"], unfollowed := true, recurses := true, apart := false }
def FnExactMoveCameraSaid : Prop := fnExactMoveCameraRow.holds Try.pinned (OpenSpec.ofChange fnExactMoveCameraSpec)

/-- ITS FALSE NEIGHBOUR: 'it returns false'. Refute it at one input. -/
def fnExactMoveCameraWrong : ChangeSpec := { name := "fnExactMoveCamera", fn := fun _ => fun
  | [d1, d2, d3, d4] => { results := [.lit (.bool false)], args := [d1, d2, d3, d4] }
  | _ => none }
def FnExactMoveCameraWrongFalsely : Prop := fnExactMoveCameraRow.holds Try.pinned (OpenSpec.ofChange fnExactMoveCameraWrong)

/-- 'laws.FnExactMeetPlanes': WHATEVER THE INPUT: true; the input reads as it did. -/
def fnExactMeetPlanesSpec : ChangeSpec := { name := "fnExactMeetPlanes", fn := fun _ => fun
  | [d1, d2] => { results := [.lit (.bool true)], args := [d1, d2] }
  | _ => none }
def fnExactMeetPlanesRow : OpenClaim := { program := "ytobklhfilmgncaa", sum := "0dffb620c2d79e95dca2ab98df9231975c0323c5f4a3b2c336eeecab91433576", func := "loop.example/g01249/laws.FnExactMeetPlanes", spec := "fnExactMeetPlanes", inPlace := ["math.sqrt"], unfollowed := true, recurses := true, apart := false }
def FnExactMeetPlanesSaid : Prop := fnExactMeetPlanesRow.holds Try.pinned (OpenSpec.ofChange fnExactMeetPlanesSpec)

/-- ITS FALSE NEIGHBOUR: 'it returns false'. Refute it at one input. -/
def fnExactMeetPlanesWrong : ChangeSpec := { name := "fnExactMeetPlanes", fn := fun _ => fun
  | [d1, d2] => { results := [.lit (.bool false)], args := [d1, d2] }
  | _ => none }
def FnExactMeetPlanesWrongFalsely : Prop := fnExactMeetPlanesRow.holds Try.pinned (OpenSpec.ofChange fnExactMeetPlanesWrong)

/- THE SECOND FORM. 'bulk': how many values and letters a reading holds, each counted each time it is reached (what is shared counts as often as it is met; a slice's spare places count too). A statement '..UptoSaid' is the law's where the arguments, and the package variables that the reading takes, are together of bulk at most 1048576: NARROWER than '..Said'. Prove '..Said' where nothing that the law and all that it calls make is longer than what came in: it says more and counts as full. Else prove '..UptoSaid'. A law counts once. -/
mutual
def uptoBulk {H : Type} : DataW H → Nat
  | .lit (.string bytes) => bytes.length + 1
  | .lit _ => 1
  | .nil => 1
  | .ptr d => uptoBulk d + 1
  | .slice elems spare => uptoBulkAll elems + uptoBulkAll spare + 1
  | .agg parts => uptoBulkAll parts + 1
  | .iface _ d => uptoBulk d + 1
  | .map entries => uptoBulkEntries entries + 1
  | .held _ => 1
def uptoBulkAll {H : Type} : List (DataW H) → Nat
  | [] => 0
  | d :: r => uptoBulk d + uptoBulkAll r
def uptoBulkEntries {H : Type} : List (Lit × DataW H) → Nat
  | [] => 0
  | x :: r => uptoBulkEntry x + uptoBulkEntries r
def uptoBulkEntry {H : Type} : Lit × DataW H → Nat
  | (.string bytes, d) => bytes.length + uptoBulk d + 1
  | (_, d) => uptoBulk d + 1
 end
def uptoSmall : (H : Type) → List (DataW H) → Bool := fun _ ds => decide (uptoBulkAll ds ≤ 1048576)
def OpenSpec.upto (s : _root_.Go.ChangeSpec) : _root_.Go.OpenSpec := { _root_.Go.OpenSpec.ofChange s with cond := some uptoSmall }

/-- 'laws.FnExactPointAt', WHERE WHAT IT READS IS OF BULK AT MOST 1048576: true; the input reads as it did. -/
def fnExactPointAtUptoRow : OpenClaim := { program := "ytobklhfilmgncaa", sum := "0dffb620c2d79e95dca2ab98df9231975c0323c5f4a3b2c336eeecab91433576", func := "loop.example/g01249/laws.FnExactPointAt", spec := "fnExactPointAt", inPlace := ["math.sqrt"], unfollowed := true, recurses := true, apart := false, narrowed := true }
def FnExactPointAtUptoSaid : Prop := fnExactPointAtUptoRow.holds Try.pinned (OpenSpec.upto fnExactPointAtSpec)

/-- 'laws.FnExactHorizonOf', WHERE WHAT IT READS IS OF BULK AT MOST 1048576: true; the input reads as it did. -/
def fnExactHorizonOfUptoRow : OpenClaim := { program := "ytobklhfilmgncaa", sum := "0dffb620c2d79e95dca2ab98df9231975c0323c5f4a3b2c336eeecab91433576", func := "loop.example/g01249/laws.FnExactHorizonOf", spec := "fnExactHorizonOf", inPlace := ["math.sqrt"], unfollowed := true, recurses := true, apart := false, narrowed := true }
def FnExactHorizonOfUptoSaid : Prop := fnExactHorizonOfUptoRow.holds Try.pinned (OpenSpec.upto fnExactHorizonOfSpec)

/-- 'laws.FnExactMoveCamera', WHERE WHAT IT READS IS OF BULK AT MOST 1048576: true; the input reads as it did. -/
def fnExactMoveCameraUptoRow : OpenClaim := { program := "ytobklhfilmgncaa", sum := "0dffb620c2d79e95dca2ab98df9231975c0323c5f4a3b2c336eeecab91433576", func := "loop.example/g01249/laws.FnExactMoveCamera", spec := "fnExactMoveCamera", inPlace := ["math.sqrt"], unfollowed := true, recurses := true, apart := false, narrowed := true }
def FnExactMoveCameraUptoSaid : Prop := fnExactMoveCameraUptoRow.holds Try.pinned (OpenSpec.upto fnExactMoveCameraSpec)

/-- 'laws.FnExactMeetPlanes', WHERE WHAT IT READS IS OF BULK AT MOST 1048576: true; the input reads as it did. -/
def fnExactMeetPlanesUptoRow : OpenClaim := { program := "ytobklhfilmgncaa", sum := "0dffb620c2d79e95dca2ab98df9231975c0323c5f4a3b2c336eeecab91433576", func := "loop.example/g01249/laws.FnExactMeetPlanes", spec := "fnExactMeetPlanes", inPlace := ["math.sqrt"], unfollowed := true, recurses := true, apart := false, narrowed := true }
def FnExactMeetPlanesUptoSaid : Prop := fnExactMeetPlanesUptoRow.holds Try.pinned (OpenSpec.upto fnExactMeetPlanesSpec)

end Rows
end Go.Proofs.Ytobklhfilmgncaa
