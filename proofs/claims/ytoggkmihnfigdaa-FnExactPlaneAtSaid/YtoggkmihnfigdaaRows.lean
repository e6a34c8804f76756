/-
  No cell of these rows narrows 'for every input' (looked for: loops, veiled, ifaces, maps, wideKeys, modest, calm, conditions, laid).
  DERIVED. THE GIVEN ROWS OF THIS SEAT. 12 by the template 'for every input the law returns true; each argument reads behind the call as it read before'; 0 by the template 'total and deterministic' (their statements: YtoggkmihnfigdaaTotals.lean).
  GIVEN WITH THE SEED: the statements are not yours to turn. If you find one false, say at which input.
  Laid BY PROGRAM, IN A SANDBOX (cutbox-rows.mjs): the forced cells as the released guide's own fill.sh prints them over the translation bd2524aa21c42a34… (all of the seat's roots in one cut). By AI agents, Wed Nov 11 2026. No macro, syntax, notation, axiom, sorry.
-/
import Derived.Test.YtoggkmihnfigdaaChecked
import GoSem.Claim
import GoSem.ClaimJoined
import GoSem.ClaimMapViews
import Derived.JoinedTies
import Derived.KernelRfl
namespace Go.Proofs.Ytoggkmihnfigdaa
/- THE CELL 'sum', in the pinned program and in every row, IS THE sha256 OF THE DUMP (.gsa) THAT YtoggkmihnfigdaaProg.lean LOADS. Nothing in Lean hashes anything: it is a label: what it is worth is what the hold of that sum in a sandbox is worth. -/
noncomputable def Try.pinned : Pinned := { name := "ytoggkmihnfigdaa", sum := "bd2524aa21c42a34d62d3a313209379dd075a2af0b783eabc31e76cd40fd3054", checked := Try.checked }
namespace Rows
def none {H : Type} : Left H := { results := [], args := [] }

/-- 'laws.FnExactCrossOf': WHATEVER THE INPUT: true; the input reads as it did. -/
def fnExactCrossOfSpec : ChangeSpec := { name := "fnExactCrossOf", fn := fun _ => fun
  | [d1, d2] => { results := [.lit (.bool true)], args := [d1, d2] }
  | _ => none }
def fnExactCrossOfRow : OpenClaim := { program := "ytoggkmihnfigdaa", sum := "bd2524aa21c42a34d62d3a313209379dd075a2af0b783eabc31e76cd40fd3054", func := "loop.example/g01249/laws.FnExactCrossOf", spec := "fnExactCrossOf", apart := false }
def FnExactCrossOfSaid : Prop := fnExactCrossOfRow.holds Try.pinned (OpenSpec.ofChange fnExactCrossOfSpec)

/-- ITS FALSE NEIGHBOUR: 'it returns false'. Refute it at one input. -/
def fnExactCrossOfWrong : ChangeSpec := { name := "fnExactCrossOf", fn := fun _ => fun
  | [d1, d2] => { results := [.lit (.bool false)], args := [d1, d2] }
  | _ => none }
def FnExactCrossOfWrongFalsely : Prop := fnExactCrossOfRow.holds Try.pinned (OpenSpec.ofChange fnExactCrossOfWrong)

/-- 'laws.FnExactSameCamera': WHATEVER THE INPUT: true; the input reads as it did. -/
def fnExactSameCameraSpec : ChangeSpec := { name := "fnExactSameCamera", fn := fun _ => fun
  | [d1, d2] => { results := [.lit (.bool true)], args := [d1, d2] }
  | _ => none }
def fnExactSameCameraRow : OpenClaim := { program := "ytoggkmihnfigdaa", sum := "bd2524aa21c42a34d62d3a313209379dd075a2af0b783eabc31e76cd40fd3054", func := "loop.example/g01249/laws.FnExactSameCamera", spec := "fnExactSameCamera", inPlace := ["math.Float32bits"], apart := false }
def FnExactSameCameraSaid : Prop := fnExactSameCameraRow.holds Try.pinned (OpenSpec.ofChange fnExactSameCameraSpec)

/-- ITS FALSE NEIGHBOUR: 'it returns false'. Refute it at one input. -/
def fnExactSameCameraWrong : ChangeSpec := { name := "fnExactSameCamera", fn := fun _ => fun
  | [d1, d2] => { results := [.lit (.bool false)], args := [d1, d2] }
  | _ => none }
def FnExactSameCameraWrongFalsely : Prop := fnExactSameCameraRow.holds Try.pinned (OpenSpec.ofChange fnExactSameCameraWrong)

/-- 'laws.FnExactSineOf': WHATEVER THE INPUT: true; the input reads as it did. -/
def fnExactSineOfSpec : ChangeSpec := { name := "fnExactSineOf", fn := fun _ => fun
  | [d] => { results := [.lit (.bool true)], args := [d] }
  | _ => none }
def fnExactSineOfRow : OpenClaim := { program := "ytoggkmihnfigdaa", sum := "bd2524aa21c42a34d62d3a313209379dd075a2af0b783eabc31e76cd40fd3054", func := "loop.example/g01249/laws.FnExactSineOf", spec := "fnExactSineOf", inPlace := ["math.Float64frombits", "math.RoundToEven"], apart := false }
def FnExactSineOfSaid : Prop := fnExactSineOfRow.holds Try.pinned (OpenSpec.ofChange fnExactSineOfSpec)

/-- ITS FALSE NEIGHBOUR: 'it returns false'. Refute it at one input. -/
def fnExactSineOfWrong : ChangeSpec := { name := "fnExactSineOf", fn := fun _ => fun
  | [d] => { results := [.lit (.bool false)], args := [d] }
  | _ => none }
def FnExactSineOfWrongFalsely : Prop := fnExactSineOfRow.holds Try.pinned (OpenSpec.ofChange fnExactSineOfWrong)

/-- 'laws.FnExactLengthOf': WHATEVER THE INPUT: true; the input reads as it did. -/
def fnExactLengthOfSpec : ChangeSpec := { name := "fnExactLengthOf", fn := fun _ => fun
  | [d] => { results := [.lit (.bool true)], args := [d] }
  | _ => none }
def fnExactLengthOfRow : OpenClaim := { program := "ytoggkmihnfigdaa", sum := "bd2524aa21c42a34d62d3a313209379dd075a2af0b783eabc31e76cd40fd3054", func := "loop.example/g01249/laws.FnExactLengthOf", spec := "fnExactLengthOf", inPlace := ["math.sqrt"], apart := false }
def FnExactLengthOfSaid : Prop := fnExactLengthOfRow.holds Try.pinned (OpenSpec.ofChange fnExactLengthOfSpec)

/-- ITS FALSE NEIGHBOUR: 'it returns false'. Refute it at one input. -/
def fnExactLengthOfWrong : ChangeSpec := { name := "fnExactLengthOf", fn := fun _ => fun
  | [d] => { results := [.lit (.bool false)], args := [d] }
  | _ => none }
def FnExactLengthOfWrongFalsely : Prop := fnExactLengthOfRow.holds Try.pinned (OpenSpec.ofChange fnExactLengthOfWrong)

/-- 'laws.FnExactDistanceBetween': WHATEVER THE INPUT: true; the input reads as it did. -/
def fnExactDistanceBetweenSpec : ChangeSpec := { name := "fnExactDistanceBetween", fn := fun _ => fun
  | [d1, d2] => { results := [.lit (.bool true)], args := [d1, d2] }
  | _ => none }
def fnExactDistanceBetweenRow : OpenClaim := { program := "ytoggkmihnfigdaa", sum := "bd2524aa21c42a34d62d3a313209379dd075a2af0b783eabc31e76cd40fd3054", func := "loop.example/g01249/laws.FnExactDistanceBetween", spec := "fnExactDistanceBetween", inPlace := ["math.sqrt"], apart := false }
def FnExactDistanceBetweenSaid : Prop := fnExactDistanceBetweenRow.holds Try.pinned (OpenSpec.ofChange fnExactDistanceBetweenSpec)

/-- ITS FALSE NEIGHBOUR: 'it returns false'. Refute it at one input. -/
def fnExactDistanceBetweenWrong : ChangeSpec := { name := "fnExactDistanceBetween", fn := fun _ => fun
  | [d1, d2] => { results := [.lit (.bool false)], args := [d1, d2] }
  | _ => none }
def FnExactDistanceBetweenWrongFalsely : Prop := fnExactDistanceBetweenRow.holds Try.pinned (OpenSpec.ofChange fnExactDistanceBetweenWrong)

/-- 'laws.FnExactValidPlane': WHATEVER THE INPUT: true; the input reads as it did. -/
def fnExactValidPlaneSpec : ChangeSpec := { name := "fnExactValidPlane", fn := fun _ => fun
  | [d] => { results := [.lit (.bool true)], args := [d] }
  | _ => none }
def fnExactValidPlaneRow : OpenClaim := { program := "ytoggkmihnfigdaa", sum := "bd2524aa21c42a34d62d3a313209379dd075a2af0b783eabc31e76cd40fd3054", func := "loop.example/g01249/laws.FnExactValidPlane", spec := "fnExactValidPlane", inPlace := ["math.sqrt"], unfollowed := true, recurses := true, apart := false }
def FnExactValidPlaneSaid : Prop := fnExactValidPlaneRow.holds Try.pinned (OpenSpec.ofChange fnExactValidPlaneSpec)

/-- ITS FALSE NEIGHBOUR: 'it returns false'. Refute it at one input. -/
def fnExactValidPlaneWrong : ChangeSpec := { name := "fnExactValidPlane", fn := fun _ => fun
  | [d] => { results := [.lit (.bool false)], args := [d] }
  | _ => none }
def FnExactValidPlaneWrongFalsely : Prop := fnExactValidPlaneRow.holds Try.pinned (OpenSpec.ofChange fnExactValidPlaneWrong)

/-- 'laws.FnExactUnitOf': WHATEVER THE INPUT: true; the input reads as it did. -/
def fnExactUnitOfSpec : ChangeSpec := { name := "fnExactUnitOf", fn := fun _ => fun
  | [d] => { results := [.lit (.bool true)], args := [d] }
  | _ => none }
def fnExactUnitOfRow : OpenClaim := { program := "ytoggkmihnfigdaa", sum := "bd2524aa21c42a34d62d3a313209379dd075a2af0b783eabc31e76cd40fd3054", func := "loop.example/g01249/laws.FnExactUnitOf", spec := "fnExactUnitOf", inPlace := ["math.sqrt"], unfollowed := true, recurses := true, apart := false }
def FnExactUnitOfSaid : Prop := fnExactUnitOfRow.holds Try.pinned (OpenSpec.ofChange fnExactUnitOfSpec)

/-- ITS FALSE NEIGHBOUR: 'it returns false'. Refute it at one input. -/
def fnExactUnitOfWrong : ChangeSpec := { name := "fnExactUnitOf", fn := fun _ => fun
  | [d] => { results := [.lit (.bool false)], args := [d] }
  | _ => none }
def FnExactUnitOfWrongFalsely : Prop := fnExactUnitOfRow.holds Try.pinned (OpenSpec.ofChange fnExactUnitOfWrong)

/-- 'laws.FnExactSideOf': WHATEVER THE INPUT: true; the input reads as it did. -/
def fnExactSideOfSpec : ChangeSpec := { name := "fnExactSideOf", fn := fun _ => fun
  | [d1, d2] => { results := [.lit (.bool true)], args := [d1, d2] }
  | _ => none }
def fnExactSideOfRow : OpenClaim := { program := "ytoggkmihnfigdaa", sum := "bd2524aa21c42a34d62d3a313209379dd075a2af0b783eabc31e76cd40fd3054", func := "loop.example/g01249/laws.FnExactSideOf", spec := "fnExactSideOf", inPlace := ["math.sqrt"], unfollowed := true, recurses := true, apart := false }
def FnExactSideOfSaid : Prop := fnExactSideOfRow.holds Try.pinned (OpenSpec.ofChange fnExactSideOfSpec)

/-- ITS FALSE NEIGHBOUR: 'it returns false'. Refute it at one input. -/
def fnExactSideOfWrong : ChangeSpec := { name := "fnExactSideOf", fn := fun _ => fun
  | [d1, d2] => { results := [.lit (.bool false)], args := [d1, d2] }
  | _ => none }
def FnExactSideOfWrongFalsely : Prop := fnExactSideOfRow.holds Try.pinned (OpenSpec.ofChange fnExactSideOfWrong)

/-- 'laws.FnExactValidCamera': WHATEVER THE INPUT: true; the input reads as it did. -/
def fnExactValidCameraSpec : ChangeSpec := { name := "fnExactValidCamera", fn := fun _ => fun
  | [d] => { results := [.lit (.bool true)], args := [d] }
  | _ => none }
def fnExactValidCameraRow : OpenClaim := { program := "ytoggkmihnfigdaa", sum := "bd2524aa21c42a34d62d3a313209379dd075a2af0b783eabc31e76cd40fd3054", func := "loop.example/g01249/laws.FnExactValidCamera", spec := "fnExactValidCamera", inPlace := ["math.sqrt"], unfollowed := true, recurses := true, apart := false }
def FnExactValidCameraSaid : Prop := fnExactValidCameraRow.holds Try.pinned (OpenSpec.ofChange fnExactValidCameraSpec)

/-- ITS FALSE NEIGHBOUR: 'it returns false'. Refute it at one input. -/
def fnExactValidCameraWrong : ChangeSpec := { name := "fnExactValidCamera", fn := fun _ => fun
  | [d] => { results := [.lit (.bool false)], args := [d] }
  | _ => none }
def FnExactValidCameraWrongFalsely : Prop := fnExactValidCameraRow.holds Try.pinned (OpenSpec.ofChange fnExactValidCameraWrong)

/-- 'laws.FnExactFootOf': WHATEVER THE INPUT: true; the input reads as it did. -/
def fnExactFootOfSpec : ChangeSpec := { name := "fnExactFootOf", fn := fun _ => fun
  | [d1, d2] => { results := [.lit (.bool true)], args := [d1, d2] }
  | _ => none }
def fnExactFootOfRow : OpenClaim := { program := "ytoggkmihnfigdaa", sum := "bd2524aa21c42a34d62d3a313209379dd075a2af0b783eabc31e76cd40fd3054", func := "loop.example/g01249/laws.FnExactFootOf", spec := "fnExactFootOf", inPlace := ["math.sqrt"], unfollowed := true, recurses := true, apart := false }
def FnExactFootOfSaid : Prop := fnExactFootOfRow.holds Try.pinned (OpenSpec.ofChange fnExactFootOfSpec)

/-- ITS FALSE NEIGHBOUR: 'it returns false'. Refute it at one input. -/
def fnExactFootOfWrong : ChangeSpec := { name := "fnExactFootOf", fn := fun _ => fun
  | [d1, d2] => { results := [.lit (.bool false)], args := [d1, d2] }
  | _ => none }
def FnExactFootOfWrongFalsely : Prop := fnExactFootOfRow.holds Try.pinned (OpenSpec.ofChange fnExactFootOfWrong)

/-- 'laws.FnExactMirrorPoint': WHATEVER THE INPUT: true; the input reads as it did. -/
def fnExactMirrorPointSpec : ChangeSpec := { name := "fnExactMirrorPoint", fn := fun _ => fun
  | [d1, d2] => { results := [.lit (.bool true)], args := [d1, d2] }
  | _ => none }
def fnExactMirrorPointRow : OpenClaim := { program := "ytoggkmihnfigdaa", sum := "bd2524aa21c42a34d62d3a313209379dd075a2af0b783eabc31e76cd40fd3054", func := "loop.example/g01249/laws.FnExactMirrorPoint", spec := "fnExactMirrorPoint", inPlace := ["math.sqrt"], unfollowed := true, recurses := true, apart := false }
def FnExactMirrorPointSaid : Prop := fnExactMirrorPointRow.holds Try.pinned (OpenSpec.ofChange fnExactMirrorPointSpec)

/-- ITS FALSE NEIGHBOUR: 'it returns false'. Refute it at one input. -/
def fnExactMirrorPointWrong : ChangeSpec := { name := "fnExactMirrorPoint", fn := fun _ => fun
  | [d1, d2] => { results := [.lit (.bool false)], args := [d1, d2] }
  | _ => none }
def FnExactMirrorPointWrongFalsely : Prop := fnExactMirrorPointRow.holds Try.pinned (OpenSpec.ofChange fnExactMirrorPointWrong)

/-- 'laws.FnExactPlaneAt': WHATEVER THE INPUT: true; the input reads as it did. -/
def fnExactPlaneAtSpec : ChangeSpec := { name := "fnExactPlaneAt", fn := fun _ => fun
  | [d1, d2] => { results := [.lit (.bool true)], args := [d1, d2] }
  | _ => none }
def fnExactPlaneAtRow : OpenClaim := { program := "ytoggkmihnfigdaa", sum := "bd2524aa21c42a34d62d3a313209379dd075a2af0b783eabc31e76cd40fd3054", func := "loop.example/g01249/laws.FnExactPlaneAt", spec := "fnExactPlaneAt", inPlace := ["math.sqrt"], unfollowed := true, recurses := true, apart := false }
def FnExactPlaneAtSaid : Prop := fnExactPlaneAtRow.holds Try.pinned (OpenSpec.ofChange fnExactPlaneAtSpec)

/-- ITS FALSE NEIGHBOUR: 'it returns false'. Refute it at one input. -/
def fnExactPlaneAtWrong : ChangeSpec := { name := "fnExactPlaneAt", fn := fun _ => fun
  | [d1, d2] => { results := [.lit (.bool false)], args := [d1, d2] }
  | _ => none }
def FnExactPlaneAtWrongFalsely : Prop := fnExactPlaneAtRow.holds Try.pinned (OpenSpec.ofChange fnExactPlaneAtWrong)

/- THE SECOND FORM. 'bulk': how many values and letters a reading holds, each counted each time it is reached (what is shared counts as often as it is met; a slice's spare places count too). A statement '..UptoSaid' is the law's where the arguments, and the package variables that the reading takes, are together of bulk at most 1048576: NARROWER than '..Said'. Prove '..Said' where nothing that the law and all that it calls make is longer than what came in: it says more and counts as full. Else prove '..UptoSaid'. A law counts once. -/
mutual
def uptoBulk {H : Type} : DataW H → Nat
  | .lit (.string bytes) => bytes.length + 1
  | .lit _ => 1
  | .nil => 1
  | .ptr d => uptoBulk d + 1
  | .slice elems spare => uptoBulkAll elems + uptoBulkAll spare + 1
  | .agg parts => uptoBulkAll parts + 1
  | .iface _ d => uptoBulk d + 1
  | .map entries => uptoBulkEntries entries + 1
  | .held _ => 1
def uptoBulkAll {H : Type} : List (DataW H) → Nat
  | [] => 0
  | d :: r => uptoBulk d + uptoBulkAll r
def uptoBulkEntries {H : Type} : List (Lit × DataW H) → Nat
  | [] => 0
  | x :: r => uptoBulkEntry x + uptoBulkEntries r
def uptoBulkEntry {H : Type} : Lit × DataW H → Nat
  | (.string bytes, d) => bytes.length + uptoBulk d + 1
  | (_, d) => uptoBulk d + 1
 end
def uptoSmall : (H : Type) → List (DataW H) → Bool := fun _ ds => decide (uptoBulkAll ds ≤ 1048576)
def OpenSpec.upto (s : _root_.Go.ChangeSpec) : _root_.Go.OpenSpec := { _root_.Go.OpenSpec.ofChange s with cond := some uptoSmall }

/-- 'laws.FnExactCrossOf', WHERE WHAT IT READS IS OF BULK AT MOST 1048576: true; the input reads as it did. -/
def fnExactCrossOfUptoRow : OpenClaim := { program := "ytoggkmihnfigdaa", sum := "bd2524aa21c42a34d62d3a313209379dd075a2af0b783eabc31e76cd40fd3054", func := "loop.example/g01249/laws.FnExactCrossOf", spec := "fnExactCrossOf", apart := false, narrowed := true }
def FnExactCrossOfUptoSaid : Prop := fnExactCrossOfUptoRow.holds Try.pinned (OpenSpec.upto fnExactCrossOfSpec)

/-- 'laws.FnExactSameCamera', WHERE WHAT IT READS IS OF BULK AT MOST 1048576: true; the input reads as it did. -/
def fnExactSameCameraUptoRow : OpenClaim := { program := "ytoggkmihnfigdaa", sum := "bd2524aa21c42a34d62d3a313209379dd075a2af0b783eabc31e76cd40fd3054", func := "loop.example/g01249/laws.FnExactSameCamera", spec := "fnExactSameCamera", inPlace := ["math.Float32bits"], apart := false, narrowed := true }
def FnExactSameCameraUptoSaid : Prop := fnExactSameCameraUptoRow.holds Try.pinned (OpenSpec.upto fnExactSameCameraSpec)

/-- 'laws.FnExactSineOf', WHERE WHAT IT READS IS OF BULK AT MOST 1048576: true; the input reads as it did. -/
def fnExactSineOfUptoRow : OpenClaim := { program := "ytoggkmihnfigdaa", sum := "bd2524aa21c42a34d62d3a313209379dd075a2af0b783eabc31e76cd40fd3054", func := "loop.example/g01249/laws.FnExactSineOf", spec := "fnExactSineOf", inPlace := ["math.Float64frombits", "math.RoundToEven"], apart := false, narrowed := true }
def FnExactSineOfUptoSaid : Prop := fnExactSineOfUptoRow.holds Try.pinned (OpenSpec.upto fnExactSineOfSpec)

/-- 'laws.FnExactLengthOf', WHERE WHAT IT READS IS OF BULK AT MOST 1048576: true; the input reads as it did. -/
def fnExactLengthOfUptoRow : OpenClaim := { program := "ytoggkmihnfigdaa", sum := "bd2524aa21c42a34d62d3a313209379dd075a2af0b783eabc31e76cd40fd3054", func := "loop.example/g01249/laws.FnExactLengthOf", spec := "fnExactLengthOf", inPlace := ["math.sqrt"], apart := false, narrowed := true }
def FnExactLengthOfUptoSaid : Prop := fnExactLengthOfUptoRow.holds Try.pinned (OpenSpec.upto fnExactLengthOfSpec)

/-- 'laws.FnExactDistanceBetween', WHERE WHAT IT READS IS OF BULK AT MOST 1048576: true; the input reads as it did. -/
def fnExactDistanceBetweenUptoRow : OpenClaim := { program := "ytoggkmihnfigdaa", sum := "bd2524aa21c42a34d62d3a313209379dd075a2af0b783eabc31e76cd40fd3054", func := "loop.example/g01249/laws.FnExactDistanceBetween", spec := "fnExactDistanceBetween", inPlace := ["math.sqrt"], apart := false, narrowed := true }
def FnExactDistanceBetweenUptoSaid : Prop := fnExactDistanceBetweenUptoRow.holds Try.pinned (OpenSpec.upto fnExactDistanceBetweenSpec)

/-- 'laws.FnExactValidPlane', WHERE WHAT IT READS IS OF BULK AT MOST 1048576: true; the input reads as it did. -/
def fnExactValidPlaneUptoRow : OpenClaim := { program := "ytoggkmihnfigdaa", sum := "bd2524aa21c42a34d62d3a313209379dd075a2af0b783eabc31e76cd40fd3054", func := "loop.example/g01249/laws.FnExactValidPlane", spec := "fnExactValidPlane", inPlace := ["math.sqrt"], unfollowed := true, recurses := true, apart := false, narrowed := true }
def FnExactValidPlaneUptoSaid : Prop := fnExactValidPlaneUptoRow.holds Try.pinned (OpenSpec.upto fnExactValidPlaneSpec)

/-- 'laws.FnExactUnitOf', WHERE WHAT IT READS IS OF BULK AT MOST 1048576: true; the input reads as it did. -/
def fnExactUnitOfUptoRow : OpenClaim := { program := "ytoggkmihnfigdaa", sum := "bd2524aa21c42a34d62d3a313209379dd075a2af0b783eabc31e76cd40fd3054", func := "loop.example/g01249/laws.FnExactUnitOf", spec := "fnExactUnitOf", inPlace := ["math.sqrt"], unfollowed := true, recurses := true, apart := false, narrowed := true }
def FnExactUnitOfUptoSaid : Prop := fnExactUnitOfUptoRow.holds Try.pinned (OpenSpec.upto fnExactUnitOfSpec)

/-- 'laws.FnExactSideOf', WHERE WHAT IT READS IS OF BULK AT MOST 1048576: true; the input reads as it did. -/
def fnExactSideOfUptoRow : OpenClaim := { program := "ytoggkmihnfigdaa", sum := "bd2524aa21c42a34d62d3a313209379dd075a2af0b783eabc31e76cd40fd3054", func := "loop.example/g01249/laws.FnExactSideOf", spec := "fnExactSideOf", inPlace := ["math.sqrt"], unfollowed := true, recurses := true, apart := false, narrowed := true }
def FnExactSideOfUptoSaid : Prop := fnExactSideOfUptoRow.holds Try.pinned (OpenSpec.upto fnExactSideOfSpec)

/-- 'laws.FnExactValidCamera', WHERE WHAT IT READS IS OF BULK AT MOST 1048576: true; the input reads as it did. -/
def fnExactValidCameraUptoRow : OpenClaim := { program := "ytoggkmihnfigdaa", sum := "bd2524aa21c42a34d62d3a313209379dd075a2af0b783eabc31e76cd40fd3054", func := "loop.example/g01249/laws.FnExactValidCamera", spec := "fnExactValidCamera", inPlace := ["math.sqrt"], unfollowed := true, recurses := true, apart := false, narrowed := true }
def FnExactValidCameraUptoSaid : Prop := fnExactValidCameraUptoRow.holds Try.pinned (OpenSpec.upto fnExactValidCameraSpec)

/-- 'laws.FnExactFootOf', WHERE WHAT IT READS IS OF BULK AT MOST 1048576: true; the input reads as it did. -/
def fnExactFootOfUptoRow : OpenClaim := { program := "ytoggkmihnfigdaa", sum := "bd2524aa21c42a34d62d3a313209379dd075a2af0b783eabc31e76cd40fd3054", func := "loop.example/g01249/laws.FnExactFootOf", spec := "fnExactFootOf", inPlace := ["math.sqrt"], unfollowed := true, recurses := true, apart := false, narrowed := true }
def FnExactFootOfUptoSaid : Prop := fnExactFootOfUptoRow.holds Try.pinned (OpenSpec.upto fnExactFootOfSpec)

/-- 'laws.FnExactMirrorPoint', WHERE WHAT IT READS IS OF BULK AT MOST 1048576: true; the input reads as it did. -/
def fnExactMirrorPointUptoRow : OpenClaim := { program := "ytoggkmihnfigdaa", sum := "bd2524aa21c42a34d62d3a313209379dd075a2af0b783eabc31e76cd40fd3054", func := "loop.example/g01249/laws.FnExactMirrorPoint", spec := "fnExactMirrorPoint", inPlace := ["math.sqrt"], unfollowed := true, recurses := true, apart := false, narrowed := true }
def FnExactMirrorPointUptoSaid : Prop := fnExactMirrorPointUptoRow.holds Try.pinned (OpenSpec.upto fnExactMirrorPointSpec)

/-- 'laws.FnExactPlaneAt', WHERE WHAT IT READS IS OF BULK AT MOST 1048576: true; the input reads as it did. -/
def fnExactPlaneAtUptoRow : OpenClaim := { program := "ytoggkmihnfigdaa", sum := "bd2524aa21c42a34d62d3a313209379dd075a2af0b783eabc31e76cd40fd3054", func := "loop.example/g01249/laws.FnExactPlaneAt", spec := "fnExactPlaneAt", inPlace := ["math.sqrt"], unfollowed := true, recurses := true, apart := false, narrowed := true }
def FnExactPlaneAtUptoSaid : Prop := fnExactPlaneAtUptoRow.holds Try.pinned (OpenSpec.upto fnExactPlaneAtSpec)

end Rows
end Go.Proofs.Ytoggkmihnfigdaa
