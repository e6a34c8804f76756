/-
  No cell of these rows narrows 'for every input' (looked for: loops, veiled, ifaces, maps, wideKeys, modest, calm, conditions, laid).
  DERIVED. THE GIVEN ROWS OF THIS SEAT. 6 by the template 'for every input the law returns true; each argument reads behind the call as it read before'; 0 by the template 'total and deterministic' (their statements: YtkaiihbibcjglaaTotals.lean).
  GIVEN WITH THE SEED: the statements are not yours to turn. If you find one false, say at which input.
  Laid BY PROGRAM, IN A SANDBOX (cutbox-rows.mjs): the forced cells as the released guide's own fill.sh prints them over the translation 31c141d1cfe3e4ff… (all of the seat's roots in one cut). By AI agents, Wed Nov 11 2026. No macro, syntax, notation, axiom, sorry.
-/
import Derived.Test.YtkaiihbibcjglaaChecked
import GoSem.Claim
import GoSem.ClaimJoined
import GoSem.ClaimMapViews
import Derived.JoinedTies
import Derived.KernelRfl
namespace Go.Proofs.Ytkaiihbibcjglaa
/- THE CELL 'sum', in the pinned program and in every row, IS THE sha256 OF THE DUMP (.gsa) THAT YtkaiihbibcjglaaProg.lean LOADS. Nothing in Lean hashes anything: it is a label: what it is worth is what the hold of that sum in a sandbox is worth. -/
noncomputable def Try.pinned : Pinned := { name := "ytkaiihbibcjglaa", sum := "31c141d1cfe3e4ff9bda25ce790edc202eee3c835aef9933d0e16c33c085fe71", checked := Try.checked }
namespace Rows
def none {H : Type} : Left H := { results := [], args := [] }

/-- 'laws.FnExactTurnAround': WHATEVER THE INPUT: true; the input reads as it did. -/
def fnExactTurnAroundSpec : ChangeSpec := { name := "fnExactTurnAround", fn := fun _ => fun
  | [d1, d2, d3] => { results := [.lit (.bool true)], args := [d1, d2, d3] }
  | _ => none }
def fnExactTurnAroundRow : OpenClaim := { program := "ytkaiihbibcjglaa", sum := "31c141d1cfe3e4ff9bda25ce790edc202eee3c835aef9933d0e16c33c085fe71", func := "loop.example/g01249/laws.FnExactTurnAround", spec := "fnExactTurnAround", inPlace := ["math.sqrt", "math.Float64frombits", "math.RoundToEven"], unfollowed := true, recurses := true, apart := false }
def FnExactTurnAroundSaid : Prop := fnExactTurnAroundRow.holds Try.pinned (OpenSpec.ofChange fnExactTurnAroundSpec)

/-- ITS FALSE NEIGHBOUR: 'it returns false'. Refute it at one input. -/
def fnExactTurnAroundWrong : ChangeSpec := { name := "fnExactTurnAround", fn := fun _ => fun
  | [d1, d2, d3] => { results := [.lit (.bool false)], args := [d1, d2, d3] }
  | _ => none }
def FnExactTurnAroundWrongFalsely : Prop := fnExactTurnAroundRow.holds Try.pinned (OpenSpec.ofChange fnExactTurnAroundWrong)

/-- 'laws.FnExactTwoViews': WHATEVER THE INPUT: true; the input reads as it did. -/
def fnExactTwoViewsSpec : ChangeSpec := { name := "fnExactTwoViews", fn := fun _ => fun
  | [d1, d2] => { results := [.lit (.bool true)], args := [d1, d2] }
  | _ => none }
def fnExactTwoViewsRow : OpenClaim := { program := "ytkaiihbibcjglaa", sum := "31c141d1cfe3e4ff9bda25ce790edc202eee3c835aef9933d0e16c33c085fe71", func := "loop.example/g01249/laws.FnExactTwoViews", spec := "fnExactTwoViews", inPlace := ["math.sqrt"], unfollowed := true, recurses := true, apart := false }
def FnExactTwoViewsSaid : Prop := fnExactTwoViewsRow.holds Try.pinned (OpenSpec.ofChange fnExactTwoViewsSpec)

/-- ITS FALSE NEIGHBOUR: 'it returns false'. Refute it at one input. -/
def fnExactTwoViewsWrong : ChangeSpec := { name := "fnExactTwoViews", fn := fun _ => fun
  | [d1, d2] => { results := [.lit (.bool false)], args := [d1, d2] }
  | _ => none }
def FnExactTwoViewsWrongFalsely : Prop := fnExactTwoViewsRow.holds Try.pinned (OpenSpec.ofChange fnExactTwoViewsWrong)

/-- 'laws.FnExactClipAhead': WHATEVER THE INPUT: true; the input reads as it did. -/
def fnExactClipAheadSpec : ChangeSpec := { name := "fnExactClipAhead", fn := fun _ => fun
  | [d1, d2, d3] => { results := [.lit (.bool true)], args := [d1, d2, d3] }
  | _ => none }
def fnExactClipAheadRow : OpenClaim := { program := "ytkaiihbibcjglaa", sum := "31c141d1cfe3e4ff9bda25ce790edc202eee3c835aef9933d0e16c33c085fe71", func := "loop.example/g01249/laws.FnExactClipAhead", spec := "fnExactClipAhead", inPlace := ["math.sqrt"], unfollowed := true, recurses := true, apart := false }
def FnExactClipAheadSaid : Prop := fnExactClipAheadRow.holds Try.pinned (OpenSpec.ofChange fnExactClipAheadSpec)

/-- ITS FALSE NEIGHBOUR: 'it returns false'. Refute it at one input. -/
def fnExactClipAheadWrong : ChangeSpec := { name := "fnExactClipAhead", fn := fun _ => fun
  | [d1, d2, d3] => { results := [.lit (.bool false)], args := [d1, d2, d3] }
  | _ => none }
def FnExactClipAheadWrongFalsely : Prop := fnExactClipAheadRow.holds Try.pinned (OpenSpec.ofChange fnExactClipAheadWrong)

/-- 'laws.FnExactProjectLine': WHATEVER THE INPUT: true; the input reads as it did. -/
def fnExactProjectLineSpec : ChangeSpec := { name := "fnExactProjectLine", fn := fun _ => fun
  | [d1, d2, d3] => { results := [.lit (.bool true)], args := [d1, d2, d3] }
  | _ => none }
def fnExactProjectLineRow : OpenClaim := { program := "ytkaiihbibcjglaa", sum := "31c141d1cfe3e4ff9bda25ce790edc202eee3c835aef9933d0e16c33c085fe71", func := "loop.example/g01249/laws.FnExactProjectLine", spec := "fnExactProjectLine", inPlace := ["math.sqrt"], unfollowed := true, recurses := true, apart := false }
def FnExactProjectLineSaid : Prop := fnExactProjectLineRow.holds Try.pinned (OpenSpec.ofChange fnExactProjectLineSpec)

/-- ITS FALSE NEIGHBOUR: 'it returns false'. Refute it at one input. -/
def fnExactProjectLineWrong : ChangeSpec := { name := "fnExactProjectLine", fn := fun _ => fun
  | [d1, d2, d3] => { results := [.lit (.bool false)], args := [d1, d2, d3] }
  | _ => none }
def FnExactProjectLineWrongFalsely : Prop := fnExactProjectLineRow.holds Try.pinned (OpenSpec.ofChange fnExactProjectLineWrong)

/-- 'laws.FnExactSeenOnPlane': WHATEVER THE INPUT: true; the input reads as it did. -/
def fnExactSeenOnPlaneSpec : ChangeSpec := { name := "fnExactSeenOnPlane", fn := fun _ => fun
  | [d1, d2, d3] => { results := [.lit (.bool true)], args := [d1, d2, d3] }
  | _ => none }
def fnExactSeenOnPlaneRow : OpenClaim := { program := "ytkaiihbibcjglaa", sum := "31c141d1cfe3e4ff9bda25ce790edc202eee3c835aef9933d0e16c33c085fe71", func := "loop.example/g01249/laws.FnExactSeenOnPlane", spec := "fnExactSeenOnPlane", inPlace := ["math.sqrt", "math.Float64bits", "math.Float64frombits"], unfollowed := true, recurses := true, apart := false }
def FnExactSeenOnPlaneSaid : Prop := fnExactSeenOnPlaneRow.holds Try.pinned (OpenSpec.ofChange fnExactSeenOnPlaneSpec)

/-- ITS FALSE NEIGHBOUR: 'it returns false'. Refute it at one input. -/
def fnExactSeenOnPlaneWrong : ChangeSpec := { name := "fnExactSeenOnPlane", fn := fun _ => fun
  | [d1, d2, d3] => { results := [.lit (.bool false)], args := [d1, d2, d3] }
  | _ => none }
def FnExactSeenOnPlaneWrongFalsely : Prop := fnExactSeenOnPlaneRow.holds Try.pinned (OpenSpec.ofChange fnExactSeenOnPlaneWrong)

/-- 'laws.FnExactTurnCamera': WHATEVER THE INPUT: true; the input reads as it did. -/
def fnExactTurnCameraSpec : ChangeSpec := { name := "fnExactTurnCamera", fn := fun _ => fun
  | [d1, d2] => { results := [.lit (.bool true)], args := [d1, d2] }
  | _ => none }
def fnExactTurnCameraRow : OpenClaim := { program := "ytkaiihbibcjglaa", sum := "31c141d1cfe3e4ff9bda25ce790edc202eee3c835aef9933d0e16c33c085fe71", func := "loop.example/g01249/laws.FnExactTurnCamera", spec := "fnExactTurnCamera", inPlace := ["math.sqrt", "math.Float64frombits", "math.RoundToEven"], unfollowed := true, recurses := true, apart := false }
def FnExactTurnCameraSaid : Prop := fnExactTurnCameraRow.holds Try.pinned (OpenSpec.ofChange fnExactTurnCameraSpec)

/-- ITS FALSE NEIGHBOUR: 'it returns false'. Refute it at one input. -/
def fnExactTurnCameraWrong : ChangeSpec := { name := "fnExactTurnCamera", fn := fun _ => fun
  | [d1, d2] => { results := [.lit (.bool false)], args := [d1, d2] }
  | _ => none }
def FnExactTurnCameraWrongFalsely : Prop := fnExactTurnCameraRow.holds Try.pinned (OpenSpec.ofChange fnExactTurnCameraWrong)

/- THE SECOND FORM. 'bulk': how many values and letters a reading holds, each counted each time it is reached (what is shared counts as often as it is met; a slice's spare places count too). A statement '..UptoSaid' is the law's where the arguments, and the package variables that the reading takes, are together of bulk at most 1048576: NARROWER than '..Said'. Prove '..Said' where nothing that the law and all that it calls make is longer than what came in: it says more and counts as full. Else prove '..UptoSaid'. A law counts once. -/
mutual
def uptoBulk {H : Type} : DataW H → Nat
  | .lit (.string bytes) => bytes.length + 1
  | .lit _ => 1
  | .nil => 1
  | .ptr d => uptoBulk d + 1
  | .slice elems spare => uptoBulkAll elems + uptoBulkAll spare + 1
  | .agg parts => uptoBulkAll parts + 1
  | .iface _ d => uptoBulk d + 1
  | .map entries => uptoBulkEntries entries + 1
  | .held _ => 1
def uptoBulkAll {H : Type} : List (DataW H) → Nat
  | [] => 0
  | d :: r => uptoBulk d + uptoBulkAll r
def uptoBulkEntries {H : Type} : List (Lit × DataW H) → Nat
  | [] => 0
  | x :: r => uptoBulkEntry x + uptoBulkEntries r
def uptoBulkEntry {H : Type} : Lit × DataW H → Nat
  | (.string bytes, d) => bytes.length + uptoBulk d + 1
  | (_, d) => uptoBulk d + 1
 end
def uptoSmall : (H : Type) → List (DataW H) → Bool := fun _ ds => decide (uptoBulkAll ds ≤ 1048576)
def OpenSpec.upto (s : _root_.Go.ChangeSpec) : _root_.Go.OpenSpec := { _root_.Go.OpenSpec.ofChange s with cond := some uptoSmall }

/-- 'laws.FnExactTurnAround', WHERE WHAT IT READS IS OF BULK AT MOST 1048576: true; the input reads as it did. -/
def fnExactTurnAroundUptoRow : OpenClaim := { program := "ytkaiihbibcjglaa", sum := "31c141d1cfe3e4ff9bda25ce790edc202eee3c835aef9933d0e16c33c085fe71", func := "loop.example/g01249/laws.FnExactTurnAround", spec := "fnExactTurnAround", inPlace := ["math.sqrt", "math.Float64frombits", "math.RoundToEven"], unfollowed := true, recurses := true, apart := false, narrowed := true }
def FnExactTurnAroundUptoSaid : Prop := fnExactTurnAroundUptoRow.holds Try.pinned (OpenSpec.upto fnExactTurnAroundSpec)

/-- 'laws.FnExactTwoViews', WHERE WHAT IT READS IS OF BULK AT MOST 1048576: true; the input reads as it did. -/
def fnExactTwoViewsUptoRow : OpenClaim := { program := "ytkaiihbibcjglaa", sum := "31c141d1cfe3e4ff9bda25ce790edc202eee3c835aef9933d0e16c33c085fe71", func := "loop.example/g01249/laws.FnExactTwoViews", spec := "fnExactTwoViews", inPlace := ["math.sqrt"], unfollowed := true, recurses := true, apart := false, narrowed := true }
def FnExactTwoViewsUptoSaid : Prop := fnExactTwoViewsUptoRow.holds Try.pinned (OpenSpec.upto fnExactTwoViewsSpec)

/-- 'laws.FnExactClipAhead', WHERE WHAT IT READS IS OF BULK AT MOST 1048576: true; the input reads as it did. -/
def fnExactClipAheadUptoRow : OpenClaim := { program := "ytkaiihbibcjglaa", sum := "31c141d1cfe3e4ff9bda25ce790edc202eee3c835aef9933d0e16c33c085fe71", func := "loop.example/g01249/laws.FnExactClipAhead", spec := "fnExactClipAhead", inPlace := ["math.sqrt"], unfollowed := true, recurses := true, apart := false, narrowed := true }
def FnExactClipAheadUptoSaid : Prop := fnExactClipAheadUptoRow.holds Try.pinned (OpenSpec.upto fnExactClipAheadSpec)

/-- 'laws.FnExactProjectLine', WHERE WHAT IT READS IS OF BULK AT MOST 1048576: true; the input reads as it did. -/
def fnExactProjectLineUptoRow : OpenClaim := { program := "ytkaiihbibcjglaa", sum := "31c141d1cfe3e4ff9bda25ce790edc202eee3c835aef9933d0e16c33c085fe71", func := "loop.example/g01249/laws.FnExactProjectLine", spec := "fnExactProjectLine", inPlace := ["math.sqrt"], unfollowed := true, recurses := true, apart := false, narrowed := true }
def FnExactProjectLineUptoSaid : Prop := fnExactProjectLineUptoRow.holds Try.pinned (OpenSpec.upto fnExactProjectLineSpec)

/-- 'laws.FnExactSeenOnPlane', WHERE WHAT IT READS IS OF BULK AT MOST 1048576: true; the input reads as it did. -/
def fnExactSeenOnPlaneUptoRow : OpenClaim := { program := "ytkaiihbibcjglaa", sum := "31c141d1cfe3e4ff9bda25ce790edc202eee3c835aef9933d0e16c33c085fe71", func := "loop.example/g01249/laws.FnExactSeenOnPlane", spec := "fnExactSeenOnPlane", inPlace := ["math.sqrt", "math.Float64bits", "math.Float64frombits"], unfollowed := true, recurses := true, apart := false, narrowed := true }
def FnExactSeenOnPlaneUptoSaid : Prop := fnExactSeenOnPlaneUptoRow.holds Try.pinned (OpenSpec.upto fnExactSeenOnPlaneSpec)

/-- 'laws.FnExactTurnCamera', WHERE WHAT IT READS IS OF BULK AT MOST 1048576: true; the input reads as it did. -/
def fnExactTurnCameraUptoRow : OpenClaim := { program := "ytkaiihbibcjglaa", sum := "31c141d1cfe3e4ff9bda25ce790edc202eee3c835aef9933d0e16c33c085fe71", func := "loop.example/g01249/laws.FnExactTurnCamera", spec := "fnExactTurnCamera", inPlace := ["math.sqrt", "math.Float64frombits", "math.RoundToEven"], unfollowed := true, recurses := true, apart := false, narrowed := true }
def FnExactTurnCameraUptoSaid : Prop := fnExactTurnCameraUptoRow.holds Try.pinned (OpenSpec.upto fnExactTurnCameraSpec)

end Rows
end Go.Proofs.Ytkaiihbibcjglaa
