/-
  DERIVED. GIVEN WITH THE SEED: THE CARDS: each row of YtejbahdihfnbcaaDoorRows.lean that lists a variable, with what it lists TIED to the program's text (the seventh form; the later family's looks); each row that meets fmt, with fmt's text TOLD by the authors' own Lean function (tested against real Go, not proved from fmt's source: count such statements apart). THE CARD IS WHAT COUNTS. Prove the row's statement (the work); the ties are given (YtejbahdihfnbcaaDoorTie.lean); close each card by the builder's one call (the guide's Derived/Test/ToyasCard.lean, 'card_holds'). Laid BY PROGRAM, IN A SANDBOX (cutbox-door.mjs). By AI agents, Wed Nov 11 2026. No macro, syntax, notation, axiom, sorry.
-/
import Derived.Test.YtejbahdihfnbcaaDoorRows
import GoSem.ClaimSeven
namespace Go.Proofs.YtejbahdihfnbcaaDoor
namespace Rows

/-- THE TIED CARD OF 'laws.FnExactNumberText'. -/
def fnExactNumberTextCard : Claim7 := { stood := { row := fnExactNumberTextRow, standIns := [], harness := (true, "1afbad7bb34289f6b241c61dc41143ef497f61b684b5a3a27b672acc30a03b5c"), looks := true }, kinds := [], alts := [], laidByText := true, laidKinds := [.data, .data, .data], laidTests := true, laidLooks := .later }
def FnExactNumberTextCardSaid : Prop := Claim7.holds Tryd.pinned (.plain (OpenSpec.ofChange fnExactNumberTextSpec)) fnExactNumberTextCard

/-- THE TIED CARD OF 'laws.FnExactPointText'. -/
def fnExactPointTextCard : Claim7 := { stood := { row := fnExactPointTextRow, standIns := [], harness := (true, "1afbad7bb34289f6b241c61dc41143ef497f61b684b5a3a27b672acc30a03b5c"), looks := true }, kinds := [], alts := [], laidByText := true, laidKinds := [.data, .data, .data], laidTests := true, laidLooks := .later }
def FnExactPointTextCardSaid : Prop := Claim7.holds Tryd.pinned (.plain (OpenSpec.ofChange fnExactPointTextSpec)) fnExactPointTextCard

/-- THE TIED CARD OF 'laws.FnExactCameraText'. -/
def fnExactCameraTextCard : Claim7 := { stood := { row := fnExactCameraTextRow, standIns := [], harness := (true, "1afbad7bb34289f6b241c61dc41143ef497f61b684b5a3a27b672acc30a03b5c"), looks := true }, kinds := [], alts := [], laidByText := true, laidKinds := [.data, .data, .data], laidTests := true, laidLooks := .later }
def FnExactCameraTextCardSaid : Prop := Claim7.holds Tryd.pinned (.plain (OpenSpec.ofChange fnExactCameraTextSpec)) fnExactCameraTextCard

/-- THE TIED CARD OF 'laws.FnExactReadNumber'. -/
def fnExactReadNumberCard : Claim7 := { stood := { row := fnExactReadNumberRow, standIns := [], harness := (true, "1afbad7bb34289f6b241c61dc41143ef497f61b684b5a3a27b672acc30a03b5c"), looks := true }, kinds := [], alts := [], laidByText := true, laidKinds := [.data, .data, .data, .sentinel, .sentinel], laidTests := true, laidLooks := .later }
def FnExactReadNumberCardSaid : Prop := Claim7.holds Tryd.pinned (.plain (OpenSpec.ofChange fnExactReadNumberSpec)) fnExactReadNumberCard

/-- THE TIED CARD OF 'laws.FnExactReadPoint'. -/
def fnExactReadPointCard : Claim7 := { stood := { row := fnExactReadPointRow, standIns := [], harness := (true, "1afbad7bb34289f6b241c61dc41143ef497f61b684b5a3a27b672acc30a03b5c"), looks := true }, kinds := [], alts := [], laidByText := true, laidKinds := [.data, .data, .data, .data, .sentinel, .sentinel, .pinned], laidTests := true, laidLooks := .later }
def FnExactReadPointCardSaid : Prop := Claim7.holds Tryd.pinned (.plain (OpenSpec.ofChange fnExactReadPointSpec)) fnExactReadPointCard

/-- THE SECOND FORM's CARD OF 'laws.FnExactNumberText'. -/
def fnExactNumberTextUptoCard : Claim7 := { stood := { row := fnExactNumberTextUptoRow, standIns := [], harness := (true, "1afbad7bb34289f6b241c61dc41143ef497f61b684b5a3a27b672acc30a03b5c"), looks := true }, kinds := [], alts := [], laidByText := true, laidKinds := [.data, .data, .data], laidTests := true, laidLooks := .later }
def FnExactNumberTextUptoCardSaid : Prop := Claim7.holds Tryd.pinned (.plain (OpenSpec.upto fnExactNumberTextSpec)) fnExactNumberTextUptoCard

/-- THE SECOND FORM's CARD OF 'laws.FnExactPointText'. -/
def fnExactPointTextUptoCard : Claim7 := { stood := { row := fnExactPointTextUptoRow, standIns := [], harness := (true, "1afbad7bb34289f6b241c61dc41143ef497f61b684b5a3a27b672acc30a03b5c"), looks := true }, kinds := [], alts := [], laidByText := true, laidKinds := [.data, .data, .data], laidTests := true, laidLooks := .later }
def FnExactPointTextUptoCardSaid : Prop := Claim7.holds Tryd.pinned (.plain (OpenSpec.upto fnExactPointTextSpec)) fnExactPointTextUptoCard

/-- THE SECOND FORM's CARD OF 'laws.FnExactCameraText'. -/
def fnExactCameraTextUptoCard : Claim7 := { stood := { row := fnExactCameraTextUptoRow, standIns := [], harness := (true, "1afbad7bb34289f6b241c61dc41143ef497f61b684b5a3a27b672acc30a03b5c"), looks := true }, kinds := [], alts := [], laidByText := true, laidKinds := [.data, .data, .data], laidTests := true, laidLooks := .later }
def FnExactCameraTextUptoCardSaid : Prop := Claim7.holds Tryd.pinned (.plain (OpenSpec.upto fnExactCameraTextSpec)) fnExactCameraTextUptoCard

/-- THE SECOND FORM's CARD OF 'laws.FnExactReadNumber'. -/
def fnExactReadNumberUptoCard : Claim7 := { stood := { row := fnExactReadNumberUptoRow, standIns := [], harness := (true, "1afbad7bb34289f6b241c61dc41143ef497f61b684b5a3a27b672acc30a03b5c"), looks := true }, kinds := [], alts := [], laidByText := true, laidKinds := [.data, .data, .data, .sentinel, .sentinel], laidTests := true, laidLooks := .later }
def FnExactReadNumberUptoCardSaid : Prop := Claim7.holds Tryd.pinned (.plain (OpenSpec.upto fnExactReadNumberSpec)) fnExactReadNumberUptoCard

/-- THE SECOND FORM's CARD OF 'laws.FnExactReadPoint'. -/
def fnExactReadPointUptoCard : Claim7 := { stood := { row := fnExactReadPointUptoRow, standIns := [], harness := (true, "1afbad7bb34289f6b241c61dc41143ef497f61b684b5a3a27b672acc30a03b5c"), looks := true }, kinds := [], alts := [], laidByText := true, laidKinds := [.data, .data, .data, .data, .sentinel, .sentinel, .pinned], laidTests := true, laidLooks := .later }
def FnExactReadPointUptoCardSaid : Prop := Claim7.holds Tryd.pinned (.plain (OpenSpec.upto fnExactReadPointSpec)) fnExactReadPointUptoCard
end Rows
end Go.Proofs.YtejbahdihfnbcaaDoor
