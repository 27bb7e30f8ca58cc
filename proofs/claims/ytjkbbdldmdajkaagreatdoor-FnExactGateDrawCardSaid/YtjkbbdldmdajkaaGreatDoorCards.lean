/-
  DERIVED. GIVEN WITH THE SEED: THE CARDS: each row of YtjkbbdldmdajkaaGreatDoorRows.lean that lists a variable, with what it lists TIED to the program's text (the seventh form; the later family's looks); each row that meets fmt, with fmt's text TOLD by the authors' own Lean function (tested against real Go, not proved from fmt's source: count such statements apart). THE CARD IS WHAT COUNTS. Prove the row's statement (the work); the ties are given (YtjkbbdldmdajkaaGreatDoorTie.lean); close each card by the builder's one call (the guide's Derived/Test/ToyasCard.lean, 'card_holds'). Laid BY PROGRAM, IN A SANDBOX (cutbox-door.mjs). By AI agents, Wed Nov 11 2026. No macro, syntax, notation, axiom, sorry.
-/
import Derived.Test.YtjkbbdldmdajkaaGreatDoorRows
import GoSem.ClaimSeven
namespace Go.Proofs.YtjkbbdldmdajkaaGreatDoor
namespace Rows

/-- THE TIED CARD OF 'laws.FnExactGateTick'. -/
def fnExactGateTickCard : Claim7 := { stood := { row := fnExactGateTickRow, standIns := [], harness := (true, "026bed7b235968aeebfaab9e2bcc69d3d7e9d5714e936cf05f771c7c7c320517"), looks := true }, kinds := [], alts := [], laidByText := true, laidKinds := [.handle], laidTests := true, laidLooks := .later }
def FnExactGateTickCardSaid : Prop := Claim7.holds Tryz.pinned (.plain (OpenSpec.ofChange fnExactGateTickSpec)) fnExactGateTickCard

/-- THE TIED CARD OF 'laws.FnExactGateBack'. -/
def fnExactGateBackCard : Claim7 := { stood := { row := fnExactGateBackRow, standIns := [], harness := (true, "026bed7b235968aeebfaab9e2bcc69d3d7e9d5714e936cf05f771c7c7c320517"), looks := true }, kinds := [], alts := [], laidByText := true, laidKinds := [.handle], laidTests := true, laidLooks := .later }
def FnExactGateBackCardSaid : Prop := Claim7.holds Tryz.pinned (.plain (OpenSpec.ofChange fnExactGateBackSpec)) fnExactGateBackCard

/-- THE TIED CARD OF 'laws.FnExactGateBound'. -/
def fnExactGateBoundCard : Claim7 := { stood := { row := fnExactGateBoundRow, standIns := [], harness := (true, "026bed7b235968aeebfaab9e2bcc69d3d7e9d5714e936cf05f771c7c7c320517"), looks := true }, kinds := [], alts := [], laidByText := true, laidKinds := [.handle], laidTests := true, laidLooks := .later }
def FnExactGateBoundCardSaid : Prop := Claim7.holds Tryz.pinned (.plain (OpenSpec.ofChange fnExactGateBoundSpec)) fnExactGateBoundCard

/-- THE TIED CARD OF 'laws.FnExactGateDraw'. -/
def fnExactGateDrawCard : Claim7 := { stood := { row := fnExactGateDrawRow, standIns := [], harness := (true, "026bed7b235968aeebfaab9e2bcc69d3d7e9d5714e936cf05f771c7c7c320517"), looks := true }, kinds := [], alts := [], laidByText := true, laidKinds := [.handle], laidTests := true, laidLooks := .later }
def FnExactGateDrawCardSaid : Prop := Claim7.holds Tryz.pinned (.plain (OpenSpec.ofChange fnExactGateDrawSpec)) fnExactGateDrawCard

/-- THE TIED CARD OF 'laws.FnExactGateSweep'. -/
def fnExactGateSweepCard : Claim7 := { stood := { row := fnExactGateSweepRow, standIns := [], harness := (true, "026bed7b235968aeebfaab9e2bcc69d3d7e9d5714e936cf05f771c7c7c320517"), looks := true }, kinds := [], alts := [], laidByText := true, laidKinds := [.handle], laidTests := true, laidLooks := .later }
def FnExactGateSweepCardSaid : Prop := Claim7.holds Tryz.pinned (.plain (OpenSpec.ofChange fnExactGateSweepSpec)) fnExactGateSweepCard

/-- THE SECOND FORM's CARD OF 'laws.FnExactGateTick'. -/
def fnExactGateTickUptoCard : Claim7 := { stood := { row := fnExactGateTickUptoRow, standIns := [], harness := (true, "026bed7b235968aeebfaab9e2bcc69d3d7e9d5714e936cf05f771c7c7c320517"), looks := true }, kinds := [], alts := [], laidByText := true, laidKinds := [.handle], laidTests := true, laidLooks := .later }
def FnExactGateTickUptoCardSaid : Prop := Claim7.holds Tryz.pinned (.plain (OpenSpec.upto fnExactGateTickSpec)) fnExactGateTickUptoCard

/-- THE SECOND FORM's CARD OF 'laws.FnExactGateBack'. -/
def fnExactGateBackUptoCard : Claim7 := { stood := { row := fnExactGateBackUptoRow, standIns := [], harness := (true, "026bed7b235968aeebfaab9e2bcc69d3d7e9d5714e936cf05f771c7c7c320517"), looks := true }, kinds := [], alts := [], laidByText := true, laidKinds := [.handle], laidTests := true, laidLooks := .later }
def FnExactGateBackUptoCardSaid : Prop := Claim7.holds Tryz.pinned (.plain (OpenSpec.upto fnExactGateBackSpec)) fnExactGateBackUptoCard

/-- THE SECOND FORM's CARD OF 'laws.FnExactGateBound'. -/
def fnExactGateBoundUptoCard : Claim7 := { stood := { row := fnExactGateBoundUptoRow, standIns := [], harness := (true, "026bed7b235968aeebfaab9e2bcc69d3d7e9d5714e936cf05f771c7c7c320517"), looks := true }, kinds := [], alts := [], laidByText := true, laidKinds := [.handle], laidTests := true, laidLooks := .later }
def FnExactGateBoundUptoCardSaid : Prop := Claim7.holds Tryz.pinned (.plain (OpenSpec.upto fnExactGateBoundSpec)) fnExactGateBoundUptoCard

/-- THE SECOND FORM's CARD OF 'laws.FnExactGateDraw'. -/
def fnExactGateDrawUptoCard : Claim7 := { stood := { row := fnExactGateDrawUptoRow, standIns := [], harness := (true, "026bed7b235968aeebfaab9e2bcc69d3d7e9d5714e936cf05f771c7c7c320517"), looks := true }, kinds := [], alts := [], laidByText := true, laidKinds := [.handle], laidTests := true, laidLooks := .later }
def FnExactGateDrawUptoCardSaid : Prop := Claim7.holds Tryz.pinned (.plain (OpenSpec.upto fnExactGateDrawSpec)) fnExactGateDrawUptoCard

/-- THE SECOND FORM's CARD OF 'laws.FnExactGateSweep'. -/
def fnExactGateSweepUptoCard : Claim7 := { stood := { row := fnExactGateSweepUptoRow, standIns := [], harness := (true, "026bed7b235968aeebfaab9e2bcc69d3d7e9d5714e936cf05f771c7c7c320517"), looks := true }, kinds := [], alts := [], laidByText := true, laidKinds := [.handle], laidTests := true, laidLooks := .later }
def FnExactGateSweepUptoCardSaid : Prop := Claim7.holds Tryz.pinned (.plain (OpenSpec.upto fnExactGateSweepSpec)) fnExactGateSweepUptoCard
end Rows
end Go.Proofs.YtjkbbdldmdajkaaGreatDoor
