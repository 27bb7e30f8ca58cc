/-
  DERIVED. GIVEN WITH THE SEED: THE CARDS: each row of YtenfhlfofhjcoaaGreatDoorRows.lean that lists a variable, with what it lists TIED to the program's text (the seventh form; the later family's looks); each row that meets fmt, with fmt's text TOLD by the authors' own Lean function (tested against real Go, not proved from fmt's source: count such statements apart). THE CARD IS WHAT COUNTS. Prove the row's statement (the work); the ties are given (YtenfhlfofhjcoaaGreatDoorTie.lean); close each card by the builder's one call (the guide's Derived/Test/ToyasCard.lean, 'card_holds'). Laid BY PROGRAM, IN A SANDBOX (cutbox-door.mjs). By AI agents, Wed Nov 11 2026. No macro, syntax, notation, axiom, sorry.
-/
import Derived.Test.YtenfhlfofhjcoaaGreatDoorRows
import GoSem.ClaimSeven
namespace Go.Proofs.YtenfhlfofhjcoaaGreatDoor
namespace Rows

/-- THE TIED CARD OF 'laws.FnExactGateBookOk'. -/
def fnExactGateBookOkCard : Claim7 := { stood := { row := fnExactGateBookOkRow, standIns := [], harness := (true, "08d3ae6deeef7bfb7d29769eb91e375fdfd628ecea8f498e1a8aa75601e03354"), looks := true }, kinds := [], alts := [], laidByText := true, laidKinds := [.handle], laidTests := true, laidLooks := .later }
def FnExactGateBookOkCardSaid : Prop := Claim7.holds Tryz.pinned (.plain (OpenSpec.ofChange fnExactGateBookOkSpec)) fnExactGateBookOkCard

/-- THE TIED CARD OF 'laws.FnExactGateMay'. -/
def fnExactGateMayCard : Claim7 := { stood := { row := fnExactGateMayRow, standIns := [], harness := (true, "08d3ae6deeef7bfb7d29769eb91e375fdfd628ecea8f498e1a8aa75601e03354"), looks := true }, kinds := [], alts := [], laidByText := true, laidKinds := [.handle], laidTests := true, laidLooks := .later }
def FnExactGateMayCardSaid : Prop := Claim7.holds Tryz.pinned (.plain (OpenSpec.ofChange fnExactGateMaySpec)) fnExactGateMayCard

/-- THE TIED CARD OF 'laws.FnExactGateWorldOk'. -/
def fnExactGateWorldOkCard : Claim7 := { stood := { row := fnExactGateWorldOkRow, standIns := [], harness := (true, "08d3ae6deeef7bfb7d29769eb91e375fdfd628ecea8f498e1a8aa75601e03354"), looks := true }, kinds := [], alts := [], laidByText := true, laidKinds := [.handle], laidTests := true, laidLooks := .later }
def FnExactGateWorldOkCardSaid : Prop := Claim7.holds Tryz.pinned (.plain (OpenSpec.ofChange fnExactGateWorldOkSpec)) fnExactGateWorldOkCard

/-- THE TIED CARD OF 'laws.FnExactGateSafe'. -/
def fnExactGateSafeCard : Claim7 := { stood := { row := fnExactGateSafeRow, standIns := [], harness := (true, "08d3ae6deeef7bfb7d29769eb91e375fdfd628ecea8f498e1a8aa75601e03354"), looks := true }, kinds := [], alts := [], laidByText := true, laidKinds := [.handle], laidTests := true, laidLooks := .later }
def FnExactGateSafeCardSaid : Prop := Claim7.holds Tryz.pinned (.plain (OpenSpec.ofChange fnExactGateSafeSpec)) fnExactGateSafeCard

/-- THE SECOND FORM's CARD OF 'laws.FnExactGateBookOk'. -/
def fnExactGateBookOkUptoCard : Claim7 := { stood := { row := fnExactGateBookOkUptoRow, standIns := [], harness := (true, "08d3ae6deeef7bfb7d29769eb91e375fdfd628ecea8f498e1a8aa75601e03354"), looks := true }, kinds := [], alts := [], laidByText := true, laidKinds := [.handle], laidTests := true, laidLooks := .later }
def FnExactGateBookOkUptoCardSaid : Prop := Claim7.holds Tryz.pinned (.plain (OpenSpec.upto fnExactGateBookOkSpec)) fnExactGateBookOkUptoCard

/-- THE SECOND FORM's CARD OF 'laws.FnExactGateMay'. -/
def fnExactGateMayUptoCard : Claim7 := { stood := { row := fnExactGateMayUptoRow, standIns := [], harness := (true, "08d3ae6deeef7bfb7d29769eb91e375fdfd628ecea8f498e1a8aa75601e03354"), looks := true }, kinds := [], alts := [], laidByText := true, laidKinds := [.handle], laidTests := true, laidLooks := .later }
def FnExactGateMayUptoCardSaid : Prop := Claim7.holds Tryz.pinned (.plain (OpenSpec.upto fnExactGateMaySpec)) fnExactGateMayUptoCard

/-- THE SECOND FORM's CARD OF 'laws.FnExactGateWorldOk'. -/
def fnExactGateWorldOkUptoCard : Claim7 := { stood := { row := fnExactGateWorldOkUptoRow, standIns := [], harness := (true, "08d3ae6deeef7bfb7d29769eb91e375fdfd628ecea8f498e1a8aa75601e03354"), looks := true }, kinds := [], alts := [], laidByText := true, laidKinds := [.handle], laidTests := true, laidLooks := .later }
def FnExactGateWorldOkUptoCardSaid : Prop := Claim7.holds Tryz.pinned (.plain (OpenSpec.upto fnExactGateWorldOkSpec)) fnExactGateWorldOkUptoCard

/-- THE SECOND FORM's CARD OF 'laws.FnExactGateSafe'. -/
def fnExactGateSafeUptoCard : Claim7 := { stood := { row := fnExactGateSafeUptoRow, standIns := [], harness := (true, "08d3ae6deeef7bfb7d29769eb91e375fdfd628ecea8f498e1a8aa75601e03354"), looks := true }, kinds := [], alts := [], laidByText := true, laidKinds := [.handle], laidTests := true, laidLooks := .later }
def FnExactGateSafeUptoCardSaid : Prop := Claim7.holds Tryz.pinned (.plain (OpenSpec.upto fnExactGateSafeSpec)) fnExactGateSafeUptoCard
end Rows
end Go.Proofs.YtenfhlfofhjcoaaGreatDoor
