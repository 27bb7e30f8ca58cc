/-
  DERIVED. GIVEN WITH THE SEED: THE CARDS: each row of YtljfmaaadnoggaaGreatDoorRows.lean that lists a variable, with what it lists TIED to the program's text (the seventh form; the later family's looks); each row that meets fmt, with fmt's text TOLD by the authors' own Lean function (tested against real Go, not proved from fmt's source: count such statements apart). THE CARD IS WHAT COUNTS. Prove the row's statement (the work); the ties are given (YtljfmaaadnoggaaGreatDoorTie.lean); close each card by the builder's one call (the guide's Derived/Test/ToyasCard.lean, 'card_holds'). Laid BY PROGRAM, IN A SANDBOX (cutbox-door.mjs). By AI agents, Wed Nov 11 2026. No macro, syntax, notation, axiom, sorry.
-/
import Derived.Test.YtljfmaaadnoggaaGreatDoorRows
import GoSem.ClaimSeven
namespace Go.Proofs.YtljfmaaadnoggaaGreatDoor
namespace Rows

/-- THE TIED CARD OF 'laws.FnExactGateMark'. -/
def fnExactGateMarkCard : Claim7 := { stood := { row := fnExactGateMarkRow, standIns := [], harness := (true, "640224ed7b11fe5d1d3d8e2d05ef4552ed855f2596184b36915d06d9f4bd3707"), looks := true }, kinds := [], alts := [], laidByText := true, laidKinds := [.handle], laidTests := true, laidLooks := .later }
def FnExactGateMarkCardSaid : Prop := Claim7.holds Tryz.pinned (.plain (OpenSpec.ofChange fnExactGateMarkSpec)) fnExactGateMarkCard

/-- THE TIED CARD OF 'laws.FnExactGateGoing'. -/
def fnExactGateGoingCard : Claim7 := { stood := { row := fnExactGateGoingRow, standIns := [], harness := (true, "640224ed7b11fe5d1d3d8e2d05ef4552ed855f2596184b36915d06d9f4bd3707"), looks := true }, kinds := [], alts := [], laidByText := true, laidKinds := [.handle], laidTests := true, laidLooks := .later }
def FnExactGateGoingCardSaid : Prop := Claim7.holds Tryz.pinned (.plain (OpenSpec.ofChange fnExactGateGoingSpec)) fnExactGateGoingCard

/-- THE TIED CARD OF 'laws.FnExactGateDoomed'. -/
def fnExactGateDoomedCard : Claim7 := { stood := { row := fnExactGateDoomedRow, standIns := [], harness := (true, "640224ed7b11fe5d1d3d8e2d05ef4552ed855f2596184b36915d06d9f4bd3707"), looks := true }, kinds := [], alts := [], laidByText := true, laidKinds := [.handle], laidTests := true, laidLooks := .later }
def FnExactGateDoomedCardSaid : Prop := Claim7.holds Tryz.pinned (.plain (OpenSpec.ofChange fnExactGateDoomedSpec)) fnExactGateDoomedCard

/-- THE SECOND FORM's CARD OF 'laws.FnExactGateMark'. -/
def fnExactGateMarkUptoCard : Claim7 := { stood := { row := fnExactGateMarkUptoRow, standIns := [], harness := (true, "640224ed7b11fe5d1d3d8e2d05ef4552ed855f2596184b36915d06d9f4bd3707"), looks := true }, kinds := [], alts := [], laidByText := true, laidKinds := [.handle], laidTests := true, laidLooks := .later }
def FnExactGateMarkUptoCardSaid : Prop := Claim7.holds Tryz.pinned (.plain (OpenSpec.upto fnExactGateMarkSpec)) fnExactGateMarkUptoCard

/-- THE SECOND FORM's CARD OF 'laws.FnExactGateGoing'. -/
def fnExactGateGoingUptoCard : Claim7 := { stood := { row := fnExactGateGoingUptoRow, standIns := [], harness := (true, "640224ed7b11fe5d1d3d8e2d05ef4552ed855f2596184b36915d06d9f4bd3707"), looks := true }, kinds := [], alts := [], laidByText := true, laidKinds := [.handle], laidTests := true, laidLooks := .later }
def FnExactGateGoingUptoCardSaid : Prop := Claim7.holds Tryz.pinned (.plain (OpenSpec.upto fnExactGateGoingSpec)) fnExactGateGoingUptoCard

/-- THE SECOND FORM's CARD OF 'laws.FnExactGateDoomed'. -/
def fnExactGateDoomedUptoCard : Claim7 := { stood := { row := fnExactGateDoomedUptoRow, standIns := [], harness := (true, "640224ed7b11fe5d1d3d8e2d05ef4552ed855f2596184b36915d06d9f4bd3707"), looks := true }, kinds := [], alts := [], laidByText := true, laidKinds := [.handle], laidTests := true, laidLooks := .later }
def FnExactGateDoomedUptoCardSaid : Prop := Claim7.holds Tryz.pinned (.plain (OpenSpec.upto fnExactGateDoomedSpec)) fnExactGateDoomedUptoCard
end Rows
end Go.Proofs.YtljfmaaadnoggaaGreatDoor
