/-
  NARROWER THAN 'FOR EVERY INPUT', by the rows' own cells (each row's printed sentence says how): FnExactGateBookOk: laid · FnExactGateMay: laid · FnExactGateWorldOk: laid · FnExactGateSafe: laid.
  DERIVED. THE GIVEN ROWS OF THIS SEAT. 4 by the template 'for every input the law returns true; each argument reads behind the call as it read before'; 0 by the template 'total and deterministic' (their statements: YtenfhlfofhjcoaaGreatDoorTotals.lean).
  GIVEN WITH THE SEED: the statements are not yours to turn. If you find one false, say at which input.
  Laid BY PROGRAM, IN A SANDBOX (cutbox-rows.mjs): the forced cells as the released guide's own fill.sh prints them over the translation 4d0cfda885859071… (all of the seat's roots in one cut). By AI agents, Wed Nov 11 2026. No macro, syntax, notation, axiom, sorry.
-/
import Derived.Test.YtenfhlfofhjcoaaGreatDoorChecked
import GoSem.Claim
import GoSem.ClaimJoined
import GoSem.ClaimMapViews
import Derived.JoinedTies
import Derived.KernelRfl
namespace Go.Proofs.YtenfhlfofhjcoaaGreatDoor
/- THE CELL 'sum', in the pinned program and in every row, IS THE sha256 OF THE DUMP (.gsa) THAT YtenfhlfofhjcoaaGreatDoorProg.lean LOADS. Nothing in Lean hashes anything: it is a label: what it is worth is what the hold of that sum in a sandbox is worth. -/
noncomputable def Tryz.pinned : Pinned := { name := "ytenfhlfofhjcoaagreatdoor", sum := "4d0cfda885859071ab384c48b4eea4971d4a6a6883eb2cdbf4909a32f01818fb", checked := Tryz.checked }
namespace Rows
def none {H : Type} : Left H := { results := [], args := [] }

/- WHAT THE LISTED PACKAGE-LEVEL VARIABLES READ AS WHEN THE CALL BEGINS. Each datum BY PROGRAM (the guide's laid-datum.mjs) off the statement by which the dump's own 'gosem.cut.vars' lays the variable. In a bare row this is a premise. The card (YtenfhlfofhjcoaaGreatDoorCards.lean) ties it to the program's text. -/
def laid_errors_errorType {H : Type} : DataW H := .iface "internal/reflectlite.rtype" (.agg [.ptr (.lit (.string [101, 114, 114, 111, 114]))])

/-- 'laws.FnExactGateBookOk': WHATEVER THE INPUT: true; the input reads as it did. -/
def fnExactGateBookOkSpec : ChangeSpec := { name := "fnExactGateBookOk", fn := fun _ => fun
  | [d1, d2] => { results := [.lit (.bool true)], args := [d1, d2] }
  | _ => none }
def fnExactGateBookOkRow : OpenClaim := { program := "ytenfhlfofhjcoaagreatdoor", sum := "4d0cfda885859071ab384c48b4eea4971d4a6a6883eb2cdbf4909a32f01818fb", func := "loop.example/wharfgate/laws.FnExactGateBookOk", spec := "fnExactGateBookOk", inPlace := ["internal/reflectlite.ValueOf", "(internal/reflectlite.Value).Type", "(internal/reflectlite.Value).IsNil", "internal/reflectlite.TypeOf", "(internal/reflectlite.Value).Elem", "(internal/reflectlite.Value).Set"], unfollowed := true, recurses := true, named := ["errors.errorType"], plainKeys := false, apart := false, laid := [("errors.errorType", laid_errors_errorType)] }
def FnExactGateBookOkSaid : Prop := fnExactGateBookOkRow.holds Tryz.pinned (OpenSpec.ofChange fnExactGateBookOkSpec)

/-- ITS FALSE NEIGHBOUR: 'it returns false'. Refute it at one input. -/
def fnExactGateBookOkWrong : ChangeSpec := { name := "fnExactGateBookOk", fn := fun _ => fun
  | [d1, d2] => { results := [.lit (.bool false)], args := [d1, d2] }
  | _ => none }
def FnExactGateBookOkWrongFalsely : Prop := fnExactGateBookOkRow.holds Tryz.pinned (OpenSpec.ofChange fnExactGateBookOkWrong)

/-- 'laws.FnExactGateMay': WHATEVER THE INPUT: true; the input reads as it did. -/
def fnExactGateMaySpec : ChangeSpec := { name := "fnExactGateMay", fn := fun _ => fun
  | [d1, d2, d3, d4] => { results := [.lit (.bool true)], args := [d1, d2, d3, d4] }
  | _ => none }
def fnExactGateMayRow : OpenClaim := { program := "ytenfhlfofhjcoaagreatdoor", sum := "4d0cfda885859071ab384c48b4eea4971d4a6a6883eb2cdbf4909a32f01818fb", func := "loop.example/wharfgate/laws.FnExactGateMay", spec := "fnExactGateMay", inPlace := ["internal/reflectlite.ValueOf", "(internal/reflectlite.Value).Type", "(internal/reflectlite.Value).IsNil", "internal/reflectlite.TypeOf", "(internal/reflectlite.Value).Elem", "(internal/reflectlite.Value).Set"], unfollowed := true, recurses := true, named := ["errors.errorType"], plainKeys := false, apart := false, laid := [("errors.errorType", laid_errors_errorType)] }
def FnExactGateMaySaid : Prop := fnExactGateMayRow.holds Tryz.pinned (OpenSpec.ofChange fnExactGateMaySpec)

/-- ITS FALSE NEIGHBOUR: 'it returns false'. Refute it at one input. -/
def fnExactGateMayWrong : ChangeSpec := { name := "fnExactGateMay", fn := fun _ => fun
  | [d1, d2, d3, d4] => { results := [.lit (.bool false)], args := [d1, d2, d3, d4] }
  | _ => none }
def FnExactGateMayWrongFalsely : Prop := fnExactGateMayRow.holds Tryz.pinned (OpenSpec.ofChange fnExactGateMayWrong)

/-- 'laws.FnExactGateWorldOk': WHATEVER THE INPUT: true; the input reads as it did. -/
def fnExactGateWorldOkSpec : ChangeSpec := { name := "fnExactGateWorldOk", fn := fun _ => fun
  | [d1, d2] => { results := [.lit (.bool true)], args := [d1, d2] }
  | _ => none }
def fnExactGateWorldOkRow : OpenClaim := { program := "ytenfhlfofhjcoaagreatdoor", sum := "4d0cfda885859071ab384c48b4eea4971d4a6a6883eb2cdbf4909a32f01818fb", func := "loop.example/wharfgate/laws.FnExactGateWorldOk", spec := "fnExactGateWorldOk", inPlace := ["internal/reflectlite.ValueOf", "(internal/reflectlite.Value).Type", "(internal/reflectlite.Value).IsNil", "internal/reflectlite.TypeOf", "(internal/reflectlite.Value).Elem", "(internal/reflectlite.Value).Set"], unfollowed := true, recurses := true, named := ["errors.errorType"], plainKeys := false, apart := false, laid := [("errors.errorType", laid_errors_errorType)] }
def FnExactGateWorldOkSaid : Prop := fnExactGateWorldOkRow.holds Tryz.pinned (OpenSpec.ofChange fnExactGateWorldOkSpec)

/-- ITS FALSE NEIGHBOUR: 'it returns false'. Refute it at one input. -/
def fnExactGateWorldOkWrong : ChangeSpec := { name := "fnExactGateWorldOk", fn := fun _ => fun
  | [d1, d2] => { results := [.lit (.bool false)], args := [d1, d2] }
  | _ => none }
def FnExactGateWorldOkWrongFalsely : Prop := fnExactGateWorldOkRow.holds Tryz.pinned (OpenSpec.ofChange fnExactGateWorldOkWrong)

/-- 'laws.FnExactGateSafe': WHATEVER THE INPUT: true; the input reads as it did. -/
def fnExactGateSafeSpec : ChangeSpec := { name := "fnExactGateSafe", fn := fun _ => fun
  | [d1, d2, d3] => { results := [.lit (.bool true)], args := [d1, d2, d3] }
  | _ => none }
def fnExactGateSafeRow : OpenClaim := { program := "ytenfhlfofhjcoaagreatdoor", sum := "4d0cfda885859071ab384c48b4eea4971d4a6a6883eb2cdbf4909a32f01818fb", func := "loop.example/wharfgate/laws.FnExactGateSafe", spec := "fnExactGateSafe", inPlace := ["internal/reflectlite.ValueOf", "(internal/reflectlite.Value).Type", "(internal/reflectlite.Value).IsNil", "internal/reflectlite.TypeOf", "(internal/reflectlite.Value).Elem", "(internal/reflectlite.Value).Set"], unfollowed := true, recurses := true, named := ["errors.errorType"], plainKeys := false, apart := false, laid := [("errors.errorType", laid_errors_errorType)] }
def FnExactGateSafeSaid : Prop := fnExactGateSafeRow.holds Tryz.pinned (OpenSpec.ofChange fnExactGateSafeSpec)

/-- ITS FALSE NEIGHBOUR: 'it returns false'. Refute it at one input. -/
def fnExactGateSafeWrong : ChangeSpec := { name := "fnExactGateSafe", fn := fun _ => fun
  | [d1, d2, d3] => { results := [.lit (.bool false)], args := [d1, d2, d3] }
  | _ => none }
def FnExactGateSafeWrongFalsely : Prop := fnExactGateSafeRow.holds Tryz.pinned (OpenSpec.ofChange fnExactGateSafeWrong)

/- THE SECOND FORM. 'bulk': how many values and letters a reading holds, each counted each time it is reached (what is shared counts as often as it is met; a slice's spare places count too). A statement '..UptoSaid' is the law's where the arguments, and the package variables that the reading takes, are together of bulk at most 1048576: NARROWER than '..Said'. Prove '..Said' where nothing that the law and all that it calls make is longer than what came in: it says more and counts as full. Else prove '..UptoSaid'. A law counts once. -/
mutual
def uptoBulk {H : Type} : DataW H → Nat
  | .lit (.string bytes) => bytes.length + 1
  | .lit _ => 1
  | .nil => 1
  | .ptr d => uptoBulk d + 1
  | .slice elems spare => uptoBulkAll elems + uptoBulkAll spare + 1
  | .agg parts => uptoBulkAll parts + 1
  | .iface _ d => uptoBulk d + 1
  | .map entries => uptoBulkEntries entries + 1
  | .held _ => 1
def uptoBulkAll {H : Type} : List (DataW H) → Nat
  | [] => 0
  | d :: r => uptoBulk d + uptoBulkAll r
def uptoBulkEntries {H : Type} : List (Lit × DataW H) → Nat
  | [] => 0
  | x :: r => uptoBulkEntry x + uptoBulkEntries r
def uptoBulkEntry {H : Type} : Lit × DataW H → Nat
  | (.string bytes, d) => bytes.length + uptoBulk d + 1
  | (_, d) => uptoBulk d + 1
 end
def uptoSmall : (H : Type) → List (DataW H) → Bool := fun _ ds => decide (uptoBulkAll ds ≤ 1048576)
def OpenSpec.upto (s : _root_.Go.ChangeSpec) : _root_.Go.OpenSpec := { _root_.Go.OpenSpec.ofChange s with cond := some uptoSmall }

/-- 'laws.FnExactGateBookOk', WHERE WHAT IT READS IS OF BULK AT MOST 1048576: true; the input reads as it did. -/
def fnExactGateBookOkUptoRow : OpenClaim := { program := "ytenfhlfofhjcoaagreatdoor", sum := "4d0cfda885859071ab384c48b4eea4971d4a6a6883eb2cdbf4909a32f01818fb", func := "loop.example/wharfgate/laws.FnExactGateBookOk", spec := "fnExactGateBookOk", inPlace := ["internal/reflectlite.ValueOf", "(internal/reflectlite.Value).Type", "(internal/reflectlite.Value).IsNil", "internal/reflectlite.TypeOf", "(internal/reflectlite.Value).Elem", "(internal/reflectlite.Value).Set"], unfollowed := true, recurses := true, named := ["errors.errorType"], plainKeys := false, apart := false, laid := [("errors.errorType", laid_errors_errorType)], narrowed := true }
def FnExactGateBookOkUptoSaid : Prop := fnExactGateBookOkUptoRow.holds Tryz.pinned (OpenSpec.upto fnExactGateBookOkSpec)

/-- 'laws.FnExactGateMay', WHERE WHAT IT READS IS OF BULK AT MOST 1048576: true; the input reads as it did. -/
def fnExactGateMayUptoRow : OpenClaim := { program := "ytenfhlfofhjcoaagreatdoor", sum := "4d0cfda885859071ab384c48b4eea4971d4a6a6883eb2cdbf4909a32f01818fb", func := "loop.example/wharfgate/laws.FnExactGateMay", spec := "fnExactGateMay", inPlace := ["internal/reflectlite.ValueOf", "(internal/reflectlite.Value).Type", "(internal/reflectlite.Value).IsNil", "internal/reflectlite.TypeOf", "(internal/reflectlite.Value).Elem", "(internal/reflectlite.Value).Set"], unfollowed := true, recurses := true, named := ["errors.errorType"], plainKeys := false, apart := false, laid := [("errors.errorType", laid_errors_errorType)], narrowed := true }
def FnExactGateMayUptoSaid : Prop := fnExactGateMayUptoRow.holds Tryz.pinned (OpenSpec.upto fnExactGateMaySpec)

/-- 'laws.FnExactGateWorldOk', WHERE WHAT IT READS IS OF BULK AT MOST 1048576: true; the input reads as it did. -/
def fnExactGateWorldOkUptoRow : OpenClaim := { program := "ytenfhlfofhjcoaagreatdoor", sum := "4d0cfda885859071ab384c48b4eea4971d4a6a6883eb2cdbf4909a32f01818fb", func := "loop.example/wharfgate/laws.FnExactGateWorldOk", spec := "fnExactGateWorldOk", inPlace := ["internal/reflectlite.ValueOf", "(internal/reflectlite.Value).Type", "(internal/reflectlite.Value).IsNil", "internal/reflectlite.TypeOf", "(internal/reflectlite.Value).Elem", "(internal/reflectlite.Value).Set"], unfollowed := true, recurses := true, named := ["errors.errorType"], plainKeys := false, apart := false, laid := [("errors.errorType", laid_errors_errorType)], narrowed := true }
def FnExactGateWorldOkUptoSaid : Prop := fnExactGateWorldOkUptoRow.holds Tryz.pinned (OpenSpec.upto fnExactGateWorldOkSpec)

/-- 'laws.FnExactGateSafe', WHERE WHAT IT READS IS OF BULK AT MOST 1048576: true; the input reads as it did. -/
def fnExactGateSafeUptoRow : OpenClaim := { program := "ytenfhlfofhjcoaagreatdoor", sum := "4d0cfda885859071ab384c48b4eea4971d4a6a6883eb2cdbf4909a32f01818fb", func := "loop.example/wharfgate/laws.FnExactGateSafe", spec := "fnExactGateSafe", inPlace := ["internal/reflectlite.ValueOf", "(internal/reflectlite.Value).Type", "(internal/reflectlite.Value).IsNil", "internal/reflectlite.TypeOf", "(internal/reflectlite.Value).Elem", "(internal/reflectlite.Value).Set"], unfollowed := true, recurses := true, named := ["errors.errorType"], plainKeys := false, apart := false, laid := [("errors.errorType", laid_errors_errorType)], narrowed := true }
def FnExactGateSafeUptoSaid : Prop := fnExactGateSafeUptoRow.holds Tryz.pinned (OpenSpec.upto fnExactGateSafeSpec)

end Rows
end Go.Proofs.YtenfhlfofhjcoaaGreatDoor
