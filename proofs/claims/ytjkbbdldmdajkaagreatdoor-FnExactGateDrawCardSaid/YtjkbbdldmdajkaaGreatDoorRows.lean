/-
  NARROWER THAN 'FOR EVERY INPUT', by the rows' own cells (each row's printed sentence says how): FnExactGateTick: laid · FnExactGateBack: laid · FnExactGateBound: laid · FnExactGateDraw: laid · FnExactGateSweep: laid.
  DERIVED. THE GIVEN ROWS OF THIS SEAT. 5 by the template 'for every input the law returns true; each argument reads behind the call as it read before'; 0 by the template 'total and deterministic' (their statements: YtjkbbdldmdajkaaGreatDoorTotals.lean).
  GIVEN WITH THE SEED: the statements are not yours to turn. If you find one false, say at which input.
  Laid BY PROGRAM, IN A SANDBOX (cutbox-rows.mjs): the forced cells as the released guide's own fill.sh prints them over the translation d3d6ba5ea0f19317… (all of the seat's roots in one cut). By AI agents, Wed Nov 11 2026. No macro, syntax, notation, axiom, sorry.
-/
import Derived.Test.YtjkbbdldmdajkaaGreatDoorChecked
import GoSem.Claim
import GoSem.ClaimJoined
import GoSem.ClaimMapViews
import Derived.JoinedTies
import Derived.KernelRfl
namespace Go.Proofs.YtjkbbdldmdajkaaGreatDoor
/- THE CELL 'sum', in the pinned program and in every row, IS THE sha256 OF THE DUMP (.gsa) THAT YtjkbbdldmdajkaaGreatDoorProg.lean LOADS. Nothing in Lean hashes anything: it is a label: what it is worth is what the hold of that sum in a sandbox is worth. -/
noncomputable def Tryz.pinned : Pinned := { name := "ytjkbbdldmdajkaagreatdoor", sum := "d3d6ba5ea0f19317a550eb2aa8d7c3c644c0027f32a9d9b3468c44f490a916a6", checked := Tryz.checked }
namespace Rows
def none {H : Type} : Left H := { results := [], args := [] }

/- WHAT THE LISTED PACKAGE-LEVEL VARIABLES READ AS WHEN THE CALL BEGINS. Each datum BY PROGRAM (the guide's laid-datum.mjs) off the statement by which the dump's own 'gosem.cut.vars' lays the variable. In a bare row this is a premise. The card (YtjkbbdldmdajkaaGreatDoorCards.lean) ties it to the program's text. -/
def laid_errors_errorType {H : Type} : DataW H := .iface "internal/reflectlite.rtype" (.agg [.ptr (.lit (.string [101, 114, 114, 111, 114]))])

/-- 'laws.FnExactGateTick': WHATEVER THE INPUT: true; the input reads as it did. -/
def fnExactGateTickSpec : ChangeSpec := { name := "fnExactGateTick", fn := fun _ => fun
  | [d1, d2] => { results := [.lit (.bool true)], args := [d1, d2] }
  | _ => none }
def fnExactGateTickRow : OpenClaim := { program := "ytjkbbdldmdajkaagreatdoor", sum := "d3d6ba5ea0f19317a550eb2aa8d7c3c644c0027f32a9d9b3468c44f490a916a6", func := "loop.example/wharfgate/laws.FnExactGateTick", spec := "fnExactGateTick", inPlace := ["internal/reflectlite.ValueOf", "(internal/reflectlite.Value).Type", "(internal/reflectlite.Value).IsNil", "internal/reflectlite.TypeOf", "(internal/reflectlite.Value).Elem", "(internal/reflectlite.Value).Set"], unfollowed := true, recurses := true, named := ["errors.errorType"], plainKeys := false, apart := false, laid := [("errors.errorType", laid_errors_errorType)] }
def FnExactGateTickSaid : Prop := fnExactGateTickRow.holds Tryz.pinned (OpenSpec.ofChange fnExactGateTickSpec)

/-- ITS FALSE NEIGHBOUR: 'it returns false'. Refute it at one input. -/
def fnExactGateTickWrong : ChangeSpec := { name := "fnExactGateTick", fn := fun _ => fun
  | [d1, d2] => { results := [.lit (.bool false)], args := [d1, d2] }
  | _ => none }
def FnExactGateTickWrongFalsely : Prop := fnExactGateTickRow.holds Tryz.pinned (OpenSpec.ofChange fnExactGateTickWrong)

/-- 'laws.FnExactGateBack': WHATEVER THE INPUT: true; the input reads as it did. -/
def fnExactGateBackSpec : ChangeSpec := { name := "fnExactGateBack", fn := fun _ => fun
  | [d1, d2, d3, d4, d5] => { results := [.lit (.bool true)], args := [d1, d2, d3, d4, d5] }
  | _ => none }
def fnExactGateBackRow : OpenClaim := { program := "ytjkbbdldmdajkaagreatdoor", sum := "d3d6ba5ea0f19317a550eb2aa8d7c3c644c0027f32a9d9b3468c44f490a916a6", func := "loop.example/wharfgate/laws.FnExactGateBack", spec := "fnExactGateBack", inPlace := ["internal/reflectlite.ValueOf", "(internal/reflectlite.Value).Type", "(internal/reflectlite.Value).IsNil", "internal/reflectlite.TypeOf", "(internal/reflectlite.Value).Elem", "(internal/reflectlite.Value).Set"], unfollowed := true, recurses := true, named := ["errors.errorType"], plainKeys := false, apart := false, laid := [("errors.errorType", laid_errors_errorType)] }
def FnExactGateBackSaid : Prop := fnExactGateBackRow.holds Tryz.pinned (OpenSpec.ofChange fnExactGateBackSpec)

/-- ITS FALSE NEIGHBOUR: 'it returns false'. Refute it at one input. -/
def fnExactGateBackWrong : ChangeSpec := { name := "fnExactGateBack", fn := fun _ => fun
  | [d1, d2, d3, d4, d5] => { results := [.lit (.bool false)], args := [d1, d2, d3, d4, d5] }
  | _ => none }
def FnExactGateBackWrongFalsely : Prop := fnExactGateBackRow.holds Tryz.pinned (OpenSpec.ofChange fnExactGateBackWrong)

/-- 'laws.FnExactGateBound': WHATEVER THE INPUT: true; the input reads as it did. -/
def fnExactGateBoundSpec : ChangeSpec := { name := "fnExactGateBound", fn := fun _ => fun
  | [d1, d2, d3, d4, d5] => { results := [.lit (.bool true)], args := [d1, d2, d3, d4, d5] }
  | _ => none }
def fnExactGateBoundRow : OpenClaim := { program := "ytjkbbdldmdajkaagreatdoor", sum := "d3d6ba5ea0f19317a550eb2aa8d7c3c644c0027f32a9d9b3468c44f490a916a6", func := "loop.example/wharfgate/laws.FnExactGateBound", spec := "fnExactGateBound", inPlace := ["internal/reflectlite.ValueOf", "(internal/reflectlite.Value).Type", "(internal/reflectlite.Value).IsNil", "internal/reflectlite.TypeOf", "(internal/reflectlite.Value).Elem", "(internal/reflectlite.Value).Set"], unfollowed := true, recurses := true, named := ["errors.errorType"], plainKeys := false, apart := false, laid := [("errors.errorType", laid_errors_errorType)] }
def FnExactGateBoundSaid : Prop := fnExactGateBoundRow.holds Tryz.pinned (OpenSpec.ofChange fnExactGateBoundSpec)

/-- ITS FALSE NEIGHBOUR: 'it returns false'. Refute it at one input. -/
def fnExactGateBoundWrong : ChangeSpec := { name := "fnExactGateBound", fn := fun _ => fun
  | [d1, d2, d3, d4, d5] => { results := [.lit (.bool false)], args := [d1, d2, d3, d4, d5] }
  | _ => none }
def FnExactGateBoundWrongFalsely : Prop := fnExactGateBoundRow.holds Tryz.pinned (OpenSpec.ofChange fnExactGateBoundWrong)

/-- 'laws.FnExactGateDraw': WHATEVER THE INPUT: true; the input reads as it did. -/
def fnExactGateDrawSpec : ChangeSpec := { name := "fnExactGateDraw", fn := fun _ => fun
  | [d1, d2, d3, d4, d5, d6] => { results := [.lit (.bool true)], args := [d1, d2, d3, d4, d5, d6] }
  | _ => none }
def fnExactGateDrawRow : OpenClaim := { program := "ytjkbbdldmdajkaagreatdoor", sum := "d3d6ba5ea0f19317a550eb2aa8d7c3c644c0027f32a9d9b3468c44f490a916a6", func := "loop.example/wharfgate/laws.FnExactGateDraw", spec := "fnExactGateDraw", inPlace := ["internal/reflectlite.ValueOf", "(internal/reflectlite.Value).Type", "(internal/reflectlite.Value).IsNil", "internal/reflectlite.TypeOf", "(internal/reflectlite.Value).Elem", "(internal/reflectlite.Value).Set"], unfollowed := true, recurses := true, named := ["errors.errorType"], plainKeys := false, apart := false, laid := [("errors.errorType", laid_errors_errorType)] }
def FnExactGateDrawSaid : Prop := fnExactGateDrawRow.holds Tryz.pinned (OpenSpec.ofChange fnExactGateDrawSpec)

/-- ITS FALSE NEIGHBOUR: 'it returns false'. Refute it at one input. -/
def fnExactGateDrawWrong : ChangeSpec := { name := "fnExactGateDraw", fn := fun _ => fun
  | [d1, d2, d3, d4, d5, d6] => { results := [.lit (.bool false)], args := [d1, d2, d3, d4, d5, d6] }
  | _ => none }
def FnExactGateDrawWrongFalsely : Prop := fnExactGateDrawRow.holds Tryz.pinned (OpenSpec.ofChange fnExactGateDrawWrong)

/-- 'laws.FnExactGateSweep': WHATEVER THE INPUT: true; the input reads as it did. -/
def fnExactGateSweepSpec : ChangeSpec := { name := "fnExactGateSweep", fn := fun _ => fun
  | [d1, d2] => { results := [.lit (.bool true)], args := [d1, d2] }
  | _ => none }
def fnExactGateSweepRow : OpenClaim := { program := "ytjkbbdldmdajkaagreatdoor", sum := "d3d6ba5ea0f19317a550eb2aa8d7c3c644c0027f32a9d9b3468c44f490a916a6", func := "loop.example/wharfgate/laws.FnExactGateSweep", spec := "fnExactGateSweep", inPlace := ["internal/reflectlite.ValueOf", "(internal/reflectlite.Value).Type", "(internal/reflectlite.Value).IsNil", "internal/reflectlite.TypeOf", "(internal/reflectlite.Value).Elem", "(internal/reflectlite.Value).Set"], unfollowed := true, recurses := true, named := ["errors.errorType"], plainKeys := false, apart := false, laid := [("errors.errorType", laid_errors_errorType)] }
def FnExactGateSweepSaid : Prop := fnExactGateSweepRow.holds Tryz.pinned (OpenSpec.ofChange fnExactGateSweepSpec)

/-- ITS FALSE NEIGHBOUR: 'it returns false'. Refute it at one input. -/
def fnExactGateSweepWrong : ChangeSpec := { name := "fnExactGateSweep", fn := fun _ => fun
  | [d1, d2] => { results := [.lit (.bool false)], args := [d1, d2] }
  | _ => none }
def FnExactGateSweepWrongFalsely : Prop := fnExactGateSweepRow.holds Tryz.pinned (OpenSpec.ofChange fnExactGateSweepWrong)

/- THE SECOND FORM. 'bulk': how many values and letters a reading holds, each counted each time it is reached (what is shared counts as often as it is met; a slice's spare places count too). A statement '..UptoSaid' is the law's where the arguments, and the package variables that the reading takes, are together of bulk at most 1048576: NARROWER than '..Said'. Prove '..Said' where nothing that the law and all that it calls make is longer than what came in: it says more and counts as full. Else prove '..UptoSaid'. A law counts once. -/
mutual
def uptoBulk {H : Type} : DataW H → Nat
  | .lit (.string bytes) => bytes.length + 1
  | .lit _ => 1
  | .nil => 1
  | .ptr d => uptoBulk d + 1
  | .slice elems spare => uptoBulkAll elems + uptoBulkAll spare + 1
  | .agg parts => uptoBulkAll parts + 1
  | .iface _ d => uptoBulk d + 1
  | .map entries => uptoBulkEntries entries + 1
  | .held _ => 1
def uptoBulkAll {H : Type} : List (DataW H) → Nat
  | [] => 0
  | d :: r => uptoBulk d + uptoBulkAll r
def uptoBulkEntries {H : Type} : List (Lit × DataW H) → Nat
  | [] => 0
  | x :: r => uptoBulkEntry x + uptoBulkEntries r
def uptoBulkEntry {H : Type} : Lit × DataW H → Nat
  | (.string bytes, d) => bytes.length + uptoBulk d + 1
  | (_, d) => uptoBulk d + 1
 end
def uptoSmall : (H : Type) → List (DataW H) → Bool := fun _ ds => decide (uptoBulkAll ds ≤ 1048576)
def OpenSpec.upto (s : _root_.Go.ChangeSpec) : _root_.Go.OpenSpec := { _root_.Go.OpenSpec.ofChange s with cond := some uptoSmall }

/-- 'laws.FnExactGateTick', WHERE WHAT IT READS IS OF BULK AT MOST 1048576: true; the input reads as it did. -/
def fnExactGateTickUptoRow : OpenClaim := { program := "ytjkbbdldmdajkaagreatdoor", sum := "d3d6ba5ea0f19317a550eb2aa8d7c3c644c0027f32a9d9b3468c44f490a916a6", func := "loop.example/wharfgate/laws.FnExactGateTick", spec := "fnExactGateTick", inPlace := ["internal/reflectlite.ValueOf", "(internal/reflectlite.Value).Type", "(internal/reflectlite.Value).IsNil", "internal/reflectlite.TypeOf", "(internal/reflectlite.Value).Elem", "(internal/reflectlite.Value).Set"], unfollowed := true, recurses := true, named := ["errors.errorType"], plainKeys := false, apart := false, laid := [("errors.errorType", laid_errors_errorType)], narrowed := true }
def FnExactGateTickUptoSaid : Prop := fnExactGateTickUptoRow.holds Tryz.pinned (OpenSpec.upto fnExactGateTickSpec)

/-- 'laws.FnExactGateBack', WHERE WHAT IT READS IS OF BULK AT MOST 1048576: true; the input reads as it did. -/
def fnExactGateBackUptoRow : OpenClaim := { program := "ytjkbbdldmdajkaagreatdoor", sum := "d3d6ba5ea0f19317a550eb2aa8d7c3c644c0027f32a9d9b3468c44f490a916a6", func := "loop.example/wharfgate/laws.FnExactGateBack", spec := "fnExactGateBack", inPlace := ["internal/reflectlite.ValueOf", "(internal/reflectlite.Value).Type", "(internal/reflectlite.Value).IsNil", "internal/reflectlite.TypeOf", "(internal/reflectlite.Value).Elem", "(internal/reflectlite.Value).Set"], unfollowed := true, recurses := true, named := ["errors.errorType"], plainKeys := false, apart := false, laid := [("errors.errorType", laid_errors_errorType)], narrowed := true }
def FnExactGateBackUptoSaid : Prop := fnExactGateBackUptoRow.holds Tryz.pinned (OpenSpec.upto fnExactGateBackSpec)

/-- 'laws.FnExactGateBound', WHERE WHAT IT READS IS OF BULK AT MOST 1048576: true; the input reads as it did. -/
def fnExactGateBoundUptoRow : OpenClaim := { program := "ytjkbbdldmdajkaagreatdoor", sum := "d3d6ba5ea0f19317a550eb2aa8d7c3c644c0027f32a9d9b3468c44f490a916a6", func := "loop.example/wharfgate/laws.FnExactGateBound", spec := "fnExactGateBound", inPlace := ["internal/reflectlite.ValueOf", "(internal/reflectlite.Value).Type", "(internal/reflectlite.Value).IsNil", "internal/reflectlite.TypeOf", "(internal/reflectlite.Value).Elem", "(internal/reflectlite.Value).Set"], unfollowed := true, recurses := true, named := ["errors.errorType"], plainKeys := false, apart := false, laid := [("errors.errorType", laid_errors_errorType)], narrowed := true }
def FnExactGateBoundUptoSaid : Prop := fnExactGateBoundUptoRow.holds Tryz.pinned (OpenSpec.upto fnExactGateBoundSpec)

/-- 'laws.FnExactGateDraw', WHERE WHAT IT READS IS OF BULK AT MOST 1048576: true; the input reads as it did. -/
def fnExactGateDrawUptoRow : OpenClaim := { program := "ytjkbbdldmdajkaagreatdoor", sum := "d3d6ba5ea0f19317a550eb2aa8d7c3c644c0027f32a9d9b3468c44f490a916a6", func := "loop.example/wharfgate/laws.FnExactGateDraw", spec := "fnExactGateDraw", inPlace := ["internal/reflectlite.ValueOf", "(internal/reflectlite.Value).Type", "(internal/reflectlite.Value).IsNil", "internal/reflectlite.TypeOf", "(internal/reflectlite.Value).Elem", "(internal/reflectlite.Value).Set"], unfollowed := true, recurses := true, named := ["errors.errorType"], plainKeys := false, apart := false, laid := [("errors.errorType", laid_errors_errorType)], narrowed := true }
def FnExactGateDrawUptoSaid : Prop := fnExactGateDrawUptoRow.holds Tryz.pinned (OpenSpec.upto fnExactGateDrawSpec)

/-- 'laws.FnExactGateSweep', WHERE WHAT IT READS IS OF BULK AT MOST 1048576: true; the input reads as it did. -/
def fnExactGateSweepUptoRow : OpenClaim := { program := "ytjkbbdldmdajkaagreatdoor", sum := "d3d6ba5ea0f19317a550eb2aa8d7c3c644c0027f32a9d9b3468c44f490a916a6", func := "loop.example/wharfgate/laws.FnExactGateSweep", spec := "fnExactGateSweep", inPlace := ["internal/reflectlite.ValueOf", "(internal/reflectlite.Value).Type", "(internal/reflectlite.Value).IsNil", "internal/reflectlite.TypeOf", "(internal/reflectlite.Value).Elem", "(internal/reflectlite.Value).Set"], unfollowed := true, recurses := true, named := ["errors.errorType"], plainKeys := false, apart := false, laid := [("errors.errorType", laid_errors_errorType)], narrowed := true }
def FnExactGateSweepUptoSaid : Prop := fnExactGateSweepUptoRow.holds Tryz.pinned (OpenSpec.upto fnExactGateSweepSpec)

end Rows
end Go.Proofs.YtjkbbdldmdajkaaGreatDoor
