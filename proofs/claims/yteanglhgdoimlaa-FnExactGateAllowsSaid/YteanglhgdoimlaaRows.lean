/-
  No cell of these rows narrows 'for every input' (looked for: loops, veiled, ifaces, maps, wideKeys, modest, calm, conditions, laid).
  DERIVED. THE GIVEN ROWS OF THIS SEAT. 5 by the template 'for every input the law returns true; each argument reads behind the call as it read before'; 0 by the template 'total and deterministic' (their statements: YteanglhgdoimlaaTotals.lean).
  GIVEN WITH THE SEED: the statements are not yours to turn. If you find one false, say at which input.
  Laid BY PROGRAM, IN A SANDBOX (cutbox-rows.mjs): the forced cells as the released guide's own fill.sh prints them over the translation 660700ad0d3c9ebe… (all of the seat's roots in one cut). By AI agents, Wed Nov 11 2026. No macro, syntax, notation, axiom, sorry.
-/
import Derived.Test.YteanglhgdoimlaaChecked
import GoSem.Claim
import GoSem.ClaimJoined
import GoSem.ClaimMapViews
import Derived.JoinedTies
import Derived.KernelRfl
namespace Go.Proofs.Yteanglhgdoimlaa
/- THE CELL 'sum', in the pinned program and in every row, IS THE sha256 OF THE DUMP (.gsa) THAT YteanglhgdoimlaaProg.lean LOADS. Nothing in Lean hashes anything: it is a label: what it is worth is what the hold of that sum in a sandbox is worth. -/
noncomputable def Try.pinned : Pinned := { name := "yteanglhgdoimlaa", sum := "660700ad0d3c9ebe762c2b96ac7746d9801bf7a2ae123e82c6afdad4b9a095fe", checked := Try.checked }
namespace Rows
def none {H : Type} : Left H := { results := [], args := [] }

/-- 'laws.FnExactConstants': WHATEVER THE INPUT: true; the input reads as it did. -/
def fnExactConstantsSpec : ChangeSpec := { name := "fnExactConstants", fn := fun _ => fun
  | [] => { results := [.lit (.bool true)], args := [] }
  | _ => none }
def fnExactConstantsRow : OpenClaim := { program := "yteanglhgdoimlaa", sum := "660700ad0d3c9ebe762c2b96ac7746d9801bf7a2ae123e82c6afdad4b9a095fe", func := "loop.example/wharfgate/laws.FnExactConstants", spec := "fnExactConstants", apart := false }
def FnExactConstantsSaid : Prop := fnExactConstantsRow.holds Try.pinned (OpenSpec.ofChange fnExactConstantsSpec)

/-- ITS FALSE NEIGHBOUR: 'it returns false'. Refute it at one input. -/
def fnExactConstantsWrong : ChangeSpec := { name := "fnExactConstants", fn := fun _ => fun
  | [] => { results := [.lit (.bool false)], args := [] }
  | _ => none }
def FnExactConstantsWrongFalsely : Prop := fnExactConstantsRow.holds Try.pinned (OpenSpec.ofChange fnExactConstantsWrong)

/-- 'laws.FnExactGateUnder': WHATEVER THE INPUT: true; the input reads as it did. -/
def fnExactGateUnderSpec : ChangeSpec := { name := "fnExactGateUnder", fn := fun _ => fun
  | [d1, d2, d3] => { results := [.lit (.bool true)], args := [d1, d2, d3] }
  | _ => none }
def fnExactGateUnderRow : OpenClaim := { program := "yteanglhgdoimlaa", sum := "660700ad0d3c9ebe762c2b96ac7746d9801bf7a2ae123e82c6afdad4b9a095fe", func := "loop.example/wharfgate/laws.FnExactGateUnder", spec := "fnExactGateUnder", apart := false }
def FnExactGateUnderSaid : Prop := fnExactGateUnderRow.holds Try.pinned (OpenSpec.ofChange fnExactGateUnderSpec)

/-- ITS FALSE NEIGHBOUR: 'it returns false'. Refute it at one input. -/
def fnExactGateUnderWrong : ChangeSpec := { name := "fnExactGateUnder", fn := fun _ => fun
  | [d1, d2, d3] => { results := [.lit (.bool false)], args := [d1, d2, d3] }
  | _ => none }
def FnExactGateUnderWrongFalsely : Prop := fnExactGateUnderRow.holds Try.pinned (OpenSpec.ofChange fnExactGateUnderWrong)

/-- 'laws.FnExactGateTeamsOk': WHATEVER THE INPUT: true; the input reads as it did. -/
def fnExactGateTeamsOkSpec : ChangeSpec := { name := "fnExactGateTeamsOk", fn := fun _ => fun
  | [d] => { results := [.lit (.bool true)], args := [d] }
  | _ => none }
def fnExactGateTeamsOkRow : OpenClaim := { program := "yteanglhgdoimlaa", sum := "660700ad0d3c9ebe762c2b96ac7746d9801bf7a2ae123e82c6afdad4b9a095fe", func := "loop.example/wharfgate/laws.FnExactGateTeamsOk", spec := "fnExactGateTeamsOk", apart := false }
def FnExactGateTeamsOkSaid : Prop := fnExactGateTeamsOkRow.holds Try.pinned (OpenSpec.ofChange fnExactGateTeamsOkSpec)

/-- ITS FALSE NEIGHBOUR: 'it returns false'. Refute it at one input. -/
def fnExactGateTeamsOkWrong : ChangeSpec := { name := "fnExactGateTeamsOk", fn := fun _ => fun
  | [d] => { results := [.lit (.bool false)], args := [d] }
  | _ => none }
def FnExactGateTeamsOkWrongFalsely : Prop := fnExactGateTeamsOkRow.holds Try.pinned (OpenSpec.ofChange fnExactGateTeamsOkWrong)

/-- 'laws.FnExactGateFits': WHATEVER THE INPUT: true; the input reads as it did. -/
def fnExactGateFitsSpec : ChangeSpec := { name := "fnExactGateFits", fn := fun _ => fun
  | [d1, d2] => { results := [.lit (.bool true)], args := [d1, d2] }
  | _ => none }
def fnExactGateFitsRow : OpenClaim := { program := "yteanglhgdoimlaa", sum := "660700ad0d3c9ebe762c2b96ac7746d9801bf7a2ae123e82c6afdad4b9a095fe", func := "loop.example/wharfgate/laws.FnExactGateFits", spec := "fnExactGateFits", unfollowed := true, recurses := true, apart := false }
def FnExactGateFitsSaid : Prop := fnExactGateFitsRow.holds Try.pinned (OpenSpec.ofChange fnExactGateFitsSpec)

/-- ITS FALSE NEIGHBOUR: 'it returns false'. Refute it at one input. -/
def fnExactGateFitsWrong : ChangeSpec := { name := "fnExactGateFits", fn := fun _ => fun
  | [d1, d2] => { results := [.lit (.bool false)], args := [d1, d2] }
  | _ => none }
def FnExactGateFitsWrongFalsely : Prop := fnExactGateFitsRow.holds Try.pinned (OpenSpec.ofChange fnExactGateFitsWrong)

/-- 'laws.FnExactGateAllows': WHATEVER THE INPUT: true; the input reads as it did. -/
def fnExactGateAllowsSpec : ChangeSpec := { name := "fnExactGateAllows", fn := fun _ => fun
  | [d1, d2, d3] => { results := [.lit (.bool true)], args := [d1, d2, d3] }
  | _ => none }
def fnExactGateAllowsRow : OpenClaim := { program := "yteanglhgdoimlaa", sum := "660700ad0d3c9ebe762c2b96ac7746d9801bf7a2ae123e82c6afdad4b9a095fe", func := "loop.example/wharfgate/laws.FnExactGateAllows", spec := "fnExactGateAllows", unfollowed := true, recurses := true, apart := false }
def FnExactGateAllowsSaid : Prop := fnExactGateAllowsRow.holds Try.pinned (OpenSpec.ofChange fnExactGateAllowsSpec)

/-- ITS FALSE NEIGHBOUR: 'it returns false'. Refute it at one input. -/
def fnExactGateAllowsWrong : ChangeSpec := { name := "fnExactGateAllows", fn := fun _ => fun
  | [d1, d2, d3] => { results := [.lit (.bool false)], args := [d1, d2, d3] }
  | _ => none }
def FnExactGateAllowsWrongFalsely : Prop := fnExactGateAllowsRow.holds Try.pinned (OpenSpec.ofChange fnExactGateAllowsWrong)

/- THE SECOND FORM. 'bulk': how many values and letters a reading holds, each counted each time it is reached (what is shared counts as often as it is met; a slice's spare places count too). A statement '..UptoSaid' is the law's where the arguments, and the package variables that the reading takes, are together of bulk at most 1048576: NARROWER than '..Said'. Prove '..Said' where nothing that the law and all that it calls make is longer than what came in: it says more and counts as full. Else prove '..UptoSaid'. A law counts once. -/
mutual
def uptoBulk {H : Type} : DataW H → Nat
  | .lit (.string bytes) => bytes.length + 1
  | .lit _ => 1
  | .nil => 1
  | .ptr d => uptoBulk d + 1
  | .slice elems spare => uptoBulkAll elems + uptoBulkAll spare + 1
  | .agg parts => uptoBulkAll parts + 1
  | .iface _ d => uptoBulk d + 1
  | .map entries => uptoBulkEntries entries + 1
  | .held _ => 1
def uptoBulkAll {H : Type} : List (DataW H) → Nat
  | [] => 0
  | d :: r => uptoBulk d + uptoBulkAll r
def uptoBulkEntries {H : Type} : List (Lit × DataW H) → Nat
  | [] => 0
  | x :: r => uptoBulkEntry x + uptoBulkEntries r
def uptoBulkEntry {H : Type} : Lit × DataW H → Nat
  | (.string bytes, d) => bytes.length + uptoBulk d + 1
  | (_, d) => uptoBulk d + 1
 end
def uptoSmall : (H : Type) → List (DataW H) → Bool := fun _ ds => decide (uptoBulkAll ds ≤ 1048576)
def OpenSpec.upto (s : _root_.Go.ChangeSpec) : _root_.Go.OpenSpec := { _root_.Go.OpenSpec.ofChange s with cond := some uptoSmall }

/-- 'laws.FnExactConstants', WHERE WHAT IT READS IS OF BULK AT MOST 1048576: true; the input reads as it did. -/
def fnExactConstantsUptoRow : OpenClaim := { program := "yteanglhgdoimlaa", sum := "660700ad0d3c9ebe762c2b96ac7746d9801bf7a2ae123e82c6afdad4b9a095fe", func := "loop.example/wharfgate/laws.FnExactConstants", spec := "fnExactConstants", apart := false, narrowed := true }
def FnExactConstantsUptoSaid : Prop := fnExactConstantsUptoRow.holds Try.pinned (OpenSpec.upto fnExactConstantsSpec)

/-- 'laws.FnExactGateUnder', WHERE WHAT IT READS IS OF BULK AT MOST 1048576: true; the input reads as it did. -/
def fnExactGateUnderUptoRow : OpenClaim := { program := "yteanglhgdoimlaa", sum := "660700ad0d3c9ebe762c2b96ac7746d9801bf7a2ae123e82c6afdad4b9a095fe", func := "loop.example/wharfgate/laws.FnExactGateUnder", spec := "fnExactGateUnder", apart := false, narrowed := true }
def FnExactGateUnderUptoSaid : Prop := fnExactGateUnderUptoRow.holds Try.pinned (OpenSpec.upto fnExactGateUnderSpec)

/-- 'laws.FnExactGateTeamsOk', WHERE WHAT IT READS IS OF BULK AT MOST 1048576: true; the input reads as it did. -/
def fnExactGateTeamsOkUptoRow : OpenClaim := { program := "yteanglhgdoimlaa", sum := "660700ad0d3c9ebe762c2b96ac7746d9801bf7a2ae123e82c6afdad4b9a095fe", func := "loop.example/wharfgate/laws.FnExactGateTeamsOk", spec := "fnExactGateTeamsOk", apart := false, narrowed := true }
def FnExactGateTeamsOkUptoSaid : Prop := fnExactGateTeamsOkUptoRow.holds Try.pinned (OpenSpec.upto fnExactGateTeamsOkSpec)

/-- 'laws.FnExactGateFits', WHERE WHAT IT READS IS OF BULK AT MOST 1048576: true; the input reads as it did. -/
def fnExactGateFitsUptoRow : OpenClaim := { program := "yteanglhgdoimlaa", sum := "660700ad0d3c9ebe762c2b96ac7746d9801bf7a2ae123e82c6afdad4b9a095fe", func := "loop.example/wharfgate/laws.FnExactGateFits", spec := "fnExactGateFits", unfollowed := true, recurses := true, apart := false, narrowed := true }
def FnExactGateFitsUptoSaid : Prop := fnExactGateFitsUptoRow.holds Try.pinned (OpenSpec.upto fnExactGateFitsSpec)

/-- 'laws.FnExactGateAllows', WHERE WHAT IT READS IS OF BULK AT MOST 1048576: true; the input reads as it did. -/
def fnExactGateAllowsUptoRow : OpenClaim := { program := "yteanglhgdoimlaa", sum := "660700ad0d3c9ebe762c2b96ac7746d9801bf7a2ae123e82c6afdad4b9a095fe", func := "loop.example/wharfgate/laws.FnExactGateAllows", spec := "fnExactGateAllows", unfollowed := true, recurses := true, apart := false, narrowed := true }
def FnExactGateAllowsUptoSaid : Prop := fnExactGateAllowsUptoRow.holds Try.pinned (OpenSpec.upto fnExactGateAllowsSpec)

end Rows
end Go.Proofs.Yteanglhgdoimlaa
