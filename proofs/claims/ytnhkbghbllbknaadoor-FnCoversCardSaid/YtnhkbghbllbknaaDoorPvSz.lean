/- The laws' own functions on data: what takes a size away, what copies, what compares. No condition. -/
import Derived.Test.YtnhkbghbllbknaaDoorPvA
namespace Go.Proofs.YtnhkbghbllbknaaDoor.Pu
open Go Go.RowKit Go.Proofs.YtnhkbghbllbknaaDoor.Abs Go.Proofs.YtnhkbghbllbknaaDoor.Fn
def _root_.Go.Proofs.YtnhkbghbllbknaaDoor.Abs.GateRule.sd (x : GateRule) : Prop := sdS sdAny x.Verbs ∧ sdStr x.Kind ∧ sdStr x.Team ∧ sdStr x.Prefix
def _root_.Go.Proofs.YtnhkbghbllbknaaDoor.Abs.GateAct.sd (x : GateAct) : Prop := sdAny x.Verb ∧ sdStr x.Kind ∧ sdStr x.Team ∧ sdStr x.Name
def _root_.Go.Proofs.YtnhkbghbllbknaaDoor.Abs.GateTeam.sd (x : GateTeam) : Prop := sdStr x.Name ∧ sdStr x.Over
def _root_.Go.Proofs.YtnhkbghbllbknaaDoor.Abs.L1Rd.sd (x : L1Rd) : Prop := sdS sdAny x.b ∧ sdAny x.p
def _root_.Go.Proofs.YtnhkbghbllbknaaDoor.Abs.GateField.sd (x : GateField) : Prop := sdStr x.Name ∧ sdAny x.Kind ∧ sdAny x.Least ∧ sdAny x.Most ∧ sdS sdStr x.Words ∧ sdStr x.To ∧ sdAny x.Role ∧ sdAny x.Must ∧ sdAny x.Fixed ∧ sdStr x.Default ∧ sdStr x.Weighs
def _root_.Go.Proofs.YtnhkbghbllbknaaDoor.Abs.GateShape.sd (x : GateShape) : Prop := sdStr x.Kind ∧ sdS GateField.sd x.Fields
def _root_.Go.Proofs.YtnhkbghbllbknaaDoor.Abs.GateMend.sd (x : GateMend) : Prop := sdStr x.Kind ∧ sdStr x.Field ∧ sdStr x.When ∧ sdStr x.Is ∧ sdStr x.Put ∧ sdStr x.From
def _root_.Go.Proofs.YtnhkbghbllbknaaDoor.Abs.GateLaw.sd (x : GateLaw) : Prop := sdS GateShape.sd x.Shapes ∧ sdS GateMend.sd x.Mends ∧ sdS GateTeam.sd x.Teams
def _root_.Go.Proofs.YtnhkbghbllbknaaDoor.Abs.Pair.sd (x : Pair) : Prop := sdStr x.Key
def _root_.Go.Proofs.YtnhkbghbllbknaaDoor.Abs.Dyn.sd (x : Dyn) : Prop := sdAny x.t ∧ sdAny x.x
end Go.Proofs.YtnhkbghbllbknaaDoor.Pu
