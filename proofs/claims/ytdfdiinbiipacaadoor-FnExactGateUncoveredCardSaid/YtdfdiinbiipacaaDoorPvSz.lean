/- The laws' own functions on data: what takes a size away, what copies, what compares. No condition. -/
import Derived.Test.YtdfdiinbiipacaaDoorPvA
namespace Go.Proofs.YtdfdiinbiipacaaDoor.Pu
open Go Go.RowKit Go.Proofs.YtdfdiinbiipacaaDoor.Abs Go.Proofs.YtdfdiinbiipacaaDoor.Fn
def _root_.Go.Proofs.YtdfdiinbiipacaaDoor.Abs.GateRule.sd (x : GateRule) : Prop := sdS sdAny x.Verbs ∧ sdStr x.Kind ∧ sdStr x.Team ∧ sdStr x.Prefix
def _root_.Go.Proofs.YtdfdiinbiipacaaDoor.Abs.GateAct.sd (x : GateAct) : Prop := sdAny x.Verb ∧ sdStr x.Kind ∧ sdStr x.Team ∧ sdStr x.Name
def _root_.Go.Proofs.YtdfdiinbiipacaaDoor.Abs.GateObject.sd (x : GateObject) : Prop := sdStr x.Kind ∧ sdStr x.Name ∧ sdStr x.Team ∧ sdS sdStr x.Values ∧ sdAny x.Ending ∧ sdS sdStr x.Holds ∧ sdAny x.Version
def _root_.Go.Proofs.YtdfdiinbiipacaaDoor.Abs.GateTeam.sd (x : GateTeam) : Prop := sdStr x.Name ∧ sdStr x.Over
def _root_.Go.Proofs.YtdfdiinbiipacaaDoor.Abs.GateField.sd (x : GateField) : Prop := sdStr x.Name ∧ sdAny x.Kind ∧ sdAny x.Least ∧ sdAny x.Most ∧ sdS sdStr x.Words ∧ sdStr x.To ∧ sdAny x.Role ∧ sdAny x.Must ∧ sdAny x.Fixed ∧ sdStr x.Default ∧ sdStr x.Weighs
def _root_.Go.Proofs.YtdfdiinbiipacaaDoor.Abs.GateShape.sd (x : GateShape) : Prop := sdStr x.Kind ∧ sdS GateField.sd x.Fields
def _root_.Go.Proofs.YtdfdiinbiipacaaDoor.Abs.Fault.sd (x : Fault) : Prop := sdAny x.code ∧ sdAny x.place
def _root_.Go.Proofs.YtdfdiinbiipacaaDoor.Abs.NumberField.sd (x : NumberField) : Prop := GateField.sd x.GateField
def _root_.Go.Proofs.YtdfdiinbiipacaaDoor.Abs.Spot.sd (x : Spot) : Prop := sdStr x.kind ∧ sdStr x.name
def _root_.Go.Proofs.YtdfdiinbiipacaaDoor.Abs.Pair.sd (x : Pair) : Prop := sdStr x.Key ∧ sdAny x.Val
def _root_.Go.Proofs.YtdfdiinbiipacaaDoor.Abs.Pair2.sd (x : Pair2) : Prop := sdStr x.Key
def _root_.Go.Proofs.YtdfdiinbiipacaaDoor.Abs.Dyn.sd (x : Dyn) : Prop := sdAny x.t ∧ sdAny x.x
theorem laws_szGateTeam_y {x0 : GateTeam} (hx : GateTeam.ok x0) {n : Int} (h0 : 0 ≤ n) (hn : n ≤ 1048576) : SzY (fun k => laws_szGateTeam k x0 n) n (GateTeam.sd x0) := by
  unfold laws_szGateTeam
  exact SzY.str h0 hn hx.1 fun a0 b0 s0 => SzY.str a0 b0 hx.2 fun a1 b1 s1 => SzY.done ⟨s0, s1⟩
theorem laws_szGateTeamS_y {x0 : List GateTeam} (hx : okS GateTeam.ok x0) {n : Int} (h0 : 0 ≤ n) (hn : n ≤ 1048576) : SzY (fun k => laws_szGateTeamS k x0 n) n ((sdS GateTeam.sd) x0) := by
  unfold laws_szGateTeamS
  exact szS_y (d := (default : GateTeam)) (p := GateTeam.sd) (F := fun k y v => laws_szGateTeam k y v) (l := fun k v i => iter (ts := laws_szGateTeamS_L5_ts) (R := Int) k (laws_szGateTeamS_L5 fun v => some v) x0 v i) hx.1 hn h0 (fun _ _ _ => rfl) (fun y hy n h0 hn => laws_szGateTeam_y (hx.2 y hy) h0 hn)
theorem laws_szIntS_y {x0 : List Int} (hx : okS (okInt .i64) x0) {n : Int} (h0 : 0 ≤ n) (hn : n ≤ 1048576) : SzY (fun k => laws_szIntS k x0 n) n ((sdS sdAny) x0) := by
  unfold laws_szIntS
  exact SzY.str h0 hn hx.1 fun _ _ a => SzY.done ⟨a, fun _ _ => trivial⟩
theorem laws_szGateRule_y {x0 : GateRule} (hx : GateRule.ok x0) {n : Int} (h0 : 0 ≤ n) (hn : n ≤ 1048576) : SzY (fun k => laws_szGateRule k x0 n) n (GateRule.sd x0) := by
  unfold laws_szGateRule
  exact SzY.call (laws_szIntS_y hx.1 h0 hn) h0 hn fun v0 a0 b0 _ s0 => SzY.str a0 b0 hx.2.1 fun a1 b1 s1 => SzY.str a1 b1 hx.2.2.1 fun a2 b2 s2 => SzY.str a2 b2 hx.2.2.2 fun a3 b3 s3 => SzY.done ⟨s0, s1, s2, s3⟩
theorem laws_szGateRuleS_y {x0 : List GateRule} (hx : okS GateRule.ok x0) {n : Int} (h0 : 0 ≤ n) (hn : n ≤ 1048576) : SzY (fun k => laws_szGateRuleS k x0 n) n ((sdS GateRule.sd) x0) := by
  unfold laws_szGateRuleS
  exact szS_y (d := (default : GateRule)) (p := GateRule.sd) (F := fun k y v => laws_szGateRule k y v) (l := fun k v i => iter (ts := laws_szGateRuleS_L5_ts) (R := Int) k (laws_szGateRuleS_L5 fun v => some v) x0 v i) hx.1 hn h0 (fun _ _ _ => rfl) (fun y hy n h0 hn => laws_szGateRule_y (hx.2 y hy) h0 hn)
theorem laws_toGateTeam_y {x0 : GateTeam} (_ : GateTeam.sd x0) : Yd (fun k => laws_toGateTeam k x0) x0 := by
  unfold laws_toGateTeam
  exact Yd.pure
theorem laws_toGateTeamS_y {x0 : List GateTeam} (hx : sdS GateTeam.sd x0) : Yd (fun k => laws_toGateTeamS k x0) x0 := by
  unfold laws_toGateTeamS
  exact toS_y (d := (default : GateTeam)) (F := fun k y => laws_toGateTeam k y) (l := fun k i o => iter (ts := laws_toGateTeamS_L3_ts) (R := List GateTeam) k (laws_toGateTeamS_L3 fun v => some v) x0 i o) (b := 32) hx.1 (by omega) (fun _ _ _ => rfl) (fun y hy => laws_toGateTeam_y (hx.2 y hy))
theorem laws_toIntS_y {x0 : List Int} (hx : sdS sdAny x0) : Yd (fun k => laws_toIntS k x0) x0 := by
  unfold laws_toIntS
  exact toS_y (d := (0 : Int)) (F := fun _ y => some y) (l := fun k i o => iter (ts := laws_toIntS_L3_ts) (R := List Int) k (laws_toIntS_L3 fun v => some v) x0 i o) (b := 8) hx.1 (by omega) (fun _ _ _ => rfl) (fun y _ => Yd.pure)
theorem laws_toGateRule_y {x0 : GateRule} (hx : GateRule.sd x0) : Yd (fun k => laws_toGateRule k x0) x0 := by
  unfold laws_toGateRule
  exact Yd.bind (laws_toIntS_y hx.1) (Yd.pure)
theorem laws_toGateRuleS_y {x0 : List GateRule} (hx : sdS GateRule.sd x0) : Yd (fun k => laws_toGateRuleS k x0) x0 := by
  unfold laws_toGateRuleS
  exact toS_y (d := (default : GateRule)) (F := fun k y => laws_toGateRule k y) (l := fun k i o => iter (ts := laws_toGateRuleS_L3_ts) (R := List GateRule) k (laws_toGateRuleS_L3 fun v => some v) x0 i o) (b := 72) hx.1 (by omega) (fun _ _ _ => rfl) (fun y hy => laws_toGateRule_y (hx.2 y hy))
theorem laws_eqGateAct_y {x0 : GateAct} (_ : GateAct.ok x0) : Yd (fun k => laws_eqGateAct k x0 x0) true := by
  unfold laws_eqGateAct
  exact Yd.cn (by simp [seq, ieq, Abs.beq]) (Yd.cn (by simp [seq, ieq, Abs.beq]) (Yd.cn (by simp [seq, ieq, Abs.beq]) (Yd.cn (by simp [seq, ieq, Abs.beq]) (Yd.pure))))
theorem laws_eqGateTeam_y {x0 : GateTeam} (_ : GateTeam.ok x0) : Yd (fun k => laws_eqGateTeam k x0 x0) true := by
  unfold laws_eqGateTeam
  exact Yd.cn (by simp [seq, ieq, Abs.beq]) (Yd.cn (by simp [seq, ieq, Abs.beq]) (Yd.pure))
theorem laws_eqGateTeamS_y {x0 : List GateTeam} (hx : okS GateTeam.ok x0) : Yd (fun k => laws_eqGateTeamS k x0 x0) true := by
  unfold laws_eqGateTeamS
  exact eqS_y (d := (default : GateTeam)) (F := fun k a b => laws_eqGateTeam k a b) (l := fun k i => iter (ts := laws_eqGateTeamS_L4_ts) (R := Bool) k (laws_eqGateTeamS_L4 (some true)) x0 x0 i) hx.1 (fun _ _ => rfl) (fun y hy => laws_eqGateTeam_y (hx.2 y hy))
theorem laws_eqIntS_y {x0 : List Int} (hx : okS (okInt .i64) x0) : Yd (fun k => laws_eqIntS k x0 x0) true := by
  unfold laws_eqIntS
  exact eqS_y (d := (0 : Int)) (F := fun _ a b => some (ieq a b)) (l := fun k i => iter (ts := laws_eqIntS_L4_ts) (R := Bool) k (laws_eqIntS_L4 (some true)) x0 x0 i) hx.1 (fun _ _ => rfl) (fun y _ => Yd.of fun _ => by rw [ieq_self])
theorem laws_eqGateRule_y {x0 : GateRule} (hx : GateRule.ok x0) : Yd (fun k => laws_eqGateRule k x0 x0) true := by
  unfold laws_eqGateRule
  exact Yd.bind (laws_eqIntS_y hx.1) (Yd.cn (by simp) (Yd.cn (by simp [seq, ieq, Abs.beq]) (Yd.cn (by simp [seq, ieq, Abs.beq]) (Yd.cn (by simp [seq, ieq, Abs.beq]) (Yd.pure)))))
theorem laws_eqGateRuleS_y {x0 : List GateRule} (hx : okS GateRule.ok x0) : Yd (fun k => laws_eqGateRuleS k x0 x0) true := by
  unfold laws_eqGateRuleS
  exact eqS_y (d := (default : GateRule)) (F := fun k a b => laws_eqGateRule k a b) (l := fun k i => iter (ts := laws_eqGateRuleS_L4_ts) (R := Bool) k (laws_eqGateRuleS_L4 (some true)) x0 x0 i) hx.1 (fun _ _ => rfl) (fun y hy => laws_eqGateRule_y (hx.2 y hy))
end Go.Proofs.YtdfdiinbiipacaaDoor.Pu
