/- The laws' own functions on data: what takes a size away, what copies, what compares. No condition. -/
import Derived.Test.YtdfdiinbiipacaaDoorPvA
namespace Go.Proofs.YtdfdiinbiipacaaDoor.Pu
open Go Go.RowKit Go.Proofs.YtdfdiinbiipacaaDoor.Abs Go.Proofs.YtdfdiinbiipacaaDoor.Fn
def _root_.Go.Proofs.YtdfdiinbiipacaaDoor.Abs.GateRule.sd (x : GateRule) : Prop := sdS sdAny x.Verbs ∧ sdStr x.Kind ∧ sdStr x.Team ∧ sdStr x.Prefix
def _root_.Go.Proofs.YtdfdiinbiipacaaDoor.Abs.GateAct.sd (x : GateAct) : Prop := sdAny x.Verb ∧ sdStr x.Kind ∧ sdStr x.Team ∧ sdStr x.Name
def _root_.Go.Proofs.YtdfdiinbiipacaaDoor.Abs.GateObject.sd (x : GateObject) : Prop := sdStr x.Kind ∧ sdStr x.Name ∧ sdStr x.Team ∧ sdS sdStr x.Values ∧ sdAny x.Ending ∧ sdS sdStr x.Holds ∧ sdAny x.Version
def _root_.Go.Proofs.YtdfdiinbiipacaaDoor.Abs.GateTeam.sd (x : GateTeam) : Prop := sdStr x.Name ∧ sdStr x.Over
def _root_.Go.Proofs.YtdfdiinbiipacaaDoor.Abs.GateField.sd (x : GateField) : Prop := sdStr x.Name ∧ sdAny x.Kind ∧ sdAny x.Least ∧ sdAny x.Most ∧ sdS sdStr x.Words ∧ sdStr x.To ∧ sdAny x.Role ∧ sdAny x.Must ∧ sdAny x.Fixed ∧ sdStr x.Default ∧ sdStr x.Weighs
def _root_.Go.Proofs.YtdfdiinbiipacaaDoor.Abs.GateShape.sd (x : GateShape) : Prop := sdStr x.Kind ∧ sdS GateField.sd x.Fields
def _root_.Go.Proofs.YtdfdiinbiipacaaDoor.Abs.Fault.sd (x : Fault) : Prop := sdAny x.code ∧ sdAny x.place
def _root_.Go.Proofs.YtdfdiinbiipacaaDoor.Abs.NumberField.sd (x : NumberField) : Prop := GateField.sd x.GateField
def _root_.Go.Proofs.YtdfdiinbiipacaaDoor.Abs.Spot.sd (x : Spot) : Prop := sdStr x.kind ∧ sdStr x.name
def _root_.Go.Proofs.YtdfdiinbiipacaaDoor.Abs.Pair.sd (x : Pair) : Prop := sdStr x.Key ∧ sdAny x.Val
def _root_.Go.Proofs.YtdfdiinbiipacaaDoor.Abs.Dyn.sd (x : Dyn) : Prop := sdAny x.t ∧ sdAny x.x
theorem laws_szStringS_y {x0 : List (List UInt8)} (hx : okS okStr x0) {n : Int} (h0 : 0 ≤ n) (hn : n ≤ 1048576) : SzY (fun k => laws_szStringS k x0 n) n ((sdS sdStr) x0) := by
  unfold laws_szStringS
  refine szS_y (d := ([] : List UInt8)) (p := sdStr) (F := fun k y v => (some (isub .i64 v (y.length : Int)))) (l := fun k v i => iter (ts := laws_szStringS_L5_ts) (R := Int) k (laws_szStringS_L5 fun v => some v) x0 v i) hx.1 hn h0 (fun _ _ _ => rfl) fun y hy n h0 hn => ?_
  have hy' := hx.2 y hy
  unfold okStr at hy'
  have hm := max_eq
  have e : isub .i64 n (y.length : Int) = n - y.length := isubn (by omega) (by omega)
  exact ⟨_, Yd.pure, by omega, fun h => by unfold sdStr; omega⟩
theorem laws_szGateField_y {x0 : GateField} (hx : GateField.ok x0) {n : Int} (h0 : 0 ≤ n) (hn : n ≤ 1048576) : SzY (fun k => laws_szGateField k x0 n) n (GateField.sd x0) := by
  unfold laws_szGateField
  exact SzY.str h0 hn hx.1 fun a0 b0 s0 => SzY.call (laws_szStringS_y hx.2.2.2.2.1 a0 b0) a0 b0 fun v1 a1 b1 _ s1 => SzY.str a1 b1 hx.2.2.2.2.2.1 fun a2 b2 s2 => SzY.str a2 b2 hx.2.2.2.2.2.2.2.2.2.1 fun a3 b3 s3 => SzY.str a3 b3 hx.2.2.2.2.2.2.2.2.2.2 fun a4 b4 s4 => SzY.done ⟨s0, trivial, trivial, trivial, s1, s2, trivial, trivial, trivial, s3, s4⟩
theorem laws_szGateFieldS_y {x0 : List GateField} (hx : okS GateField.ok x0) {n : Int} (h0 : 0 ≤ n) (hn : n ≤ 1048576) : SzY (fun k => laws_szGateFieldS k x0 n) n ((sdS GateField.sd) x0) := by
  unfold laws_szGateFieldS
  exact szS_y (d := (default : GateField)) (p := GateField.sd) (F := fun k y v => laws_szGateField k y v) (l := fun k v i => iter (ts := laws_szGateFieldS_L5_ts) (R := Int) k (laws_szGateFieldS_L5 fun v => some v) x0 v i) hx.1 hn h0 (fun _ _ _ => rfl) (fun y hy n h0 hn => laws_szGateField_y (hx.2 y hy) h0 hn)
theorem laws_szGateShape_y {x0 : GateShape} (hx : GateShape.ok x0) {n : Int} (h0 : 0 ≤ n) (hn : n ≤ 1048576) : SzY (fun k => laws_szGateShape k x0 n) n (GateShape.sd x0) := by
  unfold laws_szGateShape
  exact SzY.str h0 hn hx.1 fun a0 b0 s0 => SzY.call (laws_szGateFieldS_y hx.2 a0 b0) a0 b0 fun v1 a1 b1 _ s1 => SzY.done ⟨s0, s1⟩
theorem laws_szGateShapeS_y {x0 : List GateShape} (hx : okS GateShape.ok x0) {n : Int} (h0 : 0 ≤ n) (hn : n ≤ 1048576) : SzY (fun k => laws_szGateShapeS k x0 n) n ((sdS GateShape.sd) x0) := by
  unfold laws_szGateShapeS
  exact szS_y (d := (default : GateShape)) (p := GateShape.sd) (F := fun k y v => laws_szGateShape k y v) (l := fun k v i => iter (ts := laws_szGateShapeS_L5_ts) (R := Int) k (laws_szGateShapeS_L5 fun v => some v) x0 v i) hx.1 hn h0 (fun _ _ _ => rfl) (fun y hy n h0 hn => laws_szGateShape_y (hx.2 y hy) h0 hn)
theorem laws_szGateObject_y {x0 : GateObject} (hx : GateObject.ok x0) {n : Int} (h0 : 0 ≤ n) (hn : n ≤ 1048576) : SzY (fun k => laws_szGateObject k x0 n) n (GateObject.sd x0) := by
  unfold laws_szGateObject
  exact SzY.str h0 hn hx.1 fun a0 b0 s0 => SzY.str a0 b0 hx.2.1 fun a1 b1 s1 => SzY.str a1 b1 hx.2.2.1 fun a2 b2 s2 => SzY.call (laws_szStringS_y hx.2.2.2.1 a2 b2) a2 b2 fun v3 a3 b3 _ s3 => SzY.call (laws_szStringS_y hx.2.2.2.2.2.1 a3 b3) a3 b3 fun v4 a4 b4 _ s4 => SzY.done ⟨s0, s1, s2, s3, trivial, s4, trivial⟩
theorem laws_toStringS_y {x0 : List (List UInt8)} (hx : sdS sdStr x0) : Yd (fun k => laws_toStringS k x0) x0 := by
  unfold laws_toStringS
  exact toS_y (d := ([] : List UInt8)) (F := fun _ y => some y) (l := fun k i o => iter (ts := laws_toStringS_L3_ts) (R := List (List UInt8)) k (laws_toStringS_L3 fun v => some v) x0 i o) (b := 16) hx.1 (by omega) (fun _ _ _ => rfl) (fun y _ => Yd.pure)
theorem laws_toGateField_y {x0 : GateField} (hx : GateField.sd x0) : Yd (fun k => laws_toGateField k x0) x0 := by
  unfold laws_toGateField
  exact Yd.bind (laws_toStringS_y hx.2.2.2.2.1) (Yd.pure)
theorem laws_toGateFieldS_y {x0 : List GateField} (hx : sdS GateField.sd x0) : Yd (fun k => laws_toGateFieldS k x0) x0 := by
  unfold laws_toGateFieldS
  exact toS_y (d := (default : GateField)) (F := fun k y => laws_toGateField k y) (l := fun k i o => iter (ts := laws_toGateFieldS_L3_ts) (R := List GateField) k (laws_toGateFieldS_L3 fun v => some v) x0 i o) (b := 128) hx.1 (by omega) (fun _ _ _ => rfl) (fun y hy => laws_toGateField_y (hx.2 y hy))
theorem laws_toGateShape_y {x0 : GateShape} (hx : GateShape.sd x0) : Yd (fun k => laws_toGateShape k x0) x0 := by
  unfold laws_toGateShape
  exact Yd.bind (laws_toGateFieldS_y hx.2) (Yd.pure)
theorem laws_toGateShapeS_y {x0 : List GateShape} (hx : sdS GateShape.sd x0) : Yd (fun k => laws_toGateShapeS k x0) x0 := by
  unfold laws_toGateShapeS
  exact toS_y (d := (default : GateShape)) (F := fun k y => laws_toGateShape k y) (l := fun k i o => iter (ts := laws_toGateShapeS_L3_ts) (R := List GateShape) k (laws_toGateShapeS_L3 fun v => some v) x0 i o) (b := 40) hx.1 (by omega) (fun _ _ _ => rfl) (fun y hy => laws_toGateShape_y (hx.2 y hy))
theorem laws_toGateObject_y {x0 : GateObject} (hx : GateObject.sd x0) : Yd (fun k => laws_toGateObject k x0) x0 := by
  unfold laws_toGateObject
  exact Yd.bind (laws_toStringS_y hx.2.2.2.1) (Yd.bind (laws_toStringS_y hx.2.2.2.2.2.1) (Yd.pure))
theorem laws_eqStringS_y {x0 : List (List UInt8)} (hx : okS okStr x0) : Yd (fun k => laws_eqStringS k x0 x0) true := by
  unfold laws_eqStringS
  exact eqS_y (d := ([] : List UInt8)) (F := fun _ a b => some (seq a b)) (l := fun k i => iter (ts := laws_eqStringS_L4_ts) (R := Bool) k (laws_eqStringS_L4 (some true)) x0 x0 i) hx.1 (fun _ _ => rfl) (fun y _ => Yd.of fun _ => by rw [seq_self])
theorem laws_eqGateField_y {x0 : GateField} (hx : GateField.ok x0) : Yd (fun k => laws_eqGateField k x0 x0) true := by
  unfold laws_eqGateField
  exact Yd.cn (by simp [seq, ieq, Abs.beq]) (Yd.cn (by simp [seq, ieq, Abs.beq]) (Yd.cn (by simp [seq, ieq, Abs.beq]) (Yd.cn (by simp [seq, ieq, Abs.beq]) (Yd.bind (laws_eqStringS_y hx.2.2.2.2.1) (Yd.cn (by simp) (Yd.cn (by simp [seq, ieq, Abs.beq]) (Yd.cn (by simp [seq, ieq, Abs.beq]) (Yd.cn (by simp [seq, ieq, Abs.beq]) (Yd.cn (by simp [seq, ieq, Abs.beq]) (Yd.cn (by simp [seq, ieq, Abs.beq]) (Yd.cn (by simp [seq, ieq, Abs.beq]) (Yd.pure))))))))))))
theorem laws_eqGateFieldS_y {x0 : List GateField} (hx : okS GateField.ok x0) : Yd (fun k => laws_eqGateFieldS k x0 x0) true := by
  unfold laws_eqGateFieldS
  exact eqS_y (d := (default : GateField)) (F := fun k a b => laws_eqGateField k a b) (l := fun k i => iter (ts := laws_eqGateFieldS_L4_ts) (R := Bool) k (laws_eqGateFieldS_L4 (some true)) x0 x0 i) hx.1 (fun _ _ => rfl) (fun y hy => laws_eqGateField_y (hx.2 y hy))
theorem laws_eqGateShape_y {x0 : GateShape} (hx : GateShape.ok x0) : Yd (fun k => laws_eqGateShape k x0 x0) true := by
  unfold laws_eqGateShape
  exact Yd.cn (by simp [seq, ieq, Abs.beq]) (Yd.bind (laws_eqGateFieldS_y hx.2) (Yd.cn (by simp) (Yd.pure)))
theorem laws_eqGateShapeS_y {x0 : List GateShape} (hx : okS GateShape.ok x0) : Yd (fun k => laws_eqGateShapeS k x0 x0) true := by
  unfold laws_eqGateShapeS
  exact eqS_y (d := (default : GateShape)) (F := fun k a b => laws_eqGateShape k a b) (l := fun k i => iter (ts := laws_eqGateShapeS_L4_ts) (R := Bool) k (laws_eqGateShapeS_L4 (some true)) x0 x0 i) hx.1 (fun _ _ => rfl) (fun y hy => laws_eqGateShape_y (hx.2 y hy))
theorem laws_eqGateObject_y {x0 : GateObject} (hx : GateObject.ok x0) : Yd (fun k => laws_eqGateObject k x0 x0) true := by
  unfold laws_eqGateObject
  exact Yd.cn (by simp [seq, ieq, Abs.beq]) (Yd.cn (by simp [seq, ieq, Abs.beq]) (Yd.cn (by simp [seq, ieq, Abs.beq]) (Yd.bind (laws_eqStringS_y hx.2.2.2.1) (Yd.cn (by simp) (Yd.cn (by simp [seq, ieq, Abs.beq]) (Yd.bind (laws_eqStringS_y hx.2.2.2.2.2.1) (Yd.cn (by simp) (Yd.cn (by simp [seq, ieq, Abs.beq]) (Yd.pure)))))))))
end Go.Proofs.YtdfdiinbiipacaaDoor.Pu
