/- The laws' own functions on data: what takes a size away, what copies, what compares. No condition. -/
import Derived.Test.YtljfmaaadnoggaaPvA
set_option linter.unusedSimpArgs false
set_option linter.unusedVariables false
namespace Go.Proofs.Ytljfmaaadnoggaa.Pu
open Go Go.RowKit Go.Proofs.Ytljfmaaadnoggaa.Abs Go.Proofs.Ytljfmaaadnoggaa.Fn
def _root_.Go.Proofs.Ytljfmaaadnoggaa.Abs.GateObject.sd (x:GateObject):Prop:=sdStr x.Kind∧sdStr x.Name∧sdStr x.Team∧sdS sdStr x.Values∧sdAny x.Ending∧sdS sdStr x.Holds∧sdAny x.Version
def _root_.Go.Proofs.Ytljfmaaadnoggaa.Abs.GateField.sd (x:GateField):Prop:=sdStr x.Name∧sdAny x.Kind∧sdAny x.Least∧sdAny x.Most∧sdS sdStr x.Words∧sdStr x.To∧sdAny x.Role∧sdAny x.Must∧sdAny x.Fixed∧sdStr x.Default∧sdStr x.Weighs
def _root_.Go.Proofs.Ytljfmaaadnoggaa.Abs.GateShape.sd (x:GateShape):Prop:=sdStr x.Kind∧sdS GateField.sd x.Fields
def _root_.Go.Proofs.Ytljfmaaadnoggaa.Abs.GateMend.sd (x:GateMend):Prop:=sdStr x.Kind∧sdStr x.Field∧sdStr x.When∧sdStr x.Is∧sdStr x.Put∧sdStr x.From
def _root_.Go.Proofs.Ytljfmaaadnoggaa.Abs.GateTeam.sd (x:GateTeam):Prop:=sdStr x.Name∧sdStr x.Over
def _root_.Go.Proofs.Ytljfmaaadnoggaa.Abs.GateLaw.sd (x:GateLaw):Prop:=sdS GateShape.sd x.Shapes∧sdS GateMend.sd x.Mends∧sdS GateTeam.sd x.Teams
def _root_.Go.Proofs.Ytljfmaaadnoggaa.Abs.L1Rd.sd (x:L1Rd):Prop:=sdS sdAny x.b∧sdAny x.p
def _root_.Go.Proofs.Ytljfmaaadnoggaa.Abs.GateRule.sd (x:GateRule):Prop:=sdS sdAny x.Verbs∧sdStr x.Kind∧sdStr x.Team∧sdStr x.Prefix
def _root_.Go.Proofs.Ytljfmaaadnoggaa.Abs.GateGrant.sd (x:GateGrant):Prop:=sdAny x.Number∧sdStr x.To∧sdStr x.By∧GateRule.sd x.Rule
def _root_.Go.Proofs.Ytljfmaaadnoggaa.Abs.GateLedger.sd (x:GateLedger):Prop:=sdStr x.Team∧sdStr x.Resource∧sdAny x.Most∧sdAny x.Free
def _root_.Go.Proofs.Ytljfmaaadnoggaa.Abs.GatePurse.sd (x:GatePurse):Prop:=sdStr x.Door∧sdStr x.Team∧sdStr x.Resource∧sdAny x.Amount∧sdAny x.Until
def _root_.Go.Proofs.Ytljfmaaadnoggaa.Abs.GateBook.sd (x:GateBook):Prop:=sdAny x.Now∧sdAny x.Tick∧sdAny x.Given∧sdS GateObject.sd x.Objects∧sdS GateGrant.sd x.Grants∧sdS GateLedger.sd x.Ledgers∧sdS GatePurse.sd x.Purses
def _root_.Go.Proofs.Ytljfmaaadnoggaa.Abs.NumberField.sd (x:NumberField):Prop:=GateField.sd x.GateField
def _root_.Go.Proofs.Ytljfmaaadnoggaa.Abs.Spot.sd (x:Spot):Prop:=sdStr x.kind∧sdStr x.name
def _root_.Go.Proofs.Ytljfmaaadnoggaa.Abs.Pair.sd (x:Pair):Prop:=sdStr x.Key∧sdAny x.Val
def _root_.Go.Proofs.Ytljfmaaadnoggaa.Abs.Dyn.sd (x:Dyn):Prop:=sdAny x.t∧sdAny x.x
theorem laws_szStringS_y {x0:List (List UInt8)} (hx:okS okStr x0) {n:Int} (h0:0≤n) (hn:n≤1048576):SzY (fun k=>laws_szStringS k x0 n) n ((sdS sdStr) x0):=by
 unfold laws_szStringS
 refine szS_y (d:=([]:List UInt8)) (p:=sdStr) (F:=fun k y v=>(some (isub .i64 v (y.length:Int)))) (l:=fun k v i=>iter (ts:=laws_szStringS_L5_ts) (R:=Int) k (laws_szStringS_L5 fun v=>some v) x0 v i) hx.1 hn h0 (fun _ _ _=>rfl) fun y hy n h0 hn=>?_
 have hy':=hx.2 y hy
 unfold okStr at hy'
 have hm:=max_eq
 have e:isub .i64 n (y.length:Int)=n-y.length:=isubn (by omega) (by omega)
 exact ⟨_,Yd.pure,by omega,fun h=>by unfold sdStr;omega⟩
theorem laws_szGateField_y {x0:GateField} (hx:GateField.ok x0) {n:Int} (h0:0≤n) (hn:n≤1048576):SzY (fun k=>laws_szGateField k x0 n) n (GateField.sd x0):=by
 unfold laws_szGateField
 exact SzY.str h0 hn hx.1 fun a0 b0 s0=>SzY.call (laws_szStringS_y hx.2.2.2.2.1 a0 b0) a0 b0 fun v1 a1 b1 _ s1=>SzY.str a1 b1 hx.2.2.2.2.2.1 fun a2 b2 s2=>SzY.str a2 b2 hx.2.2.2.2.2.2.2.2.2.1 fun a3 b3 s3=>SzY.str a3 b3 hx.2.2.2.2.2.2.2.2.2.2 fun a4 b4 s4=>SzY.done ⟨s0,trivial,trivial,trivial,s1,s2,trivial,trivial,trivial,s3,s4⟩
theorem laws_szGateFieldS_y {x0:List GateField} (hx:okS GateField.ok x0) {n:Int} (h0:0≤n) (hn:n≤1048576):SzY (fun k=>laws_szGateFieldS k x0 n) n ((sdS GateField.sd) x0):=by
 unfold laws_szGateFieldS
 exact szS_y (d:=(default:GateField)) (p:=GateField.sd) (F:=fun k y v=>laws_szGateField k y v) (l:=fun k v i=>iter (ts:=laws_szGateFieldS_L5_ts) (R:=Int) k (laws_szGateFieldS_L5 fun v=>some v) x0 v i) hx.1 hn h0 (fun _ _ _=>rfl) (fun y hy n h0 hn=>laws_szGateField_y (hx.2 y hy) h0 hn)
theorem laws_szGateShape_y {x0:GateShape} (hx:GateShape.ok x0) {n:Int} (h0:0≤n) (hn:n≤1048576):SzY (fun k=>laws_szGateShape k x0 n) n (GateShape.sd x0):=by
 unfold laws_szGateShape
 exact SzY.str h0 hn hx.1 fun a0 b0 s0=>SzY.call (laws_szGateFieldS_y hx.2 a0 b0) a0 b0 fun v1 a1 b1 _ s1=>SzY.done ⟨s0,s1⟩
theorem laws_szGateShapeS_y {x0:List GateShape} (hx:okS GateShape.ok x0) {n:Int} (h0:0≤n) (hn:n≤1048576):SzY (fun k=>laws_szGateShapeS k x0 n) n ((sdS GateShape.sd) x0):=by
 unfold laws_szGateShapeS
 exact szS_y (d:=(default:GateShape)) (p:=GateShape.sd) (F:=fun k y v=>laws_szGateShape k y v) (l:=fun k v i=>iter (ts:=laws_szGateShapeS_L5_ts) (R:=Int) k (laws_szGateShapeS_L5 fun v=>some v) x0 v i) hx.1 hn h0 (fun _ _ _=>rfl) (fun y hy n h0 hn=>laws_szGateShape_y (hx.2 y hy) h0 hn)
theorem laws_szGateObject_y {x0:GateObject} (hx:GateObject.ok x0) {n:Int} (h0:0≤n) (hn:n≤1048576):SzY (fun k=>laws_szGateObject k x0 n) n (GateObject.sd x0):=by
 unfold laws_szGateObject
 exact SzY.str h0 hn hx.1 fun a0 b0 s0=>SzY.str a0 b0 hx.2.1 fun a1 b1 s1=>SzY.str a1 b1 hx.2.2.1 fun a2 b2 s2=>SzY.call (laws_szStringS_y hx.2.2.2.1 a2 b2) a2 b2 fun v3 a3 b3 _ s3=>SzY.call (laws_szStringS_y hx.2.2.2.2.2.1 a3 b3) a3 b3 fun v4 a4 b4 _ s4=>SzY.done ⟨s0,s1,s2,s3,trivial,s4,trivial⟩
theorem laws_toStringS_y {x0:List (List UInt8)} (hx:sdS sdStr x0):Yd (fun k=>laws_toStringS k x0) x0:=by
 unfold laws_toStringS
 exact toS_y (d:=([]:List UInt8)) (F:=fun _ y=>some y) (l:=fun k i o=>iter (ts:=laws_toStringS_L3_ts) (R:=List (List UInt8)) k (laws_toStringS_L3 fun v=>some v) x0 i o) (b:=16) hx.1 (by omega) (fun _ _ _=>rfl) (fun y _=>Yd.pure)
theorem laws_toGateField_y {x0:GateField} (hx:GateField.sd x0):Yd (fun k=>laws_toGateField k x0) x0:=by
 unfold laws_toGateField
 exact Yd.bind (laws_toStringS_y hx.2.2.2.2.1) (Yd.pure)
theorem laws_toGateFieldS_y {x0:List GateField} (hx:sdS GateField.sd x0):Yd (fun k=>laws_toGateFieldS k x0) x0:=by
 unfold laws_toGateFieldS
 exact toS_y (d:=(default:GateField)) (F:=fun k y=>laws_toGateField k y) (l:=fun k i o=>iter (ts:=laws_toGateFieldS_L3_ts) (R:=List GateField) k (laws_toGateFieldS_L3 fun v=>some v) x0 i o) (b:=128) hx.1 (by omega) (fun _ _ _=>rfl) (fun y hy=>laws_toGateField_y (hx.2 y hy))
theorem laws_toGateShape_y {x0:GateShape} (hx:GateShape.sd x0):Yd (fun k=>laws_toGateShape k x0) x0:=by
 unfold laws_toGateShape
 exact Yd.bind (laws_toGateFieldS_y hx.2) (Yd.pure)
theorem laws_toGateShapeS_y {x0:List GateShape} (hx:sdS GateShape.sd x0):Yd (fun k=>laws_toGateShapeS k x0) x0:=by
 unfold laws_toGateShapeS
 exact toS_y (d:=(default:GateShape)) (F:=fun k y=>laws_toGateShape k y) (l:=fun k i o=>iter (ts:=laws_toGateShapeS_L3_ts) (R:=List GateShape) k (laws_toGateShapeS_L3 fun v=>some v) x0 i o) (b:=40) hx.1 (by omega) (fun _ _ _=>rfl) (fun y hy=>laws_toGateShape_y (hx.2 y hy))
theorem laws_toGateObject_y {x0:GateObject} (hx:GateObject.sd x0):Yd (fun k=>laws_toGateObject k x0) x0:=by
 unfold laws_toGateObject
 exact Yd.bind (laws_toStringS_y hx.2.2.2.1) (Yd.bind (laws_toStringS_y hx.2.2.2.2.2.1) (Yd.pure))
theorem laws_eqStringS_y {x0:List (List UInt8)} (hx:okS okStr x0):Yd (fun k=>laws_eqStringS k x0 x0) true:=by
 unfold laws_eqStringS
 exact eqS_y (d:=([]:List UInt8)) (F:=fun _ a b=>some (seq a b)) (l:=fun k i=>iter (ts:=laws_eqStringS_L4_ts) (R:=Bool) k (laws_eqStringS_L4 (some true)) x0 x0 i) hx.1 (fun _ _=>rfl) (fun y _=>Yd.of fun _=>by rw [seq_self])
theorem laws_eqGateObject_y {x0:GateObject} (hx:GateObject.ok x0):Yd (fun k=>laws_eqGateObject k x0 x0) true:=by
 unfold laws_eqGateObject
 exact Yd.cn (by simp [seq,ieq,Abs.beq]) (Yd.cn (by simp [seq,ieq,Abs.beq]) (Yd.cn (by simp [seq,ieq,Abs.beq]) (Yd.bind (laws_eqStringS_y hx.2.2.2.1) (Yd.cn (by simp) (Yd.cn (by simp [seq,ieq,Abs.beq]) (Yd.bind (laws_eqStringS_y hx.2.2.2.2.2.1) (Yd.cn (by simp) (Yd.cn (by simp [seq,ieq,Abs.beq]) (Yd.pure)))))))))
theorem laws_eqGateField_y {x0:GateField} (hx:GateField.ok x0):Yd (fun k=>laws_eqGateField k x0 x0) true:=by
 unfold laws_eqGateField
 exact Yd.cn (by simp [seq,ieq,Abs.beq]) (Yd.cn (by simp [seq,ieq,Abs.beq]) (Yd.cn (by simp [seq,ieq,Abs.beq]) (Yd.cn (by simp [seq,ieq,Abs.beq]) (Yd.bind (laws_eqStringS_y hx.2.2.2.2.1) (Yd.cn (by simp) (Yd.cn (by simp [seq,ieq,Abs.beq]) (Yd.cn (by simp [seq,ieq,Abs.beq]) (Yd.cn (by simp [seq,ieq,Abs.beq]) (Yd.cn (by simp [seq,ieq,Abs.beq]) (Yd.cn (by simp [seq,ieq,Abs.beq]) (Yd.cn (by simp [seq,ieq,Abs.beq]) (Yd.pure))))))))))))
theorem laws_eqGateFieldS_y {x0:List GateField} (hx:okS GateField.ok x0):Yd (fun k=>laws_eqGateFieldS k x0 x0) true:=by
 unfold laws_eqGateFieldS
 exact eqS_y (d:=(default:GateField)) (F:=fun k a b=>laws_eqGateField k a b) (l:=fun k i=>iter (ts:=laws_eqGateFieldS_L4_ts) (R:=Bool) k (laws_eqGateFieldS_L4 (some true)) x0 x0 i) hx.1 (fun _ _=>rfl) (fun y hy=>laws_eqGateField_y (hx.2 y hy))
theorem laws_eqGateShape_y {x0:GateShape} (hx:GateShape.ok x0):Yd (fun k=>laws_eqGateShape k x0 x0) true:=by
 unfold laws_eqGateShape
 exact Yd.cn (by simp [seq,ieq,Abs.beq]) (Yd.bind (laws_eqGateFieldS_y hx.2) (Yd.cn (by simp) (Yd.pure)))
theorem laws_eqGateShapeS_y {x0:List GateShape} (hx:okS GateShape.ok x0):Yd (fun k=>laws_eqGateShapeS k x0 x0) true:=by
 unfold laws_eqGateShapeS
 exact eqS_y (d:=(default:GateShape)) (F:=fun k a b=>laws_eqGateShape k a b) (l:=fun k i=>iter (ts:=laws_eqGateShapeS_L4_ts) (R:=Bool) k (laws_eqGateShapeS_L4 (some true)) x0 x0 i) hx.1 (fun _ _=>rfl) (fun y hy=>laws_eqGateShape_y (hx.2 y hy))
theorem laws_toStringS_2_y {x0:List (List UInt8)} (hx:sdS sdStr x0):Yd (fun k=>laws_toStringS_2 k x0) x0:=by
 unfold laws_toStringS_2
 exact toS_y (d:=([]:List UInt8)) (F:=fun _ y=>some y) (l:=fun k i o=>iter (ts:=laws_toStringS_2_L3_ts) (R:=List (List UInt8)) k (laws_toStringS_2_L3 fun v=>some v) x0 i o) (b:=16) hx.1 (by omega) (fun _ _ _=>rfl) (fun y _=>Yd.pure)
theorem laws_toGateField_2_y {x0:GateField} (hx:GateField.sd x0):Yd (fun k=>laws_toGateField_2 k x0) (x0.Name,x0.Kind,x0.Least,x0.Most,x0.To,x0.Role,x0.Must,x0.Fixed,x0.Default,x0.Weighs,x0.Words):=by
 unfold laws_toGateField_2
 exact Yd.bind (laws_toStringS_2_y hx.2.2.2.2.1) (Yd.pure)
theorem laws_toGateFieldS_2_y {x0:List GateField} (hx:sdS GateField.sd x0):Yd (fun k=>laws_toGateFieldS_2 k x0) x0:=by
 unfold laws_toGateFieldS_2
 exact toS_y2 (d:=(default:GateField)) (F:=fun k y=>laws_toGateField_2 k y) (g:=fun v21=>(⟨v21.1,v21.2.1,v21.2.2.1,v21.2.2.2.1,v21.2.2.2.2.2.2.2.2.2.2,v21.2.2.2.2.1,v21.2.2.2.2.2.1,v21.2.2.2.2.2.2.1,v21.2.2.2.2.2.2.2.1,v21.2.2.2.2.2.2.2.2.1,v21.2.2.2.2.2.2.2.2.2.1⟩:GateField)) (fun y=>(y.Name,y.Kind,y.Least,y.Most,y.To,y.Role,y.Must,y.Fixed,y.Default,y.Weighs,y.Words)) (l:=fun k i o=>iter (ts:=laws_toGateFieldS_2_L3_ts) (R:=List GateField) k (laws_toGateFieldS_2_L3 fun v=>some v) x0 i o) (b:=128) hx.1 (by omega) (fun _ _ _=>rfl) (fun y hy=>laws_toGateField_2_y (hx.2 y hy)) (fun _=>rfl)
theorem laws_toGateShape_2_y {x0:GateShape} (hx:GateShape.sd x0):Yd (fun k=>laws_toGateShape_2 k x0) (x0.Kind,x0.Fields):=by
 unfold laws_toGateShape_2
 exact Yd.bind (laws_toGateFieldS_2_y hx.2) (Yd.pure)
theorem laws_toGateShapeS_2_y {x0:List GateShape} (hx:sdS GateShape.sd x0):Yd (fun k=>laws_toGateShapeS_2 k x0) x0:=by
 unfold laws_toGateShapeS_2
 exact toS_y2 (d:=(default:GateShape)) (F:=fun k y=>laws_toGateShape_2 k y) (g:=fun v21=>(⟨v21.1,v21.2⟩:GateShape)) (fun y=>(y.Kind,y.Fields)) (l:=fun k i o=>iter (ts:=laws_toGateShapeS_2_L3_ts) (R:=List GateShape) k (laws_toGateShapeS_2_L3 fun v=>some v) x0 i o) (b:=40) hx.1 (by omega) (fun _ _ _=>rfl) (fun y hy=>laws_toGateShape_2_y (hx.2 y hy)) (fun _=>rfl)
theorem laws_toGateObject_2_y {x0:GateObject} (hx:GateObject.sd x0):Yd (fun k=>laws_toGateObject_2 k x0) (x0.Kind,x0.Name,x0.Team,x0.Ending,x0.Version,x0.Values,x0.Holds):=by
 unfold laws_toGateObject_2
 exact Yd.bind (laws_toStringS_2_y hx.2.2.2.1) (Yd.bind (laws_toStringS_2_y hx.2.2.2.2.2.1) (Yd.pure))
theorem laws_szGateMend_y {x0:GateMend} (hx:GateMend.ok x0) {n:Int} (h0:0≤n) (hn:n≤1048576):SzY (fun k=>laws_szGateMend k x0 n) n (GateMend.sd x0):=by
 unfold laws_szGateMend
 exact SzY.str h0 hn hx.1 fun a0 b0 s0=>SzY.str a0 b0 hx.2.1 fun a1 b1 s1=>SzY.str a1 b1 hx.2.2.1 fun a2 b2 s2=>SzY.str a2 b2 hx.2.2.2.1 fun a3 b3 s3=>SzY.str a3 b3 hx.2.2.2.2.1 fun a4 b4 s4=>SzY.str a4 b4 hx.2.2.2.2.2 fun a5 b5 s5=>SzY.done ⟨s0,s1,s2,s3,s4,s5⟩
theorem laws_szGateMendS_y {x0:List GateMend} (hx:okS GateMend.ok x0) {n:Int} (h0:0≤n) (hn:n≤1048576):SzY (fun k=>laws_szGateMendS k x0 n) n ((sdS GateMend.sd) x0):=by
 unfold laws_szGateMendS
 exact szS_y (d:=(default:GateMend)) (p:=GateMend.sd) (F:=fun k y v=>laws_szGateMend k y v) (l:=fun k v i=>iter (ts:=laws_szGateMendS_L5_ts) (R:=Int) k (laws_szGateMendS_L5 fun v=>some v) x0 v i) hx.1 hn h0 (fun _ _ _=>rfl) (fun y hy n h0 hn=>laws_szGateMend_y (hx.2 y hy) h0 hn)
theorem laws_toGateMend_y {x0:GateMend} (_:GateMend.sd x0):Yd (fun k=>laws_toGateMend k x0) x0:=by
 unfold laws_toGateMend
 exact Yd.pure
theorem laws_toGateMendS_y {x0:List GateMend} (hx:sdS GateMend.sd x0):Yd (fun k=>laws_toGateMendS k x0) x0:=by
 unfold laws_toGateMendS
 exact toS_y (d:=(default:GateMend)) (F:=fun k y=>laws_toGateMend k y) (l:=fun k i o=>iter (ts:=laws_toGateMendS_L3_ts) (R:=List GateMend) k (laws_toGateMendS_L3 fun v=>some v) x0 i o) (b:=96) hx.1 (by omega) (fun _ _ _=>rfl) (fun y hy=>laws_toGateMend_y (hx.2 y hy))
theorem laws_eqGateMend_y {x0:GateMend} (_:GateMend.ok x0):Yd (fun k=>laws_eqGateMend k x0 x0) true:=by
 unfold laws_eqGateMend
 exact Yd.cn (by simp [seq,ieq,Abs.beq]) (Yd.cn (by simp [seq,ieq,Abs.beq]) (Yd.cn (by simp [seq,ieq,Abs.beq]) (Yd.cn (by simp [seq,ieq,Abs.beq]) (Yd.cn (by simp [seq,ieq,Abs.beq]) (Yd.cn (by simp [seq,ieq,Abs.beq]) (Yd.pure))))))
theorem laws_eqGateMendS_y {x0:List GateMend} (hx:okS GateMend.ok x0):Yd (fun k=>laws_eqGateMendS k x0 x0) true:=by
 unfold laws_eqGateMendS
 exact eqS_y (d:=(default:GateMend)) (F:=fun k a b=>laws_eqGateMend k a b) (l:=fun k i=>iter (ts:=laws_eqGateMendS_L4_ts) (R:=Bool) k (laws_eqGateMendS_L4 (some true)) x0 x0 i) hx.1 (fun _ _=>rfl) (fun y hy=>laws_eqGateMend_y (hx.2 y hy))
theorem laws_toGateMendS_2_y {x0:List GateMend} (hx:sdS GateMend.sd x0):Yd (fun k=>laws_toGateMendS_2 k x0) x0:=by
 unfold laws_toGateMendS_2
 exact toS_y (d:=(default:GateMend)) (F:=fun k y=>laws_toGateMend k y) (l:=fun k i o=>iter (ts:=laws_toGateMendS_2_L3_ts) (R:=List GateMend) k (laws_toGateMendS_2_L3 fun v=>some v) x0 i o) (b:=96) hx.1 (by omega) (fun _ _ _=>rfl) (fun y hy=>laws_toGateMend_y (hx.2 y hy))
end Go.Proofs.Ytljfmaaadnoggaa.Pu
