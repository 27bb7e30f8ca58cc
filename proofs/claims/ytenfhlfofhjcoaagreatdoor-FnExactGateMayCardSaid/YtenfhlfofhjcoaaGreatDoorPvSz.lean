/- The laws' own functions on data: what takes a size away, what copies, what compares. No condition. -/
import Derived.Test.YtenfhlfofhjcoaaGreatDoorPvA
set_option linter.unusedSimpArgs false
set_option linter.unusedVariables false
namespace Go.Proofs.YtenfhlfofhjcoaaGreatDoor.Pu
open Go Go.RowKit Go.Proofs.YtenfhlfofhjcoaaGreatDoor.Abs Go.Proofs.YtenfhlfofhjcoaaGreatDoor.Fn
def _root_.Go.Proofs.YtenfhlfofhjcoaaGreatDoor.Abs.GateField.sd (x:GateField):Prop:=sdStr x.Name∧sdAny x.Kind∧sdAny x.Least∧sdAny x.Most∧sdS sdStr x.Words∧sdStr x.To∧sdAny x.Role∧sdAny x.Must∧sdAny x.Fixed∧sdStr x.Default∧sdStr x.Weighs
def _root_.Go.Proofs.YtenfhlfofhjcoaaGreatDoor.Abs.GateShape.sd (x:GateShape):Prop:=sdStr x.Kind∧sdS GateField.sd x.Fields
def _root_.Go.Proofs.YtenfhlfofhjcoaaGreatDoor.Abs.GateMend.sd (x:GateMend):Prop:=sdStr x.Kind∧sdStr x.Field∧sdStr x.When∧sdStr x.Is∧sdStr x.Put∧sdStr x.From
def _root_.Go.Proofs.YtenfhlfofhjcoaaGreatDoor.Abs.GateTeam.sd (x:GateTeam):Prop:=sdStr x.Name∧sdStr x.Over
def _root_.Go.Proofs.YtenfhlfofhjcoaaGreatDoor.Abs.GateLaw.sd (x:GateLaw):Prop:=sdS GateShape.sd x.Shapes∧sdS GateMend.sd x.Mends∧sdS GateTeam.sd x.Teams
def _root_.Go.Proofs.YtenfhlfofhjcoaaGreatDoor.Abs.GateObject.sd (x:GateObject):Prop:=sdStr x.Kind∧sdStr x.Name∧sdStr x.Team∧sdS sdStr x.Values∧sdAny x.Ending∧sdS sdStr x.Holds∧sdAny x.Version
def _root_.Go.Proofs.YtenfhlfofhjcoaaGreatDoor.Abs.GateRule.sd (x:GateRule):Prop:=sdS sdAny x.Verbs∧sdStr x.Kind∧sdStr x.Team∧sdStr x.Prefix
def _root_.Go.Proofs.YtenfhlfofhjcoaaGreatDoor.Abs.GateGrant.sd (x:GateGrant):Prop:=sdAny x.Number∧sdStr x.To∧sdStr x.By∧GateRule.sd x.Rule
def _root_.Go.Proofs.YtenfhlfofhjcoaaGreatDoor.Abs.GateLedger.sd (x:GateLedger):Prop:=sdStr x.Team∧sdStr x.Resource∧sdAny x.Most∧sdAny x.Free
def _root_.Go.Proofs.YtenfhlfofhjcoaaGreatDoor.Abs.GatePurse.sd (x:GatePurse):Prop:=sdStr x.Door∧sdStr x.Team∧sdStr x.Resource∧sdAny x.Amount∧sdAny x.Until
def _root_.Go.Proofs.YtenfhlfofhjcoaaGreatDoor.Abs.GateBook.sd (x:GateBook):Prop:=sdAny x.Now∧sdAny x.Tick∧sdAny x.Given∧sdS GateObject.sd x.Objects∧sdS GateGrant.sd x.Grants∧sdS GateLedger.sd x.Ledgers∧sdS GatePurse.sd x.Purses
def _root_.Go.Proofs.YtenfhlfofhjcoaaGreatDoor.Abs.GateAct.sd (x:GateAct):Prop:=sdAny x.Verb∧sdStr x.Kind∧sdStr x.Team∧sdStr x.Name
def _root_.Go.Proofs.YtenfhlfofhjcoaaGreatDoor.Abs.GateAsk.sd (x:GateAsk):Prop:=sdStr x.Who∧sdAny x.Verb∧sdStr x.Kind∧sdStr x.Name∧sdStr x.Team∧sdS sdStr x.Values∧sdS sdStr x.Holds∧sdAny x.Seen∧sdStr x.Hold∧sdStr x.To∧GateRule.sd x.Rule∧sdAny x.Number
def _root_.Go.Proofs.YtenfhlfofhjcoaaGreatDoor.Abs.GateWant.sd (x:GateWant):Prop:=sdStr x.Kind∧sdStr x.Name∧sdAny x.Version
def _root_.Go.Proofs.YtenfhlfofhjcoaaGreatDoor.Abs.GateSlip.sd (x:GateSlip):Prop:=sdStr x.Door∧GateAsk.sd x.Ask∧sdAny x.Given∧sdS GateWant.sd x.Wants
def _root_.Go.Proofs.YtenfhlfofhjcoaaGreatDoor.Abs.GateDoor.sd (x:GateDoor):Prop:=sdStr x.Name∧sdAny x.Up∧GateBook.sd x.View∧sdS GateSlip.sd x.Slips
def _root_.Go.Proofs.YtenfhlfofhjcoaaGreatDoor.Abs.GateWorld.sd (x:GateWorld):Prop:=GateBook.sd x.Book∧sdS GateDoor.sd x.Doors
def _root_.Go.Proofs.YtenfhlfofhjcoaaGreatDoor.Abs.Account.sd (x:Account):Prop:=sdStr x.team∧sdStr x.resource
def _root_.Go.Proofs.YtenfhlfofhjcoaaGreatDoor.Abs.Fault.sd (x:Fault):Prop:=sdAny x.code∧sdAny x.place
def _root_.Go.Proofs.YtenfhlfofhjcoaaGreatDoor.Abs.NumberField.sd (x:NumberField):Prop:=GateField.sd x.GateField
def _root_.Go.Proofs.YtenfhlfofhjcoaaGreatDoor.Abs.Spot.sd (x:Spot):Prop:=sdStr x.kind∧sdStr x.name
def _root_.Go.Proofs.YtenfhlfofhjcoaaGreatDoor.Abs.GateSaid.sd (x:GateSaid):Prop:=sdAny x.Code∧sdAny x.Place∧sdAny x.Version
def _root_.Go.Proofs.YtenfhlfofhjcoaaGreatDoor.Abs.Refusal.sd (x:Refusal):Prop:=GateSaid.sd x.said
def _root_.Go.Proofs.YtenfhlfofhjcoaaGreatDoor.Abs.Pair.sd (x:Pair):Prop:=sdStr x.Key∧sdAny x.Val
def _root_.Go.Proofs.YtenfhlfofhjcoaaGreatDoor.Abs.Pair2.sd (x:Pair2):Prop:=Account.sd x.Key∧sdAny x.Val
def _root_.Go.Proofs.YtenfhlfofhjcoaaGreatDoor.Abs.Dyn.sd (x:Dyn):Prop:=sdAny x.t∧sdAny x.x
theorem laws_szStringS_y {x0:List (List UInt8)} (hx:okS okStr x0) {n:Int} (h0:0≤n) (hn:n≤1048576):SzY (fun k=>laws_szStringS k x0 n) n ((sdS sdStr) x0):=by
 unfold laws_szStringS
 refine szS_y (d:=([]:List UInt8)) (p:=sdStr) (F:=fun k y v=>(some (isub .i64 v (y.length:Int)))) (l:=fun k v i=>iter (ts:=laws_szStringS_L5_ts) (R:=Int) k (laws_szStringS_L5 fun v=>some v) x0 v i) hx.1 hn h0 (fun _ _ _=>rfl) fun y hy n h0 hn=>?_
 have hy':=hx.2 y hy
 unfold okStr at hy'
 have hm:=max_eq
 have e:isub .i64 n (y.length:Int)=n-y.length:=isubn (by omega) (by omega)
 exact ⟨_,Yd.pure,by omega,fun h=>by unfold sdStr;omega⟩
theorem laws_szGateField_y {x0:GateField} (hx:GateField.ok x0) {n:Int} (h0:0≤n) (hn:n≤1048576):SzY (fun k=>laws_szGateField k x0 n) n (GateField.sd x0):=by
 unfold laws_szGateField
 exact SzY.str h0 hn hx.1 fun a0 b0 s0=>SzY.call (laws_szStringS_y hx.2.2.2.2.1 a0 b0) a0 b0 fun v1 a1 b1 _ s1=>SzY.str a1 b1 hx.2.2.2.2.2.1 fun a2 b2 s2=>SzY.str a2 b2 hx.2.2.2.2.2.2.2.2.2.1 fun a3 b3 s3=>SzY.str a3 b3 hx.2.2.2.2.2.2.2.2.2.2 fun a4 b4 s4=>SzY.done ⟨s0,trivial,trivial,trivial,s1,s2,trivial,trivial,trivial,s3,s4⟩
theorem laws_szGateFieldS_y {x0:List GateField} (hx:okS GateField.ok x0) {n:Int} (h0:0≤n) (hn:n≤1048576):SzY (fun k=>laws_szGateFieldS k x0 n) n ((sdS GateField.sd) x0):=by
 unfold laws_szGateFieldS
 exact szS_y (d:=(default:GateField)) (p:=GateField.sd) (F:=fun k y v=>laws_szGateField k y v) (l:=fun k v i=>iter (ts:=laws_szGateFieldS_L5_ts) (R:=Int) k (laws_szGateFieldS_L5 fun v=>some v) x0 v i) hx.1 hn h0 (fun _ _ _=>rfl) (fun y hy n h0 hn=>laws_szGateField_y (hx.2 y hy) h0 hn)
theorem laws_szGateShape_y {x0:GateShape} (hx:GateShape.ok x0) {n:Int} (h0:0≤n) (hn:n≤1048576):SzY (fun k=>laws_szGateShape k x0 n) n (GateShape.sd x0):=by
 unfold laws_szGateShape
 exact SzY.str h0 hn hx.1 fun a0 b0 s0=>SzY.call (laws_szGateFieldS_y hx.2 a0 b0) a0 b0 fun v1 a1 b1 _ s1=>SzY.done ⟨s0,s1⟩
theorem laws_szGateShapeS_y {x0:List GateShape} (hx:okS GateShape.ok x0) {n:Int} (h0:0≤n) (hn:n≤1048576):SzY (fun k=>laws_szGateShapeS k x0 n) n ((sdS GateShape.sd) x0):=by
 unfold laws_szGateShapeS
 exact szS_y (d:=(default:GateShape)) (p:=GateShape.sd) (F:=fun k y v=>laws_szGateShape k y v) (l:=fun k v i=>iter (ts:=laws_szGateShapeS_L5_ts) (R:=Int) k (laws_szGateShapeS_L5 fun v=>some v) x0 v i) hx.1 hn h0 (fun _ _ _=>rfl) (fun y hy n h0 hn=>laws_szGateShape_y (hx.2 y hy) h0 hn)
theorem laws_szGateMend_y {x0:GateMend} (hx:GateMend.ok x0) {n:Int} (h0:0≤n) (hn:n≤1048576):SzY (fun k=>laws_szGateMend k x0 n) n (GateMend.sd x0):=by
 unfold laws_szGateMend
 exact SzY.str h0 hn hx.1 fun a0 b0 s0=>SzY.str a0 b0 hx.2.1 fun a1 b1 s1=>SzY.str a1 b1 hx.2.2.1 fun a2 b2 s2=>SzY.str a2 b2 hx.2.2.2.1 fun a3 b3 s3=>SzY.str a3 b3 hx.2.2.2.2.1 fun a4 b4 s4=>SzY.str a4 b4 hx.2.2.2.2.2 fun a5 b5 s5=>SzY.done ⟨s0,s1,s2,s3,s4,s5⟩
theorem laws_szGateMendS_y {x0:List GateMend} (hx:okS GateMend.ok x0) {n:Int} (h0:0≤n) (hn:n≤1048576):SzY (fun k=>laws_szGateMendS k x0 n) n ((sdS GateMend.sd) x0):=by
 unfold laws_szGateMendS
 exact szS_y (d:=(default:GateMend)) (p:=GateMend.sd) (F:=fun k y v=>laws_szGateMend k y v) (l:=fun k v i=>iter (ts:=laws_szGateMendS_L5_ts) (R:=Int) k (laws_szGateMendS_L5 fun v=>some v) x0 v i) hx.1 hn h0 (fun _ _ _=>rfl) (fun y hy n h0 hn=>laws_szGateMend_y (hx.2 y hy) h0 hn)
theorem laws_szGateTeam_y {x0:GateTeam} (hx:GateTeam.ok x0) {n:Int} (h0:0≤n) (hn:n≤1048576):SzY (fun k=>laws_szGateTeam k x0 n) n (GateTeam.sd x0):=by
 unfold laws_szGateTeam
 exact SzY.str h0 hn hx.1 fun a0 b0 s0=>SzY.str a0 b0 hx.2 fun a1 b1 s1=>SzY.done ⟨s0,s1⟩
theorem laws_szGateTeamS_y {x0:List GateTeam} (hx:okS GateTeam.ok x0) {n:Int} (h0:0≤n) (hn:n≤1048576):SzY (fun k=>laws_szGateTeamS k x0 n) n ((sdS GateTeam.sd) x0):=by
 unfold laws_szGateTeamS
 exact szS_y (d:=(default:GateTeam)) (p:=GateTeam.sd) (F:=fun k y v=>laws_szGateTeam k y v) (l:=fun k v i=>iter (ts:=laws_szGateTeamS_L5_ts) (R:=Int) k (laws_szGateTeamS_L5 fun v=>some v) x0 v i) hx.1 hn h0 (fun _ _ _=>rfl) (fun y hy n h0 hn=>laws_szGateTeam_y (hx.2 y hy) h0 hn)
theorem laws_szGateLaw_y {x0:GateLaw} (hx:GateLaw.ok x0) {n:Int} (h0:0≤n) (hn:n≤1048576):SzY (fun k=>laws_szGateLaw k x0 n) n (GateLaw.sd x0):=by
 unfold laws_szGateLaw
 exact SzY.call (laws_szGateShapeS_y hx.1 h0 hn) h0 hn fun v0 a0 b0 _ s0=>SzY.call (laws_szGateMendS_y hx.2.1 a0 b0) a0 b0 fun v1 a1 b1 _ s1=>SzY.call (laws_szGateTeamS_y hx.2.2 a1 b1) a1 b1 fun v2 a2 b2 _ s2=>SzY.done ⟨s0,s1,s2⟩
theorem laws_szGateObject_y {x0:GateObject} (hx:GateObject.ok x0) {n:Int} (h0:0≤n) (hn:n≤1048576):SzY (fun k=>laws_szGateObject k x0 n) n (GateObject.sd x0):=by
 unfold laws_szGateObject
 exact SzY.str h0 hn hx.1 fun a0 b0 s0=>SzY.str a0 b0 hx.2.1 fun a1 b1 s1=>SzY.str a1 b1 hx.2.2.1 fun a2 b2 s2=>SzY.call (laws_szStringS_y hx.2.2.2.1 a2 b2) a2 b2 fun v3 a3 b3 _ s3=>SzY.call (laws_szStringS_y hx.2.2.2.2.2.1 a3 b3) a3 b3 fun v4 a4 b4 _ s4=>SzY.done ⟨s0,s1,s2,s3,trivial,s4,trivial⟩
theorem laws_szGateObjectS_y {x0:List GateObject} (hx:okS GateObject.ok x0) {n:Int} (h0:0≤n) (hn:n≤1048576):SzY (fun k=>laws_szGateObjectS k x0 n) n ((sdS GateObject.sd) x0):=by
 unfold laws_szGateObjectS
 exact szS_y (d:=(default:GateObject)) (p:=GateObject.sd) (F:=fun k y v=>laws_szGateObject k y v) (l:=fun k v i=>iter (ts:=laws_szGateObjectS_L5_ts) (R:=Int) k (laws_szGateObjectS_L5 fun v=>some v) x0 v i) hx.1 hn h0 (fun _ _ _=>rfl) (fun y hy n h0 hn=>laws_szGateObject_y (hx.2 y hy) h0 hn)
theorem laws_szIntS_y {x0:List Int} (hx:okS (okInt .i64) x0) {n:Int} (h0:0≤n) (hn:n≤1048576):SzY (fun k=>laws_szIntS k x0 n) n ((sdS sdAny) x0):=by
 unfold laws_szIntS
 exact SzY.str h0 hn hx.1 fun _ _ a=>SzY.done ⟨a,fun _ _=>trivial⟩
theorem laws_szGateRule_y {x0:GateRule} (hx:GateRule.ok x0) {n:Int} (h0:0≤n) (hn:n≤1048576):SzY (fun k=>laws_szGateRule k x0 n) n (GateRule.sd x0):=by
 unfold laws_szGateRule
 exact SzY.call (laws_szIntS_y hx.1 h0 hn) h0 hn fun v0 a0 b0 _ s0=>SzY.str a0 b0 hx.2.1 fun a1 b1 s1=>SzY.str a1 b1 hx.2.2.1 fun a2 b2 s2=>SzY.str a2 b2 hx.2.2.2 fun a3 b3 s3=>SzY.done ⟨s0,s1,s2,s3⟩
theorem laws_szGateGrant_y {x0:GateGrant} (hx:GateGrant.ok x0) {n:Int} (h0:0≤n) (hn:n≤1048576):SzY (fun k=>laws_szGateGrant k x0 n) n (GateGrant.sd x0):=by
 unfold laws_szGateGrant
 exact SzY.str h0 hn hx.2.1 fun a0 b0 s0=>SzY.str a0 b0 hx.2.2.1 fun a1 b1 s1=>SzY.call (laws_szGateRule_y hx.2.2.2 a1 b1) a1 b1 fun v2 a2 b2 _ s2=>SzY.done ⟨trivial,s0,s1,s2⟩
theorem laws_szGateGrantS_y {x0:List GateGrant} (hx:okS GateGrant.ok x0) {n:Int} (h0:0≤n) (hn:n≤1048576):SzY (fun k=>laws_szGateGrantS k x0 n) n ((sdS GateGrant.sd) x0):=by
 unfold laws_szGateGrantS
 exact szS_y (d:=(default:GateGrant)) (p:=GateGrant.sd) (F:=fun k y v=>laws_szGateGrant k y v) (l:=fun k v i=>iter (ts:=laws_szGateGrantS_L5_ts) (R:=Int) k (laws_szGateGrantS_L5 fun v=>some v) x0 v i) hx.1 hn h0 (fun _ _ _=>rfl) (fun y hy n h0 hn=>laws_szGateGrant_y (hx.2 y hy) h0 hn)
theorem laws_szGateLedger_y {x0:GateLedger} (hx:GateLedger.ok x0) {n:Int} (h0:0≤n) (hn:n≤1048576):SzY (fun k=>laws_szGateLedger k x0 n) n (GateLedger.sd x0):=by
 unfold laws_szGateLedger
 exact SzY.str h0 hn hx.1 fun a0 b0 s0=>SzY.str a0 b0 hx.2.1 fun a1 b1 s1=>SzY.done ⟨s0,s1,trivial,trivial⟩
theorem laws_szGateLedgerS_y {x0:List GateLedger} (hx:okS GateLedger.ok x0) {n:Int} (h0:0≤n) (hn:n≤1048576):SzY (fun k=>laws_szGateLedgerS k x0 n) n ((sdS GateLedger.sd) x0):=by
 unfold laws_szGateLedgerS
 exact szS_y (d:=(default:GateLedger)) (p:=GateLedger.sd) (F:=fun k y v=>laws_szGateLedger k y v) (l:=fun k v i=>iter (ts:=laws_szGateLedgerS_L5_ts) (R:=Int) k (laws_szGateLedgerS_L5 fun v=>some v) x0 v i) hx.1 hn h0 (fun _ _ _=>rfl) (fun y hy n h0 hn=>laws_szGateLedger_y (hx.2 y hy) h0 hn)
theorem laws_szGatePurse_y {x0:GatePurse} (hx:GatePurse.ok x0) {n:Int} (h0:0≤n) (hn:n≤1048576):SzY (fun k=>laws_szGatePurse k x0 n) n (GatePurse.sd x0):=by
 unfold laws_szGatePurse
 exact SzY.str h0 hn hx.1 fun a0 b0 s0=>SzY.str a0 b0 hx.2.1 fun a1 b1 s1=>SzY.str a1 b1 hx.2.2.1 fun a2 b2 s2=>SzY.done ⟨s0,s1,s2,trivial,trivial⟩
theorem laws_szGatePurseS_y {x0:List GatePurse} (hx:okS GatePurse.ok x0) {n:Int} (h0:0≤n) (hn:n≤1048576):SzY (fun k=>laws_szGatePurseS k x0 n) n ((sdS GatePurse.sd) x0):=by
 unfold laws_szGatePurseS
 exact szS_y (d:=(default:GatePurse)) (p:=GatePurse.sd) (F:=fun k y v=>laws_szGatePurse k y v) (l:=fun k v i=>iter (ts:=laws_szGatePurseS_L5_ts) (R:=Int) k (laws_szGatePurseS_L5 fun v=>some v) x0 v i) hx.1 hn h0 (fun _ _ _=>rfl) (fun y hy n h0 hn=>laws_szGatePurse_y (hx.2 y hy) h0 hn)
theorem laws_szGateBook_y {x0:GateBook} (hx:GateBook.ok x0) {n:Int} (h0:0≤n) (hn:n≤1048576):SzY (fun k=>laws_szGateBook k x0 n) n (GateBook.sd x0):=by
 unfold laws_szGateBook
 exact SzY.call (laws_szGateObjectS_y hx.2.2.2.1 h0 hn) h0 hn fun v0 a0 b0 _ s0=>SzY.call (laws_szGateGrantS_y hx.2.2.2.2.1 a0 b0) a0 b0 fun v1 a1 b1 _ s1=>SzY.call (laws_szGateLedgerS_y hx.2.2.2.2.2.1 a1 b1) a1 b1 fun v2 a2 b2 _ s2=>SzY.call (laws_szGatePurseS_y hx.2.2.2.2.2.2 a2 b2) a2 b2 fun v3 a3 b3 _ s3=>SzY.done ⟨trivial,trivial,trivial,s0,s1,s2,s3⟩
theorem laws_szGateAct_y {x0:GateAct} (hx:GateAct.ok x0) {n:Int} (h0:0≤n) (hn:n≤1048576):SzY (fun k=>laws_szGateAct k x0 n) n (GateAct.sd x0):=by
 unfold laws_szGateAct
 exact SzY.str h0 hn hx.2.1 fun a0 b0 s0=>SzY.str a0 b0 hx.2.2.1 fun a1 b1 s1=>SzY.str a1 b1 hx.2.2.2 fun a2 b2 s2=>SzY.done ⟨trivial,s0,s1,s2⟩
theorem laws_toStringS_y {x0:List (List UInt8)} (hx:sdS sdStr x0):Yd (fun k=>laws_toStringS k x0) x0:=by
 unfold laws_toStringS
 exact toS_y (d:=([]:List UInt8)) (F:=fun _ y=>some y) (l:=fun k i o=>iter (ts:=laws_toStringS_L3_ts) (R:=List (List UInt8)) k (laws_toStringS_L3 fun v=>some v) x0 i o) (b:=16) hx.1 (by omega) (fun _ _ _=>rfl) (fun y _=>Yd.pure)
theorem laws_toGateField_y {x0:GateField} (hx:GateField.sd x0):Yd (fun k=>laws_toGateField k x0) x0:=by
 unfold laws_toGateField
 exact Yd.bind (laws_toStringS_y hx.2.2.2.2.1) (Yd.pure)
theorem laws_toGateFieldS_y {x0:List GateField} (hx:sdS GateField.sd x0):Yd (fun k=>laws_toGateFieldS k x0) x0:=by
 unfold laws_toGateFieldS
 exact toS_y (d:=(default:GateField)) (F:=fun k y=>laws_toGateField k y) (l:=fun k i o=>iter (ts:=laws_toGateFieldS_L3_ts) (R:=List GateField) k (laws_toGateFieldS_L3 fun v=>some v) x0 i o) (b:=128) hx.1 (by omega) (fun _ _ _=>rfl) (fun y hy=>laws_toGateField_y (hx.2 y hy))
theorem laws_toGateShape_y {x0:GateShape} (hx:GateShape.sd x0):Yd (fun k=>laws_toGateShape k x0) x0:=by
 unfold laws_toGateShape
 exact Yd.bind (laws_toGateFieldS_y hx.2) (Yd.pure)
theorem laws_toGateShapeS_y {x0:List GateShape} (hx:sdS GateShape.sd x0):Yd (fun k=>laws_toGateShapeS k x0) x0:=by
 unfold laws_toGateShapeS
 exact toS_y (d:=(default:GateShape)) (F:=fun k y=>laws_toGateShape k y) (l:=fun k i o=>iter (ts:=laws_toGateShapeS_L3_ts) (R:=List GateShape) k (laws_toGateShapeS_L3 fun v=>some v) x0 i o) (b:=40) hx.1 (by omega) (fun _ _ _=>rfl) (fun y hy=>laws_toGateShape_y (hx.2 y hy))
theorem laws_toGateMend_y {x0:GateMend} (_:GateMend.sd x0):Yd (fun k=>laws_toGateMend k x0) x0:=by
 unfold laws_toGateMend
 exact Yd.pure
theorem laws_toGateMendS_y {x0:List GateMend} (hx:sdS GateMend.sd x0):Yd (fun k=>laws_toGateMendS k x0) x0:=by
 unfold laws_toGateMendS
 exact toS_y (d:=(default:GateMend)) (F:=fun k y=>laws_toGateMend k y) (l:=fun k i o=>iter (ts:=laws_toGateMendS_L3_ts) (R:=List GateMend) k (laws_toGateMendS_L3 fun v=>some v) x0 i o) (b:=96) hx.1 (by omega) (fun _ _ _=>rfl) (fun y hy=>laws_toGateMend_y (hx.2 y hy))
theorem laws_toGateTeam_y {x0:GateTeam} (_:GateTeam.sd x0):Yd (fun k=>laws_toGateTeam k x0) x0:=by
 unfold laws_toGateTeam
 exact Yd.pure
theorem laws_toGateTeamS_y {x0:List GateTeam} (hx:sdS GateTeam.sd x0):Yd (fun k=>laws_toGateTeamS k x0) x0:=by
 unfold laws_toGateTeamS
 exact toS_y (d:=(default:GateTeam)) (F:=fun k y=>laws_toGateTeam k y) (l:=fun k i o=>iter (ts:=laws_toGateTeamS_L3_ts) (R:=List GateTeam) k (laws_toGateTeamS_L3 fun v=>some v) x0 i o) (b:=32) hx.1 (by omega) (fun _ _ _=>rfl) (fun y hy=>laws_toGateTeam_y (hx.2 y hy))
theorem laws_toGateLaw_y {x0:GateLaw} (hx:GateLaw.sd x0):Yd (fun k=>laws_toGateLaw k x0) x0:=by
 unfold laws_toGateLaw
 exact Yd.bind (laws_toGateShapeS_y hx.1) (Yd.bind (laws_toGateMendS_y hx.2.1) (Yd.bind (laws_toGateTeamS_y hx.2.2) (Yd.pure)))
theorem laws_toGateObject_y {x0:GateObject} (hx:GateObject.sd x0):Yd (fun k=>laws_toGateObject k x0) x0:=by
 unfold laws_toGateObject
 exact Yd.bind (laws_toStringS_y hx.2.2.2.1) (Yd.bind (laws_toStringS_y hx.2.2.2.2.2.1) (Yd.pure))
theorem laws_toGateObjectS_y {x0:List GateObject} (hx:sdS GateObject.sd x0):Yd (fun k=>laws_toGateObjectS k x0) x0:=by
 unfold laws_toGateObjectS
 exact toS_y (d:=(default:GateObject)) (F:=fun k y=>laws_toGateObject k y) (l:=fun k i o=>iter (ts:=laws_toGateObjectS_L3_ts) (R:=List GateObject) k (laws_toGateObjectS_L3 fun v=>some v) x0 i o) (b:=112) hx.1 (by omega) (fun _ _ _=>rfl) (fun y hy=>laws_toGateObject_y (hx.2 y hy))
theorem laws_toIntS_y {x0:List Int} (hx:sdS sdAny x0):Yd (fun k=>laws_toIntS k x0) x0:=by
 unfold laws_toIntS
 exact toS_y (d:=(0:Int)) (F:=fun _ y=>some y) (l:=fun k i o=>iter (ts:=laws_toIntS_L3_ts) (R:=List Int) k (laws_toIntS_L3 fun v=>some v) x0 i o) (b:=8) hx.1 (by omega) (fun _ _ _=>rfl) (fun y _=>Yd.pure)
theorem laws_toGateRule_y {x0:GateRule} (hx:GateRule.sd x0):Yd (fun k=>laws_toGateRule k x0) x0:=by
 unfold laws_toGateRule
 exact Yd.bind (laws_toIntS_y hx.1) (Yd.pure)
theorem laws_toGateGrant_y {x0:GateGrant} (hx:GateGrant.sd x0):Yd (fun k=>laws_toGateGrant k x0) x0:=by
 unfold laws_toGateGrant
 exact Yd.bind (laws_toGateRule_y hx.2.2.2) (Yd.pure)
theorem laws_toGateGrantS_y {x0:List GateGrant} (hx:sdS GateGrant.sd x0):Yd (fun k=>laws_toGateGrantS k x0) x0:=by
 unfold laws_toGateGrantS
 exact toS_y (d:=(default:GateGrant)) (F:=fun k y=>laws_toGateGrant k y) (l:=fun k i o=>iter (ts:=laws_toGateGrantS_L3_ts) (R:=List GateGrant) k (laws_toGateGrantS_L3 fun v=>some v) x0 i o) (b:=112) hx.1 (by omega) (fun _ _ _=>rfl) (fun y hy=>laws_toGateGrant_y (hx.2 y hy))
theorem laws_toGateLedger_y {x0:GateLedger} (_:GateLedger.sd x0):Yd (fun k=>laws_toGateLedger k x0) x0:=by
 unfold laws_toGateLedger
 exact Yd.pure
theorem laws_toGateLedgerS_y {x0:List GateLedger} (hx:sdS GateLedger.sd x0):Yd (fun k=>laws_toGateLedgerS k x0) x0:=by
 unfold laws_toGateLedgerS
 exact toS_y (d:=(default:GateLedger)) (F:=fun k y=>laws_toGateLedger k y) (l:=fun k i o=>iter (ts:=laws_toGateLedgerS_L3_ts) (R:=List GateLedger) k (laws_toGateLedgerS_L3 fun v=>some v) x0 i o) (b:=48) hx.1 (by omega) (fun _ _ _=>rfl) (fun y hy=>laws_toGateLedger_y (hx.2 y hy))
theorem laws_toGatePurse_y {x0:GatePurse} (_:GatePurse.sd x0):Yd (fun k=>laws_toGatePurse k x0) x0:=by
 unfold laws_toGatePurse
 exact Yd.pure
theorem laws_toGatePurseS_y {x0:List GatePurse} (hx:sdS GatePurse.sd x0):Yd (fun k=>laws_toGatePurseS k x0) x0:=by
 unfold laws_toGatePurseS
 exact toS_y (d:=(default:GatePurse)) (F:=fun k y=>laws_toGatePurse k y) (l:=fun k i o=>iter (ts:=laws_toGatePurseS_L3_ts) (R:=List GatePurse) k (laws_toGatePurseS_L3 fun v=>some v) x0 i o) (b:=64) hx.1 (by omega) (fun _ _ _=>rfl) (fun y hy=>laws_toGatePurse_y (hx.2 y hy))
theorem laws_toGateBook_y {x0:GateBook} (hx:GateBook.sd x0):Yd (fun k=>laws_toGateBook k x0) x0:=by
 unfold laws_toGateBook
 exact Yd.bind (laws_toGateObjectS_y hx.2.2.2.1) (Yd.bind (laws_toGateGrantS_y hx.2.2.2.2.1) (Yd.bind (laws_toGateLedgerS_y hx.2.2.2.2.2.1) (Yd.bind (laws_toGatePurseS_y hx.2.2.2.2.2.2) (Yd.pure))))
theorem laws_toGateAct_y {x0:GateAct} (_:GateAct.sd x0):Yd (fun k=>laws_toGateAct k x0) x0:=by
 unfold laws_toGateAct
 exact Yd.pure
theorem laws_eqStringS_y {x0:List (List UInt8)} (hx:okS okStr x0):Yd (fun k=>laws_eqStringS k x0 x0) true:=by
 unfold laws_eqStringS
 exact eqS_y (d:=([]:List UInt8)) (F:=fun _ a b=>some (seq a b)) (l:=fun k i=>iter (ts:=laws_eqStringS_L4_ts) (R:=Bool) k (laws_eqStringS_L4 (some true)) x0 x0 i) hx.1 (fun _ _=>rfl) (fun y _=>Yd.of fun _=>by rw [seq_self])
theorem laws_eqGateField_y {x0:GateField} (hx:GateField.ok x0):Yd (fun k=>laws_eqGateField k x0 x0) true:=by
 unfold laws_eqGateField
 exact Yd.cn (by simp [seq,ieq,Abs.beq]) (Yd.cn (by simp [seq,ieq,Abs.beq]) (Yd.cn (by simp [seq,ieq,Abs.beq]) (Yd.cn (by simp [seq,ieq,Abs.beq]) (Yd.bind (laws_eqStringS_y hx.2.2.2.2.1) (Yd.cn (by simp) (Yd.cn (by simp [seq,ieq,Abs.beq]) (Yd.cn (by simp [seq,ieq,Abs.beq]) (Yd.cn (by simp [seq,ieq,Abs.beq]) (Yd.cn (by simp [seq,ieq,Abs.beq]) (Yd.cn (by simp [seq,ieq,Abs.beq]) (Yd.cn (by simp [seq,ieq,Abs.beq]) (Yd.pure))))))))))))
theorem laws_eqGateFieldS_y {x0:List GateField} (hx:okS GateField.ok x0):Yd (fun k=>laws_eqGateFieldS k x0 x0) true:=by
 unfold laws_eqGateFieldS
 exact eqS_y (d:=(default:GateField)) (F:=fun k a b=>laws_eqGateField k a b) (l:=fun k i=>iter (ts:=laws_eqGateFieldS_L4_ts) (R:=Bool) k (laws_eqGateFieldS_L4 (some true)) x0 x0 i) hx.1 (fun _ _=>rfl) (fun y hy=>laws_eqGateField_y (hx.2 y hy))
theorem laws_eqGateShape_y {x0:GateShape} (hx:GateShape.ok x0):Yd (fun k=>laws_eqGateShape k x0 x0) true:=by
 unfold laws_eqGateShape
 exact Yd.cn (by simp [seq,ieq,Abs.beq]) (Yd.bind (laws_eqGateFieldS_y hx.2) (Yd.cn (by simp) (Yd.pure)))
theorem laws_eqGateShapeS_y {x0:List GateShape} (hx:okS GateShape.ok x0):Yd (fun k=>laws_eqGateShapeS k x0 x0) true:=by
 unfold laws_eqGateShapeS
 exact eqS_y (d:=(default:GateShape)) (F:=fun k a b=>laws_eqGateShape k a b) (l:=fun k i=>iter (ts:=laws_eqGateShapeS_L4_ts) (R:=Bool) k (laws_eqGateShapeS_L4 (some true)) x0 x0 i) hx.1 (fun _ _=>rfl) (fun y hy=>laws_eqGateShape_y (hx.2 y hy))
theorem laws_eqGateMend_y {x0:GateMend} (_:GateMend.ok x0):Yd (fun k=>laws_eqGateMend k x0 x0) true:=by
 unfold laws_eqGateMend
 exact Yd.cn (by simp [seq,ieq,Abs.beq]) (Yd.cn (by simp [seq,ieq,Abs.beq]) (Yd.cn (by simp [seq,ieq,Abs.beq]) (Yd.cn (by simp [seq,ieq,Abs.beq]) (Yd.cn (by simp [seq,ieq,Abs.beq]) (Yd.cn (by simp [seq,ieq,Abs.beq]) (Yd.pure))))))
theorem laws_eqGateMendS_y {x0:List GateMend} (hx:okS GateMend.ok x0):Yd (fun k=>laws_eqGateMendS k x0 x0) true:=by
 unfold laws_eqGateMendS
 exact eqS_y (d:=(default:GateMend)) (F:=fun k a b=>laws_eqGateMend k a b) (l:=fun k i=>iter (ts:=laws_eqGateMendS_L4_ts) (R:=Bool) k (laws_eqGateMendS_L4 (some true)) x0 x0 i) hx.1 (fun _ _=>rfl) (fun y hy=>laws_eqGateMend_y (hx.2 y hy))
theorem laws_eqGateTeam_y {x0:GateTeam} (_:GateTeam.ok x0):Yd (fun k=>laws_eqGateTeam k x0 x0) true:=by
 unfold laws_eqGateTeam
 exact Yd.cn (by simp [seq,ieq,Abs.beq]) (Yd.cn (by simp [seq,ieq,Abs.beq]) (Yd.pure))
theorem laws_eqGateTeamS_y {x0:List GateTeam} (hx:okS GateTeam.ok x0):Yd (fun k=>laws_eqGateTeamS k x0 x0) true:=by
 unfold laws_eqGateTeamS
 exact eqS_y (d:=(default:GateTeam)) (F:=fun k a b=>laws_eqGateTeam k a b) (l:=fun k i=>iter (ts:=laws_eqGateTeamS_L4_ts) (R:=Bool) k (laws_eqGateTeamS_L4 (some true)) x0 x0 i) hx.1 (fun _ _=>rfl) (fun y hy=>laws_eqGateTeam_y (hx.2 y hy))
theorem laws_eqGateLaw_y {x0:GateLaw} (hx:GateLaw.ok x0):Yd (fun k=>laws_eqGateLaw k x0 x0) true:=by
 unfold laws_eqGateLaw
 exact Yd.bind (laws_eqGateShapeS_y hx.1) (Yd.cn (by simp) (Yd.bind (laws_eqGateMendS_y hx.2.1) (Yd.cn (by simp) (Yd.bind (laws_eqGateTeamS_y hx.2.2) (Yd.cn (by simp) (Yd.pure))))))
theorem laws_eqGateObject_y {x0:GateObject} (hx:GateObject.ok x0):Yd (fun k=>laws_eqGateObject k x0 x0) true:=by
 unfold laws_eqGateObject
 exact Yd.cn (by simp [seq,ieq,Abs.beq]) (Yd.cn (by simp [seq,ieq,Abs.beq]) (Yd.cn (by simp [seq,ieq,Abs.beq]) (Yd.bind (laws_eqStringS_y hx.2.2.2.1) (Yd.cn (by simp) (Yd.cn (by simp [seq,ieq,Abs.beq]) (Yd.bind (laws_eqStringS_y hx.2.2.2.2.2.1) (Yd.cn (by simp) (Yd.cn (by simp [seq,ieq,Abs.beq]) (Yd.pure)))))))))
theorem laws_eqGateObjectS_y {x0:List GateObject} (hx:okS GateObject.ok x0):Yd (fun k=>laws_eqGateObjectS k x0 x0) true:=by
 unfold laws_eqGateObjectS
 exact eqS_y (d:=(default:GateObject)) (F:=fun k a b=>laws_eqGateObject k a b) (l:=fun k i=>iter (ts:=laws_eqGateObjectS_L4_ts) (R:=Bool) k (laws_eqGateObjectS_L4 (some true)) x0 x0 i) hx.1 (fun _ _=>rfl) (fun y hy=>laws_eqGateObject_y (hx.2 y hy))
theorem laws_eqIntS_y {x0:List Int} (hx:okS (okInt .i64) x0):Yd (fun k=>laws_eqIntS k x0 x0) true:=by
 unfold laws_eqIntS
 exact eqS_y (d:=(0:Int)) (F:=fun _ a b=>some (ieq a b)) (l:=fun k i=>iter (ts:=laws_eqIntS_L4_ts) (R:=Bool) k (laws_eqIntS_L4 (some true)) x0 x0 i) hx.1 (fun _ _=>rfl) (fun y _=>Yd.of fun _=>by rw [ieq_self])
theorem laws_eqGateRule_y {x0:GateRule} (hx:GateRule.ok x0):Yd (fun k=>laws_eqGateRule k x0 x0) true:=by
 unfold laws_eqGateRule
 exact Yd.bind (laws_eqIntS_y hx.1) (Yd.cn (by simp) (Yd.cn (by simp [seq,ieq,Abs.beq]) (Yd.cn (by simp [seq,ieq,Abs.beq]) (Yd.cn (by simp [seq,ieq,Abs.beq]) (Yd.pure)))))
theorem laws_eqGateGrant_y {x0:GateGrant} (hx:GateGrant.ok x0):Yd (fun k=>laws_eqGateGrant k x0 x0) true:=by
 unfold laws_eqGateGrant
 exact Yd.cn (by simp [seq,ieq,Abs.beq]) (Yd.cn (by simp [seq,ieq,Abs.beq]) (Yd.cn (by simp [seq,ieq,Abs.beq]) (Yd.bind (laws_eqGateRule_y hx.2.2.2) (Yd.cn (by simp) (Yd.pure)))))
theorem laws_eqGateGrantS_y {x0:List GateGrant} (hx:okS GateGrant.ok x0):Yd (fun k=>laws_eqGateGrantS k x0 x0) true:=by
 unfold laws_eqGateGrantS
 exact eqS_y (d:=(default:GateGrant)) (F:=fun k a b=>laws_eqGateGrant k a b) (l:=fun k i=>iter (ts:=laws_eqGateGrantS_L4_ts) (R:=Bool) k (laws_eqGateGrantS_L4 (some true)) x0 x0 i) hx.1 (fun _ _=>rfl) (fun y hy=>laws_eqGateGrant_y (hx.2 y hy))
theorem laws_eqGateLedger_y {x0:GateLedger} (_:GateLedger.ok x0):Yd (fun k=>laws_eqGateLedger k x0 x0) true:=by
 unfold laws_eqGateLedger
 exact Yd.cn (by simp [seq,ieq,Abs.beq]) (Yd.cn (by simp [seq,ieq,Abs.beq]) (Yd.cn (by simp [seq,ieq,Abs.beq]) (Yd.cn (by simp [seq,ieq,Abs.beq]) (Yd.pure))))
theorem laws_eqGateLedgerS_y {x0:List GateLedger} (hx:okS GateLedger.ok x0):Yd (fun k=>laws_eqGateLedgerS k x0 x0) true:=by
 unfold laws_eqGateLedgerS
 exact eqS_y (d:=(default:GateLedger)) (F:=fun k a b=>laws_eqGateLedger k a b) (l:=fun k i=>iter (ts:=laws_eqGateLedgerS_L4_ts) (R:=Bool) k (laws_eqGateLedgerS_L4 (some true)) x0 x0 i) hx.1 (fun _ _=>rfl) (fun y hy=>laws_eqGateLedger_y (hx.2 y hy))
theorem laws_eqGatePurse_y {x0:GatePurse} (_:GatePurse.ok x0):Yd (fun k=>laws_eqGatePurse k x0 x0) true:=by
 unfold laws_eqGatePurse
 exact Yd.cn (by simp [seq,ieq,Abs.beq]) (Yd.cn (by simp [seq,ieq,Abs.beq]) (Yd.cn (by simp [seq,ieq,Abs.beq]) (Yd.cn (by simp [seq,ieq,Abs.beq]) (Yd.cn (by simp [seq,ieq,Abs.beq]) (Yd.pure)))))
theorem laws_eqGatePurseS_y {x0:List GatePurse} (hx:okS GatePurse.ok x0):Yd (fun k=>laws_eqGatePurseS k x0 x0) true:=by
 unfold laws_eqGatePurseS
 exact eqS_y (d:=(default:GatePurse)) (F:=fun k a b=>laws_eqGatePurse k a b) (l:=fun k i=>iter (ts:=laws_eqGatePurseS_L4_ts) (R:=Bool) k (laws_eqGatePurseS_L4 (some true)) x0 x0 i) hx.1 (fun _ _=>rfl) (fun y hy=>laws_eqGatePurse_y (hx.2 y hy))
theorem laws_eqGateBook_y {x0:GateBook} (hx:GateBook.ok x0):Yd (fun k=>laws_eqGateBook k x0 x0) true:=by
 unfold laws_eqGateBook
 exact Yd.cn (by simp [seq,ieq,Abs.beq]) (Yd.cn (by simp [seq,ieq,Abs.beq]) (Yd.cn (by simp [seq,ieq,Abs.beq]) (Yd.bind (laws_eqGateObjectS_y hx.2.2.2.1) (Yd.cn (by simp) (Yd.bind (laws_eqGateGrantS_y hx.2.2.2.2.1) (Yd.cn (by simp) (Yd.bind (laws_eqGateLedgerS_y hx.2.2.2.2.2.1) (Yd.cn (by simp) (Yd.bind (laws_eqGatePurseS_y hx.2.2.2.2.2.2) (Yd.cn (by simp) (Yd.pure)))))))))))
end Go.Proofs.YtenfhlfofhjcoaaGreatDoor.Pu
