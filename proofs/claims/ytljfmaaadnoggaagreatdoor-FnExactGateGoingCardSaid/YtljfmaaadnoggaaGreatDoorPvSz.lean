/- The laws' own functions on data: what takes a size away, what copies, what compares. No condition. -/
import Derived.Test.YtljfmaaadnoggaaGreatDoorPvA
set_option linter.unusedSimpArgs false
set_option linter.unusedVariables false
namespace Go.Proofs.YtljfmaaadnoggaaGreatDoor.Pu
open Go Go.RowKit Go.Proofs.YtljfmaaadnoggaaGreatDoor.cX Go.Proofs.YtljfmaaadnoggaaGreatDoor.Fn
def _root_.Go.Proofs.YtljfmaaadnoggaaGreatDoor.cX.aB.sd (x:aB):Prop:=dq x.Name∧jS x.Kind∧jS x.bP∧jS x.b7∧gW dq x.Words∧dq x.To∧jS x.cz∧jS x.cR∧jS x.cv∧dq x.Default∧dq x.bA
def _root_.Go.Proofs.YtljfmaaadnoggaaGreatDoor.cX.aC.sd (x:aC):Prop:=dq x.Kind∧gW aB.sd x.aU
def _root_.Go.Proofs.YtljfmaaadnoggaaGreatDoor.cX.aD.sd (x:aD):Prop:=dq x.Kind∧dq x.Field∧dq x.cY∧dq x.Is∧dq x.tz∧dq x.cF
def _root_.Go.Proofs.YtljfmaaadnoggaaGreatDoor.cX.aJ.sd (x:aJ):Prop:=dq x.Name∧dq x.g9
def _root_.Go.Proofs.YtljfmaaadnoggaaGreatDoor.cX.aH.sd (x:aH):Prop:=gW aC.sd x.bS∧gW aD.sd x.ib∧gW aJ.sd x.eg
def _root_.Go.Proofs.YtljfmaaadnoggaaGreatDoor.cX.aA.sd (x:aA):Prop:=dq x.Kind∧dq x.Name∧dq x.aZ∧gW dq x.aN∧jS x.Ending∧gW dq x.bX∧jS x.Version
def _root_.Go.Proofs.YtljfmaaadnoggaaGreatDoor.cX.bD.sd (x:bD):Prop:=gW jS x.cB∧dq x.Kind∧dq x.aZ∧dq x.cT
def _root_.Go.Proofs.YtljfmaaadnoggaaGreatDoor.cX.aK.sd (x:aK):Prop:=jS x.Number∧dq x.To∧dq x.By∧bD.sd x.cP
def _root_.Go.Proofs.YtljfmaaadnoggaaGreatDoor.cX.aI.sd (x:aI):Prop:=dq x.aZ∧dq x.aX∧jS x.b7∧jS x.mN
def _root_.Go.Proofs.YtljfmaaadnoggaaGreatDoor.cX.aL.sd (x:aL):Prop:=dq x.iP∧dq x.aZ∧dq x.aX∧jS x.cM∧jS x.fX
def _root_.Go.Proofs.YtljfmaaadnoggaaGreatDoor.cX.aE.sd (x:aE):Prop:=jS x.GL∧jS x.pd∧jS x.lh∧gW aA.sd x.aF∧gW aK.sd x.bZ∧gW aI.sd x.aT∧gW aL.sd x.bN
def _root_.Go.Proofs.YtljfmaaadnoggaaGreatDoor.cX.cw.sd (x:cw):Prop:=dq x.dE∧dq x.resource
def _root_.Go.Proofs.YtljfmaaadnoggaaGreatDoor.cX.cZ.sd (x:cZ):Prop:=jS x.code∧jS x.place
def _root_.Go.Proofs.YtljfmaaadnoggaaGreatDoor.cX.bG.sd (x:bG):Prop:=aB.sd x.aB
def _root_.Go.Proofs.YtljfmaaadnoggaaGreatDoor.cX.IL.sd (x:IL):Prop:=dq x.kind∧dq x.name
def _root_.Go.Proofs.YtljfmaaadnoggaaGreatDoor.cX.cq.sd (x:cq):Prop:=dq x.Key∧jS x.El
def _root_.Go.Proofs.YtljfmaaadnoggaaGreatDoor.cX.cK.sd (x:cK):Prop:=cw.sd x.Key∧jS x.El
def _root_.Go.Proofs.YtljfmaaadnoggaaGreatDoor.cX.aW.sd (x:aW):Prop:=jS x.Key∧jS x.El
def _root_.Go.Proofs.YtljfmaaadnoggaaGreatDoor.cX.cI.sd (x:cI):Prop:=jS x.t∧jS x.x
theorem uL {x0:List (List UInt8)} (hx:GN fc x0) {n:Int} (h0:0≤n) (hn:n≤1048576):iO (fun k=>kH k x0 n) n ((gW dq) x0):=by
 unfold kH
 refine KI (d:=([]:List UInt8)) (p:=dq) (F:=fun k y v=>(some (bW .i64 v (y.length:Int)))) (l:=fun k v i=>iter (ts:=vL) (R:=Int) k (Au fun v=>some v) x0 v i) hx.1 hn h0 (fun _ _ _=>rfl) fun y hy n h0 hn=>?_
 have hy':=hx.2 y hy
 unfold fc at hy'
 have hm:=max_eq
 have e:bW .i64 n (y.length:Int)=n-y.length:=YB (by omega) (by omega)
 exact ⟨_,Yd.pure,by omega,fun h=>by unfold dq;omega⟩
theorem Jg {x0:aB} (hx:aB.ok x0) {n:Int} (h0:0≤n) (hn:n≤1048576):iO (fun k=>kI k x0 n) n (aB.sd x0):=by
 unfold kI
 exact iO.str h0 hn hx.1 fun a0 b0 s0=>iO.call (uL hx.2.2.2.2.1 a0 b0) a0 b0 fun v1 a1 b1 _ s1=>iO.str a1 b1 hx.2.2.2.2.2.1 fun a2 b2 s2=>iO.str a2 b2 hx.2.2.2.2.2.2.2.2.2.1 fun a3 b3 s3=>iO.str a3 b3 hx.2.2.2.2.2.2.2.2.2.2 fun a4 b4 s4=>iO.done ⟨s0,trivial,trivial,trivial,s1,s2,trivial,trivial,trivial,s3,s4⟩
theorem HO {x0:List aB} (hx:GN aB.ok x0) {n:Int} (h0:0≤n) (hn:n≤1048576):iO (fun k=>nn k x0 n) n ((gW aB.sd) x0):=by
 unfold nn
 exact KI (d:=(default:aB)) (p:=aB.sd) (F:=fun k y v=>kI k y v) (l:=fun k v i=>iter (ts:=re) (R:=Int) k (vM fun v=>some v) x0 v i) hx.1 hn h0 (fun _ _ _=>rfl) (fun y hy n h0 hn=>Jg (hx.2 y hy) h0 hn)
theorem Jh {x0:aC} (hx:aC.ok x0) {n:Int} (h0:0≤n) (hn:n≤1048576):iO (fun k=>kJ k x0 n) n (aC.sd x0):=by
 unfold kJ
 exact iO.str h0 hn hx.1 fun a0 b0 s0=>iO.call (HO hx.2 a0 b0) a0 b0 fun v1 a1 b1 _ s1=>iO.done ⟨s0,s1⟩
theorem HP {x0:List aC} (hx:GN aC.ok x0) {n:Int} (h0:0≤n) (hn:n≤1048576):iO (fun k=>np k x0 n) n ((gW aC.sd) x0):=by
 unfold np
 exact KI (d:=(default:aC)) (p:=aC.sd) (F:=fun k y v=>kJ k y v) (l:=fun k v i=>iter (ts:=rf) (R:=Int) k (vN fun v=>some v) x0 v i) hx.1 hn h0 (fun _ _ _=>rfl) (fun y hy n h0 hn=>Jh (hx.2 y hy) h0 hn)
theorem KK {x0:aD} (hx:aD.ok x0) {n:Int} (h0:0≤n) (hn:n≤1048576):iO (fun k=>mo k x0 n) n (aD.sd x0):=by
 unfold mo
 exact iO.str h0 hn hx.1 fun a0 b0 s0=>iO.str a0 b0 hx.2.1 fun a1 b1 s1=>iO.str a1 b1 hx.2.2.1 fun a2 b2 s2=>iO.str a2 b2 hx.2.2.2.1 fun a3 b3 s3=>iO.str a3 b3 hx.2.2.2.2.1 fun a4 b4 s4=>iO.str a4 b4 hx.2.2.2.2.2 fun a5 b5 s5=>iO.done ⟨s0,s1,s2,s3,s4,s5⟩
theorem Ji {x0:List aD} (hx:GN aD.ok x0) {n:Int} (h0:0≤n) (hn:n≤1048576):iO (fun k=>oq k x0 n) n ((gW aD.sd) x0):=by
 unfold oq
 exact KI (d:=(default:aD)) (p:=aD.sd) (F:=fun k y v=>mo k y v) (l:=fun k v i=>iter (ts:=sb) (R:=Int) k (xk fun v=>some v) x0 v i) hx.1 hn h0 (fun _ _ _=>rfl) (fun y hy n h0 hn=>KK (hx.2 y hy) h0 hn)
theorem KL {x0:aJ} (hx:aJ.ok x0) {n:Int} (h0:0≤n) (hn:n≤1048576):iO (fun k=>mq k x0 n) n (aJ.sd x0):=by
 unfold mq
 exact iO.str h0 hn hx.1 fun a0 b0 s0=>iO.str a0 b0 hx.2 fun a1 b1 s1=>iO.done ⟨s0,s1⟩
theorem Jj {x0:List aJ} (hx:GN aJ.ok x0) {n:Int} (h0:0≤n) (hn:n≤1048576):iO (fun k=>ot k x0 n) n ((gW aJ.sd) x0):=by
 unfold ot
 exact KI (d:=(default:aJ)) (p:=aJ.sd) (F:=fun k y v=>mq k y v) (l:=fun k v i=>iter (ts:=sc) (R:=Int) k (xm fun v=>some v) x0 v i) hx.1 hn h0 (fun _ _ _=>rfl) (fun y hy n h0 hn=>KL (hx.2 y hy) h0 hn)
theorem Cf {x0:aH} (hx:aH.ok x0) {n:Int} (h0:0≤n) (hn:n≤1048576):iO (fun k=>nJ k x0 n) n (aH.sd x0):=by
 unfold nJ
 exact iO.call (HP hx.1 h0 hn) h0 hn fun v0 a0 b0 _ s0=>iO.call (Ji hx.2.1 a0 b0) a0 b0 fun v1 a1 b1 _ s1=>iO.call (Jj hx.2.2 a1 b1) a1 b1 fun v2 a2 b2 _ s2=>iO.done ⟨s0,s1,s2⟩
theorem HQ {x0:aA} (hx:aA.ok x0) {n:Int} (h0:0≤n) (hn:n≤1048576):iO (fun k=>jm k x0 n) n (aA.sd x0):=by
 unfold jm
 exact iO.str h0 hn hx.1 fun a0 b0 s0=>iO.str a0 b0 hx.2.1 fun a1 b1 s1=>iO.str a1 b1 hx.2.2.1 fun a2 b2 s2=>iO.call (uL hx.2.2.2.1 a2 b2) a2 b2 fun v3 a3 b3 _ s3=>iO.call (uL hx.2.2.2.2.2.1 a3 b3) a3 b3 fun v4 a4 b4 _ s4=>iO.done ⟨s0,s1,s2,s3,trivial,s4,trivial⟩
theorem FW {x0:List aA} (hx:GN aA.ok x0) {n:Int} (h0:0≤n) (hn:n≤1048576):iO (fun k=>lJ k x0 n) n ((gW aA.sd) x0):=by
 unfold lJ
 exact KI (d:=(default:aA)) (p:=aA.sd) (F:=fun k y v=>jm k y v) (l:=fun k v i=>iter (ts:=pJ) (R:=Int) k (tV fun v=>some v) x0 v i) hx.1 hn h0 (fun _ _ _=>rfl) (fun y hy n h0 hn=>HQ (hx.2 y hy) h0 hn)
theorem Rh {x0:List Int} (hx:GN (mn .i64) x0) {n:Int} (h0:0≤n) (hn:n≤1048576):iO (fun k=>Ax k x0 n) n ((gW jS) x0):=by
 unfold Ax
 exact iO.str h0 hn hx.1 fun _ _ a=>iO.done ⟨a,fun _ _=>trivial⟩
theorem KM {x0:bD} (hx:bD.ok x0) {n:Int} (h0:0≤n) (hn:n≤1048576):iO (fun k=>qc k x0 n) n (bD.sd x0):=by
 unfold qc
 exact iO.call (Rh hx.1 h0 hn) h0 hn fun v0 a0 b0 _ s0=>iO.str a0 b0 hx.2.1 fun a1 b1 s1=>iO.str a1 b1 hx.2.2.1 fun a2 b2 s2=>iO.str a2 b2 hx.2.2.2 fun a3 b3 s3=>iO.done ⟨s0,s1,s2,s3⟩
theorem Jk {x0:aK} (hx:aK.ok x0) {n:Int} (h0:0≤n) (hn:n≤1048576):iO (fun k=>kK k x0 n) n (aK.sd x0):=by
 unfold kK
 exact iO.str h0 hn hx.2.1 fun a0 b0 s0=>iO.str a0 b0 hx.2.2.1 fun a1 b1 s1=>iO.call (KM hx.2.2.2 a1 b1) a1 b1 fun v2 a2 b2 _ s2=>iO.done ⟨trivial,s0,s1,s2⟩
theorem HS {x0:List aK} (hx:GN aK.ok x0) {n:Int} (h0:0≤n) (hn:n≤1048576):iO (fun k=>nq k x0 n) n ((gW aK.sd) x0):=by
 unfold nq
 exact KI (d:=(default:aK)) (p:=aK.sd) (F:=fun k y v=>kK k y v) (l:=fun k v i=>iter (ts:=rh) (R:=Int) k (vP fun v=>some v) x0 v i) hx.1 hn h0 (fun _ _ _=>rfl) (fun y hy n h0 hn=>Jk (hx.2 y hy) h0 hn)
theorem HT {x0:aI} (hx:aI.ok x0) {n:Int} (h0:0≤n) (hn:n≤1048576):iO (fun k=>jn k x0 n) n (aI.sd x0):=by
 unfold jn
 exact iO.str h0 hn hx.1 fun a0 b0 s0=>iO.str a0 b0 hx.2.1 fun a1 b1 s1=>iO.done ⟨s0,s1,trivial,trivial⟩
theorem FX {x0:List aI} (hx:GN aI.ok x0) {n:Int} (h0:0≤n) (hn:n≤1048576):iO (fun k=>lK k x0 n) n ((gW aI.sd) x0):=by
 unfold lK
 exact KI (d:=(default:aI)) (p:=aI.sd) (F:=fun k y v=>jn k y v) (l:=fun k v i=>iter (ts:=pK) (R:=Int) k (tW fun v=>some v) x0 v i) hx.1 hn h0 (fun _ _ _=>rfl) (fun y hy n h0 hn=>HT (hx.2 y hy) h0 hn)
theorem Jl {x0:aL} (hx:aL.ok x0) {n:Int} (h0:0≤n) (hn:n≤1048576):iO (fun k=>kL k x0 n) n (aL.sd x0):=by
 unfold kL
 exact iO.str h0 hn hx.1 fun a0 b0 s0=>iO.str a0 b0 hx.2.1 fun a1 b1 s1=>iO.str a1 b1 hx.2.2.1 fun a2 b2 s2=>iO.done ⟨s0,s1,s2,trivial,trivial⟩
theorem HU {x0:List aL} (hx:GN aL.ok x0) {n:Int} (h0:0≤n) (hn:n≤1048576):iO (fun k=>nr k x0 n) n ((gW aL.sd) x0):=by
 unfold nr
 exact KI (d:=(default:aL)) (p:=aL.sd) (F:=fun k y v=>kL k y v) (l:=fun k v i=>iter (ts:=ri) (R:=Int) k (vR fun v=>some v) x0 v i) hx.1 hn h0 (fun _ _ _=>rfl) (fun y hy n h0 hn=>Jl (hx.2 y hy) h0 hn)
theorem AZ {x0:aE} (hx:aE.ok x0) {n:Int} (h0:0≤n) (hn:n≤1048576):iO (fun k=>mj k x0 n) n (aE.sd x0):=by
 unfold mj
 exact iO.call (FW hx.2.2.2.1 h0 hn) h0 hn fun v0 a0 b0 _ s0=>iO.call (HS hx.2.2.2.2.1 a0 b0) a0 b0 fun v1 a1 b1 _ s1=>iO.call (FX hx.2.2.2.2.2.1 a1 b1) a1 b1 fun v2 a2 b2 _ s2=>iO.call (HU hx.2.2.2.2.2.2 a2 b2) a2 b2 fun v3 a3 b3 _ s3=>iO.done ⟨trivial,trivial,trivial,s0,s1,s2,s3⟩
theorem uM {x0:List (List UInt8)} (hx:gW dq x0):Yd (fun k=>kM k x0) x0:=by
 unfold kM
 exact wu (d:=([]:List UInt8)) (F:=fun _ y=>some y) (l:=fun k i o=>iter (ts:=vS) (R:=List (List UInt8)) k (Az fun v=>some v) x0 i o) (b:=16) hx.1 (by omega) (fun _ _ _=>rfl) (fun y _=>Yd.pure)
theorem Jm {x0:aB} (hx:aB.sd x0):Yd (fun k=>kN k x0) x0:=by
 unfold kN
 exact Yd.bind (uM hx.2.2.2.2.1) (Yd.pure)
theorem HV {x0:List aB} (hx:gW aB.sd x0):Yd (fun k=>ns k x0) x0:=by
 unfold ns
 exact wu (d:=(default:aB)) (F:=fun k y=>kN k y) (l:=fun k i o=>iter (ts:=rj) (R:=List aB) k (vT fun v=>some v) x0 i o) (b:=128) hx.1 (by omega) (fun _ _ _=>rfl) (fun y hy=>Jm (hx.2 y hy))
theorem Jn {x0:aC} (hx:aC.sd x0):Yd (fun k=>kO k x0) x0:=by
 unfold kO
 exact Yd.bind (HV hx.2) (Yd.pure)
theorem HW {x0:List aC} (hx:gW aC.sd x0):Yd (fun k=>nu k x0) x0:=by
 unfold nu
 exact wu (d:=(default:aC)) (F:=fun k y=>kO k y) (l:=fun k i o=>iter (ts:=rk) (R:=List aC) k (vU fun v=>some v) x0 i o) (b:=40) hx.1 (by omega) (fun _ _ _=>rfl) (fun y hy=>Jn (hx.2 y hy))
theorem A6 {x0:aD} (_:aD.sd x0):Yd (fun k=>gq k x0) x0:=by
 unfold gq
 exact Yd.pure
theorem Jo {x0:List aD} (hx:gW aD.sd x0):Yd (fun k=>ou k x0) x0:=by
 unfold ou
 exact wu (d:=(default:aD)) (F:=fun k y=>gq k y) (l:=fun k i o=>iter (ts:=sg) (R:=List aD) k (xu fun v=>some v) x0 i o) (b:=96) hx.1 (by omega) (fun _ _ _=>rfl) (fun y hy=>A6 (hx.2 y hy))
theorem A7 {x0:aJ} (_:aJ.sd x0):Yd (fun k=>gr k x0) x0:=by
 unfold gr
 exact Yd.pure
theorem Jp {x0:List aJ} (hx:gW aJ.sd x0):Yd (fun k=>ov k x0) x0:=by
 unfold ov
 exact wu (d:=(default:aJ)) (F:=fun k y=>gr k y) (l:=fun k i o=>iter (ts:=sj) (R:=List aJ) k (xw fun v=>some v) x0 i o) (b:=32) hx.1 (by omega) (fun _ _ _=>rfl) (fun y hy=>A7 (hx.2 y hy))
theorem hU {x0:aH} (hx:aH.sd x0):Yd (fun k=>eB k x0) x0:=by
 unfold eB
 exact Yd.bind (HW hx.1) (Yd.bind (Jo hx.2.1) (Yd.bind (Jp hx.2.2) (Yd.pure)))
theorem HX {x0:aA} (hx:aA.sd x0):Yd (fun k=>jo k x0) x0:=by
 unfold jo
 exact Yd.bind (uM hx.2.2.2.1) (Yd.bind (uM hx.2.2.2.2.2.1) (Yd.pure))
theorem FY {x0:List aA} (hx:gW aA.sd x0):Yd (fun k=>lL k x0) x0:=by
 unfold lL
 exact wu (d:=(default:aA)) (F:=fun k y=>jo k y) (l:=fun k i o=>iter (ts:=pL) (R:=List aA) k (tX fun v=>some v) x0 i o) (b:=112) hx.1 (by omega) (fun _ _ _=>rfl) (fun y hy=>HX (hx.2 y hy))
theorem Ri {x0:List Int} (hx:gW jS x0):Yd (fun k=>AB k x0) x0:=by
 unfold AB
 exact wu (d:=(0:Int)) (F:=fun _ y=>some y) (l:=fun k i o=>iter (ts:=AA) (R:=List Int) k (E4 fun v=>some v) x0 i o) (b:=8) hx.1 (by omega) (fun _ _ _=>rfl) (fun y _=>Yd.pure)
theorem KN {x0:bD} (hx:bD.sd x0):Yd (fun k=>qd k x0) x0:=by
 unfold qd
 exact Yd.bind (Ri hx.1) (Yd.pure)
theorem Jq {x0:aK} (hx:aK.sd x0):Yd (fun k=>kP k x0) x0:=by
 unfold kP
 exact Yd.bind (KN hx.2.2.2) (Yd.pure)
theorem HZ {x0:List aK} (hx:gW aK.sd x0):Yd (fun k=>nv k x0) x0:=by
 unfold nv
 exact wu (d:=(default:aK)) (F:=fun k y=>kP k y) (l:=fun k i o=>iter (ts:=rl) (R:=List aK) k (vW fun v=>some v) x0 i o) (b:=112) hx.1 (by omega) (fun _ _ _=>rfl) (fun y hy=>Jq (hx.2 y hy))
theorem xU {x0:aI} (_:aI.sd x0):Yd (fun k=>eA k x0) x0:=by
 unfold eA
 exact Yd.pure
theorem FZ {x0:List aI} (hx:gW aI.sd x0):Yd (fun k=>lM k x0) x0:=by
 unfold lM
 exact wu (d:=(default:aI)) (F:=fun k y=>eA k y) (l:=fun k i o=>iter (ts:=pM) (R:=List aI) k (tY fun v=>some v) x0 i o) (b:=48) hx.1 (by omega) (fun _ _ _=>rfl) (fun y hy=>xU (hx.2 y hy))
theorem zP {x0:aL} (_:aL.sd x0):Yd (fun k=>fj k x0) x0:=by
 unfold fj
 exact Yd.pure
theorem H3 {x0:List aL} (hx:gW aL.sd x0):Yd (fun k=>nw k x0) x0:=by
 unfold nw
 exact wu (d:=(default:aL)) (F:=fun k y=>fj k y) (l:=fun k i o=>iter (ts:=rm) (R:=List aL) k (vY fun v=>some v) x0 i o) (b:=64) hx.1 (by omega) (fun _ _ _=>rfl) (fun y hy=>zP (hx.2 y hy))
theorem gg {x0:aE} (hx:aE.sd x0):Yd (fun k=>dS k x0) x0:=by
 unfold dS
 exact Yd.bind (FY hx.2.2.2.1) (Yd.bind (HZ hx.2.2.2.2.1) (Yd.bind (FZ hx.2.2.2.2.2.1) (Yd.bind (H3 hx.2.2.2.2.2.2) (Yd.pure))))
theorem Bo {x0:List Int} (hx:GN (mn .i64) x0):Yd (fun k=>eZ k x0 x0) true:=by
 unfold eZ
 exact ID (d:=(0:Int)) (F:=fun _ a b=>some (bL a b)) (l:=fun k i=>iter (ts:=Aj) (R:=Bool) k (E0 (some true)) x0 x0 i) hx.1 (fun _ _=>rfl) (fun y _=>Yd.of fun _=>by rw [Ch])
theorem uN {x0:List (List UInt8)} (hx:GN fc x0):Yd (fun k=>ky k x0 x0) true:=by
 unfold ky
 exact ID (d:=([]:List UInt8)) (F:=fun _ a b=>some (seq a b)) (l:=fun k i=>iter (ts:=vx) (R:=Bool) k (Ak (some true)) x0 x0 i) hx.1 (fun _ _=>rfl) (fun y _=>Yd.of fun _=>by rw [FI])
theorem Jr {x0:aB} (hx:aB.ok x0):Yd (fun k=>kz k x0 x0) true:=by
 unfold kz
 exact Yd.cn (by simp [seq,bL,cX.beq]) (Yd.cn (by simp [seq,bL,cX.beq]) (Yd.cn (by simp [seq,bL,cX.beq]) (Yd.cn (by simp [seq,bL,cX.beq]) (Yd.bind (uN hx.2.2.2.2.1) (Yd.cn (by simp) (Yd.cn (by simp [seq,bL,cX.beq]) (Yd.cn (by simp [seq,bL,cX.beq]) (Yd.cn (by simp [seq,bL,cX.beq]) (Yd.cn (by simp [seq,bL,cX.beq]) (Yd.cn (by simp [seq,bL,cX.beq]) (Yd.cn (by simp [seq,bL,cX.beq]) (Yd.pure))))))))))))
theorem H4 {x0:List aB} (hx:GN aB.ok x0):Yd (fun k=>na k x0 x0) true:=by
 unfold na
 exact ID (d:=(default:aB)) (F:=fun k a b=>kz k a b) (l:=fun k i=>iter (ts:=qW) (R:=Bool) k (vy (some true)) x0 x0 i) hx.1 (fun _ _=>rfl) (fun y hy=>Jr (hx.2 y hy))
theorem Jt {x0:aC} (hx:aC.ok x0):Yd (fun k=>kA k x0 x0) true:=by
 unfold kA
 exact Yd.cn (by simp [seq,bL,cX.beq]) (Yd.bind (H4 hx.2) (Yd.cn (by simp) (Yd.pure)))
theorem H5 {x0:List aC} (hx:GN aC.ok x0):Yd (fun k=>ng k x0 x0) true:=by
 unfold ng
 exact ID (d:=(default:aC)) (F:=fun k a b=>kA k a b) (l:=fun k i=>iter (ts:=qX) (R:=Bool) k (vz (some true)) x0 x0 i) hx.1 (fun _ _=>rfl) (fun y hy=>Jt (hx.2 y hy))
theorem KO {x0:aD} (_:aD.ok x0):Yd (fun k=>mg k x0 x0) true:=by
 unfold mg
 exact Yd.cn (by simp [seq,bL,cX.beq]) (Yd.cn (by simp [seq,bL,cX.beq]) (Yd.cn (by simp [seq,bL,cX.beq]) (Yd.cn (by simp [seq,bL,cX.beq]) (Yd.cn (by simp [seq,bL,cX.beq]) (Yd.cn (by simp [seq,bL,cX.beq]) (Yd.pure))))))
theorem Ju {x0:List aD} (hx:GN aD.ok x0):Yd (fun k=>og k x0 x0) true:=by
 unfold og
 exact ID (d:=(default:aD)) (F:=fun k a b=>mg k a b) (l:=fun k i=>iter (ts:=rT) (R:=Bool) k (wW (some true)) x0 x0 i) hx.1 (fun _ _=>rfl) (fun y hy=>KO (hx.2 y hy))
theorem KP {x0:aJ} (_:aJ.ok x0):Yd (fun k=>mh k x0 x0) true:=by
 unfold mh
 exact Yd.cn (by simp [seq,bL,cX.beq]) (Yd.cn (by simp [seq,bL,cX.beq]) (Yd.pure))
theorem Jv {x0:List aJ} (hx:GN aJ.ok x0):Yd (fun k=>oh k x0 x0) true:=by
 unfold oh
 exact ID (d:=(default:aJ)) (F:=fun k a b=>mh k a b) (l:=fun k i=>iter (ts:=rU) (R:=Bool) k (wX (some true)) x0 x0 i) hx.1 (fun _ _=>rfl) (fun y hy=>KP (hx.2 y hy))
theorem Cg {x0:aH} (hx:aH.ok x0):Yd (fun k=>nD k x0 x0) true:=by
 unfold nD
 exact Yd.bind (H5 hx.1) (Yd.cn (by simp) (Yd.bind (Ju hx.2.1) (Yd.cn (by simp) (Yd.bind (Jv hx.2.2) (Yd.cn (by simp) (Yd.pure))))))
theorem H6 {x0:aA} (hx:aA.ok x0):Yd (fun k=>jd k x0 x0) true:=by
 unfold jd
 exact Yd.cn (by simp [seq,bL,cX.beq]) (Yd.cn (by simp [seq,bL,cX.beq]) (Yd.cn (by simp [seq,bL,cX.beq]) (Yd.bind (uN hx.2.2.2.1) (Yd.cn (by simp) (Yd.cn (by simp [seq,bL,cX.beq]) (Yd.bind (uN hx.2.2.2.2.2.1) (Yd.cn (by simp) (Yd.cn (by simp [seq,bL,cX.beq]) (Yd.pure)))))))))
theorem F5 {x0:List aA} (hx:GN aA.ok x0):Yd (fun k=>lz k x0 x0) true:=by
 unfold lz
 exact ID (d:=(default:aA)) (F:=fun k a b=>jd k a b) (l:=fun k i=>iter (ts:=pB) (R:=Bool) k (tG (some true)) x0 x0 i) hx.1 (fun _ _=>rfl) (fun y hy=>H6 (hx.2 y hy))
theorem KQ {x0:bD} (hx:bD.ok x0):Yd (fun k=>p7 k x0 x0) true:=by
 unfold p7
 exact Yd.bind (Bo hx.1) (Yd.cn (by simp) (Yd.cn (by simp [seq,bL,cX.beq]) (Yd.cn (by simp [seq,bL,cX.beq]) (Yd.cn (by simp [seq,bL,cX.beq]) (Yd.pure)))))
theorem Jw {x0:aK} (hx:aK.ok x0):Yd (fun k=>kB k x0 x0) true:=by
 unfold kB
 exact Yd.cn (by simp [seq,bL,cX.beq]) (Yd.cn (by simp [seq,bL,cX.beq]) (Yd.cn (by simp [seq,bL,cX.beq]) (Yd.bind (KQ hx.2.2.2) (Yd.cn (by simp) (Yd.pure)))))
theorem H7 {x0:List aK} (hx:GN aK.ok x0):Yd (fun k=>nh k x0 x0) true:=by
 unfold nh
 exact ID (d:=(default:aK)) (F:=fun k a b=>kB k a b) (l:=fun k i=>iter (ts:=qY) (R:=Bool) k (vB (some true)) x0 x0 i) hx.1 (fun _ _=>rfl) (fun y hy=>Jw (hx.2 y hy))
theorem H8 {x0:aI} (_:aI.ok x0):Yd (fun k=>je k x0 x0) true:=by
 unfold je
 exact Yd.cn (by simp [seq,bL,cX.beq]) (Yd.cn (by simp [seq,bL,cX.beq]) (Yd.cn (by simp [seq,bL,cX.beq]) (Yd.cn (by simp [seq,bL,cX.beq]) (Yd.pure))))
theorem F7 {x0:List aI} (hx:GN aI.ok x0):Yd (fun k=>lB k x0 x0) true:=by
 unfold lB
 exact ID (d:=(default:aI)) (F:=fun k a b=>je k a b) (l:=fun k i=>iter (ts:=pC) (R:=Bool) k (tH (some true)) x0 x0 i) hx.1 (fun _ _=>rfl) (fun y hy=>H8 (hx.2 y hy))
theorem Jx {x0:aL} (_:aL.ok x0):Yd (fun k=>kC k x0 x0) true:=by
 unfold kC
 exact Yd.cn (by simp [seq,bL,cX.beq]) (Yd.cn (by simp [seq,bL,cX.beq]) (Yd.cn (by simp [seq,bL,cX.beq]) (Yd.cn (by simp [seq,bL,cX.beq]) (Yd.cn (by simp [seq,bL,cX.beq]) (Yd.pure)))))
theorem H9 {x0:List aL} (hx:GN aL.ok x0):Yd (fun k=>ni k x0 x0) true:=by
 unfold ni
 exact ID (d:=(default:aL)) (F:=fun k a b=>kC k a b) (l:=fun k i=>iter (ts:=qZ) (R:=Bool) k (vD (some true)) x0 x0 i) hx.1 (fun _ _=>rfl) (fun y hy=>Jx (hx.2 y hy))
theorem A0 {x0:aE} (hx:aE.ok x0):Yd (fun k=>mi k x0 x0) true:=by
 unfold mi
 exact Yd.cn (by simp [seq,bL,cX.beq]) (Yd.cn (by simp [seq,bL,cX.beq]) (Yd.cn (by simp [seq,bL,cX.beq]) (Yd.bind (F5 hx.2.2.2.1) (Yd.cn (by simp) (Yd.bind (H7 hx.2.2.2.2.1) (Yd.cn (by simp) (Yd.bind (F7 hx.2.2.2.2.2.1) (Yd.cn (by simp) (Yd.bind (H9 hx.2.2.2.2.2.2) (Yd.cn (by simp) (Yd.pure)))))))))))
theorem qT {x0:List (List UInt8)} (hx:gW dq x0):Yd (fun k=>g_ k x0) x0:=by
 unfold g_
 exact wu (d:=([]:List UInt8)) (F:=fun _ y=>some y) (l:=fun k i o=>iter (ts:=rW) (R:=List (List UInt8)) k (w9 fun v=>some v) x0 i o) (b:=16) hx.1 (by omega) (fun _ _ _=>rfl) (fun y _=>Yd.pure)
theorem F8 {x0:aB} (hx:aB.sd x0):Yd (fun k=>ic k x0) (x0.Name,x0.Kind,x0.bP,x0.b7,x0.To,x0.cz,x0.cR,x0.cv,x0.Default,x0.bA,x0.Words):=by
 unfold ic
 exact Yd.bind (qT hx.2.2.2.2.1) (Yd.pure)
theorem EL {x0:List aB} (hx:gW aB.sd x0):Yd (fun k=>jT k x0) x0:=by
 unfold jT
 exact TH (d:=(default:aB)) (F:=fun k y=>ic k y) (g:=fun J0=>(⟨J0.1,J0.2.1,J0.2.2.1,J0.2.2.2.1,J0.2.2.2.2.2.2.2.2.2.2,J0.2.2.2.2.1,J0.2.2.2.2.2.1,J0.2.2.2.2.2.2.1,J0.2.2.2.2.2.2.2.1,J0.2.2.2.2.2.2.2.2.1,J0.2.2.2.2.2.2.2.2.2.1⟩:aB)) (fun y=>(y.Name,y.Kind,y.bP,y.b7,y.To,y.cz,y.cR,y.cv,y.Default,y.bA,y.Words)) (l:=fun k i o=>iter (ts:=oW) (R:=List aB) k (rX fun v=>some v) x0 i o) (b:=128) hx.1 (by omega) (fun _ _ _=>rfl) (fun y hy=>F8 (hx.2 y hy)) (fun _=>rfl)
theorem F9 {x0:aC} (hx:aC.sd x0):Yd (fun k=>ie k x0) (x0.Kind,x0.aU):=by
 unfold ie
 exact Yd.bind (EL hx.2) (Yd.pure)
theorem EM {x0:List aC} (hx:gW aC.sd x0):Yd (fun k=>jU k x0) x0:=by
 unfold jU
 exact TH (d:=(default:aC)) (F:=fun k y=>ie k y) (g:=fun J0=>(⟨J0.1,J0.2⟩:aC)) (fun y=>(y.Kind,y.aU)) (l:=fun k i o=>iter (ts:=oX) (R:=List aC) k (rY fun v=>some v) x0 i o) (b:=40) hx.1 (by omega) (fun _ _ _=>rfl) (fun y hy=>F9 (hx.2 y hy)) (fun _=>rfl)
theorem F_ {x0:List aD} (hx:gW aD.sd x0):Yd (fun k=>lC k x0) x0:=by
 unfold lC
 exact wu (d:=(default:aD)) (F:=fun k y=>gq k y) (l:=fun k i o=>iter (ts:=pD) (R:=List aD) k (tK fun v=>some v) x0 i o) (b:=96) hx.1 (by omega) (fun _ _ _=>rfl) (fun y hy=>A6 (hx.2 y hy))
theorem Ga {x0:List aJ} (hx:gW aJ.sd x0):Yd (fun k=>lD k x0) x0:=by
 unfold lD
 exact wu (d:=(default:aJ)) (F:=fun k y=>gr k y) (l:=fun k i o=>iter (ts:=pE) (R:=List aJ) k (tL fun v=>some v) x0 i o) (b:=32) hx.1 (by omega) (fun _ _ _=>rfl) (fun y hy=>A7 (hx.2 y hy))
theorem zE {x0:aH} (hx:aH.sd x0):Yd (fun k=>kE k x0) (x0.bS,x0.ib,x0.eg):=by
 unfold kE
 exact Yd.bind (EM hx.1) (Yd.bind (F_ hx.2.1) (Yd.bind (Ga hx.2.2) (Yd.pure)))
theorem EN {x0:aA} (hx:aA.sd x0):Yd (fun k=>gA k x0) (x0.Kind,x0.Name,x0.aZ,x0.Ending,x0.Version,x0.aN,x0.bX):=by
 unfold gA
 exact Yd.bind (qT hx.2.2.2.1) (Yd.bind (qT hx.2.2.2.2.2.1) (Yd.pure))
theorem Dp {x0:List aA} (hx:gW aA.sd x0):Yd (fun k=>jf k x0) x0:=by
 unfold jf
 exact TH (d:=(default:aA)) (F:=fun k y=>gA k y) (g:=fun J0=>(⟨J0.1,J0.2.1,J0.2.2.1,J0.2.2.2.2.2.1,J0.2.2.2.1,J0.2.2.2.2.2.2,J0.2.2.2.2.1⟩:aA)) (fun y=>(y.Kind,y.Name,y.aZ,y.Ending,y.Version,y.aN,y.bX)) (l:=fun k i o=>iter (ts:=nE) (R:=List aA) k (q7 fun v=>some v) x0 i o) (b:=112) hx.1 (by omega) (fun _ _ _=>rfl) (fun y hy=>EN (hx.2 y hy)) (fun _=>rfl)
theorem NX {x0:List Int} (hx:gW jS x0):Yd (fun k=>uX k x0) x0:=by
 unfold uX
 exact wu (d:=(0:Int)) (F:=fun _ y=>some y) (l:=fun k i o=>iter (ts:=xc) (R:=List Int) k (BJ fun v=>some v) x0 i o) (b:=8) hx.1 (by omega) (fun _ _ _=>rfl) (fun y _=>Yd.pure)
theorem H_ {x0:bD} (hx:bD.sd x0):Yd (fun k=>nj k x0) (x0.Kind,x0.aZ,x0.cT,x0.cB):=by
 unfold nj
 exact Yd.bind (NX hx.1) (Yd.pure)
theorem Gb {x0:aK} (hx:aK.sd x0):Yd (fun k=>ig k x0) (x0.Number,x0.To,x0.By,x0.cP.Kind,x0.cP.aZ,x0.cP.cT,x0.cP.cB):=by
 unfold ig
 exact Yd.bind (H_ hx.2.2.2) (Yd.pure)
theorem EO {x0:List aK} (hx:gW aK.sd x0):Yd (fun k=>jY k x0) x0:=by
 unfold jY
 exact TH (d:=(default:aK)) (F:=fun k y=>ig k y) (g:=fun J0=>(⟨J0.1,J0.2.1,J0.2.2.1,(⟨J0.2.2.2.2.2.2,J0.2.2.2.1,J0.2.2.2.2.1,J0.2.2.2.2.2.1⟩:bD)⟩:aK)) (fun y=>(y.Number,y.To,y.By,y.cP.Kind,y.cP.aZ,y.cP.cT,y.cP.cB)) (l:=fun k i o=>iter (ts:=o4) (R:=List aK) k (r6 fun v=>some v) x0 i o) (b:=112) hx.1 (by omega) (fun _ _ _=>rfl) (fun y hy=>Gb (hx.2 y hy)) (fun _=>rfl)
theorem Dq {x0:List aI} (hx:gW aI.sd x0):Yd (fun k=>jg k x0) x0:=by
 unfold jg
 exact wu (d:=(default:aI)) (F:=fun k y=>eA k y) (l:=fun k i o=>iter (ts:=nF) (R:=List aI) k (q8 fun v=>some v) x0 i o) (b:=48) hx.1 (by omega) (fun _ _ _=>rfl) (fun y hy=>xU (hx.2 y hy))
theorem EP {x0:List aL} (hx:gW aL.sd x0):Yd (fun k=>jZ k x0) x0:=by
 unfold jZ
 exact wu (d:=(default:aL)) (F:=fun k y=>fj k y) (l:=fun k i o=>iter (ts:=o5) (R:=List aL) k (r8 fun v=>some v) x0 i o) (b:=64) hx.1 (by omega) (fun _ _ _=>rfl) (fun y hy=>zP (hx.2 y hy))
theorem xS {x0:aE} (hx:aE.sd x0):Yd (fun k=>jh k x0) (x0.GL,x0.pd,x0.lh,x0.aF,x0.bZ,x0.aT,x0.bN):=by
 unfold jh
 exact Yd.bind (Dp hx.2.2.2.1) (Yd.bind (EO hx.2.2.2.2.1) (Yd.bind (Dq hx.2.2.2.2.2.1) (Yd.bind (EP hx.2.2.2.2.2.2) (Yd.pure))))
end Go.Proofs.YtljfmaaadnoggaaGreatDoor.Pu
