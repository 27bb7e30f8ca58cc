/- The laws' own functions on data: what takes a size away, what copies, what compares. No condition. -/
import Derived.Test.YtjkbbdldmdajkaaGreatDoorPvA
set_option linter.unusedSimpArgs false
set_option linter.unusedVariables false
namespace Go.Proofs.YtjkbbdldmdajkaaGreatDoor.Pu
open Go Go.RowKit Go.Proofs.YtjkbbdldmdajkaaGreatDoor.c_ Go.Proofs.YtjkbbdldmdajkaaGreatDoor.Fn
def _root_.Go.Proofs.YtjkbbdldmdajkaaGreatDoor.c_.aC.sd (x:aC):Prop:=dt x.Name∧mS x.Kind∧mS x.bS∧mS x.bT∧lE dt x.Words∧dt x.To∧mS x.cG∧mS x.c6∧mS x.ct∧dt x.Default∧dt x.bE
def _root_.Go.Proofs.YtjkbbdldmdajkaaGreatDoor.c_.aD.sd (x:aD):Prop:=dt x.Kind∧lE aC.sd x.aV
def _root_.Go.Proofs.YtjkbbdldmdajkaaGreatDoor.c_.aH.sd (x:aH):Prop:=dt x.Kind∧dt x.Field∧dt x.dk∧dt x.Is∧dt x.tp∧dt x.cS
def _root_.Go.Proofs.YtjkbbdldmdajkaaGreatDoor.c_.aJ.sd (x:aJ):Prop:=dt x.Name∧dt x.ia
def _root_.Go.Proofs.YtjkbbdldmdajkaaGreatDoor.c_.aL.sd (x:aL):Prop:=lE aD.sd x.cg∧lE aH.sd x.iO∧lE aJ.sd x.dY
def _root_.Go.Proofs.YtjkbbdldmdajkaaGreatDoor.c_.aA.sd (x:aA):Prop:=dt x.Kind∧dt x.Name∧dt x.aX∧lE dt x.aR∧mS x.Ending∧lE dt x.b7∧mS x.Version
def _root_.Go.Proofs.YtjkbbdldmdajkaaGreatDoor.c_.bG.sd (x:bG):Prop:=lE mS x.b_∧dt x.Kind∧dt x.aX∧dt x.cU
def _root_.Go.Proofs.YtjkbbdldmdajkaaGreatDoor.c_.aF.sd (x:aF):Prop:=mS x.Number∧dt x.To∧dt x.By∧bG.sd x.cJ
def _root_.Go.Proofs.YtjkbbdldmdajkaaGreatDoor.c_.aB.sd (x:aB):Prop:=dt x.aX∧dt x.aN∧mS x.bT∧mS x.gG
def _root_.Go.Proofs.YtjkbbdldmdajkaaGreatDoor.c_.aE.sd (x:aE):Prop:=dt x.fM∧dt x.aX∧dt x.aN∧mS x.cF∧mS x.dX
def _root_.Go.Proofs.YtjkbbdldmdajkaaGreatDoor.c_.aG.sd (x:aG):Prop:=mS x.vo∧mS x.dR∧mS x.dP∧lE aA.sd x.aO∧lE aF.sd x.bI∧lE aB.sd x.aK∧lE aE.sd x.aW
def _root_.Go.Proofs.YtjkbbdldmdajkaaGreatDoor.c_.GW.sd (x:GW):Prop:=dt x.kind∧dt x.name
def _root_.Go.Proofs.YtjkbbdldmdajkaaGreatDoor.c_.cq.sd (x:cq):Prop:=dt x.dO∧dt x.resource
def _root_.Go.Proofs.YtjkbbdldmdajkaaGreatDoor.c_.eV.sd (x:eV):Prop:=mS x.code∧mS x.place
def _root_.Go.Proofs.YtjkbbdldmdajkaaGreatDoor.c_.bJ.sd (x:bJ):Prop:=aC.sd x.aC
def _root_.Go.Proofs.YtjkbbdldmdajkaaGreatDoor.c_.cy.sd (x:cy):Prop:=dt x.Key∧mS x.Mv
def _root_.Go.Proofs.YtjkbbdldmdajkaaGreatDoor.c_.c5.sd (x:c5):Prop:=cq.sd x.Key∧mS x.Mv
def _root_.Go.Proofs.YtjkbbdldmdajkaaGreatDoor.c_.cN.sd (x:cN):Prop:=mS x.t∧mS x.x
theorem uL {x0:List (List UInt8)} (hx:DN dB x0) {n:Int} (h0:0≤n) (hn:n≤1048576):iQ (fun k=>kZ k x0 n) n ((lE dt) x0):=by
 unfold kZ;refine IK (d:=([]:List UInt8)) (p:=dt) (F:=fun k y v=>(some (bO .i64 v (y.length:Int)))) (l:=fun k v i=>iter (ts:=vG) (R:=Int) k (zA fun v=>some v) x0 v i) hx.1 hn h0 (fun _ _ _=>rfl) fun y hy n h0 hn=>?_;have hy':=hx.2 y hy;unfold dB at hy';have hm:=max_eq;have e:bO .i64 n (y.length:Int)=n-y.length:=Sr (by omega) (by omega);exact ⟨_,Yd.pure,by omega,fun h=>by unfold dt;omega⟩
theorem Hv {x0:aC} (hx:aC.ok x0) {n:Int} (h0:0≤n) (hn:n≤1048576):iQ (fun k=>k_ k x0 n) n (aC.sd x0):=by
 unfold k_;exact iQ.str h0 hn hx.1 fun a0 b0 s0=>iQ.call (uL hx.2.2.2.2.1 a0 b0) a0 b0 fun v1 a1 b1 _ s1=>iQ.str a1 b1 hx.2.2.2.2.2.1 fun a2 b2 s2=>iQ.str a2 b2 hx.2.2.2.2.2.2.2.2.2.1 fun a3 b3 s3=>iQ.str a3 b3 hx.2.2.2.2.2.2.2.2.2.2 fun a4 b4 s4=>iQ.done ⟨s0,trivial,trivial,trivial,s1,s2,trivial,trivial,trivial,s3,s4⟩
theorem F_ {x0:List aC} (hx:DN aC.ok x0) {n:Int} (h0:0≤n) (hn:n≤1048576):iQ (fun k=>ny k x0 n) n ((lE aC.sd) x0):=by
 unfold ny;exact IK (d:=(default:aC)) (p:=aC.sd) (F:=fun k y v=>k_ k y v) (l:=fun k v i=>iter (ts:=rA) (R:=Int) k (vH fun v=>some v) x0 v i) hx.1 hn h0 (fun _ _ _=>rfl) (fun y hy n h0 hn=>Hv (hx.2 y hy) h0 hn)
theorem Hw {x0:aD} (hx:aD.ok x0) {n:Int} (h0:0≤n) (hn:n≤1048576):iQ (fun k=>la k x0 n) n (aD.sd x0):=by
 unfold la;exact iQ.str h0 hn hx.1 fun a0 b0 s0=>iQ.call (F_ hx.2 a0 b0) a0 b0 fun v1 a1 b1 _ s1=>iQ.done ⟨s0,s1⟩
theorem Ga {x0:List aD} (hx:DN aD.ok x0) {n:Int} (h0:0≤n) (hn:n≤1048576):iQ (fun k=>nz k x0 n) n ((lE aD.sd) x0):=by
 unfold nz;exact IK (d:=(default:aD)) (p:=aD.sd) (F:=fun k y v=>la k y v) (l:=fun k v i=>iter (ts:=rB) (R:=Int) k (vI fun v=>some v) x0 v i) hx.1 hn h0 (fun _ _ _=>rfl) (fun y hy n h0 hn=>Hw (hx.2 y hy) h0 hn)
theorem IN {x0:aH} (hx:aH.ok x0) {n:Int} (h0:0≤n) (hn:n≤1048576):iQ (fun k=>mJ k x0 n) n (aH.sd x0):=by
 unfold mJ;exact iQ.str h0 hn hx.1 fun a0 b0 s0=>iQ.str a0 b0 hx.2.1 fun a1 b1 s1=>iQ.str a1 b1 hx.2.2.1 fun a2 b2 s2=>iQ.str a2 b2 hx.2.2.2.1 fun a3 b3 s3=>iQ.str a3 b3 hx.2.2.2.2.1 fun a4 b4 s4=>iQ.str a4 b4 hx.2.2.2.2.2 fun a5 b5 s5=>iQ.done ⟨s0,s1,s2,s3,s4,s5⟩
theorem Hy {x0:List aH} (hx:DN aH.ok x0) {n:Int} (h0:0≤n) (hn:n≤1048576):iQ (fun k=>oM k x0 n) n ((lE aH.sd) x0):=by
 unfold oM;exact IK (d:=(default:aH)) (p:=aH.sd) (F:=fun k y v=>mJ k y v) (l:=fun k v i=>iter (ts:=sk) (R:=Int) k (wR fun v=>some v) x0 v i) hx.1 hn h0 (fun _ _ _=>rfl) (fun y hy n h0 hn=>IN (hx.2 y hy) h0 hn)
theorem IP {x0:aJ} (hx:aJ.ok x0) {n:Int} (h0:0≤n) (hn:n≤1048576):iQ (fun k=>mL k x0 n) n (aJ.sd x0):=by
 unfold mL;exact iQ.str h0 hn hx.1 fun a0 b0 s0=>iQ.str a0 b0 hx.2 fun a1 b1 s1=>iQ.done ⟨s0,s1⟩
theorem Hz {x0:List aJ} (hx:DN aJ.ok x0) {n:Int} (h0:0≤n) (hn:n≤1048576):iQ (fun k=>oN k x0 n) n ((lE aJ.sd) x0):=by
 unfold oN;exact IK (d:=(default:aJ)) (p:=aJ.sd) (F:=fun k y v=>mL k y v) (l:=fun k v i=>iter (ts:=sm) (R:=Int) k (wS fun v=>some v) x0 v i) hx.1 hn h0 (fun _ _ _=>rfl) (fun y hy n h0 hn=>IP (hx.2 y hy) h0 hn)
theorem uz {x0:aL} (hx:aL.ok x0) {n:Int} (h0:0≤n) (hn:n≤1048576):iQ (fun k=>kV k x0 n) n (aL.sd x0):=by
 unfold kV;exact iQ.call (Ga hx.1 h0 hn) h0 hn fun v0 a0 b0 _ s0=>iQ.call (Hy hx.2.1 a0 b0) a0 b0 fun v1 a1 b1 _ s1=>iQ.call (Hz hx.2.2 a1 b1) a1 b1 fun v2 a2 b2 _ s2=>iQ.done ⟨s0,s1,s2⟩
theorem Gb {x0:aA} (hx:aA.ok x0) {n:Int} (h0:0≤n) (hn:n≤1048576):iQ (fun k=>js k x0 n) n (aA.sd x0):=by
 unfold js;exact iQ.str h0 hn hx.1 fun a0 b0 s0=>iQ.str a0 b0 hx.2.1 fun a1 b1 s1=>iQ.str a1 b1 hx.2.2.1 fun a2 b2 s2=>iQ.call (uL hx.2.2.2.1 a2 b2) a2 b2 fun v3 a3 b3 _ s3=>iQ.call (uL hx.2.2.2.2.2.1 a3 b3) a3 b3 fun v4 a4 b4 _ s4=>iQ.done ⟨s0,s1,s2,s3,trivial,s4,trivial⟩
theorem Ev {x0:List aA} (hx:DN aA.ok x0) {n:Int} (h0:0≤n) (hn:n≤1048576):iQ (fun k=>lW k x0 n) n ((lE aA.sd) x0):=by
 unfold lW;exact IK (d:=(default:aA)) (p:=aA.sd) (F:=fun k y v=>js k y v) (l:=fun k v i=>iter (ts:=pV) (R:=Int) k (tP fun v=>some v) x0 v i) hx.1 hn h0 (fun _ _ _=>rfl) (fun y hy n h0 hn=>Gb (hx.2 y hy) h0 hn)
theorem Pk {x0:List Int} (hx:DN (jr .i64) x0) {n:Int} (h0:0≤n) (hn:n≤1048576):iQ (fun k=>zD k x0 n) n ((lE mS) x0):=by
 unfold zD;exact iQ.str h0 hn hx.1 fun _ _ a=>iQ.done ⟨a,fun _ _=>trivial⟩
theorem IQ {x0:bG} (hx:bG.ok x0) {n:Int} (h0:0≤n) (hn:n≤1048576):iQ (fun k=>qj k x0 n) n (bG.sd x0):=by
 unfold qj;exact iQ.call (Pk hx.1 h0 hn) h0 hn fun v0 a0 b0 _ s0=>iQ.str a0 b0 hx.2.1 fun a1 b1 s1=>iQ.str a1 b1 hx.2.2.1 fun a2 b2 s2=>iQ.str a2 b2 hx.2.2.2 fun a3 b3 s3=>iQ.done ⟨s0,s1,s2,s3⟩
theorem HA {x0:aF} (hx:aF.ok x0) {n:Int} (h0:0≤n) (hn:n≤1048576):iQ (fun k=>lb k x0 n) n (aF.sd x0):=by
 unfold lb;exact iQ.str h0 hn hx.2.1 fun a0 b0 s0=>iQ.str a0 b0 hx.2.2.1 fun a1 b1 s1=>iQ.call (IQ hx.2.2.2 a1 b1) a1 b1 fun v2 a2 b2 _ s2=>iQ.done ⟨trivial,s0,s1,s2⟩
theorem Gc {x0:List aF} (hx:DN aF.ok x0) {n:Int} (h0:0≤n) (hn:n≤1048576):iQ (fun k=>nA k x0 n) n ((lE aF.sd) x0):=by
 unfold nA;exact IK (d:=(default:aF)) (p:=aF.sd) (F:=fun k y v=>lb k y v) (l:=fun k v i=>iter (ts:=rC) (R:=Int) k (vK fun v=>some v) x0 v i) hx.1 hn h0 (fun _ _ _=>rfl) (fun y hy n h0 hn=>HA (hx.2 y hy) h0 hn)
theorem Gd {x0:aB} (hx:aB.ok x0) {n:Int} (h0:0≤n) (hn:n≤1048576):iQ (fun k=>jt k x0 n) n (aB.sd x0):=by
 unfold jt;exact iQ.str h0 hn hx.1 fun a0 b0 s0=>iQ.str a0 b0 hx.2.1 fun a1 b1 s1=>iQ.done ⟨s0,s1,trivial,trivial⟩
theorem Ew {x0:List aB} (hx:DN aB.ok x0) {n:Int} (h0:0≤n) (hn:n≤1048576):iQ (fun k=>lX k x0 n) n ((lE aB.sd) x0):=by
 unfold lX;exact IK (d:=(default:aB)) (p:=aB.sd) (F:=fun k y v=>jt k y v) (l:=fun k v i=>iter (ts:=pW) (R:=Int) k (tQ fun v=>some v) x0 v i) hx.1 hn h0 (fun _ _ _=>rfl) (fun y hy n h0 hn=>Gd (hx.2 y hy) h0 hn)
theorem HB {x0:aE} (hx:aE.ok x0) {n:Int} (h0:0≤n) (hn:n≤1048576):iQ (fun k=>lg k x0 n) n (aE.sd x0):=by
 unfold lg;exact iQ.str h0 hn hx.1 fun a0 b0 s0=>iQ.str a0 b0 hx.2.1 fun a1 b1 s1=>iQ.str a1 b1 hx.2.2.1 fun a2 b2 s2=>iQ.done ⟨s0,s1,s2,trivial,trivial⟩
theorem Ge {x0:List aE} (hx:DN aE.ok x0) {n:Int} (h0:0≤n) (hn:n≤1048576):iQ (fun k=>nB k x0 n) n ((lE aE.sd) x0):=by
 unfold nB;exact IK (d:=(default:aE)) (p:=aE.sd) (F:=fun k y v=>lg k y v) (l:=fun k v i=>iter (ts:=rD) (R:=Int) k (vM fun v=>some v) x0 v i) hx.1 hn h0 (fun _ _ _=>rfl) (fun y hy n h0 hn=>HB (hx.2 y hy) h0 hn)
theorem sX {x0:aG} (hx:aG.ok x0) {n:Int} (h0:0≤n) (hn:n≤1048576):iQ (fun k=>iY k x0 n) n (aG.sd x0):=by
 unfold iY;exact iQ.call (Ev hx.2.2.2.1 h0 hn) h0 hn fun v0 a0 b0 _ s0=>iQ.call (Gc hx.2.2.2.2.1 a0 b0) a0 b0 fun v1 a1 b1 _ s1=>iQ.call (Ew hx.2.2.2.2.2.1 a1 b1) a1 b1 fun v2 a2 b2 _ s2=>iQ.call (Ge hx.2.2.2.2.2.2 a2 b2) a2 b2 fun v3 a3 b3 _ s3=>iQ.done ⟨trivial,trivial,trivial,s0,s1,s2,s3⟩
theorem IS {x0:aH} (_:aH.sd x0):Yd (fun k=>mC k x0) x0:=by
 unfold mC;exact Yd.pure
theorem IU {x0:aJ} (_:aJ.sd x0):Yd (fun k=>mD k x0) x0:=by
 unfold mD;exact Yd.pure
theorem Gf {x0:aB} (_:aB.sd x0):Yd (fun k=>jh k x0) x0:=by
 unfold jh;exact Yd.pure
theorem HC {x0:aE} (_:aE.sd x0):Yd (fun k=>kT k x0) x0:=by
 unfold kT;exact Yd.pure
theorem uM {x0:List (List UInt8)} (hx:DN dB x0):Yd (fun k=>kN k x0 x0) true:=by
 unfold kN;exact GO (d:=([]:List UInt8)) (F:=fun _ a b=>some (seq a b)) (l:=fun k i=>iter (ts:=vp) (R:=Bool) k (zm (some true)) x0 x0 i) hx.1 (fun _ _=>rfl) (fun y _=>Yd.of fun _=>by rw [p8])
theorem Gg {x0:aA} (hx:aA.ok x0):Yd (fun k=>je k x0 x0) true:=by
 unfold je;exact Yd.cn (by simp [seq,bH,c_.beq]) (Yd.cn (by simp [seq,bH,c_.beq]) (Yd.cn (by simp [seq,bH,c_.beq]) (Yd.bind (uM hx.2.2.2.1) (Yd.cn (by simp) (Yd.cn (by simp [seq,bH,c_.beq]) (Yd.bind (uM hx.2.2.2.2.2.1) (Yd.cn (by simp) (Yd.cn (by simp [seq,bH,c_.beq]) (Yd.pure)))))))))
theorem Ex {x0:List aA} (hx:DN aA.ok x0):Yd (fun k=>lO k x0 x0) true:=by
 unfold lO;exact GO (d:=(default:aA)) (F:=fun k a b=>je k a b) (l:=fun k i=>iter (ts:=pN) (R:=Bool) k (tv (some true)) x0 x0 i) hx.1 (fun _ _=>rfl) (fun y hy=>Gg (hx.2 y hy))
theorem Pl {x0:List Int} (hx:DN (jr .i64) x0):Yd (fun k=>zo k x0 x0) true:=by
 unfold zo;exact GO (d:=(0:Int)) (F:=fun _ a b=>some (bH a b)) (l:=fun k i=>iter (ts:=zn) (R:=Bool) k (DQ (some true)) x0 x0 i) hx.1 (fun _ _=>rfl) (fun y _=>Yd.of fun _=>by rw [iy])
theorem IV {x0:bG} (hx:bG.ok x0):Yd (fun k=>qh k x0 x0) true:=by
 unfold qh;exact Yd.bind (Pl hx.1) (Yd.cn (by simp) (Yd.cn (by simp [seq,bH,c_.beq]) (Yd.cn (by simp [seq,bH,c_.beq]) (Yd.cn (by simp [seq,bH,c_.beq]) (Yd.pure)))))
theorem HD {x0:aF} (hx:aF.ok x0):Yd (fun k=>kO k x0 x0) true:=by
 unfold kO;exact Yd.cn (by simp [seq,bH,c_.beq]) (Yd.cn (by simp [seq,bH,c_.beq]) (Yd.cn (by simp [seq,bH,c_.beq]) (Yd.bind (IV hx.2.2.2) (Yd.cn (by simp) (Yd.pure)))))
theorem Gh {x0:List aF} (hx:DN aF.ok x0):Yd (fun k=>nr k x0 x0) true:=by
 unfold nr;exact GO (d:=(default:aF)) (F:=fun k a b=>kO k a b) (l:=fun k i=>iter (ts:=rk) (R:=Bool) k (vt (some true)) x0 x0 i) hx.1 (fun _ _=>rfl) (fun y hy=>HD (hx.2 y hy))
theorem Gi {x0:aB} (_:aB.ok x0):Yd (fun k=>jf k x0 x0) true:=by
 unfold jf;exact Yd.cn (by simp [seq,bH,c_.beq]) (Yd.cn (by simp [seq,bH,c_.beq]) (Yd.cn (by simp [seq,bH,c_.beq]) (Yd.cn (by simp [seq,bH,c_.beq]) (Yd.pure))))
theorem Ey {x0:List aB} (hx:DN aB.ok x0):Yd (fun k=>lP k x0 x0) true:=by
 unfold lP;exact GO (d:=(default:aB)) (F:=fun k a b=>jf k a b) (l:=fun k i=>iter (ts:=pO) (R:=Bool) k (tw (some true)) x0 x0 i) hx.1 (fun _ _=>rfl) (fun y hy=>Gi (hx.2 y hy))
theorem HE {x0:aE} (_:aE.ok x0):Yd (fun k=>kP k x0 x0) true:=by
 unfold kP;exact Yd.cn (by simp [seq,bH,c_.beq]) (Yd.cn (by simp [seq,bH,c_.beq]) (Yd.cn (by simp [seq,bH,c_.beq]) (Yd.cn (by simp [seq,bH,c_.beq]) (Yd.cn (by simp [seq,bH,c_.beq]) (Yd.pure)))))
theorem Gj {x0:List aE} (hx:DN aE.ok x0):Yd (fun k=>ns k x0 x0) true:=by
 unfold ns;exact GO (d:=(default:aE)) (F:=fun k a b=>kP k a b) (l:=fun k i=>iter (ts:=rl) (R:=Bool) k (vw (some true)) x0 x0 i) hx.1 (fun _ _=>rfl) (fun y hy=>HE (hx.2 y hy))
theorem gz {x0:aG} (hx:aG.ok x0):Yd (fun k=>cm k x0 x0) true:=by
 unfold cm;exact Yd.cn (by simp [seq,bH,c_.beq]) (Yd.cn (by simp [seq,bH,c_.beq]) (Yd.cn (by simp [seq,bH,c_.beq]) (Yd.bind (Ex hx.2.2.2.1) (Yd.cn (by simp) (Yd.bind (Gh hx.2.2.2.2.1) (Yd.cn (by simp) (Yd.bind (Ey hx.2.2.2.2.2.1) (Yd.cn (by simp) (Yd.bind (Gj hx.2.2.2.2.2.2) (Yd.cn (by simp) (Yd.pure)))))))))))
theorem HF {x0:aC} (hx:aC.ok x0):Yd (fun k=>kQ k x0 x0) true:=by
 unfold kQ;exact Yd.cn (by simp [seq,bH,c_.beq]) (Yd.cn (by simp [seq,bH,c_.beq]) (Yd.cn (by simp [seq,bH,c_.beq]) (Yd.cn (by simp [seq,bH,c_.beq]) (Yd.bind (uM hx.2.2.2.2.1) (Yd.cn (by simp) (Yd.cn (by simp [seq,bH,c_.beq]) (Yd.cn (by simp [seq,bH,c_.beq]) (Yd.cn (by simp [seq,bH,c_.beq]) (Yd.cn (by simp [seq,bH,c_.beq]) (Yd.cn (by simp [seq,bH,c_.beq]) (Yd.cn (by simp [seq,bH,c_.beq]) (Yd.pure))))))))))))
theorem Gk {x0:List aC} (hx:DN aC.ok x0):Yd (fun k=>nv k x0 x0) true:=by
 unfold nv;exact GO (d:=(default:aC)) (F:=fun k a b=>kQ k a b) (l:=fun k i=>iter (ts:=rm) (R:=Bool) k (vx (some true)) x0 x0 i) hx.1 (fun _ _=>rfl) (fun y hy=>HF (hx.2 y hy))
theorem HG {x0:aD} (hx:aD.ok x0):Yd (fun k=>kR k x0 x0) true:=by
 unfold kR;exact Yd.cn (by simp [seq,bH,c_.beq]) (Yd.bind (Gk hx.2) (Yd.cn (by simp) (Yd.pure)))
theorem Gl {x0:List aD} (hx:DN aD.ok x0):Yd (fun k=>nw k x0 x0) true:=by
 unfold nw;exact GO (d:=(default:aD)) (F:=fun k a b=>kR k a b) (l:=fun k i=>iter (ts:=rn) (R:=Bool) k (vy (some true)) x0 x0 i) hx.1 (fun _ _=>rfl) (fun y hy=>HG (hx.2 y hy))
theorem IW {x0:aH} (_:aH.ok x0):Yd (fun k=>mz k x0 x0) true:=by
 unfold mz;exact Yd.cn (by simp [seq,bH,c_.beq]) (Yd.cn (by simp [seq,bH,c_.beq]) (Yd.cn (by simp [seq,bH,c_.beq]) (Yd.cn (by simp [seq,bH,c_.beq]) (Yd.cn (by simp [seq,bH,c_.beq]) (Yd.cn (by simp [seq,bH,c_.beq]) (Yd.pure))))))
theorem HH {x0:List aH} (hx:DN aH.ok x0):Yd (fun k=>oG k x0 x0) true:=by
 unfold oG;exact GO (d:=(default:aH)) (F:=fun k a b=>mz k a b) (l:=fun k i=>iter (ts:=rY) (R:=Bool) k (wH (some true)) x0 x0 i) hx.1 (fun _ _=>rfl) (fun y hy=>IW (hx.2 y hy))
theorem IX {x0:aJ} (_:aJ.ok x0):Yd (fun k=>mB k x0 x0) true:=by
 unfold mB;exact Yd.cn (by simp [seq,bH,c_.beq]) (Yd.cn (by simp [seq,bH,c_.beq]) (Yd.pure))
theorem HI {x0:List aJ} (hx:DN aJ.ok x0):Yd (fun k=>oH k x0 x0) true:=by
 unfold oH;exact GO (d:=(default:aJ)) (F:=fun k a b=>mB k a b) (l:=fun k i=>iter (ts:=rZ) (R:=Bool) k (wI (some true)) x0 x0 i) hx.1 (fun _ _=>rfl) (fun y hy=>IX (hx.2 y hy))
theorem uA {x0:aL} (hx:aL.ok x0):Yd (fun k=>kS k x0 x0) true:=by
 unfold kS;exact Yd.bind (Gl hx.1) (Yd.cn (by simp) (Yd.bind (HH hx.2.1) (Yd.cn (by simp) (Yd.bind (HI hx.2.2) (Yd.cn (by simp) (Yd.pure))))))
theorem rf {x0:List (List UInt8)} (hx:lE dt x0):Yd (fun k=>ib k x0) x0:=by
 unfold ib;exact Nt (d:=([]:List UInt8)) (F:=fun _ y=>some y) (l:=fun k i o=>iter (ts:=r4) (R:=List (List UInt8)) k (wK fun v=>some v) x0 i o) (b:=16) hx.1 (by omega) (fun _ _ _=>rfl) (fun y _=>Yd.pure)
theorem Ez {x0:aC} (hx:aC.sd x0):Yd (fun k=>iv k x0) (x0.Name,x0.Kind,x0.bS,x0.bT,x0.To,x0.cG,x0.c6,x0.ct,x0.Default,x0.bE,x0.Words):=by
 unfold iv;exact Yd.bind (rf hx.2.2.2.2.1) (Yd.pure)
theorem DD {x0:List aC} (hx:lE aC.sd x0):Yd (fun k=>jW k x0) x0:=by
 unfold jW;exact Ro (d:=(default:aC)) (F:=fun k y=>iv k y) (g:=fun Ib=>(⟨Ib.1,Ib.2.1,Ib.2.2.1,Ib.2.2.2.1,Ib.2.2.2.2.2.2.2.2.2.2,Ib.2.2.2.2.1,Ib.2.2.2.2.2.1,Ib.2.2.2.2.2.2.1,Ib.2.2.2.2.2.2.2.1,Ib.2.2.2.2.2.2.2.2.1,Ib.2.2.2.2.2.2.2.2.2.1⟩:aC)) (fun y=>(y.Name,y.Kind,y.bS,y.bT,y.To,y.cG,y.c6,y.ct,y.Default,y.bE,y.Words)) (l:=fun k i o=>iter (ts:=pd) (R:=List aC) k (r5 fun v=>some v) x0 i o) (b:=128) hx.1 (by omega) (fun _ _ _=>rfl) (fun y hy=>Ez (hx.2 y hy)) (fun _=>rfl)
theorem EA {x0:aD} (hx:aD.sd x0):Yd (fun k=>iw k x0) (x0.Kind,x0.aV):=by
 unfold iw;exact Yd.bind (DD hx.2) (Yd.pure)
theorem DE {x0:List aD} (hx:lE aD.sd x0):Yd (fun k=>jX k x0) x0:=by
 unfold jX;exact Ro (d:=(default:aD)) (F:=fun k y=>iw k y) (g:=fun Ib=>(⟨Ib.1,Ib.2⟩:aD)) (fun y=>(y.Kind,y.aV)) (l:=fun k i o=>iter (ts:=pe) (R:=List aD) k (r6 fun v=>some v) x0 i o) (b:=40) hx.1 (by omega) (fun _ _ _=>rfl) (fun y hy=>EA (hx.2 y hy)) (fun _=>rfl)
theorem EB {x0:List aH} (hx:lE aH.sd x0):Yd (fun k=>lQ k x0) x0:=by
 unfold lQ;exact Nt (d:=(default:aH)) (F:=fun k y=>mC k y) (l:=fun k i o=>iter (ts:=pP) (R:=List aH) k (tA fun v=>some v) x0 i o) (b:=96) hx.1 (by omega) (fun _ _ _=>rfl) (fun y hy=>IS (hx.2 y hy))
theorem EC {x0:List aJ} (hx:lE aJ.sd x0):Yd (fun k=>lR k x0) x0:=by
 unfold lR;exact Nt (d:=(default:aJ)) (F:=fun k y=>mD k y) (l:=fun k i o=>iter (ts:=pQ) (R:=List aJ) k (tB fun v=>some v) x0 i o) (b:=32) hx.1 (by omega) (fun _ _ _=>rfl) (fun y hy=>IU (hx.2 y hy))
theorem cO {x0:aL} (hx:aL.sd x0):Yd (fun k=>cA k x0) (x0.cg,x0.iO,x0.dY):=by
 unfold cA;exact Yd.bind (DE hx.1) (Yd.bind (EB hx.2.1) (Yd.bind (EC hx.2.2) (Yd.pure)))
theorem DF {x0:aA} (hx:aA.sd x0):Yd (fun k=>gJ k x0) (x0.Kind,x0.Name,x0.aX,x0.Ending,x0.Version,x0.aR,x0.b7):=by
 unfold gJ;exact Yd.bind (rf hx.2.2.2.1) (Yd.bind (rf hx.2.2.2.2.2.1) (Yd.pure))
theorem Cp {x0:List aA} (hx:lE aA.sd x0):Yd (fun k=>jg k x0) x0:=by
 unfold jg;exact Ro (d:=(default:aA)) (F:=fun k y=>gJ k y) (g:=fun Ib=>(⟨Ib.1,Ib.2.1,Ib.2.2.1,Ib.2.2.2.2.2.1,Ib.2.2.2.1,Ib.2.2.2.2.2.2,Ib.2.2.2.2.1⟩:aA)) (fun y=>(y.Kind,y.Name,y.aX,y.Ending,y.Version,y.aR,y.b7)) (l:=fun k i o=>iter (ts:=nQ) (R:=List aA) k (ru fun v=>some v) x0 i o) (b:=112) hx.1 (by omega) (fun _ _ _=>rfl) (fun y hy=>DF (hx.2 y hy)) (fun _=>rfl)
theorem LV {x0:List Int} (hx:lE mS x0):Yd (fun k=>uS k x0) x0:=by
 unfold uS;exact Nt (d:=(0:Int)) (F:=fun _ y=>some y) (l:=fun k i o=>iter (ts:=wL) (R:=List Int) k (AH fun v=>some v) x0 i o) (b:=8) hx.1 (by omega) (fun _ _ _=>rfl) (fun y _=>Yd.pure)
theorem Gm {x0:bG} (hx:bG.sd x0):Yd (fun k=>nx k x0) (x0.Kind,x0.aX,x0.cU,x0.b_):=by
 unfold nx;exact Yd.bind (LV hx.1) (Yd.pure)
theorem ED {x0:aF} (hx:aF.sd x0):Yd (fun k=>ix k x0) (x0.Number,x0.To,x0.By,x0.cJ.Kind,x0.cJ.aX,x0.cJ.cU,x0.cJ.b_):=by
 unfold ix;exact Yd.bind (Gm hx.2.2.2) (Yd.pure)
theorem DG {x0:List aF} (hx:lE aF.sd x0):Yd (fun k=>j8 k x0) x0:=by
 unfold j8;exact Ro (d:=(default:aF)) (F:=fun k y=>ix k y) (g:=fun Ib=>(⟨Ib.1,Ib.2.1,Ib.2.2.1,(⟨Ib.2.2.2.2.2.2,Ib.2.2.2.1,Ib.2.2.2.2.1,Ib.2.2.2.2.2.1⟩:bG)⟩:aF)) (fun y=>(y.Number,y.To,y.By,y.cJ.Kind,y.cJ.aX,y.cJ.cU,y.cJ.b_)) (l:=fun k i o=>iter (ts:=ph) (R:=List aF) k (r9 fun v=>some v) x0 i o) (b:=112) hx.1 (by omega) (fun _ _ _=>rfl) (fun y hy=>ED (hx.2 y hy)) (fun _=>rfl)
theorem Cq {x0:List aB} (hx:lE aB.sd x0):Yd (fun k=>ji k x0) x0:=by
 unfold ji;exact Nt (d:=(default:aB)) (F:=fun k y=>jh k y) (l:=fun k i o=>iter (ts:=nR) (R:=List aB) k (ry fun v=>some v) x0 i o) (b:=48) hx.1 (by omega) (fun _ _ _=>rfl) (fun y hy=>Gf (hx.2 y hy))
theorem DH {x0:List aE} (hx:lE aE.sd x0):Yd (fun k=>j9 k x0) x0:=by
 unfold j9;exact Nt (d:=(default:aE)) (F:=fun k y=>kT k y) (l:=fun k i o=>iter (ts:=pj) (R:=List aE) k (sa fun v=>some v) x0 i o) (b:=64) hx.1 (by omega) (fun _ _ _=>rfl) (fun y hy=>HC (hx.2 y hy))
theorem cE {x0:aG} (hx:aG.sd x0):Yd (fun k=>cv k x0) (x0.vo,x0.dR,x0.dP,x0.aO,x0.bI,x0.aK,x0.aW):=by
 unfold cv;exact Yd.bind (Cp hx.2.2.2.1) (Yd.bind (DG hx.2.2.2.2.1) (Yd.bind (Cq hx.2.2.2.2.2.1) (Yd.bind (DH hx.2.2.2.2.2.2) (Yd.pure))))
end Go.Proofs.YtjkbbdldmdajkaaGreatDoor.Pu
