/- The laws' own functions on data: what takes a size away, what copies, what compares. No condition. -/
import Derived.Test.YtjkbbdldmdajkaaGreatDoorPvA
set_option linter.unusedSimpArgs false
set_option linter.unusedVariables false
namespace Go.Proofs.YtjkbbdldmdajkaaGreatDoor.Pu
open Go Go.RowKit Go.Proofs.YtjkbbdldmdajkaaGreatDoor.c_ Go.Proofs.YtjkbbdldmdajkaaGreatDoor.Fn
def _root_.Go.Proofs.YtjkbbdldmdajkaaGreatDoor.c_.aC.sd (x:aC):Prop:=dt x.Name∧mR x.Kind∧mR x.bS∧mR x.bT∧lD dt x.Words∧dt x.To∧mR x.cG∧mR x.c6∧mR x.ct∧dt x.Default∧dt x.bC
def _root_.Go.Proofs.YtjkbbdldmdajkaaGreatDoor.c_.aD.sd (x:aD):Prop:=dt x.Kind∧lD aC.sd x.aV
def _root_.Go.Proofs.YtjkbbdldmdajkaaGreatDoor.c_.aH.sd (x:aH):Prop:=dt x.Kind∧dt x.Field∧dt x.dk∧dt x.Is∧dt x.tl∧dt x.cR
def _root_.Go.Proofs.YtjkbbdldmdajkaaGreatDoor.c_.aJ.sd (x:aJ):Prop:=dt x.Name∧dt x.h_
def _root_.Go.Proofs.YtjkbbdldmdajkaaGreatDoor.c_.aL.sd (x:aL):Prop:=lD aD.sd x.cg∧lD aH.sd x.iN∧lD aJ.sd x.dX
def _root_.Go.Proofs.YtjkbbdldmdajkaaGreatDoor.c_.aA.sd (x:aA):Prop:=dt x.Kind∧dt x.Name∧dt x.aX∧lD dt x.aR∧mR x.Ending∧lD dt x.b7∧mR x.Version
def _root_.Go.Proofs.YtjkbbdldmdajkaaGreatDoor.c_.bF.sd (x:bF):Prop:=lD mR x.b_∧dt x.Kind∧dt x.aX∧dt x.cU
def _root_.Go.Proofs.YtjkbbdldmdajkaaGreatDoor.c_.aF.sd (x:aF):Prop:=mR x.Number∧dt x.To∧dt x.By∧bF.sd x.cJ
def _root_.Go.Proofs.YtjkbbdldmdajkaaGreatDoor.c_.aB.sd (x:aB):Prop:=dt x.aX∧dt x.aN∧mR x.bT∧mR x.gE
def _root_.Go.Proofs.YtjkbbdldmdajkaaGreatDoor.c_.aE.sd (x:aE):Prop:=dt x.fL∧dt x.aX∧dt x.aN∧mR x.cF∧mR x.dW
def _root_.Go.Proofs.YtjkbbdldmdajkaaGreatDoor.c_.aG.sd (x:aG):Prop:=mR x.vj∧mR x.dP∧mR x.dN∧lD aA.sd x.aO∧lD aF.sd x.bI∧lD aB.sd x.aK∧lD aE.sd x.aW
def _root_.Go.Proofs.YtjkbbdldmdajkaaGreatDoor.c_.GQ.sd (x:GQ):Prop:=dt x.kind∧dt x.name
def _root_.Go.Proofs.YtjkbbdldmdajkaaGreatDoor.c_.cq.sd (x:cq):Prop:=dt x.dM∧dt x.resource
def _root_.Go.Proofs.YtjkbbdldmdajkaaGreatDoor.c_.eV.sd (x:eV):Prop:=mR x.code∧mR x.place
def _root_.Go.Proofs.YtjkbbdldmdajkaaGreatDoor.c_.bJ.sd (x:bJ):Prop:=aC.sd x.aC
def _root_.Go.Proofs.YtjkbbdldmdajkaaGreatDoor.c_.cy.sd (x:cy):Prop:=dt x.Key∧mR x.Mu
def _root_.Go.Proofs.YtjkbbdldmdajkaaGreatDoor.c_.c5.sd (x:c5):Prop:=cq.sd x.Key∧mR x.Mu
def _root_.Go.Proofs.YtjkbbdldmdajkaaGreatDoor.c_.cN.sd (x:cN):Prop:=mR x.t∧mR x.x
theorem uI {x0:List (List UInt8)} (hx:DJ dA x0) {n:Int} (h0:0≤n) (hn:n≤1048576):iP (fun k=>kY k x0 n) n ((lD dt) x0):=by
 unfold kY;refine II (d:=([]:List UInt8)) (p:=dt) (F:=fun k y v=>(some (bO .i64 v (y.length:Int)))) (l:=fun k v i=>iter (ts:=vB) (R:=Int) k (zw fun v=>some v) x0 v i) hx.1 hn h0 (fun _ _ _=>rfl) fun y hy n h0 hn=>?_;have hy':=hx.2 y hy;unfold dA at hy';have hm:=max_eq;have e:bO .i64 n (y.length:Int)=n-y.length:=So (by omega) (by omega);exact ⟨_,Yd.pure,by omega,fun h=>by unfold dt;omega⟩
theorem Hq {x0:aC} (hx:aC.ok x0) {n:Int} (h0:0≤n) (hn:n≤1048576):iP (fun k=>kZ k x0 n) n (aC.sd x0):=by
 unfold kZ;exact iP.str h0 hn hx.1 fun a0 b0 s0=>iP.call (uI hx.2.2.2.2.1 a0 b0) a0 b0 fun v1 a1 b1 _ s1=>iP.str a1 b1 hx.2.2.2.2.2.1 fun a2 b2 s2=>iP.str a2 b2 hx.2.2.2.2.2.2.2.2.2.1 fun a3 b3 s3=>iP.str a3 b3 hx.2.2.2.2.2.2.2.2.2.2 fun a4 b4 s4=>iP.done ⟨s0,trivial,trivial,trivial,s1,s2,trivial,trivial,trivial,s3,s4⟩
theorem FZ {x0:List aC} (hx:DJ aC.ok x0) {n:Int} (h0:0≤n) (hn:n≤1048576):iP (fun k=>nx k x0 n) n ((lD aC.sd) x0):=by
 unfold nx;exact II (d:=(default:aC)) (p:=aC.sd) (F:=fun k y v=>kZ k y v) (l:=fun k v i=>iter (ts:=rz) (R:=Int) k (vC fun v=>some v) x0 v i) hx.1 hn h0 (fun _ _ _=>rfl) (fun y hy n h0 hn=>Hq (hx.2 y hy) h0 hn)
theorem Hr {x0:aD} (hx:aD.ok x0) {n:Int} (h0:0≤n) (hn:n≤1048576):iP (fun k=>k_ k x0 n) n (aD.sd x0):=by
 unfold k_;exact iP.str h0 hn hx.1 fun a0 b0 s0=>iP.call (FZ hx.2 a0 b0) a0 b0 fun v1 a1 b1 _ s1=>iP.done ⟨s0,s1⟩
theorem F5 {x0:List aD} (hx:DJ aD.ok x0) {n:Int} (h0:0≤n) (hn:n≤1048576):iP (fun k=>ny k x0 n) n ((lD aD.sd) x0):=by
 unfold ny;exact II (d:=(default:aD)) (p:=aD.sd) (F:=fun k y v=>k_ k y v) (l:=fun k v i=>iter (ts:=rA) (R:=Int) k (vD fun v=>some v) x0 v i) hx.1 hn h0 (fun _ _ _=>rfl) (fun y hy n h0 hn=>Hr (hx.2 y hy) h0 hn)
theorem IL {x0:aH} (hx:aH.ok x0) {n:Int} (h0:0≤n) (hn:n≤1048576):iP (fun k=>mG k x0 n) n (aH.sd x0):=by
 unfold mG;exact iP.str h0 hn hx.1 fun a0 b0 s0=>iP.str a0 b0 hx.2.1 fun a1 b1 s1=>iP.str a1 b1 hx.2.2.1 fun a2 b2 s2=>iP.str a2 b2 hx.2.2.2.1 fun a3 b3 s3=>iP.str a3 b3 hx.2.2.2.2.1 fun a4 b4 s4=>iP.str a4 b4 hx.2.2.2.2.2 fun a5 b5 s5=>iP.done ⟨s0,s1,s2,s3,s4,s5⟩
theorem Hs {x0:List aH} (hx:DJ aH.ok x0) {n:Int} (h0:0≤n) (hn:n≤1048576):iP (fun k=>oL k x0 n) n ((lD aH.sd) x0):=by
 unfold oL;exact II (d:=(default:aH)) (p:=aH.sd) (F:=fun k y v=>mG k y v) (l:=fun k v i=>iter (ts:=si) (R:=Int) k (wP fun v=>some v) x0 v i) hx.1 hn h0 (fun _ _ _=>rfl) (fun y hy n h0 hn=>IL (hx.2 y hy) h0 hn)
theorem IM {x0:aJ} (hx:aJ.ok x0) {n:Int} (h0:0≤n) (hn:n≤1048576):iP (fun k=>mJ k x0 n) n (aJ.sd x0):=by
 unfold mJ;exact iP.str h0 hn hx.1 fun a0 b0 s0=>iP.str a0 b0 hx.2 fun a1 b1 s1=>iP.done ⟨s0,s1⟩
theorem Ht {x0:List aJ} (hx:DJ aJ.ok x0) {n:Int} (h0:0≤n) (hn:n≤1048576):iP (fun k=>oM k x0 n) n ((lD aJ.sd) x0):=by
 unfold oM;exact II (d:=(default:aJ)) (p:=aJ.sd) (F:=fun k y v=>mJ k y v) (l:=fun k v i=>iter (ts:=sj) (R:=Int) k (wQ fun v=>some v) x0 v i) hx.1 hn h0 (fun _ _ _=>rfl) (fun y hy n h0 hn=>IM (hx.2 y hy) h0 hn)
theorem uw {x0:aL} (hx:aL.ok x0) {n:Int} (h0:0≤n) (hn:n≤1048576):iP (fun k=>kU k x0 n) n (aL.sd x0):=by
 unfold kU;exact iP.call (F5 hx.1 h0 hn) h0 hn fun v0 a0 b0 _ s0=>iP.call (Hs hx.2.1 a0 b0) a0 b0 fun v1 a1 b1 _ s1=>iP.call (Ht hx.2.2 a1 b1) a1 b1 fun v2 a2 b2 _ s2=>iP.done ⟨s0,s1,s2⟩
theorem F7 {x0:aA} (hx:aA.ok x0) {n:Int} (h0:0≤n) (hn:n≤1048576):iP (fun k=>js k x0 n) n (aA.sd x0):=by
 unfold js;exact iP.str h0 hn hx.1 fun a0 b0 s0=>iP.str a0 b0 hx.2.1 fun a1 b1 s1=>iP.str a1 b1 hx.2.2.1 fun a2 b2 s2=>iP.call (uI hx.2.2.2.1 a2 b2) a2 b2 fun v3 a3 b3 _ s3=>iP.call (uI hx.2.2.2.2.2.1 a3 b3) a3 b3 fun v4 a4 b4 _ s4=>iP.done ⟨s0,s1,s2,s3,trivial,s4,trivial⟩
theorem Er {x0:List aA} (hx:DJ aA.ok x0) {n:Int} (h0:0≤n) (hn:n≤1048576):iP (fun k=>lV k x0 n) n ((lD aA.sd) x0):=by
 unfold lV;exact II (d:=(default:aA)) (p:=aA.sd) (F:=fun k y v=>js k y v) (l:=fun k v i=>iter (ts:=pU) (R:=Int) k (tM fun v=>some v) x0 v i) hx.1 hn h0 (fun _ _ _=>rfl) (fun y hy n h0 hn=>F7 (hx.2 y hy) h0 hn)
theorem Ph {x0:List Int} (hx:DJ (jr .i64) x0) {n:Int} (h0:0≤n) (hn:n≤1048576):iP (fun k=>zz k x0 n) n ((lD mR) x0):=by
 unfold zz;exact iP.str h0 hn hx.1 fun _ _ a=>iP.done ⟨a,fun _ _=>trivial⟩
theorem IN {x0:bF} (hx:bF.ok x0) {n:Int} (h0:0≤n) (hn:n≤1048576):iP (fun k=>qh k x0 n) n (bF.sd x0):=by
 unfold qh;exact iP.call (Ph hx.1 h0 hn) h0 hn fun v0 a0 b0 _ s0=>iP.str a0 b0 hx.2.1 fun a1 b1 s1=>iP.str a1 b1 hx.2.2.1 fun a2 b2 s2=>iP.str a2 b2 hx.2.2.2 fun a3 b3 s3=>iP.done ⟨s0,s1,s2,s3⟩
theorem Hu {x0:aF} (hx:aF.ok x0) {n:Int} (h0:0≤n) (hn:n≤1048576):iP (fun k=>la k x0 n) n (aF.sd x0):=by
 unfold la;exact iP.str h0 hn hx.2.1 fun a0 b0 s0=>iP.str a0 b0 hx.2.2.1 fun a1 b1 s1=>iP.call (IN hx.2.2.2 a1 b1) a1 b1 fun v2 a2 b2 _ s2=>iP.done ⟨trivial,s0,s1,s2⟩
theorem F8 {x0:List aF} (hx:DJ aF.ok x0) {n:Int} (h0:0≤n) (hn:n≤1048576):iP (fun k=>nz k x0 n) n ((lD aF.sd) x0):=by
 unfold nz;exact II (d:=(default:aF)) (p:=aF.sd) (F:=fun k y v=>la k y v) (l:=fun k v i=>iter (ts:=rB) (R:=Int) k (vF fun v=>some v) x0 v i) hx.1 hn h0 (fun _ _ _=>rfl) (fun y hy n h0 hn=>Hu (hx.2 y hy) h0 hn)
theorem F9 {x0:aB} (hx:aB.ok x0) {n:Int} (h0:0≤n) (hn:n≤1048576):iP (fun k=>jt k x0 n) n (aB.sd x0):=by
 unfold jt;exact iP.str h0 hn hx.1 fun a0 b0 s0=>iP.str a0 b0 hx.2.1 fun a1 b1 s1=>iP.done ⟨s0,s1,trivial,trivial⟩
theorem Es {x0:List aB} (hx:DJ aB.ok x0) {n:Int} (h0:0≤n) (hn:n≤1048576):iP (fun k=>lW k x0 n) n ((lD aB.sd) x0):=by
 unfold lW;exact II (d:=(default:aB)) (p:=aB.sd) (F:=fun k y v=>jt k y v) (l:=fun k v i=>iter (ts:=pV) (R:=Int) k (tN fun v=>some v) x0 v i) hx.1 hn h0 (fun _ _ _=>rfl) (fun y hy n h0 hn=>F9 (hx.2 y hy) h0 hn)
theorem Hv {x0:aE} (hx:aE.ok x0) {n:Int} (h0:0≤n) (hn:n≤1048576):iP (fun k=>lb k x0 n) n (aE.sd x0):=by
 unfold lb;exact iP.str h0 hn hx.1 fun a0 b0 s0=>iP.str a0 b0 hx.2.1 fun a1 b1 s1=>iP.str a1 b1 hx.2.2.1 fun a2 b2 s2=>iP.done ⟨s0,s1,s2,trivial,trivial⟩
theorem F_ {x0:List aE} (hx:DJ aE.ok x0) {n:Int} (h0:0≤n) (hn:n≤1048576):iP (fun k=>nA k x0 n) n ((lD aE.sd) x0):=by
 unfold nA;exact II (d:=(default:aE)) (p:=aE.sd) (F:=fun k y v=>lb k y v) (l:=fun k v i=>iter (ts:=rC) (R:=Int) k (vH fun v=>some v) x0 v i) hx.1 hn h0 (fun _ _ _=>rfl) (fun y hy n h0 hn=>Hv (hx.2 y hy) h0 hn)
theorem sV {x0:aG} (hx:aG.ok x0) {n:Int} (h0:0≤n) (hn:n≤1048576):iP (fun k=>iY k x0 n) n (aG.sd x0):=by
 unfold iY;exact iP.call (Er hx.2.2.2.1 h0 hn) h0 hn fun v0 a0 b0 _ s0=>iP.call (F8 hx.2.2.2.2.1 a0 b0) a0 b0 fun v1 a1 b1 _ s1=>iP.call (Es hx.2.2.2.2.2.1 a1 b1) a1 b1 fun v2 a2 b2 _ s2=>iP.call (F_ hx.2.2.2.2.2.2 a2 b2) a2 b2 fun v3 a3 b3 _ s3=>iP.done ⟨trivial,trivial,trivial,s0,s1,s2,s3⟩
theorem IP {x0:aH} (_:aH.sd x0):Yd (fun k=>mB k x0) x0:=by
 unfold mB;exact Yd.pure
theorem IQ {x0:aJ} (_:aJ.sd x0):Yd (fun k=>mC k x0) x0:=by
 unfold mC;exact Yd.pure
theorem Ga {x0:aB} (_:aB.sd x0):Yd (fun k=>jh k x0) x0:=by
 unfold jh;exact Yd.pure
theorem Hw {x0:aE} (_:aE.sd x0):Yd (fun k=>kS k x0) x0:=by
 unfold kS;exact Yd.pure
theorem uJ {x0:List (List UInt8)} (hx:DJ dA x0):Yd (fun k=>kM k x0 x0) true:=by
 unfold kM;exact GJ (d:=([]:List UInt8)) (F:=fun _ a b=>some (seq a b)) (l:=fun k i=>iter (ts:=vk) (R:=Bool) k (zi (some true)) x0 x0 i) hx.1 (fun _ _=>rfl) (fun y _=>Yd.of fun _=>by rw [p7])
theorem Gb {x0:aA} (hx:aA.ok x0):Yd (fun k=>je k x0 x0) true:=by
 unfold je;exact Yd.cn (by simp [seq,bH,c_.beq]) (Yd.cn (by simp [seq,bH,c_.beq]) (Yd.cn (by simp [seq,bH,c_.beq]) (Yd.bind (uJ hx.2.2.2.1) (Yd.cn (by simp) (Yd.cn (by simp [seq,bH,c_.beq]) (Yd.bind (uJ hx.2.2.2.2.2.1) (Yd.cn (by simp) (Yd.cn (by simp [seq,bH,c_.beq]) (Yd.pure)))))))))
theorem Et {x0:List aA} (hx:DJ aA.ok x0):Yd (fun k=>lN k x0 x0) true:=by
 unfold lN;exact GJ (d:=(default:aA)) (F:=fun k a b=>je k a b) (l:=fun k i=>iter (ts:=pM) (R:=Bool) k (tt (some true)) x0 x0 i) hx.1 (fun _ _=>rfl) (fun y hy=>Gb (hx.2 y hy))
theorem Pj {x0:List Int} (hx:DJ (jr .i64) x0):Yd (fun k=>zk k x0 x0) true:=by
 unfold zk;exact GJ (d:=(0:Int)) (F:=fun _ a b=>some (bH a b)) (l:=fun k i=>iter (ts:=zj) (R:=Bool) k (DL (some true)) x0 x0 i) hx.1 (fun _ _=>rfl) (fun y _=>Yd.of fun _=>by rw [iw])
theorem IS {x0:bF} (hx:bF.ok x0):Yd (fun k=>qf k x0 x0) true:=by
 unfold qf;exact Yd.bind (Pj hx.1) (Yd.cn (by simp) (Yd.cn (by simp [seq,bH,c_.beq]) (Yd.cn (by simp [seq,bH,c_.beq]) (Yd.cn (by simp [seq,bH,c_.beq]) (Yd.pure)))))
theorem Hy {x0:aF} (hx:aF.ok x0):Yd (fun k=>kN k x0 x0) true:=by
 unfold kN;exact Yd.cn (by simp [seq,bH,c_.beq]) (Yd.cn (by simp [seq,bH,c_.beq]) (Yd.cn (by simp [seq,bH,c_.beq]) (Yd.bind (IS hx.2.2.2) (Yd.cn (by simp) (Yd.pure)))))
theorem Gc {x0:List aF} (hx:DJ aF.ok x0):Yd (fun k=>nq k x0 x0) true:=by
 unfold nq;exact GJ (d:=(default:aF)) (F:=fun k a b=>kN k a b) (l:=fun k i=>iter (ts:=rj) (R:=Bool) k (vm (some true)) x0 x0 i) hx.1 (fun _ _=>rfl) (fun y hy=>Hy (hx.2 y hy))
theorem Gd {x0:aB} (_:aB.ok x0):Yd (fun k=>jf k x0 x0) true:=by
 unfold jf;exact Yd.cn (by simp [seq,bH,c_.beq]) (Yd.cn (by simp [seq,bH,c_.beq]) (Yd.cn (by simp [seq,bH,c_.beq]) (Yd.cn (by simp [seq,bH,c_.beq]) (Yd.pure))))
theorem Eu {x0:List aB} (hx:DJ aB.ok x0):Yd (fun k=>lO k x0 x0) true:=by
 unfold lO;exact GJ (d:=(default:aB)) (F:=fun k a b=>jf k a b) (l:=fun k i=>iter (ts:=pN) (R:=Bool) k (tu (some true)) x0 x0 i) hx.1 (fun _ _=>rfl) (fun y hy=>Gd (hx.2 y hy))
theorem Hz {x0:aE} (_:aE.ok x0):Yd (fun k=>kO k x0 x0) true:=by
 unfold kO;exact Yd.cn (by simp [seq,bH,c_.beq]) (Yd.cn (by simp [seq,bH,c_.beq]) (Yd.cn (by simp [seq,bH,c_.beq]) (Yd.cn (by simp [seq,bH,c_.beq]) (Yd.cn (by simp [seq,bH,c_.beq]) (Yd.pure)))))
theorem Ge {x0:List aE} (hx:DJ aE.ok x0):Yd (fun k=>nr k x0 x0) true:=by
 unfold nr;exact GJ (d:=(default:aE)) (F:=fun k a b=>kO k a b) (l:=fun k i=>iter (ts:=rk) (R:=Bool) k (vo (some true)) x0 x0 i) hx.1 (fun _ _=>rfl) (fun y hy=>Hz (hx.2 y hy))
theorem gx {x0:aG} (hx:aG.ok x0):Yd (fun k=>cm k x0 x0) true:=by
 unfold cm;exact Yd.cn (by simp [seq,bH,c_.beq]) (Yd.cn (by simp [seq,bH,c_.beq]) (Yd.cn (by simp [seq,bH,c_.beq]) (Yd.bind (Et hx.2.2.2.1) (Yd.cn (by simp) (Yd.bind (Gc hx.2.2.2.2.1) (Yd.cn (by simp) (Yd.bind (Eu hx.2.2.2.2.2.1) (Yd.cn (by simp) (Yd.bind (Ge hx.2.2.2.2.2.2) (Yd.cn (by simp) (Yd.pure)))))))))))
theorem HA {x0:aC} (hx:aC.ok x0):Yd (fun k=>kP k x0 x0) true:=by
 unfold kP;exact Yd.cn (by simp [seq,bH,c_.beq]) (Yd.cn (by simp [seq,bH,c_.beq]) (Yd.cn (by simp [seq,bH,c_.beq]) (Yd.cn (by simp [seq,bH,c_.beq]) (Yd.bind (uJ hx.2.2.2.2.1) (Yd.cn (by simp) (Yd.cn (by simp [seq,bH,c_.beq]) (Yd.cn (by simp [seq,bH,c_.beq]) (Yd.cn (by simp [seq,bH,c_.beq]) (Yd.cn (by simp [seq,bH,c_.beq]) (Yd.cn (by simp [seq,bH,c_.beq]) (Yd.cn (by simp [seq,bH,c_.beq]) (Yd.pure))))))))))))
theorem Gf {x0:List aC} (hx:DJ aC.ok x0):Yd (fun k=>nu k x0 x0) true:=by
 unfold nu;exact GJ (d:=(default:aC)) (F:=fun k a b=>kP k a b) (l:=fun k i=>iter (ts:=rl) (R:=Bool) k (vp (some true)) x0 x0 i) hx.1 (fun _ _=>rfl) (fun y hy=>HA (hx.2 y hy))
theorem HB {x0:aD} (hx:aD.ok x0):Yd (fun k=>kQ k x0 x0) true:=by
 unfold kQ;exact Yd.cn (by simp [seq,bH,c_.beq]) (Yd.bind (Gf hx.2) (Yd.cn (by simp) (Yd.pure)))
theorem Gg {x0:List aD} (hx:DJ aD.ok x0):Yd (fun k=>nv k x0 x0) true:=by
 unfold nv;exact GJ (d:=(default:aD)) (F:=fun k a b=>kQ k a b) (l:=fun k i=>iter (ts:=rm) (R:=Bool) k (vq (some true)) x0 x0 i) hx.1 (fun _ _=>rfl) (fun y hy=>HB (hx.2 y hy))
theorem IU {x0:aH} (_:aH.ok x0):Yd (fun k=>my k x0 x0) true:=by
 unfold my;exact Yd.cn (by simp [seq,bH,c_.beq]) (Yd.cn (by simp [seq,bH,c_.beq]) (Yd.cn (by simp [seq,bH,c_.beq]) (Yd.cn (by simp [seq,bH,c_.beq]) (Yd.cn (by simp [seq,bH,c_.beq]) (Yd.cn (by simp [seq,bH,c_.beq]) (Yd.pure))))))
theorem HC {x0:List aH} (hx:DJ aH.ok x0):Yd (fun k=>oF k x0 x0) true:=by
 unfold oF;exact GJ (d:=(default:aH)) (F:=fun k a b=>my k a b) (l:=fun k i=>iter (ts:=rW) (R:=Bool) k (wF (some true)) x0 x0 i) hx.1 (fun _ _=>rfl) (fun y hy=>IU (hx.2 y hy))
theorem IV {x0:aJ} (_:aJ.ok x0):Yd (fun k=>mz k x0 x0) true:=by
 unfold mz;exact Yd.cn (by simp [seq,bH,c_.beq]) (Yd.cn (by simp [seq,bH,c_.beq]) (Yd.pure))
theorem HD {x0:List aJ} (hx:DJ aJ.ok x0):Yd (fun k=>oG k x0 x0) true:=by
 unfold oG;exact GJ (d:=(default:aJ)) (F:=fun k a b=>mz k a b) (l:=fun k i=>iter (ts:=rX) (R:=Bool) k (wG (some true)) x0 x0 i) hx.1 (fun _ _=>rfl) (fun y hy=>IV (hx.2 y hy))
theorem ux {x0:aL} (hx:aL.ok x0):Yd (fun k=>kR k x0 x0) true:=by
 unfold kR;exact Yd.bind (Gg hx.1) (Yd.cn (by simp) (Yd.bind (HC hx.2.1) (Yd.cn (by simp) (Yd.bind (HD hx.2.2) (Yd.cn (by simp) (Yd.pure))))))
theorem q_ {x0:List (List UInt8)} (hx:lD dt x0):Yd (fun k=>ia k x0) x0:=by
 unfold ia;exact Ns (d:=([]:List UInt8)) (F:=fun _ y=>some y) (l:=fun k i o=>iter (ts:=rY) (R:=List (List UInt8)) k (wI fun v=>some v) x0 i o) (b:=16) hx.1 (by omega) (fun _ _ _=>rfl) (fun y _=>Yd.pure)
theorem Ev {x0:aC} (hx:aC.sd x0):Yd (fun k=>ir k x0) (x0.Name,x0.Kind,x0.bS,x0.bT,x0.To,x0.cG,x0.c6,x0.ct,x0.Default,x0.bC,x0.Words):=by
 unfold ir;exact Yd.bind (q_ hx.2.2.2.2.1) (Yd.pure)
theorem Dy {x0:List aC} (hx:lD aC.sd x0):Yd (fun k=>jW k x0) x0:=by
 unfold jW;exact Rk (d:=(default:aC)) (F:=fun k y=>ir k y) (g:=fun H_=>(⟨H_.1,H_.2.1,H_.2.2.1,H_.2.2.2.1,H_.2.2.2.2.2.2.2.2.2.2,H_.2.2.2.2.1,H_.2.2.2.2.2.1,H_.2.2.2.2.2.2.1,H_.2.2.2.2.2.2.2.1,H_.2.2.2.2.2.2.2.2.1,H_.2.2.2.2.2.2.2.2.2.1⟩:aC)) (fun y=>(y.Name,y.Kind,y.bS,y.bT,y.To,y.cG,y.c6,y.ct,y.Default,y.bC,y.Words)) (l:=fun k i o=>iter (ts:=pc) (R:=List aC) k (rZ fun v=>some v) x0 i o) (b:=128) hx.1 (by omega) (fun _ _ _=>rfl) (fun y hy=>Ev (hx.2 y hy)) (fun _=>rfl)
theorem Ew {x0:aD} (hx:aD.sd x0):Yd (fun k=>iu k x0) (x0.Kind,x0.aV):=by
 unfold iu;exact Yd.bind (Dy hx.2) (Yd.pure)
theorem Dz {x0:List aD} (hx:lD aD.sd x0):Yd (fun k=>jX k x0) x0:=by
 unfold jX;exact Rk (d:=(default:aD)) (F:=fun k y=>iu k y) (g:=fun H_=>(⟨H_.1,H_.2⟩:aD)) (fun y=>(y.Kind,y.aV)) (l:=fun k i o=>iter (ts:=pd) (R:=List aD) k (r4 fun v=>some v) x0 i o) (b:=40) hx.1 (by omega) (fun _ _ _=>rfl) (fun y hy=>Ew (hx.2 y hy)) (fun _=>rfl)
theorem Ex {x0:List aH} (hx:lD aH.sd x0):Yd (fun k=>lP k x0) x0:=by
 unfold lP;exact Ns (d:=(default:aH)) (F:=fun k y=>mB k y) (l:=fun k i o=>iter (ts:=pO) (R:=List aH) k (tx fun v=>some v) x0 i o) (b:=96) hx.1 (by omega) (fun _ _ _=>rfl) (fun y hy=>IP (hx.2 y hy))
theorem Ey {x0:List aJ} (hx:lD aJ.sd x0):Yd (fun k=>lQ k x0) x0:=by
 unfold lQ;exact Ns (d:=(default:aJ)) (F:=fun k y=>mC k y) (l:=fun k i o=>iter (ts:=pP) (R:=List aJ) k (tz fun v=>some v) x0 i o) (b:=32) hx.1 (by omega) (fun _ _ _=>rfl) (fun y hy=>IQ (hx.2 y hy))
theorem cO {x0:aL} (hx:aL.sd x0):Yd (fun k=>cA k x0) (x0.cg,x0.iN,x0.dX):=by
 unfold cA;exact Yd.bind (Dz hx.1) (Yd.bind (Ex hx.2.1) (Yd.bind (Ey hx.2.2) (Yd.pure)))
theorem DA {x0:aA} (hx:aA.sd x0):Yd (fun k=>gI k x0) (x0.Kind,x0.Name,x0.aX,x0.Ending,x0.Version,x0.aR,x0.b7):=by
 unfold gI;exact Yd.bind (q_ hx.2.2.2.1) (Yd.bind (q_ hx.2.2.2.2.2.1) (Yd.pure))
theorem Co {x0:List aA} (hx:lD aA.sd x0):Yd (fun k=>jg k x0) x0:=by
 unfold jg;exact Rk (d:=(default:aA)) (F:=fun k y=>gI k y) (g:=fun H_=>(⟨H_.1,H_.2.1,H_.2.2.1,H_.2.2.2.2.2.1,H_.2.2.2.1,H_.2.2.2.2.2.2,H_.2.2.2.2.1⟩:aA)) (fun y=>(y.Kind,y.Name,y.aX,y.Ending,y.Version,y.aR,y.b7)) (l:=fun k i o=>iter (ts:=nP) (R:=List aA) k (rn fun v=>some v) x0 i o) (b:=112) hx.1 (by omega) (fun _ _ _=>rfl) (fun y hy=>DA (hx.2 y hy)) (fun _=>rfl)
theorem LU {x0:List Int} (hx:lD mR x0):Yd (fun k=>uO k x0) x0:=by
 unfold uO;exact Ns (d:=(0:Int)) (F:=fun _ y=>some y) (l:=fun k i o=>iter (ts:=wJ) (R:=List Int) k (AD fun v=>some v) x0 i o) (b:=8) hx.1 (by omega) (fun _ _ _=>rfl) (fun y _=>Yd.pure)
theorem Gh {x0:bF} (hx:bF.sd x0):Yd (fun k=>nw k x0) (x0.Kind,x0.aX,x0.cU,x0.b_):=by
 unfold nw;exact Yd.bind (LU hx.1) (Yd.pure)
theorem Ez {x0:aF} (hx:aF.sd x0):Yd (fun k=>iv k x0) (x0.Number,x0.To,x0.By,x0.cJ.Kind,x0.cJ.aX,x0.cJ.cU,x0.cJ.b_):=by
 unfold iv;exact Yd.bind (Gh hx.2.2.2) (Yd.pure)
theorem DB {x0:List aF} (hx:lD aF.sd x0):Yd (fun k=>j8 k x0) x0:=by
 unfold j8;exact Rk (d:=(default:aF)) (F:=fun k y=>iv k y) (g:=fun H_=>(⟨H_.1,H_.2.1,H_.2.2.1,(⟨H_.2.2.2.2.2.2,H_.2.2.2.1,H_.2.2.2.2.1,H_.2.2.2.2.2.1⟩:bF)⟩:aF)) (fun y=>(y.Number,y.To,y.By,y.cJ.Kind,y.cJ.aX,y.cJ.cU,y.cJ.b_)) (l:=fun k i o=>iter (ts:=pg) (R:=List aF) k (r7 fun v=>some v) x0 i o) (b:=112) hx.1 (by omega) (fun _ _ _=>rfl) (fun y hy=>Ez (hx.2 y hy)) (fun _=>rfl)
theorem Cp {x0:List aB} (hx:lD aB.sd x0):Yd (fun k=>ji k x0) x0:=by
 unfold ji;exact Ns (d:=(default:aB)) (F:=fun k y=>jh k y) (l:=fun k i o=>iter (ts:=nQ) (R:=List aB) k (ru fun v=>some v) x0 i o) (b:=48) hx.1 (by omega) (fun _ _ _=>rfl) (fun y hy=>Ga (hx.2 y hy))
theorem DC {x0:List aE} (hx:lD aE.sd x0):Yd (fun k=>j9 k x0) x0:=by
 unfold j9;exact Ns (d:=(default:aE)) (F:=fun k y=>kS k y) (l:=fun k i o=>iter (ts:=ph) (R:=List aE) k (r9 fun v=>some v) x0 i o) (b:=64) hx.1 (by omega) (fun _ _ _=>rfl) (fun y hy=>Hw (hx.2 y hy))
theorem cE {x0:aG} (hx:aG.sd x0):Yd (fun k=>cv k x0) (x0.vj,x0.dP,x0.dN,x0.aO,x0.bI,x0.aK,x0.aW):=by
 unfold cv;exact Yd.bind (Co hx.2.2.2.1) (Yd.bind (DB hx.2.2.2.2.1) (Yd.bind (Cp hx.2.2.2.2.2.1) (Yd.bind (DC hx.2.2.2.2.2.2) (Yd.pure))))
end Go.Proofs.YtjkbbdldmdajkaaGreatDoor.Pu
