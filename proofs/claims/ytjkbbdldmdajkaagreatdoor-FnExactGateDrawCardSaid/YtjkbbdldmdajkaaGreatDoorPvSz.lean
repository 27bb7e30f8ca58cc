/- The laws' own functions on data: what takes a size away, what copies, what compares. No condition. -/
import Derived.Test.YtjkbbdldmdajkaaGreatDoorPvA
set_option linter.unusedSimpArgs false
set_option linter.unusedVariables false
namespace Go.Proofs.YtjkbbdldmdajkaaGreatDoor.Pu
open Go Go.RowKit Go.Proofs.YtjkbbdldmdajkaaGreatDoor.c5 Go.Proofs.YtjkbbdldmdajkaaGreatDoor.Fn
def _root_.Go.Proofs.YtjkbbdldmdajkaaGreatDoor.c5.aB.sd (x:aB):Prop:=dd x.Name∧mj x.Kind∧mj x.bR∧mj x.bU∧k_ dd x.Words∧dd x.To∧mj x.cB∧mj x.cV∧mj x.cq∧dd x.Default∧dd x.bD
def _root_.Go.Proofs.YtjkbbdldmdajkaaGreatDoor.c5.aD.sd (x:aD):Prop:=dd x.Kind∧k_ aB.sd x.aW
def _root_.Go.Proofs.YtjkbbdldmdajkaaGreatDoor.c5.aF.sd (x:aF):Prop:=dd x.Kind∧dd x.Field∧dd x.db∧dd x.Is∧dd x.sq∧dd x.cM
def _root_.Go.Proofs.YtjkbbdldmdajkaaGreatDoor.c5.aJ.sd (x:aJ):Prop:=dd x.Name∧dd x.g9
def _root_.Go.Proofs.YtjkbbdldmdajkaaGreatDoor.c5.aT.sd (x:aT):Prop:=k_ aD.sd x.cf∧k_ aF.sd x.iA∧k_ aJ.sd x.eB
def _root_.Go.Proofs.YtjkbbdldmdajkaaGreatDoor.c5.aA.sd (x:aA):Prop:=dd x.Kind∧dd x.Name∧dd x.aY∧k_ dd x.aP∧mj x.Ending∧k_ dd x.b8∧mj x.Version
def _root_.Go.Proofs.YtjkbbdldmdajkaaGreatDoor.c5.bG.sd (x:bG):Prop:=k_ mj x.b_∧dd x.Kind∧dd x.aY∧dd x.cP
def _root_.Go.Proofs.YtjkbbdldmdajkaaGreatDoor.c5.aG.sd (x:aG):Prop:=mj x.Number∧dd x.To∧dd x.By∧bG.sd x.cF
def _root_.Go.Proofs.YtjkbbdldmdajkaaGreatDoor.c5.aE.sd (x:aE):Prop:=dd x.aY∧dd x.aL∧mj x.bU∧mj x.dP
def _root_.Go.Proofs.YtjkbbdldmdajkaaGreatDoor.c5.aC.sd (x:aC):Prop:=dd x.cT∧dd x.aY∧dd x.aL∧mj x.cm∧mj x.ez
def _root_.Go.Proofs.YtjkbbdldmdajkaaGreatDoor.c5.aI.sd (x:aI):Prop:=mj x.zR∧mj x.ix∧mj x.fX∧k_ aA.sd x.aO∧k_ aG.sd x.bK∧k_ aE.sd x.aK∧k_ aC.sd x.aU
def _root_.Go.Proofs.YtjkbbdldmdajkaaGreatDoor.c5.Gg.sd (x:Gg):Prop:=dd x.kind∧dd x.name
def _root_.Go.Proofs.YtjkbbdldmdajkaaGreatDoor.c5.cl.sd (x:cl):Prop:=dd x.dH∧dd x.resource
def _root_.Go.Proofs.YtjkbbdldmdajkaaGreatDoor.c5.eD.sd (x:eD):Prop:=mj x.code∧mj x.place
def _root_.Go.Proofs.YtjkbbdldmdajkaaGreatDoor.c5.bH.sd (x:bH):Prop:=aB.sd x.aB
def _root_.Go.Proofs.YtjkbbdldmdajkaaGreatDoor.c5.cx.sd (x:cx):Prop:=dd x.Key∧mj x.L4
def _root_.Go.Proofs.YtjkbbdldmdajkaaGreatDoor.c5.cU.sd (x:cU):Prop:=cl.sd x.Key∧mj x.L4
def _root_.Go.Proofs.YtjkbbdldmdajkaaGreatDoor.c5.cG.sd (x:cG):Prop:=mj x.t∧mj x.x
theorem tG {x0:List (List UInt8)} (hx:EW dC x0) {n:Int} (h0:0≤n) (hn:n≤1048576):iC (fun k=>kB k x0 n) n ((k_ dd) x0):=by
 unfold kB;refine Ib (d:=([]:List UInt8)) (p:=dd) (F:=fun k y v=>(some (bS .i64 v (y.length:Int)))) (l:=fun k v i=>iter (ts:=uL) (R:=Int) k (yH fun v=>some v) x0 v i) hx.1 hn h0 (fun _ _ _=>rfl) fun y hy n h0 hn=>?_;have hy':=hx.2 y hy;unfold dC at hy';have hm:=max_eq;have e:bS .i64 n (y.length:Int)=n-y.length:=VH (by omega) (by omega);exact ⟨_,Yd.pure,by omega,fun h=>by unfold dd;omega⟩
theorem GP {x0:aB} (hx:aB.ok x0) {n:Int} (h0:0≤n) (hn:n≤1048576):iC (fun k=>kC k x0 n) n (aB.sd x0):=by
 unfold kC;exact iC.str h0 hn hx.1 fun a0 b0 s0=>iC.call (tG hx.2.2.2.2.1 a0 b0) a0 b0 fun v1 a1 b1 _ s1=>iC.str a1 b1 hx.2.2.2.2.2.1 fun a2 b2 s2=>iC.str a2 b2 hx.2.2.2.2.2.2.2.2.2.1 fun a3 b3 s3=>iC.str a3 b3 hx.2.2.2.2.2.2.2.2.2.2 fun a4 b4 s4=>iC.done ⟨s0,trivial,trivial,trivial,s1,s2,trivial,trivial,trivial,s3,s4⟩
theorem Fs {x0:List aB} (hx:EW aB.ok x0) {n:Int} (h0:0≤n) (hn:n≤1048576):iC (fun k=>mP k x0 n) n ((k_ aB.sd) x0):=by
 unfold mP;exact Ib (d:=(default:aB)) (p:=aB.sd) (F:=fun k y v=>kC k y v) (l:=fun k v i=>iter (ts:=qx) (R:=Int) k (uM fun v=>some v) x0 v i) hx.1 hn h0 (fun _ _ _=>rfl) (fun y hy n h0 hn=>GP (hx.2 y hy) h0 hn)
theorem GQ {x0:aD} (hx:aD.ok x0) {n:Int} (h0:0≤n) (hn:n≤1048576):iC (fun k=>kE k x0 n) n (aD.sd x0):=by
 unfold kE;exact iC.str h0 hn hx.1 fun a0 b0 s0=>iC.call (Fs hx.2 a0 b0) a0 b0 fun v1 a1 b1 _ s1=>iC.done ⟨s0,s1⟩
theorem Ft {x0:List aD} (hx:EW aD.ok x0) {n:Int} (h0:0≤n) (hn:n≤1048576):iC (fun k=>mQ k x0 n) n ((k_ aD.sd) x0):=by
 unfold mQ;exact Ib (d:=(default:aD)) (p:=aD.sd) (F:=fun k y v=>kE k y v) (l:=fun k v i=>iter (ts:=qy) (R:=Int) k (uN fun v=>some v) x0 v i) hx.1 hn h0 (fun _ _ _=>rfl) (fun y hy n h0 hn=>GQ (hx.2 y hy) h0 hn)
theorem Ig {x0:aF} (hx:aF.ok x0) {n:Int} (h0:0≤n) (hn:n≤1048576):iC (fun k=>ma k x0 n) n (aF.sd x0):=by
 unfold ma;exact iC.str h0 hn hx.1 fun a0 b0 s0=>iC.str a0 b0 hx.2.1 fun a1 b1 s1=>iC.str a1 b1 hx.2.2.1 fun a2 b2 s2=>iC.str a2 b2 hx.2.2.2.1 fun a3 b3 s3=>iC.str a3 b3 hx.2.2.2.2.1 fun a4 b4 s4=>iC.str a4 b4 hx.2.2.2.2.2 fun a5 b5 s5=>iC.done ⟨s0,s1,s2,s3,s4,s5⟩
theorem GR {x0:List aF} (hx:EW aF.ok x0) {n:Int} (h0:0≤n) (hn:n≤1048576):iC (fun k=>nW k x0 n) n ((k_ aF.sd) x0):=by
 unfold nW;exact Ib (d:=(default:aF)) (p:=aF.sd) (F:=fun k y v=>ma k y v) (l:=fun k v i=>iter (ts:=rA) (R:=Int) k (vO fun v=>some v) x0 v i) hx.1 hn h0 (fun _ _ _=>rfl) (fun y hy n h0 hn=>Ig (hx.2 y hy) h0 hn)
theorem Ih {x0:aJ} (hx:aJ.ok x0) {n:Int} (h0:0≤n) (hn:n≤1048576):iC (fun k=>mb k x0 n) n (aJ.sd x0):=by
 unfold mb;exact iC.str h0 hn hx.1 fun a0 b0 s0=>iC.str a0 b0 hx.2 fun a1 b1 s1=>iC.done ⟨s0,s1⟩
theorem GS {x0:List aJ} (hx:EW aJ.ok x0) {n:Int} (h0:0≤n) (hn:n≤1048576):iC (fun k=>nX k x0 n) n ((k_ aJ.sd) x0):=by
 unfold nX;exact Ib (d:=(default:aJ)) (p:=aJ.sd) (F:=fun k y v=>mb k y v) (l:=fun k v i=>iter (ts:=rB) (R:=Int) k (vP fun v=>some v) x0 v i) hx.1 hn h0 (fun _ _ _=>rfl) (fun y hy n h0 hn=>Ih (hx.2 y hy) h0 hn)
theorem Jy {x0:aT} (hx:aT.ok x0) {n:Int} (h0:0≤n) (hn:n≤1048576):iC (fun k=>ry k x0 n) n (aT.sd x0):=by
 unfold ry;exact iC.call (Ft hx.1 h0 hn) h0 hn fun v0 a0 b0 _ s0=>iC.call (GR hx.2.1 a0 b0) a0 b0 fun v1 a1 b1 _ s1=>iC.call (GS hx.2.2 a1 b1) a1 b1 fun v2 a2 b2 _ s2=>iC.done ⟨s0,s1,s2⟩
theorem Fu {x0:aA} (hx:aA.ok x0) {n:Int} (h0:0≤n) (hn:n≤1048576):iC (fun k=>iZ k x0 n) n (aA.sd x0):=by
 unfold iZ;exact iC.str h0 hn hx.1 fun a0 b0 s0=>iC.str a0 b0 hx.2.1 fun a1 b1 s1=>iC.str a1 b1 hx.2.2.1 fun a2 b2 s2=>iC.call (tG hx.2.2.2.1 a2 b2) a2 b2 fun v3 a3 b3 _ s3=>iC.call (tG hx.2.2.2.2.2.1 a3 b3) a3 b3 fun v4 a4 b4 _ s4=>iC.done ⟨s0,s1,s2,s3,trivial,s4,trivial⟩
theorem DR {x0:List aA} (hx:EW aA.ok x0) {n:Int} (h0:0≤n) (hn:n≤1048576):iC (fun k=>lq k x0 n) n ((k_ aA.sd) x0):=by
 unfold lq;exact Ib (d:=(default:aA)) (p:=aA.sd) (F:=fun k y v=>iZ k y v) (l:=fun k v i=>iter (ts:=o8) (R:=Int) k (sS fun v=>some v) x0 v i) hx.1 hn h0 (fun _ _ _=>rfl) (fun y hy n h0 hn=>Fu (hx.2 y hy) h0 hn)
theorem OH {x0:List Int} (hx:EW (kA .i64) x0) {n:Int} (h0:0≤n) (hn:n≤1048576):iC (fun k=>yK k x0 n) n ((k_ mj) x0):=by
 unfold yK;exact iC.str h0 hn hx.1 fun _ _ a=>iC.done ⟨a,fun _ _=>trivial⟩
theorem Ii {x0:bG} (hx:bG.ok x0) {n:Int} (h0:0≤n) (hn:n≤1048576):iC (fun k=>pC k x0 n) n (bG.sd x0):=by
 unfold pC;exact iC.call (OH hx.1 h0 hn) h0 hn fun v0 a0 b0 _ s0=>iC.str a0 b0 hx.2.1 fun a1 b1 s1=>iC.str a1 b1 hx.2.2.1 fun a2 b2 s2=>iC.str a2 b2 hx.2.2.2 fun a3 b3 s3=>iC.done ⟨s0,s1,s2,s3⟩
theorem GU {x0:aG} (hx:aG.ok x0) {n:Int} (h0:0≤n) (hn:n≤1048576):iC (fun k=>kF k x0 n) n (aG.sd x0):=by
 unfold kF;exact iC.str h0 hn hx.2.1 fun a0 b0 s0=>iC.str a0 b0 hx.2.2.1 fun a1 b1 s1=>iC.call (Ii hx.2.2.2 a1 b1) a1 b1 fun v2 a2 b2 _ s2=>iC.done ⟨trivial,s0,s1,s2⟩
theorem Fv {x0:List aG} (hx:EW aG.ok x0) {n:Int} (h0:0≤n) (hn:n≤1048576):iC (fun k=>mR k x0 n) n ((k_ aG.sd) x0):=by
 unfold mR;exact Ib (d:=(default:aG)) (p:=aG.sd) (F:=fun k y v=>kF k y v) (l:=fun k v i=>iter (ts:=qz) (R:=Int) k (uP fun v=>some v) x0 v i) hx.1 hn h0 (fun _ _ _=>rfl) (fun y hy n h0 hn=>GU (hx.2 y hy) h0 hn)
theorem Fw {x0:aE} (hx:aE.ok x0) {n:Int} (h0:0≤n) (hn:n≤1048576):iC (fun k=>i_ k x0 n) n (aE.sd x0):=by
 unfold i_;exact iC.str h0 hn hx.1 fun a0 b0 s0=>iC.str a0 b0 hx.2.1 fun a1 b1 s1=>iC.done ⟨s0,s1,trivial,trivial⟩
theorem DS {x0:List aE} (hx:EW aE.ok x0) {n:Int} (h0:0≤n) (hn:n≤1048576):iC (fun k=>lr k x0 n) n ((k_ aE.sd) x0):=by
 unfold lr;exact Ib (d:=(default:aE)) (p:=aE.sd) (F:=fun k y v=>i_ k y v) (l:=fun k v i=>iter (ts:=o9) (R:=Int) k (sT fun v=>some v) x0 v i) hx.1 hn h0 (fun _ _ _=>rfl) (fun y hy n h0 hn=>Fw (hx.2 y hy) h0 hn)
theorem GV {x0:aC} (hx:aC.ok x0) {n:Int} (h0:0≤n) (hn:n≤1048576):iC (fun k=>kG k x0 n) n (aC.sd x0):=by
 unfold kG;exact iC.str h0 hn hx.1 fun a0 b0 s0=>iC.str a0 b0 hx.2.1 fun a1 b1 s1=>iC.str a1 b1 hx.2.2.1 fun a2 b2 s2=>iC.done ⟨s0,s1,s2,trivial,trivial⟩
theorem Fx {x0:List aC} (hx:EW aC.ok x0) {n:Int} (h0:0≤n) (hn:n≤1048576):iC (fun k=>mS k x0 n) n ((k_ aC.sd) x0):=by
 unfold mS;exact Ib (d:=(default:aC)) (p:=aC.sd) (F:=fun k y v=>kG k y v) (l:=fun k v i=>iter (ts:=qA) (R:=Int) k (uR fun v=>some v) x0 v i) hx.1 hn h0 (fun _ _ _=>rfl) (fun y hy n h0 hn=>GV (hx.2 y hy) h0 hn)
theorem HS {x0:aI} (hx:aI.ok x0) {n:Int} (h0:0≤n) (hn:n≤1048576):iC (fun k=>pB k x0 n) n (aI.sd x0):=by
 unfold pB;exact iC.call (DR hx.2.2.2.1 h0 hn) h0 hn fun v0 a0 b0 _ s0=>iC.call (Fv hx.2.2.2.2.1 a0 b0) a0 b0 fun v1 a1 b1 _ s1=>iC.call (DS hx.2.2.2.2.2.1 a1 b1) a1 b1 fun v2 a2 b2 _ s2=>iC.call (Fx hx.2.2.2.2.2.2 a2 b2) a2 b2 fun v3 a3 b3 _ s3=>iC.done ⟨trivial,trivial,trivial,s0,s1,s2,s3⟩
theorem Ij {x0:aF} (_:aF.sd x0):Yd (fun k=>l8 k x0) x0:=by
 unfold l8;exact Yd.pure
theorem Ik {x0:aJ} (_:aJ.sd x0):Yd (fun k=>l9 k x0) x0:=by
 unfold l9;exact Yd.pure
theorem Fy {x0:aE} (_:aE.sd x0):Yd (fun k=>iR k x0) x0:=by
 unfold iR;exact Yd.pure
theorem GW {x0:aC} (_:aC.sd x0):Yd (fun k=>ky k x0) x0:=by
 unfold ky;exact Yd.pure
theorem tH {x0:List (List UInt8)} (hx:EW dC x0):Yd (fun k=>ko k x0 x0) true:=by
 unfold ko;exact Ga (d:=([]:List UInt8)) (F:=fun _ a b=>some (seq a b)) (l:=fun k i=>iter (ts:=ux) (R:=Bool) k (yu (some true)) x0 x0 i) hx.1 (fun _ _=>rfl) (fun y _=>Yd.of fun _=>by rw [pj])
theorem Fz {x0:aA} (hx:aA.ok x0):Yd (fun k=>iO k x0 x0) true:=by
 unfold iO;exact Yd.cn (by simp [seq,bI,c5.beq]) (Yd.cn (by simp [seq,bI,c5.beq]) (Yd.cn (by simp [seq,bI,c5.beq]) (Yd.bind (tH hx.2.2.2.1) (Yd.cn (by simp) (Yd.cn (by simp [seq,bI,c5.beq]) (Yd.bind (tH hx.2.2.2.2.2.1) (Yd.cn (by simp) (Yd.cn (by simp [seq,bI,c5.beq]) (Yd.pure)))))))))
theorem DT {x0:List aA} (hx:EW aA.ok x0):Yd (fun k=>lb k x0 x0) true:=by
 unfold lb;exact Ga (d:=(default:aA)) (F:=fun k a b=>iO k a b) (l:=fun k i=>iter (ts:=oX) (R:=Bool) k (sD (some true)) x0 x0 i) hx.1 (fun _ _=>rfl) (fun y hy=>Fz (hx.2 y hy))
theorem OI {x0:List Int} (hx:EW (kA .i64) x0):Yd (fun k=>yx k x0 x0) true:=by
 unfold yx;exact Ga (d:=(0:Int)) (F:=fun _ a b=>some (bI a b)) (l:=fun k i=>iter (ts:=yw) (R:=Bool) k (Da (some true)) x0 x0 i) hx.1 (fun _ _=>rfl) (fun y _=>Yd.of fun _=>by rw [ph])
theorem Il {x0:bG} (hx:bG.ok x0):Yd (fun k=>pz k x0 x0) true:=by
 unfold pz;exact Yd.bind (OI hx.1) (Yd.cn (by simp) (Yd.cn (by simp [seq,bI,c5.beq]) (Yd.cn (by simp [seq,bI,c5.beq]) (Yd.cn (by simp [seq,bI,c5.beq]) (Yd.pure)))))
theorem GX {x0:aG} (hx:aG.ok x0):Yd (fun k=>kq k x0 x0) true:=by
 unfold kq;exact Yd.cn (by simp [seq,bI,c5.beq]) (Yd.cn (by simp [seq,bI,c5.beq]) (Yd.cn (by simp [seq,bI,c5.beq]) (Yd.bind (Il hx.2.2.2) (Yd.cn (by simp) (Yd.pure)))))
theorem FA {x0:List aG} (hx:EW aG.ok x0):Yd (fun k=>mJ k x0 x0) true:=by
 unfold mJ;exact Ga (d:=(default:aG)) (F:=fun k a b=>kq k a b) (l:=fun k i=>iter (ts:=qn) (R:=Bool) k (uz (some true)) x0 x0 i) hx.1 (fun _ _=>rfl) (fun y hy=>GX (hx.2 y hy))
theorem FB {x0:aE} (_:aE.ok x0):Yd (fun k=>iP k x0 x0) true:=by
 unfold iP;exact Yd.cn (by simp [seq,bI,c5.beq]) (Yd.cn (by simp [seq,bI,c5.beq]) (Yd.cn (by simp [seq,bI,c5.beq]) (Yd.cn (by simp [seq,bI,c5.beq]) (Yd.pure))))
theorem DU {x0:List aE} (hx:EW aE.ok x0):Yd (fun k=>lg k x0 x0) true:=by
 unfold lg;exact Ga (d:=(default:aE)) (F:=fun k a b=>iP k a b) (l:=fun k i=>iter (ts:=oY) (R:=Bool) k (sE (some true)) x0 x0 i) hx.1 (fun _ _=>rfl) (fun y hy=>FB (hx.2 y hy))
theorem GY {x0:aC} (_:aC.ok x0):Yd (fun k=>kr k x0 x0) true:=by
 unfold kr;exact Yd.cn (by simp [seq,bI,c5.beq]) (Yd.cn (by simp [seq,bI,c5.beq]) (Yd.cn (by simp [seq,bI,c5.beq]) (Yd.cn (by simp [seq,bI,c5.beq]) (Yd.cn (by simp [seq,bI,c5.beq]) (Yd.pure)))))
theorem FC {x0:List aC} (hx:EW aC.ok x0):Yd (fun k=>mL k x0 x0) true:=by
 unfold mL;exact Ga (d:=(default:aC)) (F:=fun k a b=>kr k a b) (l:=fun k i=>iter (ts:=qo) (R:=Bool) k (uB (some true)) x0 x0 i) hx.1 (fun _ _=>rfl) (fun y hy=>GY (hx.2 y hy))
theorem zd {x0:aI} (hx:aI.ok x0):Yd (fun k=>eY k x0 x0) true:=by
 unfold eY;exact Yd.cn (by simp [seq,bI,c5.beq]) (Yd.cn (by simp [seq,bI,c5.beq]) (Yd.cn (by simp [seq,bI,c5.beq]) (Yd.bind (DT hx.2.2.2.1) (Yd.cn (by simp) (Yd.bind (FA hx.2.2.2.2.1) (Yd.cn (by simp) (Yd.bind (DU hx.2.2.2.2.2.1) (Yd.cn (by simp) (Yd.bind (FC hx.2.2.2.2.2.2) (Yd.cn (by simp) (Yd.pure)))))))))))
theorem GZ {x0:aB} (hx:aB.ok x0):Yd (fun k=>ku k x0 x0) true:=by
 unfold ku;exact Yd.cn (by simp [seq,bI,c5.beq]) (Yd.cn (by simp [seq,bI,c5.beq]) (Yd.cn (by simp [seq,bI,c5.beq]) (Yd.cn (by simp [seq,bI,c5.beq]) (Yd.bind (tH hx.2.2.2.2.1) (Yd.cn (by simp) (Yd.cn (by simp [seq,bI,c5.beq]) (Yd.cn (by simp [seq,bI,c5.beq]) (Yd.cn (by simp [seq,bI,c5.beq]) (Yd.cn (by simp [seq,bI,c5.beq]) (Yd.cn (by simp [seq,bI,c5.beq]) (Yd.cn (by simp [seq,bI,c5.beq]) (Yd.pure))))))))))))
theorem FD {x0:List aB} (hx:EW aB.ok x0):Yd (fun k=>mM k x0 x0) true:=by
 unfold mM;exact Ga (d:=(default:aB)) (F:=fun k a b=>ku k a b) (l:=fun k i=>iter (ts:=qp) (R:=Bool) k (uC (some true)) x0 x0 i) hx.1 (fun _ _=>rfl) (fun y hy=>GZ (hx.2 y hy))
theorem G0 {x0:aD} (hx:aD.ok x0):Yd (fun k=>kx k x0 x0) true:=by
 unfold kx;exact Yd.cn (by simp [seq,bI,c5.beq]) (Yd.bind (FD hx.2) (Yd.cn (by simp) (Yd.pure)))
theorem FE {x0:List aD} (hx:EW aD.ok x0):Yd (fun k=>mN k x0 x0) true:=by
 unfold mN;exact Ga (d:=(default:aD)) (F:=fun k a b=>kx k a b) (l:=fun k i=>iter (ts:=qt) (R:=Bool) k (uD (some true)) x0 x0 i) hx.1 (fun _ _=>rfl) (fun y hy=>G0 (hx.2 y hy))
theorem Im {x0:aF} (_:aF.ok x0):Yd (fun k=>l6 k x0 x0) true:=by
 unfold l6;exact Yd.cn (by simp [seq,bI,c5.beq]) (Yd.cn (by simp [seq,bI,c5.beq]) (Yd.cn (by simp [seq,bI,c5.beq]) (Yd.cn (by simp [seq,bI,c5.beq]) (Yd.cn (by simp [seq,bI,c5.beq]) (Yd.cn (by simp [seq,bI,c5.beq]) (Yd.pure))))))
theorem G3 {x0:List aF} (hx:EW aF.ok x0):Yd (fun k=>nO k x0 x0) true:=by
 unfold nO;exact Ga (d:=(default:aF)) (F:=fun k a b=>l6 k a b) (l:=fun k i=>iter (ts:=qY) (R:=Bool) k (vB (some true)) x0 x0 i) hx.1 (fun _ _=>rfl) (fun y hy=>Im (hx.2 y hy))
theorem Io {x0:aJ} (_:aJ.ok x0):Yd (fun k=>l7 k x0 x0) true:=by
 unfold l7;exact Yd.cn (by simp [seq,bI,c5.beq]) (Yd.cn (by simp [seq,bI,c5.beq]) (Yd.pure))
theorem G4 {x0:List aJ} (hx:EW aJ.ok x0):Yd (fun k=>nP k x0 x0) true:=by
 unfold nP;exact Ga (d:=(default:aJ)) (F:=fun k a b=>l7 k a b) (l:=fun k i=>iter (ts:=qZ) (R:=Bool) k (vC (some true)) x0 x0 i) hx.1 (fun _ _=>rfl) (fun y hy=>Io (hx.2 y hy))
theorem Jz {x0:aT} (hx:aT.ok x0):Yd (fun k=>q7 k x0 x0) true:=by
 unfold q7;exact Yd.bind (FE hx.1) (Yd.cn (by simp) (Yd.bind (G3 hx.2.1) (Yd.cn (by simp) (Yd.bind (G4 hx.2.2) (Yd.cn (by simp) (Yd.pure))))))
theorem qh {x0:List (List UInt8)} (hx:k_ dd x0):Yd (fun k=>g_ k x0) x0:=by
 unfold g_;exact MT (d:=([]:List UInt8)) (F:=fun _ y=>some y) (l:=fun k i o=>iter (ts:=q8) (R:=List (List UInt8)) k (vE fun v=>some v) x0 i o) (b:=16) hx.1 (by omega) (fun _ _ _=>rfl) (fun y _=>Yd.pure)
theorem DV {x0:aB} (hx:aB.sd x0):Yd (fun k=>ib k x0) (x0.Name,x0.Kind,x0.bR,x0.bU,x0.To,x0.cB,x0.cV,x0.cq,x0.Default,x0.bD,x0.Words):=by
 unfold ib;exact Yd.bind (qh hx.2.2.2.2.1) (Yd.pure)
theorem CX {x0:List aB} (hx:k_ aB.sd x0):Yd (fun k=>jF k x0) x0:=by
 unfold jF;exact QS (d:=(default:aB)) (F:=fun k y=>ib k y) (g:=fun Hw=>(⟨Hw.1,Hw.2.1,Hw.2.2.1,Hw.2.2.2.1,Hw.2.2.2.2.2.2.2.2.2.2,Hw.2.2.2.2.1,Hw.2.2.2.2.2.1,Hw.2.2.2.2.2.2.1,Hw.2.2.2.2.2.2.2.1,Hw.2.2.2.2.2.2.2.2.1,Hw.2.2.2.2.2.2.2.2.2.1⟩:aB)) (fun y=>(y.Name,y.Kind,y.bR,y.bU,y.To,y.cB,y.cV,y.cq,y.Default,y.bD,y.Words)) (l:=fun k i o=>iter (ts:=ox) (R:=List aB) k (q9 fun v=>some v) x0 i o) (b:=128) hx.1 (by omega) (fun _ _ _=>rfl) (fun y hy=>DV (hx.2 y hy)) (fun _=>rfl)
theorem DW {x0:aD} (hx:aD.sd x0):Yd (fun k=>ic k x0) (x0.Kind,x0.aW):=by
 unfold ic;exact Yd.bind (CX hx.2) (Yd.pure)
theorem CY {x0:List aD} (hx:k_ aD.sd x0):Yd (fun k=>jG k x0) x0:=by
 unfold jG;exact QS (d:=(default:aD)) (F:=fun k y=>ic k y) (g:=fun Hw=>(⟨Hw.1,Hw.2⟩:aD)) (fun y=>(y.Kind,y.aW)) (l:=fun k i o=>iter (ts:=oy) (R:=List aD) k (q_ fun v=>some v) x0 i o) (b:=40) hx.1 (by omega) (fun _ _ _=>rfl) (fun y hy=>DW (hx.2 y hy)) (fun _=>rfl)
theorem DX {x0:List aF} (hx:k_ aF.sd x0):Yd (fun k=>lh k x0) x0:=by
 unfold lh;exact MT (d:=(default:aF)) (F:=fun k y=>l8 k y) (l:=fun k i o=>iter (ts:=oZ) (R:=List aF) k (sH fun v=>some v) x0 i o) (b:=96) hx.1 (by omega) (fun _ _ _=>rfl) (fun y hy=>Ij (hx.2 y hy))
theorem DY {x0:List aJ} (hx:k_ aJ.sd x0):Yd (fun k=>lj k x0) x0:=by
 unfold lj;exact MT (d:=(default:aJ)) (F:=fun k y=>l9 k y) (l:=fun k i o=>iter (ts:=o4) (R:=List aJ) k (sI fun v=>some v) x0 i o) (b:=32) hx.1 (by omega) (fun _ _ _=>rfl) (fun y hy=>Ik (hx.2 y hy))
theorem lP {x0:aT} (hx:aT.sd x0):Yd (fun k=>fj k x0) (x0.cf,x0.iA,x0.eB):=by
 unfold fj;exact Yd.bind (CY hx.1) (Yd.bind (DX hx.2.1) (Yd.bind (DY hx.2.2) (Yd.pure)))
theorem CZ {x0:aA} (hx:aA.sd x0):Yd (fun k=>gE k x0) (x0.Kind,x0.Name,x0.aY,x0.Ending,x0.Version,x0.aP,x0.b8):=by
 unfold gE;exact Yd.bind (qh hx.2.2.2.1) (Yd.bind (qh hx.2.2.2.2.2.1) (Yd.pure))
theorem BI {x0:List aA} (hx:k_ aA.sd x0):Yd (fun k=>iQ k x0) x0:=by
 unfold iQ;exact QS (d:=(default:aA)) (F:=fun k y=>gE k y) (g:=fun Hw=>(⟨Hw.1,Hw.2.1,Hw.2.2.1,Hw.2.2.2.2.2.1,Hw.2.2.2.1,Hw.2.2.2.2.2.2,Hw.2.2.2.2.1⟩:aA)) (fun y=>(y.Kind,y.Name,y.aY,y.Ending,y.Version,y.aP,y.b8)) (l:=fun k i o=>iter (ts:=m9) (R:=List aA) k (qu fun v=>some v) x0 i o) (b:=112) hx.1 (by omega) (fun _ _ _=>rfl) (fun y hy=>CZ (hx.2 y hy)) (fun _=>rfl)
theorem Ll {x0:List Int} (hx:k_ mj x0):Yd (fun k=>tS k x0) x0:=by
 unfold tS;exact MT (d:=(0:Int)) (F:=fun _ y=>some y) (l:=fun k i o=>iter (ts:=vF) (R:=List Int) k (zX fun v=>some v) x0 i o) (b:=8) hx.1 (by omega) (fun _ _ _=>rfl) (fun y _=>Yd.pure)
theorem FF {x0:bG} (hx:bG.sd x0):Yd (fun k=>mO k x0) (x0.Kind,x0.aY,x0.cP,x0.b_):=by
 unfold mO;exact Yd.bind (Ll hx.1) (Yd.pure)
theorem DZ {x0:aG} (hx:aG.sd x0):Yd (fun k=>ie k x0) (x0.Number,x0.To,x0.By,x0.cF.Kind,x0.cF.aY,x0.cF.cP,x0.cF.b_):=by
 unfold ie;exact Yd.bind (FF hx.2.2.2) (Yd.pure)
theorem C0 {x0:List aG} (hx:k_ aG.sd x0):Yd (fun k=>jK k x0) x0:=by
 unfold jK;exact QS (d:=(default:aG)) (F:=fun k y=>ie k y) (g:=fun Hw=>(⟨Hw.1,Hw.2.1,Hw.2.2.1,(⟨Hw.2.2.2.2.2.2,Hw.2.2.2.1,Hw.2.2.2.2.1,Hw.2.2.2.2.2.1⟩:bG)⟩:aG)) (fun y=>(y.Number,y.To,y.By,y.cF.Kind,y.cF.aY,y.cF.cP,y.cF.b_)) (l:=fun k i o=>iter (ts:=oB) (R:=List aG) k (rh fun v=>some v) x0 i o) (b:=112) hx.1 (by omega) (fun _ _ _=>rfl) (fun y hy=>DZ (hx.2 y hy)) (fun _=>rfl)
theorem BJ {x0:List aE} (hx:k_ aE.sd x0):Yd (fun k=>iS k x0) x0:=by
 unfold iS;exact MT (d:=(default:aE)) (F:=fun k y=>iR k y) (l:=fun k i o=>iter (ts:=m_) (R:=List aE) k (qw fun v=>some v) x0 i o) (b:=48) hx.1 (by omega) (fun _ _ _=>rfl) (fun y hy=>Fy (hx.2 y hy))
theorem C1 {x0:List aC} (hx:k_ aC.sd x0):Yd (fun k=>jL k x0) x0:=by
 unfold jL;exact MT (d:=(default:aC)) (F:=fun k y=>ky k y) (l:=fun k i o=>iter (ts:=oC) (R:=List aC) k (rj fun v=>some v) x0 i o) (b:=64) hx.1 (by omega) (fun _ _ _=>rfl) (fun y hy=>GW (hx.2 y hy))
theorem j8 {x0:aI} (hx:aI.sd x0):Yd (fun k=>eC k x0) (x0.zR,x0.ix,x0.fX,x0.aO,x0.bK,x0.aK,x0.aU):=by
 unfold eC;exact Yd.bind (BI hx.2.2.2.1) (Yd.bind (C0 hx.2.2.2.2.1) (Yd.bind (BJ hx.2.2.2.2.2.1) (Yd.bind (C1 hx.2.2.2.2.2.2) (Yd.pure))))
end Go.Proofs.YtjkbbdldmdajkaaGreatDoor.Pu
