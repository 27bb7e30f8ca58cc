/- The laws' own functions on data: what takes a size away, what copies, what compares. No condition. -/
import Derived.Test.YtljfmaaadnoggaaGreatDoorPvA
set_option linter.unusedSimpArgs false
set_option linter.unusedVariables false
namespace Go.Proofs.YtljfmaaadnoggaaGreatDoor.Pu
open Go Go.RowKit Go.Proofs.YtljfmaaadnoggaaGreatDoor.cU Go.Proofs.YtljfmaaadnoggaaGreatDoor.Fn
def _root_.Go.Proofs.YtljfmaaadnoggaaGreatDoor.cU.aB.sd (x:aB):Prop:=dc x.Name∧jZ x.Kind∧jZ x.bP∧jZ x.bW∧jt dc x.Words∧dc x.To∧jZ x.cu∧jZ x.cN∧jZ x.cg∧dc x.Default∧dc x.aY
def _root_.Go.Proofs.YtljfmaaadnoggaaGreatDoor.cU.aC.sd (x:aC):Prop:=dc x.Kind∧jt aB.sd x.aT
def _root_.Go.Proofs.YtljfmaaadnoggaaGreatDoor.cU.aD.sd (x:aD):Prop:=dc x.Kind∧dc x.Field∧dc x.cT∧dc x.Is∧dc x.rN∧dc x.cA
def _root_.Go.Proofs.YtljfmaaadnoggaaGreatDoor.cU.aH.sd (x:aH):Prop:=dc x.Name∧dc x.gC
def _root_.Go.Proofs.YtljfmaaadnoggaaGreatDoor.cU.aL.sd (x:aL):Prop:=jt aC.sd x.bX∧jt aD.sd x.gH∧jt aH.sd x.dS
def _root_.Go.Proofs.YtljfmaaadnoggaaGreatDoor.cU.aA.sd (x:aA):Prop:=dc x.Kind∧dc x.Name∧dc x.aX∧jt dc x.aN∧jZ x.Ending∧jt dc x.b6∧jZ x.Version
def _root_.Go.Proofs.YtljfmaaadnoggaaGreatDoor.cU.a_.sd (x:a_):Prop:=jt jZ x.cw∧dc x.Kind∧dc x.aX∧dc x.cP
def _root_.Go.Proofs.YtljfmaaadnoggaaGreatDoor.cU.aI.sd (x:aI):Prop:=jZ x.Number∧dc x.To∧dc x.By∧a_.sd x.cL
def _root_.Go.Proofs.YtljfmaaadnoggaaGreatDoor.cU.aF.sd (x:aF):Prop:=dc x.aX∧dc x.aV∧jZ x.bW∧jZ x.ly
def _root_.Go.Proofs.YtljfmaaadnoggaaGreatDoor.cU.aJ.sd (x:aJ):Prop:=dc x.hC∧dc x.aX∧dc x.aV∧jZ x.cI∧jZ x.fC
def _root_.Go.Proofs.YtljfmaaadnoggaaGreatDoor.cU.aG.sd (x:aG):Prop:=jZ x.Ei∧jZ x.nW∧jZ x.jX∧jt aA.sd x.aK∧jt aI.sd x.bV∧jt aF.sd x.aS∧jt aJ.sd x.bG
def _root_.Go.Proofs.YtljfmaaadnoggaaGreatDoor.cU.ck.sd (x:ck):Prop:=dc x.dw∧dc x.resource
def _root_.Go.Proofs.YtljfmaaadnoggaaGreatDoor.cU.cV.sd (x:cV):Prop:=jZ x.code∧jZ x.place
def _root_.Go.Proofs.YtljfmaaadnoggaaGreatDoor.cU.bD.sd (x:bD):Prop:=aB.sd x.aB
def _root_.Go.Proofs.YtljfmaaadnoggaaGreatDoor.cU.Gi.sd (x:Gi):Prop:=dc x.kind∧dc x.name
def _root_.Go.Proofs.YtljfmaaadnoggaaGreatDoor.cU.cb.sd (x:cb):Prop:=dc x.Key∧jZ x.Mb
def _root_.Go.Proofs.YtljfmaaadnoggaaGreatDoor.cU.cG.sd (x:cG):Prop:=ck.sd x.Key∧jZ x.Mb
def _root_.Go.Proofs.YtljfmaaadnoggaaGreatDoor.cU.cE.sd (x:cE):Prop:=jZ x.t∧jZ x.x
theorem sN {x0:List (List UInt8)} (hx:EJ eM x0) {n:Int} (h0:0≤n) (hn:n≤1048576):g_ (fun k=>jD k x0 n) n ((jt dc) x0):=by
 unfold jD
 refine Im (d:=([]:List UInt8)) (p:=dc) (F:=fun k y v=>(some (bS .i64 v (y.length:Int)))) (l:=fun k v i=>iter (ts:=tR) (R:=Int) k (yk fun v=>some v) x0 v i) hx.1 hn h0 (fun _ _ _=>rfl) fun y hy n h0 hn=>?_
 have hy':=hx.2 y hy
 unfold eM at hy'
 have hm:=max_eq
 have e:bS .i64 n (y.length:Int)=n-y.length:=Vz (by omega) (by omega)
 exact ⟨_,Yd.pure,by omega,fun h=>by unfold dc;omega⟩
theorem GQ {x0:aB} (hx:aB.ok x0) {n:Int} (h0:0≤n) (hn:n≤1048576):g_ (fun k=>jE k x0 n) n (aB.sd x0):=by
 unfold jE
 exact g_.str h0 hn hx.1 fun a0 b0 s0=>g_.call (sN hx.2.2.2.2.1 a0 b0) a0 b0 fun v1 a1 b1 _ s1=>g_.str a1 b1 hx.2.2.2.2.2.1 fun a2 b2 s2=>g_.str a2 b2 hx.2.2.2.2.2.2.2.2.2.1 fun a3 b3 s3=>g_.str a3 b3 hx.2.2.2.2.2.2.2.2.2.2 fun a4 b4 s4=>g_.done ⟨s0,trivial,trivial,trivial,s1,s2,trivial,trivial,trivial,s3,s4⟩
theorem Fg {x0:List aB} (hx:EJ aB.ok x0) {n:Int} (h0:0≤n) (hn:n≤1048576):g_ (fun k=>lP k x0 n) n ((jt aB.sd) x0):=by
 unfold lP
 exact Im (d:=(default:aB)) (p:=aB.sd) (F:=fun k y v=>jE k y v) (l:=fun k v i=>iter (ts:=pI) (R:=Int) k (tS fun v=>some v) x0 v i) hx.1 hn h0 (fun _ _ _=>rfl) (fun y hy n h0 hn=>GQ (hx.2 y hy) h0 hn)
theorem GR {x0:aC} (hx:aC.ok x0) {n:Int} (h0:0≤n) (hn:n≤1048576):g_ (fun k=>jF k x0 n) n (aC.sd x0):=by
 unfold jF
 exact g_.str h0 hn hx.1 fun a0 b0 s0=>g_.call (Fg hx.2 a0 b0) a0 b0 fun v1 a1 b1 _ s1=>g_.done ⟨s0,s1⟩
theorem Fh {x0:List aC} (hx:EJ aC.ok x0) {n:Int} (h0:0≤n) (hn:n≤1048576):g_ (fun k=>lQ k x0 n) n ((jt aC.sd) x0):=by
 unfold lQ
 exact Im (d:=(default:aC)) (p:=aC.sd) (F:=fun k y v=>jF k y v) (l:=fun k v i=>iter (ts:=pJ) (R:=Int) k (tT fun v=>some v) x0 v i) hx.1 hn h0 (fun _ _ _=>rfl) (fun y hy n h0 hn=>GR (hx.2 y hy) h0 hn)
theorem Ip {x0:aD} (hx:aD.ok x0) {n:Int} (h0:0≤n) (hn:n≤1048576):g_ (fun k=>kU k x0 n) n (aD.sd x0):=by
 unfold kU
 exact g_.str h0 hn hx.1 fun a0 b0 s0=>g_.str a0 b0 hx.2.1 fun a1 b1 s1=>g_.str a1 b1 hx.2.2.1 fun a2 b2 s2=>g_.str a2 b2 hx.2.2.2.1 fun a3 b3 s3=>g_.str a3 b3 hx.2.2.2.2.1 fun a4 b4 s4=>g_.str a4 b4 hx.2.2.2.2.2 fun a5 b5 s5=>g_.done ⟨s0,s1,s2,s3,s4,s5⟩
theorem GS {x0:List aD} (hx:EJ aD.ok x0) {n:Int} (h0:0≤n) (hn:n≤1048576):g_ (fun k=>mZ k x0 n) n ((jt aD.sd) x0):=by
 unfold mZ
 exact Im (d:=(default:aD)) (p:=aD.sd) (F:=fun k y v=>kU k y v) (l:=fun k v i=>iter (ts:=qy) (R:=Int) k (vj fun v=>some v) x0 v i) hx.1 hn h0 (fun _ _ _=>rfl) (fun y hy n h0 hn=>Ip (hx.2 y hy) h0 hn)
theorem Iq {x0:aH} (hx:aH.ok x0) {n:Int} (h0:0≤n) (hn:n≤1048576):g_ (fun k=>kV k x0 n) n (aH.sd x0):=by
 unfold kV
 exact g_.str h0 hn hx.1 fun a0 b0 s0=>g_.str a0 b0 hx.2 fun a1 b1 s1=>g_.done ⟨s0,s1⟩
theorem GU {x0:List aH} (hx:EJ aH.ok x0) {n:Int} (h0:0≤n) (hn:n≤1048576):g_ (fun k=>m7 k x0 n) n ((jt aH.sd) x0):=by
 unfold m7
 exact Im (d:=(default:aH)) (p:=aH.sd) (F:=fun k y v=>kV k y v) (l:=fun k v i=>iter (ts:=qz) (R:=Int) k (vk fun v=>some v) x0 v i) hx.1 hn h0 (fun _ _ _=>rfl) (fun y hy n h0 hn=>Iq (hx.2 y hy) h0 hn)
theorem JL {x0:aL} (hx:aL.ok x0) {n:Int} (h0:0≤n) (hn:n≤1048576):g_ (fun k=>qw k x0 n) n (aL.sd x0):=by
 unfold qw
 exact g_.call (Fh hx.1 h0 hn) h0 hn fun v0 a0 b0 _ s0=>g_.call (GS hx.2.1 a0 b0) a0 b0 fun v1 a1 b1 _ s1=>g_.call (GU hx.2.2 a1 b1) a1 b1 fun v2 a2 b2 _ s2=>g_.done ⟨s0,s1,s2⟩
theorem Fj {x0:aA} (hx:aA.ok x0) {n:Int} (h0:0≤n) (hn:n≤1048576):g_ (fun k=>ix k x0 n) n (aA.sd x0):=by
 unfold ix
 exact g_.str h0 hn hx.1 fun a0 b0 s0=>g_.str a0 b0 hx.2.1 fun a1 b1 s1=>g_.str a1 b1 hx.2.2.1 fun a2 b2 s2=>g_.call (sN hx.2.2.2.1 a2 b2) a2 b2 fun v3 a3 b3 _ s3=>g_.call (sN hx.2.2.2.2.2.1 a3 b3) a3 b3 fun v4 a4 b4 _ s4=>g_.done ⟨s0,s1,s2,s3,trivial,s4,trivial⟩
theorem DE {x0:List aA} (hx:EJ aA.ok x0) {n:Int} (h0:0≤n) (hn:n≤1048576):g_ (fun k=>kl k x0 n) n ((jt aA.sd) x0):=by
 unfold kl
 exact Im (d:=(default:aA)) (p:=aA.sd) (F:=fun k y v=>ix k y v) (l:=fun k v i=>iter (ts:=oj) (R:=Int) k (sa fun v=>some v) x0 v i) hx.1 hn h0 (fun _ _ _=>rfl) (fun y hy n h0 hn=>Fj (hx.2 y hy) h0 hn)
theorem OI {x0:List Int} (hx:EJ (nO .i64) x0) {n:Int} (h0:0≤n) (hn:n≤1048576):g_ (fun k=>yn k x0 n) n ((jt jZ) x0):=by
 unfold yn
 exact g_.str h0 hn hx.1 fun _ _ a=>g_.done ⟨a,fun _ _=>trivial⟩
theorem Ir {x0:a_} (hx:a_.ok x0) {n:Int} (h0:0≤n) (hn:n≤1048576):g_ (fun k=>oM k x0 n) n (a_.sd x0):=by
 unfold oM
 exact g_.call (OI hx.1 h0 hn) h0 hn fun v0 a0 b0 _ s0=>g_.str a0 b0 hx.2.1 fun a1 b1 s1=>g_.str a1 b1 hx.2.2.1 fun a2 b2 s2=>g_.str a2 b2 hx.2.2.2 fun a3 b3 s3=>g_.done ⟨s0,s1,s2,s3⟩
theorem GV {x0:aI} (hx:aI.ok x0) {n:Int} (h0:0≤n) (hn:n≤1048576):g_ (fun k=>jG k x0 n) n (aI.sd x0):=by
 unfold jG
 exact g_.str h0 hn hx.2.1 fun a0 b0 s0=>g_.str a0 b0 hx.2.2.1 fun a1 b1 s1=>g_.call (Ir hx.2.2.2 a1 b1) a1 b1 fun v2 a2 b2 _ s2=>g_.done ⟨trivial,s0,s1,s2⟩
theorem Fk {x0:List aI} (hx:EJ aI.ok x0) {n:Int} (h0:0≤n) (hn:n≤1048576):g_ (fun k=>lR k x0 n) n ((jt aI.sd) x0):=by
 unfold lR
 exact Im (d:=(default:aI)) (p:=aI.sd) (F:=fun k y v=>jG k y v) (l:=fun k v i=>iter (ts:=pK) (R:=Int) k (tV fun v=>some v) x0 v i) hx.1 hn h0 (fun _ _ _=>rfl) (fun y hy n h0 hn=>GV (hx.2 y hy) h0 hn)
theorem Fl {x0:aF} (hx:aF.ok x0) {n:Int} (h0:0≤n) (hn:n≤1048576):g_ (fun k=>iy k x0 n) n (aF.sd x0):=by
 unfold iy
 exact g_.str h0 hn hx.1 fun a0 b0 s0=>g_.str a0 b0 hx.2.1 fun a1 b1 s1=>g_.done ⟨s0,s1,trivial,trivial⟩
theorem DF {x0:List aF} (hx:EJ aF.ok x0) {n:Int} (h0:0≤n) (hn:n≤1048576):g_ (fun k=>km k x0 n) n ((jt aF.sd) x0):=by
 unfold km
 exact Im (d:=(default:aF)) (p:=aF.sd) (F:=fun k y v=>iy k y v) (l:=fun k v i=>iter (ts:=om) (R:=Int) k (sb fun v=>some v) x0 v i) hx.1 hn h0 (fun _ _ _=>rfl) (fun y hy n h0 hn=>Fl (hx.2 y hy) h0 hn)
theorem GW {x0:aJ} (hx:aJ.ok x0) {n:Int} (h0:0≤n) (hn:n≤1048576):g_ (fun k=>jH k x0 n) n (aJ.sd x0):=by
 unfold jH
 exact g_.str h0 hn hx.1 fun a0 b0 s0=>g_.str a0 b0 hx.2.1 fun a1 b1 s1=>g_.str a1 b1 hx.2.2.1 fun a2 b2 s2=>g_.done ⟨s0,s1,s2,trivial,trivial⟩
theorem Fm {x0:List aJ} (hx:EJ aJ.ok x0) {n:Int} (h0:0≤n) (hn:n≤1048576):g_ (fun k=>lS k x0 n) n ((jt aJ.sd) x0):=by
 unfold lS
 exact Im (d:=(default:aJ)) (p:=aJ.sd) (F:=fun k y v=>jH k y v) (l:=fun k v i=>iter (ts:=pL) (R:=Int) k (tX fun v=>some v) x0 v i) hx.1 hn h0 (fun _ _ _=>rfl) (fun y hy n h0 hn=>GW (hx.2 y hy) h0 hn)
theorem H6 {x0:aG} (hx:aG.ok x0) {n:Int} (h0:0≤n) (hn:n≤1048576):g_ (fun k=>oL k x0 n) n (aG.sd x0):=by
 unfold oL
 exact g_.call (DE hx.2.2.2.1 h0 hn) h0 hn fun v0 a0 b0 _ s0=>g_.call (Fk hx.2.2.2.2.1 a0 b0) a0 b0 fun v1 a1 b1 _ s1=>g_.call (DF hx.2.2.2.2.2.1 a1 b1) a1 b1 fun v2 a2 b2 _ s2=>g_.call (Fm hx.2.2.2.2.2.2 a2 b2) a2 b2 fun v3 a3 b3 _ s3=>g_.done ⟨trivial,trivial,trivial,s0,s1,s2,s3⟩
theorem sO {x0:List (List UInt8)} (hx:jt dc x0):Yd (fun k=>jI k x0) x0:=by
 unfold jI
 exact uv (d:=([]:List UInt8)) (F:=fun _ y=>some y) (l:=fun k i o=>iter (ts:=tY) (R:=List (List UInt8)) k (yq fun v=>some v) x0 i o) (b:=16) hx.1 (by omega) (fun _ _ _=>rfl) (fun y _=>Yd.pure)
theorem GX {x0:aB} (hx:aB.sd x0):Yd (fun k=>jJ k x0) x0:=by
 unfold jJ
 exact Yd.bind (sO hx.2.2.2.2.1) (Yd.pure)
theorem Fp {x0:List aB} (hx:jt aB.sd x0):Yd (fun k=>lT k x0) x0:=by
 unfold lT
 exact uv (d:=(default:aB)) (F:=fun k y=>jJ k y) (l:=fun k i o=>iter (ts:=pM) (R:=List aB) k (tZ fun v=>some v) x0 i o) (b:=128) hx.1 (by omega) (fun _ _ _=>rfl) (fun y hy=>GX (hx.2 y hy))
theorem GY {x0:aC} (hx:aC.sd x0):Yd (fun k=>jK k x0) x0:=by
 unfold jK
 exact Yd.bind (Fp hx.2) (Yd.pure)
theorem Fq {x0:List aC} (hx:jt aC.sd x0):Yd (fun k=>lU k x0) x0:=by
 unfold lU
 exact uv (d:=(default:aC)) (F:=fun k y=>jK k y) (l:=fun k i o=>iter (ts:=pN) (R:=List aC) k (t_ fun v=>some v) x0 i o) (b:=40) hx.1 (by omega) (fun _ _ _=>rfl) (fun y hy=>GY (hx.2 y hy))
theorem y6 {x0:aD} (_:aD.sd x0):Yd (fun k=>fS k x0) x0:=by
 unfold fS
 exact Yd.pure
theorem GZ {x0:List aD} (hx:jt aD.sd x0):Yd (fun k=>m8 k x0) x0:=by
 unfold m8
 exact uv (d:=(default:aD)) (F:=fun k y=>fS k y) (l:=fun k i o=>iter (ts:=qB) (R:=List aD) k (vt fun v=>some v) x0 i o) (b:=96) hx.1 (by omega) (fun _ _ _=>rfl) (fun y hy=>y6 (hx.2 y hy))
theorem y7 {x0:aH} (_:aH.sd x0):Yd (fun k=>fT k x0) x0:=by
 unfold fT
 exact Yd.pure
theorem G0 {x0:List aH} (hx:jt aH.sd x0):Yd (fun k=>m9 k x0) x0:=by
 unfold m9
 exact uv (d:=(default:aH)) (F:=fun k y=>fT k y) (l:=fun k i o=>iter (ts:=qD) (R:=List aH) k (vu fun v=>some v) x0 i o) (b:=32) hx.1 (by omega) (fun _ _ _=>rfl) (fun y hy=>y7 (hx.2 y hy))
theorem sG {x0:aL} (hx:aL.sd x0):Yd (fun k=>jC k x0) x0:=by
 unfold jC
 exact Yd.bind (Fq hx.1) (Yd.bind (GZ hx.2.1) (Yd.bind (G0 hx.2.2) (Yd.pure)))
theorem Fs {x0:aA} (hx:aA.sd x0):Yd (fun k=>iz k x0) x0:=by
 unfold iz
 exact Yd.bind (sO hx.2.2.2.1) (Yd.bind (sO hx.2.2.2.2.2.1) (Yd.pure))
theorem DG {x0:List aA} (hx:jt aA.sd x0):Yd (fun k=>ko k x0) x0:=by
 unfold ko
 exact uv (d:=(default:aA)) (F:=fun k y=>iz k y) (l:=fun k i o=>iter (ts:=oo) (R:=List aA) k (sc fun v=>some v) x0 i o) (b:=112) hx.1 (by omega) (fun _ _ _=>rfl) (fun y hy=>Fs (hx.2 y hy))
theorem OJ {x0:List Int} (hx:jt jZ x0):Yd (fun k=>yt k x0) x0:=by
 unfold yt
 exact uv (d:=(0:Int)) (F:=fun _ y=>some y) (l:=fun k i o=>iter (ts:=yr) (R:=List Int) k (CP fun v=>some v) x0 i o) (b:=8) hx.1 (by omega) (fun _ _ _=>rfl) (fun y _=>Yd.pure)
theorem It {x0:a_} (hx:a_.sd x0):Yd (fun k=>oN k x0) x0:=by
 unfold oN
 exact Yd.bind (OJ hx.1) (Yd.pure)
theorem G3 {x0:aI} (hx:aI.sd x0):Yd (fun k=>jL k x0) x0:=by
 unfold jL
 exact Yd.bind (It hx.2.2.2) (Yd.pure)
theorem Ft {x0:List aI} (hx:jt aI.sd x0):Yd (fun k=>lV k x0) x0:=by
 unfold lV
 exact uv (d:=(default:aI)) (F:=fun k y=>jL k y) (l:=fun k i o=>iter (ts:=pO) (R:=List aI) k (ub fun v=>some v) x0 i o) (b:=112) hx.1 (by omega) (fun _ _ _=>rfl) (fun y hy=>G3 (hx.2 y hy))
theorem vN {x0:aF} (_:aF.sd x0):Yd (fun k=>dY k x0) x0:=by
 unfold dY
 exact Yd.pure
theorem DH {x0:List aF} (hx:jt aF.sd x0):Yd (fun k=>kq k x0) x0:=by
 unfold kq
 exact uv (d:=(default:aF)) (F:=fun k y=>dY k y) (l:=fun k i o=>iter (ts:=oq) (R:=List aF) k (se fun v=>some v) x0 i o) (b:=48) hx.1 (by omega) (fun _ _ _=>rfl) (fun y hy=>vN (hx.2 y hy))
theorem xJ {x0:aJ} (_:aJ.sd x0):Yd (fun k=>eV k x0) x0:=by
 unfold eV
 exact Yd.pure
theorem Fu {x0:List aJ} (hx:jt aJ.sd x0):Yd (fun k=>lW k x0) x0:=by
 unfold lW
 exact uv (d:=(default:aJ)) (F:=fun k y=>eV k y) (l:=fun k i o=>iter (ts:=pP) (R:=List aJ) k (ud fun v=>some v) x0 i o) (b:=64) hx.1 (by omega) (fun _ _ _=>rfl) (fun y hy=>xJ (hx.2 y hy))
theorem rl {x0:aG} (hx:aG.sd x0):Yd (fun k=>hU k x0) x0:=by
 unfold hU
 exact Yd.bind (DG hx.2.2.2.1) (Yd.bind (Ft hx.2.2.2.2.1) (Yd.bind (DH hx.2.2.2.2.2.1) (Yd.bind (Fu hx.2.2.2.2.2.2) (Yd.pure))))
theorem FT {x0:List Int} (hx:EJ (nO .i64) x0):Yd (fun k=>jY k x0 x0) true:=by
 unfold jY
 exact F9 (d:=(0:Int)) (F:=fun _ a b=>some (bM a b)) (l:=fun k i=>iter (ts:=x9) (R:=Bool) k (CM (some true)) x0 x0 i) hx.1 (fun _ _=>rfl) (fun y _=>Yd.of fun _=>by rw [H8])
theorem sP {x0:List (List UInt8)} (hx:EJ eM x0):Yd (fun k=>jw k x0 x0) true:=by
 unfold jw
 exact F9 (d:=([]:List UInt8)) (F:=fun _ a b=>some (seq a b)) (l:=fun k i=>iter (ts:=tC) (R:=Bool) k (x_ (some true)) x0 x0 i) hx.1 (fun _ _=>rfl) (fun y _=>Yd.of fun _=>by rw [Dq])
theorem G4 {x0:aB} (hx:aB.ok x0):Yd (fun k=>jx k x0 x0) true:=by
 unfold jx
 exact Yd.cn (by simp [seq,bM,cU.beq]) (Yd.cn (by simp [seq,bM,cU.beq]) (Yd.cn (by simp [seq,bM,cU.beq]) (Yd.cn (by simp [seq,bM,cU.beq]) (Yd.bind (sP hx.2.2.2.2.1) (Yd.cn (by simp) (Yd.cn (by simp [seq,bM,cU.beq]) (Yd.cn (by simp [seq,bM,cU.beq]) (Yd.cn (by simp [seq,bM,cU.beq]) (Yd.cn (by simp [seq,bM,cU.beq]) (Yd.cn (by simp [seq,bM,cU.beq]) (Yd.cn (by simp [seq,bM,cU.beq]) (Yd.pure))))))))))))
theorem Fv {x0:List aB} (hx:EJ aB.ok x0):Yd (fun k=>lI k x0 x0) true:=by
 unfold lI
 exact F9 (d:=(default:aB)) (F:=fun k a b=>jx k a b) (l:=fun k i=>iter (ts:=pC) (R:=Bool) k (tD (some true)) x0 x0 i) hx.1 (fun _ _=>rfl) (fun y hy=>G4 (hx.2 y hy))
theorem G5 {x0:aC} (hx:aC.ok x0):Yd (fun k=>jy k x0 x0) true:=by
 unfold jy
 exact Yd.cn (by simp [seq,bM,cU.beq]) (Yd.bind (Fv hx.2) (Yd.cn (by simp) (Yd.pure)))
theorem Fw {x0:List aC} (hx:EJ aC.ok x0):Yd (fun k=>lJ k x0 x0) true:=by
 unfold lJ
 exact F9 (d:=(default:aC)) (F:=fun k a b=>jy k a b) (l:=fun k i=>iter (ts:=pD) (R:=Bool) k (tE (some true)) x0 x0 i) hx.1 (fun _ _=>rfl) (fun y hy=>G5 (hx.2 y hy))
theorem Iu {x0:aD} (_:aD.ok x0):Yd (fun k=>kS k x0 x0) true:=by
 unfold kS
 exact Yd.cn (by simp [seq,bM,cU.beq]) (Yd.cn (by simp [seq,bM,cU.beq]) (Yd.cn (by simp [seq,bM,cU.beq]) (Yd.cn (by simp [seq,bM,cU.beq]) (Yd.cn (by simp [seq,bM,cU.beq]) (Yd.cn (by simp [seq,bM,cU.beq]) (Yd.pure))))))
theorem G6 {x0:List aD} (hx:EJ aD.ok x0):Yd (fun k=>mR k x0 x0) true:=by
 unfold mR
 exact F9 (d:=(default:aD)) (F:=fun k a b=>kS k a b) (l:=fun k i=>iter (ts:=qe) (R:=Bool) k (uV (some true)) x0 x0 i) hx.1 (fun _ _=>rfl) (fun y hy=>Iu (hx.2 y hy))
theorem Iv {x0:aH} (_:aH.ok x0):Yd (fun k=>kT k x0 x0) true:=by
 unfold kT
 exact Yd.cn (by simp [seq,bM,cU.beq]) (Yd.cn (by simp [seq,bM,cU.beq]) (Yd.pure))
theorem G7 {x0:List aH} (hx:EJ aH.ok x0):Yd (fun k=>mS k x0 x0) true:=by
 unfold mS
 exact F9 (d:=(default:aH)) (F:=fun k a b=>kT k a b) (l:=fun k i=>iter (ts:=qf) (R:=Bool) k (uW (some true)) x0 x0 i) hx.1 (fun _ _=>rfl) (fun y hy=>Iv (hx.2 y hy))
theorem JM {x0:aL} (hx:aL.ok x0):Yd (fun k=>qg k x0 x0) true:=by
 unfold qg
 exact Yd.bind (Fw hx.1) (Yd.cn (by simp) (Yd.bind (G6 hx.2.1) (Yd.cn (by simp) (Yd.bind (G7 hx.2.2) (Yd.cn (by simp) (Yd.pure))))))
theorem Fx {x0:aA} (hx:aA.ok x0):Yd (fun k=>il k x0 x0) true:=by
 unfold il
 exact Yd.cn (by simp [seq,bM,cU.beq]) (Yd.cn (by simp [seq,bM,cU.beq]) (Yd.cn (by simp [seq,bM,cU.beq]) (Yd.bind (sP hx.2.2.2.1) (Yd.cn (by simp) (Yd.cn (by simp [seq,bM,cU.beq]) (Yd.bind (sP hx.2.2.2.2.2.1) (Yd.cn (by simp) (Yd.cn (by simp [seq,bM,cU.beq]) (Yd.pure)))))))))
theorem DI {x0:List aA} (hx:EJ aA.ok x0):Yd (fun k=>kc k x0 x0) true:=by
 unfold kc
 exact F9 (d:=(default:aA)) (F:=fun k a b=>il k a b) (l:=fun k i=>iter (ts:=oc) (R:=Bool) k (rU (some true)) x0 x0 i) hx.1 (fun _ _=>rfl) (fun y hy=>Fx (hx.2 y hy))
theorem Iw {x0:a_} (hx:a_.ok x0):Yd (fun k=>oI k x0 x0) true:=by
 unfold oI
 exact Yd.bind (FT hx.1) (Yd.cn (by simp) (Yd.cn (by simp [seq,bM,cU.beq]) (Yd.cn (by simp [seq,bM,cU.beq]) (Yd.cn (by simp [seq,bM,cU.beq]) (Yd.pure)))))
theorem G8 {x0:aI} (hx:aI.ok x0):Yd (fun k=>jz k x0 x0) true:=by
 unfold jz
 exact Yd.cn (by simp [seq,bM,cU.beq]) (Yd.cn (by simp [seq,bM,cU.beq]) (Yd.cn (by simp [seq,bM,cU.beq]) (Yd.bind (Iw hx.2.2.2) (Yd.cn (by simp) (Yd.pure)))))
theorem Fy {x0:List aI} (hx:EJ aI.ok x0):Yd (fun k=>lK k x0 x0) true:=by
 unfold lK
 exact F9 (d:=(default:aI)) (F:=fun k a b=>jz k a b) (l:=fun k i=>iter (ts:=pE) (R:=Bool) k (tG (some true)) x0 x0 i) hx.1 (fun _ _=>rfl) (fun y hy=>G8 (hx.2 y hy))
theorem Fz {x0:aF} (_:aF.ok x0):Yd (fun k=>im k x0 x0) true:=by
 unfold im
 exact Yd.cn (by simp [seq,bM,cU.beq]) (Yd.cn (by simp [seq,bM,cU.beq]) (Yd.cn (by simp [seq,bM,cU.beq]) (Yd.cn (by simp [seq,bM,cU.beq]) (Yd.pure))))
theorem DJ {x0:List aF} (hx:EJ aF.ok x0):Yd (fun k=>kf k x0 x0) true:=by
 unfold kf
 exact F9 (d:=(default:aF)) (F:=fun k a b=>im k a b) (l:=fun k i=>iter (ts:=od) (R:=Bool) k (rV (some true)) x0 x0 i) hx.1 (fun _ _=>rfl) (fun y hy=>Fz (hx.2 y hy))
theorem G9 {x0:aJ} (_:aJ.ok x0):Yd (fun k=>jA k x0 x0) true:=by
 unfold jA
 exact Yd.cn (by simp [seq,bM,cU.beq]) (Yd.cn (by simp [seq,bM,cU.beq]) (Yd.cn (by simp [seq,bM,cU.beq]) (Yd.cn (by simp [seq,bM,cU.beq]) (Yd.cn (by simp [seq,bM,cU.beq]) (Yd.pure)))))
theorem FA {x0:List aJ} (hx:EJ aJ.ok x0):Yd (fun k=>lL k x0 x0) true:=by
 unfold lL
 exact F9 (d:=(default:aJ)) (F:=fun k a b=>jA k a b) (l:=fun k i=>iter (ts:=pF) (R:=Bool) k (tI (some true)) x0 x0 i) hx.1 (fun _ _=>rfl) (fun y hy=>G9 (hx.2 y hy))
theorem H7 {x0:aG} (hx:aG.ok x0):Yd (fun k=>oJ k x0 x0) true:=by
 unfold oJ
 exact Yd.cn (by simp [seq,bM,cU.beq]) (Yd.cn (by simp [seq,bM,cU.beq]) (Yd.cn (by simp [seq,bM,cU.beq]) (Yd.bind (DI hx.2.2.2.1) (Yd.cn (by simp) (Yd.bind (Fy hx.2.2.2.2.1) (Yd.cn (by simp) (Yd.bind (DJ hx.2.2.2.2.2.1) (Yd.cn (by simp) (Yd.bind (FA hx.2.2.2.2.2.2) (Yd.cn (by simp) (Yd.pure)))))))))))
theorem px {x0:List (List UInt8)} (hx:jt dc x0):Yd (fun k=>gD k x0) x0:=by
 unfold gD
 exact uv (d:=([]:List UInt8)) (F:=fun _ y=>some y) (l:=fun k i o=>iter (ts:=qh) (R:=List (List UInt8)) k (u6 fun v=>some v) x0 i o) (b:=16) hx.1 (by omega) (fun _ _ _=>rfl) (fun y _=>Yd.pure)
theorem DK {x0:aB} (hx:aB.sd x0):Yd (fun k=>gI k x0) (x0.Name,x0.Kind,x0.bP,x0.bW,x0.To,x0.cu,x0.cN,x0.cg,x0.Default,x0.aY,x0.Words):=by
 unfold gI
 exact Yd.bind (px hx.2.2.2.2.1) (Yd.pure)
theorem CA {x0:List aB} (hx:jt aB.sd x0):Yd (fun k=>i_ k x0) x0:=by
 unfold i_
 exact QR (d:=(default:aB)) (F:=fun k y=>gI k y) (g:=fun HE=>(⟨HE.1,HE.2.1,HE.2.2.1,HE.2.2.2.1,HE.2.2.2.2.2.2.2.2.2.2,HE.2.2.2.2.1,HE.2.2.2.2.2.1,HE.2.2.2.2.2.2.1,HE.2.2.2.2.2.2.2.1,HE.2.2.2.2.2.2.2.2.1,HE.2.2.2.2.2.2.2.2.2.1⟩:aB)) (fun y=>(y.Name,y.Kind,y.bP,y.bW,y.To,y.cu,y.cN,y.cg,y.Default,y.aY,y.Words)) (l:=fun k i o=>iter (ts:=nF) (R:=List aB) k (qi fun v=>some v) x0 i o) (b:=128) hx.1 (by omega) (fun _ _ _=>rfl) (fun y hy=>DK (hx.2 y hy)) (fun _=>rfl)
theorem DL {x0:aC} (hx:aC.sd x0):Yd (fun k=>gJ k x0) (x0.Kind,x0.aT):=by
 unfold gJ
 exact Yd.bind (CA hx.2) (Yd.pure)
theorem CB {x0:List aC} (hx:jt aC.sd x0):Yd (fun k=>ja k x0) x0:=by
 unfold ja
 exact QR (d:=(default:aC)) (F:=fun k y=>gJ k y) (g:=fun HE=>(⟨HE.1,HE.2⟩:aC)) (fun y=>(y.Kind,y.aT)) (l:=fun k i o=>iter (ts:=nG) (R:=List aC) k (qj fun v=>some v) x0 i o) (b:=40) hx.1 (by omega) (fun _ _ _=>rfl) (fun y hy=>DL (hx.2 y hy)) (fun _=>rfl)
theorem DM {x0:List aD} (hx:jt aD.sd x0):Yd (fun k=>kg k x0) x0:=by
 unfold kg
 exact uv (d:=(default:aD)) (F:=fun k y=>fS k y) (l:=fun k i o=>iter (ts:=oe) (R:=List aD) k (rY fun v=>some v) x0 i o) (b:=96) hx.1 (by omega) (fun _ _ _=>rfl) (fun y hy=>y6 (hx.2 y hy))
theorem DN {x0:List aH} (hx:jt aH.sd x0):Yd (fun k=>kh k x0) x0:=by
 unfold kh
 exact uv (d:=(default:aH)) (F:=fun k y=>fT k y) (l:=fun k i o=>iter (ts:=og) (R:=List aH) k (rZ fun v=>some v) x0 i o) (b:=32) hx.1 (by omega) (fun _ _ _=>rfl) (fun y hy=>y7 (hx.2 y hy))
theorem GH {x0:aL} (hx:aL.sd x0):Yd (fun k=>mU k x0) (x0.bX,x0.gH,x0.dS):=by
 unfold mU
 exact Yd.bind (CB hx.1) (Yd.bind (DM hx.2.1) (Yd.bind (DN hx.2.2) (Yd.pure)))
theorem CC {x0:aA} (hx:aA.sd x0):Yd (fun k=>fZ k x0) (x0.Kind,x0.Name,x0.aX,x0.Ending,x0.Version,x0.aN,x0.b6):=by
 unfold fZ
 exact Yd.bind (px hx.2.2.2.1) (Yd.bind (px hx.2.2.2.2.2.1) (Yd.pure))
theorem Bh {x0:List aA} (hx:jt aA.sd x0):Yd (fun k=>iq k x0) x0:=by
 unfold iq
 exact QR (d:=(default:aA)) (F:=fun k y=>fZ k y) (g:=fun HE=>(⟨HE.1,HE.2.1,HE.2.2.1,HE.2.2.2.2.2.1,HE.2.2.2.1,HE.2.2.2.2.2.2,HE.2.2.2.2.1⟩:aA)) (fun y=>(y.Kind,y.Name,y.aX,y.Ending,y.Version,y.aN,y.b6)) (l:=fun k i o=>iter (ts:=ma) (R:=List aA) k (pG fun v=>some v) x0 i o) (b:=112) hx.1 (by omega) (fun _ _ _=>rfl) (fun y hy=>CC (hx.2 y hy)) (fun _=>rfl)
theorem LF {x0:List Int} (hx:jt jZ x0):Yd (fun k=>sZ k x0) x0:=by
 unfold sZ
 exact uv (d:=(0:Int)) (F:=fun _ y=>some y) (l:=fun k i o=>iter (ts:=u_) (R:=List Int) k (zF fun v=>some v) x0 i o) (b:=8) hx.1 (by omega) (fun _ _ _=>rfl) (fun y _=>Yd.pure)
theorem FB {x0:a_} (hx:a_.sd x0):Yd (fun k=>lM k x0) (x0.Kind,x0.aX,x0.cP,x0.cw):=by
 unfold lM
 exact Yd.bind (LF hx.1) (Yd.pure)
theorem DO {x0:aI} (hx:aI.sd x0):Yd (fun k=>gK k x0) (x0.Number,x0.To,x0.By,x0.cL.Kind,x0.cL.aX,x0.cL.cP,x0.cL.cw):=by
 unfold gK
 exact Yd.bind (FB hx.2.2.2) (Yd.pure)
theorem CD {x0:List aI} (hx:jt aI.sd x0):Yd (fun k=>je k x0) x0:=by
 unfold je
 exact QR (d:=(default:aI)) (F:=fun k y=>gK k y) (g:=fun HE=>(⟨HE.1,HE.2.1,HE.2.2.1,(⟨HE.2.2.2.2.2.2,HE.2.2.2.1,HE.2.2.2.2.1,HE.2.2.2.2.2.1⟩:a_)⟩:aI)) (fun y=>(y.Number,y.To,y.By,y.cL.Kind,y.cL.aX,y.cL.cP,y.cL.cw)) (l:=fun k i o=>iter (ts:=nK) (R:=List aI) k (qn fun v=>some v) x0 i o) (b:=112) hx.1 (by omega) (fun _ _ _=>rfl) (fun y hy=>DO (hx.2 y hy)) (fun _=>rfl)
theorem Bi {x0:List aF} (hx:jt aF.sd x0):Yd (fun k=>ir k x0) x0:=by
 unfold ir
 exact uv (d:=(default:aF)) (F:=fun k y=>dY k y) (l:=fun k i o=>iter (ts:=mb) (R:=List aF) k (pH fun v=>some v) x0 i o) (b:=48) hx.1 (by omega) (fun _ _ _=>rfl) (fun y hy=>vN (hx.2 y hy))
theorem CE {x0:List aJ} (hx:jt aJ.sd x0):Yd (fun k=>jf k x0) x0:=by
 unfold jf
 exact uv (d:=(default:aJ)) (F:=fun k y=>eV k y) (l:=fun k i o=>iter (ts:=nL) (R:=List aJ) k (qp fun v=>some v) x0 i o) (b:=64) hx.1 (by omega) (fun _ _ _=>rfl) (fun y hy=>xJ (hx.2 y hy))
theorem Ff {x0:aG} (hx:aG.sd x0):Yd (fun k=>lN k x0) (x0.Ei,x0.nW,x0.jX,x0.aK,x0.bV,x0.aS,x0.bG):=by
 unfold lN
 exact Yd.bind (Bh hx.2.2.2.1) (Yd.bind (CD hx.2.2.2.2.1) (Yd.bind (Bi hx.2.2.2.2.2.1) (Yd.bind (CE hx.2.2.2.2.2.2) (Yd.pure))))
end Go.Proofs.YtljfmaaadnoggaaGreatDoor.Pu
