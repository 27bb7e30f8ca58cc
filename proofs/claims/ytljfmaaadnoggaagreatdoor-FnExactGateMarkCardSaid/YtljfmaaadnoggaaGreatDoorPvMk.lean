/- The laws' marks on data. No condition. -/
import Derived.Test.YtljfmaaadnoggaaGreatDoorPvM
import Derived.Test.YtljfmaaadnoggaaGreatDoorPvSz
namespace Go.Proofs.YtljfmaaadnoggaaGreatDoor.Pu
open Go Go.RowKit Go.Proofs.YtljfmaaadnoggaaGreatDoor.cU Go.Proofs.YtljfmaaadnoggaaGreatDoor.Fn
theorem mG {n:Int}:bN n n=false:=by simp [bN]
theorem MY:(!bM (3:Int) (0:Int))=true:=by decide
def pZ (_:List UInt8):Int:=1
def Ze (m:Int) (_:List UInt8):List UInt8:=Io m
theorem Bg (x:List UInt8):0≤pZ x:=by unfold pZ;omega
theorem xI {k:Nat} {m:Int} {xs:List (List UInt8)} (hk:4194304*2≤k) (hx:xs.length≤1048576) (h0:0≤m) (hm:m+gA pZ xs≤4611686018427387904):gE k m xs=some (m+gA pZ xs,CK pZ Ze m xs):=by
 unfold gE
 simp only [share]
 have hl:=hx
 refine jU (R:=Option (Int×(List (List UInt8)))) (p:=fun _=>True) (w:=pZ) (g:=Ze) (B:=4194304*1) (l:=fun k m i o=>iter (ts:=ql) (R:=Int×(List (List UInt8))) k (jb fun a b=>some (a,b)) m i o) (J:=fun a b=>some (a,b)) Bg (fun k m o=>?_) (fun k m pre x r hp hB hq h0 hm=>?_) xs [] m k (fun _ _=>trivial) (by omega) (by simp;omega) h0 hm
 ·simp only [iter,jb,mG,cond_false]
 ·unfold pZ at hm
  simp (discharger:=first | assumption | omega) only [iter,jb,rC,rB,ry,rz,rA,cond_true,cond_false,gN,DD,mF hq,Option.bind_some,eL,nA,sM,MY]
  rw [show m+pZ x=m+1 by unfold pZ;omega]
  rfl
def er (x:aB):Int:=10+gA pZ x.Words
def GP (m:Int) (x:aB):aB:=(⟨Io (m),m+1,m+1+1,m+1+1+1,CK pZ Ze (m+1+1+1+1) x.Words,Io (m+1+1+1+1+gA pZ x.Words),m+1+1+1+1+gA pZ x.Words+1,bM (wI (m+1+1+1+1+gA pZ x.Words+1+1) (3:Int)) (0:Int),bM (wI (m+1+1+1+1+gA pZ x.Words+1+1+1) (3:Int)) (0:Int),Io (m+1+1+1+1+gA pZ x.Words+1+1+1+1),Io (m+1+1+1+1+gA pZ x.Words+1+1+1+1+1)⟩:aB)
theorem zq (x:aB):0≤er x:=by
 unfold er
 have h0:=jT Bg x.Words
 omega
theorem Cz {k:Nat} {m:Int} {xs:List aB} (hk:4194304*3≤k) (hx:jt aB.sd xs) (h0:0≤m) (hm:m+gA er xs≤4611686018427387904):jc k m xs=some (m+gA er xs,CK er GP m xs):=by
 unfold jc
 simp only [share]
 have hl:=hx.1
 refine jU (R:=Option (Int×(List aB))) (p:=aB.sd) (w:=er) (g:=GP) (B:=4194304*2) (l:=fun k m i o=>iter (ts:=nI) (R:=Int×(List aB)) k (gk fun a b=>some (a,b)) m i o) (J:=fun a b=>some (a,b)) zq (fun k m o=>?_) (fun k m pre x r hp hB hq h0 hm=>?_) xs [] m k hx.2 (by omega) (by simp;omega) h0 hm
 ·simp only [iter,gk,mG,cond_false]
 ·unfold er at hm
  have J5:=hp.2.2.2.2.1.1
  have Lc:=jT Bg x.Words
  simp (discharger:=first | assumption | omega) only [iter,gk,rC,rB,ry,rz,rA,cond_true,cond_false,gN,DD,mF hq,Option.bind_some,eL,nA,sM,MY,xI]
  rw [show m+er x=m+1+1+1+1+gA pZ x.Words+1+1+1+1+1+1 by unfold er;omega]
  rfl
def dD (x:aC):Int:=1+gA er x.aT
def GL (m:Int) (x:aC):aC:=(⟨Io (m),CK er GP (m+1) x.aT⟩:aC)
theorem FZ (x:aC):0≤dD x:=by
 unfold dD
 have h0:=jT zq x.aT
 omega
theorem Cw {k:Nat} {m:Int} {xs:List aC} (hk:4194304*4≤k) (hx:jt aC.sd xs) (h0:0≤m) (hm:m+gA dD xs≤4611686018427387904):jd k m xs=some (m+gA dD xs,CK dD GL m xs):=by
 unfold jd
 simp only [share]
 have hl:=hx.1
 refine jU (R:=Option (Int×(List aC))) (p:=aC.sd) (w:=dD) (g:=GL) (B:=4194304*3) (l:=fun k m i o=>iter (ts:=nJ) (R:=Int×(List aC)) k (gl fun a b=>some (a,b)) m i o) (J:=fun a b=>some (a,b)) FZ (fun k m o=>?_) (fun k m pre x r hp hB hq h0 hm=>?_) xs [] m k hx.2 (by omega) (by simp;omega) h0 hm
 ·simp only [iter,gl,mG,cond_false]
 ·unfold dD at hm
  have J5:=hp.2
  have Lc:=jT zq x.aT
  simp (discharger:=first | assumption | omega) only [iter,gl,rC,rB,ry,rz,rA,cond_true,cond_false,gN,DD,mF hq,Option.bind_some,eL,nA,sM,MY,Cz]
  rw [show m+dD x=m+1+gA er x.aT by unfold dD;omega]
  rfl
def e9 (x:aD):Int:=6
def J1 (m:Int) (x:aD):aD:=(⟨Io (m),Io (m+1),Io (m+1+1),Io (m+1+1+1),Io (m+1+1+1+1),Io (m+1+1+1+1+1)⟩:aD)
theorem Ij (x:aD):0≤e9 x:=by
 unfold e9
 omega
theorem DB {k:Nat} {m:Int} {xs:List aD} (hk:4194304*2≤k) (hx:jt aD.sd xs) (h0:0≤m) (hm:m+gA e9 xs≤4611686018427387904):ki k m xs=some (m+gA e9 xs,CK e9 J1 m xs):=by
 unfold ki
 simp only [share]
 have hl:=hx.1
 refine jU (R:=Option (Int×(List aD))) (p:=aD.sd) (w:=e9) (g:=J1) (B:=4194304*1) (l:=fun k m i o=>iter (ts:=oh) (R:=Int×(List aD)) k (gT fun a b=>some (a,b)) m i o) (J:=fun a b=>some (a,b)) Ij (fun k m o=>?_) (fun k m pre x r hp hB hq h0 hm=>?_) xs [] m k hx.2 (by omega) (by simp;omega) h0 hm
 ·simp only [iter,gT,mG,cond_false]
 ·unfold e9 at hm
  simp (discharger:=first | assumption | omega) only [iter,gT,rC,rB,ry,rz,rA,cond_true,cond_false,gN,DD,mF hq,Option.bind_some,eL,nA,sM,MY]
  rw [show m+e9 x=m+1+1+1+1+1+1 by unfold e9;omega]
  rfl
def fP (x:aH):Int:=2
def J3 (m:Int) (x:aH):aH:=(⟨Io (m),Io (m+1)⟩:aH)
theorem Ik (x:aH):0≤fP x:=by
 unfold fP
 omega
theorem DC {k:Nat} {m:Int} {xs:List aH} (hk:4194304*2≤k) (hx:jt aH.sd xs) (h0:0≤m) (hm:m+gA fP xs≤4611686018427387904):kj k m xs=some (m+gA fP xs,CK fP J3 m xs):=by
 unfold kj
 simp only [share]
 have hl:=hx.1
 refine jU (R:=Option (Int×(List aH))) (p:=aH.sd) (w:=fP) (g:=J3) (B:=4194304*1) (l:=fun k m i o=>iter (ts:=oi) (R:=Int×(List aH)) k (gU fun a b=>some (a,b)) m i o) (J:=fun a b=>some (a,b)) Ik (fun k m o=>?_) (fun k m pre x r hp hB hq h0 hm=>?_) xs [] m k hx.2 (by omega) (by simp;omega) h0 hm
 ·simp only [iter,gU,mG,cond_false]
 ·unfold fP at hm
  simp (discharger:=first | assumption | omega) only [iter,gU,rC,rB,ry,rz,rA,cond_true,cond_false,gN,DD,mF hq,Option.bind_some,eL,nA,sM,MY]
  rw [show m+fP x=m+1+1 by unfold fP;omega]
  rfl
def c6 (x:aA):Int:=5+gA pZ x.aN+gA pZ x.b6
def Dz (m:Int) (x:aA):aA:=(⟨Io (m),Io (m+1),Io (m+1+1),CK pZ Ze (m+1+1+1) x.aN,bM (wI (m+1+1+1+gA pZ x.aN) (3:Int)) (0:Int),CK pZ Ze (m+1+1+1+gA pZ x.aN+1) x.b6,m+1+1+1+gA pZ x.aN+1+gA pZ x.b6⟩:aA)
theorem Dx (x:aA):0≤c6 x:=by
 unfold c6
 have h0:=jT Bg x.aN
 have h1:=jT Bg x.b6
 omega
theorem Bd {k:Nat} {m:Int} {xs:List aA} (hk:4194304*3≤k) (hx:jt aA.sd xs) (h0:0≤m) (hm:m+gA c6 xs≤4611686018427387904):iu k m xs=some (m+gA c6 xs,CK c6 Dz m xs):=by
 unfold iu
 simp only [share]
 have hl:=hx.1
 refine jU (R:=Option (Int×(List aA))) (p:=aA.sd) (w:=c6) (g:=Dz) (B:=4194304*2) (l:=fun k m i o=>iter (ts:=mc) (R:=Int×(List aA)) k (fE fun a b=>some (a,b)) m i o) (J:=fun a b=>some (a,b)) Dx (fun k m o=>?_) (fun k m pre x r hp hB hq h0 hm=>?_) xs [] m k hx.2 (by omega) (by simp;omega) h0 hm
 ·simp only [iter,fE,mG,cond_false]
 ·unfold c6 at hm
  have J5:=hp.2.2.2.1.1
  have Lc:=jT Bg x.aN
  have hs1:=hp.2.2.2.2.2.1.1
  have hn1:=jT Bg x.b6
  simp (discharger:=first | assumption | omega) only [iter,fE,rC,rB,ry,rz,rA,cond_true,cond_false,gN,DD,mF hq,Option.bind_some,eL,nA,sM,MY,xI]
  rw [show m+c6 x=m+1+1+1+gA pZ x.aN+1+gA pZ x.b6+1 by unfold c6;omega]
  rfl
def rP (_:Int):Int:=1
def R0 (m:Int) (_:Int):Int:=m
theorem LV (x:Int):0≤rP x:=by unfold rP;omega
theorem B5 {k:Nat} {m:Int} {xs:List Int} (hk:4194304*2≤k) (hx:xs.length≤1048576) (h0:0≤m) (hm:m+gA rP xs≤4611686018427387904):lh k m xs=some (m+gA rP xs,CK rP R0 m xs):=by
 unfold lh
 simp only [share]
 have hl:=hx
 refine jU (R:=Option (Int×(List Int))) (p:=fun _=>True) (w:=rP) (g:=R0) (B:=4194304*1) (l:=fun k m i o=>iter (ts:=ve) (R:=Int×(List Int)) k (mX fun a b=>some (a,b)) m i o) (J:=fun a b=>some (a,b)) LV (fun k m o=>?_) (fun k m pre x r hp hB hq h0 hm=>?_) xs [] m k (fun _ _=>trivial) (by omega) (by simp;omega) h0 hm
 ·simp only [iter,mX,mG,cond_false]
 ·unfold rP at hm
  simp (discharger:=first | assumption | omega) only [iter,mX,rC,rB,ry,rz,rA,cond_true,cond_false,gN,DD,mF hq,Option.bind_some,eL,nA,sM,MY]
  rw [show m+rP x=m+1 by unfold rP;omega]
  rfl
def dE (x:aI):Int:=6+gA rP x.cL.cw
def GM (m:Int) (x:aI):aI:=(⟨m,Io (m+1),Io (m+1+1),(⟨CK rP R0 (m+1+1+1) x.cL.cw,Io (m+1+1+1+gA rP x.cL.cw),Io (m+1+1+1+gA rP x.cL.cw+1),Io (m+1+1+1+gA rP x.cL.cw+1+1)⟩:a_)⟩:aI)
theorem F5 (x:aI):0≤dE x:=by
 unfold dE
 have h0:=jT LV x.cL.cw
 omega
theorem Cx {k:Nat} {m:Int} {xs:List aI} (hk:4194304*3≤k) (hx:jt aI.sd xs) (h0:0≤m) (hm:m+gA dE xs≤4611686018427387904):jg k m xs=some (m+gA dE xs,CK dE GM m xs):=by
 unfold jg
 simp only [share]
 have hl:=hx.1
 refine jU (R:=Option (Int×(List aI))) (p:=aI.sd) (w:=dE) (g:=GM) (B:=4194304*2) (l:=fun k m i o=>iter (ts:=nM) (R:=Int×(List aI)) k (gn fun a b=>some (a,b)) m i o) (J:=fun a b=>some (a,b)) F5 (fun k m o=>?_) (fun k m pre x r hp hB hq h0 hm=>?_) xs [] m k hx.2 (by omega) (by simp;omega) h0 hm
 ·simp only [iter,gn,mG,cond_false]
 ·unfold dE at hm
  have J5:=hp.2.2.2.1.1
  have Lc:=jT LV x.cL.cw
  simp (discharger:=first | assumption | omega) only [iter,gn,rC,rB,ry,rz,rA,cond_true,cond_false,gN,DD,mF hq,Option.bind_some,eL,nA,sM,MY,B5]
  rw [show m+dE x=m+1+1+1+gA rP x.cL.cw+1+1+1 by unfold dE;omega]
  rfl
def de (x:aF):Int:=4
def DA (m:Int) (x:aF):aF:=(⟨Io (m),Io (m+1),m+1+1,m+1+1+1⟩:aF)
theorem Dy (x:aF):0≤de x:=by
 unfold de
 omega
theorem Be {k:Nat} {m:Int} {xs:List aF} (hk:4194304*2≤k) (hx:jt aF.sd xs) (h0:0≤m) (hm:m+gA de xs≤4611686018427387904):iv k m xs=some (m+gA de xs,CK de DA m xs):=by
 unfold iv
 simp only [share]
 have hl:=hx.1
 refine jU (R:=Option (Int×(List aF))) (p:=aF.sd) (w:=de) (g:=DA) (B:=4194304*1) (l:=fun k m i o=>iter (ts:=me) (R:=Int×(List aF)) k (fG fun a b=>some (a,b)) m i o) (J:=fun a b=>some (a,b)) Dy (fun k m o=>?_) (fun k m pre x r hp hB hq h0 hm=>?_) xs [] m k hx.2 (by omega) (by simp;omega) h0 hm
 ·simp only [iter,fG,mG,cond_false]
 ·unfold de at hm
  simp (discharger:=first | assumption | omega) only [iter,fG,rC,rB,ry,rz,rA,cond_true,cond_false,gN,DD,mF hq,Option.bind_some,eL,nA,sM,MY]
  rw [show m+de x=m+1+1+1+1 by unfold de;omega]
  rfl
def ew (x:aJ):Int:=5
def GN (m:Int) (x:aJ):aJ:=(⟨Io (m),Io (m+1),Io (m+1+1),m+1+1+1,m+1+1+1+1⟩:aJ)
theorem F7 (x:aJ):0≤ew x:=by
 unfold ew
 omega
theorem Cy {k:Nat} {m:Int} {xs:List aJ} (hk:4194304*2≤k) (hx:jt aJ.sd xs) (h0:0≤m) (hm:m+gA ew xs≤4611686018427387904):jh k m xs=some (m+gA ew xs,CK ew GN m xs):=by
 unfold jh
 simp only [share]
 have hl:=hx.1
 refine jU (R:=Option (Int×(List aJ))) (p:=aJ.sd) (w:=ew) (g:=GN) (B:=4194304*1) (l:=fun k m i o=>iter (ts:=nN) (R:=Int×(List aJ)) k (gp fun a b=>some (a,b)) m i o) (J:=fun a b=>some (a,b)) F7 (fun k m o=>?_) (fun k m pre x r hp hB hq h0 hm=>?_) xs [] m k hx.2 (by omega) (by simp;omega) h0 hm
 ·simp only [iter,gp,mG,cond_false]
 ·unfold ew at hm
  simp (discharger:=first | assumption | omega) only [iter,gp,rC,rB,ry,rz,rA,cond_true,cond_false,gN,DD,mF hq,Option.bind_some,eL,nA,sM,MY]
  rw [show m+ew x=m+1+1+1+1+1 by unfold ew;omega]
  rfl
theorem LA {k:Nat} {m:Int} {xs:List Int} (hk:4194304*2≤k) (hx:xs.length≤1048576) (h0:0≤m) (hm:m+gA rP xs≤4611686018427387904):lj k (CK rP R0 m xs) m=some (m+gA rP xs):=by
 unfold lj
 simp only [share]
 have hl:=hx
 refine PG (R:=Option (Int)) (p:=fun _=>True) (w:=rP) (g:=R0) (B:=4194304*1) (l:=fun k o m i=>iter (ts:=vg) (R:=Int) k (mY fun a=>some a) o m i) (J:=fun a=>some a) LV (fun k m o=>?_) (fun k m pre x r hp hB hq h0 hm=>?_) xs [] m k (fun _ _=>trivial) (by omega) (by simp;omega) h0 hm
 ·simp only [iter,mY,mG,cond_false]
 ·unfold rP at hm
  rw [show m+rP x=m+1 by unfold rP;omega]
  simp (discharger:=first | assumption | omega) only [iter,mY,rC,rB,ry,rz,rA,cond_true,cond_false,gN,DD,mF hq,Option.bind_some,eL,nA,sM,MY,Dq,H8,Zb,Bool.not_true,acZ,R0]<;>rfl
end Go.Proofs.YtljfmaaadnoggaaGreatDoor.Pu
