/- The laws' marks on data. No condition. -/
import Derived.Test.YtjkbbdldmdajkaaGreatDoorPvM
import Derived.Test.YtjkbbdldmdajkaaGreatDoorPvSz
set_option linter.unusedSimpArgs false
set_option linter.unusedVariables false
namespace Go.Proofs.YtjkbbdldmdajkaaGreatDoor.Pu
open Go Go.RowKit Go.Proofs.YtjkbbdldmdajkaaGreatDoor.c5 Go.Proofs.YtjkbbdldmdajkaaGreatDoor.Fn
theorem gK {n:Int}:bM n n=false:=by simp [bM]
theorem Fq:(!bI (3:Int) (0:Int))=true:=by decide
def lU (_:List UInt8):Int:=1
def SF (m:Int) (_:List UInt8):List UInt8:=Ic m
theorem um (x:List UInt8):0≤lU x:=by unfold lU;omega
theorem x6 {k:Nat} {m:Int} {xs:List (List UInt8)} (hk:4194304*2≤k) (hx:xs.length≤1048576) (h0:0≤m) (hm:m+fD lU xs≤4611686018427387904):hG k m xs=some (m+fD lU xs,BC lU SF m xs):=by
 unfold hG;simp only [share];have hl:=hx;refine kS (R:=Option (Int×(List (List UInt8)))) (p:=fun _=>True) (w:=lU) (g:=SF) (B:=4194304*1) (l:=fun k m i o=>iter (ts:=re) (R:=Int×(List (List UInt8))) k (jH fun a b=>some (a,b)) m i o) (J:=fun a b=>some (a,b)) um (fun k m o=>?_) (fun k m pre x r hp hB hq h0 hm=>?_) xs [] m k (fun _ _=>trivial) (by omega) (by simp;omega) h0 hm
 ·simp only [iter,jH,gK,cond_false]
 ·unfold lU at hm;simp (discharger:=first | assumption | omega) only [iter,jH,kg,kf,j9,j_,kc,cond_true,cond_false,dM,wm,gJ hq,Option.bind_some,dr,fE,mz,Fq];rw [show m+lU x=m+1 by unfold lU;omega];rfl
def eP (x:aB):Int:=10+fD lU x.Words
def GM (m:Int) (x:aB):aB:=(⟨Ic (m),m+1,m+1+1,m+1+1+1,BC lU SF (m+1+1+1+1) x.Words,Ic (m+1+1+1+1+fD lU x.Words),m+1+1+1+1+fD lU x.Words+1,bI (wv (m+1+1+1+1+fD lU x.Words+1+1) (3:Int)) (0:Int),bI (wv (m+1+1+1+1+fD lU x.Words+1+1+1) (3:Int)) (0:Int),Ic (m+1+1+1+1+fD lU x.Words+1+1+1+1),Ic (m+1+1+1+1+fD lU x.Words+1+1+1+1+1)⟩:aB)
theorem zJ (x:aB):0≤eP x:=by
 unfold eP;have h0:=ig um x.Words;omega
theorem CW {k:Nat} {m:Int} {xs:List aB} (hk:4194304*3≤k) (hx:k_ aB.sd xs) (h0:0≤m) (hm:m+fD eP xs≤4611686018427387904):jI k m xs=some (m+fD eP xs,BC eP GM m xs):=by
 unfold jI;simp only [share];have hl:=hx.1;refine kS (R:=Option (Int×(List aB))) (p:=aB.sd) (w:=eP) (g:=GM) (B:=4194304*2) (l:=fun k m i o=>iter (ts:=oz) (R:=Int×(List aB)) k (gO fun a b=>some (a,b)) m i o) (J:=fun a b=>some (a,b)) zJ (fun k m o=>?_) (fun k m pre x r hp hB hq h0 hm=>?_) xs [] m k hx.2 (by omega) (by simp;omega) h0 hm
 ·simp only [iter,gO,gK,cond_false]
 ·unfold eP at hm;have GN:=hp.2.2.2.2.1.1;have Jb:=ig um x.Words;simp (discharger:=first | assumption | omega) only [iter,gO,kg,kf,j9,j_,kc,cond_true,cond_false,dM,wm,gJ hq,Option.bind_some,dr,fE,mz,Fq,x6];rw [show m+eP x=m+1+1+1+1+fD lU x.Words+1+1+1+1+1+1 by unfold eP;omega];rfl
def dL (x:aD):Int:=1+fD eP x.aW
def GJ (m:Int) (x:aD):aD:=(⟨Ic (m),BC eP GM (m+1) x.aW⟩:aD)
theorem F8 (x:aD):0≤dL x:=by
 unfold dL;have h0:=ig zJ x.aW;omega
theorem CQ {k:Nat} {m:Int} {xs:List aD} (hk:4194304*4≤k) (hx:k_ aD.sd xs) (h0:0≤m) (hm:m+fD dL xs≤4611686018427387904):jJ k m xs=some (m+fD dL xs,BC dL GJ m xs):=by
 unfold jJ;simp only [share];have hl:=hx.1;refine kS (R:=Option (Int×(List aD))) (p:=aD.sd) (w:=dL) (g:=GJ) (B:=4194304*3) (l:=fun k m i o=>iter (ts:=oA) (R:=Int×(List aD)) k (gP fun a b=>some (a,b)) m i o) (J:=fun a b=>some (a,b)) F8 (fun k m o=>?_) (fun k m pre x r hp hB hq h0 hm=>?_) xs [] m k hx.2 (by omega) (by simp;omega) h0 hm
 ·simp only [iter,gP,gK,cond_false]
 ·unfold dL at hm;have GN:=hp.2;have Jb:=ig zJ x.aW;simp (discharger:=first | assumption | omega) only [iter,gP,kg,kf,j9,j_,kc,cond_true,cond_false,dM,wm,gJ hq,Option.bind_some,dr,fE,mz,Fq,CW];rw [show m+dL x=m+1+fD eP x.aW by unfold dL;omega];rfl
def fq (x:aF):Int:=6
def JQ (m:Int) (x:aF):aF:=(⟨Ic (m),Ic (m+1),Ic (m+1+1),Ic (m+1+1+1),Ic (m+1+1+1+1),Ic (m+1+1+1+1+1)⟩:aF)
theorem H6 (x:aF):0≤fq x:=by
 unfold fq;omega
theorem DM {k:Nat} {m:Int} {xs:List aF} (hk:4194304*2≤k) (hx:k_ aF.sd xs) (h0:0≤m) (hm:m+fD fq xs≤4611686018427387904):ll k m xs=some (m+fD fq xs,BC fq JQ m xs):=by
 unfold ll;simp only [share];have hl:=hx.1;refine kS (R:=Option (Int×(List aF))) (p:=aF.sd) (w:=fq) (g:=JQ) (B:=4194304*1) (l:=fun k m i o=>iter (ts:=o6) (R:=Int×(List aF)) k (im fun a b=>some (a,b)) m i o) (J:=fun a b=>some (a,b)) H6 (fun k m o=>?_) (fun k m pre x r hp hB hq h0 hm=>?_) xs [] m k hx.2 (by omega) (by simp;omega) h0 hm
 ·simp only [iter,im,gK,cond_false]
 ·unfold fq at hm;simp (discharger:=first | assumption | omega) only [iter,im,kg,kf,j9,j_,kc,cond_true,cond_false,dM,wm,gJ hq,Option.bind_some,dr,fE,mz,Fq];rw [show m+fq x=m+1+1+1+1+1+1 by unfold fq;omega];rfl
def gn (x:aJ):Int:=2
def JR (m:Int) (x:aJ):aJ:=(⟨Ic (m),Ic (m+1)⟩:aJ)
theorem H7 (x:aJ):0≤gn x:=by
 unfold gn;omega
theorem DN {k:Nat} {m:Int} {xs:List aJ} (hk:4194304*2≤k) (hx:k_ aJ.sd xs) (h0:0≤m) (hm:m+fD gn xs≤4611686018427387904):ln k m xs=some (m+fD gn xs,BC gn JR m xs):=by
 unfold ln;simp only [share];have hl:=hx.1;refine kS (R:=Option (Int×(List aJ))) (p:=aJ.sd) (w:=gn) (g:=JR) (B:=4194304*1) (l:=fun k m i o=>iter (ts:=o7) (R:=Int×(List aJ)) k (iq fun a b=>some (a,b)) m i o) (J:=fun a b=>some (a,b)) H7 (fun k m o=>?_) (fun k m pre x r hp hB hq h0 hm=>?_) xs [] m k hx.2 (by omega) (by simp;omega) h0 hm
 ·simp only [iter,iq,gK,cond_false]
 ·unfold gn at hm;simp (discharger:=first | assumption | omega) only [iter,iq,kg,kf,j9,j_,kc,cond_true,cond_false,dM,wm,gJ hq,Option.bind_some,dr,fE,mz,Fq];rw [show m+gn x=m+1+1 by unfold gn;omega];rfl
def cy (x:aA):Int:=5+fD lU x.aP+fD lU x.b8
def qM (m:Int) (x:aA):aA:=(⟨Ic (m),Ic (m+1),Ic (m+1+1),BC lU SF (m+1+1+1) x.aP,bI (wv (m+1+1+1+fD lU x.aP) (3:Int)) (0:Int),BC lU SF (m+1+1+1+fD lU x.aP+1) x.b8,m+1+1+1+fD lU x.aP+1+fD lU x.b8⟩:aA)
theorem xY (x:aA):0≤cy x:=by
 unfold cy;have h0:=ig um x.aP;have h1:=ig um x.b8;omega
theorem BD {k:Nat} {m:Int} {xs:List aA} (hk:4194304*3≤k) (hx:k_ aA.sd xs) (h0:0≤m) (hm:m+fD cy xs≤4611686018427387904):iT k m xs=some (m+fD cy xs,BC cy qM m xs):=by
 unfold iT;simp only [share];have hl:=hx.1;refine kS (R:=Option (Int×(List aA))) (p:=aA.sd) (w:=cy) (g:=qM) (B:=4194304*2) (l:=fun k m i o=>iter (ts:=na) (R:=Int×(List aA)) k (fY fun a b=>some (a,b)) m i o) (J:=fun a b=>some (a,b)) xY (fun k m o=>?_) (fun k m pre x r hp hB hq h0 hm=>?_) xs [] m k hx.2 (by omega) (by simp;omega) h0 hm
 ·simp only [iter,fY,gK,cond_false]
 ·unfold cy at hm;have GN:=hp.2.2.2.1.1;have Jb:=ig um x.aP;have hs1:=hp.2.2.2.2.2.1.1;have hn1:=ig um x.b8;simp (discharger:=first | assumption | omega) only [iter,fY,kg,kf,j9,j_,kc,cond_true,cond_false,dM,wm,gJ hq,Option.bind_some,dr,fE,mz,Fq,x6];rw [show m+cy x=m+1+1+1+fD lU x.aP+1+fD lU x.b8+1 by unfold cy;omega];rfl
def vn (_:Int):Int:=1
def XA (m:Int) (_:Int):Int:=m
theorem Ie (x:Int):0≤vn x:=by unfold vn;omega
theorem Lj {k:Nat} {m:Int} {xs:List Int} (hk:4194304*2≤k) (hx:xs.length≤1048576) (h0:0≤m) (hm:m+fD vn xs≤4611686018427387904):tT k m xs=some (m+fD vn xs,BC vn XA m xs):=by
 unfold tT;simp only [share];have hl:=hx;refine kS (R:=Option (Int×(List Int))) (p:=fun _=>True) (w:=vn) (g:=XA) (B:=4194304*1) (l:=fun k m i o=>iter (ts:=vI) (R:=Int×(List Int)) k (nU fun a b=>some (a,b)) m i o) (J:=fun a b=>some (a,b)) Ie (fun k m o=>?_) (fun k m pre x r hp hB hq h0 hm=>?_) xs [] m k (fun _ _=>trivial) (by omega) (by simp;omega) h0 hm
 ·simp only [iter,nU,gK,cond_false]
 ·unfold vn at hm;simp (discharger:=first | assumption | omega) only [iter,nU,kg,kf,j9,j_,kc,cond_true,cond_false,dM,wm,gJ hq,Option.bind_some,dr,fE,mz,Fq];rw [show m+vn x=m+1 by unfold vn;omega];rfl
def cQ (x:aG):Int:=6+fD vn x.cF.b_
def tD (m:Int) (x:aG):aG:=(⟨m,Ic (m+1),Ic (m+1+1),(⟨BC vn XA (m+1+1+1) x.cF.b_,Ic (m+1+1+1+fD vn x.cF.b_),Ic (m+1+1+1+fD vn x.cF.b_+1),Ic (m+1+1+1+fD vn x.cF.b_+1+1)⟩:bG)⟩:aG)
theorem zG (x:aG):0≤cQ x:=by
 unfold cQ;have h0:=ig Ie x.cF.b_;omega
theorem CR {k:Nat} {m:Int} {xs:List aG} (hk:4194304*3≤k) (hx:k_ aG.sd xs) (h0:0≤m) (hm:m+fD cQ xs≤4611686018427387904):jM k m xs=some (m+fD cQ xs,BC cQ tD m xs):=by
 unfold jM;simp only [share];have hl:=hx.1;refine kS (R:=Option (Int×(List aG))) (p:=aG.sd) (w:=cQ) (g:=tD) (B:=4194304*2) (l:=fun k m i o=>iter (ts:=oD) (R:=Int×(List aG)) k (gQ fun a b=>some (a,b)) m i o) (J:=fun a b=>some (a,b)) zG (fun k m o=>?_) (fun k m pre x r hp hB hq h0 hm=>?_) xs [] m k hx.2 (by omega) (by simp;omega) h0 hm
 ·simp only [iter,gQ,gK,cond_false]
 ·unfold cQ at hm;have GN:=hp.2.2.2.1.1;have Jb:=ig Ie x.cF.b_;simp (discharger:=first | assumption | omega) only [iter,gQ,kg,kf,j9,j_,kc,cond_true,cond_false,dM,wm,gJ hq,Option.bind_some,dr,fE,mz,Fq,Lj];rw [show m+cQ x=m+1+1+1+fD vn x.cF.b_+1+1+1 by unfold cQ;omega];rfl
def cK (x:aE):Int:=4
def qN (m:Int) (x:aE):aE:=(⟨Ic (m),Ic (m+1),m+1+1,m+1+1+1⟩:aE)
theorem xZ (x:aE):0≤cK x:=by
 unfold cK;omega
theorem BE {k:Nat} {m:Int} {xs:List aE} (hk:4194304*2≤k) (hx:k_ aE.sd xs) (h0:0≤m) (hm:m+fD cK xs≤4611686018427387904):iU k m xs=some (m+fD cK xs,BC cK qN m xs):=by
 unfold iU;simp only [share];have hl:=hx.1;refine kS (R:=Option (Int×(List aE))) (p:=aE.sd) (w:=cK) (g:=qN) (B:=4194304*1) (l:=fun k m i o=>iter (ts:=ng) (R:=Int×(List aE)) k (fZ fun a b=>some (a,b)) m i o) (J:=fun a b=>some (a,b)) xZ (fun k m o=>?_) (fun k m pre x r hp hB hq h0 hm=>?_) xs [] m k hx.2 (by omega) (by simp;omega) h0 hm
 ·simp only [iter,fZ,gK,cond_false]
 ·unfold cK at hm;simp (discharger:=first | assumption | omega) only [iter,fZ,kg,kf,j9,j_,kc,cond_true,cond_false,dM,wm,gJ hq,Option.bind_some,dr,fE,mz,Fq];rw [show m+cK x=m+1+1+1+1 by unfold cK;omega];rfl
def cY (x:aC):Int:=5
def tE (m:Int) (x:aC):aC:=(⟨Ic (m),Ic (m+1),Ic (m+1+1),m+1+1+1,m+1+1+1+1⟩:aC)
theorem zH (x:aC):0≤cY x:=by
 unfold cY;omega
theorem CS {k:Nat} {m:Int} {xs:List aC} (hk:4194304*2≤k) (hx:k_ aC.sd xs) (h0:0≤m) (hm:m+fD cY xs≤4611686018427387904):jN k m xs=some (m+fD cY xs,BC cY tE m xs):=by
 unfold jN;simp only [share];have hl:=hx.1;refine kS (R:=Option (Int×(List aC))) (p:=aC.sd) (w:=cY) (g:=tE) (B:=4194304*1) (l:=fun k m i o=>iter (ts:=oE) (R:=Int×(List aC)) k (gR fun a b=>some (a,b)) m i o) (J:=fun a b=>some (a,b)) zH (fun k m o=>?_) (fun k m pre x r hp hB hq h0 hm=>?_) xs [] m k hx.2 (by omega) (by simp;omega) h0 hm
 ·simp only [iter,gR,gK,cond_false]
 ·unfold cY at hm;simp (discharger:=first | assumption | omega) only [iter,gR,kg,kf,j9,j_,kc,cond_true,cond_false,dM,wm,gJ hq,Option.bind_some,dr,fE,mz,Fq];rw [show m+cY x=m+1+1+1+1+1 by unfold cY;omega];rfl
theorem GO {k:Nat} {m:Int} {xs:List (List UInt8)} (hk:4194304*2≤k) (hx:xs.length≤1048576) (h0:0≤m) (hm:m+fD lU xs≤4611686018427387904):kz k (BC lU SF m xs) m=some (m+fD lU xs):=by
 unfold kz;simp only [share];have hl:=hx;refine tF (R:=Option (Int)) (p:=fun _=>True) (w:=lU) (g:=SF) (B:=4194304*1) (l:=fun k o m i=>iter (ts:=rm) (R:=Int) k (jO fun a=>some a) o m i) (J:=fun a=>some a) um (fun k m o=>?_) (fun k m pre x r hp hB hq h0 hm=>?_) xs [] m k (fun _ _=>trivial) (by omega) (by simp;omega) h0 hm
 ·simp only [iter,jO,gK,cond_false]
 ·unfold lU at hm;rw [show m+lU x=m+1 by unfold lU;omega];simp (discharger:=first | assumption | omega) only [iter,jO,kg,kf,j9,j_,kc,cond_true,cond_false,dM,wm,gJ hq,Option.bind_some,dr,fE,mz,Fq,pj,ph,AJ,Bool.not_true,zI,SF]<;>rfl
theorem BF {k:Nat} {m:Int} {xs:List aA} (hk:4194304*3≤k) (hx:k_ aA.sd xs) (h0:0≤m) (hm:m+fD cy xs≤4611686018427387904):iW k (BC cy qM m xs) m=some (m+fD cy xs):=by
 unfold iW;simp only [share];have hl:=hx.1;refine tF (R:=Option (Int)) (p:=aA.sd) (w:=cy) (g:=qM) (B:=4194304*2) (l:=fun k o m i=>iter (ts:=nh) (R:=Int) k (f_ fun a=>some a) o m i) (J:=fun a=>some a) xY (fun k m o=>?_) (fun k m pre x r hp hB hq h0 hm=>?_) xs [] m k hx.2 (by omega) (by simp;omega) h0 hm
 ·simp only [iter,f_,gK,cond_false]
 ·unfold cy at hm;have GN:=hp.2.2.2.1.1;have Jb:=ig um x.aP;have hs1:=hp.2.2.2.2.2.1.1;have hn1:=ig um x.b8;rw [show m+cy x=m+1+1+1+fD lU x.aP+1+fD lU x.b8+1 by unfold cy;omega];simp (discharger:=first | assumption | omega) only [iter,f_,kg,kf,j9,j_,kc,cond_true,cond_false,dM,wm,gJ hq,Option.bind_some,dr,fE,mz,Fq,GO,pj,ph,AJ,Bool.not_true,zI,qM]<;>rfl
theorem Lk {k:Nat} {m:Int} {xs:List Int} (hk:4194304*2≤k) (hx:xs.length≤1048576) (h0:0≤m) (hm:m+fD vn xs≤4611686018427387904):tU k (BC vn XA m xs) m=some (m+fD vn xs):=by
 unfold tU;simp only [share];have hl:=hx;refine tF (R:=Option (Int)) (p:=fun _=>True) (w:=vn) (g:=XA) (B:=4194304*1) (l:=fun k o m i=>iter (ts:=vK) (R:=Int) k (nV fun a=>some a) o m i) (J:=fun a=>some a) Ie (fun k m o=>?_) (fun k m pre x r hp hB hq h0 hm=>?_) xs [] m k (fun _ _=>trivial) (by omega) (by simp;omega) h0 hm
 ·simp only [iter,nV,gK,cond_false]
 ·unfold vn at hm;rw [show m+vn x=m+1 by unfold vn;omega];simp (discharger:=first | assumption | omega) only [iter,nV,kg,kf,j9,j_,kc,cond_true,cond_false,dM,wm,gJ hq,Option.bind_some,dr,fE,mz,Fq,pj,ph,AJ,Bool.not_true,zI,XA]<;>rfl
theorem CU {k:Nat} {m:Int} {xs:List aG} (hk:4194304*3≤k) (hx:k_ aG.sd xs) (h0:0≤m) (hm:m+fD cQ xs≤4611686018427387904):jP k (BC cQ tD m xs) m=some (m+fD cQ xs):=by
 unfold jP;simp only [share];have hl:=hx.1;refine tF (R:=Option (Int)) (p:=aG.sd) (w:=cQ) (g:=tD) (B:=4194304*2) (l:=fun k o m i=>iter (ts:=oF) (R:=Int) k (gS fun a=>some a) o m i) (J:=fun a=>some a) zG (fun k m o=>?_) (fun k m pre x r hp hB hq h0 hm=>?_) xs [] m k hx.2 (by omega) (by simp;omega) h0 hm
 ·simp only [iter,gS,gK,cond_false]
 ·unfold cQ at hm;have GN:=hp.2.2.2.1.1;have Jb:=ig Ie x.cF.b_;rw [show m+cQ x=m+1+1+1+fD vn x.cF.b_+1+1+1 by unfold cQ;omega];simp (discharger:=first | assumption | omega) only [iter,gS,kg,kf,j9,j_,kc,cond_true,cond_false,dM,wm,gJ hq,Option.bind_some,dr,fE,mz,Fq,Lk,pj,ph,AJ,Bool.not_true,zI,tD]<;>rfl
theorem BG {k:Nat} {m:Int} {xs:List aE} (hk:4194304*2≤k) (hx:k_ aE.sd xs) (h0:0≤m) (hm:m+fD cK xs≤4611686018427387904):iX k (BC cK qN m xs) m=some (m+fD cK xs):=by
 unfold iX;simp only [share];have hl:=hx.1;refine tF (R:=Option (Int)) (p:=aE.sd) (w:=cK) (g:=qN) (B:=4194304*1) (l:=fun k o m i=>iter (ts:=ni) (R:=Int) k (ga fun a=>some a) o m i) (J:=fun a=>some a) xZ (fun k m o=>?_) (fun k m pre x r hp hB hq h0 hm=>?_) xs [] m k hx.2 (by omega) (by simp;omega) h0 hm
 ·simp only [iter,ga,gK,cond_false]
 ·unfold cK at hm;rw [show m+cK x=m+1+1+1+1 by unfold cK;omega];simp (discharger:=first | assumption | omega) only [iter,ga,kg,kf,j9,j_,kc,cond_true,cond_false,dM,wm,gJ hq,Option.bind_some,dr,fE,mz,Fq,pj,ph,AJ,Bool.not_true,zI,qN]<;>rfl
theorem CV {k:Nat} {m:Int} {xs:List aC} (hk:4194304*2≤k) (hx:k_ aC.sd xs) (h0:0≤m) (hm:m+fD cY xs≤4611686018427387904):jQ k (BC cY tE m xs) m=some (m+fD cY xs):=by
 unfold jQ;simp only [share];have hl:=hx.1;refine tF (R:=Option (Int)) (p:=aC.sd) (w:=cY) (g:=tE) (B:=4194304*1) (l:=fun k o m i=>iter (ts:=oG) (R:=Int) k (gT fun a=>some a) o m i) (J:=fun a=>some a) zH (fun k m o=>?_) (fun k m pre x r hp hB hq h0 hm=>?_) xs [] m k hx.2 (by omega) (by simp;omega) h0 hm
 ·simp only [iter,gT,gK,cond_false]
 ·unfold cY at hm;rw [show m+cY x=m+1+1+1+1+1 by unfold cY;omega];simp (discharger:=first | assumption | omega) only [iter,gT,kg,kf,j9,j_,kc,cond_true,cond_false,dM,wm,gJ hq,Option.bind_some,dr,fE,mz,Fq,pj,ph,AJ,Bool.not_true,zI,tE]<;>rfl
end Go.Proofs.YtjkbbdldmdajkaaGreatDoor.Pu
