/- The laws' marks on data. No condition. -/
import Derived.Test.YtjkbbdldmdajkaaGreatDoorPvM
import Derived.Test.YtjkbbdldmdajkaaGreatDoorPvSz
set_option linter.unusedSimpArgs false
set_option linter.unusedVariables false
namespace Go.Proofs.YtjkbbdldmdajkaaGreatDoor.Pu
open Go Go.RowKit Go.Proofs.YtjkbbdldmdajkaaGreatDoor.c_ Go.Proofs.YtjkbbdldmdajkaaGreatDoor.Fn
theorem gP {n:Int}:bK n n=false:=by simp [bK]
theorem F9:(!bH (3:Int) (0:Int))=true:=by decide
def mo (_:List UInt8):Int:=1
def Th (m:Int) (_:List UInt8):List UInt8:=IL m
theorem vj (x:List UInt8):0≤mo x:=by unfold mo;omega
theorem yT {k:Nat} {m:Int} {xs:List (List UInt8)} (hk:4194304*2≤k) (hx:xs.length≤1048576) (h0:0≤m) (hm:m+fS mo xs≤4611686018427387904):ic k m xs=some (m+fS mo xs,Cj mo Th m xs):=by
 unfold ic;simp only [share];have hl:=hx;refine lF (R:=Option (Int×(List (List UInt8)))) (p:=fun _=>True) (w:=mo) (g:=Th) (B:=4194304*1) (l:=fun k m i o=>iter (ts:=r7) (R:=Int×(List (List UInt8))) k (jY fun a b=>some (a,b)) m i o) (J:=fun a b=>some (a,b)) vj (fun k m o=>?_) (fun k m pre x r hp hB hq h0 hm=>?_) xs [] m k (fun _ _=>trivial) (by omega) (by simp;omega) h0 hm
 ·simp only [iter,jY,gP,cond_false]
 ·unfold mo at hm;simp (discharger:=first | assumption | omega) only [iter,jY,kJ,kI,kF,kG,kH,cond_true,cond_false,dW,xj,gO hq,Option.bind_some,ca,fb,ni,F9];rw [show m+mo x=m+1 by unfold mo;omega];rfl
def fa (x:aC):Int:=10+fS mo x.Words
def Hs (m:Int) (x:aC):aC:=(⟨IL (m),m+1,m+1+1,m+1+1+1,Cj mo Th (m+1+1+1+1) x.Words,IL (m+1+1+1+1+fS mo x.Words),m+1+1+1+1+fS mo x.Words+1,bH (xr (m+1+1+1+1+fS mo x.Words+1+1) (3:Int)) (0:Int),bH (xr (m+1+1+1+1+fS mo x.Words+1+1+1) (3:Int)) (0:Int),IL (m+1+1+1+1+fS mo x.Words+1+1+1+1),IL (m+1+1+1+1+fS mo x.Words+1+1+1+1+1)⟩:aC)
theorem Av (x:aC):0≤fa x:=by
 unfold fa;have h0:=iz vj x.Words;omega
theorem DC {k:Nat} {m:Int} {xs:List aC} (hk:4194304*3≤k) (hx:lE aC.sd xs) (h0:0≤m) (hm:m+fS fa xs≤4611686018427387904):jZ k m xs=some (m+fS fa xs,Cj fa Hs m xs):=by
 unfold jZ;simp only [share];have hl:=hx.1;refine lF (R:=Option (Int×(List aC))) (p:=aC.sd) (w:=fa) (g:=Hs) (B:=4194304*2) (l:=fun k m i o=>iter (ts:=pf) (R:=Int×(List aC)) k (gU fun a b=>some (a,b)) m i o) (J:=fun a b=>some (a,b)) Av (fun k m o=>?_) (fun k m pre x r hp hB hq h0 hm=>?_) xs [] m k hx.2 (by omega) (by simp;omega) h0 hm
 ·simp only [iter,gU,gP,cond_false]
 ·unfold fa at hm;have Ht:=hp.2.2.2.2.1.1;have JJ:=iz vj x.Words;simp (discharger:=first | assumption | omega) only [iter,gU,kJ,kI,kF,kG,kH,cond_true,cond_false,dW,xj,gO hq,Option.bind_some,ca,fb,ni,F9,yT];rw [show m+fa x=m+1+1+1+1+fS mo x.Words+1+1+1+1+1+1 by unfold fa;omega];rfl
def dV (x:aD):Int:=1+fS fa x.aV
def Ho (m:Int) (x:aD):aD:=(⟨IL (m),Cj fa Hs (m+1) x.aV⟩:aD)
theorem GM (x:aD):0≤dV x:=by
 unfold dV;have h0:=iz Av x.aV;omega
theorem Dx {k:Nat} {m:Int} {xs:List aD} (hk:4194304*4≤k) (hx:lE aD.sd xs) (h0:0≤m) (hm:m+fS dV xs≤4611686018427387904):j7 k m xs=some (m+fS dV xs,Cj dV Ho m xs):=by
 unfold j7;simp only [share];have hl:=hx.1;refine lF (R:=Option (Int×(List aD))) (p:=aD.sd) (w:=dV) (g:=Ho) (B:=4194304*3) (l:=fun k m i o=>iter (ts:=pg) (R:=Int×(List aD)) k (gV fun a b=>some (a,b)) m i o) (J:=fun a b=>some (a,b)) GM (fun k m o=>?_) (fun k m pre x r hp hB hq h0 hm=>?_) xs [] m k hx.2 (by omega) (by simp;omega) h0 hm
 ·simp only [iter,gV,gP,cond_false]
 ·unfold dV at hm;have Ht:=hp.2;have JJ:=iz Av x.aV;simp (discharger:=first | assumption | omega) only [iter,gV,kJ,kI,kF,kG,kH,cond_true,cond_false,dW,xj,gO hq,Option.bind_some,ca,fb,ni,F9,DC];rw [show m+dV x=m+1+fS fa x.aV by unfold dV;omega];rfl
def fG (x:aH):Int:=6
def Kj (m:Int) (x:aH):aH:=(⟨IL (m),IL (m+1),IL (m+1+1),IL (m+1+1+1),IL (m+1+1+1+1),IL (m+1+1+1+1+1)⟩:aH)
theorem IF (x:aH):0≤fG x:=by
 unfold fG;omega
theorem Ep {k:Nat} {m:Int} {xs:List aH} (hk:4194304*2≤k) (hx:lE aH.sd xs) (h0:0≤m) (hm:m+fS fG xs≤4611686018427387904):lT k m xs=some (m+fS fG xs,Cj fG Kj m xs):=by
 unfold lT;simp only [share];have hl:=hx.1;refine lF (R:=Option (Int×(List aH))) (p:=aH.sd) (w:=fG) (g:=Kj) (B:=4194304*1) (l:=fun k m i o=>iter (ts:=pS) (R:=Int×(List aH)) k (iD fun a b=>some (a,b)) m i o) (J:=fun a b=>some (a,b)) IF (fun k m o=>?_) (fun k m pre x r hp hB hq h0 hm=>?_) xs [] m k hx.2 (by omega) (by simp;omega) h0 hm
 ·simp only [iter,iD,gP,cond_false]
 ·unfold fG at hm;simp (discharger:=first | assumption | omega) only [iter,iD,kJ,kI,kF,kG,kH,cond_true,cond_false,dW,xj,gO hq,Option.bind_some,ca,fb,ni,F9];rw [show m+fG x=m+1+1+1+1+1+1 by unfold fG;omega];rfl
def gB (x:aJ):Int:=2
def Kk (m:Int) (x:aJ):aJ:=(⟨IL (m),IL (m+1)⟩:aJ)
theorem IG (x:aJ):0≤gB x:=by
 unfold gB;omega
theorem Er {k:Nat} {m:Int} {xs:List aJ} (hk:4194304*2≤k) (hx:lE aJ.sd xs) (h0:0≤m) (hm:m+fS gB xs≤4611686018427387904):lU k m xs=some (m+fS gB xs,Cj gB Kk m xs):=by
 unfold lU;simp only [share];have hl:=hx.1;refine lF (R:=Option (Int×(List aJ))) (p:=aJ.sd) (w:=gB) (g:=Kk) (B:=4194304*1) (l:=fun k m i o=>iter (ts:=pT) (R:=Int×(List aJ)) k (iE fun a b=>some (a,b)) m i o) (J:=fun a b=>some (a,b)) IG (fun k m o=>?_) (fun k m pre x r hp hB hq h0 hm=>?_) xs [] m k hx.2 (by omega) (by simp;omega) h0 hm
 ·simp only [iter,iE,gP,cond_false]
 ·unfold gB at hm;simp (discharger:=first | assumption | omega) only [iter,iE,kJ,kI,kF,kG,kH,cond_true,cond_false,dW,xj,gO hq,Option.bind_some,ca,fb,ni,F9];rw [show m+gB x=m+1+1 by unfold gB;omega];rfl
def cz (x:aA):Int:=5+fS mo x.aR+fS mo x.b7
def rM (m:Int) (x:aA):aA:=(⟨IL (m),IL (m+1),IL (m+1+1),Cj mo Th (m+1+1+1) x.aR,bH (xr (m+1+1+1+fS mo x.aR) (3:Int)) (0:Int),Cj mo Th (m+1+1+1+fS mo x.aR+1) x.b7,m+1+1+1+fS mo x.aR+1+fS mo x.b7⟩:aA)
theorem yR (x:aA):0≤cz x:=by
 unfold cz;have h0:=iz vj x.aR;have h1:=iz vj x.b7;omega
theorem Ck {k:Nat} {m:Int} {xs:List aA} (hk:4194304*3≤k) (hx:lE aA.sd xs) (h0:0≤m) (hm:m+fS cz xs≤4611686018427387904):jk k m xs=some (m+fS cz xs,Cj cz rM m xs):=by
 unfold jk;simp only [share];have hl:=hx.1;refine lF (R:=Option (Int×(List aA))) (p:=aA.sd) (w:=cz) (g:=rM) (B:=4194304*2) (l:=fun k m i o=>iter (ts:=nS) (R:=Int×(List aA)) k (gk fun a b=>some (a,b)) m i o) (J:=fun a b=>some (a,b)) yR (fun k m o=>?_) (fun k m pre x r hp hB hq h0 hm=>?_) xs [] m k hx.2 (by omega) (by simp;omega) h0 hm
 ·simp only [iter,gk,gP,cond_false]
 ·unfold cz at hm;have Ht:=hp.2.2.2.1.1;have JJ:=iz vj x.aR;have hs1:=hp.2.2.2.2.2.1.1;have hn1:=iz vj x.b7;simp (discharger:=first | assumption | omega) only [iter,gk,kJ,kI,kF,kG,kH,cond_true,cond_false,dW,xj,gO hq,Option.bind_some,ca,fb,ni,F9,yT];rw [show m+cz x=m+1+1+1+fS mo x.aR+1+fS mo x.b7+1 by unfold cz;omega];rfl
def wv (_:Int):Int:=1
def XY (m:Int) (_:Int):Int:=m
theorem IM (x:Int):0≤wv x:=by unfold wv;omega
theorem LS {k:Nat} {m:Int} {xs:List Int} (hk:4194304*2≤k) (hx:xs.length≤1048576) (h0:0≤m) (hm:m+fS wv xs≤4611686018427387904):uT k m xs=some (m+fS wv xs,Cj wv XY m xs):=by
 unfold uT;simp only [share];have hl:=hx;refine lF (R:=Option (Int×(List Int))) (p:=fun _=>True) (w:=wv) (g:=XY) (B:=4194304*1) (l:=fun k m i o=>iter (ts:=wN) (R:=Int×(List Int)) k (oK fun a b=>some (a,b)) m i o) (J:=fun a b=>some (a,b)) IM (fun k m o=>?_) (fun k m pre x r hp hB hq h0 hm=>?_) xs [] m k (fun _ _=>trivial) (by omega) (by simp;omega) h0 hm
 ·simp only [iter,oK,gP,cond_false]
 ·unfold wv at hm;simp (discharger:=first | assumption | omega) only [iter,oK,kJ,kI,kF,kG,kH,cond_true,cond_false,dW,xj,gO hq,Option.bind_some,ca,fb,ni,F9];rw [show m+wv x=m+1 by unfold wv;omega];rfl
def cW (x:aF):Int:=6+fS wv x.cJ.b_
def uI (m:Int) (x:aF):aF:=(⟨m,IL (m+1),IL (m+1+1),(⟨Cj wv XY (m+1+1+1) x.cJ.b_,IL (m+1+1+1+fS wv x.cJ.b_),IL (m+1+1+1+fS wv x.cJ.b_+1),IL (m+1+1+1+fS wv x.cJ.b_+1+1)⟩:bG)⟩:aF)
theorem As (x:aF):0≤cW x:=by
 unfold cW;have h0:=iz IM x.cJ.b_;omega
theorem Dy {k:Nat} {m:Int} {xs:List aF} (hk:4194304*3≤k) (hx:lE aF.sd xs) (h0:0≤m) (hm:m+fS cW xs≤4611686018427387904):kc k m xs=some (m+fS cW xs,Cj cW uI m xs):=by
 unfold kc;simp only [share];have hl:=hx.1;refine lF (R:=Option (Int×(List aF))) (p:=aF.sd) (w:=cW) (g:=uI) (B:=4194304*2) (l:=fun k m i o=>iter (ts:=pn) (R:=Int×(List aF)) k (gW fun a b=>some (a,b)) m i o) (J:=fun a b=>some (a,b)) As (fun k m o=>?_) (fun k m pre x r hp hB hq h0 hm=>?_) xs [] m k hx.2 (by omega) (by simp;omega) h0 hm
 ·simp only [iter,gW,gP,cond_false]
 ·unfold cW at hm;have Ht:=hp.2.2.2.1.1;have JJ:=iz IM x.cJ.b_;simp (discharger:=first | assumption | omega) only [iter,gW,kJ,kI,kF,kG,kH,cond_true,cond_false,dW,xj,gO hq,Option.bind_some,ca,fb,ni,F9,LS];rw [show m+cW x=m+1+1+1+fS wv x.cJ.b_+1+1+1 by unfold cW;omega];rfl
def cP (x:aB):Int:=4
def rN (m:Int) (x:aB):aB:=(⟨IL (m),IL (m+1),m+1+1,m+1+1+1⟩:aB)
theorem yS (x:aB):0≤cP x:=by
 unfold cP;omega
theorem Cl {k:Nat} {m:Int} {xs:List aB} (hk:4194304*2≤k) (hx:lE aB.sd xs) (h0:0≤m) (hm:m+fS cP xs≤4611686018427387904):jl k m xs=some (m+fS cP xs,Cj cP rN m xs):=by
 unfold jl;simp only [share];have hl:=hx.1;refine lF (R:=Option (Int×(List aB))) (p:=aB.sd) (w:=cP) (g:=rN) (B:=4194304*1) (l:=fun k m i o=>iter (ts:=nU) (R:=Int×(List aB)) k (gn fun a b=>some (a,b)) m i o) (J:=fun a b=>some (a,b)) yS (fun k m o=>?_) (fun k m pre x r hp hB hq h0 hm=>?_) xs [] m k hx.2 (by omega) (by simp;omega) h0 hm
 ·simp only [iter,gn,gP,cond_false]
 ·unfold cP at hm;simp (discharger:=first | assumption | omega) only [iter,gn,kJ,kI,kF,kG,kH,cond_true,cond_false,dW,xj,gO hq,Option.bind_some,ca,fb,ni,F9];rw [show m+cP x=m+1+1+1+1 by unfold cP;omega];rfl
def c9 (x:aE):Int:=5
def uJ (m:Int) (x:aE):aE:=(⟨IL (m),IL (m+1),IL (m+1+1),m+1+1+1,m+1+1+1+1⟩:aE)
theorem At (x:aE):0≤c9 x:=by
 unfold c9;omega
theorem Dz {k:Nat} {m:Int} {xs:List aE} (hk:4194304*2≤k) (hx:lE aE.sd xs) (h0:0≤m) (hm:m+fS c9 xs≤4611686018427387904):kf k m xs=some (m+fS c9 xs,Cj c9 uJ m xs):=by
 unfold kf;simp only [share];have hl:=hx.1;refine lF (R:=Option (Int×(List aE))) (p:=aE.sd) (w:=c9) (g:=uJ) (B:=4194304*1) (l:=fun k m i o=>iter (ts:=po) (R:=Int×(List aE)) k (gX fun a b=>some (a,b)) m i o) (J:=fun a b=>some (a,b)) At (fun k m o=>?_) (fun k m pre x r hp hB hq h0 hm=>?_) xs [] m k hx.2 (by omega) (by simp;omega) h0 hm
 ·simp only [iter,gX,gP,cond_false]
 ·unfold c9 at hm;simp (discharger:=first | assumption | omega) only [iter,gX,kJ,kI,kF,kG,kH,cond_true,cond_false,dW,xj,gO hq,Option.bind_some,ca,fb,ni,F9];rw [show m+c9 x=m+1+1+1+1+1 by unfold c9;omega];rfl
theorem Hu {k:Nat} {m:Int} {xs:List (List UInt8)} (hk:4194304*2≤k) (hx:xs.length≤1048576) (h0:0≤m) (hm:m+fS mo xs≤4611686018427387904):kU k (Cj mo Th m xs) m=some (m+fS mo xs):=by
 unfold kU;simp only [share];have hl:=hx;refine uK (R:=Option (Int)) (p:=fun _=>True) (w:=mo) (g:=Th) (B:=4194304*1) (l:=fun k o m i=>iter (ts:=se) (R:=Int) k (kh fun a=>some a) o m i) (J:=fun a=>some a) vj (fun k m o=>?_) (fun k m pre x r hp hB hq h0 hm=>?_) xs [] m k (fun _ _=>trivial) (by omega) (by simp;omega) h0 hm
 ·simp only [iter,kh,gP,cond_false]
 ·unfold mo at hm;rw [show m+mo x=m+1 by unfold mo;omega];simp (discharger:=first | assumption | omega) only [iter,kh,kJ,kI,kF,kG,kH,cond_true,cond_false,dW,xj,gO hq,Option.bind_some,ca,fb,ni,F9,p8,iy,Bn,Bool.not_true,Au,Th]<;>rfl
theorem Cm {k:Nat} {m:Int} {xs:List aA} (hk:4194304*3≤k) (hx:lE aA.sd xs) (h0:0≤m) (hm:m+fS cz xs≤4611686018427387904):jm k (Cj cz rM m xs) m=some (m+fS cz xs):=by
 unfold jm;simp only [share];have hl:=hx.1;refine uK (R:=Option (Int)) (p:=aA.sd) (w:=cz) (g:=rM) (B:=4194304*2) (l:=fun k o m i=>iter (ts:=nV) (R:=Int) k (gp fun a=>some a) o m i) (J:=fun a=>some a) yR (fun k m o=>?_) (fun k m pre x r hp hB hq h0 hm=>?_) xs [] m k hx.2 (by omega) (by simp;omega) h0 hm
 ·simp only [iter,gp,gP,cond_false]
 ·unfold cz at hm;have Ht:=hp.2.2.2.1.1;have JJ:=iz vj x.aR;have hs1:=hp.2.2.2.2.2.1.1;have hn1:=iz vj x.b7;rw [show m+cz x=m+1+1+1+fS mo x.aR+1+fS mo x.b7+1 by unfold cz;omega];simp (discharger:=first | assumption | omega) only [iter,gp,kJ,kI,kF,kG,kH,cond_true,cond_false,dW,xj,gO hq,Option.bind_some,ca,fb,ni,F9,Hu,p8,iy,Bn,Bool.not_true,Au,rM]<;>rfl
theorem LU {k:Nat} {m:Int} {xs:List Int} (hk:4194304*2≤k) (hx:xs.length≤1048576) (h0:0≤m) (hm:m+fS wv xs≤4611686018427387904):uU k (Cj wv XY m xs) m=some (m+fS wv xs):=by
 unfold uU;simp only [share];have hl:=hx;refine uK (R:=Option (Int)) (p:=fun _=>True) (w:=wv) (g:=XY) (B:=4194304*1) (l:=fun k o m i=>iter (ts:=wO) (R:=Int) k (oL fun a=>some a) o m i) (J:=fun a=>some a) IM (fun k m o=>?_) (fun k m pre x r hp hB hq h0 hm=>?_) xs [] m k (fun _ _=>trivial) (by omega) (by simp;omega) h0 hm
 ·simp only [iter,oL,gP,cond_false]
 ·unfold wv at hm;rw [show m+wv x=m+1 by unfold wv;omega];simp (discharger:=first | assumption | omega) only [iter,oL,kJ,kI,kF,kG,kH,cond_true,cond_false,dW,xj,gO hq,Option.bind_some,ca,fb,ni,F9,p8,iy,Bn,Bool.not_true,Au,XY]<;>rfl
theorem DA {k:Nat} {m:Int} {xs:List aF} (hk:4194304*3≤k) (hx:lE aF.sd xs) (h0:0≤m) (hm:m+fS cW xs≤4611686018427387904):ki k (Cj cW uI m xs) m=some (m+fS cW xs):=by
 unfold ki;simp only [share];have hl:=hx.1;refine uK (R:=Option (Int)) (p:=aF.sd) (w:=cW) (g:=uI) (B:=4194304*2) (l:=fun k o m i=>iter (ts:=pq) (R:=Int) k (gY fun a=>some a) o m i) (J:=fun a=>some a) As (fun k m o=>?_) (fun k m pre x r hp hB hq h0 hm=>?_) xs [] m k hx.2 (by omega) (by simp;omega) h0 hm
 ·simp only [iter,gY,gP,cond_false]
 ·unfold cW at hm;have Ht:=hp.2.2.2.1.1;have JJ:=iz IM x.cJ.b_;rw [show m+cW x=m+1+1+1+fS wv x.cJ.b_+1+1+1 by unfold cW;omega];simp (discharger:=first | assumption | omega) only [iter,gY,kJ,kI,kF,kG,kH,cond_true,cond_false,dW,xj,gO hq,Option.bind_some,ca,fb,ni,F9,LU,p8,iy,Bn,Bool.not_true,Au,uI]<;>rfl
theorem Cn {k:Nat} {m:Int} {xs:List aB} (hk:4194304*2≤k) (hx:lE aB.sd xs) (h0:0≤m) (hm:m+fS cP xs≤4611686018427387904):jn k (Cj cP rN m xs) m=some (m+fS cP xs):=by
 unfold jn;simp only [share];have hl:=hx.1;refine uK (R:=Option (Int)) (p:=aB.sd) (w:=cP) (g:=rN) (B:=4194304*1) (l:=fun k o m i=>iter (ts:=nW) (R:=Int) k (gq fun a=>some a) o m i) (J:=fun a=>some a) yS (fun k m o=>?_) (fun k m pre x r hp hB hq h0 hm=>?_) xs [] m k hx.2 (by omega) (by simp;omega) h0 hm
 ·simp only [iter,gq,gP,cond_false]
 ·unfold cP at hm;rw [show m+cP x=m+1+1+1+1 by unfold cP;omega];simp (discharger:=first | assumption | omega) only [iter,gq,kJ,kI,kF,kG,kH,cond_true,cond_false,dW,xj,gO hq,Option.bind_some,ca,fb,ni,F9,p8,iy,Bn,Bool.not_true,Au,rN]<;>rfl
theorem DB {k:Nat} {m:Int} {xs:List aE} (hk:4194304*2≤k) (hx:lE aE.sd xs) (h0:0≤m) (hm:m+fS c9 xs≤4611686018427387904):kj k (Cj c9 uJ m xs) m=some (m+fS c9 xs):=by
 unfold kj;simp only [share];have hl:=hx.1;refine uK (R:=Option (Int)) (p:=aE.sd) (w:=c9) (g:=uJ) (B:=4194304*1) (l:=fun k o m i=>iter (ts:=pr) (R:=Int) k (gZ fun a=>some a) o m i) (J:=fun a=>some a) At (fun k m o=>?_) (fun k m pre x r hp hB hq h0 hm=>?_) xs [] m k hx.2 (by omega) (by simp;omega) h0 hm
 ·simp only [iter,gZ,gP,cond_false]
 ·unfold c9 at hm;rw [show m+c9 x=m+1+1+1+1+1 by unfold c9;omega];simp (discharger:=first | assumption | omega) only [iter,gZ,kJ,kI,kF,kG,kH,cond_true,cond_false,dW,xj,gO hq,Option.bind_some,ca,fb,ni,F9,p8,iy,Bn,Bool.not_true,Au,uJ]<;>rfl
end Go.Proofs.YtjkbbdldmdajkaaGreatDoor.Pu
