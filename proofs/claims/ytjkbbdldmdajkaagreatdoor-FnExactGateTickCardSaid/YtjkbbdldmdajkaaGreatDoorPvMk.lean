/- The laws' marks on data. No condition. -/
import Derived.Test.YtjkbbdldmdajkaaGreatDoorPvM
import Derived.Test.YtjkbbdldmdajkaaGreatDoorPvSz
namespace Go.Proofs.YtjkbbdldmdajkaaGreatDoor.Pu
open Go Go.RowKit Go.Proofs.YtjkbbdldmdajkaaGreatDoor.c_ Go.Proofs.YtjkbbdldmdajkaaGreatDoor.Fn
theorem gO {n:Int}:bK n n=false:=by simp [bK]
theorem FY:(!bH (3:Int) (0:Int))=true:=by decide
def mn (_:List UInt8):Int:=1
def Td (m:Int) (_:List UInt8):List UInt8:=IJ m
theorem vf (x:List UInt8):0≤mn x:=by unfold mn;omega
theorem yQ {k:Nat} {m:Int} {xs:List (List UInt8)} (hk:4194304*2≤k) (hx:xs.length≤1048576) (h0:0≤m) (hm:m+fR mn xs≤4611686018427387904):ib k m xs=some (m+fR mn xs,Ci mn Td m xs):=by
 unfold ib;simp only [share];have hl:=hx;refine lE (R:=Option (Int×(List (List UInt8)))) (p:=fun _=>True) (w:=mn) (g:=Td) (B:=4194304*1) (l:=fun k m i o=>iter (ts:=r5) (R:=Int×(List (List UInt8))) k (jY fun a b=>some (a,b)) m i o) (J:=fun a b=>some (a,b)) vf (fun k m o=>?_) (fun k m pre x r hp hB hq h0 hm=>?_) xs [] m k (fun _ _=>trivial) (by omega) (by simp;omega) h0 hm
 ·simp only [iter,jY,gO,cond_false]
 ·unfold mn at hm;simp (discharger:=first | assumption | omega) only [iter,jY,kI,kH,kE,kF,kG,cond_true,cond_false,dV,xg,gN hq,Option.bind_some,ca,fb,nh,FY];rw [show m+mn x=m+1 by unfold mn;omega];rfl
def fa (x:aC):Int:=10+fR mn x.Words
def Hm (m:Int) (x:aC):aC:=(⟨IJ (m),m+1,m+1+1,m+1+1+1,Ci mn Td (m+1+1+1+1) x.Words,IJ (m+1+1+1+1+fR mn x.Words),m+1+1+1+1+fR mn x.Words+1,bH (xp (m+1+1+1+1+fR mn x.Words+1+1) (3:Int)) (0:Int),bH (xp (m+1+1+1+1+fR mn x.Words+1+1+1) (3:Int)) (0:Int),IJ (m+1+1+1+1+fR mn x.Words+1+1+1+1),IJ (m+1+1+1+1+fR mn x.Words+1+1+1+1+1)⟩:aC)
theorem Ar (x:aC):0≤fa x:=by
 unfold fa;have h0:=ix vf x.Words;omega
theorem Dx {k:Nat} {m:Int} {xs:List aC} (hk:4194304*3≤k) (hx:lD aC.sd xs) (h0:0≤m) (hm:m+fR fa xs≤4611686018427387904):jZ k m xs=some (m+fR fa xs,Ci fa Hm m xs):=by
 unfold jZ;simp only [share];have hl:=hx.1;refine lE (R:=Option (Int×(List aC))) (p:=aC.sd) (w:=fa) (g:=Hm) (B:=4194304*2) (l:=fun k m i o=>iter (ts:=pe) (R:=Int×(List aC)) k (gS fun a b=>some (a,b)) m i o) (J:=fun a b=>some (a,b)) Ar (fun k m o=>?_) (fun k m pre x r hp hB hq h0 hm=>?_) xs [] m k hx.2 (by omega) (by simp;omega) h0 hm
 ·simp only [iter,gS,gO,cond_false]
 ·unfold fa at hm;have Hn:=hp.2.2.2.2.1.1;have JI:=ix vf x.Words;simp (discharger:=first | assumption | omega) only [iter,gS,kI,kH,kE,kF,kG,cond_true,cond_false,dV,xg,gN hq,Option.bind_some,ca,fb,nh,FY,yQ];rw [show m+fa x=m+1+1+1+1+fR mn x.Words+1+1+1+1+1+1 by unfold fa;omega];rfl
def dU (x:aD):Int:=1+fR fa x.aV
def Hj (m:Int) (x:aD):aD:=(⟨IJ (m),Ci fa Hm (m+1) x.aV⟩:aD)
theorem GH (x:aD):0≤dU x:=by
 unfold dU;have h0:=ix Ar x.aV;omega
theorem Ds {k:Nat} {m:Int} {xs:List aD} (hk:4194304*4≤k) (hx:lD aD.sd xs) (h0:0≤m) (hm:m+fR dU xs≤4611686018427387904):j7 k m xs=some (m+fR dU xs,Ci dU Hj m xs):=by
 unfold j7;simp only [share];have hl:=hx.1;refine lE (R:=Option (Int×(List aD))) (p:=aD.sd) (w:=dU) (g:=Hj) (B:=4194304*3) (l:=fun k m i o=>iter (ts:=pf) (R:=Int×(List aD)) k (gT fun a b=>some (a,b)) m i o) (J:=fun a b=>some (a,b)) GH (fun k m o=>?_) (fun k m pre x r hp hB hq h0 hm=>?_) xs [] m k hx.2 (by omega) (by simp;omega) h0 hm
 ·simp only [iter,gT,gO,cond_false]
 ·unfold dU at hm;have Hn:=hp.2;have JI:=ix Ar x.aV;simp (discharger:=first | assumption | omega) only [iter,gT,kI,kH,kE,kF,kG,cond_true,cond_false,dV,xg,gN hq,Option.bind_some,ca,fb,nh,FY,Dx];rw [show m+dU x=m+1+fR fa x.aV by unfold dU;omega];rfl
def fE (x:aH):Int:=6
def Kh (m:Int) (x:aH):aH:=(⟨IJ (m),IJ (m+1),IJ (m+1+1),IJ (m+1+1+1),IJ (m+1+1+1+1),IJ (m+1+1+1+1+1)⟩:aH)
theorem ID (x:aH):0≤fE x:=by
 unfold fE;omega
theorem El {k:Nat} {m:Int} {xs:List aH} (hk:4194304*2≤k) (hx:lD aH.sd xs) (h0:0≤m) (hm:m+fR fE xs≤4611686018427387904):lS k m xs=some (m+fR fE xs,Ci fE Kh m xs):=by
 unfold lS;simp only [share];have hl:=hx.1;refine lE (R:=Option (Int×(List aH))) (p:=aH.sd) (w:=fE) (g:=Kh) (B:=4194304*1) (l:=fun k m i o=>iter (ts:=pR) (R:=Int×(List aH)) k (iC fun a b=>some (a,b)) m i o) (J:=fun a b=>some (a,b)) ID (fun k m o=>?_) (fun k m pre x r hp hB hq h0 hm=>?_) xs [] m k hx.2 (by omega) (by simp;omega) h0 hm
 ·simp only [iter,iC,gO,cond_false]
 ·unfold fE at hm;simp (discharger:=first | assumption | omega) only [iter,iC,kI,kH,kE,kF,kG,cond_true,cond_false,dV,xg,gN hq,Option.bind_some,ca,fb,nh,FY];rw [show m+fE x=m+1+1+1+1+1+1 by unfold fE;omega];rfl
def gz (x:aJ):Int:=2
def Kj (m:Int) (x:aJ):aJ:=(⟨IJ (m),IJ (m+1)⟩:aJ)
theorem IE (x:aJ):0≤gz x:=by
 unfold gz;omega
theorem Em {k:Nat} {m:Int} {xs:List aJ} (hk:4194304*2≤k) (hx:lD aJ.sd xs) (h0:0≤m) (hm:m+fR gz xs≤4611686018427387904):lT k m xs=some (m+fR gz xs,Ci gz Kj m xs):=by
 unfold lT;simp only [share];have hl:=hx.1;refine lE (R:=Option (Int×(List aJ))) (p:=aJ.sd) (w:=gz) (g:=Kj) (B:=4194304*1) (l:=fun k m i o=>iter (ts:=pS) (R:=Int×(List aJ)) k (iD fun a b=>some (a,b)) m i o) (J:=fun a b=>some (a,b)) IE (fun k m o=>?_) (fun k m pre x r hp hB hq h0 hm=>?_) xs [] m k hx.2 (by omega) (by simp;omega) h0 hm
 ·simp only [iter,iD,gO,cond_false]
 ·unfold gz at hm;simp (discharger:=first | assumption | omega) only [iter,iD,kI,kH,kE,kF,kG,cond_true,cond_false,dV,xg,gN hq,Option.bind_some,ca,fb,nh,FY];rw [show m+gz x=m+1+1 by unfold gz;omega];rfl
def cz (x:aA):Int:=5+fR mn x.aR+fR mn x.b7
def rL (m:Int) (x:aA):aA:=(⟨IJ (m),IJ (m+1),IJ (m+1+1),Ci mn Td (m+1+1+1) x.aR,bH (xp (m+1+1+1+fR mn x.aR) (3:Int)) (0:Int),Ci mn Td (m+1+1+1+fR mn x.aR+1) x.b7,m+1+1+1+fR mn x.aR+1+fR mn x.b7⟩:aA)
theorem yO (x:aA):0≤cz x:=by
 unfold cz;have h0:=ix vf x.aR;have h1:=ix vf x.b7;omega
theorem Cj {k:Nat} {m:Int} {xs:List aA} (hk:4194304*3≤k) (hx:lD aA.sd xs) (h0:0≤m) (hm:m+fR cz xs≤4611686018427387904):jk k m xs=some (m+fR cz xs,Ci cz rL m xs):=by
 unfold jk;simp only [share];have hl:=hx.1;refine lE (R:=Option (Int×(List aA))) (p:=aA.sd) (w:=cz) (g:=rL) (B:=4194304*2) (l:=fun k m i o=>iter (ts:=nR) (R:=Int×(List aA)) k (gi fun a b=>some (a,b)) m i o) (J:=fun a b=>some (a,b)) yO (fun k m o=>?_) (fun k m pre x r hp hB hq h0 hm=>?_) xs [] m k hx.2 (by omega) (by simp;omega) h0 hm
 ·simp only [iter,gi,gO,cond_false]
 ·unfold cz at hm;have Hn:=hp.2.2.2.1.1;have JI:=ix vf x.aR;have hs1:=hp.2.2.2.2.2.1.1;have hn1:=ix vf x.b7;simp (discharger:=first | assumption | omega) only [iter,gi,kI,kH,kE,kF,kG,cond_true,cond_false,dV,xg,gN hq,Option.bind_some,ca,fb,nh,FY,yQ];rw [show m+cz x=m+1+1+1+fR mn x.aR+1+fR mn x.b7+1 by unfold cz;omega];rfl
def wo (_:Int):Int:=1
def XV (m:Int) (_:Int):Int:=m
theorem IK (x:Int):0≤wo x:=by unfold wo;omega
theorem LR {k:Nat} {m:Int} {xs:List Int} (hk:4194304*2≤k) (hx:xs.length≤1048576) (h0:0≤m) (hm:m+fR wo xs≤4611686018427387904):uP k m xs=some (m+fR wo xs,Ci wo XV m xs):=by
 unfold uP;simp only [share];have hl:=hx;refine lE (R:=Option (Int×(List Int))) (p:=fun _=>True) (w:=wo) (g:=XV) (B:=4194304*1) (l:=fun k m i o=>iter (ts:=wL) (R:=Int×(List Int)) k (oJ fun a b=>some (a,b)) m i o) (J:=fun a b=>some (a,b)) IK (fun k m o=>?_) (fun k m pre x r hp hB hq h0 hm=>?_) xs [] m k (fun _ _=>trivial) (by omega) (by simp;omega) h0 hm
 ·simp only [iter,oJ,gO,cond_false]
 ·unfold wo at hm;simp (discharger:=first | assumption | omega) only [iter,oJ,kI,kH,kE,kF,kG,cond_true,cond_false,dV,xg,gN hq,Option.bind_some,ca,fb,nh,FY];rw [show m+wo x=m+1 by unfold wo;omega];rfl
def cW (x:aF):Int:=6+fR wo x.cJ.b_
def uF (m:Int) (x:aF):aF:=(⟨m,IJ (m+1),IJ (m+1+1),(⟨Ci wo XV (m+1+1+1) x.cJ.b_,IJ (m+1+1+1+fR wo x.cJ.b_),IJ (m+1+1+1+fR wo x.cJ.b_+1),IJ (m+1+1+1+fR wo x.cJ.b_+1+1)⟩:bF)⟩:aF)
theorem Ao (x:aF):0≤cW x:=by
 unfold cW;have h0:=ix IK x.cJ.b_;omega
theorem Dt {k:Nat} {m:Int} {xs:List aF} (hk:4194304*3≤k) (hx:lD aF.sd xs) (h0:0≤m) (hm:m+fR cW xs≤4611686018427387904):kc k m xs=some (m+fR cW xs,Ci cW uF m xs):=by
 unfold kc;simp only [share];have hl:=hx.1;refine lE (R:=Option (Int×(List aF))) (p:=aF.sd) (w:=cW) (g:=uF) (B:=4194304*2) (l:=fun k m i o=>iter (ts:=pj) (R:=Int×(List aF)) k (gU fun a b=>some (a,b)) m i o) (J:=fun a b=>some (a,b)) Ao (fun k m o=>?_) (fun k m pre x r hp hB hq h0 hm=>?_) xs [] m k hx.2 (by omega) (by simp;omega) h0 hm
 ·simp only [iter,gU,gO,cond_false]
 ·unfold cW at hm;have Hn:=hp.2.2.2.1.1;have JI:=ix IK x.cJ.b_;simp (discharger:=first | assumption | omega) only [iter,gU,kI,kH,kE,kF,kG,cond_true,cond_false,dV,xg,gN hq,Option.bind_some,ca,fb,nh,FY,LR];rw [show m+cW x=m+1+1+1+fR wo x.cJ.b_+1+1+1 by unfold cW;omega];rfl
def cP (x:aB):Int:=4
def rM (m:Int) (x:aB):aB:=(⟨IJ (m),IJ (m+1),m+1+1,m+1+1+1⟩:aB)
theorem yP (x:aB):0≤cP x:=by
 unfold cP;omega
theorem Ck {k:Nat} {m:Int} {xs:List aB} (hk:4194304*2≤k) (hx:lD aB.sd xs) (h0:0≤m) (hm:m+fR cP xs≤4611686018427387904):jl k m xs=some (m+fR cP xs,Ci cP rM m xs):=by
 unfold jl;simp only [share];have hl:=hx.1;refine lE (R:=Option (Int×(List aB))) (p:=aB.sd) (w:=cP) (g:=rM) (B:=4194304*1) (l:=fun k m i o=>iter (ts:=nS) (R:=Int×(List aB)) k (gj fun a b=>some (a,b)) m i o) (J:=fun a b=>some (a,b)) yP (fun k m o=>?_) (fun k m pre x r hp hB hq h0 hm=>?_) xs [] m k hx.2 (by omega) (by simp;omega) h0 hm
 ·simp only [iter,gj,gO,cond_false]
 ·unfold cP at hm;simp (discharger:=first | assumption | omega) only [iter,gj,kI,kH,kE,kF,kG,cond_true,cond_false,dV,xg,gN hq,Option.bind_some,ca,fb,nh,FY];rw [show m+cP x=m+1+1+1+1 by unfold cP;omega];rfl
def c9 (x:aE):Int:=5
def uG (m:Int) (x:aE):aE:=(⟨IJ (m),IJ (m+1),IJ (m+1+1),m+1+1+1,m+1+1+1+1⟩:aE)
theorem Ap (x:aE):0≤c9 x:=by
 unfold c9;omega
theorem Du {k:Nat} {m:Int} {xs:List aE} (hk:4194304*2≤k) (hx:lD aE.sd xs) (h0:0≤m) (hm:m+fR c9 xs≤4611686018427387904):kf k m xs=some (m+fR c9 xs,Ci c9 uG m xs):=by
 unfold kf;simp only [share];have hl:=hx.1;refine lE (R:=Option (Int×(List aE))) (p:=aE.sd) (w:=c9) (g:=uG) (B:=4194304*1) (l:=fun k m i o=>iter (ts:=pn) (R:=Int×(List aE)) k (gV fun a b=>some (a,b)) m i o) (J:=fun a b=>some (a,b)) Ap (fun k m o=>?_) (fun k m pre x r hp hB hq h0 hm=>?_) xs [] m k hx.2 (by omega) (by simp;omega) h0 hm
 ·simp only [iter,gV,gO,cond_false]
 ·unfold c9 at hm;simp (discharger:=first | assumption | omega) only [iter,gV,kI,kH,kE,kF,kG,cond_true,cond_false,dV,xg,gN hq,Option.bind_some,ca,fb,nh,FY];rw [show m+c9 x=m+1+1+1+1+1 by unfold c9;omega];rfl
theorem Ho {k:Nat} {m:Int} {xs:List (List UInt8)} (hk:4194304*2≤k) (hx:xs.length≤1048576) (h0:0≤m) (hm:m+fR mn xs≤4611686018427387904):kT k (Ci mn Td m xs) m=some (m+fR mn xs):=by
 unfold kT;simp only [share];have hl:=hx;refine uH (R:=Option (Int)) (p:=fun _=>True) (w:=mn) (g:=Td) (B:=4194304*1) (l:=fun k o m i=>iter (ts:=sb) (R:=Int) k (kh fun a=>some a) o m i) (J:=fun a=>some a) vf (fun k m o=>?_) (fun k m pre x r hp hB hq h0 hm=>?_) xs [] m k (fun _ _=>trivial) (by omega) (by simp;omega) h0 hm
 ·simp only [iter,kh,gO,cond_false]
 ·unfold mn at hm;rw [show m+mn x=m+1 by unfold mn;omega];simp (discharger:=first | assumption | omega) only [iter,kh,kI,kH,kE,kF,kG,cond_true,cond_false,dV,xg,gN hq,Option.bind_some,ca,fb,nh,FY,p7,iw,Bj,Bool.not_true,Aq,Td]<;>rfl
theorem Cl {k:Nat} {m:Int} {xs:List aA} (hk:4194304*3≤k) (hx:lD aA.sd xs) (h0:0≤m) (hm:m+fR cz xs≤4611686018427387904):jm k (Ci cz rL m xs) m=some (m+fR cz xs):=by
 unfold jm;simp only [share];have hl:=hx.1;refine uH (R:=Option (Int)) (p:=aA.sd) (w:=cz) (g:=rL) (B:=4194304*2) (l:=fun k o m i=>iter (ts:=nU) (R:=Int) k (gk fun a=>some a) o m i) (J:=fun a=>some a) yO (fun k m o=>?_) (fun k m pre x r hp hB hq h0 hm=>?_) xs [] m k hx.2 (by omega) (by simp;omega) h0 hm
 ·simp only [iter,gk,gO,cond_false]
 ·unfold cz at hm;have Hn:=hp.2.2.2.1.1;have JI:=ix vf x.aR;have hs1:=hp.2.2.2.2.2.1.1;have hn1:=ix vf x.b7;rw [show m+cz x=m+1+1+1+fR mn x.aR+1+fR mn x.b7+1 by unfold cz;omega];simp (discharger:=first | assumption | omega) only [iter,gk,kI,kH,kE,kF,kG,cond_true,cond_false,dV,xg,gN hq,Option.bind_some,ca,fb,nh,FY,Ho,p7,iw,Bj,Bool.not_true,Aq,rL]<;>rfl
theorem LS {k:Nat} {m:Int} {xs:List Int} (hk:4194304*2≤k) (hx:xs.length≤1048576) (h0:0≤m) (hm:m+fR wo xs≤4611686018427387904):uQ k (Ci wo XV m xs) m=some (m+fR wo xs):=by
 unfold uQ;simp only [share];have hl:=hx;refine uH (R:=Option (Int)) (p:=fun _=>True) (w:=wo) (g:=XV) (B:=4194304*1) (l:=fun k o m i=>iter (ts:=wM) (R:=Int) k (oK fun a=>some a) o m i) (J:=fun a=>some a) IK (fun k m o=>?_) (fun k m pre x r hp hB hq h0 hm=>?_) xs [] m k (fun _ _=>trivial) (by omega) (by simp;omega) h0 hm
 ·simp only [iter,oK,gO,cond_false]
 ·unfold wo at hm;rw [show m+wo x=m+1 by unfold wo;omega];simp (discharger:=first | assumption | omega) only [iter,oK,kI,kH,kE,kF,kG,cond_true,cond_false,dV,xg,gN hq,Option.bind_some,ca,fb,nh,FY,p7,iw,Bj,Bool.not_true,Aq,XV]<;>rfl
theorem Dv {k:Nat} {m:Int} {xs:List aF} (hk:4194304*3≤k) (hx:lD aF.sd xs) (h0:0≤m) (hm:m+fR cW xs≤4611686018427387904):ki k (Ci cW uF m xs) m=some (m+fR cW xs):=by
 unfold ki;simp only [share];have hl:=hx.1;refine uH (R:=Option (Int)) (p:=aF.sd) (w:=cW) (g:=uF) (B:=4194304*2) (l:=fun k o m i=>iter (ts:=po) (R:=Int) k (gW fun a=>some a) o m i) (J:=fun a=>some a) Ao (fun k m o=>?_) (fun k m pre x r hp hB hq h0 hm=>?_) xs [] m k hx.2 (by omega) (by simp;omega) h0 hm
 ·simp only [iter,gW,gO,cond_false]
 ·unfold cW at hm;have Hn:=hp.2.2.2.1.1;have JI:=ix IK x.cJ.b_;rw [show m+cW x=m+1+1+1+fR wo x.cJ.b_+1+1+1 by unfold cW;omega];simp (discharger:=first | assumption | omega) only [iter,gW,kI,kH,kE,kF,kG,cond_true,cond_false,dV,xg,gN hq,Option.bind_some,ca,fb,nh,FY,LS,p7,iw,Bj,Bool.not_true,Aq,uF]<;>rfl
theorem Cm {k:Nat} {m:Int} {xs:List aB} (hk:4194304*2≤k) (hx:lD aB.sd xs) (h0:0≤m) (hm:m+fR cP xs≤4611686018427387904):jn k (Ci cP rM m xs) m=some (m+fR cP xs):=by
 unfold jn;simp only [share];have hl:=hx.1;refine uH (R:=Option (Int)) (p:=aB.sd) (w:=cP) (g:=rM) (B:=4194304*1) (l:=fun k o m i=>iter (ts:=nV) (R:=Int) k (gn fun a=>some a) o m i) (J:=fun a=>some a) yP (fun k m o=>?_) (fun k m pre x r hp hB hq h0 hm=>?_) xs [] m k hx.2 (by omega) (by simp;omega) h0 hm
 ·simp only [iter,gn,gO,cond_false]
 ·unfold cP at hm;rw [show m+cP x=m+1+1+1+1 by unfold cP;omega];simp (discharger:=first | assumption | omega) only [iter,gn,kI,kH,kE,kF,kG,cond_true,cond_false,dV,xg,gN hq,Option.bind_some,ca,fb,nh,FY,p7,iw,Bj,Bool.not_true,Aq,rM]<;>rfl
theorem Dw {k:Nat} {m:Int} {xs:List aE} (hk:4194304*2≤k) (hx:lD aE.sd xs) (h0:0≤m) (hm:m+fR c9 xs≤4611686018427387904):kj k (Ci c9 uG m xs) m=some (m+fR c9 xs):=by
 unfold kj;simp only [share];have hl:=hx.1;refine uH (R:=Option (Int)) (p:=aE.sd) (w:=c9) (g:=uG) (B:=4194304*1) (l:=fun k o m i=>iter (ts:=pq) (R:=Int) k (gX fun a=>some a) o m i) (J:=fun a=>some a) Ap (fun k m o=>?_) (fun k m pre x r hp hB hq h0 hm=>?_) xs [] m k hx.2 (by omega) (by simp;omega) h0 hm
 ·simp only [iter,gX,gO,cond_false]
 ·unfold c9 at hm;rw [show m+c9 x=m+1+1+1+1+1 by unfold c9;omega];simp (discharger:=first | assumption | omega) only [iter,gX,kI,kH,kE,kF,kG,cond_true,cond_false,dV,xg,gN hq,Option.bind_some,ca,fb,nh,FY,p7,iw,Bj,Bool.not_true,Aq,uG]<;>rfl
end Go.Proofs.YtjkbbdldmdajkaaGreatDoor.Pu
