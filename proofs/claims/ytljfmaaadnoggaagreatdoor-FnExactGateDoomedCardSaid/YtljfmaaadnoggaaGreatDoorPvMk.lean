/- The laws' marks on data. No condition. -/
import Derived.Test.YtljfmaaadnoggaaGreatDoorPvM
import Derived.Test.YtljfmaaadnoggaaGreatDoorPvSz
namespace Go.Proofs.YtljfmaaadnoggaaGreatDoor.Pu
open Go Go.RowKit Go.Proofs.YtljfmaaadnoggaaGreatDoor.cX Go.Proofs.YtljfmaaadnoggaaGreatDoor.Fn
theorem n7 {n:Int}:bO n n=false:=by simp [bO]
theorem PD:(!bL (3:Int) (0:Int))=true:=by decide
def rG (_:List UInt8):Int:=1
def ab9 (m:Int) (_:List UInt8):List UInt8:=KJ m
theorem Dn (x:List UInt8):0≤rG x:=by unfold rG;omega
theorem zO {k:Nat} {m:Int} {xs:List (List UInt8)} (hk:4194304*2≤k) (hx:xs.length≤1048576) (h0:0≤m) (hm:m+gI rG xs≤4611686018427387904):hG k m xs=some (m+gI rG xs,Eb rG ab9 m xs):=by
 unfold hG
 simp only [share]
 have hl:=hx
 refine kY (R:=Option (Int×(List (List UInt8)))) (p:=fun _=>True) (w:=rG) (g:=ab9) (B:=4194304*1) (l:=fun k m i o=>iter (ts:=r4) (R:=Int×(List (List UInt8))) k (jV fun a b=>some (a,b)) m i o) (J:=fun a b=>some (a,b)) Dn (fun k m o=>?_) (fun k m pre x r hp hB hq h0 hm=>?_) xs [] m k (fun _ _=>trivial) (by omega) (by simp;omega) h0 hm
 ·simp only [iter,jV,n7,cond_false]
 ·unfold rG at hm
  simp (discharger:=first | assumption | omega) only [iter,jV,tj,th,te,tf,tg,cond_true,cond_false,ir,FV,n6 hq,Option.bind_some,dg,oR,uK,PD]
  rw [show m+rG x=m+1 by unfold rG;omega]
  rfl
def eP (x:aB):Int:=10+gI rG x.Words
def Je (m:Int) (x:aB):aB:=(⟨KJ (m),m+1,m+1+1,m+1+1+1,Eb rG ab9 (m+1+1+1+1) x.Words,KJ (m+1+1+1+1+gI rG x.Words),m+1+1+1+1+gI rG x.Words+1,bL (yH (m+1+1+1+1+gI rG x.Words+1+1) (3:Int)) (0:Int),bL (yH (m+1+1+1+1+gI rG x.Words+1+1+1) (3:Int)) (0:Int),KJ (m+1+1+1+1+gI rG x.Words+1+1+1+1),KJ (m+1+1+1+1+gI rG x.Words+1+1+1+1+1)⟩:aB)
theorem Bu (x:aB):0≤eP x:=by
 unfold eP
 have h0:=kX Dn x.Words
 omega
theorem EK {k:Nat} {m:Int} {xs:List aB} (hk:4194304*3≤k) (hx:gW aB.sd xs) (h0:0≤m) (hm:m+gI eP xs≤4611686018427387904):jW k m xs=some (m+gI eP xs,Eb eP Je m xs):=by
 unfold jW
 simp only [share]
 have hl:=hx.1
 refine kY (R:=Option (Int×(List aB))) (p:=aB.sd) (w:=eP) (g:=Je) (B:=4194304*2) (l:=fun k m i o=>iter (ts:=oY) (R:=Int×(List aB)) k (gM fun a b=>some (a,b)) m i o) (J:=fun a b=>some (a,b)) Bu (fun k m o=>?_) (fun k m pre x r hp hB hq h0 hm=>?_) xs [] m k hx.2 (by omega) (by simp;omega) h0 hm
 ·simp only [iter,gM,n7,cond_false]
 ·unfold eP at hm
  have Mp:=hp.2.2.2.2.1.1
  have Nw:=kX Dn x.Words
  simp (discharger:=first | assumption | omega) only [iter,gM,tj,th,te,tf,tg,cond_true,cond_false,ir,FV,n6 hq,Option.bind_some,dg,oR,uK,PD,zO]
  rw [show m+eP x=m+1+1+1+1+gI rG x.Words+1+1+1+1+1+1 by unfold eP;omega]
  rfl
def dM (x:aC):Int:=1+gI eP x.aU
def I_ (m:Int) (x:aC):aC:=(⟨KJ (m),Eb eP Je (m+1) x.aU⟩:aC)
theorem IA (x:aC):0≤dM x:=by
 unfold dM
 have h0:=kX Bu x.aU
 omega
theorem EH {k:Nat} {m:Int} {xs:List aC} (hk:4194304*4≤k) (hx:gW aC.sd xs) (h0:0≤m) (hm:m+gI dM xs≤4611686018427387904):jX k m xs=some (m+gI dM xs,Eb dM I_ m xs):=by
 unfold jX
 simp only [share]
 have hl:=hx.1
 refine kY (R:=Option (Int×(List aC))) (p:=aC.sd) (w:=dM) (g:=I_) (B:=4194304*3) (l:=fun k m i o=>iter (ts:=oZ) (R:=Int×(List aC)) k (gN fun a b=>some (a,b)) m i o) (J:=fun a b=>some (a,b)) IA (fun k m o=>?_) (fun k m pre x r hp hB hq h0 hm=>?_) xs [] m k hx.2 (by omega) (by simp;omega) h0 hm
 ·simp only [iter,gN,n7,cond_false]
 ·unfold dM at hm
  have Mp:=hp.2
  have Nw:=kX Bu x.aU
  simp (discharger:=first | assumption | omega) only [iter,gN,tj,th,te,tf,tg,cond_true,cond_false,ir,FV,n6 hq,Option.bind_some,dg,oR,uK,PD,EK]
  rw [show m+dM x=m+1+gI eP x.aU by unfold dM;omega]
  rfl
def fw (x:aD):Int:=6
def Mh (m:Int) (x:aD):aD:=(⟨KJ (m),KJ (m+1),KJ (m+1+1),KJ (m+1+1+1),KJ (m+1+1+1+1),KJ (m+1+1+1+1+1)⟩:aD)
theorem KB (x:aD):0≤fw x:=by
 unfold fw
 omega
theorem FT {k:Nat} {m:Int} {xs:List aD} (hk:4194304*2≤k) (hx:gW aD.sd xs) (h0:0≤m) (hm:m+gI fw xs≤4611686018427387904):lE k m xs=some (m+gI fw xs,Eb fw Mh m xs):=by
 unfold lE
 simp only [share]
 have hl:=hx.1
 refine kY (R:=Option (Int×(List aD))) (p:=aD.sd) (w:=fw) (g:=Mh) (B:=4194304*1) (l:=fun k m i o=>iter (ts:=pF) (R:=Int×(List aD)) k (iA fun a b=>some (a,b)) m i o) (J:=fun a b=>some (a,b)) KB (fun k m o=>?_) (fun k m pre x r hp hB hq h0 hm=>?_) xs [] m k hx.2 (by omega) (by simp;omega) h0 hm
 ·simp only [iter,iA,n7,cond_false]
 ·unfold fw at hm
  simp (discharger:=first | assumption | omega) only [iter,iA,tj,th,te,tf,tg,cond_true,cond_false,ir,FV,n6 hq,Option.bind_some,dg,oR,uK,PD]
  rw [show m+fw x=m+1+1+1+1+1+1 by unfold fw;omega]
  rfl
def gi (x:aJ):Int:=2
def Mi (m:Int) (x:aJ):aJ:=(⟨KJ (m),KJ (m+1)⟩:aJ)
theorem KC (x:aJ):0≤gi x:=by
 unfold gi
 omega
theorem FU {k:Nat} {m:Int} {xs:List aJ} (hk:4194304*2≤k) (hx:gW aJ.sd xs) (h0:0≤m) (hm:m+gI gi xs≤4611686018427387904):lF k m xs=some (m+gI gi xs,Eb gi Mi m xs):=by
 unfold lF
 simp only [share]
 have hl:=hx.1
 refine kY (R:=Option (Int×(List aJ))) (p:=aJ.sd) (w:=gi) (g:=Mi) (B:=4194304*1) (l:=fun k m i o=>iter (ts:=pG) (R:=Int×(List aJ)) k (iB fun a b=>some (a,b)) m i o) (J:=fun a b=>some (a,b)) KC (fun k m o=>?_) (fun k m pre x r hp hB hq h0 hm=>?_) xs [] m k hx.2 (by omega) (by simp;omega) h0 hm
 ·simp only [iter,iB,n7,cond_false]
 ·unfold gi at hm
  simp (discharger:=first | assumption | omega) only [iter,iB,tj,th,te,tf,tg,cond_true,cond_false,ir,FV,n6 hq,Option.bind_some,dg,oR,uK,PD]
  rw [show m+gi x=m+1+1 by unfold gi;omega]
  rfl
def db (x:aA):Int:=5+gI rG x.aN+gI rG x.bX
def FQ (m:Int) (x:aA):aA:=(⟨KJ (m),KJ (m+1),KJ (m+1+1),Eb rG ab9 (m+1+1+1) x.aN,bL (yH (m+1+1+1+gI rG x.aN) (3:Int)) (0:Int),Eb rG ab9 (m+1+1+1+gI rG x.aN+1) x.bX,m+1+1+1+gI rG x.aN+1+gI rG x.bX⟩:aA)
theorem FO (x:aA):0≤db x:=by
 unfold db
 have h0:=kX Dn x.aN
 have h1:=kX Dn x.bX
 omega
theorem Dh {k:Nat} {m:Int} {xs:List aA} (hk:4194304*3≤k) (hx:gW aA.sd xs) (h0:0≤m) (hm:m+gI db xs≤4611686018427387904):ji k m xs=some (m+gI db xs,Eb db FQ m xs):=by
 unfold ji
 simp only [share]
 have hl:=hx.1
 refine kY (R:=Option (Int×(List aA))) (p:=aA.sd) (w:=db) (g:=FQ) (B:=4194304*2) (l:=fun k m i o=>iter (ts:=nG) (R:=Int×(List aA)) k (fZ fun a b=>some (a,b)) m i o) (J:=fun a b=>some (a,b)) FO (fun k m o=>?_) (fun k m pre x r hp hB hq h0 hm=>?_) xs [] m k hx.2 (by omega) (by simp;omega) h0 hm
 ·simp only [iter,fZ,n7,cond_false]
 ·unfold db at hm
  have Mp:=hp.2.2.2.1.1
  have Nw:=kX Dn x.aN
  have hs1:=hp.2.2.2.2.2.1.1
  have hn1:=kX Dn x.bX
  simp (discharger:=first | assumption | omega) only [iter,fZ,tj,th,te,tf,tg,cond_true,cond_false,ir,FV,n6 hq,Option.bind_some,dg,oR,uK,PD,zO]
  rw [show m+db x=m+1+1+1+gI rG x.aN+1+gI rG x.bX+1 by unfold db;omega]
  rfl
def pW (_:Int):Int:=1
def Q7 (m:Int) (_:Int):Int:=m
theorem Og (x:Int):0≤pW x:=by unfold pW;omega
theorem wL {k:Nat} {m:Int} {xs:List Int} (hk:4194304*2≤k) (hx:xs.length≤1048576) (h0:0≤m) (hm:m+gI pW xs≤4611686018427387904):g7 k m xs=some (m+gI pW xs,Eb pW Q7 m xs):=by
 unfold g7
 simp only [share]
 have hl:=hx
 refine kY (R:=Option (Int×(List Int))) (p:=fun _=>True) (w:=pW) (g:=Q7) (B:=4194304*1) (l:=fun k m i o=>iter (ts:=xe) (R:=Int×(List Int)) k (om fun a b=>some (a,b)) m i o) (J:=fun a b=>some (a,b)) Og (fun k m o=>?_) (fun k m pre x r hp hB hq h0 hm=>?_) xs [] m k (fun _ _=>trivial) (by omega) (by simp;omega) h0 hm
 ·simp only [iter,om,n7,cond_false]
 ·unfold pW at hm
  simp (discharger:=first | assumption | omega) only [iter,om,tj,th,te,tf,tg,cond_true,cond_false,ir,FV,n6 hq,Option.bind_some,dg,oR,uK,PD]
  rw [show m+pW x=m+1 by unfold pW;omega]
  rfl
def dN (x:aK):Int:=6+gI pW x.cP.cB
def Ja (m:Int) (x:aK):aK:=(⟨m,KJ (m+1),KJ (m+1+1),(⟨Eb pW Q7 (m+1+1+1) x.cP.cB,KJ (m+1+1+1+gI pW x.cP.cB),KJ (m+1+1+1+gI pW x.cP.cB+1),KJ (m+1+1+1+gI pW x.cP.cB+1+1)⟩:bD)⟩:aK)
theorem IB (x:aK):0≤dN x:=by
 unfold dN
 have h0:=kX Og x.cP.cB
 omega
theorem EI {k:Nat} {m:Int} {xs:List aK} (hk:4194304*3≤k) (hx:gW aK.sd xs) (h0:0≤m) (hm:m+gI dN xs≤4611686018427387904):j7 k m xs=some (m+gI dN xs,Eb dN Ja m xs):=by
 unfold j7
 simp only [share]
 have hl:=hx.1
 refine kY (R:=Option (Int×(List aK))) (p:=aK.sd) (w:=dN) (g:=Ja) (B:=4194304*2) (l:=fun k m i o=>iter (ts:=o6) (R:=Int×(List aK)) k (gO fun a b=>some (a,b)) m i o) (J:=fun a b=>some (a,b)) IB (fun k m o=>?_) (fun k m pre x r hp hB hq h0 hm=>?_) xs [] m k hx.2 (by omega) (by simp;omega) h0 hm
 ·simp only [iter,gO,n7,cond_false]
 ·unfold dN at hm
  have Mp:=hp.2.2.2.1.1
  have Nw:=kX Og x.cP.cB
  simp (discharger:=first | assumption | omega) only [iter,gO,tj,th,te,tf,tg,cond_true,cond_false,ir,FV,n6 hq,Option.bind_some,dg,oR,uK,PD,wL]
  rw [show m+dN x=m+1+1+1+gI pW x.cP.cB+1+1+1 by unfold dN;omega]
  rfl
def du (x:aI):Int:=4
def FR (m:Int) (x:aI):aI:=(⟨KJ (m),KJ (m+1),m+1+1,m+1+1+1⟩:aI)
theorem FP (x:aI):0≤du x:=by
 unfold du
 omega
theorem Di {k:Nat} {m:Int} {xs:List aI} (hk:4194304*2≤k) (hx:gW aI.sd xs) (h0:0≤m) (hm:m+gI du xs≤4611686018427387904):jk k m xs=some (m+gI du xs,Eb du FR m xs):=by
 unfold jk
 simp only [share]
 have hl:=hx.1
 refine kY (R:=Option (Int×(List aI))) (p:=aI.sd) (w:=du) (g:=FR) (B:=4194304*1) (l:=fun k m i o=>iter (ts:=nI) (R:=Int×(List aI)) k (f_ fun a b=>some (a,b)) m i o) (J:=fun a b=>some (a,b)) FP (fun k m o=>?_) (fun k m pre x r hp hB hq h0 hm=>?_) xs [] m k hx.2 (by omega) (by simp;omega) h0 hm
 ·simp only [iter,f_,n7,cond_false]
 ·unfold du at hm
  simp (discharger:=first | assumption | omega) only [iter,f_,tj,th,te,tf,tg,cond_true,cond_false,ir,FV,n6 hq,Option.bind_some,dg,oR,uK,PD]
  rw [show m+du x=m+1+1+1+1 by unfold du;omega]
  rfl
def eQ (x:aL):Int:=5
def Jb (m:Int) (x:aL):aL:=(⟨KJ (m),KJ (m+1),KJ (m+1+1),m+1+1+1,m+1+1+1+1⟩:aL)
theorem IC (x:aL):0≤eQ x:=by
 unfold eQ
 omega
theorem EJ {k:Nat} {m:Int} {xs:List aL} (hk:4194304*2≤k) (hx:gW aL.sd xs) (h0:0≤m) (hm:m+gI eQ xs≤4611686018427387904):j8 k m xs=some (m+gI eQ xs,Eb eQ Jb m xs):=by
 unfold j8
 simp only [share]
 have hl:=hx.1
 refine kY (R:=Option (Int×(List aL))) (p:=aL.sd) (w:=eQ) (g:=Jb) (B:=4194304*1) (l:=fun k m i o=>iter (ts:=o7) (R:=Int×(List aL)) k (gP fun a b=>some (a,b)) m i o) (J:=fun a b=>some (a,b)) IC (fun k m o=>?_) (fun k m pre x r hp hB hq h0 hm=>?_) xs [] m k hx.2 (by omega) (by simp;omega) h0 hm
 ·simp only [iter,gP,n7,cond_false]
 ·unfold eQ at hm
  simp (discharger:=first | assumption | omega) only [iter,gP,tj,th,te,tf,tg,cond_true,cond_false,ir,FV,n6 hq,Option.bind_some,dg,oR,uK,PD]
  rw [show m+eQ x=m+1+1+1+1+1 by unfold eQ;omega]
  rfl
theorem Ec {k:Nat} {m:Int} {xs:List Int} (hk:4194304*2≤k) (hx:xs.length≤1048576) (h0:0≤m) (hm:m+gI pW xs≤4611686018427387904):fD k (Eb pW Q7 m xs) m=some (m+gI pW xs):=by
 unfold fD
 simp only [share]
 have hl:=hx
 refine Sd (R:=Option (Int)) (p:=fun _=>True) (w:=pW) (g:=Q7) (B:=4194304*1) (l:=fun k o m i=>iter (ts:=xf) (R:=Int) k (oo fun a=>some a) o m i) (J:=fun a=>some a) Og (fun k m o=>?_) (fun k m pre x r hp hB hq h0 hm=>?_) xs [] m k (fun _ _=>trivial) (by omega) (by simp;omega) h0 hm
 ·simp only [iter,oo,n7,cond_false]
 ·unfold pW at hm
  rw [show m+pW x=m+1 by unfold pW;omega]
  simp (discharger:=first | assumption | omega) only [iter,oo,tj,th,te,tf,tg,cond_true,cond_false,ir,FV,n6 hq,Option.bind_some,dg,oR,uK,PD,FI,Ch,ab6,Bool.not_true,afQ,Q7]<;>rfl
end Go.Proofs.YtljfmaaadnoggaaGreatDoor.Pu
