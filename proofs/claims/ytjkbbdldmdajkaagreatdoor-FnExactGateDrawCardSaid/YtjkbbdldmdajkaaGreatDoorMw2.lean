/- Plain words and laws. No condition. -/
import Derived.Test.YtjkbbdldmdajkaaGreatDoorMw1
set_option linter.unusedSimpArgs false
set_option linter.unusedVariables false
namespace Go.Proofs.YtjkbbdldmdajkaaGreatDoor.Pu
open Go Go.RowKit Go.Proofs.YtjkbbdldmdajkaaGreatDoor.c5 Go.Proofs.YtjkbbdldmdajkaaGreatDoor.Fn
def cv (xs:List aD) (o:aA):Option (List aB):=match xs.find? fun s=>seq s.Kind o.Kind with
 | some s=>cond (bI (s.aW.length:Int) (o.aP.length:Int)) (some s.aW) none
 | none=>none
theorem jl {xs:List aD} {o:aA} {fs:List aB} (h:cv xs o=some fs):fs.length=o.aP.length∧∃ s,s∈xs∧s.aW=fs:=by
 unfold cv at h;cases hf:xs.find? fun s=>seq s.Kind o.Kind with
 | none=>rw [hf] at h;cases h
 | some s=>
  rw [hf] at h;simp only at h;cases he:bI (s.aW.length:Int) (o.aP.length:Int) with
  | false=>rw [he] at h;cases h
  | true=>
   rw [he] at h;cases h;simp only [bI,beq_iff_eq] at he;exact ⟨by omega,s,List.mem_of_find?_eq_some hf,rfl⟩
theorem sa {k:Nat} {xs:List aD} {o:aA} (hk:4194304≤k) (hx:xs.length≤1048576):g7 k xs o=some ((cv xs o).getD [],(cv xs o).isSome):=by
 unfold g7 cv;rw [Ez hk hx,EA];simp only [share,Option.bind_some];rcases dG (fun s:aD=>seq s.Kind o.Kind) xs with ⟨h1,h2⟩ | ⟨j,hj,h1,h2,_⟩
 ·rw [h1,h2];rfl
 ·rw [h1,h2,e9 (by omega),bO hj,bP hj];simp only;cases bI (xs[j].aW.length:Int) (o.aP.length:Int)<;>rfl
theorem wF {k:Nat} {xs:List aD} {o:aA} (hk:4194304≤k) (hx:xs.length≤1048576):jw k xs o=some ((cv xs o).getD [],(cv xs o).isSome):=by
 unfold jw cv;rw [EB hk hx];simp only [share,Option.bind_some];rcases dG (fun s:aD=>seq s.Kind o.Kind) xs with ⟨h1,h2⟩ | ⟨j,hj,h1,h2,_⟩
 ·rw [h1,h2];rfl
 ·rw [h1,h2,e9 (by omega),bO hj,bP hj,R2 (o.aP.length:Int)];simp only;cases bI (xs[j].aW.length:Int) (o.aP.length:Int)<;>rfl
def Mu (xs:List aD) (o:aA):Bool:=(cv xs o).isSome&&(cw o.Name&&(cw o.aY&&(b6 (o.b8.length:Int) 3&&(qf o.b8&&(b6 0 o.Version&&b6 o.Version 1000000)))))
def Mv (vs:List (List UInt8)) (i:Nat) (f:aB):Option (Int×Int):=
 cond (seq (vs.getD i []) []) (cond f.cV (some (2,(i:Int))) none) (cond (fits f (vs.getD i [])) none (some (3,(i:Int))))
def Qr (xs:List aD) (o:aA):Int×Int:=
 cond (eM xs&&Mu xs o) ((first (Mv o.aP) ((cv xs o).getD []) 0).getD (0,0)) (1,0)
theorem JG {α:Type} {d:α} {x:List α} {i:Nat} (h:i < x.length):x.getD i d=x[i]:=by simp [List.getD,h]
theorem Mw {k:Nat} {o:aA} {fs:List aB} (hk:4194304*2≤k) (ho:o.sd) (hl:fs.length=o.aP.length) (hf:∀ f,f∈fs→f.Words.length≤1048576):
  iter (ts:=ly) (R:=Int×Int) k (iI (some (0,0))) o fs (0:Int)=some ((first (Mv o.aP) fs 0).getD (0,0)):=by
 have hv:=ho.2.2.2.1;have h:=GG (R:=Option (Int×Int)) (x:=fs) (g:=Mv o.aP) (B:=4194304) (l:=fun k i=>iter (ts:=ly) (R:=Int×Int) k (iI (some (0,0))) o fs i) (E:=some (0,0)) (O:=fun c=>some c)
  (fun k=>by simp only [iter,iI,cg,cond_false]<;>rfl)
  (fun k i hi hb=>by
   have da:i < o.aP.length:=by omega
   have hh:=hv.1;simp only [iter,iI,share,cd hi,bO hi,bO da,cond_true,bN,bP hi,bP da,bQ (n:=fs.length) (by omega) hi,GH hb (hf _ (dB hi)) (hv.2 _ (dB da)),Option.bind_some,Mv,JG da];cases seq o.aP[i] []<;>cases fs[i].cV<;>cases fits fs[i] o.aP[i]<;>rfl) k (by have:=hv.1;omega)
 refine h.trans ?_;cases first (Mv o.aP) fs 0<;>rfl
def wG (xs:List aD) (o:aA):Int×Int:=
 cond (Mu xs o) ((first (Mv o.aP) ((cv xs o).getD []) 0).getD (0,0)) (1,0)
theorem OB {k:Nat} {xs:List aD} {o:aA} (hk:4194304*4≤k) (hx:k_ aD.sd xs) (ho:o.sd):wA k xs o=some (wG xs o):=by
 have I_:=ho;obtain ⟨h1,h2,h3,h4,-,h5,-⟩:=ho;unfold wA wG Mu;simp only [share,sa (show 4194304≤k by omega) hx.1,ea (show 4194304≤k by omega) h2,ea (show 4194304≤k by omega) h3,FY (show 8388608≤k by omega) h5,Le,Option.bind_some,cO];cases hf:cv xs o with
 | none=>rfl
 | some fs=>
  obtain ⟨e1,s,e2,e3⟩:=jl hf;have go:=Mw (k:=k) (by omega) I_ e1 (fun f hfm=>by
   have:=((hx.2 s e2).2.2 f (by rw [e3];exact hfm)).2.2.2.2.1;exact this.1)
  simp only [Option.isSome_some,Option.getD_some];cases cw o.Name<;>cases cw o.aY<;>cases b6 (o.b8.length:Int) 3<;>cases qf o.b8<;>cases b6 0 o.Version&&b6 o.Version 1000000<;>first | rfl | (refine (show _=((iter (ts:=ly) (R:=Int×Int) k (iI (some (0,0))) o fs (0:Int)).bind fun v5=>some (v5.1,v5.2)) from rfl).trans ?_;rw [go];rfl) | exact go
theorem agx (k:Nat) (f:eD):Ad k f=some (f.code,f.place):=rfl
def aeO:Option (Int×Int)→Unit ⊕ (eD ⊕ eD)
 | none=>.inl ()
 | some (c,p)=>.inr (.inl ⟨c,p⟩)
theorem HW {k:Nat} {xs:List aD} {o:aA} {fs:List aB} (hk:4194304*2≤k) (hx:k_ aD.sd xs) (ho:o.sd) (hf:cv xs o=some fs):oe k xs o=some (aeO (first (Mv o.aP) fs 0)):=by
 obtain ⟨hl,s,e2,e3⟩:=jl hf;have hv:=ho.2.2.2.1;unfold oe;rw [wF (by omega) hx.1,hf];have h:=GG (R:=Option (Unit ⊕ (eD ⊕ eD))) (x:=fs) (g:=Mv o.aP) (B:=4194304) (l:=fun k i=>iter (ts:=rY) (R:=Unit ⊕ (eD ⊕ eD)) k (j7 (some (.inl ()))) o fs (fs.length:Int) i) (E:=some (.inl ())) (O:=fun c=>some (.inr (.inl ⟨c.1,c.2⟩)))
  (fun k=>by simp only [iter,j7,cg,cond_false]<;>rfl)
  (fun k i hi hb=>by
   have da:i < o.aP.length:=by omega
   have hh:=hv.1;have hw:fs[i].Words.length≤1048576:=((hx.2 s e2).2.2 fs[i] (by rw [e3];exact dB hi)).2.2.2.2.1.1;simp only [iter,j7,share,cd hi,bO hi,bO da,cond_true,bN,bP hi,bP da,tA hb hw (hv.2 _ (dB da)),Option.bind_some,Mv,JG da];rw [bQ (n:=fs.length) (by omega) hi];cases seq o.aP[i] []<;>cases fs[i].cV<;>cases fits fs[i] o.aP[i]<;>rfl) k (by have:=hv.1;omega)
 simp only [share,Option.bind_some,Option.getD_some];refine h.trans ?_;cases first (Mv o.aP) fs 0<;>rfl
theorem Lf {k:Nat} {xs:List aD} {o:aA} (hk:4194304*5≤k) (hx:k_ aD.sd xs) (ho:o.sd):rZ k xs o=some (cond (eM xs&&Mu xs o) (.inr ()) (.inl ⟨1,0⟩)):=by
 obtain ⟨h1,h2,h3,h4,-,h5,-⟩:=ho;unfold rZ Mu;simp only [share,xT hx hk,wF (show 4194304≤k by omega) hx.1,fP (show 4194304≤k by omega) h2,fP (show 4194304≤k by omega) h3,tB (show 8388608≤k by omega) h5,Option.bind_some,cO];cases (cv xs o).isSome<;>cases eM xs<;>cases cw o.Name<;>cases cw o.aY<;>cases b6 (o.b8.length:Int) 3<;>cases qf o.b8<;>cases b6 0 o.Version<;>cases b6 o.Version 1000000<;>rfl
theorem R3 {k:Nat} {xs:List aD} {o:aA} (hk:4194304*6≤k) (hx:k_ aD.sd xs) (ho:o.sd):r4 k xs o=some (Qr xs o):=by
 obtain ⟨k,rfl⟩:∃ q,k=q+3:=⟨k-3,by omega⟩;unfold r4 Qr;simp only [share,iter,yZ];rw [show bM 0 2=true from rfl,show bI 0 0=true from rfl];simp only [cond_true,Lf (show 4194304*5≤k+2 by omega) hx ho,Option.bind_some];cases hs:eM xs&&Mu xs o with
 | false=>rfl
 | true=>
  simp only [cond_true,ac9];rw [show aN .i64 0 1=1 from rfl,show bM 1 2=true from rfl,show bI 1 0=false from rfl,show bI 1 1=true from rfl];cases hf:cv xs o with
  | none=>simp [Mu,hf] at hs
  | some fs=>
   simp only [cond_true,cond_false,HW (show 4194304*2≤k+1 by omega) hx ho hf,Option.bind_some,Option.getD_some];cases hb:first (Mv o.aP) fs 0 with
   | none=>rfl
   | some c=>rfl
theorem JH {k:Nat} {fs:List aB} {n:List UInt8} (hk:4194304≤k) (hx:fs.length≤1048576):eE k fs n=some (tz (fun f=>seq f.Name n) fs 0):=by
 unfold eE;simp only [share];exact mr (x:=fs) (p:=fun f=>seq f.Name n) (l:=fun k i=>iter (ts:=xm) (R:=Int) k (pF (some (-1))) fs n i)
  (fun k=>by simp only [iter,pF,cg,cond_false]<;>rfl)
  (fun k i hi=>by simp only [iter,pF,cd hi,bO hi,cond_true,bN,bP hi,bQ hx hi]<;>rfl) k (by omega)
theorem JI {k:Nat} {fs:List aB} {n:List UInt8} (hk:4194304≤k) (hx:fs.length≤1048576):je k fs n=some (tz (fun f=>seq f.Name n) fs 0):=by
 unfold je;simp only [share];exact mr (x:=fs) (p:=fun f=>seq f.Name n) (l:=fun k i=>iter (ts:=xC) (R:=Int) k (pO (some (-1))) n fs (fs.length:Int) i)
  (fun k=>by simp only [iter,pO,cg,cond_false]<;>rfl)
  (fun k i hi=>by simp only [iter,pO,cd hi,bO hi,cond_true,bN,bP hi,bQ hx hi]<;>rfl) k (by omega)
def GI (fs:List aB) (n:List UInt8):Option aB:=fs.find? fun f=>seq f.Name n
def nD (fs:List aB) (n:List UInt8):Bool:=match GI fs n with
 | some f=>!bI f.Kind 4
 | none=>false
theorem Xb {k:Nat} {fs:List aB} {n:List UInt8} (hk:4194304≤k) (hx:fs.length≤1048576):lx k fs n=some (nD fs n):=by
 unfold lx;rw [JH hk hx];simp only [Option.bind_some,nD,GI];rcases dG (fun f:aB=>seq f.Name n) fs with ⟨h1,h2⟩ | ⟨j,hj,h1,h2,_⟩
 ·rw [h1,h2];rfl
 ·rw [h1,h2,FW (by omega),bO hj,bP hj];rfl
theorem Xc {k:Nat} {fs:List aB} {n:List UInt8} (hk:4194304≤k) (hx:fs.length≤1048576):ju k n fs=some (nD fs n,fs):=by
 unfold ju;rw [JI hk hx];simp only [Option.bind_some,nD,GI];rcases dG (fun f:aB=>seq f.Name n) fs with ⟨h1,h2⟩ | ⟨j,hj,h1,h2,_⟩
 ·rw [h1,h2];rfl
 ·rw [h1,h2,FW (by omega),bO hj,bP hj];rfl
def R4 (fs:List aB) (n v:List UInt8):Bool:=match GI fs n with
 | some f=>fits f v
 | none=>false
def JJ (fs:List aB) (m:aF):Bool:=
 nD fs m.Field&&((seq m.db []||nD fs m.db)&&((seq m.cM []||nD fs m.cM)&&(!seq m.db m.Field&&(!seq m.cM m.Field&&((!seq m.db []||seq m.Is [])&&(!c5.beq (seq m.sq []) (seq m.cM [])&&(seq m.sq []||R4 fs m.Field m.sq)))))))
def nE (xs:List aD) (m:aF):Bool:=match xs.find? fun s=>seq s.Kind m.Kind with
 | some s=>JJ s.aW m
 | none=>false
theorem KB {fs:List aB} {n:List UInt8} (h:nD fs n=true):∃ j,∃ hj:j < fs.length,tz (fun f=>seq f.Name n) fs 0=(j:Int)∧GI fs n=some fs[j]:=by
 unfold nD GI at *;rcases dG (fun f:aB=>seq f.Name n) fs with ⟨h1,h2⟩ | ⟨j,hj,h1,h2,_⟩
 ·rw [h2] at h;cases h
 ·exact ⟨j,hj,h1,h2⟩
theorem Ug {k:Nat} {xs:List aD} {m:aF} (hk:4194304≤k) (hx:k_ aD.sd xs) (hm:m.sd):tW k xs m=some (nE xs m):=by
 unfold tW nE;rw [Ez hk hx.1,EA];simp only [Option.bind_some];rcases dG (fun s:aD=>seq s.Kind m.Kind) xs with ⟨h1,h2⟩ | ⟨j,hj,h1,h2,_⟩
 ·rw [h1,h2];rfl
 ·have hs:=hx.2 _ (dB hj);obtain ⟨-,m2,m3,m4,m5,m6⟩:=hm;rw [h1,h2,e9 (by omega),bO hj,bP hj];simp only [cond_false,bN,share,Xb hk hs.2.1,Option.bind_some,JJ];generalize hF:xs[j].aW=fs at *;cases hp:nD fs m.Field with
  | false=>rfl
  | true=>
   obtain ⟨q,hq,q1,q2⟩:=KB hp;have adb:R4 fs m.Field m.sq=fits fs[q] m.sq:=by unfold R4;rw [q2]
   rw [JH hk (by rw [← hF];exact hs.2.1),q1,adb];simp only [Option.bind_some,bO hq,bN,bP hq];rw [GH hk (by subst hF;exact (hs.2.2 _ (dB hq)).2.2.2.2.1.1) m5];cases seq m.db []<;>cases nD fs m.db<;>cases seq m.cM []<;>cases nD fs m.cM<;>cases seq m.db m.Field<;>cases seq m.cM m.Field<;>cases seq m.Is []<;>cases seq m.sq []<;>rfl
theorem Uh {k:Nat} {fs:List aB} {m:aF} (hk:4194304≤k) (hx:k_ aB.sd fs) (hm:m.sd):yX k fs m=some (JJ fs m):=by
 unfold yX;obtain ⟨-,m2,m3,m4,m5,m6⟩:=hm;simp only [share,Xc hk hx.1,Option.bind_some,JJ];cases hp:nD fs m.Field with
 | false=>rfl
 | true=>
  obtain ⟨q,hq,q1,q2⟩:=KB hp;have adb:R4 fs m.Field m.sq=fits fs[q] m.sq:=by unfold R4;rw [q2]
  rw [JI hk hx.1,q1,adb];simp only [Option.bind_some,bO hq,bN,bP hq];rw [tA hk (hx.2 _ (dB hq)).2.2.2.2.1.1 m5];cases seq m.db []<;>cases nD fs m.db<;>cases seq m.cM []<;>cases nD fs m.cM<;>cases seq m.db m.Field<;>cases seq m.cM m.Field<;>cases seq m.Is []<;>cases seq m.sq []<;>rfl
def nF (kind name:Nm) (m:aF):List Nm:=cond (seq m.Kind kind&&seq m.Field name) ((cond (seq m.db []) [] [m.db])++(cond (seq m.cM []) [] [m.cM])) []
def reads (ms:List aF) (kind name:Nm):List Nm:=ms.flatMap (nF kind name)
theorem Mx {α β:Type} (g:α→List β):∀ (l:List α) (a:List β),l.foldl (fun acc m=>acc++g m) a=a++l.flatMap g
 | [],a=>by simp
 | m::r,a=>by rw [List.foldl_cons,Mx g r];simp
theorem My (kind name:Nm) (m:aF):(nF kind name m).length≤2:=by
 unfold nF;cases seq m.Kind kind&&seq m.Field name<;>cases seq m.db []<;>cases seq m.cM []<;>simp
theorem Y3 {k:Nat} {name:Nm} {ms:List aF} {s:aD} (hk:4194304≤k) (hm:ms.length≤1048576):wE k name ms s=some (reads ms s.Kind name,ms,s):=by
 unfold wE;simp only [share];have h:=fm (S:=List Nm) (x:=ms) (f:=fun acc m=>acc++nF s.Kind name m) (B:=0)
  (l:=fun k acc i=>iter (ts:=xD) (R:=(List (List UInt8))×(List aF)×aD) k (pP fun v61 v62 v63=>some (v63,v61,v62)) name ms (ms.length:Int) i ms s acc) (J:=fun acc=>some (acc,ms,s)) (fun i acc=>acc.length≤2*i)
  (fun k acc _=>by simp only [iter,pP,cg,cond_false]<;>rfl)
  (fun k i acc hi _ hI=>⟨by
   simp only [iter,pP,share,cd hi,bO hi,cond_true,bN,bP hi,bQ hm hi,nF];rw [lQ (by simp;omega) (by omega),lQ (by simp;omega) (by omega),lQ (by simp;omega) (by omega)];cases seq ms[i].Kind s.Kind<;>cases seq ms[i].Field name<;>cases seq ms[i].db []<;>cases seq ms[i].cM []<;>simp [bN]<;>rfl,by
   have:=My s.Kind name ms[i];simp only [List.length_append];omega⟩) k [] (by omega) (by simp)
 refine h.trans ?_;rw [Mx];rfl
def DG (row:List Nm) (y:Nm):Bool:=row.any fun z=>seq z y
theorem xU {row:List Nm} {y:Nm}:DG row y=true↔y∈row:=by
 simp only [DG,List.any_eq_true,cC];exact ⟨fun ⟨z,h1,h2⟩=>h2▸h1,fun h=>⟨y,h,rfl⟩⟩
def Qs (ms:List aF) (kind name:Nm) (row:List Nm):Bool:=(reads ms kind name).all (DG row)
theorem Xd {k:Nat} {ms:List aF} {kind name:Nm} {row:List Nm} (hk:8388608≤k) (hm:ms.length≤1048576) (hr:row.length≤1048576):wz k ms kind name row=some (Qs ms kind name row):=by
 unfold wz;simp only [share];have h:=gI (x:=ms) (p:=fun m=>(nF kind name m).all (DG row)) (B:=4194304) (l:=fun k i=>iter (ts:=xn) (R:=Bool) k (pG (some true)) ms kind name row i) (E:=some true) (O:=some false)
  (fun k=>by simp only [iter,pG,cg,cond_false]<;>rfl)
  (fun k i hi hb=>by
   simp only [iter,pG,share,cd hi,bO hi,cond_true,bN,bP hi,bQ hm hi,Qo hb hr,Option.bind_some,nF];have e1:(row.any fun y=>seq y ms[i].db)=DG row ms[i].db:=rfl;have e2:(row.any fun y=>seq y ms[i].cM)=DG row ms[i].cM:=rfl;rw [e1,e2];cases seq ms[i].Kind kind<;>cases seq ms[i].Field name<;>cases seq ms[i].db []<;>cases seq ms[i].cM []<;>cases hw:DG row ms[i].db<;>cases hf:DG row ms[i].cM<;>simp [hw,hf]<;>rfl) k (by omega)
 refine h.trans ?_;unfold Qs reads;rw [List.all_flatMap];cases ms.all fun a=>(nF kind name a).all (DG row)<;>rfl
def HX (ms:List aF) (s:aD) (row:List Nm) (f:aB):Bool:=!DG row f.Name&&Qs ms s.Kind f.Name row
def Cs (ms:List aF) (s:aD) (row:List Nm):List Nm:=match s.aW.find? (HX ms s row) with
 | some f=>row++[f.Name]
 | none=>row
def u7 (ms:List aF) (s:aD):List Nm:=s.aW.foldl (fun row _=>Cs ms s row) []
theorem Xe (ms:List aF) (s:aD) (row:List Nm):(Cs ms s row).length≤row.length+1:=by
 unfold Cs;split<;>simp
theorem VL {k:Nat} {ms:List aF} {s:aD} (hk:4194304*4≤k) (hm:ms.length≤1048576) (hs:s.aW.length≤1048576):xo k s ms=some (u7 ms s):=by
 unfold xo;simp only [share];have inner:∀ (J:List aF→aD→Int→List Nm→Option (List Nm)) (n:Int) (row:List Nm) (k:Nat),4194304*3≤k→row.length≤1048576→
   iter (ts:=tj) (R:=List (List UInt8)) k (pa J) ms s n (0:Int) row=J ms s n (Cs ms s row):=by
  intro J n row k hk hr;have h:=JE (x:=s.aW) (p:=HX ms s row) (B:=8388608) (l:=fun k i=>iter (ts:=tj) (R:=List (List UInt8)) k (pa J) ms s n i row) (E:=J ms s n row) (O:=fun f=>J ms s n (row++[f.Name]))
   (fun k=>by simp only [iter,pa,cg,cond_false]<;>rfl)
   (fun k i hi hb=>by
    simp only [iter,pa,share,cd hi,bO hi,cond_true,bN,bP hi,bQ hs hi,Qo (show 4194304≤k by omega) hr,Xd hb hm hr,Option.bind_some,HX];rw [lQ (by simp;omega) (by omega)];have e1:(row.any fun y=>seq y s.aW[i].Name)=DG row s.aW[i].Name:=rfl;rw [e1];cases DG row s.aW[i].Name<;>cases Qs ms s.Kind s.aW[i].Name row<;>rfl) k (by omega)
  refine h.trans ?_;unfold Cs;cases s.aW.find? (HX ms s row)<;>rfl
 have h:=fm (S:=List Nm) (x:=s.aW) (f:=fun row _=>Cs ms s row) (B:=4194304*3) (l:=fun k row i=>iter (ts:=z7) (R:=List (List UInt8)) k (tX fun v=>some v) ms s i row) (J:=fun row=>some row) (fun i row=>row.length≤i)
  (fun k row _=>by simp only [iter,tX,cg,cond_false]<;>rfl)
  (fun k i row hi hb hI=>⟨by
   simp only [iter,tX,share,cd hi,cond_true];refine (inner _ _ _ _ hb (by omega)).trans ?_;rw [bQ hs hi],Nat.le_trans (Xe ms s row) (by omega)⟩) k [] (by omega) (by simp)
 exact h
section
variable (R:Nm→List Nm) (N:List Nm)
structure CP (out:List Nm):Prop where
 nd:out.Nodup
 rd:∀ pre x post,out=pre++x::post→∀ y,y∈R x→y∈pre
structure Full (L:List Nm):Prop where
 Lg:CP R L
 all:∀ y,y∈N→y∈L
 sub:∀ y,y∈L→y∈N
variable {R N}
theorem CP.nil:CP R []:=⟨List.nodup_nil,fun pre x post h=>by simp at h⟩
theorem CP.snoc {out:List Nm} {x:Nm} (h:CP R out) (hx:x ∉ out) (hr:∀ y,y∈R x→y∈out):CP R (out++[x]):=by
 refine ⟨List.nodup_append.2 ⟨h.nd,by simp,fun a ha b hb=>by simp at hb;subst hb;exact fun e=>hx (e▸ha)⟩,fun pre z post e y hy=>?_⟩;rcases List.append_eq_append_iff.1 e with ⟨cs,h1,h2⟩ | ⟨bs,h1,h2⟩
 ·cases cs with
  | nil=>
   simp only [List.nil_append,List.cons.injEq] at h2;rw [List.append_nil] at h1;rw [h1];exact hr y (h2.1▸hy)
  | cons a cs=>simp at h2
 ·cases bs with
  | nil=>
   simp only [List.nil_append,List.cons.injEq] at h2;rw [List.append_nil] at h1;rw [← h1];exact hr y (h2.1▸hy)
  | cons b bs=>
   simp only [List.cons_append,List.cons.injEq] at h2;obtain ⟨rfl,_⟩:=h2;exact h.rd pre z bs h1 y hy
theorem CP.lt {L:List Nm} (h:CP R L) {x y:Nm} (hx:x∈L) (hy:y∈R x):y∈L∧L.idxOf y < L.idxOf x:=by
 obtain ⟨pre,post,e⟩:=List.append_of_mem hx;have hp:=h.rd pre x post e y hy;have zg:=h.nd;rw [e] at zg;have hxp:x ∉ pre:=fun hm=>(List.nodup_append.1 zg).2.2 x hm x (by simp) rfl;refine ⟨by rw [e];simp [hp],?_⟩;rw [e,List.idxOf_append,if_pos hp,List.idxOf_append,if_neg hxp,List.idxOf_cons_self,Nat.zero_add];exact List.idxOf_lt_length_iff.2 hp
end
theorem KC (ms:List aF) (s:aD) (row:List Nm):(∃ f,f∈s.aW∧f.Name ∉ row∧(∀ y,y∈reads ms s.Kind f.Name→y∈row)∧Cs ms s row=row++[f.Name])∨
  ((∀ f,f∈s.aW→HX ms s row f=false)∧Cs ms s row=row):=by
 unfold Cs;cases h:s.aW.find? (HX ms s row) with
 | some f=>
  have h1:=List.find?_some h;simp only [HX,Bool.and_eq_true,Bool.not_eq_true'] at h1;refine .inl ⟨f,List.mem_of_find?_eq_some h,fun hm=>?_,fun y hy=>?_,rfl⟩
  ·rw [xU.2 hm] at h1;cases h1.1
  ·exact xU.1 (List.all_eq_true.1 h1.2 y hy)
 | none=>exact .inr ⟨fun f hf=>by simpa using List.find?_eq_none.1 h f hf,rfl⟩
def names (s:aD):List Nm:=s.aW.map (·.Name)
theorem Pk (ms:List aF) (s:aD):CP (reads ms s.Kind) (u7 ms s)∧∀ y,y∈u7 ms s→y∈names s:=by
 have key:∀ (l:List aB) (row:List Nm),CP (reads ms s.Kind) row→(∀ y,y∈row→y∈names s)→CP (reads ms s.Kind) (l.foldl (fun row _=>Cs ms s row) row)∧∀ y,y∈l.foldl (fun row _=>Cs ms s row) row→y∈names s:=by
  intro l
  induction l with
  | nil=>exact fun row h1 h2=>⟨h1,h2⟩
  | cons a r ih=>
   intro row h1 h2;rw [List.foldl_cons];rcases KC ms s row with ⟨f,q1,q2,q3,q4⟩ | ⟨_,q⟩
   ·rw [q4];refine ih _ (h1.snoc q2 q3) fun y hy=>?_;rcases List.mem_append.1 hy with h | h
    ·exact h2 y h
    ·simp at h;subst h;exact List.mem_map_of_mem q1
   ·rw [q];exact ih _ h1 h2
 exact key s.aW [] CP.nil (fun y h=>by cases h)
theorem Xf {ms:List aF} {s:aD} (zg:(names s).Nodup) {L:List Nm} (hL:Full (reads ms s.Kind) (names s) L):(u7 ms s).length=s.aW.length:=by
 have hlen:(names s).length=s.aW.length:=by simp [names]
 have step:∀ row:List Nm,row.Nodup→(∀ y,y∈row→y∈names s)→row.length < s.aW.length→∃ f,f∈s.aW∧HX ms s row f=true:=by
  intro row h1 h2 h3;have:∃ x,L.find? (fun y=>!DG row y)=some x:=by
   cases h:L.find? (fun y=>!DG row y) with
   | some x=>exact ⟨x,rfl⟩
   | none=>
    have nG:=List.find?_eq_none.1 h;have jx:∀ y,y∈names s→y∈row:=fun y hy=>by
     have:=nG y (hL.all y hy);simp only [Bool.not_eq_true',Bool.not_eq_false] at this;exact xU.1 (by simpa using this)
    have:=zg.length_le_of_subset jx;omega
  obtain ⟨x,hx⟩:=this;have hxL:=List.mem_of_find?_eq_some hx;obtain ⟨f,hf,rfl⟩:=List.mem_map.1 (hL.sub x hxL);refine ⟨f,hf,?_⟩;simp only [HX,Bool.and_eq_true];refine ⟨List.find?_some (p:=fun y=>!DG row y) hx,List.all_eq_true.2 fun y hy=>?_⟩;obtain ⟨hp,pre,post,e,Ui⟩:=List.find?_eq_some_iff_append.1 hx;have:=Ui y (hL.Lg.rd pre f.Name post e y hy);simpa using this
 have key:∀ (l:List aB) (row:List Nm),row.Nodup→(∀ y,y∈row→y∈names s)→CP (reads ms s.Kind) row→row.length+l.length=s.aW.length→(l.foldl (fun row _=>Cs ms s row) row).length=s.aW.length:=by
  intro l
  induction l with
  | nil=>intro row _ _ _ h;simpa using h
  | cons a r ih=>
   intro row h1 h2 h4 h3;rw [List.length_cons] at h3;rw [List.foldl_cons];rcases KC ms s row with ⟨f,q1,q2,q3,q4⟩ | ⟨q1,_⟩
   ·rw [q4];have ht:=h4.snoc q2 q3;refine ih _ ht.nd (fun y hy=>?_) ht (by simp;omega);rcases List.mem_append.1 hy with h | h
    ·exact h2 y h
    ·simp at h;subst h;exact List.mem_map_of_mem q1
   ·obtain ⟨f,hf,hn⟩:=step row h1 h2 (by omega);rw [q1 f hf] at hn;cases hn
 exact key s.aW [] List.nodup_nil (fun y h=>by cases h) CP.nil (by simp)
theorem Y4 {ms:List aF} {s:aD} (zg:(names s).Nodup):(u7 ms s).length=s.aW.length↔∃ L,Full (reads ms s.Kind) (names s) L:=by
 constructor
 ·intro h;obtain ⟨h1,h2⟩:=Pk ms s;refine ⟨u7 ms s,h1,fun y hy=>?_,h2⟩;cases hc:DG (u7 ms s) y with
  | true=>exact xU.1 hc
  | false=>
   have hny:y ∉ u7 ms s:=fun hm=>by rw [xU.2 hm] at hc;cases hc
   have h3:(y::u7 ms s).Nodup:=List.nodup_cons.2 ⟨hny,h1.nd⟩;have h4:=h3.length_le_of_subset (l₂:=names s) fun z hz=>by
    rcases List.mem_cons.1 hz with e | e
    ·exact e▸hy
    ·exact h2 z e
   simp only [List.length_cons,names,List.length_map] at h4;omega
 ·rintro ⟨L,hL⟩
  exact Xf zg hL
def R5 (n:Nm) (v:Int) (st:List cx):List cx:=oM (fun p:cx=>seq n p.Key) st ⟨n,v⟩
theorem Pl (n n':Nm) (v:Int) (st:List cx):iB n' (R5 n v st)=cond (seq n' n) v (iB n' st):=JD (key:=cx.Key) (y:=⟨n,v⟩)
theorem fQ (n:Nm) (v:Int) (st:List cx):iB n (R5 n v st)=v:=by rw [Pl,pj];rfl
theorem ade {a b:Nm} (h:a≠b):seq a b=false:=by
 cases e:seq a b with
 | false=>rfl
 | true=>exact absurd (cC.1 e) h
theorem dX {n n':Nm} (h:n'≠n) (v:Int) (st:List cx):iB n' (R5 n v st)=iB n' st:=by rw [Pl,ade h];rfl
section
variable {ms:List aF} {s:aD} {R:Nm→List Nm} {N:List Nm}
def fu (N G:List Nm):Nat:=8388608+(N.length+1-G.length)*1048578
theorem acD {N G G':List Nm} (h:G.length≤G'.length):fu N G'≤fu N G:=by unfold fu;omega
theorem acE (N G:List Nm):8388608≤fu N G:=by unfold fu;omega
theorem aa1 {N G:List Nm} {x:Nm} (h:G.length+1≤N.length):fu N (x::G)+1048578≤fu N G:=by unfold fu;simp only [List.length_cons];omega
structure Uj (R:Nm→List Nm) (N:List Nm) (st:List cx) (out G:List Nm):Prop where
 two:∀ y,iB y st=2↔y∈out
 rng:∀ y,iB y st=0∨iB y st=1∨iB y st=2
 Lg:CP R out
 sub:∀ y,y∈out→y∈N
 gnd:G.Nodup
 aa2:∀ y,y∈G→y∈N
 g:∀ y,y∈G↔iB y st≠0
structure Mz (R:Nm→List Nm) (N:List Nm) (st:List cx) (out G:List Nm) (RM:List cx) (zE:List Nm):Prop where
 inv:∃ G',Uj R N RM zE G'∧G.length≤G'.length
 one:∀ y,iB y RM=1↔iB y st=1
 ext:∀ y,y∈out→y∈zE
def VM (L:List Nm) (st:List cx) (x:Nm):Prop:=∀ z,iB z st=1→L.idxOf x < L.idxOf z
def Uk (R:Nm→List Nm) (N:List Nm) (ms:List aF) (s:aD) (f:Nat→Nm→List cx→List aF→aD→List Nm→Option (Bool×List cx×List aF×aD×List Nm)) (n:Nat):Prop:=
 ∀ k x st out G,fu N G≤k→x∈N→Uj R N st out G→N.length < n+G.length→∃ b RM zE,f k x st ms s out=some (b,RM,ms,s,zE)∧(b=true→Mz R N st out G RM zE∧x∈zE)∧∀ L,Full R N L→VM L st x→b=true
theorem Mz.refl {st:List cx} {out G:List Nm} (h:Uj R N st out G):Mz R N st out G st out:=⟨⟨G,h,Nat.le_refl _⟩,fun _=>Iff.rfl,fun _ h=>h⟩
theorem Mz.ahead {st RM:List cx} {out zE G L:List Nm} (h:Mz R N st out G RM zE) {x:Nm} (ha:VM L st x):VM L RM x:=fun z hz=>ha z ((h.one z).1 hz)
theorem Xg {f:Nat→Nm→List cx→List aF→aD→List Nm→Option (Bool×List cx×List aF×aD×List Nm)} {n:Nat} (hf:Uk R N ms s f n) {ys:List Nm} (hl:ys.length≤1048576) (hN:∀ y,y∈ys→y∈N) (x:Nm)
  (J:Nm→List cx→List aF→aD→List Nm→Option (Bool×List cx×List aF×aD×List Nm)):
  ∀ m i k st out G,i+m=ys.length→fu N G+m+1≤k→Uj R N st out G→N.length < n+G.length→
   ∃ b RM zE,iter (ts:=jv) (R:=Bool×(List cx)×(List aF)×aD×(List (List UInt8))) k (dO f J) x ys (ys.length:Int) (i:Int) st ms s out=(cond b (J x RM ms s zE) (some (false,RM,ms,s,zE)))∧
    (b=true→Mz R N st out G RM zE∧∀ y,y∈ys.drop i→y∈zE)∧∀ L,Full R N L→(∀ y,y∈ys.drop i→VM L st y)→b=true:=by
 intro m
 induction m with
 | zero=>
  intro i k st out G h hk hi _;obtain ⟨k,rfl⟩:∃ q,k=q+1:=⟨k-1,by omega⟩;obtain rfl:i=ys.length:=by omega
  refine ⟨true,st,out,?_,fun _=>⟨.refl hi,fun y hy=>by simp at hy⟩,fun _ _ _=>rfl⟩;simp only [iter,dO,cg,cond_false]<;>rfl
 | succ m ih=>
  intro i k st out G h hk hi hg;obtain ⟨k,rfl⟩:∃ q,k=q+1:=⟨k-1,by omega⟩;have dY:i < ys.length:=by omega
  obtain ⟨b,st1,vl,h1,h2,h3⟩:=hf k ys[i] st out G (by omega) (hN _ (dB dY)) hi hg;rw [List.drop_eq_getElem_cons dY];cases b with
  | false=>
   refine ⟨false,st1,vl,?_,(fun h=>by cases h),fun L hL ha=>h3 L hL (ha _ (List.mem_cons_self ..))⟩;simp only [iter,dO,cd dY,bO dY,cond_true,bN,bP dY,h1,Option.bind_some]<;>rfl
  | true=>
   obtain ⟨p1,p2⟩:=h2 rfl;obtain ⟨G1,hi1,Yz⟩:=p1.inv;obtain ⟨b,st2,MA,k1,k2,k3⟩:=ih (i+1) k st1 vl G1 (by omega) (by have:=acD (N:=N) Yz;omega) hi1 (by omega);refine ⟨b,st2,MA,?_,fun hb=>?_,fun L hL ha=>k3 L hL fun y hy=>p1.ahead (ha y (List.mem_cons_of_mem _ hy))⟩
   ·simp only [iter,dO,cd dY,bO dY,cond_true,bN,bP dY,h1,Option.bind_some,bQ hl dY];exact k1
   ·obtain ⟨q1,q2⟩:=k2 hb;obtain ⟨G2,R6,VN⟩:=q1.inv;refine ⟨⟨⟨G2,R6,by omega⟩,fun y=>(q1.one y).trans (p1.one y),fun y hy=>q1.ext y (p1.ext y hy)⟩,fun y hy=>?_⟩;rcases List.mem_cons.1 hy with e | e
    ·exact e▸q1.ext _ p2
    ·exact q2 y e
theorem VO (YA:ms.length≤1048576) (hR:∀ x,x∈N→∀ y,y∈reads ms s.Kind x→y∈N) (hRl:∀ x,(reads ms s.Kind x).length≤1048576) (hNl:N.length≤1048576):∀ n,Uk (reads ms s.Kind) N ms s (d_ n) n
 | 0=>fun k x st out G _ _ hi hg=>by
  have:=hi.gnd.length_le_of_subset hi.aa2;omega
 | n+1=>fun k x st out G hk hx hi hg=>by
  have ih:=VO YA hR hRl hNl n;have e0:m7 (fun p:cx=>seq x p.Key) (fun p:cx=>p.L4) (0:Int) st=iB x st:=rfl;simp only [d_,e0,share];rcases hi.rng x with h0 | h0 | h0
  ·
   rw [h0];have i1:Uj (reads ms s.Kind) N (R5 x 1 st) out (x::G):=by
    have hxG:x ∉ G:=fun h=>(hi.g x).1 h h0;refine ⟨fun y=>?_,fun y=>?_,hi.Lg,hi.sub,List.nodup_cons.2 ⟨hxG,hi.gnd⟩,fun y hy=>?_,fun y=>?_⟩
    ·by_cases e:y=x
     ·subst e;rw [fQ];exact ⟨fun h=>by omega,fun h=>by have:=(hi.two y).2 h;omega⟩
     ·rw [dX e];exact hi.two y
    ·by_cases e:y=x
     ·subst e;rw [fQ];exact .inr (.inl rfl)
     ·rw [dX e];exact hi.rng y
    ·rcases List.mem_cons.1 hy with e | e
     ·exact e▸hx
     ·exact hi.aa2 y e
    ·by_cases e:y=x
     ·subst e;rw [fQ];simp
     ·rw [dX e,List.mem_cons];exact ⟨fun h=>(hi.g y).1 (h.resolve_left e),fun h=>.inr ((hi.g y).2 h)⟩
   have hGl:(x::G).length≤N.length:=i1.gnd.length_le_of_subset i1.aa2;have hfu:fu N (x::G)+1048578≤fu N G:=aa1 (by simpa using hGl);have:=acE N G;have de:=Y3 (name:=x) (s:=s) (show 4194304≤k by omega) YA
   let J:Nm→List cx→List aF→aD→List Nm→Option (Bool×List cx×List aF×aD×List Nm):=fun v39 v40 v41 v42 v43=>
    bE (kW (v43.length+([v39]:List (List UInt8)).length) 16) (some (true,(oM (fun p:cx=>seq v39 p.Key) v40 (⟨v39,(2:Int)⟩:cx)),v41,v42,(v43++([v39]:List (List UInt8)))))
   have hrl:=hRl x;obtain ⟨b,st2,MA,k1,k2,k3⟩:=Xg ih hrl (hR x hx) x J (reads ms s.Kind x).length 0 k (R5 x 1 st) out (x::G) (by omega) (by omega) i1 (by simp;omega);simp only [de,Option.bind_some];have e1:(oM (fun p:cx=>seq x p.Key) st (⟨x,(1:Int)⟩:cx))=R5 x 1 st:=rfl;have YB:iter (ts:=jv) (R:=Bool×(List cx)×(List aF)×aD×(List (List UInt8))) k (dO (d_ n) J) x (reads ms s.Kind x) ((reads ms s.Kind x).length:Int) (0:Int) (R5 x 1 st) ms s out=(cond b (J x st2 ms s MA) (some (false,st2,ms,s,MA))):=k1;cases b with
   | false=>
    refine ⟨false,st2,MA,by rw [show bI 0 1=false from rfl,show bI 0 2=false from rfl];exact YB,(fun h=>by cases h),fun L hL ha=>?_⟩;refine k3 L hL fun y hy z hz=>?_;have dY:=(hL.Lg.lt (hL.all x hx) (by simpa using hy)).2;by_cases e:z=x
    ·rw [e];exact dY
    ·rw [dX e] at hz;exact Nat.lt_trans dY (ha z hz)
   | true=>
    obtain ⟨q1,q2⟩:=k2 rfl;obtain ⟨G2,R6,VN⟩:=q1.inv;have hx1:iB x st2=1:=(q1.one x).2 (fQ _ _ _);have hxo:x ∉ MA:=fun h=>by have:=(R6.two x).2 h;omega
    have hlen:MA.length≤1048576:=Nat.le_trans (R6.Lg.nd.length_le_of_subset R6.sub) hNl;refine ⟨true,R5 x 2 st2,MA++[x],?_,fun _=>⟨⟨⟨G2,⟨fun y=>?_,fun y=>?_,R6.Lg.snoc hxo fun y hy=>q2 y (by simpa using hy),fun y hy=>?_,R6.gnd,R6.aa2,fun y=>?_⟩,?_⟩,fun y=>?_,fun y hy=>?_⟩,by simp⟩,fun _ _ _=>rfl⟩
    ·rw [show bI 0 1=false from rfl,show bI 0 2=false from rfl];refine YB.trans ?_;show bE (kW (MA.length+1) 16) _=_;rw [lQ (by omega) (by omega)];rfl
    ·by_cases e:y=x
     ·subst e;rw [fQ];simp
     ·rw [dX e,R6.two y];simp [e]
    ·by_cases e:y=x
     ·subst e;rw [fQ];exact .inr (.inr rfl)
     ·rw [dX e];exact R6.rng y
    ·rcases List.mem_append.1 hy with h | h
     ·exact R6.sub y h
     ·simp at h;exact h▸hx
    ·by_cases e:y=x
     ·subst e;rw [fQ,R6.g y,hx1];simp
     ·rw [dX e];exact R6.g y
    ·simp only [List.length_cons] at VN;omega
    ·by_cases e:y=x
     ·subst e;rw [fQ];omega
     ·rw [dX e,q1.one y,dX e]
    ·exact List.mem_append_left _ (q1.ext y hy)
  ·
   rw [h0];exact ⟨false,st,out,rfl,(fun h=>by cases h),fun L _ ha=>absurd (ha x h0) (Nat.lt_irrefl _)⟩
  ·
   rw [h0];exact ⟨true,st,out,rfl,fun _=>⟨.refl hi,(hi.two x).1 h0⟩,fun _ _ _=>rfl⟩
theorem Y5 (hw:∀ n,Uk R N ms s (d_ n) n) {xs:List Nm} (hl:xs.length≤1048576) (hN:∀ y,y∈xs→y∈N) (hNl:N.length≤1048576)
  (J:List aF→aD→List Nm→Option (List Nm×Bool×List aF×aD)):
  ∀ m i k st out G,i+m=xs.length→fu N G+m+1≤k→Uj R N st out G→(∀ z,iB z st≠1)→
   ∃ b RM zE,iter (ts:=rU) (R:=(List (List UInt8))×Bool×(List aF)×aD) k (gG J) xs (xs.length:Int) (i:Int) ms s out st=(cond b (J ms s zE) (some ([],false,ms,s)))∧
    (b=true→Mz R N st out G RM zE∧∀ y,y∈xs.drop i→y∈zE)∧∀ L,Full R N L→b=true:=by
 intro m
 induction m with
 | zero=>
  intro i k st out G h hk hi _;obtain ⟨k,rfl⟩:∃ q,k=q+1:=⟨k-1,by omega⟩;obtain rfl:i=xs.length:=by omega
  refine ⟨true,st,out,?_,fun _=>⟨.refl hi,fun y hy=>by simp at hy⟩,fun _ _=>rfl⟩;simp only [iter,gG,cg,cond_false]<;>rfl
 | succ m ih=>
  intro i k st out G h hk hi hz;obtain ⟨k,rfl⟩:∃ q,k=q+1:=⟨k-1,by omega⟩;have dY:i < xs.length:=by omega
  have:=acE N G;obtain ⟨b,st1,vl,h1,h2,h3⟩:=hw k k xs[i] st out G (by omega) (hN _ (dB dY)) hi (by omega);rw [List.drop_eq_getElem_cons dY];cases b with
  | false=>
   refine ⟨false,st1,vl,?_,(fun h=>by cases h),fun L hL=>h3 L hL fun z hz'=>absurd hz' (hz z)⟩;simp only [iter,gG,cd dY,bO dY,cond_true,bN,bP dY,h1,Option.bind_some]<;>rfl
  | true=>
   obtain ⟨p1,p2⟩:=h2 rfl;obtain ⟨G1,hi1,Yz⟩:=p1.inv;obtain ⟨b,st2,MA,k1,k2,k3⟩:=ih (i+1) k st1 vl G1 (by omega) (by have:=acD (N:=N) Yz;omega) hi1 fun z hz'=>hz z ((p1.one z).1 hz');refine ⟨b,st2,MA,?_,fun hb=>?_,k3⟩
   ·simp only [iter,gG,cd dY,bO dY,cond_true,bN,bP dY,h1,Option.bind_some,bQ hl dY];exact k1
   ·obtain ⟨q1,q2⟩:=k2 hb;obtain ⟨G2,R6,VN⟩:=q1.inv;refine ⟨⟨⟨G2,R6,by omega⟩,fun y=>(q1.one y).trans (p1.one y),fun y hy=>q1.ext y (p1.ext y hy)⟩,fun y hy=>?_⟩;rcases List.mem_cons.1 hy with e | e
    ·exact e▸q1.ext _ p2
    ·exact q2 y e
theorem Ul (l:List aB) (q:List Nm):l.foldl (fun (q:List Nm) f=>q++[f.Name]) q=q++l.map (·.Name):=by
 induction l generalizing q with
 | nil=>simp
 | cons a r ih=>rw [List.foldl_cons,ih];simp
theorem VP (YA:ms.length≤1048576) (hR:∀ x,x∈names s→∀ y,y∈reads ms s.Kind x→y∈names s) (hRl:∀ x,(reads ms s.Kind x).length≤1048576) (hNl:s.aW.length≤6) {k:Nat} (hk:4194304*5≤k):
  ∃ b row,tq k s ms=some (row,b)∧(b=true→Full (reads ms s.Kind) (names s) row)∧((∃ L,Full (reads ms s.Kind) (names s) L)→b=true):=by
 have ah0:(names s).length≤6:=by simp only [names,List.length_map];exact hNl
 have i0:Uj (reads ms s.Kind) (names s) [] [] []:=⟨fun y=>by simp [iB,m7],fun y=>.inl rfl,CP.nil,(fun y h=>by cases h),List.nodup_nil,(fun y h=>by cases h),fun y=>by simp [iB,m7]⟩
 let J:List aF→aD→List Nm→Option (List Nm×Bool×List aF×aD):=fun v23 v24 v25=>some (v25,true,v23,v24)
 obtain ⟨b,RM,zE,h1,h2,h3⟩:=Y5 (VO YA hR hRl (by omega)) (by omega) (fun y h=>h) (by omega) J (names s).length 0 k [] [] [] (by omega) (by simp only [fu,List.length_nil];omega) i0 fun z hz=>by simp [iB,m7] at hz
 have de:kN k (names s) ms s=cond b (some (zE,true,ms,s)) (some ([],false,ms,s)):=by
  unfold kN;simp only [share];exact h1
 have hof:tq k s ms=cond b (some (zE,true)) (some ([],false)):=by
  unfold tq;simp only [share];have h:=fun J:aD→List aF→List Nm→Option (List Nm×Bool)=>fm (S:=List Nm) (x:=s.aW) (f:=fun q f=>q++[f.Name]) (B:=0) (l:=fun k q i=>iter (ts:=Ab) (R:=(List (List UInt8))×Bool) k (ui J) s.aW (s.aW.length:Int) i s ms q)
   (J:=fun q=>J s ms q) (fun i q=>q.length=i)
   (fun k q _=>by simp only [iter,ui,cg,cond_false]<;>rfl)
   (fun k i q hi _ hq=>⟨by
    simp only [iter,ui,cd hi,bO hi,cond_true,bN,bP hi,bQ (show s.aW.length≤1048576 by omega) hi];rw [lQ (by simp;omega) (by omega)];rfl,by simp [hq]⟩) k [] (by omega) rfl
  refine (h _).trans ?_;rw [Ul,List.nil_append];change (kN k (names s) ms s).bind _=_;rw [de];cases b<;>rfl
 cases b with
 | false=>exact ⟨false,[],hof,(fun h=>by cases h),fun ⟨L,hL⟩=>h3 L hL⟩
 | true=>
  obtain ⟨p,q⟩:=h2 rfl;obtain ⟨G',da,_⟩:=p.inv;exact ⟨true,zE,hof,fun _=>⟨da.Lg,fun y h=>q y (by simpa using h),fun y h=>da.sub y h⟩,fun _=>rfl⟩
end
theorem DH:∀ {r:List aB} {q:List Nm},FZ q r=true→(r.map (·.Name)).Nodup∧∀ y,y∈r.map (·.Name)→y ∉ q
 | [],_,_=>⟨List.nodup_nil,fun _ h=>by cases h⟩
 | f::r,q,h=>by
  simp only [FZ,Bool.and_eq_true,Bool.not_eq_true'] at h;obtain ⟨h1,h2⟩:=h;obtain ⟨h3,h4⟩:=DH h2;refine ⟨List.nodup_cons.2 ⟨fun hm=>h4 _ hm (by simp),h3⟩,fun y hy hq=>?_⟩;rcases List.mem_cons.1 hy with e | e
  ·have:q.any (fun y=>seq y f.Name)=true:=List.any_eq_true.2 ⟨y,hq,cC.2 e⟩;rw [h1] at this;cases this
  ·exact h4 y e (by simp [hq])
theorem Pm:∀ {xs:List aD} {s:aD} {n:Nm},(kinds xs).Nodup→s∈xs→s.Kind=n→xs.find? (fun s=>seq s.Kind n)=some s
 | [],_,_,_,h,_=>by cases h
 | a::r,s,n,hn,hs,e=>by
  simp only [kinds,List.map_cons,List.nodup_cons] at hn;rw [List.find?_cons];rcases List.mem_cons.1 hs with h | h
  ·subst h;rw [show seq s.Kind n=true from cC.2 e]
  ·cases ha:seq a.Kind n with
   | true=>
    have hm:s.Kind∈r.map (·.Kind):=List.mem_map_of_mem h;rw [e,← cC.1 ha] at hm;exact absurd hm hn.1
   | false=>exact Pm hn.2 h e
theorem Pn {fs:List aB} {n:Nm} (h:nD fs n=true):n∈fs.map (·.Name):=by
 unfold nD GI at h;cases e:fs.find? fun f=>seq f.Name n with
 | none=>rw [e] at h;cases h
 | some f=>
  have h1:=List.find?_some e;have h2:=List.mem_of_find?_eq_some e;rw [← cC.1 h1];exact List.mem_map_of_mem h2
theorem Po {xs:List aD} {s:aD} {m:aF} (hn:(kinds xs).Nodup) (hs:s∈xs) (hm:nE xs m=true) {x y:Nm} (hy:y∈nF s.Kind x m):y∈names s:=by
 unfold nF at hy;cases h1:seq m.Kind s.Kind with
 | false=>rw [h1] at hy;cases hy
 | true=>
  rw [h1] at hy;cases h2:seq m.Field x with
  | false=>rw [h2] at hy;cases hy
  | true=>
   rw [h2] at hy;simp only [Bool.and_self,cond_true,List.mem_append] at hy;have hf:=Pm hn hs (cC.1 h1).symm;unfold nE at hm;rw [hf] at hm;simp only [JJ,Bool.and_eq_true,Bool.or_eq_true] at hm;obtain ⟨_,h4,h5,_⟩:=hm;rcases hy with hy | hy
   ·cases h6:seq m.db [] with
    | true=>rw [h6] at hy;cases hy
    | false=>
     rw [h6] at hy;simp only [cond_false,List.mem_singleton] at hy;subst hy;exact Pn (h4.resolve_left (by rw [h6];exact Bool.false_ne_true))
   ·cases h6:seq m.cM [] with
    | true=>rw [h6] at hy;cases hy
    | false=>
     rw [h6] at hy;simp only [cond_false,List.mem_singleton] at hy;subst hy;exact Pn (h5.resolve_left (by rw [h6];exact Bool.false_ne_true))
theorem Pp {ms:List aF} {kind x:Nm}:(reads ms kind x).length≤2*ms.length:=by
 induction ms with
 | nil=>simp [reads]
 | cons a r ih=>
  have:=My kind x a;simp only [reads,List.flatMap_cons,List.length_append,List.length_cons] at *;omega
def gk (xs:List aD) (ms:List aF):Bool:=
 eM xs&&(b6 (ms.length:Int) 12&&(ms.all (nE xs)&&xs.all fun s=>bI ((u7 ms s).length:Int) (s.aW.length:Int)))
theorem OC {k:Nat} {xs:List aD} {ms:List aF} (hk:4194304*6≤k) (hx:k_ aD.sd xs) (hm:k_ aF.sd ms):n5 k xs ms=some (gk xs ms):=by
 unfold n5 gk;have h4:=fun J:List aD→List aF→Option Bool=>gI (R:=Option Bool) (x:=ms) (p:=nE xs) (B:=4194304) (l:=fun k i=>iter (ts:=rF) (R:=Bool) k (jT J) xs ms i) (E:=J xs ms) (O:=some false)
  (fun k=>by simp only [iter,jT,cg,cond_false]<;>rfl)
  (fun k i hi hb=>by
   simp only [iter,jT,cd hi,bO hi,cond_true,bN,bP hi,bQ hm.1 hi,Ug hb hx (hm.2 _ (dB hi)),Option.bind_some];cases nE xs ms[i]<;>rfl) k (by have:=hm.1;omega)
 have h9:=gI (R:=Option Bool) (x:=xs) (p:=fun s=>bI ((u7 ms s).length:Int) (s.aW.length:Int)) (B:=4194304*4) (l:=fun k i=>iter (ts:=rE) (R:=Bool) k (jS (some true)) xs ms i) (E:=some true) (O:=some false)
  (fun k=>by simp only [iter,jS,cg,cond_false]<;>rfl)
  (fun k i hi hb=>by
   simp only [iter,jS,cd hi,bO hi,cond_true,bN,bP hi,bQ hx.1 hi,VL hb hm.1 (hx.2 _ (dB hi)).2.1,Option.bind_some];cases bI ((u7 ms xs[i]).length:Int) (xs[i].aW.length:Int)<;>rfl) k (by have:=hx.1;omega)
 simp only [share,Mt hx (show 4194304*4≤k by omega),Option.bind_some,cO];cases eM xs with
 | false=>rfl
 | true=>
  cases b6 (ms.length:Int) 12 with
  | false=>rfl
  | true=>
   refine (h4 _).trans ?_;cases ms.all (nE xs) with
   | false=>rfl
   | true=>exact h9.trans (by cases xs.all fun s=>bI ((u7 ms s).length:Int) (s.aW.length:Int)<;>rfl)
theorem zF {k:Nat} {xs:List aD} {ms:List aF} (hk:4194304*7≤k) (hx:k_ aD.sd xs) (hm:k_ aF.sd ms):hJ k xs ms=some (gk xs ms):=by
 unfold hJ gk;have h4:=fun J:List aD→List aF→Option Bool=>gI (R:=Option Bool) (x:=ms) (p:=nE xs) (B:=4194304) (l:=fun k i=>iter (ts:=rV) (R:=Bool) k (jY J) xs ms ms (ms.length:Int) i) (E:=J xs ms) (O:=some false)
  (fun k=>by simp only [iter,jY,cg,cond_false]<;>rfl)
  (fun k i hi hb=>by
   simp only [iter,jY,share,cd hi,bO hi,cond_true,bN,bP hi,EB hb hx.1,Option.bind_some,nE];rw [bQ hm.1 hi];rcases dG (fun s:aD=>seq s.Kind ms[i].Kind) xs with ⟨h1,h2⟩ | ⟨j,hj,h1,h2,_⟩
   ·rw [h1,h2];rfl
   ·rw [h1,h2,e9 (by omega),bO hj,bP hj,Uh hb (hx.2 _ (dB hj)).2 (hm.2 _ (dB hi))];simp only;cases JJ xs[j].aW ms[i]<;>rfl) k (by have:=hm.1;omega)
 simp only [share,xT hx (show 4194304*5≤k by omega),Option.bind_some,cO];cases qQ:eM xs with
 | false=>rfl
 | true=>
  cases YA:b6 (ms.length:Int) 12 with
  | false=>rfl
  | true=>
   refine (h4 _).trans ?_;cases nG:ms.all (nE xs) with
   | false=>rfl
   | true=>
    simp only [eM,Bool.and_eq_true,List.all_eq_true] at qQ nG;obtain ⟨hx6,agy,agz⟩:=qQ;have zg:=Pd agy;have ah1:=oU YA;have h11:=gI (R:=Option Bool) (x:=xs) (p:=fun s=>bI ((u7 ms s).length:Int) (s.aW.length:Int)) (B:=4194304*5) (l:=fun k i=>iter (ts:=qE) (R:=Bool) k (jf (some true)) ms xs (xs.length:Int) i) (E:=some true) (O:=some false)
     (fun k=>by simp only [iter,jf,cg,cond_false]<;>rfl)
     (fun k i hi hb=>by
      have hs:=agz _ (dB hi);simp only [om,Bool.and_eq_true] at hs;have h6:=oU hs.1;obtain ⟨b,row,h1,h2,h3⟩:=VP (ms:=ms) (s:=xs[i]) hm.1
       (fun x _ y hy=>by
        obtain ⟨m,hm1,hm2⟩:=List.mem_flatMap.1 hy;exact Po zg (dB hi) (nG m hm1) hm2)
       (fun x=>by have:=Pp (ms:=ms) (kind:=xs[i].Kind) (x:=x);omega) (by omega) hb
      have aeP:=Y4 (ms:=ms) (s:=xs[i]) (DH hs.2.2).1;have eb:bI ((u7 ms xs[i]).length:Int) (xs[i].aW.length:Int)=b:=by
       cases b with
       | true=>
        have:=aeP.2 ⟨row,h2 rfl⟩;simp only [bI,beq_iff_eq];omega
       | false=>
        simp only [bI,beq_eq_false_iff_ne];intro h;have:=h3 (aeP.1 (by omega));cases this
      simp only [iter,jf,cd hi,bO hi,cond_true,bN,bP hi,h1,Option.bind_some,bQ hx.1 hi,eb];cases b<;>rfl) k (by have:=hx.1;omega)
    exact h11.trans (by cases xs.all fun s=>bI ((u7 ms s).length:Int) (s.aW.length:Int)<;>rfl)
def Ct (w:aT):Bool:=gk w.cf w.iA&&HV w.eB
theorem R7 {k:Nat} {w:aT} (hk:4194304*6≤k) (hw:w.sd):rI k w=some (Ct w):=by
 unfold rI;rw [OC hk hw.1 hw.2.1,Oy (by omega) hw.2.2];unfold Ct;cases gk w.cf w.iA<;>rfl
theorem R8 {k:Nat} {w:aT} (hk:4194304*7≤k) (hw:w.sd):qV k w=some (Ct w):=by
 unfold qV;rw [zF hk hw.1 hw.2.1,Oz (by omega) hw.2.2];unfold Ct;cases gk w.cf w.iA<;>rfl
section
variable {α R S:Type} {x:List α} {B:Nat}
theorem Qt (g:Nat→S) {l:Nat→S→Int→R} {E:R} (he:∀ k,l (k+1) (g x.length) (x.length:Int)=E)
  (h:∀ k i (hi:i < x.length),B≤k→l (k+1) (g i) (i:Int)=l k (g (i+1)) ((i+1:Nat):Int)) (k:Nat) (hk:B+x.length+1≤k):l k (g 0) 0=E:=by
 have go:∀ m i k,i+m=x.length→B+m+1≤k→l k (g i) (i:Int)=E:=by
  intro m
  induction m with
  | zero=>
   intro i k h1 h2;obtain rfl:i=x.length:=by omega
   obtain ⟨k,rfl⟩:∃ j,k=j+1:=⟨k-1,by omega⟩;exact he k
  | succ m ih=>
   intro i k h1 h2;obtain ⟨k,rfl⟩:∃ j,k=j+1:=⟨k-1,by omega⟩;rw [h k i (by omega) (by omega)];exact ih (i+1) k (by omega) (by omega)
 exact go x.length 0 k (by omega) (by omega)
end
def opt {β R:Type} (o:Option β) (O:β→R) (E:R):R:=match o with
 | some c=>O c
 | none=>E
theorem R9 {α β R:Type} {x:List α} {B:Nat} {g:Nat→α→Option β} {l:Nat→Int→R} {E:R} {O:β→R} (he:∀ k,l (k+1) (x.length:Int)=E)
  (h:∀ k i (hi:i < x.length),B≤k→l (k+1) (i:Int)=opt (g i x[i]) O (l k ((i+1:Nat):Int))) (k:Nat) (hk:B+x.length+1≤k):l k 0=opt (first g x 0) O E:=by
 have:=GG (g:=g) (l:=l) (E:=E) (O:=O) he (fun k i hi hb=>by rw [h k i hi hb];cases g i x[i]<;>rfl) k hk;rw [this];cases first g x 0<;>rfl
def Lh (o:aA):Prop:=o.aP.length≤1048576∧o.b8.length≤1048576
theorem LD {o:aA} (h:o.sd):Lh o:=⟨h.2.2.2.1.1,h.2.2.2.2.2.1.1⟩
theorem JK {k:Nat} {o:aA} (h:Lh o):mo k o=some (o.Kind,o.Name,o.aY,o.Ending,o.Version,o.aP,o.b8):=by
 unfold mo;have h1:=h.1;have h2:=h.2;rw [lQ (by simp;omega) (by omega),lQ (by simp;omega) (by omega)];rfl
theorem xV (n:Nat):leq n n=true:=by simp [leq]
theorem HZ {k:Nat} {x:List Nm} (h:x.length≤1048576):kO k x=some x:=by
 unfold kO;cases x with
 | nil=>rfl
 | cons a r=>
  rw [VQ h (by omega),show bI ((a::r).length:Int) 0=false by simp only [List.length_cons,bI,beq_eq_false_iff_ne];omega,List.length_replicate,Int.toNat_natCast,xV];rfl
theorem KD {k:Nat} {x:List Nm} (h:x.length≤1048576):nA k x=some x:=by
 unfold nA;cases x with
 | nil=>rfl
 | cons a r=>
  rw [VQ h (by omega),show bI ((a::r).length:Int) 0=false by simp only [List.length_cons,bI,beq_eq_false_iff_ne];omega,List.length_replicate,Int.toNat_natCast,xV];rfl
theorem adf {k:Nat} {o:aA} (h:Lh o):ji k o=some o:=by
 unfold ji;rw [KD h.1,KD h.2];rfl
theorem Qu {k:Nat} {o:aA} (h:Lh o):dD k o=some (o.Kind,o.Name,o.aY,o.Ending,o.Version,o.aP,o.b8):=by
 unfold dD;rw [HZ h.1,HZ h.2];rfl
theorem KE {k:Nat} {xs:List aD} (o:aA) (hk:4194304≤k) (hx:xs.length≤1048576):mf k xs o.Kind o.Name o.aY o.Ending o.Version o.aP o.b8=some ((cv xs o).getD [],(cv xs o).isSome,o.aP,o.b8):=by
 unfold mf cv;rw [EB hk hx];simp only [share,Option.bind_some];rcases dG (fun s:aD=>seq s.Kind o.Kind) xs with ⟨h1,h2⟩ | ⟨j,hj,h1,h2,_⟩
 ·rw [h1,h2];rfl
 ·rw [h1,h2,e9 (by omega),bO hj,bP hj,R2 (o.aP.length:Int)];simp only;cases bI (xs[j].aW.length:Int) (o.aP.length:Int)<;>rfl
def R_ (d v:Nm):Nm:=cond (seq v []) d v
def iF (fs:List aB) (vs:List Nm) (i:Nat):List Nm:=vs.mapIdx fun j v=>cond (decide (j < i)) (R_ (fs.getD j default).Default v) v
theorem Bs (fs:List aB) (vs:List Nm) (i:Nat):(iF fs vs i).length=vs.length:=by simp [iF]
theorem Sa (fs:List aB) (vs:List Nm):iF fs vs 0=vs:=by
 refine List.ext_getElem (by simp [iF]) fun j h1 h2=>?_;simp [iF]
theorem MB {fs:List aB} {vs:List Nm} {i:Nat} (hi:i < vs.length):(iF fs vs i)[i]'(by rw [Bs];exact hi)=vs[i]:=by simp [iF]
theorem MC {fs:List aB} {vs:List Nm} {i:Nat} (hi:i < vs.length) (hf:i < fs.length):nQ (iF fs vs i) (i:Int) (R_ fs[i].Default vs[i])=iF fs vs (i+1):=by
 refine List.ext_getElem (by simp [iF,nQ]) fun j h1 h2=>?_;simp only [nQ,Int.toNat_natCast,List.getElem_set,iF,List.getElem_mapIdx];by_cases e:i=j
 ·subst e;rw [if_pos rfl,decide_eq_true (show i < i+1 by omega),JG hf];rfl
 ·rw [if_neg e]
  congr 1
  exact decide_eq_decide.2 (by omega)
theorem KF {fs:List aB} {vs:List Nm} {i:Nat} (hi:i < vs.length) (h:seq vs[i] []=false):iF fs vs i=iF fs vs (i+1):=by
 refine List.ext_getElem (by simp [iF]) fun j h1 h2=>?_;simp only [iF,List.getElem_mapIdx];by_cases e:i=j
 ·subst e;rw [decide_eq_true (show i < i+1 by omega),decide_eq_false (show ¬ i < i by omega)];simp only [cond_true,cond_false,R_,h]
 ·congr 1
  exact decide_eq_decide.2 (by omega)
def DI (xs:List aD) (o:aA):aA:=match cv xs o with
 | some fs=>⟨o.Kind,o.Name,o.aY,iF fs o.aP fs.length,o.Ending,o.b8,o.Version⟩
 | none=>o
theorem JL (xs:List aD) (o:aA):(DI xs o).aP.length=o.aP.length∧(DI xs o).b8=o.b8∧(DI xs o).Kind=o.Kind:=by
 unfold DI;cases cv xs o with
 | none=>exact ⟨rfl,rfl,rfl⟩
 | some fs=>exact ⟨Bs ..,rfl,rfl⟩
theorem aa3 (xs:List aD) (o:aA):cv xs (DI xs o)=cv xs o:=by
 have h:=JL xs o
 conv=>lhs;unfold cv
 rw [h.1,h.2.2];rfl
theorem Qv {k:Nat} {xs:List aD} {o:aA} (hk:4194304*2≤k) (hx:xs.length≤1048576) (ho:Lh o):yT k xs o=some (DI xs o):=by
 unfold yT DI;rw [JK ho];simp only [Option.bind_some,sa (show 4194304≤k by omega) hx,share];cases hf:cv xs o with
 | none=>rfl
 | some fs=>
  have hl:=(jl hf).1;have ho1:=ho.1;simp only [Option.isSome_some,Option.getD_some,Bool.not_true,cond_false];have h:=Qt (R:=Option aA) (x:=fs) (B:=0) (iF fs o.aP) (l:=fun k vs i=>iter (ts:=yS) (R:=aA) k (rJ (fun (v45:aA) (v46:List UInt8) (v47:List UInt8) (v48:List UInt8) (v49:Bool) (v50:Int) (v51:List (List UInt8)) (v52:List (List UInt8))=>some (⟨v46,v47,v48,v51,v49,v52,v50⟩:aA))) fs i (⟨([]:List UInt8),([]:List UInt8),([]:List UInt8),[],false,[],(0:Int)⟩:aA) o.Kind o.Name o.aY o.Ending o.Version vs o.b8)
   (E:=some ⟨o.Kind,o.Name,o.aY,iF fs o.aP fs.length,o.Ending,o.b8,o.Version⟩)
   (fun k=>by simp only [iter,rJ,cg,cond_false]<;>rfl)
   (fun k i hi _=>by
    have da:i < (iF fs o.aP i).length:=by rw [Bs];omega
    have Um:i < o.aP.length:=by omega
    simp only [iter,rJ,share,cd hi,bO hi,bO da,cond_true,bN,bP hi,bP da,bQ (show fs.length≤1048576 by omega) hi];rw [MB Um];cases hv:seq o.aP[i] [] with
    | true=>
     rw [← MC Um hi];simp only [R_,hv,cond_true]<;>rfl
    | false=>rw [← KF Um hv];rfl) k (by omega)
  rw [Sa] at h;exact h
theorem Un {k:Nat} {xs:List aD} {o:aA} (hk:4194304*5≤k) (hx:k_ aD.sd xs) (ho:Lh o):uj k xs o=some (cond (eM xs) (DI xs o) o):=by
 unfold uj DI;rw [Qu ho];simp only [Option.bind_some,KE o (show 4194304≤k by omega) hx.1,share,xV,bN,xT hx hk];cases hf:cv xs o with
 | none=>cases eM xs<;>rfl
 | some fs=>
  have hl:=(jl hf).1;have ho1:=ho.1;simp only [Option.isSome_some,Option.getD_some,Bool.not_true,cond_false];cases eM xs with
  | false=>rfl
  | true=>
   have h:=Qt (R:=Option aA) (x:=fs) (B:=0) (iF fs o.aP) (l:=fun k vs i=>iter (ts:=v_) (R:=aA) k (og (fun (v72:List UInt8) (v73:List UInt8) (v74:List UInt8) (v75:Bool) (v76:Int) (v77:aA) (v78:List (List UInt8)) (v79:List (List UInt8))=>some (⟨v72,v73,v74,v78,v75,v79,v76⟩:aA))) fs (fs.length:Int) i o.Kind o.Name o.aY o.Ending o.Version (⟨([]:List UInt8),([]:List UInt8),([]:List UInt8),[],false,[],(0:Int)⟩:aA) vs o.b8)
    (E:=some ⟨o.Kind,o.Name,o.aY,iF fs o.aP fs.length,o.Ending,o.b8,o.Version⟩)
    (fun k=>by simp only [iter,og,cg,cond_false]<;>rfl)
    (fun k i hi _=>by
     have da:i < (iF fs o.aP i).length:=by rw [Bs];omega
     have Um:i < o.aP.length:=by omega
     simp only [iter,og,share,cd hi,bO hi,bO da,cond_true,bN,bP hi,bP da,bQ (show fs.length≤1048576 by omega) hi];rw [MB Um];cases hv:seq o.aP[i] [] with
     | true=>
      rw [← MC Um hi];simp only [R_,hv,cond_true]<;>rfl
     | false=>rw [← KF Um hv];rfl) k (by omega)
   rw [Sa] at h;exact h
def wk (fs:List aB):List Nm:=fs.map (·.Name)
def Oj (fs:List aB) (n:Nm):Nat:=(tz (fun f=>seq f.Name n) fs 0).toNat
def my (fs:List aB) (vs:List Nm) (n:Nm):Nm:=vs.getD (Oj fs n) []
theorem KG {fs:List aB} {n:Nm} (h:n∈wk fs):tz (fun f=>seq f.Name n) fs 0=(Oj fs n:Int)∧∃ hj:Oj fs n < fs.length,fs[Oj fs n].Name=n:=by
 unfold Oj;rcases dG (fun f:aB=>seq f.Name n) fs with ⟨h1,h2⟩ | ⟨j,hj,h1,h2,h3⟩
 ·obtain ⟨f,hf,e⟩:=List.mem_map.1 h;have:=List.find?_eq_none.1 h2 f hf;rw [cC.2 e] at this;exact absurd rfl this
 ·rw [h1,Int.toNat_natCast];exact ⟨rfl,hj,cC.1 h3⟩
theorem adg {fs:List aB} {a b:Nm} (ha:a∈wk fs) (hb:b∈wk fs) (h:Oj fs a=Oj fs b):a=b:=by
 obtain ⟨h1,e1⟩:=(KG ha).2;obtain ⟨h2,e2⟩:=(KG hb).2;rw [← e1,← e2];simp only [h]
theorem aeQ {fs:List aB} (hn:(wk fs).Nodup) {i:Nat} (hi:i < fs.length):Oj fs fs[i].Name=i:=by
 have hm:fs[i].Name∈wk fs:=List.mem_map_of_mem (dB hi);obtain ⟨h1,e1⟩:=(KG hm).2;have h2:(wk fs)[Oj fs fs[i].Name]'(by simpa [wk] using h1)=(wk fs)[i]'(by simpa [wk] using hi):=by simpa [wk] using e1
 exact (List.getElem_inj hn).1 h2
theorem aa4 {fs:List aB} {vs:List Nm} {x y v:Nm} (hl:vs.length=fs.length) (hx:x∈wk fs) (hy:y∈wk fs):my fs (vs.set (Oj fs x) v) y=if y=x then v else my fs vs y:=by
 obtain ⟨h1,-⟩:=(KG hx).2;unfold my;by_cases e:y=x
 ·subst e;rw [if_pos rfl];simp [List.getD,show Oj fs y < vs.length by omega]
 ·rw [if_neg e];have:Oj fs x≠Oj fs y:=fun h=>e (adg hy hx h.symm);simp [List.getD,List.getElem?_set,this]
theorem set_self {fs:List aB} {vs:List Nm} {x:Nm} (hl:vs.length=fs.length) (hx:x∈wk fs):vs.set (Oj fs x) (my fs vs x)=vs:=by
 obtain ⟨h1,-⟩:=(KG hx).2;refine List.ext_getElem (by simp) fun j h2 h3=>?_;rw [List.getElem_set];by_cases e:Oj fs x=j
 ·rw [if_pos e];subst e;exact JG h3
 ·rw [if_neg e]
def KH (kind name:Nm) (e:Nm→Nm) (m:aF):Option Nm:=
 cond (seq m.Kind kind&&(seq m.Field name&&(seq m.db []||seq (e m.db) m.Is))) (cond (seq m.cM []) (some m.sq) (cond (seq (e m.cM) []) none (some (e m.cM)))) none
def dec (ms:List aF) (kind:Nm) (e:Nm→Nm) (name:Nm):Option Nm:=first (fun _ m=>KH kind name e m) ms 0
theorem Xh {kind name:Nm} {e e':Nm→Nm} {m:aF} (h:∀ y,y∈nF kind name m→e y=e' y):KH kind name e m=KH kind name e' m:=by
 unfold KH nF at *;cases h1:seq m.Kind kind with
 | false=>rfl
 | true=>
  cases h2:seq m.Field name with
  | false=>rfl
  | true=>
   rw [h1,h2] at h;simp only [Bool.and_self,cond_true,List.mem_append] at h;have hw:(seq m.db []||seq (e m.db) m.Is)=(seq m.db []||seq (e' m.db) m.Is):=by
    cases h3:seq m.db [] with
    | true=>rfl
    | false=>rw [h m.db (.inl (by rw [h3];simp))]
   have hf:(cond (seq m.cM []) (some m.sq) (cond (seq (e m.cM) []) none (some (e m.cM))))=(cond (seq m.cM []) (some m.sq) (cond (seq (e' m.cM) []) none (some (e' m.cM)))):=by
    cases h3:seq m.cM [] with
    | true=>rfl
    | false=>rw [h m.cM (.inr (by rw [h3];simp))]
   rw [hw,hf]
theorem Qw {ms:List aF} {kind name:Nm} {e e':Nm→Nm} (h:∀ y,y∈reads ms kind name→e y=e' y):dec ms kind e name=dec ms kind e' name:=by
 unfold dec;refine Pc ms 0 fun j a ha=>Xh fun y hy=>h y ?_;exact List.mem_flatMap.2 ⟨a,List.mem_of_getElem? ha,hy⟩
def Cu (fs:List aB) (ms:List aF) (kind:Nm) (vs:List Nm) (name:Nm):List Nm:=
 vs.set (Oj fs name) ((dec ms kind (my fs vs) name).getD (my fs vs name))
def DJ (fs:List aB) (ms:List aF) (kind:Nm) (row:List Nm) (vs:List Nm):List Nm:=row.foldl (Cu fs ms kind) vs
theorem EC (fs:List aB) (ms:List aF) (kind:Nm) (vs:List Nm) (name:Nm):(Cu fs ms kind vs name).length=vs.length:=by simp [Cu]
theorem xW (fs:List aB) (ms:List aF) (kind:Nm):∀ (row vs:List Nm),(DJ fs ms kind row vs).length=vs.length
 | [],_=>rfl
 | a::r,vs=>by
  have:=xW fs ms kind r (Cu fs ms kind vs a);rw [EC] at this;exact this
structure Y6 (fs:List aB) (ms:List aF) (kind:Nm) (vs:List Nm) (pre v:List Nm):Prop where
 len:v.length=fs.length
 eq:∀ n,n∈wk fs→my fs v n=if n∈pre then (dec ms kind (my fs v) n).getD (my fs vs n) else my fs vs n
theorem Xi {fs:List aB} {ms:List aF} {kind:Nm} {vs:List Nm} {row:List Nm} (ht:CP (reads ms kind) row) (hs:∀ y,y∈row→y∈wk fs) {pre post v:List Nm} {x:Nm} (e:row=pre++x::post) (h:Y6 fs ms kind vs pre v):Y6 fs ms kind vs (pre++[x]) (Cu fs ms kind v x):=by
 have hx:x∈wk fs:=hs x (by rw [e];simp);have zg:=ht.nd;rw [e] at zg;have hxp:x ∉ pre:=fun hm=>(List.nodup_append.1 zg).2.2 x hm x (by simp) rfl;have Ui:∀ y,y∈pre→y∈wk fs:=fun y hy=>hs y (by rw [e];simp [hy]);have hrx:=ht.rd pre x post e;have hrp:∀ n,n∈pre→∀ y,y∈reads ms kind n→y∈pre:=fun n hn y hy=>by
  obtain ⟨p,q,e'⟩:=List.append_of_mem hn;have:=ht.rd p n (q++x::post) (by rw [e,e'];simp) y hy;rw [e'];simp [this]
 have Uo:∀ y,y∈wk fs→my fs (Cu fs ms kind v x) y=if y=x then (dec ms kind (my fs v) x).getD (my fs v x) else my fs v y:=fun y hy=>aa4 h.len hx hy
 have Pq:∀ y,y∈pre→my fs (Cu fs ms kind v x) y=my fs v y:=fun y hy=>by
  rw [Uo y (Ui y hy),if_neg (show ¬ y=x from fun e2=>by subst e2;exact hxp hy)]
 refine ⟨by rw [EC];exact h.len,fun n hn=>?_⟩;by_cases hnx:n=x
 ·subst hnx;rw [if_pos (by simp),Uo n hn,if_pos rfl,h.eq n hn,if_neg hxp,Qw fun y hy=>Pq y (hrx y hy)]
 ·rw [Uo n hn,if_neg hnx,h.eq n hn];by_cases hp:n∈pre
  ·rw [if_pos hp,if_pos (by simp [hp]),Qw fun y hy=>Pq y (hrp n hp y hy)]
  ·rw [if_neg hp,if_neg (by simp [hp,hnx])]
theorem Pr {fs:List aB} {ms:List aF} {kind:Nm} {vs:List Nm} {row:List Nm} (ht:CP (reads ms kind) row) (hs:∀ y,y∈row→y∈wk fs):∀ (post pre v:List Nm),row=pre++post→Y6 fs ms kind vs pre v→Y6 fs ms kind vs row (DJ fs ms kind post v)
 | [],pre,v,e,h=>by
  rw [List.append_nil] at e;rw [e];exact h
 | x::post,pre,v,e,h=>Pr ht hs post (pre++[x]) (Cu fs ms kind v x) (by rw [e];simp) (Xi ht hs e h)
theorem Sb {fs:List aB} {ms:List aF} {kind:Nm} {vs:List Nm} {row:List Nm} (hl:vs.length=fs.length) (hL:Full (reads ms kind) (wk fs) row):Y6 fs ms kind vs row (DJ fs ms kind row vs):=
 Pr hL.Lg hL.sub row [] vs rfl ⟨hl,fun n _=>by simp⟩
theorem Sc {fs:List aB} {ms:List aF} {kind:Nm} {vs:List Nm} {r1 r2:List Nm} (hn:(wk fs).Nodup) (hl:vs.length=fs.length) (h1:Full (reads ms kind) (wk fs) r1) (h2:Full (reads ms kind) (wk fs) r2):DJ fs ms kind r1 vs=DJ fs ms kind r2 vs:=by
 have i1:=Sb hl h1;have i2:=Sb hl h2;have key:∀ m n,n∈r1→r1.idxOf n < m→my fs (DJ fs ms kind r1 vs) n=my fs (DJ fs ms kind r2 vs) n:=by
  intro m
  induction m with
  | zero=>intro n _ h;omega
  | succ m ih=>
   intro n hm hi;have hN:=h1.sub n hm;rw [i1.eq n hN,i2.eq n hN,if_pos hm,if_pos (h2.all n hN),Qw fun y hy=>ih y (h1.Lg.lt hm hy).1 (by have:=(h1.Lg.lt hm hy).2;omega)]
 refine List.ext_getElem (by rw [xW,xW]) fun i h3 h4=>?_;have hi:i < fs.length:=by rw [xW] at h3;omega
 have hN:fs[i].Name∈wk fs:=List.mem_map_of_mem (dB hi);have:=key _ fs[i].Name (h1.all _ hN) (Nat.lt_succ_self _);unfold my at this;rw [aeQ hn hi,JG h3,JG h4] at this;exact this
theorem Sd {ms:List aF} {s:aD} (h:(u7 ms s).length=s.aW.length):Full (reads ms s.Kind) (names s) (u7 ms s):=by
 obtain ⟨h1,h2⟩:=Pk ms s;refine ⟨h1,fun y hy=>?_,h2⟩;cases hc:DG (u7 ms s) y with
 | true=>exact xU.1 hc
 | false=>
  have hny:y ∉ u7 ms s:=fun hm=>by rw [xU.2 hm] at hc;cases hc
  have h3:(y::u7 ms s).Nodup:=List.nodup_cons.2 ⟨hny,h1.nd⟩;have h4:=h3.length_le_of_subset (l₂:=names s) fun z hz=>by
   rcases List.mem_cons.1 hz with e | e
   ·exact e▸hy
   ·exact h2 z e
  simp only [List.length_cons,names,List.length_map] at h4;omega
theorem F5 {xs:List aD} {ms:List aF} (h:gk xs ms=true) {s:aD} (hs:s∈xs):
  (wk s.aW).Nodup∧s.aW.length≤6∧Full (reads ms s.Kind) (wk s.aW) (u7 ms s)∧(∀ x y,y∈reads ms s.Kind x→y∈wk s.aW)∧ms.length≤12:=by
 simp only [gk,eM,Bool.and_eq_true,List.all_eq_true] at h;obtain ⟨⟨h1,h2,h3⟩,h4,h5,h6⟩:=h;have H3:=h3 s hs;simp only [om,Bool.and_eq_true] at H3;have h7:=h6 s hs;simp only [bI,beq_iff_eq] at h7;refine ⟨(DH H3.2.2).1,by have:=oU H3.1;omega,Sd (by omega),fun x y hy=>?_,by have:=oU h4;omega⟩;obtain ⟨m,hm1,hm2⟩:=List.mem_flatMap.1 hy;exact Po (Pd h2) hs (h5 m hm1) hm2
def KI (xs:List aD) (ms:List aF) (o:aA):aA:=match xs.find? fun s=>seq s.Kind o.Kind with
 | some s=>cond (bI (s.aW.length:Int) (o.aP.length:Int)) ⟨o.Kind,o.Name,o.aY,DJ s.aW ms o.Kind (u7 ms s) o.aP,o.Ending,o.b8,o.Version⟩ o
 | none=>o
def wH (xs:List aD) (ms:List aF) (o:aA):aA:=KI xs ms (DI xs o)
theorem ED {k:Nat} {fs:List aB} {n:Nm} (hk:4194304≤k) (hx:fs.length≤1048576) (h:n∈wk fs):eE k fs n=some (Oj fs n:Int):=by
 rw [JH hk hx,(KG h).1]
theorem Ps {k:Nat} {fs:List aB} {n:Nm} (hk:4194304≤k) (hx:fs.length≤1048576) (h:n∈wk fs):je k fs n=some (Oj fs n:Int):=by
 rw [JI hk hx,(KG h).1]
theorem Pt {fs:List aB} {vs:List Nm} {n:Nm} (hl:vs.length=fs.length) (h:n∈wk fs):bW (Oj fs n:Int) vs.length=true:=bO (by rw [hl];exact (KG h).2.1)
theorem VS (fs:List aB) (vs:List Nm) (n:Nm):nth ([]:List UInt8) vs (Oj fs n:Int)=my fs vs n:=rfl
theorem KJ {kind name:Nm} {m:aF} (h1:seq m.Kind kind=true) (h2:seq m.Field name=true) (h3:seq m.db []=false):m.db∈nF kind name m:=by
 simp [nF,h1,h2,h3]
theorem KK {kind name:Nm} {m:aF} (h1:seq m.Kind kind=true) (h2:seq m.Field name=true) (h3:seq m.cM []=false):m.cM∈nF kind name m:=by
 simp [nF,h1,h2,h3]
theorem mem_reads {ms:List aF} {kind name y:Nm} {i:Nat} (hi:i < ms.length) (h:y∈nF kind name ms[i]):y∈reads ms kind name:=List.mem_flatMap.2 ⟨_,dB hi,h⟩
theorem Se {fs:List aB} {ms:List aF} {o:aA} {name:Nm} (hx:fs.length≤1048576) (hm:ms.length≤1048576) (hl:o.aP.length=fs.length) (hR:∀ y,y∈reads ms o.Kind name→y∈wk fs) (J:List aB→List UInt8→aA→Option (List UInt8)) {k:Nat} (hk:4194304*2≤k):
  iter (ts:=fL) (R:=List UInt8) k (eI J) fs ms name o (0:Int)=opt (dec ms o.Kind (my fs o.aP) name) some (J fs name o):=by
 exact R9 (R:=Option (List UInt8)) (x:=ms) (g:=fun _ m=>KH o.Kind name (my fs o.aP) m) (B:=4194304) (l:=fun k i=>iter (ts:=fL) (R:=List UInt8) k (eI J) fs ms name o i) (E:=J fs name o) (O:=some)
  (fun k=>by simp only [iter,eI,cg,cond_false]<;>rfl)
  (fun k i hi hb=>by
   simp only [iter,eI,share,cd hi,bO hi,cond_true,bN,bP hi,bQ hm hi,KH];cases h1:seq ms[i].Kind o.Kind with
   | false=>rfl
   | true=>
    cases h2:seq ms[i].Field name with
    | false=>rfl
    | true=>
     have hw:=fun h3=>hR _ (mem_reads hi (KJ h1 h2 h3));have hf:=fun h3=>hR _ (mem_reads hi (KK h1 h2 h3));have from_:∀ X:Option (List UInt8),(cond (seq ms[i].cM []) (some ms[i].sq) ((eE k fs ms[i].cM).bind fun v=>bE (bW v o.aP.length) (cond (!seq (nth ([]:List UInt8) o.aP v) []) (some (nth ([]:List UInt8) o.aP v)) X)))
       = opt (cond (seq ms[i].cM []) (some ms[i].sq) (cond (seq (my fs o.aP ms[i].cM) []) none (some (my fs o.aP ms[i].cM)))) some X:=fun X=>by
      cases h3:seq ms[i].cM [] with
      | true=>rfl
      | false=>
       rw [ED hb hx (hf h3)];simp only [Option.bind_some,cond_false,Pt hl (hf h3),bN,VS];cases seq (my fs o.aP ms[i].cM) []<;>rfl
     cases h3:seq ms[i].db [] with
     | true=>
      simp only [Bool.not_true,cond_false,Bool.true_and,Bool.true_or,cond_true];exact from_ (iter (ts:=fL) (R:=List UInt8) k (eI J) fs ms name o ((i+1:Nat):Int))
     | false=>
      rw [ED hb hx (hw h3)];simp only [Option.bind_some,Bool.not_true,Bool.not_false,cond_true,cond_false,Pt hl (hw h3),bN,VS,Bool.true_and,Bool.false_or];cases seq (my fs o.aP ms[i].db) ms[i].Is with
      | false=>rfl
      | true=>exact from_ (iter (ts:=fL) (R:=List UInt8) k (eI J) fs ms name o ((i+1:Nat):Int))) k (by omega)
theorem Sf {k:Nat} {fs:List aB} {ms:List aF} {o:aA} {name:Nm} (hk:4194304*2≤k) (hx:fs.length≤1048576) (hm:ms.length≤1048576) (hl:o.aP.length=fs.length) (hn:name∈wk fs) (hR:∀ y,y∈reads ms o.Kind name→y∈wk fs):
  rK k fs ms o name=some ((dec ms o.Kind (my fs o.aP) name).getD (my fs o.aP name)):=by
 unfold rK;simp only [share];rw [Se hx hm hl hR _ hk];cases dec ms o.Kind (my fs o.aP) name with
 | some c=>rfl
 | none=>
  simp only [ED (show 4194304≤k by omega) hx hn,Option.bind_some,Pt hl hn,bN,VS];rfl
theorem Qx {k:Nat} {xs:List aD} {ms:List aF} {o:aA} (hk:4194304*4≤k) (hx:xs.length≤1048576) (ho:Lh o) (u9:gk xs ms=true):tZ k xs ms o=some (KI xs ms o):=by
 unfold tZ KI;rw [JK ho];simp only [Option.bind_some,sa (show 4194304≤k by omega) hx,share,cv,Ez (show 4194304≤k by omega) hx,EA];rcases dG (fun s:aD=>seq s.Kind o.Kind) xs with ⟨h1,h2⟩ | ⟨j,hj,h1,h2,h3⟩
 ·rw [h1,h2];rfl
 ·rw [h1,h2];simp only;cases he:bI (xs[j].aW.length:Int) (o.aP.length:Int) with
  | false=>rfl
  | true=>
   have hl:o.aP.length=xs[j].aW.length:=by simp only [bI,beq_iff_eq] at he;omega
   obtain ⟨k1,k2,k3,k4,k5⟩:=F5 u9 (dB hj);have Y7:=cC.1 h3;rw [Y7] at k3 k4;have YC:xs[j].aW.length≤1048576:=by omega
   have YA:ms.length≤1048576:=by omega
   simp only [cond_true,Option.isSome_some,Option.getD_some,Bool.not_true,cond_false,bO hj,bN,bP hj,VL hk YA YC,Option.bind_some];have hrl:(u7 ms xs[j]).length≤1048576:=by
    have:=k3.Lg.nd.length_le_of_subset k3.sub;simp only [wk,List.length_map] at this;omega
   exact fm (S:=List Nm) (x:=u7 ms xs[j]) (f:=Cu xs[j].aW ms o.Kind) (B:=4194304*2) (l:=fun k vs i=>iter (ts:=vZ) (R:=aA) k (n6 (fun (v41:aA) (v42:List UInt8) (v43:List UInt8) (v44:List UInt8) (v45:Bool) (v46:Int) (v47:List (List UInt8)) (v48:List (List UInt8))=>some (⟨v42,v43,v44,v47,v45,v48,v46⟩:aA))) ms xs[j].aW (u7 ms xs[j]) i (⟨([]:List UInt8),([]:List UInt8),([]:List UInt8),[],false,[],(0:Int)⟩:aA) o.Kind o.Name o.aY o.Ending o.Version vs o.b8)
    (J:=fun vs=>some ⟨o.Kind,o.Name,o.aY,vs,o.Ending,o.b8,o.Version⟩) (fun _ vs=>vs.length=xs[j].aW.length)
    (fun k vs _=>by simp only [iter,n6,cg,cond_false]<;>rfl)
    (fun k i vs hi hb hI=>⟨by
     have hn:=k3.sub _ (dB hi);have hd:=Sf (o:=⟨o.Kind,o.Name,o.aY,vs,o.Ending,o.b8,o.Version⟩) hb YC YA hI hn (fun y hy=>k4 _ y hy);simp only [iter,n6,cd hi,bO hi,cond_true,bN,bP hi,bQ hrl hi,ED (show 4194304≤k by omega) YC hn,hd,Option.bind_some,Pt hI hn];rfl,by rw [EC];exact hI⟩) k o.aP (by omega) hl
theorem Xj (xs:List aD) (ms:List aF) (o:aA):(KI xs ms o).aP.length=o.aP.length∧(KI xs ms o).b8=o.b8:=by
 unfold KI;cases xs.find? fun s=>seq s.Kind o.Kind with
 | none=>exact ⟨rfl,rfl⟩
 | some s=>
  simp only;cases bI (s.aW.length:Int) (o.aP.length:Int) with
  | false=>exact ⟨rfl,rfl⟩
  | true=>exact ⟨xW ..,rfl⟩
theorem MD {xs:List aD} {o:aA} (h:Lh o):Lh (DI xs o):=by
 have:=JL xs o;exact ⟨by rw [this.1];exact h.1,by rw [this.2.1];exact h.2⟩
theorem Qy {k:Nat} {xs:List aD} {ms:List aF} {o:aA} (hk:4194304*4≤k) (hx:xs.length≤1048576) (ho:Lh o) (u9:gk xs ms=true):t_ k xs ms o=some (wH xs ms o):=by
 unfold t_;rw [Qv (by omega) hx ho,Option.bind_some,Qx hk hx (MD ho) u9];rfl
theorem Bt {k:Nat} {fs:List aB} {n kd nm tm:Nm} {e:Bool} {v:Int} {vs hs:List Nm} (hk:4194304≤k) (hx:fs.length≤1048576) (hl:vs.length=fs.length) (h:n∈wk fs):dK k n kd nm tm e v fs vs hs=some (my fs vs n,kd,nm,tm,e,v,fs,vs,hs):=by
 unfold dK;rw [Ps hk hx h];simp only [Option.bind_some,Pt hl h,bN,VS]
theorem Up {fs:List aB} {ms:List aF} {name kd nm tm:Nm} {e:Bool} {v:Int} {o:aA} {row vs hs:List Nm} {n j:Int} (hx:fs.length≤1048576) (hm:ms.length≤1048576) (hl:vs.length=fs.length) (hn:name∈wk fs) (hR:∀ y,y∈reads ms kd name→y∈wk fs)
  (J:List aF→List (List UInt8)→Int→Int→List UInt8→List UInt8→List UInt8→Bool→Int→aA→List aB→List (List UInt8)→List (List UInt8)→Option aA) {k:Nat} (hk:4194304*2≤k):
  iter (ts:=gX) (R:=aA) k (eW J) ms name row n j ms (ms.length:Int) (0:Int) kd nm tm e v o fs vs hs=J ms row n j kd nm tm e v o fs (Cu fs ms kd vs name) hs:=by
 have h:=R9 (R:=Option aA) (x:=ms) (g:=fun _ m=>KH kd name (my fs vs) m) (B:=4194304) (l:=fun k i=>iter (ts:=gX) (R:=aA) k (eW J) ms name row n j ms (ms.length:Int) i kd nm tm e v o fs vs hs) (E:=J ms row n j kd nm tm e v o fs vs hs) (O:=fun c=>J ms row n j kd nm tm e v o fs (vs.set (Oj fs name) c) hs)
  (fun k=>by simp only [iter,eW,cg,cond_false]<;>rfl)
  (fun k i hi hb=>by
   simp only [iter,eW,share,cd hi,bO hi,cond_true,bN,bP hi,bQ hm hi,KH];cases h1:seq ms[i].Kind kd with
   | false=>rfl
   | true=>
    cases h2:seq ms[i].Field name with
    | false=>rfl
    | true=>
     have hw:=fun h3=>hR _ (mem_reads hi (KJ h1 h2 h3));have hf:=fun h3=>hR _ (mem_reads hi (KK h1 h2 h3));have hp:=Ps hb hx hn;have hib:=Pt hl hn;cases h4:seq ms[i].cM [] with
     | true=>
      cases h3:seq ms[i].db [] with
      | true=>
       simp only [Bool.not_true,cond_false,cond_true,Bool.true_and,Bool.true_or,hp,Option.bind_some,hib,bN];rfl
      | false=>
       simp only [Bool.not_true,Bool.not_false,cond_false,cond_true,Bool.true_and,Bool.false_or,Bt hb hx hl (hw h3),Option.bind_some,xV,bN,hp,hib];cases seq (my fs vs ms[i].db) ms[i].Is<;>rfl
     | false=>
      cases h3:seq ms[i].db [] with
      | true=>
       simp only [Bool.not_true,Bool.not_false,cond_false,cond_true,Bool.true_and,Bool.true_or,Bt hb hx hl (hf h4),Option.bind_some,xV,bN,hp,hib];cases seq (my fs vs ms[i].cM) []<;>rfl
      | false=>
       simp only [Bool.not_true,Bool.not_false,cond_false,cond_true,Bool.true_and,Bool.false_or,Bt hb hx hl (hw h3),Bt hb hx hl (hf h4),Option.bind_some,xV,bN,hp,hib];cases seq (my fs vs ms[i].db) ms[i].Is<;>cases seq (my fs vs ms[i].cM) []<;>rfl) k (by omega)
 refine h.trans ?_;unfold Cu;change opt (dec ms kd (my fs vs) name) (fun c=>J ms row n j kd nm tm e v o fs (vs.set (Oj fs name) c) hs) (J ms row n j kd nm tm e v o fs vs hs)=_;cases dec ms kd (my fs vs) name with
 | some c=>rfl
 | none=>
  simp only [Option.getD_none,opt];rw [set_self hl hn]
theorem Qz {k:Nat} {xs:List aD} {ms:List aF} {o:aA} (hk:4194304*7≤k) (hx:k_ aD.sd xs) (hm:k_ aF.sd ms) (ho:Lh o):pQ k xs ms o=some (cond (gk xs ms) (KI xs ms o) o):=by
 unfold pQ;rw [Qu ho];simp only [Option.bind_some,KE o (show 4194304≤k by omega) hx.1,share,xV,bN,zF hk hx hm];cases u9:gk xs ms with
 | false=>cases (cv xs o).isSome<;>rfl
 | true=>
  simp only [KI,cv,EB (show 4194304≤k by omega) hx.1];rcases dG (fun s:aD=>seq s.Kind o.Kind) xs with ⟨h1,h2⟩ | ⟨j,hj,h1,h2,h3⟩
  ·rw [h1,h2];rfl
  ·rw [h1,h2];simp only;cases he:bI (xs[j].aW.length:Int) (o.aP.length:Int) with
   | false=>rfl
   | true=>
    have hl:o.aP.length=xs[j].aW.length:=by simp only [bI,beq_iff_eq] at he;omega
    obtain ⟨k1,k2,k3,k4,k5⟩:=F5 u9 (dB hj);have Y7:=cC.1 h3;have YC:xs[j].aW.length≤1048576:=by omega
    have YA:ms.length≤1048576:=by omega
    obtain ⟨b,row,r1,r2,r3⟩:=VP (ms:=ms) (s:=xs[j]) YA (fun x _ y hy=>k4 x y hy) (fun x=>by have:=Pp (ms:=ms) (kind:=xs[j].Kind) (x:=x);omega) k2 (show 4194304*5≤k by omega);obtain rfl:b=true:=r3 ⟨_,k3⟩;have hF:=r2 rfl;simp only [cond_true,Option.isSome_some,Option.getD_some,Bool.not_true,cond_false,Option.bind_some,bO hj,bN,bP hj,r1];rw [Y7] at k3 k4 hF;have hrl:row.length≤1048576:=by
     have:=hF.Lg.nd.length_le_of_subset hF.sub;simp only [names,List.length_map] at this;omega
    rw [← Sc k1 hl hF k3];exact fm (S:=List Nm) (x:=row) (f:=Cu xs[j].aW ms o.Kind) (B:=4194304*2) (l:=fun k vs i=>iter (ts:=s6) (R:=aA) k (lH (fun (agA:List UInt8) (agB:List UInt8) (agC:List UInt8) (agD:Bool) (agE:Int) (ah2:aA) (agF:List (List UInt8)) (agG:List (List UInt8))=>some (⟨agA,agB,agC,agF,agD,agG,agE⟩:aA))) ms row (row.length:Int) i o.Kind o.Name o.aY o.Ending o.Version (⟨([]:List UInt8),([]:List UInt8),([]:List UInt8),[],false,[],(0:Int)⟩:aA) xs[j].aW vs o.b8)
     (J:=fun vs=>some ⟨o.Kind,o.Name,o.aY,vs,o.Ending,o.b8,o.Version⟩) (fun _ vs=>vs.length=xs[j].aW.length)
     (fun k vs _=>by simp only [iter,lH,cg,cond_false]<;>rfl)
     (fun k i vs hi hb hI=>⟨by
      simp only [iter,lH,share,cd hi,bO hi,cond_true];have hn:nth ([]:List UInt8) row (i:Int)∈wk xs[j].aW:=by rw [bP hi];exact hF.sub _ (dB hi)
      change iter (ts:=gX) (R:=aA) k (eW _) ms (nth [] row (i:Int)) row (row.length:Int) (i:Int) ms (ms.length:Int) (0:Int) o.Kind o.Name o.aY o.Ending o.Version _ xs[j].aW vs o.b8=_;refine (Up YC YA hI hn (fun y hy=>k4 _ y hy) _ hb).trans ?_;simp only [bP hi];rw [bQ hrl hi],by rw [EC];exact hI⟩) k o.aP (by omega) hl
theorem QA {k:Nat} {xs:List aD} {ms:List aF} {o:aA} (hk:4194304*7≤k) (hx:k_ aD.sd xs) (hm:k_ aF.sd ms) (ho:Lh o):pR k xs ms o=some (cond (gk xs ms) (wH xs ms o) o):=by
 unfold pR;rw [zF hk hx hm,adf ho,Un (by omega) hx ho];cases u9:gk xs ms with
 | false=>rfl
 | true=>
  have hs:eM xs=true:=by
   simp only [gk,Bool.and_eq_true] at u9;exact u9.1
  simp only [Option.bind_some,Bool.not_true,cond_false,hs,cond_true,Qz hk hx hm (MD ho),u9];rfl
theorem zj {a b:Nm} (h:seq a b=true):slt a b=false:=by rw [cC.1 h];exact LC b
def ME (a b:List Nm):Bool:=bI (a.length:Int) (b.length:Int)&&(a.zip b).all fun q=>seq q.1 q.2
theorem EE {α β:Type} {a:List α} {b:List β} (h:a.length≤b.length):(a.zip b).length=a.length:=by simp;omega
theorem Y8 {k:Nat} {a b:List Nm} (hk:4194304≤k) (ha:a.length≤1048576):n7 k a b=some (ME a b):=by
 unfold n7 ME;cases he:bI (a.length:Int) (b.length:Int) with
 | false=>rfl
 | true=>
  have hl:a.length=b.length:=by simp only [bI,beq_iff_eq] at he;omega
  have hz:=EE (a:=a) (b:=b) (by omega);have h:=gI (R:=Option Bool) (x:=a.zip b) (p:=fun q=>seq q.1 q.2) (B:=0) (l:=fun k i=>iter (ts:=rL) (R:=Bool) k (jU (some true)) a b i) (E:=some true) (O:=some false)
   (fun k=>by simp only [hz,iter,jU,cg,cond_false]<;>rfl)
   (fun k i hi _=>by
    rw [hz] at hi;have da:i < b.length:=by omega
    simp only [iter,jU,cd hi,bO hi,bO da,cond_true,bN,bP hi,bP da,bQ ha hi,List.getElem_zip];cases seq a[i] b[i]<;>rfl) k (by omega)
  simp only [Bool.not_true,cond_false,share];refine h.trans ?_;cases (a.zip b).all fun q=>seq q.1 q.2<;>rfl
theorem QB {k:Nat} {a b:List Nm} (hk:4194304≤k) (ha:a.length≤1048576):pS k a b=some (ME a b):=by
 unfold pS ME;cases he:bI (a.length:Int) (b.length:Int) with
 | false=>rfl
 | true=>
  have hl:a.length=b.length:=by simp only [bI,beq_iff_eq] at he;omega
  have hz:=EE (a:=a) (b:=b) (by omega);have h:=gI (R:=Option Bool) (x:=a.zip b) (p:=fun q=>seq q.1 q.2) (B:=0) (l:=fun k i=>iter (ts:=s7) (R:=Bool) k (lI (some true)) a b (a.length:Int) i) (E:=some true) (O:=some false)
   (fun k=>by simp only [hz,iter,lI,cg,cond_false]<;>rfl)
   (fun k i hi _=>by
    rw [hz] at hi;have da:i < b.length:=by omega
    simp only [iter,lI,cd hi,bO hi,bO da,cond_true,bN,bP hi,bP da,bQ ha hi,List.getElem_zip];cases seq a[i] b[i]<;>rfl) k (by omega)
  simp only [Bool.not_true,cond_false,share];refine h.trans ?_;cases (a.zip b).all fun q=>seq q.1 q.2<;>rfl
def qL (a b c d:Nm):Bool:=slt a c||(seq a c&&slt b d)
def Li (a b:Nm):Int:=cond (slt a b) (-1) (cond (!(slt a b||seq a b)) 1 0)
theorem LF (k:Nat) (a b:Nm):p9 k a b=some (Li a b):=by
 unfold p9 Li;cases slt a b<;>cases seq a b<;>rfl
def QC (a b c d:Nm):Int:=cond (!bI (Li a c) 0) (Li a c) (Li b d)
theorem LG (k:Nat) (a b c d:Nm):tn k a b c d=some (QC a b c d):=by
 unfold tn QC;rw [LF,LF];simp only [Option.bind_some];cases bI (Li a c) 0<;>rfl
theorem QD (a b c d:Nm):b6 0 (QC a b c d)=!qL a b c d:=by
 unfold QC qL Li;cases h1:slt a c<;>cases h2:seq a c<;>cases h3:slt b d<;>cases h4:seq b d<;>rfl
def atO (b:aI) (kind name:Nm):Int:=tz (fun o=>seq o.Kind kind&&seq o.Name name) b.aO 0
theorem adh {k:Nat} {b:aI} {kind name:Nm} (hk:4194304≤k) (hb:b.aO.length≤1048576):Ex k b kind name=some (atO b kind name):=by
 unfold Ex;simp only [share];exact mr (x:=b.aO) (p:=fun o=>seq o.Kind kind&&seq o.Name name) (l:=fun k i=>iter (ts:=Cd) (R:=Int) k (wC (some (-1))) kind name b i)
  (fun k=>by simp only [iter,wC,cg,cond_false]<;>rfl)
  (fun k i hi=>by
   simp only [iter,wC,share,cd hi,bO hi,cond_true,bN,bP hi,bQ hb hi];cases seq b.aO[i].Kind kind<;>rfl) k (by omega)
theorem adi {k:Nat} {b:aI} {kind name:Nm} (hk:4194304≤k) (hb:b.aO.length≤1048576):lJ k b kind name=some (atO b kind name):=by
 unfold lJ;simp only [share];exact mr (x:=b.aO) (p:=fun o=>seq o.Kind kind&&seq o.Name name) (l:=fun k i=>iter (ts:=pf) (R:=Int) k (iw (some (-1))) kind name b.aO (b.aO.length:Int) i)
  (fun k=>by simp only [iter,iw,cg,cond_false]<;>rfl)
  (fun k i hi=>by
   simp only [iter,iw,share,cd hi,bO hi,cond_true,bN,bP hi,bQ hb hi];cases seq b.aO[i].Kind kind<;>rfl) k (by omega)
def Sg (b:aI) (q:aB×Nm):Bool:=!(bI q.1.Kind 4&&(!seq q.2 []&&bM (atO b q.1.To q.2) 0))
def EF (b:aI) (fs:List aB) (vs:List Nm):Bool:=(fs.zip vs).all (Sg b)
theorem Sh {w:aT} {b:aI} {n:Int} {fs:List aB} {o:aA} (hb:b.aO.length≤1048576) (hl:fs.length≤o.aP.length) (hv:o.aP.length≤1048576) (J:aT→aI→Int→Option Bool) {k:Nat} (hk:4194304*2≤k):
  iter (ts:=gg) (R:=Bool) k (ef J) w b n fs (0:Int) o=cond (EF b fs o.aP) (J w b n) (some false):=by
 have hz:=EE hl;exact gI (R:=Option Bool) (x:=fs.zip o.aP) (p:=Sg b) (B:=4194304) (l:=fun k i=>iter (ts:=gg) (R:=Bool) k (ef J) w b n fs i o) (E:=J w b n) (O:=some false)
  (fun k=>by simp only [hz,iter,ef,cg,cond_false]<;>rfl)
  (fun k i hi ck=>by
   rw [hz] at hi;have da:i < o.aP.length:=by omega
   simp only [iter,ef,share,cd hi,bO hi,bO da,cond_true,bN,bP hi,bP da,bQ (show fs.length≤1048576 by omega) hi,adh ck hb,Option.bind_some,List.getElem_zip,Sg];cases bI fs[i].Kind 4 with
   | false=>rfl
   | true=>
    cases seq o.aP[i] [] with
    | true=>rfl
    | false=>cases bM (atO b fs[i].To o.aP[i]) 0<;>rfl) k (by rw [hz];omega)
def Bu:List (aB×Nm)→Nat→List (Int×(aB×Unit))
 | [],_=>[]
 | q::r,i=>cond (bI q.1.Kind 4&&!seq q.2 []) (((i:Int),q.1,())::Bu r (i+1)) (Bu r (i+1))
theorem aa5 {fs:List aB} {o:aA} (hl:fs.length≤o.aP.length) (hv:o.aP.length≤1048576):∀ m i k,i+m=fs.length→m+1≤k→
  iter (ts:=uY) (R:=List (Int×(aB×Unit))) k mX o fs (fs.length:Int) (i:Int)=some (Bu ((fs.zip o.aP).drop i) i):=by
 have hz:=EE hl;intro m
 induction m with
 | zero=>
  intro i k h1 h2;obtain rfl:i=fs.length:=by omega
  obtain ⟨k,rfl⟩:∃ j,k=j+1:=⟨k-1,by omega⟩;rw [List.drop_of_length_le (by omega)];simp only [iter,mX,cg,cond_false,Bu]<;>rfl
 | succ m ih=>
  intro i k h1 h2;obtain ⟨k,rfl⟩:∃ j,k=j+1:=⟨k-1,by omega⟩;have hi:i < fs.length:=by omega
  have da:i < o.aP.length:=by omega
  rw [List.drop_eq_getElem_cons (show i < (fs.zip o.aP).length by omega),List.getElem_zip];have ih':=ih (i+1) k (by omega) (by omega);simp only [iter,mX,cd hi,bO hi,bO da,cond_true,bN,bP hi,bP da,bQ (show fs.length≤1048576 by omega) hi,ih',Bu];cases bI fs[i].Kind 4<;>cases seq o.aP[i] []<;>rfl
theorem aa6 {k:Nat} {w:aT} {o:aA} (hk:4194304≤k) (hw:w.cf.length≤1048576) (hv:o.aP.length≤1048576):kP k w o=some (Bu (((cv w.cf o).getD []).zip o.aP) 0):=by
 unfold kP;rw [wF hk hw];simp only [Option.bind_some];cases hf:cv w.cf o with
 | none=>rfl
 | some fs=>
  have hl:=(jl hf).1;have h:=aa5 (fs:=fs) (o:=o) (by omega) hv fs.length 0 k (by omega) (by omega);rw [List.drop_zero] at h;exact h
theorem KL {b:aI} {w:aT} {os:List aA} {n j:Int} {e:Bool} {o:aA} {k:Nat} (hk:4194304≤k) (hb:b.aO.length≤1048576) (D:aI→aT→List aA→Int→Int→Bool→aA→Option Bool):∀ (z:List (aB×Nm)) (i:Nat),(∀ t (h:t < z.length),∃ h':i+t < o.aP.length,o.aP[i+t]=z[t].2)→
  HD (ts:=c9) (R:=Bool) (cN k) D (Bu z i) b w os n j e o=cond (z.all (Sg b)) (D b w os n j e o) (some false)
 | [],_,_=>rfl
 | q::r,i,h=>by
  have ih:=KL (o:=o) (b:=b) (w:=w) (os:=os) (n:=n) (j:=j) (e:=e) hk hb D r (i+1) fun t ht=>by
   obtain ⟨h1,h2⟩:=h (t+1) (by simpa using ht);exact ⟨by omega,by simpa [show i+1+t=i+(t+1) by omega] using h2⟩
  obtain ⟨h1,h2⟩:=h 0 (by simp);simp only [Nat.add_zero,List.getElem_cons_zero] at h1 h2;simp only [Bu,List.all_cons];have hq:Sg b q=!(bI q.1.Kind 4&&(!seq q.2 []&&bM (atO b q.1.To q.2) 0)):=rfl;rw [hq];cases c1:bI q.1.Kind 4 with
  | false=>exact ih
  | true=>
   cases c2:seq q.2 [] with
   | true=>exact ih
   | false=>
    simp only [Bool.not_false,Bool.and_self,cond_true,Bool.true_and];change cN k ((i:Int),q.1,()) (HD (ts:=c9) (R:=Bool) (cN k) D (Bu r (i+1))) b w os n j e o=_;unfold cN;simp only [bO h1,bN,bP h1,h2,adi hk hb,Option.bind_some];cases bM (atO b q.1.To q.2) 0 with
    | true=>rfl
    | false=>exact ih
end Go.Proofs.YtjkbbdldmdajkaaGreatDoor.Pu
