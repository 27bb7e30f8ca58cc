/- Plain words and laws. No condition. -/
import Derived.Test.YtljfmaaadnoggaaGreatDoorMw1
set_option linter.unusedSimpArgs false
set_option linter.unusedVariables false
namespace Go.Proofs.YtljfmaaadnoggaaGreatDoor.Pu
open Go Go.RowKit Go.Proofs.YtljfmaaadnoggaaGreatDoor.cU Go.Proofs.YtljfmaaadnoggaaGreatDoor.Fn
theorem R9 (a b:Int):bM a b=bM b a:=by
 rw [Bool.eq_iff_iff];simp only [bM,beq_iff_eq];exact eq_comm
theorem Eo (to:List UInt8):∀ (xs:List aC) (i:Nat),Qs to xs i=xB (fun s=>seq s.Kind to) xs i
 | [],_=>rfl
 | s::r,i=>by simp only [Qs,xB,Eo to r]
theorem Ep {k:Nat} {xs:List aC} {n:List UInt8} (hk:4194304≤k) (hx:xs.length≤1048576):gj k xs n=some (xB (fun s=>seq s.Kind n) xs 0):=by
 unfold gj
 simp only [share]
 exact pX (x:=xs) (p:=fun s=>seq s.Kind n) (l:=fun k i=>iter (ts:=xf) (R:=Int) k (oY (some (-1))) n xs (xs.length:Int) i)
  (fun k=>by simp only [iter,oY,cm,cond_false]<;>rfl)
  (fun k i hi=>by simp only [iter,oY,cf hi,bI hi,cond_true,bL,bJ hi,bO hx hi]<;>rfl) k (by omega)
def ct (xs:List aC) (o:aA):Option (List aB):=match xs.find? fun s=>seq s.Kind o.Kind with
 | some s=>cond (bM (s.aT.length:Int) (o.aN.length:Int)) (some s.aT) none
 | none=>none
theorem iL {xs:List aC} {o:aA} {fs:List aB} (h:ct xs o=some fs):fs.length=o.aN.length∧∃ s,s∈xs∧s.aT=fs:=by
 unfold ct at h
 cases hf:xs.find? fun s=>seq s.Kind o.Kind with
 | none=>rw [hf] at h;cases h
 | some s=>
  rw [hf] at h
  simp only at h
  cases he:bM (s.aT.length:Int) (o.aN.length:Int) with
  | false=>rw [he] at h;cases h
  | true=>
   rw [he] at h
   cases h
   simp only [bM,beq_iff_eq] at he
   exact ⟨by omega,s,List.mem_of_find?_eq_some hf,rfl⟩
theorem ny {k:Nat} {xs:List aC} {o:aA} (hk:4194304≤k) (hx:xs.length≤1048576):ff k xs o=some ((ct xs o).getD [],(ct xs o).isSome):=by
 unfold ff ct
 rw [En hk hx,Eo]
 simp only [share,Option.bind_some]
 rcases eZ (fun s:aC=>seq s.Kind o.Kind) xs with ⟨h1,h2⟩ | ⟨j,hj,h1,h2,_⟩
 ·rw [h1,h2];rfl
 ·rw [h1,h2,fq (by omega),bI hj,bJ hj]
  simp only
  cases bM (xs[j].aT.length:Int) (o.aN.length:Int)<;>rfl
theorem v9 {k:Nat} {xs:List aC} {o:aA} (hk:4194304≤k) (hx:xs.length≤1048576):gz k xs o=some ((ct xs o).getD [],(ct xs o).isSome):=by
 unfold gz ct
 rw [Ep hk hx]
 simp only [share,Option.bind_some]
 rcases eZ (fun s:aC=>seq s.Kind o.Kind) xs with ⟨h1,h2⟩ | ⟨j,hj,h1,h2,_⟩
 ·rw [h1,h2];rfl
 ·rw [h1,h2,fq (by omega),bI hj,bJ hj,R9 (o.aN.length:Int)]
  simp only
  cases bM (xs[j].aT.length:Int) (o.aN.length:Int)<;>rfl
def MF (xs:List aC) (o:aA):Bool:=(ct xs o).isSome&&(cD o.Name&&(cD o.aX&&(b_ (o.b6.length:Int) 3&&(pv o.b6&&(b_ 0 o.Version&&b_ o.Version 1000000)))))
def MG (vs:List (List UInt8)) (i:Nat) (f:aB):Option (Int×Int):=
 cond (seq (vs.getD i []) []) (cond f.cN (some (2,(i:Int))) none) (cond (fits f (vs.getD i [])) none (some (3,(i:Int))))
def Qt (xs:List aC) (o:aA):Int×Int:=
 cond (eh xs&&MF xs o) ((first (MG o.aN) ((ct xs o).getD []) 0).getD (0,0)) (1,0)
theorem JT {α:Type} {d:α} {x:List α} {i:Nat} (h:i < x.length):x.getD i d=x[i]:=by simp [List.getD,h]
theorem MH {k:Nat} {o:aA} {fs:List aB} (hk:4194304*2≤k) (ho:o.sd) (hl:fs.length=o.aN.length) (hf:∀ f,f∈fs→f.Words.length≤1048576):
  iter (ts:=ky) (R:=Int×Int) k (hY (some (0,0))) o fs (0:Int)=some ((first (MG o.aN) fs 0).getD (0,0)):=by
 have hv:=ho.2.2.2.1
 have h:=GI (R:=Option (Int×Int)) (x:=fs) (g:=MG o.aN) (B:=4194304) (l:=fun k i=>iter (ts:=ky) (R:=Int×Int) k (hY (some (0,0))) o fs i) (E:=some (0,0)) (O:=fun c=>some c)
  (fun k=>by simp only [iter,hY,cm,cond_false]<;>rfl)
  (fun k i hi hb=>by
   have c8:i < o.aN.length:=by omega
   have hh:=hv.1
   simp only [iter,hY,share,cf hi,bI hi,bI c8,cond_true,bL,bJ hi,bJ c8,bO (n:=fs.length) (by omega) hi,GJ hb (hf _ (dk hi)) (hv.2 _ (dk c8)),Option.bind_some,MG,JT c8]
   cases seq o.aN[i] []<;>cases fs[i].cN<;>cases fits fs[i] o.aN[i]<;>rfl) k (by have:=hv.1;omega)
 refine h.trans ?_
 cases first (MG o.aN) fs 0<;>rfl
def v_ (xs:List aC) (o:aA):Int×Int:=
 cond (MF xs o) ((first (MG o.aN) ((ct xs o).getD []) 0).getD (0,0)) (1,0)
theorem OC {k:Nat} {xs:List aC} {o:aA} (hk:4194304*4≤k) (hx:jt aC.sd xs) (ho:o.sd):vV k xs o=some (v_ xs o):=by
 have Jl:=ho
 obtain ⟨h1,h2,h3,h4,-,h5,-⟩:=ho
 unfold vV v_ MF
 simp only [share,ny (show 4194304≤k by omega) hx.1,eg (show 4194304≤k by omega) h2,eg (show 4194304≤k by omega) h3,FW (show 8388608≤k by omega) h5,Mw,Option.bind_some,cJ]
 cases hf:ct xs o with
 | none=>rfl
 | some fs=>
  obtain ⟨e1,s,e2,e3⟩:=iL hf
  have go:=MH (k:=k) (by omega) Jl e1 (fun f hfm=>by
   have:=((hx.2 s e2).2.2 f (by rw [e3];exact hfm)).2.2.2.2.1
   exact this.1)
  simp only [Option.isSome_some,Option.getD_some]
  cases cD o.Name<;>cases cD o.aX<;>cases b_ (o.b6.length:Int) 3<;>cases pv o.b6<;>cases b_ 0 o.Version&&b_ o.Version 1000000<;>first | rfl | (refine (show _=((iter (ts:=ky) (R:=Int×Int) k (hY (some (0,0))) o fs (0:Int)).bind fun v5=>some (v5.1,v5.2)) from rfl).trans ?_;rw [go];rfl) | exact go
theorem afG (k:Nat) (f:cV):zR k f=some (f.code,f.place):=rfl
def ad8:Option (Int×Int)→Unit ⊕ (cV ⊕ cV)
 | none=>.inl ()
 | some (c,p)=>.inr (.inl ⟨c,p⟩)
theorem Ib {k:Nat} {xs:List aC} {o:aA} {fs:List aB} (hk:4194304*2≤k) (hx:jt aC.sd xs) (ho:o.sd) (hf:ct xs o=some fs):ns k xs o=some (ad8 (first (MG o.aN) fs 0)):=by
 obtain ⟨hl,s,e2,e3⟩:=iL hf
 have hv:=ho.2.2.2.1
 unfold ns
 rw [v9 (by omega) hx.1,hf]
 have h:=GI (R:=Option (Unit ⊕ (cV ⊕ cV))) (x:=fs) (g:=MG o.aN) (B:=4194304) (l:=fun k i=>iter (ts:=q8) (R:=Unit ⊕ (cV ⊕ cV)) k (js (some (.inl ()))) o fs (fs.length:Int) i) (E:=some (.inl ())) (O:=fun c=>some (.inr (.inl ⟨c.1,c.2⟩)))
  (fun k=>by simp only [iter,js,cm,cond_false]<;>rfl)
  (fun k i hi hb=>by
   have c8:i < o.aN.length:=by omega
   have hh:=hv.1
   have hw:fs[i].Words.length≤1048576:=((hx.2 s e2).2.2 fs[i] (by rw [e3];exact dk hi)).2.2.2.2.1.1
   simp only [iter,js,share,cf hi,bI hi,bI c8,cond_true,bL,bJ hi,bJ c8,sI hb hw (hv.2 _ (dk c8)),Option.bind_some,MG,JT c8]
   rw [bO (n:=fs.length) (by omega) hi]
   cases seq o.aN[i] []<;>cases fs[i].cN<;>cases fits fs[i] o.aN[i]<;>rfl) k (by have:=hv.1;omega)
 simp only [share,Option.bind_some,Option.getD_some]
 refine h.trans ?_
 cases first (MG o.aN) fs 0<;>rfl
theorem LB {k:Nat} {xs:List aC} {o:aA} (hk:4194304*5≤k) (hx:jt aC.sd xs) (ho:o.sd):q9 k xs o=some (cond (eh xs&&MF xs o) (.inr ()) (.inl ⟨1,0⟩)):=by
 obtain ⟨h1,h2,h3,h4,-,h5,-⟩:=ho
 unfold q9 MF
 simp only [share,xC hx hk,v9 (show 4194304≤k by omega) hx.1,gg (show 4194304≤k by omega) h2,gg (show 4194304≤k by omega) h3,sJ (show 8388608≤k by omega) h5,Option.bind_some,cJ]
 cases (ct xs o).isSome<;>cases eh xs<;>cases cD o.Name<;>cases cD o.aX<;>cases b_ (o.b6.length:Int) 3<;>cases pv o.b6<;>cases b_ 0 o.Version<;>cases b_ o.Version 1000000<;>rfl
theorem R_ {k:Nat} {xs:List aC} {o:aA} (hk:4194304*6≤k) (hx:jt aC.sd xs) (ho:o.sd):p5 k xs o=some (Qt xs o):=by
 obtain ⟨k,rfl⟩:∃ q,k=q+3:=⟨k-3,by omega⟩
 unfold p5 Qt
 simp only [share,iter,yN]
 rw [show bN 0 2=true from rfl,show bM 0 0=true from rfl]
 simp only [cond_true,LB (show 4194304*5≤k+2 by omega) hx ho,Option.bind_some]
 cases hs:eh xs&&MF xs o with
 | false=>rfl
 | true=>
  simp only [cond_true,acA]
  rw [show aQ .i64 0 1=1 from rfl,show bN 1 2=true from rfl,show bM 1 0=false from rfl,show bM 1 1=true from rfl]
  cases hf:ct xs o with
  | none=>simp [MF,hf] at hs
  | some fs=>
   simp only [cond_true,cond_false,Ib (show 4194304*2≤k+1 by omega) hx ho hf,Option.bind_some,Option.getD_some]
   cases hb:first (MG o.aN) fs 0 with
   | none=>rfl
   | some c=>rfl
theorem JU {k:Nat} {fs:List aB} {n:List UInt8} (hk:4194304≤k) (hx:fs.length≤1048576):dZ k fs n=some (xB (fun f=>seq f.Name n) fs 0):=by
 unfold dZ
 simp only [share]
 exact pX (x:=fs) (p:=fun f=>seq f.Name n) (l:=fun k i=>iter (ts:=wX) (R:=Int) k (oQ (some (-1))) fs n i)
  (fun k=>by simp only [iter,oQ,cm,cond_false]<;>rfl)
  (fun k i hi=>by simp only [iter,oQ,cf hi,bI hi,cond_true,bL,bJ hi,bO hx hi]<;>rfl) k (by omega)
theorem JV {k:Nat} {fs:List aB} {n:List UInt8} (hk:4194304≤k) (hx:fs.length≤1048576):fc k fs n=some (xB (fun f=>seq f.Name n) fs 0):=by
 unfold fc
 simp only [share]
 exact pX (x:=fs) (p:=fun f=>seq f.Name n) (l:=fun k i=>iter (ts:=xg) (R:=Int) k (oZ (some (-1))) n fs (fs.length:Int) i)
  (fun k=>by simp only [iter,oZ,cm,cond_false]<;>rfl)
  (fun k i hi=>by simp only [iter,oZ,cf hi,bI hi,cond_true,bL,bJ hi,bO hx hi]<;>rfl) k (by omega)
def GK (fs:List aB) (n:List UInt8):Option aB:=fs.find? fun f=>seq f.Name n
def my (fs:List aB) (n:List UInt8):Bool:=match GK fs n with
 | some f=>!bM f.Kind 4
 | none=>false
theorem WX {k:Nat} {fs:List aB} {n:List UInt8} (hk:4194304≤k) (hx:fs.length≤1048576):kx k fs n=some (my fs n):=by
 unfold kx
 rw [JU hk hx]
 simp only [Option.bind_some,my,GK]
 rcases eZ (fun f:aB=>seq f.Name n) fs with ⟨h1,h2⟩ | ⟨j,hj,h1,h2,_⟩
 ·rw [h1,h2];rfl
 ·rw [h1,h2,FU (by omega),bI hj,bJ hj];rfl
theorem WY {k:Nat} {fs:List aB} {n:List UInt8} (hk:4194304≤k) (hx:fs.length≤1048576):iT k n fs=some (my fs n,fs):=by
 unfold iT
 rw [JV hk hx]
 simp only [Option.bind_some,my,GK]
 rcases eZ (fun f:aB=>seq f.Name n) fs with ⟨h1,h2⟩ | ⟨j,hj,h1,h2,_⟩
 ·rw [h1,h2];rfl
 ·rw [h1,h2,FU (by omega),bI hj,bJ hj];rfl
def Sa (fs:List aB) (n v:List UInt8):Bool:=match GK fs n with
 | some f=>fits f v
 | none=>false
def JW (fs:List aB) (m:aD):Bool:=
 my fs m.Field&&((seq m.cT []||my fs m.cT)&&((seq m.cA []||my fs m.cA)&&(!seq m.cT m.Field&&(!seq m.cA m.Field&&((!seq m.cT []||seq m.Is [])&&(!cU.beq (seq m.rN []) (seq m.cA [])&&(seq m.rN []||Sa fs m.Field m.rN)))))))
def mz (xs:List aC) (m:aD):Bool:=match xs.find? fun s=>seq s.Kind m.Kind with
 | some s=>JW s.aT m
 | none=>false
theorem KU {fs:List aB} {n:List UInt8} (h:my fs n=true):∃ j,∃ hj:j < fs.length,xB (fun f=>seq f.Name n) fs 0=(j:Int)∧GK fs n=some fs[j]:=by
 unfold my GK at *
 rcases eZ (fun f:aB=>seq f.Name n) fs with ⟨h1,h2⟩ | ⟨j,hj,h1,h2,_⟩
 ·rw [h2] at h;cases h
 ·exact ⟨j,hj,h1,h2⟩
theorem T_ {k:Nat} {xs:List aC} {m:aD} (hk:4194304≤k) (hx:jt aC.sd xs) (hm:m.sd):s8 k xs m=some (mz xs m):=by
 unfold s8 mz
 rw [En hk hx.1,Eo]
 simp only [Option.bind_some]
 rcases eZ (fun s:aC=>seq s.Kind m.Kind) xs with ⟨h1,h2⟩ | ⟨j,hj,h1,h2,_⟩
 ·rw [h1,h2];rfl
 ·have hs:=hx.2 _ (dk hj)
  obtain ⟨-,m2,m3,m4,m5,m6⟩:=hm
  rw [h1,h2,fq (by omega),bI hj,bJ hj]
  simp only [cond_false,bL,share,WX hk hs.2.1,Option.bind_some,JW]
  generalize hF:xs[j].aT=fs at *
  cases hp:my fs m.Field with
  | false=>rfl
  | true=>
   obtain ⟨q,hq,q1,q2⟩:=KU hp
   have acD:Sa fs m.Field m.rN=fits fs[q] m.rN:=by unfold Sa;rw [q2]
   rw [JU hk (by rw [← hF];exact hs.2.1),q1,acD]
   simp only [Option.bind_some,bI hq,bL,bJ hq]
   rw [GJ hk (by subst hF;exact (hs.2.2 _ (dk hq)).2.2.2.2.1.1) m5]
   cases seq m.cT []<;>cases my fs m.cT<;>cases seq m.cA []<;>cases my fs m.cA<;>cases seq m.cT m.Field<;>cases seq m.cA m.Field<;>cases seq m.Is []<;>cases seq m.rN []<;>rfl
theorem Ua {k:Nat} {fs:List aB} {m:aD} (hk:4194304≤k) (hx:jt aB.sd fs) (hm:m.sd):yL k fs m=some (JW fs m):=by
 unfold yL
 obtain ⟨-,m2,m3,m4,m5,m6⟩:=hm
 simp only [share,WY hk hx.1,Option.bind_some,JW]
 cases hp:my fs m.Field with
 | false=>rfl
 | true=>
  obtain ⟨q,hq,q1,q2⟩:=KU hp
  have acD:Sa fs m.Field m.rN=fits fs[q] m.rN:=by unfold Sa;rw [q2]
  rw [JV hk hx.1,q1,acD]
  simp only [Option.bind_some,bI hq,bL,bJ hq]
  rw [sI hk (hx.2 _ (dk hq)).2.2.2.2.1.1 m5]
  cases seq m.cT []<;>cases my fs m.cT<;>cases seq m.cA []<;>cases my fs m.cA<;>cases seq m.cT m.Field<;>cases seq m.cA m.Field<;>cases seq m.Is []<;>cases seq m.rN []<;>rfl
def mB (kind name:Nm) (m:aD):List Nm:=cond (seq m.Kind kind&&seq m.Field name) ((cond (seq m.cT []) [] [m.cT])++(cond (seq m.cA []) [] [m.cA])) []
def reads (ms:List aD) (kind name:Nm):List Nm:=ms.flatMap (mB kind name)
theorem MI {α β:Type} (g:α→List β):∀ (l:List α) (a:List β),l.foldl (fun acc m=>acc++g m) a=a++l.flatMap g
 | [],a=>by simp
 | m::r,a=>by rw [List.foldl_cons,MI g r];simp
theorem MJ (kind name:Nm) (m:aD):(mB kind name m).length≤2:=by
 unfold mB
 cases seq m.Kind kind&&seq m.Field name<;>cases seq m.cT []<;>cases seq m.cA []<;>simp
theorem YG {k:Nat} {name:Nm} {ms:List aD} {s:aC} (hk:4194304≤k) (hm:ms.length≤1048576):v8 k name ms s=some (reads ms s.Kind name,ms,s):=by
 unfold v8
 simp only [share]
 have h:=fL (S:=List Nm) (x:=ms) (f:=fun acc m=>acc++mB s.Kind name m) (B:=0)
  (l:=fun k acc i=>iter (ts:=xh) (R:=(List (List UInt8))×(List aD)×aC) k (o4 fun v61 v62 v63=>some (v63,v61,v62)) name ms (ms.length:Int) i ms s acc) (J:=fun acc=>some (acc,ms,s)) (fun i acc=>acc.length≤2*i)
  (fun k acc _=>by simp only [iter,o4,cm,cond_false]<;>rfl)
  (fun k i acc hi _ hI=>⟨by
   simp only [iter,o4,share,cf hi,bI hi,cond_true,bL,bJ hi,bO hm hi,mB]
   rw [sH (by simp;omega) (by omega),sH (by simp;omega) (by omega),sH (by simp;omega) (by omega)]
   cases seq ms[i].Kind s.Kind<;>cases seq ms[i].Field name<;>cases seq ms[i].cT []<;>cases seq ms[i].cA []<;>simp [bL]<;>rfl,by
   have:=MJ s.Kind name ms[i]
   simp only [List.length_append];omega⟩) k [] (by omega) (by simp)
 refine h.trans ?_
 rw [MI];rfl
def A5 (row:List Nm) (y:Nm):Bool:=row.any fun z=>seq z y
theorem xD {row:List Nm} {y:Nm}:A5 row y=true↔y∈row:=by
 simp only [A5,List.any_eq_true,dQ]
 exact ⟨fun ⟨z,h1,h2⟩=>h2▸h1,fun h=>⟨y,h,rfl⟩⟩
def MK (ms:List aD) (kind name:Nm) (row:List Nm):Bool:=(reads ms kind name).all (A5 row)
theorem Pl {k:Nat} {ms:List aD} {kind name:Nm} {row:List Nm} (hk:8388608≤k) (hm:ms.length≤1048576) (hr:row.length≤1048576):qH k ms kind name row=some (MK ms kind name row):=by
 unfold qH
 simp only [share]
 have h:=gf (x:=ms) (p:=fun m=>(mB kind name m).all (A5 row)) (B:=4194304) (l:=fun k i=>iter (ts:=wY) (R:=Bool) k (oR (some true)) ms kind name row i) (E:=some true) (O:=some false)
  (fun k=>by simp only [iter,oR,cm,cond_false]<;>rfl)
  (fun k i hi hb=>by
   simp only [iter,oR,share,cf hi,bI hi,cond_true,bL,bJ hi,bO hm hi,LU hb hr,Option.bind_some,mB]
   have e1:(row.any fun y=>seq y ms[i].cT)=A5 row ms[i].cT:=rfl
   have e2:(row.any fun y=>seq y ms[i].cA)=A5 row ms[i].cA:=rfl
   rw [e1,e2]
   cases seq ms[i].Kind kind<;>cases seq ms[i].Field name<;>cases seq ms[i].cT []<;>cases seq ms[i].cA []<;>cases hw:A5 row ms[i].cT<;>cases hf:A5 row ms[i].cA<;>simp [hw,hf]<;>rfl) k (by omega)
 refine h.trans ?_
 unfold MK reads
 rw [List.all_flatMap]
 cases ms.all fun a=>(mB kind name a).all (A5 row)<;>rfl
def B6 (ms:List aD) (s:aC) (row:List Nm) (f:aB):Bool:=!A5 row f.Name&&MK ms s.Kind f.Name row
def xE (ms:List aD) (s:aC) (row:List Nm):List Nm:=match s.aT.find? (B6 ms s row) with
 | some f=>row++[f.Name]
 | none=>row
def sK (ms:List aD) (s:aC):List Nm:=s.aT.foldl (fun row _=>xE ms s row) []
theorem Pm (ms:List aD) (s:aC) (row:List Nm):(xE ms s row).length≤row.length+1:=by
 unfold xE
 split<;>simp
theorem aaE {k:Nat} {ms:List aD} {s:aC} (hk:4194304*4≤k) (hm:ms.length≤1048576) (hs:s.aT.length≤1048576):AN k s ms=some (sK ms s):=by
 unfold AN
 simp only [share]
 have inner:∀ (J:List aD→aC→Int→List Nm→Option (List Nm)) (n:Int) (row:List Nm) (k:Nat),4194304*3≤k→row.length≤1048576→
   iter (ts:=sB) (R:=List (List UInt8)) k (ou J) ms s n (0:Int) row=J ms s n (xE ms s row):=by
  intro J n row k hk hr
  have h:=El (x:=s.aT) (p:=B6 ms s row) (B:=8388608) (l:=fun k i=>iter (ts:=sB) (R:=List (List UInt8)) k (ou J) ms s n i row) (E:=J ms s n row) (O:=fun f=>J ms s n (row++[f.Name]))
   (fun k=>by simp only [iter,ou,cm,cond_false]<;>rfl)
   (fun k i hi hb=>by
    simp only [iter,ou,share,cf hi,bI hi,cond_true,bL,bJ hi,bO hs hi,LU (show 4194304≤k by omega) hr,Pl hb hm hr,Option.bind_some,B6]
    rw [sH (by simp;omega) (by omega)]
    have e1:(row.any fun y=>seq y s.aT[i].Name)=A5 row s.aT[i].Name:=rfl
    rw [e1]
    cases A5 row s.aT[i].Name<;>cases MK ms s.Kind s.aT[i].Name row<;>rfl) k (by omega)
  refine h.trans ?_
  unfold xE
  cases s.aT.find? (B6 ms s row)<;>rfl
 have h:=fL (S:=List Nm) (x:=s.aT) (f:=fun row _=>xE ms s row) (B:=4194304*3) (l:=fun k row i=>iter (ts:=zL) (R:=List (List UInt8)) k (s9 fun v=>some v) ms s i row) (J:=fun row=>some row) (fun i row=>row.length≤i)
  (fun k row _=>by simp only [iter,s9,cm,cond_false]<;>rfl)
  (fun k i row hi hb hI=>⟨by
   simp only [iter,s9,share,cf hi,cond_true]
   refine (inner _ _ _ _ hb (by omega)).trans ?_
   rw [bO hs hi],Nat.le_trans (Pm ms s row) (by omega)⟩) k [] (by omega) (by simp)
 exact h
section
variable (R:Nm→List Nm) (N:List Nm)
structure Cv (out:List Nm):Prop where
 nd:out.Nodup
 rd:∀ pre x post,out=pre++x::post→∀ y,y∈R x→y∈pre
structure Full (L:List Nm):Prop where
 LC:Cv R L
 all:∀ y,y∈N→y∈L
 sub:∀ y,y∈L→y∈N
variable {R N}
theorem Cv.nil:Cv R []:=⟨List.nodup_nil,fun pre x post h=>by simp at h⟩
theorem Cv.snoc {out:List Nm} {x:Nm} (h:Cv R out) (hx:x ∉ out) (hr:∀ y,y∈R x→y∈out):Cv R (out++[x]):=by
 refine ⟨List.nodup_append.2 ⟨h.nd,by simp,fun a ha b hb=>by simp at hb;subst hb;exact fun e=>hx (e▸ha)⟩,fun pre z post e y hy=>?_⟩
 rcases List.append_eq_append_iff.1 e with ⟨cs,h1,h2⟩ | ⟨bs,h1,h2⟩
 ·cases cs with
  | nil=>
   simp only [List.nil_append,List.cons.injEq] at h2
   rw [List.append_nil] at h1
   rw [h1]
   exact hr y (h2.1▸hy)
  | cons a cs=>simp at h2
 ·cases bs with
  | nil=>
   simp only [List.nil_append,List.cons.injEq] at h2
   rw [List.append_nil] at h1
   rw [← h1]
   exact hr y (h2.1▸hy)
  | cons b bs=>
   simp only [List.cons_append,List.cons.injEq] at h2
   obtain ⟨rfl,_⟩:=h2
   exact h.rd pre z bs h1 y hy
theorem Cv.lt {L:List Nm} (h:Cv R L) {x y:Nm} (hx:x∈L) (hy:y∈R x):y∈L∧L.idxOf y < L.idxOf x:=by
 obtain ⟨pre,post,e⟩:=List.append_of_mem hx
 have hp:=h.rd pre x post e y hy
 have AL:=h.nd
 rw [e] at AL
 have hxp:x ∉ pre:=fun hm=>(List.nodup_append.1 AL).2.2 x hm x (by simp) rfl
 refine ⟨by rw [e];simp [hp],?_⟩
 rw [e,List.idxOf_append,if_pos hp,List.idxOf_append,if_neg hxp,List.idxOf_cons_self,Nat.zero_add]
 exact List.idxOf_lt_length_iff.2 hp
end
theorem KV (ms:List aD) (s:aC) (row:List Nm):(∃ f,f∈s.aT∧f.Name ∉ row∧(∀ y,y∈reads ms s.Kind f.Name→y∈row)∧xE ms s row=row++[f.Name])∨
  ((∀ f,f∈s.aT→B6 ms s row f=false)∧xE ms s row=row):=by
 unfold xE
 cases h:s.aT.find? (B6 ms s row) with
 | some f=>
  have h1:=List.find?_some h
  simp only [B6,Bool.and_eq_true,Bool.not_eq_true'] at h1
  refine .inl ⟨f,List.mem_of_find?_eq_some h,fun hm=>?_,fun y hy=>?_,rfl⟩
  ·rw [xD.2 hm] at h1;cases h1.1
  ·exact xD.1 (List.all_eq_true.1 h1.2 y hy)
 | none=>exact .inr ⟨fun f hf=>by simpa using List.find?_eq_none.1 h f hf,rfl⟩
def names (s:aC):List Nm:=s.aT.map (·.Name)
theorem Pn (ms:List aD) (s:aC):Cv (reads ms s.Kind) (sK ms s)∧∀ y,y∈sK ms s→y∈names s:=by
 have key:∀ (l:List aB) (row:List Nm),Cv (reads ms s.Kind) row→(∀ y,y∈row→y∈names s)→Cv (reads ms s.Kind) (l.foldl (fun row _=>xE ms s row) row)∧∀ y,y∈l.foldl (fun row _=>xE ms s row) row→y∈names s:=by
  intro l
  induction l with
  | nil=>exact fun row h1 h2=>⟨h1,h2⟩
  | cons a r ih=>
   intro row h1 h2
   rw [List.foldl_cons]
   rcases KV ms s row with ⟨f,q1,q2,q3,q4⟩ | ⟨_,q⟩
   ·rw [q4]
    refine ih _ (h1.snoc q2 q3) fun y hy=>?_
    rcases List.mem_append.1 hy with h | h
    ·exact h2 y h
    ·simp at h;subst h;exact List.mem_map_of_mem q1
   ·rw [q];exact ih _ h1 h2
 exact key s.aT [] Cv.nil (fun y h=>by cases h)
theorem WZ {ms:List aD} {s:aC} (AL:(names s).Nodup) {L:List Nm} (hL:Full (reads ms s.Kind) (names s) L):(sK ms s).length=s.aT.length:=by
 have hlen:(names s).length=s.aT.length:=by simp [names]
 have step:∀ row:List Nm,row.Nodup→(∀ y,y∈row→y∈names s)→row.length < s.aT.length→∃ f,f∈s.aT∧B6 ms s row f=true:=by
  intro row h1 h2 h3
  have:∃ x,L.find? (fun y=>!A5 row y)=some x:=by
   cases h:L.find? (fun y=>!A5 row y) with
   | some x=>exact ⟨x,rfl⟩
   | none=>
    have mC:=List.find?_eq_none.1 h
    have iV:∀ y,y∈names s→y∈row:=fun y hy=>by
     have:=mC y (hL.all y hy)
     simp only [Bool.not_eq_true',Bool.not_eq_false] at this
     exact xD.1 (by simpa using this)
    have:=AL.length_le_of_subset iV
    omega
  obtain ⟨x,hx⟩:=this
  have hxL:=List.mem_of_find?_eq_some hx
  obtain ⟨f,hf,rfl⟩:=List.mem_map.1 (hL.sub x hxL)
  refine ⟨f,hf,?_⟩
  simp only [B6,Bool.and_eq_true]
  refine ⟨List.find?_some (p:=fun y=>!A5 row y) hx,List.all_eq_true.2 fun y hy=>?_⟩
  obtain ⟨hp,pre,post,e,Ub⟩:=List.find?_eq_some_iff_append.1 hx
  have:=Ub y (hL.LC.rd pre f.Name post e y hy)
  simpa using this
 have key:∀ (l:List aB) (row:List Nm),row.Nodup→(∀ y,y∈row→y∈names s)→Cv (reads ms s.Kind) row→row.length+l.length=s.aT.length→(l.foldl (fun row _=>xE ms s row) row).length=s.aT.length:=by
  intro l
  induction l with
  | nil=>intro row _ _ _ h;simpa using h
  | cons a r ih=>
   intro row h1 h2 h4 h3
   rw [List.length_cons] at h3
   rw [List.foldl_cons]
   rcases KV ms s row with ⟨f,q1,q2,q3,q4⟩ | ⟨q1,_⟩
   ·rw [q4]
    have ht:=h4.snoc q2 q3
    refine ih _ ht.nd (fun y hy=>?_) ht (by simp;omega)
    rcases List.mem_append.1 hy with h | h
    ·exact h2 y h
    ·simp at h;subst h;exact List.mem_map_of_mem q1
   ·obtain ⟨f,hf,hn⟩:=step row h1 h2 (by omega)
    rw [q1 f hf] at hn;cases hn
 exact key s.aT [] List.nodup_nil (fun y h=>by cases h) Cv.nil (by simp)
theorem YH {ms:List aD} {s:aC} (AL:(names s).Nodup):(sK ms s).length=s.aT.length↔∃ L,Full (reads ms s.Kind) (names s) L:=by
 constructor
 ·intro h
  obtain ⟨h1,h2⟩:=Pn ms s
  refine ⟨sK ms s,h1,fun y hy=>?_,h2⟩
  cases hc:A5 (sK ms s) y with
  | true=>exact xD.1 hc
  | false=>
   have hny:y ∉ sK ms s:=fun hm=>by rw [xD.2 hm] at hc;cases hc
   have h3:(y::sK ms s).Nodup:=List.nodup_cons.2 ⟨hny,h1.nd⟩
   have h4:=h3.length_le_of_subset (l₂:=names s) fun z hz=>by
    rcases List.mem_cons.1 hz with e | e
    ·exact e▸hy
    ·exact h2 z e
   simp only [List.length_cons,names,List.length_map] at h4
   omega
 ·rintro ⟨L,hL⟩
  exact WZ AL hL
def Sb (n:Nm) (v:Int) (st:List cb):List cb:=nV (fun p:cb=>seq n p.Key) st ⟨n,v⟩
theorem Po (n n':Nm) (v:Int) (st:List cb):g9 n' (Sb n v st)=cond (seq n' n) v (g9 n' st):=JR (key:=cb.Key) (y:=⟨n,v⟩)
theorem fv (n:Nm) (v:Int) (st:List cb):g9 n (Sb n v st)=v:=by rw [Po,Dq];rfl
theorem acE {a b:Nm} (h:a≠b):seq a b=false:=by
 cases e:seq a b with
 | false=>rfl
 | true=>exact absurd (dQ.1 e) h
theorem dI {n n':Nm} (h:n'≠n) (v:Int) (st:List cb):g9 n' (Sb n v st)=g9 n' st:=by rw [Po,acE h];rfl
section
variable {ms:List aD} {s:aC} {R:Nm→List Nm} {N:List Nm}
def fu (N G:List Nm):Nat:=8388608+(N.length+1-G.length)*1048578
theorem ab5 {N G G':List Nm} (h:G.length≤G'.length):fu N G'≤fu N G:=by unfold fu;omega
theorem ab6 (N G:List Nm):8388608≤fu N G:=by unfold fu;omega
theorem aaF {N G:List Nm} {x:Nm} (h:G.length+1≤N.length):fu N (x::G)+1048578≤fu N G:=by unfold fu;simp only [List.length_cons];omega
structure Uc (R:Nm→List Nm) (N:List Nm) (st:List cb) (out G:List Nm):Prop where
 two:∀ y,g9 y st=2↔y∈out
 rng:∀ y,g9 y st=0∨g9 y st=1∨g9 y st=2
 LC:Cv R out
 sub:∀ y,y∈out→y∈N
 gnd:G.Nodup
 aaG:∀ y,y∈G→y∈N
 g:∀ y,y∈G↔g9 y st≠0
structure ML (R:Nm→List Nm) (N:List Nm) (st:List cb) (out G:List Nm) (RQ:List cb) (zo:List Nm):Prop where
 inv:∃ G',Uc R N RQ zo G'∧G.length≤G'.length
 one:∀ y,g9 y RQ=1↔g9 y st=1
 ext:∀ y,y∈out→y∈zo
def VC (L:List Nm) (st:List cb) (x:Nm):Prop:=∀ z,g9 z st=1→L.idxOf x < L.idxOf z
def Ud (R:Nm→List Nm) (N:List Nm) (ms:List aD) (s:aC) (f:Nat→Nm→List cb→List aD→aC→List Nm→Option (Bool×List cb×List aD×aC×List Nm)) (n:Nat):Prop:=
 ∀ k x st out G,fu N G≤k→x∈N→Uc R N st out G→N.length < n+G.length→∃ b RQ zo,f k x st ms s out=some (b,RQ,ms,s,zo)∧(b=true→ML R N st out G RQ zo∧x∈zo)∧∀ L,Full R N L→VC L st x→b=true
theorem ML.refl {st:List cb} {out G:List Nm} (h:Uc R N st out G):ML R N st out G st out:=⟨⟨G,h,Nat.le_refl _⟩,fun _=>Iff.rfl,fun _ h=>h⟩
theorem ML.ahead {st RQ:List cb} {out zo G L:List Nm} (h:ML R N st out G RQ zo) {x:Nm} (ha:VC L st x):VC L RQ x:=fun z hz=>ha z ((h.one z).1 hz)
theorem W0 {f:Nat→Nm→List cb→List aD→aC→List Nm→Option (Bool×List cb×List aD×aC×List Nm)} {n:Nat} (hf:Ud R N ms s f n) {ys:List Nm} (hl:ys.length≤1048576) (hN:∀ y,y∈ys→y∈N) (x:Nm)
  (J:Nm→List cb→List aD→aC→List Nm→Option (Bool×List cb×List aD×aC×List Nm)):
  ∀ m i k st out G,i+m=ys.length→fu N G+m+1≤k→Uc R N st out G→N.length < n+G.length→
   ∃ b RQ zo,iter (ts:=iU) (R:=Bool×(List cb)×(List aD)×aC×(List (List UInt8))) k (dG f J) x ys (ys.length:Int) (i:Int) st ms s out=(cond b (J x RQ ms s zo) (some (false,RQ,ms,s,zo)))∧
    (b=true→ML R N st out G RQ zo∧∀ y,y∈ys.drop i→y∈zo)∧∀ L,Full R N L→(∀ y,y∈ys.drop i→VC L st y)→b=true:=by
 intro m
 induction m with
 | zero=>
  intro i k st out G h hk hi _
  obtain ⟨k,rfl⟩:∃ q,k=q+1:=⟨k-1,by omega⟩
  obtain rfl:i=ys.length:=by omega
  refine ⟨true,st,out,?_,fun _=>⟨.refl hi,fun y hy=>by simp at hy⟩,fun _ _ _=>rfl⟩
  simp only [iter,dG,cm,cond_false]<;>rfl
 | succ m ih=>
  intro i k st out G h hk hi hg
  obtain ⟨k,rfl⟩:∃ q,k=q+1:=⟨k-1,by omega⟩
  have dL:i < ys.length:=by omega
  obtain ⟨b,st1,uL,h1,h2,h3⟩:=hf k ys[i] st out G (by omega) (hN _ (dk dL)) hi hg
  rw [List.drop_eq_getElem_cons dL]
  cases b with
  | false=>
   refine ⟨false,st1,uL,?_,(fun h=>by cases h),fun L hL ha=>h3 L hL (ha _ (List.mem_cons_self ..))⟩
   simp only [iter,dG,cf dL,bI dL,cond_true,bL,bJ dL,h1,Option.bind_some]<;>rfl
  | true=>
   obtain ⟨p1,p2⟩:=h2 rfl
   obtain ⟨G1,hi1,Yb⟩:=p1.inv
   obtain ⟨b,st2,MM,k1,k2,k3⟩:=ih (i+1) k st1 uL G1 (by omega) (by have:=ab5 (N:=N) Yb;omega) hi1 (by omega)
   refine ⟨b,st2,MM,?_,fun hb=>?_,fun L hL ha=>k3 L hL fun y hy=>p1.ahead (ha y (List.mem_cons_of_mem _ hy))⟩
   ·simp only [iter,dG,cf dL,bI dL,cond_true,bL,bJ dL,h1,Option.bind_some,bO hl dL]
    exact k1
   ·obtain ⟨q1,q2⟩:=k2 hb
    obtain ⟨G2,Ue,VD⟩:=q1.inv
    refine ⟨⟨⟨G2,Ue,by omega⟩,fun y=>(q1.one y).trans (p1.one y),fun y hy=>q1.ext y (p1.ext y hy)⟩,fun y hy=>?_⟩
    rcases List.mem_cons.1 hy with e | e
    ·exact e▸q1.ext _ p2
    ·exact q2 y e
theorem VE (Yc:ms.length≤1048576) (hR:∀ x,x∈N→∀ y,y∈reads ms s.Kind x→y∈N) (hRl:∀ x,(reads ms s.Kind x).length≤1048576) (hNl:N.length≤1048576):∀ n,Ud (reads ms s.Kind) N ms s (c9 n) n
 | 0=>fun k x st out G _ _ hi hg=>by
  have:=hi.gnd.length_le_of_subset hi.aaG
  omega
 | n+1=>fun k x st out G hk hx hi hg=>by
  have ih:=VE Yc hR hRl hNl n
  have e0:l8 (fun p:cb=>seq x p.Key) (fun p:cb=>p.Mb) (0:Int) st=g9 x st:=rfl
  simp only [c9,e0,share]
  rcases hi.rng x with h0 | h0 | h0
  ·
   rw [h0]
   have i1:Uc (reads ms s.Kind) N (Sb x 1 st) out (x::G):=by
    have hxG:x ∉ G:=fun h=>(hi.g x).1 h h0
    refine ⟨fun y=>?_,fun y=>?_,hi.LC,hi.sub,List.nodup_cons.2 ⟨hxG,hi.gnd⟩,fun y hy=>?_,fun y=>?_⟩
    ·by_cases e:y=x
     ·subst e
      rw [fv]
      exact ⟨fun h=>by omega,fun h=>by have:=(hi.two y).2 h;omega⟩
     ·rw [dI e];exact hi.two y
    ·by_cases e:y=x
     ·subst e;rw [fv];exact .inr (.inl rfl)
     ·rw [dI e];exact hi.rng y
    ·rcases List.mem_cons.1 hy with e | e
     ·exact e▸hx
     ·exact hi.aaG y e
    ·by_cases e:y=x
     ·subst e;rw [fv];simp
     ·rw [dI e,List.mem_cons]
      exact ⟨fun h=>(hi.g y).1 (h.resolve_left e),fun h=>.inr ((hi.g y).2 h)⟩
   have hGl:(x::G).length≤N.length:=i1.gnd.length_le_of_subset i1.aaG
   have hfu:fu N (x::G)+1048578≤fu N G:=aaF (by simpa using hGl)
   have:=ab6 N G
   have c5:=YG (name:=x) (s:=s) (show 4194304≤k by omega) Yc
   let J:Nm→List cb→List aD→aC→List Nm→Option (Bool×List cb×List aD×aC×List Nm):=fun v39 v40 v41 v42 v43=>
    bC (uF (v43.length+([v39]:List (List UInt8)).length) 16) (some (true,(nV (fun p:cb=>seq v39 p.Key) v40 (⟨v39,(2:Int)⟩:cb)),v41,v42,(v43++([v39]:List (List UInt8)))))
   have hrl:=hRl x
   obtain ⟨b,st2,MM,k1,k2,k3⟩:=W0 ih hrl (hR x hx) x J (reads ms s.Kind x).length 0 k (Sb x 1 st) out (x::G) (by omega) (by omega) i1 (by simp;omega)
   simp only [c5,Option.bind_some]
   have e1:(nV (fun p:cb=>seq x p.Key) st (⟨x,(1:Int)⟩:cb))=Sb x 1 st:=rfl
   have Ye:iter (ts:=iU) (R:=Bool×(List cb)×(List aD)×aC×(List (List UInt8))) k (dG (c9 n) J) x (reads ms s.Kind x) ((reads ms s.Kind x).length:Int) (0:Int) (Sb x 1 st) ms s out=(cond b (J x st2 ms s MM) (some (false,st2,ms,s,MM))):=k1
   cases b with
   | false=>
    refine ⟨false,st2,MM,by rw [show bM 0 1=false from rfl,show bM 0 2=false from rfl];exact Ye,(fun h=>by cases h),fun L hL ha=>?_⟩
    refine k3 L hL fun y hy z hz=>?_
    have dL:=(hL.LC.lt (hL.all x hx) (by simpa using hy)).2
    by_cases e:z=x
    ·rw [e];exact dL
    ·rw [dI e] at hz
     exact Nat.lt_trans dL (ha z hz)
   | true=>
    obtain ⟨q1,q2⟩:=k2 rfl
    obtain ⟨G2,Ue,VD⟩:=q1.inv
    have hx1:g9 x st2=1:=(q1.one x).2 (fv _ _ _)
    have hxo:x ∉ MM:=fun h=>by have:=(Ue.two x).2 h;omega
    have hlen:MM.length≤1048576:=Nat.le_trans (Ue.LC.nd.length_le_of_subset Ue.sub) hNl
    refine ⟨true,Sb x 2 st2,MM++[x],?_,fun _=>⟨⟨⟨G2,⟨fun y=>?_,fun y=>?_,Ue.LC.snoc hxo fun y hy=>q2 y (by simpa using hy),fun y hy=>?_,Ue.gnd,Ue.aaG,fun y=>?_⟩,?_⟩,fun y=>?_,fun y hy=>?_⟩,by simp⟩,fun _ _ _=>rfl⟩
    ·rw [show bM 0 1=false from rfl,show bM 0 2=false from rfl]
     refine Ye.trans ?_
     show bC (uF (MM.length+1) 16) _=_
     rw [sH (by omega) (by omega)];rfl
    ·by_cases e:y=x
     ·subst e;rw [fv];simp
     ·rw [dI e,Ue.two y];simp [e]
    ·by_cases e:y=x
     ·subst e;rw [fv];exact .inr (.inr rfl)
     ·rw [dI e];exact Ue.rng y
    ·rcases List.mem_append.1 hy with h | h
     ·exact Ue.sub y h
     ·simp at h;exact h▸hx
    ·by_cases e:y=x
     ·subst e;rw [fv,Ue.g y,hx1];simp
     ·rw [dI e];exact Ue.g y
    ·simp only [List.length_cons] at VD;omega
    ·by_cases e:y=x
     ·subst e;rw [fv];omega
     ·rw [dI e,q1.one y,dI e]
    ·exact List.mem_append_left _ (q1.ext y hy)
  ·
   rw [h0]
   exact ⟨false,st,out,rfl,(fun h=>by cases h),fun L _ ha=>absurd (ha x h0) (Nat.lt_irrefl _)⟩
  ·
   rw [h0]
   exact ⟨true,st,out,rfl,fun _=>⟨.refl hi,(hi.two x).1 h0⟩,fun _ _ _=>rfl⟩
theorem YI (hw:∀ n,Ud R N ms s (c9 n) n) {xs:List Nm} (hl:xs.length≤1048576) (hN:∀ y,y∈xs→y∈N) (hNl:N.length≤1048576)
  (J:List aD→aC→List Nm→Option (List Nm×Bool×List aD×aC)):
  ∀ m i k st out G,i+m=xs.length→fu N G+m+1≤k→Uc R N st out G→(∀ z,g9 z st≠1)→
   ∃ b RQ zo,iter (ts:=kF) (R:=(List (List UInt8))×Bool×(List aD)×aC) k (dC J) xs (xs.length:Int) (i:Int) ms s out st=(cond b (J ms s zo) (some ([],false,ms,s)))∧
    (b=true→ML R N st out G RQ zo∧∀ y,y∈xs.drop i→y∈zo)∧∀ L,Full R N L→b=true:=by
 intro m
 induction m with
 | zero=>
  intro i k st out G h hk hi _
  obtain ⟨k,rfl⟩:∃ q,k=q+1:=⟨k-1,by omega⟩
  obtain rfl:i=xs.length:=by omega
  refine ⟨true,st,out,?_,fun _=>⟨.refl hi,fun y hy=>by simp at hy⟩,fun _ _=>rfl⟩
  simp only [iter,dC,cm,cond_false]<;>rfl
 | succ m ih=>
  intro i k st out G h hk hi hz
  obtain ⟨k,rfl⟩:∃ q,k=q+1:=⟨k-1,by omega⟩
  have dL:i < xs.length:=by omega
  have:=ab6 N G
  obtain ⟨b,st1,uL,h1,h2,h3⟩:=hw k k xs[i] st out G (by omega) (hN _ (dk dL)) hi (by omega)
  rw [List.drop_eq_getElem_cons dL]
  cases b with
  | false=>
   refine ⟨false,st1,uL,?_,(fun h=>by cases h),fun L hL=>h3 L hL fun z hz'=>absurd hz' (hz z)⟩
   simp only [iter,dC,cf dL,bI dL,cond_true,bL,bJ dL,h1,Option.bind_some]<;>rfl
  | true=>
   obtain ⟨p1,p2⟩:=h2 rfl
   obtain ⟨G1,hi1,Yb⟩:=p1.inv
   obtain ⟨b,st2,MM,k1,k2,k3⟩:=ih (i+1) k st1 uL G1 (by omega) (by have:=ab5 (N:=N) Yb;omega) hi1 fun z hz'=>hz z ((p1.one z).1 hz')
   refine ⟨b,st2,MM,?_,fun hb=>?_,k3⟩
   ·simp only [iter,dC,cf dL,bI dL,cond_true,bL,bJ dL,h1,Option.bind_some,bO hl dL]
    exact k1
   ·obtain ⟨q1,q2⟩:=k2 hb
    obtain ⟨G2,Ue,VD⟩:=q1.inv
    refine ⟨⟨⟨G2,Ue,by omega⟩,fun y=>(q1.one y).trans (p1.one y),fun y hy=>q1.ext y (p1.ext y hy)⟩,fun y hy=>?_⟩
    rcases List.mem_cons.1 hy with e | e
    ·exact e▸q1.ext _ p2
    ·exact q2 y e
theorem Uf (l:List aB) (q:List Nm):l.foldl (fun (q:List Nm) f=>q++[f.Name]) q=q++l.map (·.Name):=by
 induction l generalizing q with
 | nil=>simp
 | cons a r ih=>rw [List.foldl_cons,ih];simp
theorem VF (Yc:ms.length≤1048576) (hR:∀ x,x∈names s→∀ y,y∈reads ms s.Kind x→y∈names s) (hRl:∀ x,(reads ms s.Kind x).length≤1048576) (hNl:s.aT.length≤6) {k:Nat} (hk:4194304*5≤k):
  ∃ b row,po k s ms=some (row,b)∧(b=true→Full (reads ms s.Kind) (names s) row)∧((∃ L,Full (reads ms s.Kind) (names s) L)→b=true):=by
 have ag1:(names s).length≤6:=by simp only [names,List.length_map];exact hNl
 have i0:Uc (reads ms s.Kind) (names s) [] [] []:=⟨fun y=>by simp [g9,l8],fun y=>.inl rfl,Cv.nil,(fun y h=>by cases h),List.nodup_nil,(fun y h=>by cases h),fun y=>by simp [g9,l8]⟩
 let J:List aD→aC→List Nm→Option (List Nm×Bool×List aD×aC):=fun v23 v24 v25=>some (v25,true,v23,v24)
 obtain ⟨b,RQ,zo,h1,h2,h3⟩:=YI (VE Yc hR hRl (by omega)) (by omega) (fun y h=>h) (by omega) J (names s).length 0 k [] [] [] (by omega) (by simp only [fu,List.length_nil];omega) i0 fun z hz=>by simp [g9,l8] at hz
 have c5:eW k (names s) ms s=cond b (some (zo,true,ms,s)) (some ([],false,ms,s)):=by
  unfold eW
  simp only [share]
  exact h1
 have hof:po k s ms=cond b (some (zo,true)) (some ([],false)):=by
  unfold po
  simp only [share]
  have h:=fun J:aC→List aD→List Nm→Option (List Nm×Bool)=>fL (S:=List Nm) (x:=s.aT) (f:=fun q f=>q++[f.Name]) (B:=0) (l:=fun k q i=>iter (ts:=sE) (R:=(List (List UInt8))×Bool) k (ln J) s.aT (s.aT.length:Int) i s ms q)
   (J:=fun q=>J s ms q) (fun i q=>q.length=i)
   (fun k q _=>by simp only [iter,ln,cm,cond_false]<;>rfl)
   (fun k i q hi _ hq=>⟨by
    simp only [iter,ln,cf hi,bI hi,cond_true,bL,bJ hi,bO (show s.aT.length≤1048576 by omega) hi]
    rw [sH (by simp;omega) (by omega)];rfl,by simp [hq]⟩) k [] (by omega) rfl
  refine (h _).trans ?_
  rw [Uf,List.nil_append]
  change (eW k (names s) ms s).bind _=_
  rw [c5]
  cases b<;>rfl
 cases b with
 | false=>exact ⟨false,[],hof,(fun h=>by cases h),fun ⟨L,hL⟩=>h3 L hL⟩
 | true=>
  obtain ⟨p,q⟩:=h2 rfl
  obtain ⟨G',c8,_⟩:=p.inv
  exact ⟨true,zo,hof,fun _=>⟨c8.LC,fun y h=>q y (by simpa using h),fun y h=>c8.sub y h⟩,fun _=>rfl⟩
end
theorem Dr:∀ {r:List aB} {q:List Nm},FX q r=true→(r.map (·.Name)).Nodup∧∀ y,y∈r.map (·.Name)→y ∉ q
 | [],_,_=>⟨List.nodup_nil,fun _ h=>by cases h⟩
 | f::r,q,h=>by
  simp only [FX,Bool.and_eq_true,Bool.not_eq_true'] at h
  obtain ⟨h1,h2⟩:=h
  obtain ⟨h3,h4⟩:=Dr h2
  refine ⟨List.nodup_cons.2 ⟨fun hm=>h4 _ hm (by simp),h3⟩,fun y hy hq=>?_⟩
  rcases List.mem_cons.1 hy with e | e
  ·have:q.any (fun y=>seq y f.Name)=true:=List.any_eq_true.2 ⟨y,hq,dQ.2 e⟩
   rw [h1] at this;cases this
  ·exact h4 y e (by simp [hq])
theorem Pp:∀ {xs:List aC} {s:aC} {n:Nm},(kinds xs).Nodup→s∈xs→s.Kind=n→xs.find? (fun s=>seq s.Kind n)=some s
 | [],_,_,_,h,_=>by cases h
 | a::r,s,n,hn,hs,e=>by
  simp only [kinds,List.map_cons,List.nodup_cons] at hn
  rw [List.find?_cons]
  rcases List.mem_cons.1 hs with h | h
  ·subst h
   rw [show seq s.Kind n=true from dQ.2 e]
  ·cases ha:seq a.Kind n with
   | true=>
    have hm:s.Kind∈r.map (·.Kind):=List.mem_map_of_mem h
    rw [e,← dQ.1 ha] at hm
    exact absurd hm hn.1
   | false=>exact Pp hn.2 h e
theorem Pq {fs:List aB} {n:Nm} (h:my fs n=true):n∈fs.map (·.Name):=by
 unfold my GK at h
 cases e:fs.find? fun f=>seq f.Name n with
 | none=>rw [e] at h;cases h
 | some f=>
  have h1:=List.find?_some e
  have h2:=List.mem_of_find?_eq_some e
  rw [← dQ.1 h1];exact List.mem_map_of_mem h2
theorem Pr {xs:List aC} {s:aC} {m:aD} (hn:(kinds xs).Nodup) (hs:s∈xs) (hm:mz xs m=true) {x y:Nm} (hy:y∈mB s.Kind x m):y∈names s:=by
 unfold mB at hy
 cases h1:seq m.Kind s.Kind with
 | false=>rw [h1] at hy;cases hy
 | true=>
  rw [h1] at hy
  cases h2:seq m.Field x with
  | false=>rw [h2] at hy;cases hy
  | true=>
   rw [h2] at hy
   simp only [Bool.and_self,cond_true,List.mem_append] at hy
   have hf:=Pp hn hs (dQ.1 h1).symm
   unfold mz at hm
   rw [hf] at hm
   simp only [JW,Bool.and_eq_true,Bool.or_eq_true] at hm
   obtain ⟨_,h4,h5,_⟩:=hm
   rcases hy with hy | hy
   ·cases h6:seq m.cT [] with
    | true=>rw [h6] at hy;cases hy
    | false=>
     rw [h6] at hy
     simp only [cond_false,List.mem_singleton] at hy
     subst hy
     exact Pq (h4.resolve_left (by rw [h6];exact Bool.false_ne_true))
   ·cases h6:seq m.cA [] with
    | true=>rw [h6] at hy;cases hy
    | false=>
     rw [h6] at hy
     simp only [cond_false,List.mem_singleton] at hy
     subst hy
     exact Pq (h5.resolve_left (by rw [h6];exact Bool.false_ne_true))
theorem Ps {ms:List aD} {kind x:Nm}:(reads ms kind x).length≤2*ms.length:=by
 induction ms with
 | nil=>simp [reads]
 | cons a r ih=>
  have:=MJ kind x a
  simp only [reads,List.flatMap_cons,List.length_append,List.length_cons] at *
  omega
def fM (xs:List aC) (ms:List aD):Bool:=
 eh xs&&(b_ (ms.length:Int) 12&&(ms.all (mz xs)&&xs.all fun s=>bM ((sK ms s).length:Int) (s.aT.length:Int)))
theorem OD {k:Nat} {xs:List aC} {ms:List aD} (hk:4194304*6≤k) (hx:jt aC.sd xs) (hm:jt aD.sd ms):nh k xs ms=some (fM xs ms):=by
 unfold nh fM
 have h4:=fun J:List aC→List aD→Option Bool=>gf (R:=Option Bool) (x:=ms) (p:=mz xs) (B:=4194304) (l:=fun k i=>iter (ts:=qJ) (R:=Bool) k (jl J) xs ms i) (E:=J xs ms) (O:=some false)
  (fun k=>by simp only [iter,jl,cm,cond_false]<;>rfl)
  (fun k i hi hb=>by
   simp only [iter,jl,cf hi,bI hi,cond_true,bL,bJ hi,bO hm.1 hi,T_ hb hx (hm.2 _ (dk hi)),Option.bind_some]
   cases mz xs ms[i]<;>rfl) k (by have:=hm.1;omega)
 have h9:=gf (R:=Option Bool) (x:=xs) (p:=fun s=>bM ((sK ms s).length:Int) (s.aT.length:Int)) (B:=4194304*4) (l:=fun k i=>iter (ts:=qI) (R:=Bool) k (jk (some true)) xs ms i) (E:=some true) (O:=some false)
  (fun k=>by simp only [iter,jk,cm,cond_false]<;>rfl)
  (fun k i hi hb=>by
   simp only [iter,jk,cf hi,bI hi,cond_true,bL,bJ hi,bO hx.1 hi,aaE hb hm.1 (hx.2 _ (dk hi)).2.1,Option.bind_some]
   cases bM ((sK ms xs[i]).length:Int) (xs[i].aT.length:Int)<;>rfl) k (by have:=hx.1;omega)
 simp only [share,ME hx (show 4194304*4≤k by omega),Option.bind_some,cJ]
 cases eh xs with
 | false=>rfl
 | true=>
  cases b_ (ms.length:Int) 12 with
  | false=>rfl
  | true=>
   refine (h4 _).trans ?_
   cases ms.all (mz xs) with
   | false=>rfl
   | true=>exact h9.trans (by cases xs.all fun s=>bM ((sK ms s).length:Int) (s.aT.length:Int)<;>rfl)
theorem zp {k:Nat} {xs:List aC} {ms:List aD} (hk:4194304*7≤k) (hx:jt aC.sd xs) (hm:jt aD.sd ms):dN k xs ms=some (fM xs ms):=by
 unfold dN fM
 have h4:=fun J:List aC→List aD→Option Bool=>gf (R:=Option Bool) (x:=ms) (p:=mz xs) (B:=4194304) (l:=fun k i=>iter (ts:=qY) (R:=Bool) k (jq J) xs ms ms (ms.length:Int) i) (E:=J xs ms) (O:=some false)
  (fun k=>by simp only [iter,jq,cm,cond_false]<;>rfl)
  (fun k i hi hb=>by
   simp only [iter,jq,share,cf hi,bI hi,cond_true,bL,bJ hi,Ep hb hx.1,Option.bind_some,mz]
   rw [bO hm.1 hi]
   rcases eZ (fun s:aC=>seq s.Kind ms[i].Kind) xs with ⟨h1,h2⟩ | ⟨j,hj,h1,h2,_⟩
   ·rw [h1,h2];rfl
   ·rw [h1,h2,fq (by omega),bI hj,bJ hj,Ua hb (hx.2 _ (dk hj)).2 (hm.2 _ (dk hi))]
    simp only
    cases JW xs[j].aT ms[i]<;>rfl) k (by have:=hm.1;omega)
 simp only [share,xC hx (show 4194304*5≤k by omega),Option.bind_some,cJ]
 cases rO:eh xs with
 | false=>rfl
 | true=>
  cases Yc:b_ (ms.length:Int) 12 with
  | false=>rfl
  | true=>
   refine (h4 _).trans ?_
   cases mC:ms.all (mz xs) with
   | false=>rfl
   | true=>
    simp only [eh,Bool.and_eq_true,List.all_eq_true] at rO mC
    obtain ⟨hx6,afH,afI⟩:=rO
    have AL:=Pe afH
    have ag2:=rn Yc
    have h11:=gf (R:=Option Bool) (x:=xs) (p:=fun s=>bM ((sK ms s).length:Int) (s.aT.length:Int)) (B:=4194304*5) (l:=fun k i=>iter (ts:=pT) (R:=Bool) k (iE (some true)) ms xs (xs.length:Int) i) (E:=some true) (O:=some false)
     (fun k=>by simp only [iter,iE,cm,cond_false]<;>rfl)
     (fun k i hi hb=>by
      have hs:=afI _ (dk hi)
      simp only [nx,Bool.and_eq_true] at hs
      have h6:=rn hs.1
      obtain ⟨b,row,h1,h2,h3⟩:=VF (ms:=ms) (s:=xs[i]) hm.1
       (fun x _ y hy=>by
        obtain ⟨m,hm1,hm2⟩:=List.mem_flatMap.1 hy
        exact Pr AL (dk hi) (mC m hm1) hm2)
       (fun x=>by have:=Ps (ms:=ms) (kind:=xs[i].Kind) (x:=x);omega) (by omega) hb
      have ad9:=YH (ms:=ms) (s:=xs[i]) (Dr hs.2.2).1
      have eb:bM ((sK ms xs[i]).length:Int) (xs[i].aT.length:Int)=b:=by
       cases b with
       | true=>
        have:=ad9.2 ⟨row,h2 rfl⟩
        simp only [bM,beq_iff_eq];omega
       | false=>
        simp only [bM,beq_eq_false_iff_ne]
        intro h
        have:=h3 (ad9.1 (by omega))
        cases this
      simp only [iter,iE,cf hi,bI hi,cond_true,bL,bJ hi,h1,Option.bind_some,bO hx.1 hi,eb]
      cases b<;>rfl) k (by have:=hx.1;omega)
    exact h11.trans (by cases xs.all fun s=>bM ((sK ms s).length:Int) (s.aT.length:Int)<;>rfl)
def B7 (w:aL):Bool:=fM w.bX w.gH&&Ia w.dS
theorem Sc {k:Nat} {w:aL} (hk:4194304*6≤k) (hw:w.sd):qM k w=some (B7 w):=by
 unfold qM
 rw [OD hk hw.1 hw.2.1,Oy (by omega) hw.2.2]
 unfold B7
 cases fM w.bX w.gH<;>rfl
theorem Sd {k:Nat} {w:aL} (hk:4194304*7≤k) (hw:w.sd):p9 k w=some (B7 w):=by
 unfold p9
 rw [zp hk hw.1 hw.2.1,Oz (by omega) hw.2.2]
 unfold B7
 cases fM w.bX w.gH<;>rfl
section
variable {α R S:Type} {x:List α} {B:Nat}
theorem VG (g:Nat→S) {l:Nat→S→Int→R} {E:R} (he:∀ k,l (k+1) (g x.length) (x.length:Int)=E)
  (h:∀ k i (hi:i < x.length),B≤k→l (k+1) (g i) (i:Int)=l k (g (i+1)) ((i+1:Nat):Int)) (k:Nat) (hk:B+x.length+1≤k):l k (g 0) 0=E:=by
 have go:∀ m i k,i+m=x.length→B+m+1≤k→l k (g i) (i:Int)=E:=by
  intro m
  induction m with
  | zero=>
   intro i k h1 h2
   obtain rfl:i=x.length:=by omega
   obtain ⟨k,rfl⟩:∃ j,k=j+1:=⟨k-1,by omega⟩
   exact he k
  | succ m ih=>
   intro i k h1 h2
   obtain ⟨k,rfl⟩:∃ j,k=j+1:=⟨k-1,by omega⟩
   rw [h k i (by omega) (by omega)]
   exact ih (i+1) k (by omega) (by omega)
 exact go x.length 0 k (by omega) (by omega)
end
def opt {β R:Type} (o:Option β) (O:β→R) (E:R):R:=match o with
 | some c=>O c
 | none=>E
theorem Se {α β R:Type} {x:List α} {B:Nat} {g:Nat→α→Option β} {l:Nat→Int→R} {E:R} {O:β→R} (he:∀ k,l (k+1) (x.length:Int)=E)
  (h:∀ k i (hi:i < x.length),B≤k→l (k+1) (i:Int)=opt (g i x[i]) O (l k ((i+1:Nat):Int))) (k:Nat) (hk:B+x.length+1≤k):l k 0=opt (first g x 0) O E:=by
 have:=GI (g:=g) (l:=l) (E:=E) (O:=O) he (fun k i hi hb=>by rw [h k i hi hb];cases g i x[i]<;>rfl) k hk
 rw [this]
 cases first g x 0<;>rfl
def LD (o:aA):Prop:=o.aN.length≤1048576∧o.b6.length≤1048576
theorem Ic {o:aA} (h:o.sd):LD o:=⟨h.2.2.2.1.1,h.2.2.2.2.2.1.1⟩
theorem Pt {k:Nat} {o:aA} (h:LD o):ov k o=some (o.Kind,o.Name,o.aX,o.Ending,o.Version,o.aN,o.b6):=by
 unfold ov
 have h1:=h.1
 have h2:=h.2
 rw [sH (by simp;omega) (by omega),sH (by simp;omega) (by omega)]
 rfl
theorem xF (n:Nat):leq n n=true:=by simp [leq]
theorem Ie {k:Nat} {x:List Nm} (h:x.length≤1048576):jQ k x=some x:=by
 unfold jQ
 cases x with
 | nil=>rfl
 | cons a r=>
  rw [YJ h (by omega),show bM ((a::r).length:Int) 0=false by simp only [List.length_cons,bM,beq_eq_false_iff_ne];omega,List.length_replicate,Int.toNat_natCast,xF]
  rfl
theorem KW {k:Nat} {x:List Nm} (h:x.length≤1048576):mv k x=some x:=by
 unfold mv
 cases x with
 | nil=>rfl
 | cons a r=>
  rw [YJ h (by omega),show bM ((a::r).length:Int) 0=false by simp only [List.length_cons,bM,beq_eq_false_iff_ne];omega,List.length_replicate,Int.toNat_natCast,xF]
  rfl
theorem acF {k:Nat} {o:aA} (h:LD o):iH k o=some o:=by
 unfold iH
 rw [KW h.1,KW h.2];rfl
theorem VH {k:Nat} {o:aA} (h:LD o):cQ k o=some (o.Kind,o.Name,o.aX,o.Ending,o.Version,o.aN,o.b6):=by
 unfold cQ
 rw [Ie h.1,Ie h.2];rfl
theorem KX {k:Nat} {xs:List aC} (o:aA) (hk:4194304≤k) (hx:xs.length≤1048576):fU k xs o.Kind o.Name o.aX o.Ending o.Version o.aN o.b6=some ((ct xs o).getD [],(ct xs o).isSome,o.aN,o.b6):=by
 unfold fU ct
 rw [Ep hk hx]
 simp only [share,Option.bind_some]
 rcases eZ (fun s:aC=>seq s.Kind o.Kind) xs with ⟨h1,h2⟩ | ⟨j,hj,h1,h2,_⟩
 ·rw [h1,h2];rfl
 ·rw [h1,h2,fq (by omega),bI hj,bJ hj,R9 (o.aN.length:Int)]
  simp only
  cases bM (xs[j].aT.length:Int) (o.aN.length:Int)<;>rfl
def Sf (d v:Nm):Nm:=cond (seq v []) d v
def hG (fs:List aB) (vs:List Nm) (i:Nat):List Nm:=vs.mapIdx fun j v=>cond (decide (j < i)) (Sf (fs.getD j default).Default v) v
theorem A6 (fs:List aB) (vs:List Nm) (i:Nat):(hG fs vs i).length=vs.length:=by simp [hG]
theorem Sg (fs:List aB) (vs:List Nm):hG fs vs 0=vs:=by
 refine List.ext_getElem (by simp [hG]) fun j h1 h2=>?_
 simp [hG]
theorem MN {fs:List aB} {vs:List Nm} {i:Nat} (hi:i < vs.length):(hG fs vs i)[i]'(by rw [A6];exact hi)=vs[i]:=by simp [hG]
theorem MO {fs:List aB} {vs:List Nm} {i:Nat} (hi:i < vs.length) (hf:i < fs.length):g8 (hG fs vs i) (i:Int) (Sf fs[i].Default vs[i])=hG fs vs (i+1):=by
 refine List.ext_getElem (by simp [hG,g8]) fun j h1 h2=>?_
 simp only [g8,Int.toNat_natCast,List.getElem_set,hG,List.getElem_mapIdx]
 by_cases e:i=j
 ·subst e
  rw [if_pos rfl,decide_eq_true (show i < i+1 by omega),JT hf];rfl
 ·rw [if_neg e]
  congr 1
  exact decide_eq_decide.2 (by omega)
theorem KY {fs:List aB} {vs:List Nm} {i:Nat} (hi:i < vs.length) (h:seq vs[i] []=false):hG fs vs i=hG fs vs (i+1):=by
 refine List.ext_getElem (by simp [hG]) fun j h1 h2=>?_
 simp only [hG,List.getElem_mapIdx]
 by_cases e:i=j
 ·subst e
  rw [decide_eq_true (show i < i+1 by omega),decide_eq_false (show ¬ i < i by omega)]
  simp only [cond_true,cond_false,Sf,h]
 ·congr 1
  exact decide_eq_decide.2 (by omega)
def Ds (xs:List aC) (o:aA):aA:=match ct xs o with
 | some fs=>⟨o.Kind,o.Name,o.aX,hG fs o.aN fs.length,o.Ending,o.b6,o.Version⟩
 | none=>o
theorem JX (xs:List aC) (o:aA):(Ds xs o).aN.length=o.aN.length∧(Ds xs o).b6=o.b6∧(Ds xs o).Kind=o.Kind:=by
 unfold Ds
 cases ct xs o with
 | none=>exact ⟨rfl,rfl,rfl⟩
 | some fs=>exact ⟨A6 ..,rfl,rfl⟩
theorem aaH (xs:List aC) (o:aA):ct xs (Ds xs o)=ct xs o:=by
 have h:=JX xs o
 conv=>lhs;unfold ct
 rw [h.1,h.2.2]
 rfl
theorem Qu {k:Nat} {xs:List aC} {o:aA} (hk:4194304*2≤k) (hx:xs.length≤1048576) (ho:LD o):yD k xs o=some (Ds xs o):=by
 unfold yD Ds
 rw [Pt ho]
 simp only [Option.bind_some,ny (show 4194304≤k by omega) hx,share]
 cases hf:ct xs o with
 | none=>rfl
 | some fs=>
  have hl:=(iL hf).1
  have ho1:=ho.1
  simp only [Option.isSome_some,Option.getD_some,Bool.not_true,cond_false]
  have h:=VG (R:=Option aA) (x:=fs) (B:=0) (hG fs o.aN) (l:=fun k vs i=>iter (ts:=yC) (R:=aA) k (qN (fun (v45:aA) (v46:List UInt8) (v47:List UInt8) (v48:List UInt8) (v49:Bool) (v50:Int) (v51:List (List UInt8)) (v52:List (List UInt8))=>some (⟨v46,v47,v48,v51,v49,v52,v50⟩:aA))) fs i (⟨([]:List UInt8),([]:List UInt8),([]:List UInt8),[],false,[],(0:Int)⟩:aA) o.Kind o.Name o.aX o.Ending o.Version vs o.b6)
   (E:=some ⟨o.Kind,o.Name,o.aX,hG fs o.aN fs.length,o.Ending,o.b6,o.Version⟩)
   (fun k=>by simp only [iter,qN,cm,cond_false]<;>rfl)
   (fun k i hi _=>by
    have c8:i < (hG fs o.aN i).length:=by rw [A6];omega
    have Ug:i < o.aN.length:=by omega
    simp only [iter,qN,share,cf hi,bI hi,bI c8,cond_true,bL,bJ hi,bJ c8,bO (show fs.length≤1048576 by omega) hi]
    rw [MN Ug]
    cases hv:seq o.aN[i] [] with
    | true=>
     rw [← MO Ug hi]
     simp only [Sf,hv,cond_true]<;>rfl
    | false=>rw [← KY Ug hv];rfl) k (by omega)
  rw [Sg] at h
  exact h
theorem Uh {k:Nat} {xs:List aC} {o:aA} (hk:4194304*5≤k) (hx:jt aC.sd xs) (ho:LD o):tr k xs o=some (cond (eh xs) (Ds xs o) o):=by
 unfold tr Ds
 rw [VH ho]
 simp only [Option.bind_some,KX o (show 4194304≤k by omega) hx.1,share,xF,bL,xC hx hk]
 cases hf:ct xs o with
 | none=>cases eh xs<;>rfl
 | some fs=>
  have hl:=(iL hf).1
  have ho1:=ho.1
  simp only [Option.isSome_some,Option.getD_some,Bool.not_true,cond_false]
  cases eh xs with
  | false=>rfl
  | true=>
   have h:=VG (R:=Option aA) (x:=fs) (B:=0) (hG fs o.aN) (l:=fun k vs i=>iter (ts:=vH) (R:=aA) k (nu (fun (v72:List UInt8) (v73:List UInt8) (v74:List UInt8) (v75:Bool) (v76:Int) (v77:aA) (v78:List (List UInt8)) (v79:List (List UInt8))=>some (⟨v72,v73,v74,v78,v75,v79,v76⟩:aA))) fs (fs.length:Int) i o.Kind o.Name o.aX o.Ending o.Version (⟨([]:List UInt8),([]:List UInt8),([]:List UInt8),[],false,[],(0:Int)⟩:aA) vs o.b6)
    (E:=some ⟨o.Kind,o.Name,o.aX,hG fs o.aN fs.length,o.Ending,o.b6,o.Version⟩)
    (fun k=>by simp only [iter,nu,cm,cond_false]<;>rfl)
    (fun k i hi _=>by
     have c8:i < (hG fs o.aN i).length:=by rw [A6];omega
     have Ug:i < o.aN.length:=by omega
     simp only [iter,nu,share,cf hi,bI hi,bI c8,cond_true,bL,bJ hi,bJ c8,bO (show fs.length≤1048576 by omega) hi]
     rw [MN Ug]
     cases hv:seq o.aN[i] [] with
     | true=>
      rw [← MO Ug hi]
      simp only [Sf,hv,cond_true]<;>rfl
     | false=>rw [← KY Ug hv];rfl) k (by omega)
   rw [Sg] at h
   exact h
def B8 (fs:List aB):List Nm:=fs.map (·.Name)
def Oe (fs:List aB) (n:Nm):Nat:=(xB (fun f=>seq f.Name n) fs 0).toNat
def lC (fs:List aB) (vs:List Nm) (n:Nm):Nm:=vs.getD (Oe fs n) []
theorem KZ {fs:List aB} {n:Nm} (h:n∈B8 fs):xB (fun f=>seq f.Name n) fs 0=(Oe fs n:Int)∧∃ hj:Oe fs n < fs.length,fs[Oe fs n].Name=n:=by
 unfold Oe
 rcases eZ (fun f:aB=>seq f.Name n) fs with ⟨h1,h2⟩ | ⟨j,hj,h1,h2,h3⟩
 ·obtain ⟨f,hf,e⟩:=List.mem_map.1 h
  have:=List.find?_eq_none.1 h2 f hf
  rw [dQ.2 e] at this
  exact absurd rfl this
 ·rw [h1,Int.toNat_natCast]
  exact ⟨rfl,hj,dQ.1 h3⟩
theorem acG {fs:List aB} {a b:Nm} (ha:a∈B8 fs) (hb:b∈B8 fs) (h:Oe fs a=Oe fs b):a=b:=by
 obtain ⟨h1,e1⟩:=(KZ ha).2
 obtain ⟨h2,e2⟩:=(KZ hb).2
 rw [← e1,← e2];simp only [h]
theorem ad_ {fs:List aB} (hn:(B8 fs).Nodup) {i:Nat} (hi:i < fs.length):Oe fs fs[i].Name=i:=by
 have hm:fs[i].Name∈B8 fs:=List.mem_map_of_mem (dk hi)
 obtain ⟨h1,e1⟩:=(KZ hm).2
 have h2:(B8 fs)[Oe fs fs[i].Name]'(by simpa [B8] using h1)=(B8 fs)[i]'(by simpa [B8] using hi):=by simpa [B8] using e1
 exact (List.getElem_inj hn).1 h2
theorem aaI {fs:List aB} {vs:List Nm} {x y v:Nm} (hl:vs.length=fs.length) (hx:x∈B8 fs) (hy:y∈B8 fs):lC fs (vs.set (Oe fs x) v) y=if y=x then v else lC fs vs y:=by
 obtain ⟨h1,-⟩:=(KZ hx).2
 unfold lC
 by_cases e:y=x
 ·subst e
  rw [if_pos rfl]
  simp [List.getD,show Oe fs y < vs.length by omega]
 ·rw [if_neg e]
  have:Oe fs x≠Oe fs y:=fun h=>e (acG hy hx h.symm)
  simp [List.getD,List.getElem?_set,this]
theorem set_self {fs:List aB} {vs:List Nm} {x:Nm} (hl:vs.length=fs.length) (hx:x∈B8 fs):vs.set (Oe fs x) (lC fs vs x)=vs:=by
 obtain ⟨h1,-⟩:=(KZ hx).2
 refine List.ext_getElem (by simp) fun j h2 h3=>?_
 rw [List.getElem_set]
 by_cases e:Oe fs x=j
 ·rw [if_pos e];subst e;exact JT h3
 ·rw [if_neg e]
def K3 (kind name:Nm) (e:Nm→Nm) (m:aD):Option Nm:=
 cond (seq m.Kind kind&&(seq m.Field name&&(seq m.cT []||seq (e m.cT) m.Is))) (cond (seq m.cA []) (some m.rN) (cond (seq (e m.cA) []) none (some (e m.cA)))) none
def dec (ms:List aD) (kind:Nm) (e:Nm→Nm) (name:Nm):Option Nm:=first (fun _ m=>K3 kind name e m) ms 0
theorem W2 {kind name:Nm} {e e':Nm→Nm} {m:aD} (h:∀ y,y∈mB kind name m→e y=e' y):K3 kind name e m=K3 kind name e' m:=by
 unfold K3 mB at *
 cases h1:seq m.Kind kind with
 | false=>rfl
 | true=>
  cases h2:seq m.Field name with
  | false=>rfl
  | true=>
   rw [h1,h2] at h
   simp only [Bool.and_self,cond_true,List.mem_append] at h
   have hw:(seq m.cT []||seq (e m.cT) m.Is)=(seq m.cT []||seq (e' m.cT) m.Is):=by
    cases h3:seq m.cT [] with
    | true=>rfl
    | false=>rw [h m.cT (.inl (by rw [h3];simp))]
   have hf:(cond (seq m.cA []) (some m.rN) (cond (seq (e m.cA) []) none (some (e m.cA))))=(cond (seq m.cA []) (some m.rN) (cond (seq (e' m.cA) []) none (some (e' m.cA)))):=by
    cases h3:seq m.cA [] with
    | true=>rfl
    | false=>rw [h m.cA (.inr (by rw [h3];simp))]
   rw [hw,hf]
theorem Qv {ms:List aD} {kind name:Nm} {e e':Nm→Nm} (h:∀ y,y∈reads ms kind name→e y=e' y):dec ms kind e name=dec ms kind e' name:=by
 unfold dec
 refine Pd ms 0 fun j a ha=>W2 fun y hy=>h y ?_
 exact List.mem_flatMap.2 ⟨a,List.mem_of_getElem? ha,hy⟩
def B9 (fs:List aB) (ms:List aD) (kind:Nm) (vs:List Nm) (name:Nm):List Nm:=
 vs.set (Oe fs name) ((dec ms kind (lC fs vs) name).getD (lC fs vs name))
def Dt (fs:List aB) (ms:List aD) (kind:Nm) (row:List Nm) (vs:List Nm):List Nm:=row.foldl (B9 fs ms kind) vs
theorem Er (fs:List aB) (ms:List aD) (kind:Nm) (vs:List Nm) (name:Nm):(B9 fs ms kind vs name).length=vs.length:=by simp [B9]
theorem xG (fs:List aB) (ms:List aD) (kind:Nm):∀ (row vs:List Nm),(Dt fs ms kind row vs).length=vs.length
 | [],_=>rfl
 | a::r,vs=>by
  have:=xG fs ms kind r (B9 fs ms kind vs a)
  rw [Er] at this
  exact this
structure YK (fs:List aB) (ms:List aD) (kind:Nm) (vs:List Nm) (pre v:List Nm):Prop where
 len:v.length=fs.length
 eq:∀ n,n∈B8 fs→lC fs v n=if n∈pre then (dec ms kind (lC fs v) n).getD (lC fs vs n) else lC fs vs n
theorem W3 {fs:List aB} {ms:List aD} {kind:Nm} {vs:List Nm} {row:List Nm} (ht:Cv (reads ms kind) row) (hs:∀ y,y∈row→y∈B8 fs) {pre post v:List Nm} {x:Nm} (e:row=pre++x::post) (h:YK fs ms kind vs pre v):YK fs ms kind vs (pre++[x]) (B9 fs ms kind v x):=by
 have hx:x∈B8 fs:=hs x (by rw [e];simp)
 have AL:=ht.nd
 rw [e] at AL
 have hxp:x ∉ pre:=fun hm=>(List.nodup_append.1 AL).2.2 x hm x (by simp) rfl
 have Ub:∀ y,y∈pre→y∈B8 fs:=fun y hy=>hs y (by rw [e];simp [hy])
 have hrx:=ht.rd pre x post e
 have hrp:∀ n,n∈pre→∀ y,y∈reads ms kind n→y∈pre:=fun n hn y hy=>by
  obtain ⟨p,q,e'⟩:=List.append_of_mem hn
  have:=ht.rd p n (q++x::post) (by rw [e,e'];simp) y hy
  rw [e'];simp [this]
 have Ui:∀ y,y∈B8 fs→lC fs (B9 fs ms kind v x) y=if y=x then (dec ms kind (lC fs v) x).getD (lC fs v x) else lC fs v y:=fun y hy=>aaI h.len hx hy
 have Pv:∀ y,y∈pre→lC fs (B9 fs ms kind v x) y=lC fs v y:=fun y hy=>by
  rw [Ui y (Ub y hy),if_neg (show ¬ y=x from fun e2=>by subst e2;exact hxp hy)]
 refine ⟨by rw [Er];exact h.len,fun n hn=>?_⟩
 by_cases hnx:n=x
 ·subst hnx
  rw [if_pos (by simp),Ui n hn,if_pos rfl,h.eq n hn,if_neg hxp,Qv fun y hy=>Pv y (hrx y hy)]
 ·rw [Ui n hn,if_neg hnx,h.eq n hn]
  by_cases hp:n∈pre
  ·rw [if_pos hp,if_pos (by simp [hp]),Qv fun y hy=>Pv y (hrp n hp y hy)]
  ·rw [if_neg hp,if_neg (by simp [hp,hnx])]
theorem Pw {fs:List aB} {ms:List aD} {kind:Nm} {vs:List Nm} {row:List Nm} (ht:Cv (reads ms kind) row) (hs:∀ y,y∈row→y∈B8 fs):∀ (post pre v:List Nm),row=pre++post→YK fs ms kind vs pre v→YK fs ms kind vs row (Dt fs ms kind post v)
 | [],pre,v,e,h=>by
  rw [List.append_nil] at e
  rw [e];exact h
 | x::post,pre,v,e,h=>Pw ht hs post (pre++[x]) (B9 fs ms kind v x) (by rw [e];simp) (W3 ht hs e h)
theorem Sh {fs:List aB} {ms:List aD} {kind:Nm} {vs:List Nm} {row:List Nm} (hl:vs.length=fs.length) (hL:Full (reads ms kind) (B8 fs) row):YK fs ms kind vs row (Dt fs ms kind row vs):=
 Pw hL.LC hL.sub row [] vs rfl ⟨hl,fun n _=>by simp⟩
theorem Si {fs:List aB} {ms:List aD} {kind:Nm} {vs:List Nm} {r1 r2:List Nm} (hn:(B8 fs).Nodup) (hl:vs.length=fs.length) (h1:Full (reads ms kind) (B8 fs) r1) (h2:Full (reads ms kind) (B8 fs) r2):Dt fs ms kind r1 vs=Dt fs ms kind r2 vs:=by
 have i1:=Sh hl h1
 have i2:=Sh hl h2
 have key:∀ m n,n∈r1→r1.idxOf n < m→lC fs (Dt fs ms kind r1 vs) n=lC fs (Dt fs ms kind r2 vs) n:=by
  intro m
  induction m with
  | zero=>intro n _ h;omega
  | succ m ih=>
   intro n hm hi
   have hN:=h1.sub n hm
   rw [i1.eq n hN,i2.eq n hN,if_pos hm,if_pos (h2.all n hN),Qv fun y hy=>ih y (h1.LC.lt hm hy).1 (by have:=(h1.LC.lt hm hy).2;omega)]
 refine List.ext_getElem (by rw [xG,xG]) fun i h3 h4=>?_
 have hi:i < fs.length:=by rw [xG] at h3;omega
 have hN:fs[i].Name∈B8 fs:=List.mem_map_of_mem (dk hi)
 have:=key _ fs[i].Name (h1.all _ hN) (Nat.lt_succ_self _)
 unfold lC at this
 rw [ad_ hn hi,JT h3,JT h4] at this
 exact this
theorem Sj {ms:List aD} {s:aC} (h:(sK ms s).length=s.aT.length):Full (reads ms s.Kind) (names s) (sK ms s):=by
 obtain ⟨h1,h2⟩:=Pn ms s
 refine ⟨h1,fun y hy=>?_,h2⟩
 cases hc:A5 (sK ms s) y with
 | true=>exact xD.1 hc
 | false=>
  have hny:y ∉ sK ms s:=fun hm=>by rw [xD.2 hm] at hc;cases hc
  have h3:(y::sK ms s).Nodup:=List.nodup_cons.2 ⟨hny,h1.nd⟩
  have h4:=h3.length_le_of_subset (l₂:=names s) fun z hz=>by
   rcases List.mem_cons.1 hz with e | e
   ·exact e▸hy
   ·exact h2 z e
  simp only [List.length_cons,names,List.length_map] at h4
  omega
theorem FY {xs:List aC} {ms:List aD} (h:fM xs ms=true) {s:aC} (hs:s∈xs):
  (B8 s.aT).Nodup∧s.aT.length≤6∧Full (reads ms s.Kind) (B8 s.aT) (sK ms s)∧(∀ x y,y∈reads ms s.Kind x→y∈B8 s.aT)∧ms.length≤12:=by
 simp only [fM,eh,Bool.and_eq_true,List.all_eq_true] at h
 obtain ⟨⟨h1,h2,h3⟩,h4,h5,h6⟩:=h
 have Ig:=h3 s hs
 simp only [nx,Bool.and_eq_true] at Ig
 have h7:=h6 s hs
 simp only [bM,beq_iff_eq] at h7
 refine ⟨(Dr Ig.2.2).1,by have:=rn Ig.1;omega,Sj (by omega),fun x y hy=>?_,by have:=rn h4;omega⟩
 obtain ⟨m,hm1,hm2⟩:=List.mem_flatMap.1 hy
 exact Pr (Pe h2) hs (h5 m hm1) hm2
def K4 (xs:List aC) (ms:List aD) (o:aA):aA:=match xs.find? fun s=>seq s.Kind o.Kind with
 | some s=>cond (bM (s.aT.length:Int) (o.aN.length:Int)) ⟨o.Kind,o.Name,o.aX,Dt s.aT ms o.Kind (sK ms s) o.aN,o.Ending,o.b6,o.Version⟩ o
 | none=>o
def wa (xs:List aC) (ms:List aD) (o:aA):aA:=K4 xs ms (Ds xs o)
end Go.Proofs.YtljfmaaadnoggaaGreatDoor.Pu
