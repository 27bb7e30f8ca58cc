/- Plain words and laws. No condition. -/
import Derived.Test.YtljfmaaadnoggaaGreatDoorMw1
set_option linter.unusedSimpArgs false
set_option linter.unusedVariables false
namespace Go.Proofs.YtljfmaaadnoggaaGreatDoor.Pu
open Go Go.RowKit Go.Proofs.YtljfmaaadnoggaaGreatDoor.cX Go.Proofs.YtljfmaaadnoggaaGreatDoor.Fn
theorem Pf {k:Nat} {o:aA} {fs:List aB} (hk:4194304*2≤k) (ho:o.sd) (hl:fs.length=o.aN.length) (hf:∀ f,f∈fs→f.Words.length≤1048576):
  iter (ts:=lQ) (R:=Int×Int) k (iT (some (0,0))) o fs (0:Int)=some ((first (Pe o.aN) fs 0).getD (0,0)):=by
 have hv:=ho.2.2.2.1
 have h:=I7 (R:=Option (Int×Int)) (x:=fs) (g:=Pe o.aN) (B:=4194304) (l:=fun k i=>iter (ts:=lQ) (R:=Int×Int) k (iT (some (0,0))) o fs i) (E:=some (0,0)) (O:=fun c=>some c)
  (fun k=>by simp only [iter,iT,cf,cond_false]<;>rfl)
  (fun k i hi hb=>by
   have c9:i < o.aN.length:=by omega
   have hh:=hv.1
   simp only [iter,iT,share,b6 hi,bF hi,bF c9,cond_true,bK,bR hi,bR c9,bH (n:=fs.length) (by omega) hi,I8 hb (hf _ (dG hi)) (hv.2 _ (dG c9)),Option.bind_some,Pe,L_ c9]
   cases seq o.aN[i] []<;>cases fs[i].cR<;>cases fits fs[i] o.aN[i]<;>rfl) k (by have:=hv.1;omega)
 refine h.trans ?_
 cases first (Pe o.aN) fs 0<;>rfl
def yh (xs:List aC) (o:aA):Int×Int:=
 cond (Pd xs o) ((first (Pe o.aN) ((cx xs o).getD []) 0).getD (0,0)) (1,0)
theorem Ra {k:Nat} {xs:List aC} {o:aA} (hk:4194304*4≤k) (hx:gW aC.sd xs) (ho:o.sd):x7 k xs o=some (yh xs o):=by
 have LF:=ho
 obtain ⟨h1,h2,h3,h4,-,h5,-⟩:=ho
 unfold x7 yh Pd
 simp only [share,oP (show 4194304≤k by omega) hx.1,eL (show 4194304≤k by omega) h2,eL (show 4194304≤k by omega) h3,Ix (show 8388608≤k by omega) h5,OZ,Option.bind_some,cO]
 cases hf:cx xs o with
 | none=>rfl
 | some fs=>
  obtain ⟨e1,s,e2,e3⟩:=jA hf
  have go:=Pf (k:=k) (by omega) LF e1 (fun f hfm=>by
   have:=((hx.2 s e2).2.2 f (by rw [e3];exact hfm)).2.2.2.2.1
   exact this.1)
  simp only [Option.isSome_some,Option.getD_some]
  cases cH o.Name<;>cases cH o.aZ<;>cases ck (o.bX.length:Int) 3<;>cases qQ o.bX<;>cases ck 0 o.Version&&ck o.Version 1000000<;>first | rfl | (refine (show _=((iter (ts:=lQ) (R:=Int×Int) k (iT (some (0,0))) o fs (0:Int)).bind fun v5=>some (v5.1,v5.2)) from rfl).trans ?_;rw [go];rfl) | exact go
theorem ai0 (k:Nat) (f:cZ):BU k f=some (f.code,f.place):=rfl
def ahi:Option (Int×Int)→Unit ⊕ (cZ ⊕ cZ)
 | none=>.inl ()
 | some (c,p)=>.inr (.inl ⟨c,p⟩)
theorem Kw {k:Nat} {xs:List aC} {o:aA} {fs:List aB} (hk:4194304*2≤k) (hx:gW aC.sd xs) (ho:o.sd) (hf:cx xs o=some fs):oK k xs o=some (ahi (first (Pe o.aN) fs 0)):=by
 obtain ⟨hl,s,e2,e3⟩:=jA hf
 have hv:=ho.2.2.2.1
 unfold oK
 rw [yg (by omega) hx.1,hf]
 have h:=I7 (R:=Option (Unit ⊕ (cZ ⊕ cZ))) (x:=fs) (g:=Pe o.aN) (B:=4194304) (l:=fun k i=>iter (ts:=sN) (R:=Unit ⊕ (cZ ⊕ cZ)) k (kl (some (.inl ()))) o fs (fs.length:Int) i) (E:=some (.inl ())) (O:=fun c=>some (.inr (.inl ⟨c.1,c.2⟩)))
  (fun k=>by simp only [iter,kl,cf,cond_false]<;>rfl)
  (fun k i hi hb=>by
   have c9:i < o.aN.length:=by omega
   have hh:=hv.1
   have hw:fs[i].Words.length≤1048576:=((hx.2 s e2).2.2 fs[i] (by rw [e3];exact dG hi)).2.2.2.2.1.1
   simp only [iter,kl,share,b6 hi,bF hi,bF c9,cond_true,bK,bR hi,bR c9,uG hb hw (hv.2 _ (dG c9)),Option.bind_some,Pe,L_ c9]
   rw [bH (n:=fs.length) (by omega) hi]
   cases seq o.aN[i] []<;>cases fs[i].cR<;>cases fits fs[i] o.aN[i]<;>rfl) k (by have:=hv.1;omega)
 simp only [share,Option.bind_some,Option.getD_some]
 refine h.trans ?_
 cases first (Pe o.aN) fs 0<;>rfl
theorem NU {k:Nat} {xs:List aC} {o:aA} (hk:4194304*5≤k) (hx:gW aC.sd xs) (ho:o.sd):sO k xs o=some (cond (eM xs&&Pd xs o) (.inr ()) (.inl ⟨1,0⟩)):=by
 obtain ⟨h1,h2,h3,h4,-,h5,-⟩:=ho
 unfold sO Pd
 simp only [share,zI hx hk,yg (show 4194304≤k by omega) hx.1,gG (show 4194304≤k by omega) h2,gG (show 4194304≤k by omega) h3,uH (show 8388608≤k by omega) h5,Option.bind_some,cO]
 cases (cx xs o).isSome<;>cases eM xs<;>cases cH o.Name<;>cases cH o.aZ<;>cases ck (o.bX.length:Int) 3<;>cases qQ o.bX<;>cases ck 0 o.Version<;>cases ck o.Version 1000000<;>rfl
theorem U3 {k:Nat} {xs:List aC} {o:aA} (hk:4194304*6≤k) (hx:gW aC.sd xs) (ho:o.sd):rL k xs o=some (S_ xs o):=by
 obtain ⟨k,rfl⟩:∃ q,k=q+3:=⟨k-3,by omega⟩
 unfold rL S_
 simp only [share,iter,AO]
 rw [show bO 0 2=true from rfl,show bL 0 0=true from rfl]
 simp only [cond_true,NU (show 4194304*5≤k+2 by omega) hx ho,Option.bind_some]
 cases hs:eM xs&&Pd xs o with
 | false=>rfl
 | true=>
  simp only [cond_true,afo]
  rw [show aQ .i64 0 1=1 from rfl,show bO 1 2=true from rfl,show bL 1 0=false from rfl,show bL 1 1=true from rfl]
  cases hf:cx xs o with
  | none=>simp [Pd,hf] at hs
  | some fs=>
   simp only [cond_true,cond_false,Kw (show 4194304*2≤k+1 by omega) hx ho hf,Option.bind_some,Option.getD_some]
   cases hb:first (Pe o.aN) fs 0 with
   | none=>rfl
   | some c=>rfl
theorem Ma {k:Nat} {fs:List aB} {n:List UInt8} (hk:4194304≤k) (hx:fs.length≤1048576):eC k fs n=some (zH (fun f=>seq f.Name n) fs 0):=by
 unfold eC
 simp only [share]
 exact rD (x:=fs) (p:=fun f=>seq f.Name n) (l:=fun k i=>iter (ts:=yV) (R:=Int) k (qg (some (-1))) fs n i)
  (fun k=>by simp only [iter,qg,cf,cond_false]<;>rfl)
  (fun k i hi=>by simp only [iter,qg,b6 hi,bF hi,cond_true,bK,bR hi,bH hx hi]<;>rfl) k (by omega)
theorem Mb {k:Nat} {fs:List aB} {n:List UInt8} (hk:4194304≤k) (hx:fs.length≤1048576):fC k fs n=some (zH (fun f=>seq f.Name n) fs 0):=by
 unfold fC
 simp only [share]
 exact rD (x:=fs) (p:=fun f=>seq f.Name n) (l:=fun k i=>iter (ts:=zf) (R:=Int) k (qp (some (-1))) n fs (fs.length:Int) i)
  (fun k=>by simp only [iter,qp,cf,cond_false]<;>rfl)
  (fun k i hi=>by simp only [iter,qp,b6 hi,bF hi,cond_true,bK,bR hi,bH hx hi]<;>rfl) k (by omega)
def I9 (fs:List aB) (n:List UInt8):Option aB:=fs.find? fun f=>seq f.Name n
def nY (fs:List aB) (n:List UInt8):Bool:=match I9 fs n with
 | some f=>!bL f.Kind 4
 | none=>false
theorem Z6 {k:Nat} {fs:List aB} {n:List UInt8} (hk:4194304≤k) (hx:fs.length≤1048576):lP k fs n=some (nY fs n):=by
 unfold lP
 rw [Ma hk hx]
 simp only [Option.bind_some,nY,I9]
 rcases fv (fun f:aB=>seq f.Name n) fs with ⟨h1,h2⟩ | ⟨j,hj,h1,h2,_⟩
 ·rw [h1,h2];rfl
 ·rw [h1,h2,Iv (by omega),bF hj,bR hj];rfl
theorem Z7 {k:Nat} {fs:List aB} {n:List UInt8} (hk:4194304≤k) (hx:fs.length≤1048576):jK k n fs=some (nY fs n,fs):=by
 unfold jK
 rw [Mb hk hx]
 simp only [Option.bind_some,nY,I9]
 rcases fv (fun f:aB=>seq f.Name n) fs with ⟨h1,h2⟩ | ⟨j,hj,h1,h2,_⟩
 ·rw [h1,h2];rfl
 ·rw [h1,h2,Iv (by omega),bF hj,bR hj];rfl
def U4 (fs:List aB) (n v:List UInt8):Bool:=match I9 fs n with
 | some f=>fits f v
 | none=>false
def Mc (fs:List aB) (m:aD):Bool:=
 nY fs m.Field&&((seq m.cY []||nY fs m.cY)&&((seq m.cF []||nY fs m.cF)&&(!seq m.cY m.Field&&(!seq m.cF m.Field&&((!seq m.cY []||seq m.Is [])&&(!cX.beq (seq m.tz []) (seq m.cF [])&&(seq m.tz []||U4 fs m.Field m.tz)))))))
def nZ (xs:List aC) (m:aD):Bool:=match xs.find? fun s=>seq s.Kind m.Kind with
 | some s=>Mc s.aU m
 | none=>false
theorem Nc {fs:List aB} {n:List UInt8} (h:nY fs n=true):∃ j,∃ hj:j < fs.length,zH (fun f=>seq f.Name n) fs 0=(j:Int)∧I9 fs n=some fs[j]:=by
 unfold nY I9 at *
 rcases fv (fun f:aB=>seq f.Name n) fs with ⟨h1,h2⟩ | ⟨j,hj,h1,h2,_⟩
 ·rw [h2] at h;cases h
 ·exact ⟨j,hj,h1,h2⟩
theorem W7 {k:Nat} {xs:List aC} {m:aD} (hk:4194304≤k) (hx:gW aC.sd xs) (hm:m.sd):uZ k xs m=some (nZ xs m):=by
 unfold uZ nZ
 rw [GS hk hx.1,GU]
 simp only [Option.bind_some]
 rcases fv (fun s:aC=>seq s.Kind m.Kind) xs with ⟨h1,h2⟩ | ⟨j,hj,h1,h2,_⟩
 ·rw [h1,h2];rfl
 ·have hs:=hx.2 _ (dG hj)
  obtain ⟨-,m2,m3,m4,m5,m6⟩:=hm
  rw [h1,h2,eh (by omega),bF hj,bR hj]
  simp only [cond_false,bK,share,Z6 hk hs.2.1,Option.bind_some,Mc]
  generalize hF:xs[j].aU=fs at *
  cases hp:nY fs m.Field with
  | false=>rfl
  | true=>
   obtain ⟨q,hq,q1,q2⟩:=Nc hp
   have afr:U4 fs m.Field m.tz=fits fs[q] m.tz:=by unfold U4;rw [q2]
   rw [Ma hk (by rw [← hF];exact hs.2.1),q1,afr]
   simp only [Option.bind_some,bF hq,bK,bR hq]
   rw [I8 hk (by subst hF;exact (hs.2.2 _ (dG hq)).2.2.2.2.1.1) m5]
   cases seq m.cY []<;>cases nY fs m.cY<;>cases seq m.cF []<;>cases nY fs m.cF<;>cases seq m.cY m.Field<;>cases seq m.cF m.Field<;>cases seq m.Is []<;>cases seq m.tz []<;>rfl
theorem W8 {k:Nat} {fs:List aB} {m:aD} (hk:4194304≤k) (hx:gW aB.sd fs) (hm:m.sd):AM k fs m=some (Mc fs m):=by
 unfold AM
 obtain ⟨-,m2,m3,m4,m5,m6⟩:=hm
 simp only [share,Z7 hk hx.1,Option.bind_some,Mc]
 cases hp:nY fs m.Field with
 | false=>rfl
 | true=>
  obtain ⟨q,hq,q1,q2⟩:=Nc hp
  have afr:U4 fs m.Field m.tz=fits fs[q] m.tz:=by unfold U4;rw [q2]
  rw [Mb hk hx.1,q1,afr]
  simp only [Option.bind_some,bF hq,bK,bR hq]
  rw [uG hk (hx.2 _ (dG hq)).2.2.2.2.1.1 m5]
  cases seq m.cY []<;>cases nY fs m.cY<;>cases seq m.cF []<;>cases nY fs m.cF<;>cases seq m.cY m.Field<;>cases seq m.cF m.Field<;>cases seq m.Is []<;>cases seq m.tz []<;>rfl
def n4 (kind name:Nm) (m:aD):List Nm:=cond (seq m.Kind kind&&seq m.Field name) ((cond (seq m.cY []) [] [m.cY])++(cond (seq m.cF []) [] [m.cF])) []
def reads (ms:List aD) (kind name:Nm):List Nm:=ms.flatMap (n4 kind name)
theorem Pg {α β:Type} (g:α→List β):∀ (l:List α) (a:List β),l.foldl (fun acc m=>acc++g m) a=a++l.flatMap g
 | [],a=>by simp
 | m::r,a=>by rw [List.foldl_cons,Pg g r];simp
theorem Ph (kind name:Nm) (m:aD):(n4 kind name m).length≤2:=by
 unfold n4
 cases seq m.Kind kind&&seq m.Field name<;>cases seq m.cY []<;>cases seq m.cF []<;>simp
theorem aby {k:Nat} {name:Nm} {ms:List aD} {s:aC} (hk:4194304≤k) (hm:ms.length≤1048576):ye k name ms s=some (reads ms s.Kind name,ms,s):=by
 unfold ye
 simp only [share]
 have h:=hY (S:=List Nm) (x:=ms) (f:=fun acc m=>acc++n4 s.Kind name m) (B:=0)
  (l:=fun k acc i=>iter (ts:=zg) (R:=(List (List UInt8))×(List aD)×aC) k (qt fun UP v62 v63=>some (v63,UP,v62)) name ms (ms.length:Int) i ms s acc) (J:=fun acc=>some (acc,ms,s)) (fun i acc=>acc.length≤2*i)
  (fun k acc _=>by simp only [iter,qt,cf,cond_false]<;>rfl)
  (fun k i acc hi _ hI=>⟨by
   simp only [iter,qt,share,b6 hi,bF hi,cond_true,bK,bR hi,bH hm hi,n4]
   rw [pt (by simp;omega) (by omega),pt (by simp;omega) (by omega),pt (by simp;omega) (by omega)]
   cases seq ms[i].Kind s.Kind<;>cases seq ms[i].Field name<;>cases seq ms[i].cY []<;>cases seq ms[i].cF []<;>simp [bK]<;>rfl,by
   have:=Ph s.Kind name ms[i]
   simp only [List.length_append];omega⟩) k [] (by omega) (by simp)
 refine h.trans ?_
 rw [Pg];rfl
def C9 (row:List Nm) (y:Nm):Bool:=row.any fun z=>seq z y
theorem zJ {row:List Nm} {y:Nm}:C9 row y=true↔y∈row:=by
 simp only [C9,List.any_eq_true,ee]
 exact ⟨fun ⟨z,h1,h2⟩=>h2▸h1,fun h=>⟨y,h,rfl⟩⟩
def Pj (ms:List aD) (kind name:Nm) (row:List Nm):Bool:=(reads ms kind name).all (C9 row)
theorem RN {k:Nat} {ms:List aD} {kind name:Nm} {row:List Nm} (hk:8388608≤k) (hm:ms.length≤1048576) (hr:row.length≤1048576):sq k ms kind name row=some (Pj ms kind name row):=by
 unfold sq
 simp only [share]
 have h:=gF (x:=ms) (p:=fun m=>(n4 kind name m).all (C9 row)) (B:=4194304) (l:=fun k i=>iter (ts:=yW) (R:=Bool) k (qh (some true)) ms kind name row i) (E:=some true) (O:=some false)
  (fun k=>by simp only [iter,qh,cf,cond_false]<;>rfl)
  (fun k i hi hb=>by
   simp only [iter,qh,share,b6 hi,bF hi,cond_true,bK,bR hi,bH hm hi,Oe hb hr,Option.bind_some,n4]
   have e1:(row.any fun y=>seq y ms[i].cY)=C9 row ms[i].cY:=rfl
   have e2:(row.any fun y=>seq y ms[i].cF)=C9 row ms[i].cF:=rfl
   rw [e1,e2]
   cases seq ms[i].Kind kind<;>cases seq ms[i].Field name<;>cases seq ms[i].cY []<;>cases seq ms[i].cF []<;>cases hw:C9 row ms[i].cY<;>cases hf:C9 row ms[i].cF<;>simp [hw,hf]<;>rfl) k (by omega)
 refine h.trans ?_
 unfold Pj reads
 rw [List.all_flatMap]
 cases ms.all fun a=>(n4 kind name a).all (C9 row)<;>rfl
def Ed (ms:List aD) (s:aC) (row:List Nm) (f:aB):Bool:=!C9 row f.Name&&Pj ms s.Kind f.Name row
def zK (ms:List aD) (s:aC) (row:List Nm):List Nm:=match s.aU.find? (Ed ms s row) with
 | some f=>row++[f.Name]
 | none=>row
def uI (ms:List aD) (s:aC):List Nm:=s.aU.foldl (fun row _=>zK ms s row) []
theorem RO (ms:List aD) (s:aC) (row:List Nm):(zK ms s row).length≤row.length+1:=by
 unfold zK
 split<;>simp
theorem adx {k:Nat} {ms:List aD} {s:aC} (hk:4194304*4≤k) (hm:ms.length≤1048576) (hs:s.aU.length≤1048576):CQ k s ms=some (uI ms s):=by
 unfold CQ
 simp only [share]
 have inner:∀ (J:List aD→aC→Int→List Nm→Option (List Nm)) (n:Int) (row:List Nm) (k:Nat),4194304*3≤k→row.length≤1048576→
   iter (ts:=uz) (R:=List (List UInt8)) k (pO J) ms s n (0:Int) row=J ms s n (zK ms s row):=by
  intro J n row k hk hr
  have h:=GQ (x:=s.aU) (p:=Ed ms s row) (B:=8388608) (l:=fun k i=>iter (ts:=uz) (R:=List (List UInt8)) k (pO J) ms s n i row) (E:=J ms s n row) (O:=fun f=>J ms s n (row++[f.Name]))
   (fun k=>by simp only [iter,pO,cf,cond_false]<;>rfl)
   (fun k i hi hb=>by
    simp only [iter,pO,share,b6 hi,bF hi,cond_true,bK,bR hi,bH hs hi,Oe (show 4194304≤k by omega) hr,RN hb hm hr,Option.bind_some,Ed]
    rw [pt (by simp;omega) (by omega)]
    have e1:(row.any fun y=>seq y s.aU[i].Name)=C9 row s.aU[i].Name:=rfl
    rw [e1]
    cases C9 row s.aU[i].Name<;>cases Pj ms s.Kind s.aU[i].Name row<;>rfl) k (by omega)
  refine h.trans ?_
  unfold zK
  cases s.aU.find? (Ed ms s row)<;>rfl
 have h:=hY (S:=List Nm) (x:=s.aU) (f:=fun row _=>zK ms s row) (B:=4194304*3) (l:=fun k row i=>iter (ts:=BN) (R:=List (List UInt8)) k (u4 fun v=>some v) ms s i row) (J:=fun row=>some row) (fun i row=>row.length≤i)
  (fun k row _=>by simp only [iter,u4,cf,cond_false]<;>rfl)
  (fun k i row hi hb hI=>⟨by
   simp only [iter,u4,share,b6 hi,cond_true]
   refine (inner _ _ _ _ hb (by omega)).trans ?_
   rw [bH hs hi],Nat.le_trans (RO ms s row) (by omega)⟩) k [] (by omega) (by simp)
 exact h
section
variable (R:Nm→List Nm) (N:List Nm)
structure EG (out:List Nm):Prop where
 nd:out.Nodup
 rd:∀ pre x post,out=pre++x::post→∀ y,y∈R x→y∈pre
structure Full (L:List Nm):Prop where
 NV:EG R L
 all:∀ y,y∈N→y∈L
 sub:∀ y,y∈L→y∈N
variable {R N}
theorem EG.nil:EG R []:=⟨List.nodup_nil,fun pre x post h=>by simp at h⟩
theorem EG.snoc {out:List Nm} {x:Nm} (h:EG R out) (hx:x ∉ out) (hr:∀ y,y∈R x→y∈out):EG R (out++[x]):=by
 refine ⟨List.nodup_append.2 ⟨h.nd,by simp,fun a ha b hb=>by simp at hb;subst hb;exact fun e=>hx (e▸ha)⟩,fun pre z post e y hy=>?_⟩
 rcases List.append_eq_append_iff.1 e with ⟨cs,h1,h2⟩ | ⟨bs,h1,h2⟩
 ·cases cs with
  | nil=>
   simp only [List.nil_append,List.cons.injEq] at h2
   rw [List.append_nil] at h1
   rw [h1]
   exact hr y (h2.1▸hy)
  | cons a cs=>simp at h2
 ·cases bs with
  | nil=>
   simp only [List.nil_append,List.cons.injEq] at h2
   rw [List.append_nil] at h1
   rw [← h1]
   exact hr y (h2.1▸hy)
  | cons b bs=>
   simp only [List.cons_append,List.cons.injEq] at h2
   obtain ⟨rfl,_⟩:=h2
   exact h.rd pre z bs h1 y hy
theorem EG.lt {L:List Nm} (h:EG R L) {x y:Nm} (hx:x∈L) (hy:y∈R x):y∈L∧L.idxOf y < L.idxOf x:=by
 obtain ⟨pre,post,e⟩:=List.append_of_mem hx
 have hp:=h.rd pre x post e y hy
 have Ck:=h.nd
 rw [e] at Ck
 have hxp:x ∉ pre:=fun hm=>(List.nodup_append.1 Ck).2.2 x hm x (by simp) rfl
 refine ⟨by rw [e];simp [hp],?_⟩
 rw [e,List.idxOf_append,if_pos hp,List.idxOf_append,if_neg hxp,List.idxOf_cons_self,Nat.zero_add]
 exact List.idxOf_lt_length_iff.2 hp
end
theorem Nd (ms:List aD) (s:aC) (row:List Nm):(∃ f,f∈s.aU∧f.Name ∉ row∧(∀ y,y∈reads ms s.Kind f.Name→y∈row)∧zK ms s row=row++[f.Name])∨
  ((∀ f,f∈s.aU→Ed ms s row f=false)∧zK ms s row=row):=by
 unfold zK
 cases h:s.aU.find? (Ed ms s row) with
 | some f=>
  have h1:=List.find?_some h
  simp only [Ed,Bool.and_eq_true,Bool.not_eq_true'] at h1
  refine .inl ⟨f,List.mem_of_find?_eq_some h,fun hm=>?_,fun y hy=>?_,rfl⟩
  ·rw [zJ.2 hm] at h1;cases h1.1
  ·exact zJ.1 (List.all_eq_true.1 h1.2 y hy)
 | none=>exact .inr ⟨fun f hf=>by simpa using List.find?_eq_none.1 h f hf,rfl⟩
def names (s:aC):List Nm:=s.aU.map (·.Name)
theorem RP (ms:List aD) (s:aC):EG (reads ms s.Kind) (uI ms s)∧∀ y,y∈uI ms s→y∈names s:=by
 have key:∀ (l:List aB) (row:List Nm),EG (reads ms s.Kind) row→(∀ y,y∈row→y∈names s)→EG (reads ms s.Kind) (l.foldl (fun row _=>zK ms s row) row)∧∀ y,y∈l.foldl (fun row _=>zK ms s row) row→y∈names s:=by
  intro l
  induction l with
  | nil=>exact fun row h1 h2=>⟨h1,h2⟩
  | cons a r ih=>
   intro row h1 h2
   rw [List.foldl_cons]
   rcases Nd ms s row with ⟨f,q1,q2,q3,q4⟩ | ⟨_,q⟩
   ·rw [q4]
    refine ih _ (h1.snoc q2 q3) fun y hy=>?_
    rcases List.mem_append.1 hy with h | h
    ·exact h2 y h
    ·simp at h;subst h;exact List.mem_map_of_mem q1
   ·rw [q];exact ih _ h1 h2
 exact key s.aU [] EG.nil (fun y h=>by cases h)
theorem Z8 {ms:List aD} {s:aC} (Ck:(names s).Nodup) {L:List Nm} (hL:Full (reads ms s.Kind) (names s) L):(uI ms s).length=s.aU.length:=by
 have hlen:(names s).length=s.aU.length:=by simp [names]
 have step:∀ row:List Nm,row.Nodup→(∀ y,y∈row→y∈names s)→row.length < s.aU.length→∃ f,f∈s.aU∧Ed ms s row f=true:=by
  intro row h1 h2 h3
  have:∃ x,L.find? (fun y=>!C9 row y)=some x:=by
   cases h:L.find? (fun y=>!C9 row y) with
   | some x=>exact ⟨x,rfl⟩
   | none=>
    have n5:=List.find?_eq_none.1 h
    have jM:∀ y,y∈names s→y∈row:=fun y hy=>by
     have:=n5 y (hL.all y hy)
     simp only [Bool.not_eq_true',Bool.not_eq_false] at this
     exact zJ.1 (by simpa using this)
    have:=Ck.length_le_of_subset jM
    omega
  obtain ⟨x,hx⟩:=this
  have hxL:=List.mem_of_find?_eq_some hx
  obtain ⟨f,hf,rfl⟩:=List.mem_map.1 (hL.sub x hxL)
  refine ⟨f,hf,?_⟩
  simp only [Ed,Bool.and_eq_true]
  refine ⟨List.find?_some (p:=fun y=>!C9 row y) hx,List.all_eq_true.2 fun y hy=>?_⟩
  obtain ⟨hp,pre,post,e,W9⟩:=List.find?_eq_some_iff_append.1 hx
  have:=W9 y (hL.NV.rd pre f.Name post e y hy)
  simpa using this
 have key:∀ (l:List aB) (row:List Nm),row.Nodup→(∀ y,y∈row→y∈names s)→EG (reads ms s.Kind) row→row.length+l.length=s.aU.length→(l.foldl (fun row _=>zK ms s row) row).length=s.aU.length:=by
  intro l
  induction l with
  | nil=>intro row _ _ _ h;simpa using h
  | cons a r ih=>
   intro row h1 h2 h4 h3
   rw [List.length_cons] at h3
   rw [List.foldl_cons]
   rcases Nd ms s row with ⟨f,q1,q2,q3,q4⟩ | ⟨q1,_⟩
   ·rw [q4]
    have ht:=h4.snoc q2 q3
    refine ih _ ht.nd (fun y hy=>?_) ht (by simp;omega)
    rcases List.mem_append.1 hy with h | h
    ·exact h2 y h
    ·simp at h;subst h;exact List.mem_map_of_mem q1
   ·obtain ⟨f,hf,hn⟩:=step row h1 h2 (by omega)
    rw [q1 f hf] at hn;cases hn
 exact key s.aU [] List.nodup_nil (fun y h=>by cases h) EG.nil (by simp)
theorem abz {ms:List aD} {s:aC} (Ck:(names s).Nodup):(uI ms s).length=s.aU.length↔∃ L,Full (reads ms s.Kind) (names s) L:=by
 constructor
 ·intro h
  obtain ⟨h1,h2⟩:=RP ms s
  refine ⟨uI ms s,h1,fun y hy=>?_,h2⟩
  cases hc:C9 (uI ms s) y with
  | true=>exact zJ.1 hc
  | false=>
   have hny:y ∉ uI ms s:=fun hm=>by rw [zJ.2 hm] at hc;cases hc
   have h3:(y::uI ms s).Nodup:=List.nodup_cons.2 ⟨hny,h1.nd⟩
   have h4:=h3.length_le_of_subset (l₂:=names s) fun z hz=>by
    rcases List.mem_cons.1 hz with e | e
    ·exact e▸hy
    ·exact h2 z e
   simp only [List.length_cons,names,List.length_map] at h4
   omega
 ·rintro ⟨L,hL⟩
  exact Z8 Ck hL
def U5 (n:Nm) (v:Int) (st:List cq):List cq:=lb (fun p:cq=>seq n p.Key) st ⟨n,v⟩
theorem RQ (n n':Nm) (v:Int) (st:List cq):iN n' (U5 n v st)=cond (seq n' n) v (iN n' st):=L8 (key:=cq.Key) (y:=⟨n,v⟩)
theorem fS (n:Nm) (v:Int) (st:List cq):iN n (U5 n v st)=v:=by rw [RQ,FI];rfl
theorem afs {a b:Nm} (h:a≠b):seq a b=false:=by
 cases e:seq a b with
 | false=>rfl
 | true=>exact absurd (ee.1 e) h
theorem dT {n n':Nm} (h:n'≠n) (v:Int) (st:List cq):iN n' (U5 n v st)=iN n' st:=by rw [RQ,afs h];rfl
section
variable {ms:List aD} {s:aC} {R:Nm→List Nm} {N:List Nm}
def fu (N G:List Nm):Nat:=8388608+(N.length+1-G.length)*1048578
theorem aeV {N G G':List Nm} (h:G.length≤G'.length):fu N G'≤fu N G:=by unfold fu;omega
theorem aeW (N G:List Nm):8388608≤fu N G:=by unfold fu;omega
theorem ady {N G:List Nm} {x:Nm} (h:G.length+1≤N.length):fu N (x::G)+1048578≤fu N G:=by unfold fu;simp only [List.length_cons];omega
structure W_ (R:Nm→List Nm) (N:List Nm) (st:List cq) (out G:List Nm):Prop where
 two:∀ y,iN y st=2↔y∈out
 rng:∀ y,iN y st=0∨iN y st=1∨iN y st=2
 NV:EG R out
 sub:∀ y,y∈out→y∈N
 gnd:G.Nodup
 adz:∀ y,y∈G→y∈N
 g:∀ y,y∈G↔iN y st≠0
structure Pk (R:Nm→List Nm) (N:List Nm) (st:List cq) (out G:List Nm) (UG:List cq) (Br:List Nm):Prop where
 inv:∃ G',W_ R N UG Br G'∧G.length≤G'.length
 one:∀ y,iN y UG=1↔iN y st=1
 ext:∀ y,y∈out→y∈Br
def YE (L:List Nm) (st:List cq) (x:Nm):Prop:=∀ z,iN z st=1→L.idxOf x < L.idxOf z
def Xa (R:Nm→List Nm) (N:List Nm) (ms:List aD) (s:aC) (f:Nat→Nm→List cq→List aD→aC→List Nm→Option (Bool×List cq×List aD×aC×List Nm)) (n:Nat):Prop:=
 ∀ k x st out G,fu N G≤k→x∈N→W_ R N st out G→N.length < n+G.length→∃ b UG Br,f k x st ms s out=some (b,UG,ms,s,Br)∧(b=true→Pk R N st out G UG Br∧x∈Br)∧∀ L,Full R N L→YE L st x→b=true
theorem Pk.refl {st:List cq} {out G:List Nm} (h:W_ R N st out G):Pk R N st out G st out:=⟨⟨G,h,Nat.le_refl _⟩,fun _=>Iff.rfl,fun _ h=>h⟩
theorem Pk.ahead {st UG:List cq} {out Br G L:List Nm} (h:Pk R N st out G UG Br) {x:Nm} (ha:YE L st x):YE L UG x:=fun z hz=>ha z ((h.one z).1 hz)
theorem Z9 {f:Nat→Nm→List cq→List aD→aC→List Nm→Option (Bool×List cq×List aD×aC×List Nm)} {n:Nat} (hf:Xa R N ms s f n) {ys:List Nm} (hl:ys.length≤1048576) (hN:∀ y,y∈ys→y∈N) (x:Nm)
  (J:Nm→List cq→List aD→aC→List Nm→Option (Bool×List cq×List aD×aC×List Nm)):
  ∀ m i k st out G,i+m=ys.length→fu N G+m+1≤k→W_ R N st out G→N.length < n+G.length→
   ∃ b UG Br,iter (ts:=jL) (R:=Bool×(List cq)×(List aD)×aC×(List (List UInt8))) k (dP f J) x ys (ys.length:Int) (i:Int) st ms s out=(cond b (J x UG ms s Br) (some (false,UG,ms,s,Br)))∧
    (b=true→Pk R N st out G UG Br∧∀ y,y∈ys.drop i→y∈Br)∧∀ L,Full R N L→(∀ y,y∈ys.drop i→YE L st y)→b=true:=by
 intro m
 induction m with
 | zero=>
  intro i k st out G h hk hi _
  obtain ⟨k,rfl⟩:∃ q,k=q+1:=⟨k-1,by omega⟩
  obtain rfl:i=ys.length:=by omega
  refine ⟨true,st,out,?_,fun _=>⟨.refl hi,fun y hy=>by simp at hy⟩,fun _ _ _=>rfl⟩
  simp only [iter,dP,cf,cond_false]<;>rfl
 | succ m ih=>
  intro i k st out G h hk hi hg
  obtain ⟨k,rfl⟩:∃ q,k=q+1:=⟨k-1,by omega⟩
  have dQ:i < ys.length:=by omega
  obtain ⟨b,st1,wM,h1,h2,h3⟩:=hf k ys[i] st out G (by omega) (hN _ (dG dQ)) hi hg
  rw [List.drop_eq_getElem_cons dQ]
  cases b with
  | false=>
   refine ⟨false,st1,wM,?_,(fun h=>by cases h),fun L hL ha=>h3 L hL (ha _ (List.mem_cons_self ..))⟩
   simp only [iter,dP,b6 dQ,bF dQ,cond_true,bK,bR dQ,h1,Option.bind_some]<;>rfl
  | true=>
   obtain ⟨p1,p2⟩:=h2 rfl
   obtain ⟨G1,hi1,hg1⟩:=p1.inv
   obtain ⟨b,st2,Pl,k1,k2,k3⟩:=ih (i+1) k st1 wM G1 (by omega) (by have:=aeV (N:=N) hg1;omega) hi1 (by omega)
   refine ⟨b,st2,Pl,?_,fun hb=>?_,fun L hL ha=>k3 L hL fun y hy=>p1.ahead (ha y (List.mem_cons_of_mem _ hy))⟩
   ·simp only [iter,dP,b6 dQ,bF dQ,cond_true,bK,bR dQ,h1,Option.bind_some,bH hl dQ]
    exact k1
   ·obtain ⟨q1,q2⟩:=k2 hb
    obtain ⟨G2,Xb,YF⟩:=q1.inv
    refine ⟨⟨⟨G2,Xb,by omega⟩,fun y=>(q1.one y).trans (p1.one y),fun y hy=>q1.ext y (p1.ext y hy)⟩,fun y hy=>?_⟩
    rcases List.mem_cons.1 hy with e | e
    ·exact e▸q1.ext _ p2
    ·exact q2 y e
theorem YG (hms:ms.length≤1048576) (hR:∀ x,x∈N→∀ y,y∈reads ms s.Kind x→y∈N) (hRl:∀ x,(reads ms s.Kind x).length≤1048576) (hNl:N.length≤1048576):∀ n,Xa (reads ms s.Kind) N ms s (dc n) n
 | 0=>fun k x st out G _ _ hi hg=>by
  have:=hi.gnd.length_le_of_subset hi.adz
  omega
 | n+1=>fun k x st out G hk hx hi hg=>by
  have ih:=YG hms hR hRl hNl n
  have e0:ja (fun p:cq=>seq x p.Key) (fun p:cq=>p.El) (0:Int) st=iN x st:=rfl
  simp only [dc,e0,share]
  rcases hi.rng x with h0 | h0 | h0
  ·
   rw [h0]
   have i1:W_ (reads ms s.Kind) N (U5 x 1 st) out (x::G):=by
    have hxG:x ∉ G:=fun h=>(hi.g x).1 h h0
    refine ⟨fun y=>?_,fun y=>?_,hi.NV,hi.sub,List.nodup_cons.2 ⟨hxG,hi.gnd⟩,fun y hy=>?_,fun y=>?_⟩
    ·by_cases e:y=x
     ·subst e
      rw [fS]
      exact ⟨fun h=>by omega,fun h=>by have:=(hi.two y).2 h;omega⟩
     ·rw [dT e];exact hi.two y
    ·by_cases e:y=x
     ·subst e;rw [fS];exact .inr (.inl rfl)
     ·rw [dT e];exact hi.rng y
    ·rcases List.mem_cons.1 hy with e | e
     ·exact e▸hx
     ·exact hi.adz y e
    ·by_cases e:y=x
     ·subst e;rw [fS];simp
     ·rw [dT e,List.mem_cons]
      exact ⟨fun h=>(hi.g y).1 (h.resolve_left e),fun h=>.inr ((hi.g y).2 h)⟩
   have hGl:(x::G).length≤N.length:=i1.gnd.length_le_of_subset i1.adz
   have hfu:fu N (x::G)+1048578≤fu N G:=ady (by simpa using hGl)
   have:=aeW N G
   have da:=aby (name:=x) (s:=s) (show 4194304≤k by omega) hms
   let J:Nm→List cq→List aD→aC→List Nm→Option (Bool×List cq×List aD×aC×List Nm):=fun v39 v40 v41 v42 v43=>
    bE (tB (v43.length+([v39]:List (List UInt8)).length) 16) (some (true,(lb (fun p:cq=>seq v39 p.Key) v40 (⟨v39,(2:Int)⟩:cq)),v41,v42,(v43++([v39]:List (List UInt8)))))
   have hrl:=hRl x
   obtain ⟨b,st2,Pl,k1,k2,k3⟩:=Z9 ih hrl (hR x hx) x J (reads ms s.Kind x).length 0 k (U5 x 1 st) out (x::G) (by omega) (by omega) i1 (by simp;omega)
   simp only [da,Option.bind_some]
   have e1:(lb (fun p:cq=>seq x p.Key) st (⟨x,(1:Int)⟩:cq))=U5 x 1 st:=rfl
   have k1':iter (ts:=jL) (R:=Bool×(List cq)×(List aD)×aC×(List (List UInt8))) k (dP (dc n) J) x (reads ms s.Kind x) ((reads ms s.Kind x).length:Int) (0:Int) (U5 x 1 st) ms s out=(cond b (J x st2 ms s Pl) (some (false,st2,ms,s,Pl))):=k1
   cases b with
   | false=>
    refine ⟨false,st2,Pl,by rw [show bL 0 1=false from rfl,show bL 0 2=false from rfl];exact k1',(fun h=>by cases h),fun L hL ha=>?_⟩
    refine k3 L hL fun y hy z hz=>?_
    have dQ:=(hL.NV.lt (hL.all x hx) (by simpa using hy)).2
    by_cases e:z=x
    ·rw [e];exact dQ
    ·rw [dT e] at hz
     exact Nat.lt_trans dQ (ha z hz)
   | true=>
    obtain ⟨q1,q2⟩:=k2 rfl
    obtain ⟨G2,Xb,YF⟩:=q1.inv
    have hx1:iN x st2=1:=(q1.one x).2 (fS _ _ _)
    have hxo:x ∉ Pl:=fun h=>by have:=(Xb.two x).2 h;omega
    have hlen:Pl.length≤1048576:=Nat.le_trans (Xb.NV.nd.length_le_of_subset Xb.sub) hNl
    refine ⟨true,U5 x 2 st2,Pl++[x],?_,fun _=>⟨⟨⟨G2,⟨fun y=>?_,fun y=>?_,Xb.NV.snoc hxo fun y hy=>q2 y (by simpa using hy),fun y hy=>?_,Xb.gnd,Xb.adz,fun y=>?_⟩,?_⟩,fun y=>?_,fun y hy=>?_⟩,by simp⟩,fun _ _ _=>rfl⟩
    ·rw [show bL 0 1=false from rfl,show bL 0 2=false from rfl]
     refine k1'.trans ?_
     show bE (tB (Pl.length+1) 16) _=_
     rw [pt (by omega) (by omega)];rfl
    ·by_cases e:y=x
     ·subst e;rw [fS];simp
     ·rw [dT e,Xb.two y];simp [e]
    ·by_cases e:y=x
     ·subst e;rw [fS];exact .inr (.inr rfl)
     ·rw [dT e];exact Xb.rng y
    ·rcases List.mem_append.1 hy with h | h
     ·exact Xb.sub y h
     ·simp at h;exact h▸hx
    ·by_cases e:y=x
     ·subst e;rw [fS,Xb.g y,hx1];simp
     ·rw [dT e];exact Xb.g y
    ·simp only [List.length_cons] at YF;omega
    ·by_cases e:y=x
     ·subst e;rw [fS];omega
     ·rw [dT e,q1.one y,dT e]
    ·exact List.mem_append_left _ (q1.ext y hy)
  ·
   rw [h0]
   exact ⟨false,st,out,rfl,(fun h=>by cases h),fun L _ ha=>absurd (ha x h0) (Nat.lt_irrefl _)⟩
  ·
   rw [h0]
   exact ⟨true,st,out,rfl,fun _=>⟨.refl hi,(hi.two x).1 h0⟩,fun _ _ _=>rfl⟩
theorem abA (hw:∀ n,Xa R N ms s (dc n) n) {xs:List Nm} (hl:xs.length≤1048576) (hN:∀ y,y∈xs→y∈N) (hNl:N.length≤1048576)
  (J:List aD→aC→List Nm→Option (List Nm×Bool×List aD×aC)):
  ∀ m i k st out G,i+m=xs.length→fu N G+m+1≤k→W_ R N st out G→(∀ z,iN z st≠1)→
   ∃ b UG Br,iter (ts:=lX) (R:=(List (List UInt8))×Bool×(List aD)×aC) k (dL J) xs (xs.length:Int) (i:Int) ms s out st=(cond b (J ms s Br) (some ([],false,ms,s)))∧
    (b=true→Pk R N st out G UG Br∧∀ y,y∈xs.drop i→y∈Br)∧∀ L,Full R N L→b=true:=by
 intro m
 induction m with
 | zero=>
  intro i k st out G h hk hi _
  obtain ⟨k,rfl⟩:∃ q,k=q+1:=⟨k-1,by omega⟩
  obtain rfl:i=xs.length:=by omega
  refine ⟨true,st,out,?_,fun _=>⟨.refl hi,fun y hy=>by simp at hy⟩,fun _ _=>rfl⟩
  simp only [iter,dL,cf,cond_false]<;>rfl
 | succ m ih=>
  intro i k st out G h hk hi hz
  obtain ⟨k,rfl⟩:∃ q,k=q+1:=⟨k-1,by omega⟩
  have dQ:i < xs.length:=by omega
  have:=aeW N G
  obtain ⟨b,st1,wM,h1,h2,h3⟩:=hw k k xs[i] st out G (by omega) (hN _ (dG dQ)) hi (by omega)
  rw [List.drop_eq_getElem_cons dQ]
  cases b with
  | false=>
   refine ⟨false,st1,wM,?_,(fun h=>by cases h),fun L hL=>h3 L hL fun z hz'=>absurd hz' (hz z)⟩
   simp only [iter,dL,b6 dQ,bF dQ,cond_true,bK,bR dQ,h1,Option.bind_some]<;>rfl
  | true=>
   obtain ⟨p1,p2⟩:=h2 rfl
   obtain ⟨G1,hi1,hg1⟩:=p1.inv
   obtain ⟨b,st2,Pl,k1,k2,k3⟩:=ih (i+1) k st1 wM G1 (by omega) (by have:=aeV (N:=N) hg1;omega) hi1 fun z hz'=>hz z ((p1.one z).1 hz')
   refine ⟨b,st2,Pl,?_,fun hb=>?_,k3⟩
   ·simp only [iter,dL,b6 dQ,bF dQ,cond_true,bK,bR dQ,h1,Option.bind_some,bH hl dQ]
    exact k1
   ·obtain ⟨q1,q2⟩:=k2 hb
    obtain ⟨G2,Xb,YF⟩:=q1.inv
    refine ⟨⟨⟨G2,Xb,by omega⟩,fun y=>(q1.one y).trans (p1.one y),fun y hy=>q1.ext y (p1.ext y hy)⟩,fun y hy=>?_⟩
    rcases List.mem_cons.1 hy with e | e
    ·exact e▸q1.ext _ p2
    ·exact q2 y e
theorem Xc (l:List aB) (q:List Nm):l.foldl (fun (q:List Nm) f=>q++[f.Name]) q=q++l.map (·.Name):=by
 induction l generalizing q with
 | nil=>simp
 | cons a r ih=>rw [List.foldl_cons,ih];simp
theorem YH (hms:ms.length≤1048576) (hR:∀ x,x∈names s→∀ y,y∈reads ms s.Kind x→y∈names s) (hRl:∀ x,(reads ms s.Kind x).length≤1048576) (hNl:s.aU.length≤6) {k:Nat} (hk:4194304*5≤k):
  ∃ b row,qM k s ms=some (row,b)∧(b=true→Full (reads ms s.Kind) (names s) row)∧((∃ L,Full (reads ms s.Kind) (names s) L)→b=true):=by
 have ajY:(names s).length≤6:=by simp only [names,List.length_map];exact hNl
 have i0:W_ (reads ms s.Kind) (names s) [] [] []:=⟨fun y=>by simp [iN,ja],fun y=>.inl rfl,EG.nil,(fun y h=>by cases h),List.nodup_nil,(fun y h=>by cases h),fun y=>by simp [iN,ja]⟩
 let J:List aD→aC→List Nm→Option (List Nm×Bool×List aD×aC):=fun v23 v24 v25=>some (v25,true,v23,v24)
 obtain ⟨b,UG,Br,h1,h2,h3⟩:=abA (YG hms hR hRl (by omega)) (by omega) (fun y h=>h) (by omega) J (names s).length 0 k [] [] [] (by omega) (by simp only [fu,List.length_nil];omega) i0 fun z hz=>by simp [iN,ja] at hz
 have da:fm k (names s) ms s=cond b (some (Br,true,ms,s)) (some ([],false,ms,s)):=by
  unfold fm
  simp only [share]
  exact h1
 have hof:qM k s ms=cond b (some (Br,true)) (some ([],false)):=by
  unfold qM
  simp only [share]
  have h:=fun J:aC→List aD→List Nm→Option (List Nm×Bool)=>hY (S:=List Nm) (x:=s.aU) (f:=fun q f=>q++[f.Name]) (B:=0) (l:=fun k q i=>iter (ts:=uC) (R:=(List (List UInt8))×Bool) k (mJ J) s.aU (s.aU.length:Int) i s ms q)
   (J:=fun q=>J s ms q) (fun i q=>q.length=i)
   (fun k q _=>by simp only [iter,mJ,cf,cond_false]<;>rfl)
   (fun k i q hi _ hq=>⟨by
    simp only [iter,mJ,b6 hi,bF hi,cond_true,bK,bR hi,bH (show s.aU.length≤1048576 by omega) hi]
    rw [pt (by simp;omega) (by omega)];rfl,by simp [hq]⟩) k [] (by omega) rfl
  refine (h _).trans ?_
  rw [Xc,List.nil_append]
  change (fm k (names s) ms s).bind _=_
  rw [da]
  cases b<;>rfl
 cases b with
 | false=>exact ⟨false,[],hof,(fun h=>by cases h),fun ⟨L,hL⟩=>h3 L hL⟩
 | true=>
  obtain ⟨p,q⟩:=h2 rfl
  obtain ⟨G',c9,_⟩:=p.inv
  exact ⟨true,Br,hof,fun _=>⟨c9.NV,fun y h=>q y (by simpa using h),fun y h=>c9.sub y h⟩,fun _=>rfl⟩
end
theorem FJ:∀ {r:List aB} {q:List Nm},Iy q r=true→(r.map (·.Name)).Nodup∧∀ y,y∈r.map (·.Name)→y ∉ q
 | [],_,_=>⟨List.nodup_nil,fun _ h=>by cases h⟩
 | f::r,q,h=>by
  simp only [Iy,Bool.and_eq_true,Bool.not_eq_true'] at h
  obtain ⟨h1,h2⟩:=h
  obtain ⟨h3,h4⟩:=FJ h2
  refine ⟨List.nodup_cons.2 ⟨fun hm=>h4 _ hm (by simp),h3⟩,fun y hy hq=>?_⟩
  rcases List.mem_cons.1 hy with e | e
  ·have:q.any (fun y=>seq y f.Name)=true:=List.any_eq_true.2 ⟨y,hq,ee.2 e⟩
   rw [h1] at this;cases this
  ·exact h4 y e (by simp [hq])
theorem RR:∀ {xs:List aC} {s:aC} {n:Nm},(kinds xs).Nodup→s∈xs→s.Kind=n→xs.find? (fun s=>seq s.Kind n)=some s
 | [],_,_,_,h,_=>by cases h
 | a::r,s,n,hn,hs,e=>by
  simp only [kinds,List.map_cons,List.nodup_cons] at hn
  rw [List.find?_cons]
  rcases List.mem_cons.1 hs with h | h
  ·subst h
   rw [show seq s.Kind n=true from ee.2 e]
  ·cases ha:seq a.Kind n with
   | true=>
    have hm:s.Kind∈r.map (·.Kind):=List.mem_map_of_mem h
    rw [e,← ee.1 ha] at hm
    exact absurd hm hn.1
   | false=>exact RR hn.2 h e
theorem RS {fs:List aB} {n:Nm} (h:nY fs n=true):n∈fs.map (·.Name):=by
 unfold nY I9 at h
 cases e:fs.find? fun f=>seq f.Name n with
 | none=>rw [e] at h;cases h
 | some f=>
  have h1:=List.find?_some e
  have h2:=List.mem_of_find?_eq_some e
  rw [← ee.1 h1];exact List.mem_map_of_mem h2
theorem RT {xs:List aC} {s:aC} {m:aD} (hn:(kinds xs).Nodup) (hs:s∈xs) (hm:nZ xs m=true) {x y:Nm} (hy:y∈n4 s.Kind x m):y∈names s:=by
 unfold n4 at hy
 cases h1:seq m.Kind s.Kind with
 | false=>rw [h1] at hy;cases hy
 | true=>
  rw [h1] at hy
  cases h2:seq m.Field x with
  | false=>rw [h2] at hy;cases hy
  | true=>
   rw [h2] at hy
   simp only [Bool.and_self,cond_true,List.mem_append] at hy
   have hf:=RR hn hs (ee.1 h1).symm
   unfold nZ at hm
   rw [hf] at hm
   simp only [Mc,Bool.and_eq_true,Bool.or_eq_true] at hm
   obtain ⟨_,h4,h5,_⟩:=hm
   rcases hy with hy | hy
   ·cases h6:seq m.cY [] with
    | true=>rw [h6] at hy;cases hy
    | false=>
     rw [h6] at hy
     simp only [cond_false,List.mem_singleton] at hy
     subst hy
     exact RS (h4.resolve_left (by rw [h6];exact Bool.false_ne_true))
   ·cases h6:seq m.cF [] with
    | true=>rw [h6] at hy;cases hy
    | false=>
     rw [h6] at hy
     simp only [cond_false,List.mem_singleton] at hy
     subst hy
     exact RS (h5.resolve_left (by rw [h6];exact Bool.false_ne_true))
theorem RU {ms:List aD} {kind x:Nm}:(reads ms kind x).length≤2*ms.length:=by
 induction ms with
 | nil=>simp [reads]
 | cons a r ih=>
  have:=Ph kind x a
  simp only [reads,List.flatMap_cons,List.length_append,List.length_cons] at *
  omega
def gh (xs:List aC) (ms:List aD):Bool:=
 eM xs&&(ck (ms.length:Int) 12&&(ms.all (nZ xs)&&xs.all fun s=>bL ((uI ms s).length:Int) (s.aU.length:Int)))
theorem Rb {k:Nat} {xs:List aC} {ms:List aD} (hk:4194304*6≤k) (hx:gW aC.sd xs) (hm:gW aD.sd ms):oA k xs ms=some (gh xs ms):=by
 unfold oA gh
 have h4:=fun J:List aC→List aD→Option Bool=>gF (R:=Option Bool) (x:=ms) (p:=nZ xs) (B:=4194304) (l:=fun k i=>iter (ts:=su) (R:=Bool) k (kc J) xs ms i) (E:=J xs ms) (O:=some false)
  (fun k=>by simp only [iter,kc,cf,cond_false]<;>rfl)
  (fun k i hi hb=>by
   simp only [iter,kc,b6 hi,bF hi,cond_true,bK,bR hi,bH hm.1 hi,W7 hb hx (hm.2 _ (dG hi)),Option.bind_some]
   cases nZ xs ms[i]<;>rfl) k (by have:=hm.1;omega)
 have h9:=gF (R:=Option Bool) (x:=xs) (p:=fun s=>bL ((uI ms s).length:Int) (s.aU.length:Int)) (B:=4194304*4) (l:=fun k i=>iter (ts:=ss) (R:=Bool) k (j_ (some true)) xs ms i) (E:=some true) (O:=some false)
  (fun k=>by simp only [iter,j_,cf,cond_false]<;>rfl)
  (fun k i hi hb=>by
   simp only [iter,j_,b6 hi,bF hi,cond_true,bK,bR hi,bH hx.1 hi,adx hb hm.1 (hx.2 _ (dG hi)).2.1,Option.bind_some]
   cases bL ((uI ms xs[i]).length:Int) (xs[i].aU.length:Int)<;>rfl) k (by have:=hx.1;omega)
 simp only [share,Pc hx (show 4194304*4≤k by omega),Option.bind_some,cO]
 cases eM xs with
 | false=>rfl
 | true=>
  cases ck (ms.length:Int) 12 with
  | false=>rfl
  | true=>
   refine (h4 _).trans ?_
   cases ms.all (nZ xs) with
   | false=>rfl
   | true=>exact h9.trans (by cases xs.all fun s=>bL ((uI ms s).length:Int) (s.aU.length:Int)<;>rfl)
theorem Bs {k:Nat} {xs:List aC} {ms:List aD} (hk:4194304*7≤k) (hx:gW aC.sd xs) (hm:gW aD.sd ms):dY k xs ms=some (gh xs ms):=by
 unfold dY gh
 have h4:=fun J:List aC→List aD→Option Bool=>gF (R:=Option Bool) (x:=ms) (p:=nZ xs) (B:=4194304) (l:=fun k i=>iter (ts:=sK) (R:=Bool) k (ki J) xs ms ms (ms.length:Int) i) (E:=J xs ms) (O:=some false)
  (fun k=>by simp only [iter,ki,cf,cond_false]<;>rfl)
  (fun k i hi hb=>by
   simp only [iter,ki,share,b6 hi,bF hi,cond_true,bK,bR hi,GV hb hx.1,Option.bind_some,nZ]
   rw [bH hm.1 hi]
   rcases fv (fun s:aC=>seq s.Kind ms[i].Kind) xs with ⟨h1,h2⟩ | ⟨j,hj,h1,h2,_⟩
   ·rw [h1,h2];rfl
   ·rw [h1,h2,eh (by omega),bF hj,bR hj,W8 hb (hx.2 _ (dG hj)).2 (hm.2 _ (dG hi))]
    simp only
    cases Mc xs[j].aU ms[i]<;>rfl) k (by have:=hm.1;omega)
 simp only [share,zI hx (show 4194304*5≤k by omega),Option.bind_some,cO]
 cases tA:eM xs with
 | false=>rfl
 | true=>
  cases hms:ck (ms.length:Int) 12 with
  | false=>rfl
  | true=>
   refine (h4 _).trans ?_
   cases n5:ms.all (nZ xs) with
   | false=>rfl
   | true=>
    simp only [eM,Bool.and_eq_true,List.all_eq_true] at tA n5
    obtain ⟨hx6,ai1,ai2⟩:=tA
    have Ck:=RH ai1
    have ajZ:=s6 hms
    have h11:=gF (R:=Option Bool) (x:=xs) (p:=fun s=>bL ((uI ms s).length:Int) (s.aU.length:Int)) (B:=4194304*5) (l:=fun k i=>iter (ts:=rz) (R:=Bool) k (ju (some true)) ms xs (xs.length:Int) i) (E:=some true) (O:=some false)
     (fun k=>by simp only [iter,ju,cf,cond_false]<;>rfl)
     (fun k i hi hb=>by
      have hs:=ai2 _ (dG hi)
      simp only [oO,Bool.and_eq_true] at hs
      have h6:=s6 hs.1
      obtain ⟨b,row,h1,h2,h3⟩:=YH (ms:=ms) (s:=xs[i]) hm.1
       (fun x _ y hy=>by
        obtain ⟨m,hm1,hm2⟩:=List.mem_flatMap.1 hy
        exact RT Ck (dG hi) (n5 m hm1) hm2)
       (fun x=>by have:=RU (ms:=ms) (kind:=xs[i].Kind) (x:=x);omega) (by omega) hb
      have ahj:=abz (ms:=ms) (s:=xs[i]) (FJ hs.2.2).1
      have eb:bL ((uI ms xs[i]).length:Int) (xs[i].aU.length:Int)=b:=by
       cases b with
       | true=>
        have:=ahj.2 ⟨row,h2 rfl⟩
        simp only [bL,beq_iff_eq];omega
       | false=>
        simp only [bL,beq_eq_false_iff_ne]
        intro h
        have:=h3 (ahj.1 (by omega))
        cases this
      simp only [iter,ju,b6 hi,bF hi,cond_true,bK,bR hi,h1,Option.bind_some,bH hx.1 hi,eb]
      cases b<;>rfl) k (by have:=hx.1;omega)
    exact h11.trans (by cases xs.all fun s=>bL ((uI ms s).length:Int) (s.aU.length:Int)<;>rfl)
def Ee (w:aH):Bool:=gh w.bS w.ib&&Kv w.eg
theorem U6 {k:Nat} {w:aH} (hk:4194304*6≤k) (hw:w.sd):sx k w=some (Ee w):=by
 unfold sx
 rw [Rb hk hw.1 hw.2.1,Q8 (by omega) hw.2.2]
 unfold Ee
 cases gh w.bS w.ib<;>rfl
theorem U7 {k:Nat} {w:aH} (hk:4194304*7≤k) (hw:w.sd):rP k w=some (Ee w):=by
 unfold rP
 rw [Bs hk hw.1 hw.2.1,Q9 (by omega) hw.2.2]
 unfold Ee
 cases gh w.bS w.ib<;>rfl
section
variable {α R S:Type} {x:List α} {B:Nat}
theorem YI (g:Nat→S) {l:Nat→S→Int→R} {E:R} (he:∀ k,l (k+1) (g x.length) (x.length:Int)=E)
  (h:∀ k i (hi:i < x.length),B≤k→l (k+1) (g i) (i:Int)=l k (g (i+1)) ((i+1:Nat):Int)) (k:Nat) (hk:B+x.length+1≤k):l k (g 0) 0=E:=by
 have go:∀ m i k,i+m=x.length→B+m+1≤k→l k (g i) (i:Int)=E:=by
  intro m
  induction m with
  | zero=>
   intro i k h1 h2
   obtain rfl:i=x.length:=by omega
   obtain ⟨k,rfl⟩:∃ j,k=j+1:=⟨k-1,by omega⟩
   exact he k
  | succ m ih=>
   intro i k h1 h2
   obtain ⟨k,rfl⟩:∃ j,k=j+1:=⟨k-1,by omega⟩
   rw [h k i (by omega) (by omega)]
   exact ih (i+1) k (by omega) (by omega)
 exact go x.length 0 k (by omega) (by omega)
end
def opt {β R:Type} (o:Option β) (O:β→R) (E:R):R:=match o with
 | some c=>O c
 | none=>E
theorem U8 {α β R:Type} {x:List α} {B:Nat} {g:Nat→α→Option β} {l:Nat→Int→R} {E:R} {O:β→R} (he:∀ k,l (k+1) (x.length:Int)=E)
  (h:∀ k i (hi:i < x.length),B≤k→l (k+1) (i:Int)=opt (g i x[i]) O (l k ((i+1:Nat):Int))) (k:Nat) (hk:B+x.length+1≤k):l k 0=opt (first g x 0) O E:=by
 have:=I7 (g:=g) (l:=l) (E:=E) (O:=O) he (fun k i hi hb=>by rw [h k i hi hb];cases g i x[i]<;>rfl) k hk
 rw [this]
 cases first g x 0<;>rfl
def NW (o:aA):Prop:=o.aN.length≤1048576∧o.bX.length≤1048576
theorem Of {o:aA} (h:o.sd):NW o:=⟨h.2.2.2.1.1,h.2.2.2.2.2.1.1⟩
theorem RW {k:Nat} {o:aA} (h:NW o):pP k o=some (o.Kind,o.Name,o.aZ,o.Ending,o.Version,o.aN,o.bX):=by
 unfold pP
 have h1:=h.1
 have h2:=h.2
 rw [pt (by simp;omega) (by omega),pt (by simp;omega) (by omega)]
 rfl
theorem zL (n:Nat):leq n n=true:=by simp [leq]
theorem Kx {k:Nat} {x:List Nm} (h:x.length≤1048576):kU k x=some x:=by
 unfold kU
 cases x with
 | nil=>rfl
 | cons a r=>
  rw [abB h (by omega),show bL ((a::r).length:Int) 0=false by simp only [List.length_cons,bL,beq_eq_false_iff_ne];omega,List.length_replicate,Int.toNat_natCast,zL]
  rfl
theorem Nf {k:Nat} {x:List Nm} (h:x.length≤1048576):nW k x=some x:=by
 unfold nW
 cases x with
 | nil=>rfl
 | cons a r=>
  rw [abB h (by omega),show bL ((a::r).length:Int) 0=false by simp only [List.length_cons,bL,beq_eq_false_iff_ne];omega,List.length_replicate,Int.toNat_natCast,zL]
  rfl
theorem aft {k:Nat} {o:aA} (h:NW o):iY k o=some o:=by
 unfold iY
 rw [Nf h.1,Nf h.2];rfl
theorem YJ {k:Nat} {o:aA} (h:NW o):cU k o=some (o.Kind,o.Name,o.aZ,o.Ending,o.Version,o.aN,o.bX):=by
 unfold cU
 rw [Kx h.1,Kx h.2];rfl
theorem Ng {k:Nat} {xs:List aC} (o:aA) (hk:4194304≤k) (hx:xs.length≤1048576):gu k xs o.Kind o.Name o.aZ o.Ending o.Version o.aN o.bX=some ((cx xs o).getD [],(cx xs o).isSome,o.aN,o.bX):=by
 unfold gu cx
 rw [GV hk hx]
 simp only [share,Option.bind_some]
 rcases fv (fun s:aC=>seq s.Kind o.Kind) xs with ⟨h1,h2⟩ | ⟨j,hj,h1,h2,_⟩
 ·rw [h1,h2];rfl
 ·rw [h1,h2,eh (by omega),bF hj,bR hj,U2 (o.aN.length:Int)]
  simp only
  cases bL (xs[j].aU.length:Int) (o.aN.length:Int)<;>rfl
def U9 (d v:Nm):Nm:=cond (seq v []) d v
def iQ (fs:List aB) (vs:List Nm) (i:Nat):List Nm:=vs.mapIdx fun j v=>cond (decide (j < i)) (U9 (fs.getD j default).Default v) v
theorem C_ (fs:List aB) (vs:List Nm) (i:Nat):(iQ fs vs i).length=vs.length:=by simp [iQ]
theorem U_ (fs:List aB) (vs:List Nm):iQ fs vs 0=vs:=by
 refine List.ext_getElem (by simp [iQ]) fun j h1 h2=>?_
 simp [iQ]
theorem Pm {fs:List aB} {vs:List Nm} {i:Nat} (hi:i < vs.length):(iQ fs vs i)[i]'(by rw [C_];exact hi)=vs[i]:=by simp [iQ]
theorem Pn {fs:List aB} {vs:List Nm} {i:Nat} (hi:i < vs.length) (hf:i < fs.length):gK (iQ fs vs i) (i:Int) (U9 fs[i].Default vs[i])=iQ fs vs (i+1):=by
 refine List.ext_getElem (by simp [iQ,gK]) fun j h1 h2=>?_
 simp only [gK,Int.toNat_natCast,List.getElem_set,iQ,List.getElem_mapIdx]
 by_cases e:i=j
 ·subst e
  rw [if_pos rfl,decide_eq_true (show i < i+1 by omega),L_ hf];rfl
 ·rw [if_neg e]
  congr 1
  exact decide_eq_decide.2 (by omega)
theorem Nh {fs:List aB} {vs:List Nm} {i:Nat} (hi:i < vs.length) (h:seq vs[i] []=false):iQ fs vs i=iQ fs vs (i+1):=by
 refine List.ext_getElem (by simp [iQ]) fun j h1 h2=>?_
 simp only [iQ,List.getElem_mapIdx]
 by_cases e:i=j
 ·subst e
  rw [decide_eq_true (show i < i+1 by omega),decide_eq_false (show ¬ i < i by omega)]
  simp only [cond_true,cond_false,U9,h]
 ·congr 1
  exact decide_eq_decide.2 (by omega)
def FK (xs:List aC) (o:aA):aA:=match cx xs o with
 | some fs=>⟨o.Kind,o.Name,o.aZ,iQ fs o.aN fs.length,o.Ending,o.bX,o.Version⟩
 | none=>o
theorem Md (xs:List aC) (o:aA):(FK xs o).aN.length=o.aN.length∧(FK xs o).bX=o.bX∧(FK xs o).Kind=o.Kind:=by
 unfold FK
 cases cx xs o with
 | none=>exact ⟨rfl,rfl,rfl⟩
 | some fs=>exact ⟨C_ ..,rfl,rfl⟩
theorem adA (xs:List aC) (o:aA):cx xs (FK xs o)=cx xs o:=by
 have h:=Md xs o
 conv=>lhs;unfold cx
 rw [h.1,h.2.2]
 rfl
theorem Ta {k:Nat} {xs:List aC} {o:aA} (hk:4194304*2≤k) (hx:xs.length≤1048576) (ho:NW o):AI k xs o=some (FK xs o):=by
 unfold AI FK
 rw [RW ho]
 simp only [Option.bind_some,oP (show 4194304≤k by omega) hx,share]
 cases hf:cx xs o with
 | none=>rfl
 | some fs=>
  have hl:=(jA hf).1
  have ho1:=ho.1
  simp only [Option.isSome_some,Option.getD_some,Bool.not_true,cond_false]
  have h:=YI (R:=Option aA) (x:=fs) (B:=0) (iQ fs o.aN) (l:=fun k vs i=>iter (ts:=AH) (R:=aA) k (sy (fun (v45:aA) (v46:List UInt8) (v47:List UInt8) (v48:List UInt8) (v49:Bool) (v50:Int) (v51:List (List UInt8)) (v52:List (List UInt8))=>some (⟨v46,v47,v48,v51,v49,v52,v50⟩:aA))) fs i (⟨([]:List UInt8),([]:List UInt8),([]:List UInt8),[],false,[],(0:Int)⟩:aA) o.Kind o.Name o.aZ o.Ending o.Version vs o.bX)
   (E:=some ⟨o.Kind,o.Name,o.aZ,iQ fs o.aN fs.length,o.Ending,o.bX,o.Version⟩)
   (fun k=>by simp only [iter,sy,cf,cond_false]<;>rfl)
   (fun k i hi _=>by
    have c9:i < (iQ fs o.aN i).length:=by rw [C_];omega
    have Xd:i < o.aN.length:=by omega
    simp only [iter,sy,share,b6 hi,bF hi,bF c9,cond_true,bK,bR hi,bR c9,bH (show fs.length≤1048576 by omega) hi]
    rw [Pm Xd]
    cases hv:seq o.aN[i] [] with
    | true=>
     rw [← Pn Xd hi]
     simp only [U9,hv,cond_true]<;>rfl
    | false=>rw [← Nh Xd hv];rfl) k (by omega)
  rw [U_] at h
  exact h
theorem Xe {k:Nat} {xs:List aC} {o:aA} (hk:4194304*5≤k) (hx:gW aC.sd xs) (ho:NW o):uU k xs o=some (cond (eM xs) (FK xs o) o):=by
 unfold uU FK
 rw [YJ ho]
 simp only [Option.bind_some,Ng o (show 4194304≤k by omega) hx.1,share,zL,bK,zI hx hk]
 cases hf:cx xs o with
 | none=>cases eM xs<;>rfl
 | some fs=>
  have hl:=(jA hf).1
  have ho1:=ho.1
  simp only [Option.isSome_some,Option.getD_some,Bool.not_true,cond_false]
  cases eM xs with
  | false=>rfl
  | true=>
   have h:=YI (R:=Option aA) (x:=fs) (B:=0) (iQ fs o.aN) (l:=fun k vs i=>iter (ts:=xL) (R:=aA) k (oL (fun (v72:List UInt8) (v73:List UInt8) (v74:List UInt8) (v75:Bool) (v76:Int) (v77:aA) (v78:List (List UInt8)) (v79:List (List UInt8))=>some (⟨v72,v73,v74,v78,v75,v79,v76⟩:aA))) fs (fs.length:Int) i o.Kind o.Name o.aZ o.Ending o.Version (⟨([]:List UInt8),([]:List UInt8),([]:List UInt8),[],false,[],(0:Int)⟩:aA) vs o.bX)
    (E:=some ⟨o.Kind,o.Name,o.aZ,iQ fs o.aN fs.length,o.Ending,o.bX,o.Version⟩)
    (fun k=>by simp only [iter,oL,cf,cond_false]<;>rfl)
    (fun k i hi _=>by
     have c9:i < (iQ fs o.aN i).length:=by rw [C_];omega
     have Xd:i < o.aN.length:=by omega
     simp only [iter,oL,share,b6 hi,bF hi,bF c9,cond_true,bK,bR hi,bR c9,bH (show fs.length≤1048576 by omega) hi]
     rw [Pm Xd]
     cases hv:seq o.aN[i] [] with
     | true=>
      rw [← Pn Xd hi]
      simp only [U9,hv,cond_true]<;>rfl
     | false=>rw [← Nh Xd hv];rfl) k (by omega)
   rw [U_] at h
   exact h
def Ef (fs:List aB):List Nm:=fs.map (·.Name)
def QP (fs:List aB) (n:Nm):Nat:=(zH (fun f=>seq f.Name n) fs 0).toNat
def mY (fs:List aB) (vs:List Nm) (n:Nm):Nm:=vs.getD (QP fs n) []
theorem Ni {fs:List aB} {n:Nm} (h:n∈Ef fs):zH (fun f=>seq f.Name n) fs 0=(QP fs n:Int)∧∃ hj:QP fs n < fs.length,fs[QP fs n].Name=n:=by
 unfold QP
 rcases fv (fun f:aB=>seq f.Name n) fs with ⟨h1,h2⟩ | ⟨j,hj,h1,h2,h3⟩
 ·obtain ⟨f,hf,e⟩:=List.mem_map.1 h
  have:=List.find?_eq_none.1 h2 f hf
  rw [ee.2 e] at this
  exact absurd rfl this
 ·rw [h1,Int.toNat_natCast]
  exact ⟨rfl,hj,ee.1 h3⟩
theorem afu {fs:List aB} {a b:Nm} (ha:a∈Ef fs) (hb:b∈Ef fs) (h:QP fs a=QP fs b):a=b:=by
 obtain ⟨h1,e1⟩:=(Ni ha).2
 obtain ⟨h2,e2⟩:=(Ni hb).2
 rw [← e1,← e2];simp only [h]
theorem ahk {fs:List aB} (hn:(Ef fs).Nodup) {i:Nat} (hi:i < fs.length):QP fs fs[i].Name=i:=by
 have hm:fs[i].Name∈Ef fs:=List.mem_map_of_mem (dG hi)
 obtain ⟨h1,e1⟩:=(Ni hm).2
 have h2:(Ef fs)[QP fs fs[i].Name]'(by simpa [Ef] using h1)=(Ef fs)[i]'(by simpa [Ef] using hi):=by simpa [Ef] using e1
 exact (List.getElem_inj hn).1 h2
theorem adB {fs:List aB} {vs:List Nm} {x y v:Nm} (hl:vs.length=fs.length) (hx:x∈Ef fs) (hy:y∈Ef fs):mY fs (vs.set (QP fs x) v) y=if y=x then v else mY fs vs y:=by
 obtain ⟨h1,-⟩:=(Ni hx).2
 unfold mY
 by_cases e:y=x
 ·subst e
  rw [if_pos rfl]
  simp [List.getD,show QP fs y < vs.length by omega]
 ·rw [if_neg e]
  have:QP fs x≠QP fs y:=fun h=>e (afu hy hx h.symm)
  simp [List.getD,List.getElem?_set,this]
theorem set_self {fs:List aB} {vs:List Nm} {x:Nm} (hl:vs.length=fs.length) (hx:x∈Ef fs):vs.set (QP fs x) (mY fs vs x)=vs:=by
 obtain ⟨h1,-⟩:=(Ni hx).2
 refine List.ext_getElem (by simp) fun j h2 h3=>?_
 rw [List.getElem_set]
 by_cases e:QP fs x=j
 ·rw [if_pos e];subst e;exact L_ h3
 ·rw [if_neg e]
def Nj (kind name:Nm) (e:Nm→Nm) (m:aD):Option Nm:=
 cond (seq m.Kind kind&&(seq m.Field name&&(seq m.cY []||seq (e m.cY) m.Is))) (cond (seq m.cF []) (some m.tz) (cond (seq (e m.cF) []) none (some (e m.cF)))) none
def dec (ms:List aD) (kind:Nm) (e:Nm→Nm) (name:Nm):Option Nm:=first (fun _ m=>Nj kind name e m) ms 0
theorem Z_ {kind name:Nm} {e e':Nm→Nm} {m:aD} (h:∀ y,y∈n4 kind name m→e y=e' y):Nj kind name e m=Nj kind name e' m:=by
 unfold Nj n4 at *
 cases h1:seq m.Kind kind with
 | false=>rfl
 | true=>
  cases h2:seq m.Field name with
  | false=>rfl
  | true=>
   rw [h1,h2] at h
   simp only [Bool.and_self,cond_true,List.mem_append] at h
   have hw:(seq m.cY []||seq (e m.cY) m.Is)=(seq m.cY []||seq (e' m.cY) m.Is):=by
    cases h3:seq m.cY [] with
    | true=>rfl
    | false=>rw [h m.cY (.inl (by rw [h3];simp))]
   have hf:(cond (seq m.cF []) (some m.tz) (cond (seq (e m.cF) []) none (some (e m.cF))))=(cond (seq m.cF []) (some m.tz) (cond (seq (e' m.cF) []) none (some (e' m.cF)))):=by
    cases h3:seq m.cF [] with
    | true=>rfl
    | false=>rw [h m.cF (.inr (by rw [h3];simp))]
   rw [hw,hf]
theorem Tb {ms:List aD} {kind name:Nm} {e e':Nm→Nm} (h:∀ y,y∈reads ms kind name→e y=e' y):dec ms kind e name=dec ms kind e' name:=by
 unfold dec
 refine RG ms 0 fun j a ha=>Z_ fun y hy=>h y ?_
 exact List.mem_flatMap.2 ⟨a,List.mem_of_getElem? ha,hy⟩
def Eg (fs:List aB) (ms:List aD) (kind:Nm) (vs:List Nm) (name:Nm):List Nm:=
 vs.set (QP fs name) ((dec ms kind (mY fs vs) name).getD (mY fs vs name))
def FL (fs:List aB) (ms:List aD) (kind:Nm) (row:List Nm) (vs:List Nm):List Nm:=row.foldl (Eg fs ms kind) vs
theorem GW (fs:List aB) (ms:List aD) (kind:Nm) (vs:List Nm) (name:Nm):(Eg fs ms kind vs name).length=vs.length:=by simp [Eg]
theorem zM (fs:List aB) (ms:List aD) (kind:Nm):∀ (row vs:List Nm),(FL fs ms kind row vs).length=vs.length
 | [],_=>rfl
 | a::r,vs=>by
  have:=zM fs ms kind r (Eg fs ms kind vs a)
  rw [GW] at this
  exact this
structure abC (fs:List aB) (ms:List aD) (kind:Nm) (vs:List Nm) (pre v:List Nm):Prop where
 len:v.length=fs.length
 eq:∀ n,n∈Ef fs→mY fs v n=if n∈pre then (dec ms kind (mY fs v) n).getD (mY fs vs n) else mY fs vs n
theorem aaa {fs:List aB} {ms:List aD} {kind:Nm} {vs:List Nm} {row:List Nm} (ht:EG (reads ms kind) row) (hs:∀ y,y∈row→y∈Ef fs) {pre post v:List Nm} {x:Nm} (e:row=pre++x::post) (h:abC fs ms kind vs pre v):abC fs ms kind vs (pre++[x]) (Eg fs ms kind v x):=by
 have hx:x∈Ef fs:=hs x (by rw [e];simp)
 have Ck:=ht.nd
 rw [e] at Ck
 have hxp:x ∉ pre:=fun hm=>(List.nodup_append.1 Ck).2.2 x hm x (by simp) rfl
 have W9:∀ y,y∈pre→y∈Ef fs:=fun y hy=>hs y (by rw [e];simp [hy])
 have hrx:=ht.rd pre x post e
 have hrp:∀ n,n∈pre→∀ y,y∈reads ms kind n→y∈pre:=fun n hn y hy=>by
  obtain ⟨p,q,e'⟩:=List.append_of_mem hn
  have:=ht.rd p n (q++x::post) (by rw [e,e'];simp) y hy
  rw [e'];simp [this]
 have Xf:∀ y,y∈Ef fs→mY fs (Eg fs ms kind v x) y=if y=x then (dec ms kind (mY fs v) x).getD (mY fs v x) else mY fs v y:=fun y hy=>adB h.len hx hy
 have RX:∀ y,y∈pre→mY fs (Eg fs ms kind v x) y=mY fs v y:=fun y hy=>by
  rw [Xf y (W9 y hy),if_neg (show ¬ y=x from fun e2=>by subst e2;exact hxp hy)]
 refine ⟨by rw [GW];exact h.len,fun n hn=>?_⟩
 by_cases hnx:n=x
 ·subst hnx
  rw [if_pos (by simp),Xf n hn,if_pos rfl,h.eq n hn,if_neg hxp,Tb fun y hy=>RX y (hrx y hy)]
 ·rw [Xf n hn,if_neg hnx,h.eq n hn]
  by_cases hp:n∈pre
  ·rw [if_pos hp,if_pos (by simp [hp]),Tb fun y hy=>RX y (hrp n hp y hy)]
  ·rw [if_neg hp,if_neg (by simp [hp,hnx])]
theorem RY {fs:List aB} {ms:List aD} {kind:Nm} {vs:List Nm} {row:List Nm} (ht:EG (reads ms kind) row) (hs:∀ y,y∈row→y∈Ef fs):∀ (post pre v:List Nm),row=pre++post→abC fs ms kind vs pre v→abC fs ms kind vs row (FL fs ms kind post v)
 | [],pre,v,e,h=>by
  rw [List.append_nil] at e
  rw [e];exact h
 | x::post,pre,v,e,h=>RY ht hs post (pre++[x]) (Eg fs ms kind v x) (by rw [e];simp) (aaa ht hs e h)
theorem Va {fs:List aB} {ms:List aD} {kind:Nm} {vs:List Nm} {row:List Nm} (hl:vs.length=fs.length) (hL:Full (reads ms kind) (Ef fs) row):abC fs ms kind vs row (FL fs ms kind row vs):=
 RY hL.NV hL.sub row [] vs rfl ⟨hl,fun n _=>by simp⟩
theorem Vb {fs:List aB} {ms:List aD} {kind:Nm} {vs:List Nm} {r1 r2:List Nm} (hn:(Ef fs).Nodup) (hl:vs.length=fs.length) (h1:Full (reads ms kind) (Ef fs) r1) (h2:Full (reads ms kind) (Ef fs) r2):FL fs ms kind r1 vs=FL fs ms kind r2 vs:=by
 have i1:=Va hl h1
 have i2:=Va hl h2
 have key:∀ m n,n∈r1→r1.idxOf n < m→mY fs (FL fs ms kind r1 vs) n=mY fs (FL fs ms kind r2 vs) n:=by
  intro m
  induction m with
  | zero=>intro n _ h;omega
  | succ m ih=>
   intro n hm hi
   have hN:=h1.sub n hm
   rw [i1.eq n hN,i2.eq n hN,if_pos hm,if_pos (h2.all n hN),Tb fun y hy=>ih y (h1.NV.lt hm hy).1 (by have:=(h1.NV.lt hm hy).2;omega)]
 refine List.ext_getElem (by rw [zM,zM]) fun i h3 h4=>?_
 have hi:i < fs.length:=by rw [zM] at h3;omega
 have hN:fs[i].Name∈Ef fs:=List.mem_map_of_mem (dG hi)
 have:=key _ fs[i].Name (h1.all _ hN) (Nat.lt_succ_self _)
 unfold mY at this
 rw [ahk hn hi,L_ h3,L_ h4] at this
 exact this
theorem Vc {ms:List aD} {s:aC} (h:(uI ms s).length=s.aU.length):Full (reads ms s.Kind) (names s) (uI ms s):=by
 obtain ⟨h1,h2⟩:=RP ms s
 refine ⟨h1,fun y hy=>?_,h2⟩
 cases hc:C9 (uI ms s) y with
 | true=>exact zJ.1 hc
 | false=>
  have hny:y ∉ uI ms s:=fun hm=>by rw [zJ.2 hm] at hc;cases hc
  have h3:(y::uI ms s).Nodup:=List.nodup_cons.2 ⟨hny,h1.nd⟩
  have h4:=h3.length_le_of_subset (l₂:=names s) fun z hz=>by
   rcases List.mem_cons.1 hz with e | e
   ·exact e▸hy
   ·exact h2 z e
  simp only [List.length_cons,names,List.length_map] at h4
  omega
theorem Iz {xs:List aC} {ms:List aD} (h:gh xs ms=true) {s:aC} (hs:s∈xs):
  (Ef s.aU).Nodup∧s.aU.length≤6∧Full (reads ms s.Kind) (Ef s.aU) (uI ms s)∧(∀ x y,y∈reads ms s.Kind x→y∈Ef s.aU)∧ms.length≤12:=by
 simp only [gh,eM,Bool.and_eq_true,List.all_eq_true] at h
 obtain ⟨⟨h1,h2,h3⟩,h4,h5,h6⟩:=h
 have Ky:=h3 s hs
 simp only [oO,Bool.and_eq_true] at Ky
 have h7:=h6 s hs
 simp only [bL,beq_iff_eq] at h7
 refine ⟨(FJ Ky.2.2).1,by have:=s6 Ky.1;omega,Vc (by omega),fun x y hy=>?_,by have:=s6 h4;omega⟩
 obtain ⟨m,hm1,hm2⟩:=List.mem_flatMap.1 hy
 exact RT (RH h2) hs (h5 m hm1) hm2
def Nk (xs:List aC) (ms:List aD) (o:aA):aA:=match xs.find? fun s=>seq s.Kind o.Kind with
 | some s=>cond (bL (s.aU.length:Int) (o.aN.length:Int)) ⟨o.Kind,o.Name,o.aZ,FL s.aU ms o.Kind (uI ms s) o.aN,o.Ending,o.bX,o.Version⟩ o
 | none=>o
def yi (xs:List aC) (ms:List aD) (o:aA):aA:=Nk xs ms (FK xs o)
theorem GX {k:Nat} {fs:List aB} {n:Nm} (hk:4194304≤k) (hx:fs.length≤1048576) (h:n∈Ef fs):eC k fs n=some (QP fs n:Int):=by
 rw [Ma hk hx,(Ni h).1]
theorem RZ {k:Nat} {fs:List aB} {n:Nm} (hk:4194304≤k) (hx:fs.length≤1048576) (h:n∈Ef fs):fC k fs n=some (QP fs n:Int):=by
 rw [Mb hk hx,(Ni h).1]
theorem R0 {fs:List aB} {vs:List Nm} {n:Nm} (hl:vs.length=fs.length) (h:n∈Ef fs):bU (QP fs n:Int) vs.length=true:=bF (by rw [hl];exact (Ni h).2.1)
theorem YK (fs:List aB) (vs:List Nm) (n:Nm):nth ([]:List UInt8) vs (QP fs n:Int)=mY fs vs n:=rfl
theorem Nl {kind name:Nm} {m:aD} (h1:seq m.Kind kind=true) (h2:seq m.Field name=true) (h3:seq m.cY []=false):m.cY∈n4 kind name m:=by
 simp [n4,h1,h2,h3]
theorem Nn {kind name:Nm} {m:aD} (h1:seq m.Kind kind=true) (h2:seq m.Field name=true) (h3:seq m.cF []=false):m.cF∈n4 kind name m:=by
 simp [n4,h1,h2,h3]
theorem mem_reads {ms:List aD} {kind name y:Nm} {i:Nat} (hi:i < ms.length) (h:y∈n4 kind name ms[i]):y∈reads ms kind name:=List.mem_flatMap.2 ⟨_,dG hi,h⟩
theorem Vd {fs:List aB} {ms:List aD} {o:aA} {name:Nm} (hx:fs.length≤1048576) (hm:ms.length≤1048576) (hl:o.aN.length=fs.length) (hR:∀ y,y∈reads ms o.Kind name→y∈Ef fs) (J:List aB→List UInt8→aA→Option (List UInt8)) {k:Nat} (hk:4194304*2≤k):
  iter (ts:=fR) (R:=List UInt8) k (eE J) fs ms name o (0:Int)=opt (dec ms o.Kind (mY fs o.aN) name) some (J fs name o):=by
 exact U8 (R:=Option (List UInt8)) (x:=ms) (g:=fun _ m=>Nj o.Kind name (mY fs o.aN) m) (B:=4194304) (l:=fun k i=>iter (ts:=fR) (R:=List UInt8) k (eE J) fs ms name o i) (E:=J fs name o) (O:=some)
  (fun k=>by simp only [iter,eE,cf,cond_false]<;>rfl)
  (fun k i hi hb=>by
   simp only [iter,eE,share,b6 hi,bF hi,cond_true,bK,bR hi,bH hm hi,Nj]
   cases h1:seq ms[i].Kind o.Kind with
   | false=>rfl
   | true=>
    cases h2:seq ms[i].Field name with
    | false=>rfl
    | true=>
     have hw:=fun h3=>hR _ (mem_reads hi (Nl h1 h2 h3))
     have hf:=fun h3=>hR _ (mem_reads hi (Nn h1 h2 h3))
     have from_:∀ X:Option (List UInt8),(cond (seq ms[i].cF []) (some ms[i].tz) ((eC k fs ms[i].cF).bind fun v=>bE (bU v o.aN.length) (cond (!seq (nth ([]:List UInt8) o.aN v) []) (some (nth ([]:List UInt8) o.aN v)) X)))
       = opt (cond (seq ms[i].cF []) (some ms[i].tz) (cond (seq (mY fs o.aN ms[i].cF) []) none (some (mY fs o.aN ms[i].cF)))) some X:=fun X=>by
      cases h3:seq ms[i].cF [] with
      | true=>rfl
      | false=>
       rw [GX hb hx (hf h3)]
       simp only [Option.bind_some,cond_false,R0 hl (hf h3),bK,YK]
       cases seq (mY fs o.aN ms[i].cF) []<;>rfl
     cases h3:seq ms[i].cY [] with
     | true=>
      simp only [Bool.not_true,cond_false,Bool.true_and,Bool.true_or,cond_true]
      exact from_ (iter (ts:=fR) (R:=List UInt8) k (eE J) fs ms name o ((i+1:Nat):Int))
     | false=>
      rw [GX hb hx (hw h3)]
      simp only [Option.bind_some,Bool.not_true,Bool.not_false,cond_true,cond_false,R0 hl (hw h3),bK,YK,Bool.true_and,Bool.false_or]
      cases seq (mY fs o.aN ms[i].cY) ms[i].Is with
      | false=>rfl
      | true=>exact from_ (iter (ts:=fR) (R:=List UInt8) k (eE J) fs ms name o ((i+1:Nat):Int))) k (by omega)
theorem Ve {k:Nat} {fs:List aB} {ms:List aD} {o:aA} {name:Nm} (hk:4194304*2≤k) (hx:fs.length≤1048576) (hm:ms.length≤1048576) (hl:o.aN.length=fs.length) (hn:name∈Ef fs) (hR:∀ y,y∈reads ms o.Kind name→y∈Ef fs):
  sA k fs ms o name=some ((dec ms o.Kind (mY fs o.aN) name).getD (mY fs o.aN name)):=by
 unfold sA
 simp only [share]
 rw [Vd hx hm hl hR _ hk]
 cases dec ms o.Kind (mY fs o.aN) name with
 | some c=>rfl
 | none=>
  simp only [GX (show 4194304≤k by omega) hx hn,Option.bind_some,R0 hl hn,bK,YK]
  rfl
theorem abD {k:Nat} {ms:List aD} {s:aC} (hk:4194304*4≤k) (hm:ms.length≤1048576) (hs:s.aU.length≤1048576):x9 k s ms=some (uI ms s):=by
 unfold x9
 simp only [share]
 have inner:∀ (J:List aD→Int→aC→List Nm→Option (List Nm)) (n:Int) (row:List Nm) (k:Nat),4194304*3≤k→row.length≤1048576→
   iter (ts:=qJ) (R:=List (List UInt8)) k (mr J) ms n (0:Int) s row=J ms n s (zK ms s row):=by
  intro J n row k hk hr
  have h:=GQ (x:=s.aU) (p:=Ed ms s row) (B:=8388608) (l:=fun k i=>iter (ts:=qJ) (R:=List (List UInt8)) k (mr J) ms n i s row) (E:=J ms n s row) (O:=fun f=>J ms n s (row++[f.Name]))
   (fun k=>by simp only [iter,mr,cf,cond_false]<;>rfl)
   (fun k i hi hb=>by
    simp only [iter,mr,share,b6 hi,bF hi,cond_true,bK,bR hi,bH hs hi,Oe (show 4194304≤k by omega) hr,RN hb hm hr,Option.bind_some,Ed]
    rw [pt (by simp;omega) (by omega)]
    have e1:(row.any fun y=>seq y s.aU[i].Name)=C9 row s.aU[i].Name:=rfl
    rw [e1]
    cases C9 row s.aU[i].Name<;>cases Pj ms s.Kind s.aU[i].Name row<;>rfl) k (by omega)
  refine h.trans ?_
  unfold zK
  cases s.aU.find? (Ed ms s row)<;>rfl
 have h:=hY (S:=List Nm) (x:=s.aU) (f:=fun row _=>zK ms s row) (B:=4194304*3) (l:=fun k row i=>iter (ts:=y5) (R:=List (List UInt8)) k (qi fun v=>some v) ms i s row) (J:=fun row=>some row) (fun i row=>row.length≤i)
  (fun k row _=>by simp only [iter,qi,cf,cond_false]<;>rfl)
  (fun k i row hi hb hI=>⟨by
   simp only [iter,qi,share,b6 hi,cond_true]
   refine (inner _ _ _ _ hb (by omega)).trans ?_
   rw [bH hs hi],Nat.le_trans (RO ms s row) (by omega)⟩) k [] (by omega) (by simp)
 exact h
theorem Tc {k:Nat} {xs:List aC} {ms:List aD} {o:aA} (hk:4194304*4≤k) (hx:xs.length≤1048576) (ho:NW o) (Eh:gh xs ms=true):u6 k xs ms o=some (Nk xs ms o):=by
 unfold u6 Nk
 rw [RW ho]
 simp only [Option.bind_some,oP (show 4194304≤k by omega) hx,share,cx,GS (show 4194304≤k by omega) hx,GU]
 rcases fv (fun s:aC=>seq s.Kind o.Kind) xs with ⟨h1,h2⟩ | ⟨j,hj,h1,h2,h3⟩
 ·rw [h1,h2];rfl
 ·rw [h1,h2]
  simp only
  cases he:bL (xs[j].aU.length:Int) (o.aN.length:Int) with
  | false=>rfl
  | true=>
   have hl:o.aN.length=xs[j].aU.length:=by simp only [bL,beq_iff_eq] at he;omega
   obtain ⟨k1,k2,k3,k4,k5⟩:=Iz Eh (dG hj)
   have abE:=ee.1 h3
   rw [abE] at k3 k4
   have hfs:xs[j].aU.length≤1048576:=by omega
   have hms:ms.length≤1048576:=by omega
   simp only [cond_true,Option.isSome_some,Option.getD_some,Bool.not_true,cond_false,bF hj,bK,bR hj,abD hk hms hfs,Option.bind_some]
   have hrl:(uI ms xs[j]).length≤1048576:=by
    have:=k3.NV.nd.length_le_of_subset k3.sub
    simp only [Ef,List.length_map] at this;omega
   exact hY (S:=List Nm) (x:=uI ms xs[j]) (f:=Eg xs[j].aU ms o.Kind) (B:=4194304*2) (l:=fun k vs i=>iter (ts:=xF) (R:=aA) k (oB (fun (v41:aA) (v42:List UInt8) (v43:List UInt8) (v44:List UInt8) (v45:Bool) (v46:Int) (v47:List (List UInt8)) (v48:List (List UInt8))=>some (⟨v42,v43,v44,v47,v45,v48,v46⟩:aA))) ms xs[j].aU i (⟨([]:List UInt8),([]:List UInt8),([]:List UInt8),[],false,[],(0:Int)⟩:aA) o.Kind o.Name o.aZ o.Ending o.Version (uI ms xs[j]) vs o.bX)
    (J:=fun vs=>some ⟨o.Kind,o.Name,o.aZ,vs,o.Ending,o.bX,o.Version⟩) (fun _ vs=>vs.length=xs[j].aU.length)
    (fun k vs _=>by simp only [iter,oB,cf,cond_false]<;>rfl)
    (fun k i vs hi hb hI=>⟨by
     have hn:=k3.sub _ (dG hi)
     have hd:=Ve (o:=⟨o.Kind,o.Name,o.aZ,vs,o.Ending,o.bX,o.Version⟩) hb hfs hms hI hn (fun y hy=>k4 _ y hy)
     simp only [iter,oB,b6 hi,bF hi,cond_true,bK,bR hi,bH hrl hi,GX (show 4194304≤k by omega) hfs hn,hd,Option.bind_some,R0 hI hn]
     rfl,by rw [GW];exact hI⟩) k o.aN (by omega) hl
theorem aab (xs:List aC) (ms:List aD) (o:aA):(Nk xs ms o).aN.length=o.aN.length∧(Nk xs ms o).bX=o.bX:=by
 unfold Nk
 cases xs.find? fun s=>seq s.Kind o.Kind with
 | none=>exact ⟨rfl,rfl⟩
 | some s=>
  simp only
  cases bL (s.aU.length:Int) (o.aN.length:Int) with
  | false=>exact ⟨rfl,rfl⟩
  | true=>exact ⟨zM ..,rfl⟩
theorem Po {xs:List aC} {o:aA} (h:NW o):NW (FK xs o):=by
 have:=Md xs o
 exact ⟨by rw [this.1];exact h.1,by rw [this.2.1];exact h.2⟩
theorem Td {k:Nat} {xs:List aC} {ms:List aD} {o:aA} (hk:4194304*4≤k) (hx:xs.length≤1048576) (ho:NW o) (Eh:gh xs ms=true):u7 k xs ms o=some (yi xs ms o):=by
 unfold u7
 rw [Ta (by omega) hx ho,Option.bind_some,Tc hk hx (Po ho) Eh];rfl
theorem Te (J:List aD→aC→List (List UInt8)→Option ((List (List UInt8))×Bool×(List aD)×aC)):∀ (k:Nat) (ys:List (List UInt8)) (n i:Int) (ms:List aD) (s:aC) (out:List (List UInt8)) (st:List cq),
  iter (ts:=pU) (R:=Bool×(List aD)×aC×(List (List UInt8))) k (mU fun a b c=>(J a b c).map fun r=>(r.2.1,r.2.2.1,r.2.2.2,r.1)) ys n i ms s out st
  = (iter (ts:=lX) (R:=(List (List UInt8))×Bool×(List aD)×aC) k (dL J) ys n i ms s out st).map fun r=>(r.2.1,r.2.2.1,r.2.2.2,r.1):=by
 intro k
 induction k with
 | zero=>intros;rfl
 | succ k ih=>
  intro ys n i ms s out st
  simp only [iter,mU,dL]
  cases bO i n with
  | false=>rfl
  | true=>
   cases bU i ys.length with
   | false=>rfl
   | true=>
    simp only [cond_true,bK]
    cases dc k k (nth ([]:List UInt8) ys i) st ms s out with
    | none=>rfl
    | some r=>
     simp only [Option.bind_some]
     cases r.1 with
     | false=>rfl
     | true=>exact ih _ _ _ _ _ _ _
theorem Tg (k:Nat) (ys:List Nm) (ms:List aD) (s:aC):qN k ys ms s=(fm k ys ms s).map fun r=>(r.2.1,r.2.2.1,r.2.2.2,r.1):=
 Te (fun v23 v24 v25=>some (v25,true,v23,v24)) k ys _ _ ms s _ _
theorem abF (J:aC→List aD→List (List UInt8)→Option ((List (List UInt8))×Bool)) (J2:aC→List aD→List (List UInt8)→Option (Bool×(List (List UInt8)))) (hJ:∀ a b c,J2 a b c=(J a b c).map fun r=>(r.2,r.1)):∀ (k:Nat) (fs:List aB) (n i:Int) (s:aC) (ms:List aD) (out:List (List UInt8)),
  iter (ts:=zl) (R:=Bool×(List (List UInt8))) k (wK J2) fs n i s ms out
  = (iter (ts:=uC) (R:=(List (List UInt8))×Bool) k (mJ J) fs n i s ms out).map fun r=>(r.2,r.1):=by
 intro k
 induction k with
 | zero=>intros;rfl
 | succ k ih=>
  intro fs n i s ms out
  simp only [iter,wK,mJ]
  cases bO i n with
  | false=>exact hJ _ _ _
  | true=>
   cases bU i fs.length with
   | false=>rfl
   | true=>
    simp only [cond_true,bK]
    cases tB (out.length+([(nth (default:aB) fs i).Name]:List (List UInt8)).length) 16 with
    | false=>rfl
    | true=>exact ih _ _ _ _ _ _
theorem abG (k:Nat) (s:aC) (ms:List aD):rZ k s ms=(qM k s ms).map fun r=>(r.2,r.1):=by
 unfold rZ qM
 simp only [share]
 refine abF _ _ (fun a b c=>?_) k _ _ _ _ _ _
 rw [Tg]
 cases fm k c b a<;>rfl
theorem Da {k:Nat} {fs:List aB} {n kd nm tm:Nm} {e:Bool} {v:Int} {vs hs:List Nm} (hk:4194304≤k) (hx:fs.length≤1048576) (hl:vs.length=fs.length) (h:n∈Ef fs):cJ k n kd nm tm e v fs vs hs=some (mY fs vs n,kd,nm,tm,e,v,fs,vs,hs):=by
 unfold cJ
 rw [RZ hk hx h]
 simp only [Option.bind_some,R0 hl h,bK,YK]
theorem Xg {fs:List aB} {ms:List aD} {name kd nm tm:Nm} {e:Bool} {v:Int} {o:aA} {row vs hs:List Nm} {n j:Int} (hx:fs.length≤1048576) (hm:ms.length≤1048576) (hl:vs.length=fs.length) (hn:name∈Ef fs) (hR:∀ y,y∈reads ms kd name→y∈Ef fs)
  (J:List aD→Int→Int→List UInt8→List UInt8→List UInt8→Bool→Int→aA→List aB→List (List UInt8)→List (List UInt8)→List (List UInt8)→Option aA) {k:Nat} (hk:4194304*2≤k):
  iter (ts:=gV) (R:=aA) k (eX J) ms name n j ms (ms.length:Int) (0:Int) kd nm tm e v o fs row vs hs=J ms n j kd nm tm e v o fs row (Eg fs ms kd vs name) hs:=by
 have h:=U8 (R:=Option aA) (x:=ms) (g:=fun _ m=>Nj kd name (mY fs vs) m) (B:=4194304) (l:=fun k i=>iter (ts:=gV) (R:=aA) k (eX J) ms name n j ms (ms.length:Int) i kd nm tm e v o fs row vs hs) (E:=J ms n j kd nm tm e v o fs row vs hs) (O:=fun c=>J ms n j kd nm tm e v o fs row (vs.set (QP fs name) c) hs)
  (fun k=>by simp only [iter,eX,cf,cond_false]<;>rfl)
  (fun k i hi hb=>by
   simp only [iter,eX,share,b6 hi,bF hi,cond_true,bK,bR hi,bH hm hi,Nj]
   cases h1:seq ms[i].Kind kd with
   | false=>rfl
   | true=>
    cases h2:seq ms[i].Field name with
    | false=>rfl
    | true=>
     have hw:=fun h3=>hR _ (mem_reads hi (Nl h1 h2 h3))
     have hf:=fun h3=>hR _ (mem_reads hi (Nn h1 h2 h3))
     have hp:=RZ hb hx hn
     have hib:=R0 hl hn
     cases h4:seq ms[i].cF [] with
     | true=>
      cases h3:seq ms[i].cY [] with
      | true=>
       simp only [Bool.not_true,cond_false,cond_true,Bool.true_and,Bool.true_or,hp,Option.bind_some,hib,bK]
       rfl
      | false=>
       simp only [Bool.not_true,Bool.not_false,cond_false,cond_true,Bool.true_and,Bool.false_or,Da hb hx hl (hw h3),Option.bind_some,zL,bK,hp,hib]
       cases seq (mY fs vs ms[i].cY) ms[i].Is<;>rfl
     | false=>
      cases h3:seq ms[i].cY [] with
      | true=>
       simp only [Bool.not_true,Bool.not_false,cond_false,cond_true,Bool.true_and,Bool.true_or,Da hb hx hl (hf h4),Option.bind_some,zL,bK,hp,hib]
       cases seq (mY fs vs ms[i].cF) []<;>rfl
      | false=>
       simp only [Bool.not_true,Bool.not_false,cond_false,cond_true,Bool.true_and,Bool.false_or,Da hb hx hl (hw h3),Da hb hx hl (hf h4),Option.bind_some,zL,bK,hp,hib]
       cases seq (mY fs vs ms[i].cY) ms[i].Is<;>cases seq (mY fs vs ms[i].cF) []<;>rfl) k (by omega)
 refine h.trans ?_
 unfold Eg
 change opt (dec ms kd (mY fs vs) name) (fun c=>J ms n j kd nm tm e v o fs row (vs.set (QP fs name) c) hs) (J ms n j kd nm tm e v o fs row vs hs)=_
 cases dec ms kd (mY fs vs) name with
 | some c=>rfl
 | none=>
  simp only [Option.getD_none,opt]
  rw [set_self hl hn]
theorem Th {k:Nat} {xs:List aC} {ms:List aD} {o:aA} (hk:4194304*7≤k) (hx:gW aC.sd xs) (hm:gW aD.sd ms) (ho:NW o):p4 k xs ms o=some (cond (gh xs ms) (Nk xs ms o) o):=by
 unfold p4
 rw [YJ ho]
 simp only [Option.bind_some,Ng o (show 4194304≤k by omega) hx.1,share,zL,bK,Bs hk hx hm]
 cases Eh:gh xs ms with
 | false=>cases (cx xs o).isSome<;>rfl
 | true=>
  simp only [Nk,cx,GV (show 4194304≤k by omega) hx.1]
  rcases fv (fun s:aC=>seq s.Kind o.Kind) xs with ⟨h1,h2⟩ | ⟨j,hj,h1,h2,h3⟩
  ·rw [h1,h2];rfl
  ·rw [h1,h2]
   simp only
   cases he:bL (xs[j].aU.length:Int) (o.aN.length:Int) with
   | false=>rfl
   | true=>
    have hl:o.aN.length=xs[j].aU.length:=by simp only [bL,beq_iff_eq] at he;omega
    obtain ⟨k1,k2,k3,k4,k5⟩:=Iz Eh (dG hj)
    have abE:=ee.1 h3
    have hfs:xs[j].aU.length≤1048576:=by omega
    have hms:ms.length≤1048576:=by omega
    obtain ⟨b,row,r1,r2,r3⟩:=YH (ms:=ms) (s:=xs[j]) hms (fun x _ y hy=>k4 x y hy) (fun x=>by have:=RU (ms:=ms) (kind:=xs[j].Kind) (x:=x);omega) k2 (show 4194304*5≤k by omega)
    obtain rfl:b=true:=r3 ⟨_,k3⟩
    have hF:=r2 rfl
    simp only [cond_true,Option.isSome_some,Option.getD_some,Bool.not_true,cond_false,Option.bind_some,bF hj,bK,bR hj,abG,r1,Option.map_some]
    rw [abE] at k3 k4 hF
    have hrl:row.length≤1048576:=by
     have:=hF.NV.nd.length_le_of_subset hF.sub
     simp only [names,List.length_map] at this;omega
    rw [← Vb k1 hl hF k3]
    exact hY (S:=List Nm) (x:=row) (f:=Eg xs[j].aU ms o.Kind) (B:=4194304*2) (l:=fun k vs i=>iter (ts:=ue) (R:=aA) k (lY (fun (ai3:List UInt8) (ai4:List UInt8) (ai5:List UInt8) (ai6:Bool) (ai7:Int) (aj0:aA) (ai8:List (List UInt8)) (ai9:List (List UInt8))=>some (⟨ai3,ai4,ai5,ai8,ai6,ai9,ai7⟩:aA))) ms (row.length:Int) i o.Kind o.Name o.aZ o.Ending o.Version (⟨([]:List UInt8),([]:List UInt8),([]:List UInt8),[],false,[],(0:Int)⟩:aA) xs[j].aU row vs o.bX)
     (J:=fun vs=>some ⟨o.Kind,o.Name,o.aZ,vs,o.Ending,o.bX,o.Version⟩) (fun _ vs=>vs.length=xs[j].aU.length)
     (fun k vs _=>by simp only [iter,lY,cf,cond_false]<;>rfl)
     (fun k i vs hi hb hI=>⟨by
      simp only [iter,lY,share,b6 hi,bF hi,cond_true]
      have hn:nth ([]:List UInt8) row (i:Int)∈Ef xs[j].aU:=by rw [bR hi];exact hF.sub _ (dG hi)
      change iter (ts:=gV) (R:=aA) k (eX _) ms (nth [] row (i:Int)) (row.length:Int) (i:Int) ms (ms.length:Int) (0:Int) o.Kind o.Name o.aZ o.Ending o.Version _ xs[j].aU row vs o.bX=_
      refine (Xg hfs hms hI hn (fun y hy=>k4 _ y hy) _ hb).trans ?_
      simp only [bR hi]
      rw [bH hrl hi],by rw [GW];exact hI⟩) k o.aN (by omega) hl
theorem Ti {k:Nat} {xs:List aC} {ms:List aD} {o:aA} (hk:4194304*7≤k) (hx:gW aC.sd xs) (hm:gW aD.sd ms) (ho:NW o):p0 k xs ms o=some (cond (gh xs ms) (yi xs ms o) o):=by
 unfold p0
 rw [Bs hk hx hm,aft ho,Xe (by omega) hx ho]
 cases Eh:gh xs ms with
 | false=>rfl
 | true=>
  have hs:eM xs=true:=by
   simp only [gh,Bool.and_eq_true] at Eh;exact Eh.1
  simp only [Option.bind_some,Bool.not_true,cond_false,hs,cond_true,Th hk hx hm (Po ho),Eh]
  rfl
theorem Tj {a b:Nm} (h:seq a b=true):slt a b=false:=by rw [ee.1 h];exact Od b
def Pp (a b:List Nm):Bool:=bL (a.length:Int) (b.length:Int)&&(a.zip b).all fun q=>seq q.1 q.2
theorem Db {α β:Type} {a:List α} {b:List β} (h:a.length≤b.length):(a.zip b).length=a.length:=by simp;omega
theorem abH {k:Nat} {a b:List Nm} (hk:4194304≤k) (ha:a.length≤1048576):oC k a b=some (Pp a b):=by
 unfold oC Pp
 cases he:bL (a.length:Int) (b.length:Int) with
 | false=>rfl
 | true=>
  have hl:a.length=b.length:=by simp only [bL,beq_iff_eq] at he;omega
  have hz:=Db (a:=a) (b:=b) (by omega)
  have h:=gF (R:=Option Bool) (x:=a.zip b) (p:=fun q=>seq q.1 q.2) (B:=0) (l:=fun k i=>iter (ts:=sB) (R:=Bool) k (kf (some true)) a b i) (E:=some true) (O:=some false)
   (fun k=>by simp only [hz,iter,kf,cf,cond_false]<;>rfl)
   (fun k i hi _=>by
    rw [hz] at hi
    have c9:i < b.length:=by omega
    simp only [iter,kf,b6 hi,bF hi,bF c9,cond_true,bK,bR hi,bR c9,bH ha hi,List.getElem_zip]
    cases seq a[i] b[i]<;>rfl) k (by omega)
  simp only [Bool.not_true,cond_false,share]
  refine h.trans ?_
  cases (a.zip b).all fun q=>seq q.1 q.2<;>rfl
theorem Tk {k:Nat} {a b:List Nm} (hk:4194304≤k) (ha:a.length≤1048576):p5 k a b=some (Pp a b):=by
 unfold p5 Pp
 cases he:bL (a.length:Int) (b.length:Int) with
 | false=>rfl
 | true=>
  have hl:a.length=b.length:=by simp only [bL,beq_iff_eq] at he;omega
  have hz:=Db (a:=a) (b:=b) (by omega)
  have h:=gF (R:=Option Bool) (x:=a.zip b) (p:=fun q=>seq q.1 q.2) (B:=0) (l:=fun k i=>iter (ts:=tE) (R:=Bool) k (ln (some true)) a b (a.length:Int) i) (E:=some true) (O:=some false)
   (fun k=>by simp only [hz,iter,ln,cf,cond_false]<;>rfl)
   (fun k i hi _=>by
    rw [hz] at hi
    have c9:i < b.length:=by omega
    simp only [iter,ln,b6 hi,bF hi,bF c9,cond_true,bK,bR hi,bR c9,bH ha hi,List.getElem_zip]
    cases seq a[i] b[i]<;>rfl) k (by omega)
  simp only [Bool.not_true,cond_false,share]
  refine h.trans ?_
  cases (a.zip b).all fun q=>seq q.1 q.2<;>rfl
def wm (a b c d:Nm):Bool:=slt a c||(seq a c&&slt b d)
def Vf (a b:Nm):Int:=cond (slt a b) (-1) (cond (!(slt a b||seq a b)) 1 0)
theorem Tl (k:Nat) (a b:Nm):qI k a b=some (Vf a b):=by
 unfold qI Vf
 cases slt a b<;>cases seq a b<;>rfl
def adC (a b c d:Nm):Int:=cond (!bL (Vf a c) 0) (Vf a c) (Vf b d)
theorem Tm (k:Nat) (a b c d:Nm):uA k a b c d=some (adC a b c d):=by
 unfold uA adC
 rw [Tl,Tl]
 simp only [Option.bind_some]
 cases bL (Vf a c) 0<;>rfl
theorem Tn (a b c d:Nm):ck 0 (adC a b c d)=!wm a b c d:=by
 unfold adC wm Vf
 cases h1:slt a c<;>cases h2:seq a c<;>cases h3:slt b d<;>cases h4:seq b d<;>rfl
def atO (b:aE) (kind name:Nm):Int:=zH (fun o=>seq o.Kind kind&&seq o.Name name) b.aF 0
theorem afv {k:Nat} {b:aE} {kind name:Nm} (hk:4194304≤k) (hb:b.aF.length≤1048576):GO k b kind name=some (atO b kind name):=by
 unfold GO
 simp only [share]
 exact rD (x:=b.aF) (p:=fun o=>seq o.Kind kind&&seq o.Name name) (l:=fun k i=>iter (ts:=DS) (R:=Int) k (x_ (some (-1))) kind name b i)
  (fun k=>by simp only [iter,x_,cf,cond_false]<;>rfl)
  (fun k i hi=>by
   simp only [iter,x_,share,b6 hi,bF hi,cond_true,bK,bR hi,bH hb hi]
   cases seq b.aF[i].Kind kind<;>rfl) k (by omega)
theorem afw {k:Nat} {b:aE} {kind name:Nm} (hk:4194304≤k) (hb:b.aF.length≤1048576):lq k b kind name=some (atO b kind name):=by
 unfold lq
 simp only [share]
 exact rD (x:=b.aF) (p:=fun o=>seq o.Kind kind&&seq o.Name name) (l:=fun k i=>iter (ts:=px) (R:=Int) k (iz (some (-1))) kind name b.aF (b.aF.length:Int) i)
  (fun k=>by simp only [iter,iz,cf,cond_false]<;>rfl)
  (fun k i hi=>by
   simp only [iter,iz,share,b6 hi,bF hi,cond_true,bK,bR hi,bH hb hi]
   cases seq b.aF[i].Kind kind<;>rfl) k (by omega)
def Vg (b:aE) (q:aB×Nm):Bool:=!(bL q.1.Kind 4&&(!seq q.2 []&&bO (atO b q.1.To q.2) 0))
def GY (b:aE) (fs:List aB) (vs:List Nm):Bool:=(fs.zip vs).all (Vg b)
theorem Vh {w:aH} {b:aE} {n:Int} {fs:List aB} {o:aA} (hb:b.aF.length≤1048576) (hl:fs.length≤o.aN.length) (hv:o.aN.length≤1048576) (J:aH→aE→Int→Option Bool) {k:Nat} (hk:4194304*2≤k):
  iter (ts:=gb) (R:=Bool) k (ea J) w b n fs (0:Int) o=cond (GY b fs o.aN) (J w b n) (some false):=by
 have hz:=Db hl
 exact gF (R:=Option Bool) (x:=fs.zip o.aN) (p:=Vg b) (B:=4194304) (l:=fun k i=>iter (ts:=gb) (R:=Bool) k (ea J) w b n fs i o) (E:=J w b n) (O:=some false)
  (fun k=>by simp only [hz,iter,ea,cf,cond_false]<;>rfl)
  (fun k i hi cu=>by
   rw [hz] at hi
   have c9:i < o.aN.length:=by omega
   simp only [iter,ea,share,b6 hi,bF hi,bF c9,cond_true,bK,bR hi,bR c9,bH (show fs.length≤1048576 by omega) hi,afv cu hb,Option.bind_some,List.getElem_zip,Vg]
   cases bL fs[i].Kind 4 with
   | false=>rfl
   | true=>
    cases seq o.aN[i] [] with
    | true=>rfl
    | false=>cases bO (atO b fs[i].To o.aN[i]) 0<;>rfl) k (by rw [hz];omega)
def wN:List (aB×Nm)→Nat→List (Int×(aB×Unit))
 | [],_=>[]
 | q::r,i=>cond (bL q.1.Kind 4&&!seq q.2 []) (((i:Int),q.1,())::wN r (i+1)) (wN r (i+1))
theorem adD {fs:List aB} {o:aA} (hl:fs.length≤o.aN.length) (hv:o.aN.length≤1048576):∀ m i k,i+m=fs.length→m+1≤k→
  iter (ts:=vt) (R:=List (Int×(aB×Unit))) k m7 o fs (fs.length:Int) (i:Int)=some (wN ((fs.zip o.aN).drop i) i):=by
 have hz:=Db hl
 intro m
 induction m with
 | zero=>
  intro i k h1 h2
  obtain rfl:i=fs.length:=by omega
  obtain ⟨k,rfl⟩:∃ j,k=j+1:=⟨k-1,by omega⟩
  rw [List.drop_of_length_le (by omega)]
  simp only [iter,m7,cf,cond_false,wN]<;>rfl
 | succ m ih=>
  intro i k h1 h2
  obtain ⟨k,rfl⟩:∃ j,k=j+1:=⟨k-1,by omega⟩
  have hi:i < fs.length:=by omega
  have c9:i < o.aN.length:=by omega
  rw [List.drop_eq_getElem_cons (show i < (fs.zip o.aN).length by omega),List.getElem_zip]
  have ih':=ih (i+1) k (by omega) (by omega)
  simp only [iter,m7,b6 hi,bF hi,bF c9,cond_true,bK,bR hi,bR c9,bH (show fs.length≤1048576 by omega) hi,ih',wN]
  cases bL fs[i].Kind 4<;>cases seq o.aN[i] []<;>rfl
theorem YL {k:Nat} {w:aH} {o:aA} (hk:4194304≤k) (hw:w.bS.length≤1048576) (hv:o.aN.length≤1048576):ia k w o=some (wN (((cx w.bS o).getD []).zip o.aN) 0):=by
 unfold ia
 rw [yg hk hw]
 simp only [Option.bind_some]
 cases hf:cx w.bS o with
 | none=>rfl
 | some fs=>
  have hl:=(jA hf).1
  have h:=adD (fs:=fs) (o:=o) (by omega) hv fs.length 0 k (by omega) (by omega)
  rw [List.drop_zero] at h
  exact h
theorem No {b:aE} {w:aH} {os:List aA} {n j:Int} {e:Bool} {o:aA} {k:Nat} (hk:4194304≤k) (hb:b.aF.length≤1048576) (D:aE→aH→List aA→Int→Int→Bool→aA→Option Bool):∀ (z:List (aB×Nm)) (i:Nat),(∀ t (h:t < z.length),∃ h':i+t < o.aN.length,o.aN[i+t]=z[t].2)→
  DL (ts:=c7) (R:=Bool) (cL k) D (wN z i) b w os n j e o=cond (z.all (Vg b)) (D b w os n j e o) (some false)
 | [],_,_=>rfl
 | q::r,i,h=>by
  have ih:=No (o:=o) (b:=b) (w:=w) (os:=os) (n:=n) (j:=j) (e:=e) hk hb D r (i+1) fun t ht=>by
   obtain ⟨h1,h2⟩:=h (t+1) (by simpa using ht)
   exact ⟨by omega,by simpa [show i+1+t=i+(t+1) by omega] using h2⟩
  obtain ⟨h1,h2⟩:=h 0 (by simp)
  simp only [Nat.add_zero,List.getElem_cons_zero] at h1 h2
  simp only [wN,List.all_cons]
  have hq:Vg b q=!(bL q.1.Kind 4&&(!seq q.2 []&&bO (atO b q.1.To q.2) 0)):=rfl
  rw [hq]
  cases c1:bL q.1.Kind 4 with
  | false=>exact ih
  | true=>
   cases c2:seq q.2 [] with
   | true=>exact ih
   | false=>
    simp only [Bool.not_false,Bool.and_self,cond_true,Bool.true_and]
    change cL k ((i:Int),q.1,()) (DL (ts:=c7) (R:=Bool) (cL k) D (wN r (i+1))) b w os n j e o=_
    unfold cL
    simp only [bF h1,bK,bR h1,h2,afw hk hb,Option.bind_some]
    cases bO (atO b q.1.To q.2) 0 with
    | true=>rfl
    | false=>exact ih
def abI (q:Option aA) (o:aA):Bool:=match q with
 | none=>true
 | some p=>wm p.Kind p.Name o.Kind o.Name
def Xh (w:aH) (b:aE) (q:Option aA) (o:aA):Bool:=
 (bL (yh w.bS o).1 0&&((jz w.eg o.aZ).isSome&&(ck 1 o.Version&&ck o.Version b.GL)))&&(abI q o&&(Pp (yi w.bS w.ib o).aN o.aN&&GY b ((cx w.bS o).getD []) o.aN))
def oQ (w:aH) (b:aE):Bool:=ck (b.aF.length:Int) 40&&chain (Xh w b) none b.aF
theorem Pq (xs:List aC) (ms:List aD) (o:aA):(yi xs ms o).aN.length=o.aN.length:=by
 unfold yi
 rw [(aab ..).1,(Md ..).1]
theorem Np (xs:List aC) (o:aA):((cx xs o).getD []).length≤o.aN.length:=by
 cases hf:cx xs o with
 | none=>simp
 | some fs=>have:=(jA hf).1;simp;omega
theorem Rc {k:Nat} {w:aH} {b:aE} (hk:4194304*10≤k) (hw:w.sd) (hb:b.sd) (Eh:gh w.bS w.ib=true):oD k w b=some (oQ w b):=by
 obtain ⟨-,-,-,R1,-⟩:=hb
 unfold oD oQ
 have h:=fq (R:=Option Bool) (x:=b.aF) (p:=Xh w b) (B:=4194304*8) (l:=fun k i=>iter (ts:=eG) (R:=Bool) k (dK (some true)) w b i) (E:=some true) (O:=some false)
  (fun k=>by simp only [iter,dK,cf,cond_false]<;>rfl)
  (fun k i hi cu=>by
   have hoi:=R1.2 _ (dG hi)
   have hle:=Of hoi
   have hsl:=Pq w.bS w.ib b.aF[i]
   have hlk:=fun (n:Int) (J:aH→aE→Int→Option Bool)=>Vh (w:=w) (b:=b) (n:=n) (o:=b.aF[i]) R1.1 (Np w.bS b.aF[i]) hle.1 J (show 4194304*2≤k by omega)
   simp only [iter,dK,share,b6 hi,bF hi,cond_true,bK,bR hi,Ra (show 4194304*4≤k by omega) hw.1 hoi,O7 (show 4194304≤k by omega) hw.2.2.1,OZ,Td (show 4194304*4≤k by omega) hw.1.1 hle Eh,abH (show 4194304≤k by omega) (show (yi w.bS w.ib b.aF[i]).aN.length≤1048576 by rw [hsl];exact hle.1),oP (show 4194304≤k by omega) hw.1.1,Option.bind_some,bH R1.1 hi,Xh]
   have tail:∀ c:Bool,cond (!c) (some false) (iter (ts:=gb) (R:=Bool) k (ea fun afx afy afz=>iter (ts:=eG) (R:=Bool) k (dK (some true)) afx afy (aQ .i64 afz (1:Int))) w b (i:Int) ((cx w.bS b.aF[i]).getD []) (0:Int) b.aF[i])
     = cond (c&&GY b ((cx w.bS b.aF[i]).getD []) b.aF[i].aN) (iter (ts:=eG) (R:=Bool) k (dK (some true)) w b ((i+1:Nat):Int)) (some false):=fun c=>by
    have:=hlk (i:Int) fun afx afy afz=>iter (ts:=eG) (R:=Bool) k (dK (some true)) afx afy (aQ .i64 afz (1:Int))
    rw [bH R1.1 hi] at this
    cases c with
    | false=>rfl
    | true=>exact this.trans (by cases GY b ((cx w.bS b.aF[i]).getD []) b.aF[i].aN<;>rfl)
   cases bL (yh w.bS b.aF[i]).1 0 with
   | false=>rfl
   | true=>
    cases (jz w.eg b.aF[i].aZ).isSome with
    | false=>rfl
    | true=>
     cases ck 1 b.aF[i].Version&&ck b.aF[i].Version b.GL with
     | false=>rfl
     | true=>
      rcases Nat.eq_zero_or_pos i with rfl | h0
      ·simp only [sZ,l9,abI,Bool.true_and]
       exact tail _
      ·have c9:i-1 < b.aF.length:=by omega
       simp only [A1 h0,qP h0 (show i≤1048576 by have:=R1.1;omega),bF c9,cond_true,bK,bR c9,l_ h0 hi,abI,Tm,Option.bind_some,Tn,Bool.true_and]
       cases wm b.aF[i-1].Kind b.aF[i-1].Name b.aF[i].Kind b.aF[i].Name with
       | false=>rfl
       | true=>exact tail _) k (by have:=R1.1;omega)
 simp only [share,cO]
 cases ck (b.aF.length:Int) 40 with
 | false=>rfl
 | true=>exact h.trans (by cases chain (Xh w b) none b.aF<;>rfl)
theorem aac {xs:List aC} {o:aA} (h:eM xs=true):S_ xs o=yh xs o:=by
 unfold S_ yh
 rw [h,Bool.true_and]
theorem R2 (x:List aJ) (n:Nm):bO (zH (fun t:aJ=>seq t.Name n) x 0) 0=!(jz x n).isSome:=by
 unfold jz
 rcases fv (fun t:aJ=>seq t.Name n) x with ⟨k1,k2⟩ | ⟨q,hq,k1,k2,_⟩
 ·rw [k1,k2];rfl
 ·rw [k1,k2,eh (by omega)];rfl
theorem abJ {fs:List aB} {vs:List Nm}:∀ t (h:t < (fs.zip vs).length),∃ h':0+t < vs.length,vs[0+t]=(fs.zip vs)[t].2:=fun t h=>by
 have h2:t < vs.length:=by simp at h;omega
 exact ⟨by omega,by simp⟩
theorem Re {k:Nat} {w:aH} {b:aE} (hk:4194304*12≤k) (hw:w.sd) (hb:b.sd) (Eh:gh w.bS w.ib=true):fV k b w=some (oQ w b):=by
 obtain ⟨-,-,-,R1,-⟩:=hb
 have tA:eM w.bS=true:=by simp only [gh,Bool.and_eq_true] at Eh;exact Eh.1
 unfold fV oQ
 have h:=fq (R:=Option Bool) (x:=b.aF) (p:=Xh w b) (B:=4194304*10) (l:=fun k i=>iter (ts:=cQ) (R:=Bool) k (cG fun _=>some true) b w b.aF (b.aF.length:Int) i false) (E:=some true) (O:=some false)
  (fun k=>by simp only [iter,cG,cf,cond_false]<;>rfl)
  (fun k i hi cu=>by
   have hoi:=R1.2 _ (dG hi)
   have hle:=Of hoi
   have hsl:=Pq w.bS w.ib b.aF[i]
   have tail:∀ c:Bool,cond (!c) (some false) ((qz k w b.aF[i]).bind fun abK=>(ia k abK.1 abK.2).bind fun abL=>DL (ts:=c7) (R:=Bool) (cL k) (fun (afA:aE) (afB:aH) (afC:List aA) (afD:Int) (afE:Int) (afF:Bool) (abL:aA)=>iter (ts:=cQ) (R:=Bool) k (cG fun _=>some true) afA afB afC afD (aQ .i64 afE (1:Int)) afF) abL b w b.aF (b.aF.length:Int) (i:Int) false b.aF[i])
     = cond (c&&GY b ((cx w.bS b.aF[i]).getD []) b.aF[i].aN) (iter (ts:=cQ) (R:=Bool) k (cG fun _=>some true) b w b.aF (b.aF.length:Int) ((i+1:Nat):Int) false) (some false):=fun c=>by
    cases c with
    | false=>rfl
    | true=>
     unfold qz
     simp only [Bool.not_true,cond_false,Option.bind_some,YL (show 4194304≤k by omega) hw.1.1 hle.1,Bool.true_and]
     refine (No (show 4194304≤k by omega) R1.1 _ _ 0 abJ).trans ?_
     rw [bH R1.1 hi];rfl
   simp only [iter,cG,share,b6 hi,bF hi,cond_true,bK,bR hi,U3 (show 4194304*6≤k by omega) hw.1 hoi,aac tA,Cl (show 4194304≤k by omega) hw.2.2.1,R2,Ti (show 4194304*7≤k by omega) hw.1 hw.2.1 hle,Eh,Tk (show 4194304≤k by omega) (show (yi w.bS w.ib b.aF[i]).aN.length≤1048576 by rw [hsl];exact hle.1),Option.bind_some,Xh,cO b.aF[i].Version,cO b.GL]
   have abM:∀ c1:Bool,cond (!c1) (some false) (cond (!(jz w.eg b.aF[i].aZ).isSome) (some false) (cond (!ck 1 b.aF[i].Version) (some false) (cond (!ck b.aF[i].Version b.GL) (some false) (cond (!Pp (yi w.bS w.ib b.aF[i]).aN b.aF[i].aN) (some false) ((qz k w b.aF[i]).bind fun abK=>(ia k abK.1 abK.2).bind fun abL=>DL (ts:=c7) (R:=Bool) (cL k) (fun (afA:aE) (afB:aH) (afC:List aA) (afD:Int) (afE:Int) (afF:Bool) (abL:aA)=>iter (ts:=cQ) (R:=Bool) k (cG fun _=>some true) afA afB afC afD (aQ .i64 afE (1:Int)) afF) abL b w b.aF (b.aF.length:Int) (i:Int) false b.aF[i])))))
     = cond ((c1&&((jz w.eg b.aF[i].aZ).isSome&&(ck 1 b.aF[i].Version&&ck b.aF[i].Version b.GL)))&&(Pp (yi w.bS w.ib b.aF[i]).aN b.aF[i].aN&&GY b ((cx w.bS b.aF[i]).getD []) b.aF[i].aN)) (iter (ts:=cQ) (R:=Bool) k (cG fun _=>some true) b w b.aF (b.aF.length:Int) ((i+1:Nat):Int) false) (some false):=fun c1=>by
    rw [tail]
    cases c1<;>cases (jz w.eg b.aF[i].aZ).isSome<;>cases ck 1 b.aF[i].Version<;>cases ck b.aF[i].Version b.GL<;>rfl
   rcases Nat.eq_zero_or_pos i with rfl | h0
   ·simp only [sZ,l9,abI,Bool.true_and]
    refine Eq.trans ?_ (abM _)
    cases bL (yh w.bS b.aF[0]).1 0 with
    | false=>rfl
    | true=>cases (jz w.eg b.aF[0].aZ).isSome<;>cases ck 1 b.aF[0].Version<;>cases ck b.aF[0].Version b.GL<;>rfl
   ·have c9:i-1 < b.aF.length:=by omega
    simp only [A1 h0,qP h0 (show i≤1048576 by have:=R1.1;omega),bF c9,cond_true,bK,bR c9,l_ h0 hi,abI,wm]
    cases h1:seq b.aF[i-1].Kind b.aF[i].Kind with
    | true=>
     rw [Tj h1]
     cases slt b.aF[i-1].Name b.aF[i].Name with
     | false=>simp only [Bool.false_or,Bool.true_and,Bool.false_and,Bool.and_false];rfl
     | true=>
      simp only [Bool.false_or,Bool.true_and]
      refine Eq.trans ?_ (abM _)
      cases bL (yh w.bS b.aF[i]).1 0 with
      | false=>rfl
      | true=>cases (jz w.eg b.aF[i].aZ).isSome<;>cases ck 1 b.aF[i].Version<;>cases ck b.aF[i].Version b.GL<;>rfl
    | false=>
     cases slt b.aF[i-1].Kind b.aF[i].Kind with
     | false=>simp only [Bool.false_or,Bool.true_and,Bool.false_and,Bool.and_false];rfl
     | true=>
      simp only [Bool.true_or,Bool.true_and]
      refine Eq.trans ?_ (abM _)
      cases bL (yh w.bS b.aF[i]).1 0 with
      | false=>rfl
      | true=>cases (jz w.eg b.aF[i].aZ).isSome<;>cases ck 1 b.aF[i].Version<;>cases ck b.aF[i].Version b.GL<;>rfl) k (by have:=R1.1;omega)
 simp only [share,cO]
 cases ck (b.aF.length:Int) 40 with
 | false=>rfl
 | true=>exact h.trans (by cases chain (Xh w b) none b.aF<;>rfl)
def uJ (x:List aJ):Nat→Nm→Nm→Bool
 | 0,a,b=>seq a b
 | m+1,a,b=>seq a b||(!seq (A2 x a) []&&uJ x m (A2 x a) b)
theorem Vi {k:Nat} {x:List aJ} {a b:Nm} (hk:4194304*2≤k) (hx:x.length≤1048576):y8 k x a b=some (uJ x 4 a b):=by
 have go:∀ (m j k:Nat) (a:Nm),j+m=4→4194304+m+1≤k→cond (seq a b) (some true) (iter (ts:=v8) (R:=Bool) k (ny (some false)) x a b (j:Int))=some (uJ x m a b):=by
  intro m
  induction m with
  | zero=>
   intro j k a h hk
   obtain rfl:j=4:=by omega
   obtain ⟨k,rfl⟩:∃ q,k=q+1:=⟨k-1,by omega⟩
   simp only [iter,ny,uJ,eh (show ¬ ((4:Nat):Int) < (4:Int) by omega)]
   cases seq a b<;>rfl
  | succ m ih=>
   intro j k a h hk
   obtain ⟨k,rfl⟩:∃ q,k=q+1:=⟨k-1,by omega⟩
   have h1:=ih (j+1) k (A2 x a) (by omega) (by omega)
   simp only [iter,ny,uJ,mB (show ((j:Nat):Int) < (4:Int) by omega),cond_true,UW (show 4194304≤k by omega) hx,Option.bind_some,bH (n:=4) (by omega) (show j < 4 by omega)]
   cases seq a b with
   | true=>rfl
   | false=>
    cases seq (A2 x a) [] with
    | true=>rfl
    | false=>exact h1
 exact go 4 0 k a (by omega) (by omega)
theorem Vj {k:Nat} {x:List aJ} {a b:Nm} (hk:4194304*2≤k) (hx:x.length≤1048576):yw k x a b=some (uJ x 4 a b):=by
 have go:∀ (m j k:Nat) (a:Nm),j+m=4→4194304+m+1≤k→iter (ts:=vw) (R:=Bool) k (m8 (some true)) x a b (j:Int)=some (uJ x m a b):=by
  intro m
  induction m with
  | zero=>
   intro j k a h hk
   obtain rfl:j=4:=by omega
   obtain ⟨k,rfl⟩:∃ q,k=q+1:=⟨k-1,by omega⟩
   simp only [iter,m8,share,uJ,Cl (show 4194304≤k by omega) hx,Option.bind_some,show bL ((4:Nat):Int) 4=true from rfl]
   cases seq a b<;>rfl
  | succ m ih=>
   intro j k a h hk
   obtain ⟨k,rfl⟩:∃ q,k=q+1:=⟨k-1,by omega⟩
   have hj:bL (j:Int) 4=false:=by simp only [bL,beq_eq_false_iff_ne];omega
   have h1:=ih (j+1) k (A2 x a) (by omega) (by omega)
   simp only [iter,m8,share,uJ,Cl (show 4194304≤k by omega) hx,Option.bind_some,hj]
   cases seq a b with
   | true=>rfl
   | false=>
    simp only [Bool.not_false,cond_true,cond_false,Bool.false_or]
    rcases fv (fun t:aJ=>seq t.Name a) x with ⟨k1,k2⟩ | ⟨q,hq,k1,k2,_⟩
    ·have e:A2 x a=[]:=by simp only [A2,jz,k2]
     rw [k1,e];rfl
    ·have e:A2 x a=x[q].g9:=by simp only [A2,jz,k2]
     rw [k1,eh (by omega),bF hq,bR hq,e]
     rw [e] at h1
     simp only [cond_false,bK]
     cases seq x[q].g9 [] with
     | true=>rfl
     | false=>
      simp only [cond_false,bH (n:=4) (by omega) (show j < 4 by omega)]
      exact h1
 exact go 4 0 k a (by omega) (by omega)
end Go.Proofs.YtljfmaaadnoggaaGreatDoor.Pu
