/- Plain words and laws. No condition. -/
import Derived.Test.YtjkbbdldmdajkaaGreatDoorMw1
set_option linter.unusedSimpArgs false
set_option linter.unusedVariables false
namespace Go.Proofs.YtjkbbdldmdajkaaGreatDoor.Pu
open Go Go.RowKit Go.Proofs.YtjkbbdldmdajkaaGreatDoor.c_ Go.Proofs.YtjkbbdldmdajkaaGreatDoor.Fn
theorem MU {k:Nat} {o:aA} {fs:List aC} (hk:4194304*2≤k) (ho:o.sd) (hl:fs.length=o.aR.length) (hf:∀ f,f∈fs→f.Words.length≤1048576):
  iter (ts:=l6) (R:=Int×Int) k (ja (some (0,0))) o fs (0:Int)=some ((first (MT o.aR) fs 0).getD (0,0)):=by
 have hv:=ho.2.2.2.1;have h:=Hj (R:=Option (Int×Int)) (x:=fs) (g:=MT o.aR) (B:=4194304) (l:=fun k i=>iter (ts:=l6) (R:=Int×Int) k (ja (some (0,0))) o fs i) (E:=some (0,0)) (O:=fun c=>some c)
  (fun k=>by simp only [iter,ja,ck,cond_false]<;>rfl)
  (fun k i hi hb=>by
   have di:i < o.aR.length:=by omega
   have hh:=hv.1;simp only [iter,ja,share,cf hi,bM hi,bM di,cond_true,bL,bR hi,bR di,bQ (n:=fs.length) (by omega) hi,Hk hb (hf _ (dJ hi)) (hv.2 _ (dJ di)),Option.bind_some,MT,J_ di];cases seq o.aR[i] []<;>cases fs[i].c6<;>cases fits fs[i] o.aR[i]<;>rfl) k (by have:=hv.1;omega)
 refine h.trans ?_;cases first (MT o.aR) fs 0<;>rfl
def xE (xs:List aD) (o:aA):Int×Int:=
 cond (MS xs o) ((first (MT o.aR) ((cw xs o).getD []) 0).getD (0,0)) (1,0)
theorem Pd {k:Nat} {xs:List aD} {o:aA} (hk:4194304*4≤k) (hx:lE aD.sd xs) (ho:o.sd):xy k xs o=some (xE xs o):=by
 have JH:=ho;obtain ⟨h1,h2,h3,h4,-,h5,-⟩:=ho;unfold xy xE MS;simp only [share,s6 (show 4194304≤k by omega) hx.1,ez (show 4194304≤k by omega) h2,ez (show 4194304≤k by omega) h3,GJ (show 8388608≤k by omega) h5,LO,Option.bind_some,cL];cases hf:cw xs o with
 | none=>rfl
 | some fs=>
  obtain ⟨e1,s,e2,e3⟩:=jD hf;have go:=MU (k:=k) (by omega) JH e1 (fun f hfm=>by
   have:=((hx.2 s e2).2.2 f (by rw [e3];exact hfm)).2.2.2.2.1;exact this.1)
  simp only [Option.isSome_some,Option.getD_some];cases cB o.Name<;>cases cB o.aX<;>cases b8 (o.b7.length:Int) 3<;>cases q_ o.b7<;>cases b8 0 o.Version&&b8 o.Version 1000000<;>first | rfl | (refine (show _=((iter (ts:=l6) (R:=Int×Int) k (ja (some (0,0))) o fs (0:Int)).bind fun v5=>some (v5.1,v5.2)) from rfl).trans ?_;rw [go];rfl) | exact go
theorem agD (k:Nat) (f:eV):AS k f=some (f.code,f.place):=rfl
def ae5:Option (Int×Int)→Unit ⊕ (eV ⊕ eV)
 | none=>.inl ()
 | some (c,p)=>.inr (.inl ⟨c,p⟩)
theorem Iz {k:Nat} {xs:List aD} {o:aA} {fs:List aC} (hk:4194304*2≤k) (hx:lE aD.sd xs) (ho:o.sd) (hf:cw xs o=some fs):o4 k xs o=some (ae5 (first (MT o.aR) fs 0)):=by
 obtain ⟨hl,s,e2,e3⟩:=jD hf;have hv:=ho.2.2.2.1;unfold o4;rw [xD (by omega) hx.1,hf];have h:=Hj (R:=Option (Unit ⊕ (eV ⊕ eV))) (x:=fs) (g:=MT o.aR) (B:=4194304) (l:=fun k i=>iter (ts:=sN) (R:=Unit ⊕ (eV ⊕ eV)) k (kE (some (.inl ()))) o fs (fs.length:Int) i) (E:=some (.inl ())) (O:=fun c=>some (.inr (.inl ⟨c.1,c.2⟩)))
  (fun k=>by simp only [iter,kE,ck,cond_false]<;>rfl)
  (fun k i hi hb=>by
   have di:i < o.aR.length:=by omega
   have hh:=hv.1;have hw:fs[i].Words.length≤1048576:=((hx.2 s e2).2.2 fs[i] (by rw [e3];exact dJ hi)).2.2.2.2.1.1;simp only [iter,kE,share,cf hi,bM hi,bM di,cond_true,bL,bR hi,bR di,uF hb hw (hv.2 _ (dJ di)),Option.bind_some,MT,J_ di];rw [bQ (n:=fs.length) (by omega) hi];cases seq o.aR[i] []<;>cases fs[i].c6<;>cases fits fs[i] o.aR[i]<;>rfl) k (by have:=hv.1;omega)
 simp only [share,Option.bind_some,Option.getD_some];refine h.trans ?_;cases first (MT o.aR) fs 0<;>rfl
theorem LP {k:Nat} {xs:List aD} {o:aA} (hk:4194304*5≤k) (hx:lE aD.sd xs) (ho:o.sd):sO k xs o=some (cond (e_ xs&&MS xs o) (.inr ()) (.inl ⟨1,0⟩)):=by
 obtain ⟨h1,h2,h3,h4,-,h5,-⟩:=ho;unfold sO MS;simp only [share,yM hx hk,xD (show 4194304≤k by omega) hx.1,f_ (show 4194304≤k by omega) h2,f_ (show 4194304≤k by omega) h3,uG (show 8388608≤k by omega) h5,Option.bind_some,cL];cases (cw xs o).isSome<;>cases e_ xs<;>cases cB o.Name<;>cases cB o.aX<;>cases b8 (o.b7.length:Int) 3<;>cases q_ o.b7<;>cases b8 0 o.Version<;>cases b8 o.Version 1000000<;>rfl
theorem SB {k:Nat} {xs:List aD} {o:aA} (hk:4194304*6≤k) (hx:lE aD.sd xs) (ho:o.sd):sP k xs o=some (QU xs o):=by
 obtain ⟨k,rfl⟩:∃ q,k=q+3:=⟨k-3,by omega⟩;unfold sP QU;simp only [share,iter,zR];rw [show bK 0 2=true from rfl,show bH 0 0=true from rfl];simp only [cond_true,LP (show 4194304*5≤k+2 by omega) hx ho,Option.bind_some];cases hs:e_ xs&&MS xs o with
 | false=>rfl
 | true=>
  simp only [cond_true,ady];rw [show aP .i64 0 1=1 from rfl,show bK 1 2=true from rfl,show bH 1 0=false from rfl,show bH 1 1=true from rfl];cases hf:cw xs o with
  | none=>simp [MS,hf] at hs
  | some fs=>
   simp only [cond_true,cond_false,Iz (show 4194304*2≤k+1 by omega) hx ho hf,Option.bind_some,Option.getD_some];cases hb:first (MT o.aR) fs 0 with
   | none=>rfl
   | some c=>rfl
theorem Ka {k:Nat} {fs:List aC} {n:List UInt8} (hk:4194304≤k) (hx:fs.length≤1048576):eW k fs n=some (uE (fun f=>seq f.Name n) fs 0):=by
 unfold eW;simp only [share];exact m9 (x:=fs) (p:=fun f=>seq f.Name n) (l:=fun k i=>iter (ts:=yh) (R:=Int) k (qm (some (-1))) fs n i)
  (fun k=>by simp only [iter,qm,ck,cond_false]<;>rfl)
  (fun k i hi=>by simp only [iter,qm,cf hi,bM hi,cond_true,bL,bR hi,bQ hx hi]<;>rfl) k (by omega)
theorem Kb {k:Nat} {fs:List aC} {n:List UInt8} (hk:4194304≤k) (hx:fs.length≤1048576):jy k fs n=some (uE (fun f=>seq f.Name n) fs 0):=by
 unfold jy;simp only [share];exact m9 (x:=fs) (p:=fun f=>seq f.Name n) (l:=fun k i=>iter (ts:=yu) (R:=Int) k (qB (some (-1))) n fs (fs.length:Int) i)
  (fun k=>by simp only [iter,qB,ck,cond_false]<;>rfl)
  (fun k i hi=>by simp only [iter,qB,cf hi,bM hi,cond_true,bL,bR hi,bQ hx hi]<;>rfl) k (by omega)
def Hl (fs:List aC) (n:List UInt8):Option aC:=fs.find? fun f=>seq f.Name n
def ou (fs:List aC) (n:List UInt8):Bool:=match Hl fs n with
 | some f=>!bH f.Kind 4
 | none=>false
theorem Xx {k:Nat} {fs:List aC} {n:List UInt8} (hk:4194304≤k) (hx:fs.length≤1048576):lZ k fs n=some (ou fs n):=by
 unfold lZ;rw [Ka hk hx];simp only [Option.bind_some,ou,Hl];rcases eJ (fun f:aC=>seq f.Name n) fs with ⟨h1,h2⟩ | ⟨j,hj,h1,h2,_⟩
 ·rw [h1,h2];rfl
 ·rw [h1,h2,C8 (by omega),bM hj,bR hj];rfl
theorem Xy {k:Nat} {fs:List aC} {n:List UInt8} (hk:4194304≤k) (hx:fs.length≤1048576):jL k n fs=some (ou fs n,fs):=by
 unfold jL;rw [Kb hk hx];simp only [Option.bind_some,ou,Hl];rcases eJ (fun f:aC=>seq f.Name n) fs with ⟨h1,h2⟩ | ⟨j,hj,h1,h2,_⟩
 ·rw [h1,h2];rfl
 ·rw [h1,h2,C8 (by omega),bM hj,bR hj];rfl
def SC (fs:List aC) (n v:List UInt8):Bool:=match Hl fs n with
 | some f=>fits f v
 | none=>false
def Kc (fs:List aC) (m:aH):Bool:=
 ou fs m.Field&&((seq m.dk []||ou fs m.dk)&&((seq m.cS []||ou fs m.cS)&&(!seq m.dk m.Field&&(!seq m.cS m.Field&&((!seq m.dk []||seq m.Is [])&&(!c_.beq (seq m.tp []) (seq m.cS [])&&(seq m.tp []||SC fs m.Field m.tp)))))))
def ov (xs:List aD) (m:aH):Bool:=match xs.find? fun s=>seq s.Kind m.Kind with
 | some s=>Kc s.aV m
 | none=>false
theorem La {fs:List aC} {n:List UInt8} (h:ou fs n=true):∃ j,∃ hj:j < fs.length,uE (fun f=>seq f.Name n) fs 0=(j:Int)∧Hl fs n=some fs[j]:=by
 unfold ou Hl at *;rcases eJ (fun f:aC=>seq f.Name n) fs with ⟨h1,h2⟩ | ⟨j,hj,h1,h2,_⟩
 ·rw [h2] at h;cases h
 ·exact ⟨j,hj,h1,h2⟩
theorem UL {k:Nat} {xs:List aD} {m:aH} (hk:4194304≤k) (hx:lE aD.sd xs) (hm:m.sd):uW k xs m=some (ov xs m):=by
 unfold uW ov;rw [Fa hk hx.1,Fb];simp only [Option.bind_some];rcases eJ (fun s:aD=>seq s.Kind m.Kind) xs with ⟨h1,h2⟩ | ⟨j,hj,h1,h2,_⟩
 ·rw [h1,h2];rfl
 ·have hs:=hx.2 _ (dJ hj);obtain ⟨-,m2,m3,m4,m5,m6⟩:=hm;rw [h1,h2,dz (by omega),bM hj,bR hj];simp only [cond_false,bL,share,Xx hk hs.2.1,Option.bind_some,Kc];generalize hF:xs[j].aV=fs at *;cases hp:ou fs m.Field with
  | false=>rfl
  | true=>
   obtain ⟨q,hq,q1,q2⟩:=La hp;have adB:SC fs m.Field m.tp=fits fs[q] m.tp:=by unfold SC;rw [q2]
   rw [Ka hk (by rw [← hF];exact hs.2.1),q1,adB];simp only [Option.bind_some,bM hq,bL,bR hq];rw [Hk hk (by subst hF;exact (hs.2.2 _ (dJ hq)).2.2.2.2.1.1) m5];cases seq m.dk []<;>cases ou fs m.dk<;>cases seq m.cS []<;>cases ou fs m.cS<;>cases seq m.dk m.Field<;>cases seq m.cS m.Field<;>cases seq m.Is []<;>cases seq m.tp []<;>rfl
theorem UM {k:Nat} {fs:List aC} {m:aH} (hk:4194304≤k) (hx:lE aC.sd fs) (hm:m.sd):zP k fs m=some (Kc fs m):=by
 unfold zP;obtain ⟨-,m2,m3,m4,m5,m6⟩:=hm;simp only [share,Xy hk hx.1,Option.bind_some,Kc];cases hp:ou fs m.Field with
 | false=>rfl
 | true=>
  obtain ⟨q,hq,q1,q2⟩:=La hp;have adB:SC fs m.Field m.tp=fits fs[q] m.tp:=by unfold SC;rw [q2]
  rw [Kb hk hx.1,q1,adB];simp only [Option.bind_some,bM hq,bL,bR hq];rw [uF hk (hx.2 _ (dJ hq)).2.2.2.2.1.1 m5];cases seq m.dk []<;>cases ou fs m.dk<;>cases seq m.cS []<;>cases ou fs m.cS<;>cases seq m.dk m.Field<;>cases seq m.cS m.Field<;>cases seq m.Is []<;>cases seq m.tp []<;>rfl
def ox (kind name:Nm) (m:aH):List Nm:=cond (seq m.Kind kind&&seq m.Field name) ((cond (seq m.dk []) [] [m.dk])++(cond (seq m.cS []) [] [m.cS])) []
def reads (ms:List aH) (kind name:Nm):List Nm:=ms.flatMap (ox kind name)
theorem MV {α β:Type} (g:α→List β):∀ (l:List α) (a:List β),l.foldl (fun acc m=>acc++g m) a=a++l.flatMap g
 | [],a=>by simp
 | m::r,a=>by rw [List.foldl_cons,MV g r];simp
theorem MW (kind name:Nm) (m:aH):(ox kind name m).length≤2:=by
 unfold ox;cases seq m.Kind kind&&seq m.Field name<;>cases seq m.dk []<;>cases seq m.cS []<;>simp
theorem Zq {k:Nat} {name:Nm} {ms:List aH} {s:aD} (hk:4194304≤k) (hm:ms.length≤1048576):xC k name ms s=some (reads ms s.Kind name,ms,s):=by
 unfold xC;simp only [share];have h:=fD (S:=List Nm) (x:=ms) (f:=fun acc m=>acc++ox s.Kind name m) (B:=0)
  (l:=fun k acc i=>iter (ts:=yw) (R:=(List (List UInt8))×(List aH)×aD) k (qC fun v61 v62 v63=>some (v63,v61,v62)) name ms (ms.length:Int) i ms s acc) (J:=fun acc=>some (acc,ms,s)) (fun i acc=>acc.length≤2*i)
  (fun k acc _=>by simp only [iter,qC,ck,cond_false]<;>rfl)
  (fun k i acc hi _ hI=>⟨by
   simp only [iter,qC,share,cf hi,bM hi,cond_true,bL,bR hi,bQ hm hi,ox];rw [hC (by simp;omega) (by omega),hC (by simp;omega) (by omega),hC (by simp;omega) (by omega)];cases seq ms[i].Kind s.Kind<;>cases seq ms[i].Field name<;>cases seq ms[i].dk []<;>cases seq ms[i].cS []<;>simp [bL]<;>rfl,by
   have:=MW s.Kind name ms[i];simp only [List.length_append];omega⟩) k [] (by omega) (by simp)
 refine h.trans ?_;rw [MV];rfl
def Ej (row:List Nm) (y:Nm):Bool:=row.any fun z=>seq z y
theorem yN {row:List Nm} {y:Nm}:Ej row y=true↔y∈row:=by
 simp only [Ej,List.any_eq_true,eP];exact ⟨fun ⟨z,h1,h2⟩=>h2▸h1,fun h=>⟨y,h,rfl⟩⟩
def QV (ms:List aH) (kind name:Nm) (row:List Nm):Bool:=(reads ms kind name).all (Ej row)
theorem Xz {k:Nat} {ms:List aH} {kind name:Nm} {row:List Nm} (hk:8388608≤k) (hm:ms.length≤1048576) (hr:row.length≤1048576):xw k ms kind name row=some (QV ms kind name row):=by
 unfold xw;simp only [share];have h:=gN (x:=ms) (p:=fun m=>(ox kind name m).all (Ej row)) (B:=4194304) (l:=fun k i=>iter (ts:=yi) (R:=Bool) k (qn (some true)) ms kind name row i) (E:=some true) (O:=some false)
  (fun k=>by simp only [iter,qn,ck,cond_false]<;>rfl)
  (fun k i hi hb=>by
   simp only [iter,qn,share,cf hi,bM hi,cond_true,bL,bR hi,bQ hm hi,QR hb hr,Option.bind_some,ox];have e1:(row.any fun y=>seq y ms[i].dk)=Ej row ms[i].dk:=rfl;have e2:(row.any fun y=>seq y ms[i].cS)=Ej row ms[i].cS:=rfl;rw [e1,e2];cases seq ms[i].Kind kind<;>cases seq ms[i].Field name<;>cases seq ms[i].dk []<;>cases seq ms[i].cS []<;>cases hw:Ej row ms[i].dk<;>cases hf:Ej row ms[i].cS<;>simp [hw,hf]<;>rfl) k (by omega)
 refine h.trans ?_;unfold QV reads;rw [List.all_flatMap];cases ms.all fun a=>(ox kind name a).all (Ej row)<;>rfl
def IA (ms:List aH) (s:aD) (row:List Nm) (f:aC):Bool:=!Ej row f.Name&&QV ms s.Kind f.Name row
def C9 (ms:List aH) (s:aD) (row:List Nm):List Nm:=match s.aV.find? (IA ms s row) with
 | some f=>row++[f.Name]
 | none=>row
def vY (ms:List aH) (s:aD):List Nm:=s.aV.foldl (fun row _=>C9 ms s row) []
theorem XA (ms:List aH) (s:aD) (row:List Nm):(C9 ms s row).length≤row.length+1:=by
 unfold C9;split<;>simp
theorem V9 {k:Nat} {ms:List aH} {s:aD} (hk:4194304*4≤k) (hm:ms.length≤1048576) (hs:s.aV.length≤1048576):yj k s ms=some (vY ms s):=by
 unfold yj;simp only [share];have inner:∀ (J:List aH→aD→Int→List Nm→Option (List Nm)) (n:Int) (row:List Nm) (k:Nat),4194304*3≤k→row.length≤1048576→
   iter (ts:=uh) (R:=List (List UInt8)) k (pY J) ms s n (0:Int) row=J ms s n (C9 ms s row):=by
  intro J n row k hk hr;have h:=J8 (x:=s.aV) (p:=IA ms s row) (B:=8388608) (l:=fun k i=>iter (ts:=uh) (R:=List (List UInt8)) k (pY J) ms s n i row) (E:=J ms s n row) (O:=fun f=>J ms s n (row++[f.Name]))
   (fun k=>by simp only [iter,pY,ck,cond_false]<;>rfl)
   (fun k i hi hb=>by
    simp only [iter,pY,share,cf hi,bM hi,cond_true,bL,bR hi,bQ hs hi,QR (show 4194304≤k by omega) hr,Xz hb hm hr,Option.bind_some,IA];rw [hC (by simp;omega) (by omega)];have e1:(row.any fun y=>seq y s.aV[i].Name)=Ej row s.aV[i].Name:=rfl;rw [e1];cases Ej row s.aV[i].Name<;>cases QV ms s.Kind s.aV[i].Name row<;>rfl) k (by omega)
  refine h.trans ?_;unfold C9;cases s.aV.find? (IA ms s row)<;>rfl
 have h:=fD (S:=List Nm) (x:=s.aV) (f:=fun row _=>C9 ms s row) (B:=4194304*3) (l:=fun k row i=>iter (ts:=AL) (R:=List (List UInt8)) k (uX fun v=>some v) ms s i row) (J:=fun row=>some row) (fun i row=>row.length≤i)
  (fun k row _=>by simp only [iter,uX,ck,cond_false]<;>rfl)
  (fun k i row hi hb hI=>⟨by
   simp only [iter,uX,share,cf hi,cond_true];refine (inner _ _ _ _ hb (by omega)).trans ?_;rw [bQ hs hi],Nat.le_trans (XA ms s row) (by omega)⟩) k [] (by omega) (by simp)
 exact h
section
variable (R:Nm→List Nm) (N:List Nm)
structure Dw (out:List Nm):Prop where
 nd:out.Nodup
 rd:∀ pre x post,out=pre++x::post→∀ y,y∈R x→y∈pre
structure Full (L:List Nm):Prop where
 LQ:Dw R L
 all:∀ y,y∈N→y∈L
 sub:∀ y,y∈L→y∈N
variable {R N}
theorem Dw.nil:Dw R []:=⟨List.nodup_nil,fun pre x post h=>by simp at h⟩
theorem Dw.snoc {out:List Nm} {x:Nm} (h:Dw R out) (hx:x ∉ out) (hr:∀ y,y∈R x→y∈out):Dw R (out++[x]):=by
 refine ⟨List.nodup_append.2 ⟨h.nd,by simp,fun a ha b hb=>by simp at hb;subst hb;exact fun e=>hx (e▸ha)⟩,fun pre z post e y hy=>?_⟩;rcases List.append_eq_append_iff.1 e with ⟨cs,h1,h2⟩ | ⟨bs,h1,h2⟩
 ·cases cs with
  | nil=>
   simp only [List.nil_append,List.cons.injEq] at h2;rw [List.append_nil] at h1;rw [h1];exact hr y (h2.1▸hy)
  | cons a cs=>simp at h2
 ·cases bs with
  | nil=>
   simp only [List.nil_append,List.cons.injEq] at h2;rw [List.append_nil] at h1;rw [← h1];exact hr y (h2.1▸hy)
  | cons b bs=>
   simp only [List.cons_append,List.cons.injEq] at h2;obtain ⟨rfl,_⟩:=h2;exact h.rd pre z bs h1 y hy
theorem Dw.lt {L:List Nm} (h:Dw R L) {x y:Nm} (hx:x∈L) (hy:y∈R x):y∈L∧L.idxOf y < L.idxOf x:=by
 obtain ⟨pre,post,e⟩:=List.append_of_mem hx;have hp:=h.rd pre x post e y hy;have AF:=h.nd;rw [e] at AF;have hxp:x ∉ pre:=fun hm=>(List.nodup_append.1 AF).2.2 x hm x (by simp) rfl;refine ⟨by rw [e];simp [hp],?_⟩;rw [e,List.idxOf_append,if_pos hp,List.idxOf_append,if_neg hxp,List.idxOf_cons_self,Nat.zero_add];exact List.idxOf_lt_length_iff.2 hp
end
theorem Lb (ms:List aH) (s:aD) (row:List Nm):(∃ f,f∈s.aV∧f.Name ∉ row∧(∀ y,y∈reads ms s.Kind f.Name→y∈row)∧C9 ms s row=row++[f.Name])∨
  ((∀ f,f∈s.aV→IA ms s row f=false)∧C9 ms s row=row):=by
 unfold C9;cases h:s.aV.find? (IA ms s row) with
 | some f=>
  have h1:=List.find?_some h;simp only [IA,Bool.and_eq_true,Bool.not_eq_true'] at h1;refine .inl ⟨f,List.mem_of_find?_eq_some h,fun hm=>?_,fun y hy=>?_,rfl⟩
  ·rw [yN.2 hm] at h1;cases h1.1
  ·exact yN.1 (List.all_eq_true.1 h1.2 y hy)
 | none=>exact .inr ⟨fun f hf=>by simpa using List.find?_eq_none.1 h f hf,rfl⟩
def names (s:aD):List Nm:=s.aV.map (·.Name)
theorem PT (ms:List aH) (s:aD):Dw (reads ms s.Kind) (vY ms s)∧∀ y,y∈vY ms s→y∈names s:=by
 have key:∀ (l:List aC) (row:List Nm),Dw (reads ms s.Kind) row→(∀ y,y∈row→y∈names s)→Dw (reads ms s.Kind) (l.foldl (fun row _=>C9 ms s row) row)∧∀ y,y∈l.foldl (fun row _=>C9 ms s row) row→y∈names s:=by
  intro l
  induction l with
  | nil=>exact fun row h1 h2=>⟨h1,h2⟩
  | cons a r ih=>
   intro row h1 h2;rw [List.foldl_cons];rcases Lb ms s row with ⟨f,q1,q2,q3,q4⟩ | ⟨_,q⟩
   ·rw [q4];refine ih _ (h1.snoc q2 q3) fun y hy=>?_;rcases List.mem_append.1 hy with h | h
    ·exact h2 y h
    ·simp at h;subst h;exact List.mem_map_of_mem q1
   ·rw [q];exact ih _ h1 h2
 exact key s.aV [] Dw.nil (fun y h=>by cases h)
theorem XB {ms:List aH} {s:aD} (AF:(names s).Nodup) {L:List Nm} (hL:Full (reads ms s.Kind) (names s) L):(vY ms s).length=s.aV.length:=by
 have hlen:(names s).length=s.aV.length:=by simp [names]
 have step:∀ row:List Nm,row.Nodup→(∀ y,y∈row→y∈names s)→row.length < s.aV.length→∃ f,f∈s.aV∧IA ms s row f=true:=by
  intro row h1 h2 h3;have:∃ x,L.find? (fun y=>!Ej row y)=some x:=by
   cases h:L.find? (fun y=>!Ej row y) with
   | some x=>exact ⟨x,rfl⟩
   | none=>
    have oy:=List.find?_eq_none.1 h;have jO:∀ y,y∈names s→y∈row:=fun y hy=>by
     have:=oy y (hL.all y hy);simp only [Bool.not_eq_true',Bool.not_eq_false] at this;exact yN.1 (by simpa using this)
    have:=AF.length_le_of_subset jO;omega
  obtain ⟨x,hx⟩:=this;have hxL:=List.mem_of_find?_eq_some hx;obtain ⟨f,hf,rfl⟩:=List.mem_map.1 (hL.sub x hxL);refine ⟨f,hf,?_⟩;simp only [IA,Bool.and_eq_true];refine ⟨List.find?_some (p:=fun y=>!Ej row y) hx,List.all_eq_true.2 fun y hy=>?_⟩;obtain ⟨hp,pre,post,e,UN⟩:=List.find?_eq_some_iff_append.1 hx;have:=UN y (hL.LQ.rd pre f.Name post e y hy);simpa using this
 have key:∀ (l:List aC) (row:List Nm),row.Nodup→(∀ y,y∈row→y∈names s)→Dw (reads ms s.Kind) row→row.length+l.length=s.aV.length→(l.foldl (fun row _=>C9 ms s row) row).length=s.aV.length:=by
  intro l
  induction l with
  | nil=>intro row _ _ _ h;simpa using h
  | cons a r ih=>
   intro row h1 h2 h4 h3;rw [List.length_cons] at h3;rw [List.foldl_cons];rcases Lb ms s row with ⟨f,q1,q2,q3,q4⟩ | ⟨q1,_⟩
   ·rw [q4];have ht:=h4.snoc q2 q3;refine ih _ ht.nd (fun y hy=>?_) ht (by simp;omega);rcases List.mem_append.1 hy with h | h
    ·exact h2 y h
    ·simp at h;subst h;exact List.mem_map_of_mem q1
   ·obtain ⟨f,hf,hn⟩:=step row h1 h2 (by omega);rw [q1 f hf] at hn;cases hn
 exact key s.aV [] List.nodup_nil (fun y h=>by cases h) Dw.nil (by simp)
theorem Zr {ms:List aH} {s:aD} (AF:(names s).Nodup):(vY ms s).length=s.aV.length↔∃ L,Full (reads ms s.Kind) (names s) L:=by
 constructor
 ·intro h;obtain ⟨h1,h2⟩:=PT ms s;refine ⟨vY ms s,h1,fun y hy=>?_,h2⟩;cases hc:Ej (vY ms s) y with
  | true=>exact yN.1 hc
  | false=>
   have hny:y ∉ vY ms s:=fun hm=>by rw [yN.2 hm] at hc;cases hc
   have h3:(y::vY ms s).Nodup:=List.nodup_cons.2 ⟨hny,h1.nd⟩;have h4:=h3.length_le_of_subset (l₂:=names s) fun z hz=>by
    rcases List.mem_cons.1 hz with e | e
    ·exact e▸hy
    ·exact h2 z e
   simp only [List.length_cons,names,List.length_map] at h4;omega
 ·rintro ⟨L,hL⟩
  exact XB AF hL
def SD (n:Nm) (v:Int) (st:List cy):List cy:=pB (fun p:cy=>seq n p.Key) st ⟨n,v⟩
theorem PU (n n':Nm) (v:Int) (st:List cy):iP n' (SD n v st)=cond (seq n' n) v (iP n' st):=J7 (key:=cy.Key) (y:=⟨n,v⟩)
theorem ga (n:Nm) (v:Int) (st:List cy):iP n (SD n v st)=v:=by rw [PU,p8];rfl
theorem adC {a b:Nm} (h:a≠b):seq a b=false:=by
 cases e:seq a b with
 | false=>rfl
 | true=>exact absurd (eP.1 e) h
theorem er {n n':Nm} (h:n'≠n) (v:Int) (st:List cy):iP n' (SD n v st)=iP n' st:=by rw [PU,adC h];rfl
section
variable {ms:List aH} {s:aD} {R:Nm→List Nm} {N:List Nm}
def fu (N G:List Nm):Nat:=8388608+(N.length+1-G.length)*1048578
theorem ac5 {N G G':List Nm} (h:G.length≤G'.length):fu N G'≤fu N G:=by unfold fu;omega
theorem ac6 (N G:List Nm):8388608≤fu N G:=by unfold fu;omega
theorem abw {N G:List Nm} {x:Nm} (h:G.length+1≤N.length):fu N (x::G)+1048578≤fu N G:=by unfold fu;simp only [List.length_cons];omega
structure UO (R:Nm→List Nm) (N:List Nm) (st:List cy) (out G:List Nm):Prop where
 two:∀ y,iP y st=2↔y∈out
 rng:∀ y,iP y st=0∨iP y st=1∨iP y st=2
 LQ:Dw R out
 sub:∀ y,y∈out→y∈N
 gnd:G.Nodup
 abx:∀ y,y∈G→y∈N
 g:∀ y,y∈G↔iP y st≠0
structure MX (R:Nm→List Nm) (N:List Nm) (st:List cy) (out G:List Nm) (Sm:List cy) (Aq:List Nm):Prop where
 inv:∃ G',UO R N Sm Aq G'∧G.length≤G'.length
 one:∀ y,iP y Sm=1↔iP y st=1
 ext:∀ y,y∈out→y∈Aq
def V_ (L:List Nm) (st:List cy) (x:Nm):Prop:=∀ z,iP z st=1→L.idxOf x < L.idxOf z
def UP (R:Nm→List Nm) (N:List Nm) (ms:List aH) (s:aD) (f:Nat→Nm→List cy→List aH→aD→List Nm→Option (Bool×List cy×List aH×aD×List Nm)) (n:Nat):Prop:=
 ∀ k x st out G,fu N G≤k→x∈N→UO R N st out G→N.length < n+G.length→∃ b Sm Aq,f k x st ms s out=some (b,Sm,ms,s,Aq)∧(b=true→MX R N st out G Sm Aq∧x∈Aq)∧∀ L,Full R N L→V_ L st x→b=true
theorem MX.refl {st:List cy} {out G:List Nm} (h:UO R N st out G):MX R N st out G st out:=⟨⟨G,h,Nat.le_refl _⟩,fun _=>Iff.rfl,fun _ h=>h⟩
theorem MX.ahead {st Sm:List cy} {out Aq G L:List Nm} (h:MX R N st out G Sm Aq) {x:Nm} (ha:V_ L st x):V_ L Sm x:=fun z hz=>ha z ((h.one z).1 hz)
theorem XC {f:Nat→Nm→List cy→List aH→aD→List Nm→Option (Bool×List cy×List aH×aD×List Nm)} {n:Nat} (hf:UP R N ms s f n) {ys:List Nm} (hl:ys.length≤1048576) (hN:∀ y,y∈ys→y∈N) (x:Nm)
  (J:Nm→List cy→List aH→aD→List Nm→Option (Bool×List cy×List aH×aD×List Nm)):
  ∀ m i k st out G,i+m=ys.length→fu N G+m+1≤k→UO R N st out G→N.length < n+G.length→
   ∃ b Sm Aq,iter (ts:=jM) (R:=Bool×(List cy)×(List aH)×aD×(List (List UInt8))) k (d_ f J) x ys (ys.length:Int) (i:Int) st ms s out=(cond b (J x Sm ms s Aq) (some (false,Sm,ms,s,Aq)))∧
    (b=true→MX R N st out G Sm Aq∧∀ y,y∈ys.drop i→y∈Aq)∧∀ L,Full R N L→(∀ y,y∈ys.drop i→V_ L st y)→b=true:=by
 intro m
 induction m with
 | zero=>
  intro i k st out G h hk hi _;obtain ⟨k,rfl⟩:∃ q,k=q+1:=⟨k-1,by omega⟩;obtain rfl:i=ys.length:=by omega
  refine ⟨true,st,out,?_,fun _=>⟨.refl hi,fun y hy=>by simp at hy⟩,fun _ _ _=>rfl⟩;simp only [iter,d_,ck,cond_false]<;>rfl
 | succ m ih=>
  intro i k st out G h hk hi hg;obtain ⟨k,rfl⟩:∃ q,k=q+1:=⟨k-1,by omega⟩;have dQ:i < ys.length:=by omega
  obtain ⟨b,st1,wq,h1,h2,h3⟩:=hf k ys[i] st out G (by omega) (hN _ (dJ dQ)) hi hg;rw [List.drop_eq_getElem_cons dQ];cases b with
  | false=>
   refine ⟨false,st1,wq,?_,(fun h=>by cases h),fun L hL ha=>h3 L hL (ha _ (List.mem_cons_self ..))⟩;simp only [iter,d_,cf dQ,bM dQ,cond_true,bL,bR dQ,h1,Option.bind_some]<;>rfl
  | true=>
   obtain ⟨p1,p2⟩:=h2 rfl;obtain ⟨G1,hi1,YT⟩:=p1.inv;obtain ⟨b,st2,MY,k1,k2,k3⟩:=ih (i+1) k st1 wq G1 (by omega) (by have:=ac5 (N:=N) YT;omega) hi1 (by omega);refine ⟨b,st2,MY,?_,fun hb=>?_,fun L hL ha=>k3 L hL fun y hy=>p1.ahead (ha y (List.mem_cons_of_mem _ hy))⟩
   ·simp only [iter,d_,cf dQ,bM dQ,cond_true,bL,bR dQ,h1,Option.bind_some,bQ hl dQ];exact k1
   ·obtain ⟨q1,q2⟩:=k2 hb;obtain ⟨G2,UQ,Wa⟩:=q1.inv;refine ⟨⟨⟨G2,UQ,by omega⟩,fun y=>(q1.one y).trans (p1.one y),fun y hy=>q1.ext y (p1.ext y hy)⟩,fun y hy=>?_⟩;rcases List.mem_cons.1 hy with e | e
    ·exact e▸q1.ext _ p2
    ·exact q2 y e
theorem Wb (YU:ms.length≤1048576) (hR:∀ x,x∈N→∀ y,y∈reads ms s.Kind x→y∈N) (hRl:∀ x,(reads ms s.Kind x).length≤1048576) (hNl:N.length≤1048576):∀ n,UP (reads ms s.Kind) N ms s (ey n) n
 | 0=>fun k x st out G _ _ hi hg=>by
  have:=hi.gnd.length_le_of_subset hi.abx;omega
 | n+1=>fun k x st out G hk hx hi hg=>by
  have ih:=Wb YU hR hRl hNl n;have e0:nN (fun p:cy=>seq x p.Key) (fun p:cy=>p.Mv) (0:Int) st=iP x st:=rfl;simp only [ey,e0,share];rcases hi.rng x with h0 | h0 | h0
  ·
   rw [h0];have i1:UO (reads ms s.Kind) N (SD x 1 st) out (x::G):=by
    have hxG:x ∉ G:=fun h=>(hi.g x).1 h h0;refine ⟨fun y=>?_,fun y=>?_,hi.LQ,hi.sub,List.nodup_cons.2 ⟨hxG,hi.gnd⟩,fun y hy=>?_,fun y=>?_⟩
    ·by_cases e:y=x
     ·subst e;rw [ga];exact ⟨fun h=>by omega,fun h=>by have:=(hi.two y).2 h;omega⟩
     ·rw [er e];exact hi.two y
    ·by_cases e:y=x
     ·subst e;rw [ga];exact .inr (.inl rfl)
     ·rw [er e];exact hi.rng y
    ·rcases List.mem_cons.1 hy with e | e
     ·exact e▸hx
     ·exact hi.abx y e
    ·by_cases e:y=x
     ·subst e;rw [ga];simp
     ·rw [er e,List.mem_cons];exact ⟨fun h=>(hi.g y).1 (h.resolve_left e),fun h=>.inr ((hi.g y).2 h)⟩
   have hGl:(x::G).length≤N.length:=i1.gnd.length_le_of_subset i1.abx;have hfu:fu N (x::G)+1048578≤fu N G:=abw (by simpa using hGl);have:=ac6 N G;have dq:=Zq (name:=x) (s:=s) (show 4194304≤k by omega) YU
   let J:Nm→List cy→List aH→aD→List Nm→Option (Bool×List cy×List aH×aD×List Nm):=fun v39 v40 v41 v42 v43=>
    aZ (mw (v43.length+([v39]:List (List UInt8)).length) 16) (some (true,(pB (fun p:cy=>seq v39 p.Key) v40 (⟨v39,(2:Int)⟩:cy)),v41,v42,(v43++([v39]:List (List UInt8)))))
   have hrl:=hRl x;obtain ⟨b,st2,MY,k1,k2,k3⟩:=XC ih hrl (hR x hx) x J (reads ms s.Kind x).length 0 k (SD x 1 st) out (x::G) (by omega) (by omega) i1 (by simp;omega);simp only [dq,Option.bind_some];have e1:(pB (fun p:cy=>seq x p.Key) st (⟨x,(1:Int)⟩:cy))=SD x 1 st:=rfl;have YV:iter (ts:=jM) (R:=Bool×(List cy)×(List aH)×aD×(List (List UInt8))) k (d_ (ey n) J) x (reads ms s.Kind x) ((reads ms s.Kind x).length:Int) (0:Int) (SD x 1 st) ms s out=(cond b (J x st2 ms s MY) (some (false,st2,ms,s,MY))):=k1;cases b with
   | false=>
    refine ⟨false,st2,MY,by rw [show bH 0 1=false from rfl,show bH 0 2=false from rfl];exact YV,(fun h=>by cases h),fun L hL ha=>?_⟩;refine k3 L hL fun y hy z hz=>?_;have dQ:=(hL.LQ.lt (hL.all x hx) (by simpa using hy)).2;by_cases e:z=x
    ·rw [e];exact dQ
    ·rw [er e] at hz;exact Nat.lt_trans dQ (ha z hz)
   | true=>
    obtain ⟨q1,q2⟩:=k2 rfl;obtain ⟨G2,UQ,Wa⟩:=q1.inv;have hx1:iP x st2=1:=(q1.one x).2 (ga _ _ _);have hxo:x ∉ MY:=fun h=>by have:=(UQ.two x).2 h;omega
    have hlen:MY.length≤1048576:=Nat.le_trans (UQ.LQ.nd.length_le_of_subset UQ.sub) hNl;refine ⟨true,SD x 2 st2,MY++[x],?_,fun _=>⟨⟨⟨G2,⟨fun y=>?_,fun y=>?_,UQ.LQ.snoc hxo fun y hy=>q2 y (by simpa using hy),fun y hy=>?_,UQ.gnd,UQ.abx,fun y=>?_⟩,?_⟩,fun y=>?_,fun y hy=>?_⟩,by simp⟩,fun _ _ _=>rfl⟩
    ·rw [show bH 0 1=false from rfl,show bH 0 2=false from rfl];refine YV.trans ?_;show aZ (mw (MY.length+1) 16) _=_;rw [hC (by omega) (by omega)];rfl
    ·by_cases e:y=x
     ·subst e;rw [ga];simp
     ·rw [er e,UQ.two y];simp [e]
    ·by_cases e:y=x
     ·subst e;rw [ga];exact .inr (.inr rfl)
     ·rw [er e];exact UQ.rng y
    ·rcases List.mem_append.1 hy with h | h
     ·exact UQ.sub y h
     ·simp at h;exact h▸hx
    ·by_cases e:y=x
     ·subst e;rw [ga,UQ.g y,hx1];simp
     ·rw [er e];exact UQ.g y
    ·simp only [List.length_cons] at Wa;omega
    ·by_cases e:y=x
     ·subst e;rw [ga];omega
     ·rw [er e,q1.one y,er e]
    ·exact List.mem_append_left _ (q1.ext y hy)
  ·
   rw [h0];exact ⟨false,st,out,rfl,(fun h=>by cases h),fun L _ ha=>absurd (ha x h0) (Nat.lt_irrefl _)⟩
  ·
   rw [h0];exact ⟨true,st,out,rfl,fun _=>⟨.refl hi,(hi.two x).1 h0⟩,fun _ _ _=>rfl⟩
theorem Zs (hw:∀ n,UP R N ms s (ey n) n) {xs:List Nm} (hl:xs.length≤1048576) (hN:∀ y,y∈xs→y∈N) (hNl:N.length≤1048576)
  (J:List aH→aD→List Nm→Option (List Nm×Bool×List aH×aD)):
  ∀ m i k st out G,i+m=xs.length→fu N G+m+1≤k→UO R N st out G→(∀ z,iP z st≠1)→
   ∃ b Sm Aq,iter (ts:=sJ) (R:=(List (List UInt8))×Bool×(List aH)×aD) k (gL J) xs (xs.length:Int) (i:Int) ms s out st=(cond b (J ms s Aq) (some ([],false,ms,s)))∧
    (b=true→MX R N st out G Sm Aq∧∀ y,y∈xs.drop i→y∈Aq)∧∀ L,Full R N L→b=true:=by
 intro m
 induction m with
 | zero=>
  intro i k st out G h hk hi _;obtain ⟨k,rfl⟩:∃ q,k=q+1:=⟨k-1,by omega⟩;obtain rfl:i=xs.length:=by omega
  refine ⟨true,st,out,?_,fun _=>⟨.refl hi,fun y hy=>by simp at hy⟩,fun _ _=>rfl⟩;simp only [iter,gL,ck,cond_false]<;>rfl
 | succ m ih=>
  intro i k st out G h hk hi hz;obtain ⟨k,rfl⟩:∃ q,k=q+1:=⟨k-1,by omega⟩;have dQ:i < xs.length:=by omega
  have:=ac6 N G;obtain ⟨b,st1,wq,h1,h2,h3⟩:=hw k k xs[i] st out G (by omega) (hN _ (dJ dQ)) hi (by omega);rw [List.drop_eq_getElem_cons dQ];cases b with
  | false=>
   refine ⟨false,st1,wq,?_,(fun h=>by cases h),fun L hL=>h3 L hL fun z hz'=>absurd hz' (hz z)⟩;simp only [iter,gL,cf dQ,bM dQ,cond_true,bL,bR dQ,h1,Option.bind_some]<;>rfl
  | true=>
   obtain ⟨p1,p2⟩:=h2 rfl;obtain ⟨G1,hi1,YT⟩:=p1.inv;obtain ⟨b,st2,MY,k1,k2,k3⟩:=ih (i+1) k st1 wq G1 (by omega) (by have:=ac5 (N:=N) YT;omega) hi1 fun z hz'=>hz z ((p1.one z).1 hz');refine ⟨b,st2,MY,?_,fun hb=>?_,k3⟩
   ·simp only [iter,gL,cf dQ,bM dQ,cond_true,bL,bR dQ,h1,Option.bind_some,bQ hl dQ];exact k1
   ·obtain ⟨q1,q2⟩:=k2 hb;obtain ⟨G2,UQ,Wa⟩:=q1.inv;refine ⟨⟨⟨G2,UQ,by omega⟩,fun y=>(q1.one y).trans (p1.one y),fun y hy=>q1.ext y (p1.ext y hy)⟩,fun y hy=>?_⟩;rcases List.mem_cons.1 hy with e | e
    ·exact e▸q1.ext _ p2
    ·exact q2 y e
theorem UR (l:List aC) (q:List Nm):l.foldl (fun (q:List Nm) f=>q++[f.Name]) q=q++l.map (·.Name):=by
 induction l generalizing q with
 | nil=>simp
 | cons a r ih=>rw [List.foldl_cons,ih];simp
theorem Wc (YU:ms.length≤1048576) (hR:∀ x,x∈names s→∀ y,y∈reads ms s.Kind x→y∈names s) (hRl:∀ x,(reads ms s.Kind x).length≤1048576) (hNl:s.aV.length≤6) {k:Nat} (hk:4194304*5≤k):
  ∃ b row,uj k s ms=some (row,b)∧(b=true→Full (reads ms s.Kind) (names s) row)∧((∃ L,Full (reads ms s.Kind) (names s) L)→b=true):=by
 have ahB:(names s).length≤6:=by simp only [names,List.length_map];exact hNl
 have i0:UO (reads ms s.Kind) (names s) [] [] []:=⟨fun y=>by simp [iP,nN],fun y=>.inl rfl,Dw.nil,(fun y h=>by cases h),List.nodup_nil,(fun y h=>by cases h),fun y=>by simp [iP,nN]⟩
 let J:List aH→aD→List Nm→Option (List Nm×Bool×List aH×aD):=fun v23 v24 v25=>some (v25,true,v23,v24)
 obtain ⟨b,Sm,Aq,h1,h2,h3⟩:=Zs (Wb YU hR hRl (by omega)) (by omega) (fun y h=>h) (by omega) J (names s).length 0 k [] [] [] (by omega) (by simp only [fu,List.length_nil];omega) i0 fun z hz=>by simp [iP,nN] at hz
 have dq:lu k (names s) ms s=cond b (some (Aq,true,ms,s)) (some ([],false,ms,s)):=by
  unfold lu;simp only [share];exact h1
 have hof:uj k s ms=cond b (some (Aq,true)) (some ([],false)):=by
  unfold uj;simp only [share];have h:=fun J:aD→List aH→List Nm→Option (List Nm×Bool)=>fD (S:=List Nm) (x:=s.aV) (f:=fun q f=>q++[f.Name]) (B:=0) (l:=fun k q i=>iter (ts:=AQ) (R:=(List (List UInt8))×Bool) k (vd J) s.aV (s.aV.length:Int) i s ms q)
   (J:=fun q=>J s ms q) (fun i q=>q.length=i)
   (fun k q _=>by simp only [iter,vd,ck,cond_false]<;>rfl)
   (fun k i q hi _ hq=>⟨by
    simp only [iter,vd,cf hi,bM hi,cond_true,bL,bR hi,bQ (show s.aV.length≤1048576 by omega) hi];rw [hC (by simp;omega) (by omega)];rfl,by simp [hq]⟩) k [] (by omega) rfl
  refine (h _).trans ?_;rw [UR,List.nil_append];change (lu k (names s) ms s).bind _=_;rw [dq];cases b<;>rfl
 cases b with
 | false=>exact ⟨false,[],hof,(fun h=>by cases h),fun ⟨L,hL⟩=>h3 L hL⟩
 | true=>
  obtain ⟨p,q⟩:=h2 rfl;obtain ⟨G',di,_⟩:=p.inv;exact ⟨true,Aq,hof,fun _=>⟨di.LQ,fun y h=>q y (by simpa using h),fun y h=>di.sub y h⟩,fun _=>rfl⟩
end
theorem Ek:∀ {r:List aC} {q:List Nm},GK q r=true→(r.map (·.Name)).Nodup∧∀ y,y∈r.map (·.Name)→y ∉ q
 | [],_,_=>⟨List.nodup_nil,fun _ h=>by cases h⟩
 | f::r,q,h=>by
  simp only [GK,Bool.and_eq_true,Bool.not_eq_true'] at h;obtain ⟨h1,h2⟩:=h;obtain ⟨h3,h4⟩:=Ek h2;refine ⟨List.nodup_cons.2 ⟨fun hm=>h4 _ hm (by simp),h3⟩,fun y hy hq=>?_⟩;rcases List.mem_cons.1 hy with e | e
  ·have:q.any (fun y=>seq y f.Name)=true:=List.any_eq_true.2 ⟨y,hq,eP.2 e⟩;rw [h1] at this;cases this
  ·exact h4 y e (by simp [hq])
theorem PV:∀ {xs:List aD} {s:aD} {n:Nm},(kinds xs).Nodup→s∈xs→s.Kind=n→xs.find? (fun s=>seq s.Kind n)=some s
 | [],_,_,_,h,_=>by cases h
 | a::r,s,n,hn,hs,e=>by
  simp only [kinds,List.map_cons,List.nodup_cons] at hn;rw [List.find?_cons];rcases List.mem_cons.1 hs with h | h
  ·subst h;rw [show seq s.Kind n=true from eP.2 e]
  ·cases ha:seq a.Kind n with
   | true=>
    have hm:s.Kind∈r.map (·.Kind):=List.mem_map_of_mem h;rw [e,← eP.1 ha] at hm;exact absurd hm hn.1
   | false=>exact PV hn.2 h e
theorem PW {fs:List aC} {n:Nm} (h:ou fs n=true):n∈fs.map (·.Name):=by
 unfold ou Hl at h;cases e:fs.find? fun f=>seq f.Name n with
 | none=>rw [e] at h;cases h
 | some f=>
  have h1:=List.find?_some e;have h2:=List.mem_of_find?_eq_some e;rw [← eP.1 h1];exact List.mem_map_of_mem h2
theorem PX {xs:List aD} {s:aD} {m:aH} (hn:(kinds xs).Nodup) (hs:s∈xs) (hm:ov xs m=true) {x y:Nm} (hy:y∈ox s.Kind x m):y∈names s:=by
 unfold ox at hy;cases h1:seq m.Kind s.Kind with
 | false=>rw [h1] at hy;cases hy
 | true=>
  rw [h1] at hy;cases h2:seq m.Field x with
  | false=>rw [h2] at hy;cases hy
  | true=>
   rw [h2] at hy;simp only [Bool.and_self,cond_true,List.mem_append] at hy;have hf:=PV hn hs (eP.1 h1).symm;unfold ov at hm;rw [hf] at hm;simp only [Kc,Bool.and_eq_true,Bool.or_eq_true] at hm;obtain ⟨_,h4,h5,_⟩:=hm;rcases hy with hy | hy
   ·cases h6:seq m.dk [] with
    | true=>rw [h6] at hy;cases hy
    | false=>
     rw [h6] at hy;simp only [cond_false,List.mem_singleton] at hy;subst hy;exact PW (h4.resolve_left (by rw [h6];exact Bool.false_ne_true))
   ·cases h6:seq m.cS [] with
    | true=>rw [h6] at hy;cases hy
    | false=>
     rw [h6] at hy;simp only [cond_false,List.mem_singleton] at hy;subst hy;exact PW (h5.resolve_left (by rw [h6];exact Bool.false_ne_true))
theorem PY {ms:List aH} {kind x:Nm}:(reads ms kind x).length≤2*ms.length:=by
 induction ms with
 | nil=>simp [reads]
 | cons a r ih=>
  have:=MW kind x a;simp only [reads,List.flatMap_cons,List.length_append,List.length_cons] at *;omega
def gA (xs:List aD) (ms:List aH):Bool:=
 e_ xs&&(b8 (ms.length:Int) 12&&(ms.all (ov xs)&&xs.all fun s=>bH ((vY ms s).length:Int) (s.aV.length:Int)))
theorem Pe {k:Nat} {xs:List aD} {ms:List aH} (hk:4194304*6≤k) (hx:lE aD.sd xs) (hm:lE aH.sd ms):oS k xs ms=some (gA xs ms):=by
 unfold oS gA;have h4:=fun J:List aD→List aH→Option Bool=>gN (R:=Option Bool) (x:=ms) (p:=ov xs) (B:=4194304) (l:=fun k i=>iter (ts:=ss) (R:=Bool) k (ku J) xs ms i) (E:=J xs ms) (O:=some false)
  (fun k=>by simp only [iter,ku,ck,cond_false]<;>rfl)
  (fun k i hi hb=>by
   simp only [iter,ku,cf hi,bM hi,cond_true,bL,bR hi,bQ hm.1 hi,UL hb hx (hm.2 _ (dJ hi)),Option.bind_some];cases ov xs ms[i]<;>rfl) k (by have:=hm.1;omega)
 have h9:=gN (R:=Option Bool) (x:=xs) (p:=fun s=>bH ((vY ms s).length:Int) (s.aV.length:Int)) (B:=4194304*4) (l:=fun k i=>iter (ts:=sq) (R:=Bool) k (kr (some true)) xs ms i) (E:=some true) (O:=some false)
  (fun k=>by simp only [iter,kr,ck,cond_false]<;>rfl)
  (fun k i hi hb=>by
   simp only [iter,kr,cf hi,bM hi,cond_true,bL,bR hi,bQ hx.1 hi,V9 hb hm.1 (hx.2 _ (dJ hi)).2.1,Option.bind_some];cases bH ((vY ms xs[i]).length:Int) (xs[i].aV.length:Int)<;>rfl) k (by have:=hx.1;omega)
 simp only [share,MR hx (show 4194304*4≤k by omega),Option.bind_some,cL];cases e_ xs with
 | false=>rfl
 | true=>
  cases b8 (ms.length:Int) 12 with
  | false=>rfl
  | true=>
   refine (h4 _).trans ?_;cases ms.all (ov xs) with
   | false=>rfl
   | true=>exact h9.trans (by cases xs.all fun s=>bH ((vY ms s).length:Int) (s.aV.length:Int)<;>rfl)
theorem Ar {k:Nat} {xs:List aD} {ms:List aH} (hk:4194304*7≤k) (hx:lE aD.sd xs) (hm:lE aH.sd ms):ij k xs ms=some (gA xs ms):=by
 unfold ij gA;have h4:=fun J:List aD→List aH→Option Bool=>gN (R:=Option Bool) (x:=ms) (p:=ov xs) (B:=4194304) (l:=fun k i=>iter (ts:=sK) (R:=Bool) k (kB J) xs ms ms (ms.length:Int) i) (E:=J xs ms) (O:=some false)
  (fun k=>by simp only [iter,kB,ck,cond_false]<;>rfl)
  (fun k i hi hb=>by
   simp only [iter,kB,share,cf hi,bM hi,cond_true,bL,bR hi,Fc hb hx.1,Option.bind_some,ov];rw [bQ hm.1 hi];rcases eJ (fun s:aD=>seq s.Kind ms[i].Kind) xs with ⟨h1,h2⟩ | ⟨j,hj,h1,h2,_⟩
   ·rw [h1,h2];rfl
   ·rw [h1,h2,dz (by omega),bM hj,bR hj,UM hb (hx.2 _ (dJ hj)).2 (hm.2 _ (dJ hi))];simp only;cases Kc xs[j].aV ms[i]<;>rfl) k (by have:=hm.1;omega)
 simp only [share,yM hx (show 4194304*5≤k by omega),Option.bind_some,cL];cases rR:e_ xs with
 | false=>rfl
 | true=>
  cases YU:b8 (ms.length:Int) 12 with
  | false=>rfl
  | true=>
   refine (h4 _).trans ?_;cases oy:ms.all (ov xs) with
   | false=>rfl
   | true=>
    simp only [e_,Bool.and_eq_true,List.all_eq_true] at rR oy;obtain ⟨hx6,agE,agF⟩:=rR;have AF:=PM agE;have ahC:=ot YU;have h11:=gN (R:=Option Bool) (x:=xs) (p:=fun s=>bH ((vY ms s).length:Int) (s.aV.length:Int)) (B:=4194304*5) (l:=fun k i=>iter (ts:=rH) (R:=Bool) k (jz (some true)) ms xs (xs.length:Int) i) (E:=some true) (O:=some false)
     (fun k=>by simp only [iter,jz,ck,cond_false]<;>rfl)
     (fun k i hi hb=>by
      have hs:=agF _ (dJ hi);simp only [o9,Bool.and_eq_true] at hs;have h6:=ot hs.1;obtain ⟨b,row,h1,h2,h3⟩:=Wc (ms:=ms) (s:=xs[i]) hm.1
       (fun x _ y hy=>by
        obtain ⟨m,hm1,hm2⟩:=List.mem_flatMap.1 hy;exact PX AF (dJ hi) (oy m hm1) hm2)
       (fun x=>by have:=PY (ms:=ms) (kind:=xs[i].Kind) (x:=x);omega) (by omega) hb
      have ae6:=Zr (ms:=ms) (s:=xs[i]) (Ek hs.2.2).1;have eb:bH ((vY ms xs[i]).length:Int) (xs[i].aV.length:Int)=b:=by
       cases b with
       | true=>
        have:=ae6.2 ⟨row,h2 rfl⟩;simp only [bH,beq_iff_eq];omega
       | false=>
        simp only [bH,beq_eq_false_iff_ne];intro h;have:=h3 (ae6.1 (by omega));cases this
      simp only [iter,jz,cf hi,bM hi,cond_true,bL,bR hi,h1,Option.bind_some,bQ hx.1 hi,eb];cases b<;>rfl) k (by have:=hx.1;omega)
    exact h11.trans (by cases xs.all fun s=>bH ((vY ms s).length:Int) (s.aV.length:Int)<;>rfl)
def C_ (w:aL):Bool:=gA w.cg w.iO&&Ix w.dY
theorem SE {k:Nat} {w:aL} (hk:4194304*6≤k) (hw:w.sd):sw k w=some (C_ w):=by
 unfold sw;rw [Pe hk hw.1 hw.2.1,Pa (by omega) hw.2.2];unfold C_;cases gA w.cg w.iO<;>rfl
theorem SF {k:Nat} {w:aL} (hk:4194304*7≤k) (hw:w.sd):rW k w=some (C_ w):=by
 unfold rW;rw [Ar hk hw.1 hw.2.1,Pb (by omega) hw.2.2];unfold C_;cases gA w.cg w.iO<;>rfl
section
variable {α R S:Type} {x:List α} {B:Nat}
theorem QW (g:Nat→S) {l:Nat→S→Int→R} {E:R} (he:∀ k,l (k+1) (g x.length) (x.length:Int)=E)
  (h:∀ k i (hi:i < x.length),B≤k→l (k+1) (g i) (i:Int)=l k (g (i+1)) ((i+1:Nat):Int)) (k:Nat) (hk:B+x.length+1≤k):l k (g 0) 0=E:=by
 have go:∀ m i k,i+m=x.length→B+m+1≤k→l k (g i) (i:Int)=E:=by
  intro m
  induction m with
  | zero=>
   intro i k h1 h2;obtain rfl:i=x.length:=by omega
   obtain ⟨k,rfl⟩:∃ j,k=j+1:=⟨k-1,by omega⟩;exact he k
  | succ m ih=>
   intro i k h1 h2;obtain ⟨k,rfl⟩:∃ j,k=j+1:=⟨k-1,by omega⟩;rw [h k i (by omega) (by omega)];exact ih (i+1) k (by omega) (by omega)
 exact go x.length 0 k (by omega) (by omega)
end
def opt {β R:Type} (o:Option β) (O:β→R) (E:R):R:=match o with
 | some c=>O c
 | none=>E
theorem SG {α β R:Type} {x:List α} {B:Nat} {g:Nat→α→Option β} {l:Nat→Int→R} {E:R} {O:β→R} (he:∀ k,l (k+1) (x.length:Int)=E)
  (h:∀ k i (hi:i < x.length),B≤k→l (k+1) (i:Int)=opt (g i x[i]) O (l k ((i+1:Nat):Int))) (k:Nat) (hk:B+x.length+1≤k):l k 0=opt (first g x 0) O E:=by
 have:=Hj (g:=g) (l:=l) (E:=E) (O:=O) he (fun k i hi hb=>by rw [h k i hi hb];cases g i x[i]<;>rfl) k hk;rw [this];cases first g x 0<;>rfl
def LR (o:aA):Prop:=o.aR.length≤1048576∧o.b7.length≤1048576
theorem Ma {o:aA} (h:o.sd):LR o:=⟨h.2.2.2.1.1,h.2.2.2.2.2.1.1⟩
theorem Kd {k:Nat} {o:aA} (h:LR o):mZ k o=some (o.Kind,o.Name,o.aX,o.Ending,o.Version,o.aR,o.b7):=by
 unfold mZ;have h1:=h.1;have h2:=h.2;rw [hC (by simp;omega) (by omega),hC (by simp;omega) (by omega)];rfl
theorem yO (n:Nat):leq n n=true:=by simp [leq]
theorem IB {k:Nat} {x:List Nm} (h:x.length≤1048576):lx k x=some x:=by
 unfold lx;cases x with
 | nil=>rfl
 | cons a r=>
  rw [Wd h (by omega),show bH ((a::r).length:Int) 0=false by simp only [List.length_cons,bH,beq_eq_false_iff_ne];omega,List.length_replicate,Int.toNat_natCast,yO];rfl
theorem Lc {k:Nat} {x:List Nm} (h:x.length≤1048576):oe k x=some x:=by
 unfold oe;cases x with
 | nil=>rfl
 | cons a r=>
  rw [Wd h (by omega),show bH ((a::r).length:Int) 0=false by simp only [List.length_cons,bH,beq_eq_false_iff_ne];omega,List.length_replicate,Int.toNat_natCast,yO];rfl
theorem adD {k:Nat} {o:aA} (h:LR o):jC k o=some o:=by
 unfold jC;rw [Lc h.1,Lc h.2];rfl
theorem QX {k:Nat} {o:aA} (h:LR o):dK k o=some (o.Kind,o.Name,o.aX,o.Ending,o.Version,o.aR,o.b7):=by
 unfold dK;rw [IB h.1,IB h.2];rfl
theorem Ld {k:Nat} {xs:List aD} (o:aA) (hk:4194304≤k) (hx:xs.length≤1048576):mO k xs o.Kind o.Name o.aX o.Ending o.Version o.aR o.b7=some ((cw xs o).getD [],(cw xs o).isSome,o.aR,o.b7):=by
 unfold mO cw;rw [Fc hk hx];simp only [share,Option.bind_some];rcases eJ (fun s:aD=>seq s.Kind o.Kind) xs with ⟨h1,h2⟩ | ⟨j,hj,h1,h2,_⟩
 ·rw [h1,h2];rfl
 ·rw [h1,h2,dz (by omega),bM hj,bR hj,SA (o.aR.length:Int)];simp only;cases bH (xs[j].aV.length:Int) (o.aR.length:Int)<;>rfl
def SH (d v:Nm):Nm:=cond (seq v []) d v
def iU (fs:List aC) (vs:List Nm) (i:Nat):List Nm:=vs.mapIdx fun j v=>cond (decide (j < i)) (SH (fs.getD j default).Default v) v
theorem B_ (fs:List aC) (vs:List Nm) (i:Nat):(iU fs vs i).length=vs.length:=by simp [iU]
theorem SI (fs:List aC) (vs:List Nm):iU fs vs 0=vs:=by
 refine List.ext_getElem (by simp [iU]) fun j h1 h2=>?_;simp [iU]
theorem MZ {fs:List aC} {vs:List Nm} {i:Nat} (hi:i < vs.length):(iU fs vs i)[i]'(by rw [B_];exact hi)=vs[i]:=by simp [iU]
theorem M0 {fs:List aC} {vs:List Nm} {i:Nat} (hi:i < vs.length) (hf:i < fs.length):oJ (iU fs vs i) (i:Int) (SH fs[i].Default vs[i])=iU fs vs (i+1):=by
 refine List.ext_getElem (by simp [iU,oJ]) fun j h1 h2=>?_;simp only [oJ,Int.toNat_natCast,List.getElem_set,iU,List.getElem_mapIdx];by_cases e:i=j
 ·subst e;rw [if_pos rfl,decide_eq_true (show i < i+1 by omega),J_ hf];rfl
 ·rw [if_neg e]
  congr 1
  exact decide_eq_decide.2 (by omega)
theorem Le {fs:List aC} {vs:List Nm} {i:Nat} (hi:i < vs.length) (h:seq vs[i] []=false):iU fs vs i=iU fs vs (i+1):=by
 refine List.ext_getElem (by simp [iU]) fun j h1 h2=>?_;simp only [iU,List.getElem_mapIdx];by_cases e:i=j
 ·subst e;rw [decide_eq_true (show i < i+1 by omega),decide_eq_false (show ¬ i < i by omega)];simp only [cond_true,cond_false,SH,h]
 ·congr 1
  exact decide_eq_decide.2 (by omega)
def El (xs:List aD) (o:aA):aA:=match cw xs o with
 | some fs=>⟨o.Kind,o.Name,o.aX,iU fs o.aR fs.length,o.Ending,o.b7,o.Version⟩
 | none=>o
theorem Ke (xs:List aD) (o:aA):(El xs o).aR.length=o.aR.length∧(El xs o).b7=o.b7∧(El xs o).Kind=o.Kind:=by
 unfold El;cases cw xs o with
 | none=>exact ⟨rfl,rfl,rfl⟩
 | some fs=>exact ⟨B_ ..,rfl,rfl⟩
theorem aby (xs:List aD) (o:aA):cw xs (El xs o)=cw xs o:=by
 have h:=Ke xs o
 conv=>lhs;unfold cw
 rw [h.1,h.2.2];rfl
theorem QY {k:Nat} {xs:List aD} {o:aA} (hk:4194304*2≤k) (hx:xs.length≤1048576) (ho:LR o):zL k xs o=some (El xs o):=by
 unfold zL El;rw [Kd ho];simp only [Option.bind_some,s6 (show 4194304≤k by omega) hx,share];cases hf:cw xs o with
 | none=>rfl
 | some fs=>
  have hl:=(jD hf).1;have ho1:=ho.1;simp only [Option.isSome_some,Option.getD_some,Bool.not_true,cond_false];have h:=QW (R:=Option aA) (x:=fs) (B:=0) (iU fs o.aR) (l:=fun k vs i=>iter (ts:=zK) (R:=aA) k (sy (fun (v45:aA) (v46:List UInt8) (v47:List UInt8) (v48:List UInt8) (v49:Bool) (v50:Int) (v51:List (List UInt8)) (v52:List (List UInt8))=>some (⟨v46,v47,v48,v51,v49,v52,v50⟩:aA))) fs i (⟨([]:List UInt8),([]:List UInt8),([]:List UInt8),[],false,[],(0:Int)⟩:aA) o.Kind o.Name o.aX o.Ending o.Version vs o.b7)
   (E:=some ⟨o.Kind,o.Name,o.aX,iU fs o.aR fs.length,o.Ending,o.b7,o.Version⟩)
   (fun k=>by simp only [iter,sy,ck,cond_false]<;>rfl)
   (fun k i hi _=>by
    have di:i < (iU fs o.aR i).length:=by rw [B_];omega
    have US:i < o.aR.length:=by omega
    simp only [iter,sy,share,cf hi,bM hi,bM di,cond_true,bL,bR hi,bR di,bQ (show fs.length≤1048576 by omega) hi];rw [MZ US];cases hv:seq o.aR[i] [] with
    | true=>
     rw [← M0 US hi];simp only [SH,hv,cond_true]<;>rfl
    | false=>rw [← Le US hv];rfl) k (by omega)
  rw [SI] at h;exact h
theorem UT {k:Nat} {xs:List aD} {o:aA} (hk:4194304*5≤k) (hx:lE aD.sd xs) (ho:LR o):ve k xs o=some (cond (e_ xs) (El xs o) o):=by
 unfold ve El;rw [QX ho];simp only [Option.bind_some,Ld o (show 4194304≤k by omega) hx.1,share,yO,bL,yM hx hk];cases hf:cw xs o with
 | none=>cases e_ xs<;>rfl
 | some fs=>
  have hl:=(jD hf).1;have ho1:=ho.1;simp only [Option.isSome_some,Option.getD_some,Bool.not_true,cond_false];cases e_ xs with
  | false=>rfl
  | true=>
   have h:=QW (R:=Option aA) (x:=fs) (B:=0) (iU fs o.aR) (l:=fun k vs i=>iter (ts:=xc) (R:=aA) k (o5 (fun (v72:List UInt8) (v73:List UInt8) (v74:List UInt8) (v75:Bool) (v76:Int) (v77:aA) (v78:List (List UInt8)) (v79:List (List UInt8))=>some (⟨v72,v73,v74,v78,v75,v79,v76⟩:aA))) fs (fs.length:Int) i o.Kind o.Name o.aX o.Ending o.Version (⟨([]:List UInt8),([]:List UInt8),([]:List UInt8),[],false,[],(0:Int)⟩:aA) vs o.b7)
    (E:=some ⟨o.Kind,o.Name,o.aX,iU fs o.aR fs.length,o.Ending,o.b7,o.Version⟩)
    (fun k=>by simp only [iter,o5,ck,cond_false]<;>rfl)
    (fun k i hi _=>by
     have di:i < (iU fs o.aR i).length:=by rw [B_];omega
     have US:i < o.aR.length:=by omega
     simp only [iter,o5,share,cf hi,bM hi,bM di,cond_true,bL,bR hi,bR di,bQ (show fs.length≤1048576 by omega) hi];rw [MZ US];cases hv:seq o.aR[i] [] with
     | true=>
      rw [← M0 US hi];simp only [SH,hv,cond_true]<;>rfl
     | false=>rw [← Le US hv];rfl) k (by omega)
   rw [SI] at h;exact h
def Da (fs:List aC):List Nm:=fs.map (·.Name)
def OS (fs:List aC) (n:Nm):Nat:=(uE (fun f=>seq f.Name n) fs 0).toNat
def nh (fs:List aC) (vs:List Nm) (n:Nm):Nm:=vs.getD (OS fs n) []
theorem Lf {fs:List aC} {n:Nm} (h:n∈Da fs):uE (fun f=>seq f.Name n) fs 0=(OS fs n:Int)∧∃ hj:OS fs n < fs.length,fs[OS fs n].Name=n:=by
 unfold OS;rcases eJ (fun f:aC=>seq f.Name n) fs with ⟨h1,h2⟩ | ⟨j,hj,h1,h2,h3⟩
 ·obtain ⟨f,hf,e⟩:=List.mem_map.1 h;have:=List.find?_eq_none.1 h2 f hf;rw [eP.2 e] at this;exact absurd rfl this
 ·rw [h1,Int.toNat_natCast];exact ⟨rfl,hj,eP.1 h3⟩
theorem adE {fs:List aC} {a b:Nm} (ha:a∈Da fs) (hb:b∈Da fs) (h:OS fs a=OS fs b):a=b:=by
 obtain ⟨h1,e1⟩:=(Lf ha).2;obtain ⟨h2,e2⟩:=(Lf hb).2;rw [← e1,← e2];simp only [h]
theorem ae7 {fs:List aC} (hn:(Da fs).Nodup) {i:Nat} (hi:i < fs.length):OS fs fs[i].Name=i:=by
 have hm:fs[i].Name∈Da fs:=List.mem_map_of_mem (dJ hi);obtain ⟨h1,e1⟩:=(Lf hm).2;have h2:(Da fs)[OS fs fs[i].Name]'(by simpa [Da] using h1)=(Da fs)[i]'(by simpa [Da] using hi):=by simpa [Da] using e1
 exact (List.getElem_inj hn).1 h2
theorem abz {fs:List aC} {vs:List Nm} {x y v:Nm} (hl:vs.length=fs.length) (hx:x∈Da fs) (hy:y∈Da fs):nh fs (vs.set (OS fs x) v) y=if y=x then v else nh fs vs y:=by
 obtain ⟨h1,-⟩:=(Lf hx).2;unfold nh;by_cases e:y=x
 ·subst e;rw [if_pos rfl];simp [List.getD,show OS fs y < vs.length by omega]
 ·rw [if_neg e];have:OS fs x≠OS fs y:=fun h=>e (adE hy hx h.symm);simp [List.getD,List.getElem?_set,this]
theorem set_self {fs:List aC} {vs:List Nm} {x:Nm} (hl:vs.length=fs.length) (hx:x∈Da fs):vs.set (OS fs x) (nh fs vs x)=vs:=by
 obtain ⟨h1,-⟩:=(Lf hx).2;refine List.ext_getElem (by simp) fun j h2 h3=>?_;rw [List.getElem_set];by_cases e:OS fs x=j
 ·rw [if_pos e];subst e;exact J_ h3
 ·rw [if_neg e]
def Lg (kind name:Nm) (e:Nm→Nm) (m:aH):Option Nm:=
 cond (seq m.Kind kind&&(seq m.Field name&&(seq m.dk []||seq (e m.dk) m.Is))) (cond (seq m.cS []) (some m.tp) (cond (seq (e m.cS) []) none (some (e m.cS)))) none
def dec (ms:List aH) (kind:Nm) (e:Nm→Nm) (name:Nm):Option Nm:=first (fun _ m=>Lg kind name e m) ms 0
theorem XD {kind name:Nm} {e e':Nm→Nm} {m:aH} (h:∀ y,y∈ox kind name m→e y=e' y):Lg kind name e m=Lg kind name e' m:=by
 unfold Lg ox at *;cases h1:seq m.Kind kind with
 | false=>rfl
 | true=>
  cases h2:seq m.Field name with
  | false=>rfl
  | true=>
   rw [h1,h2] at h;simp only [Bool.and_self,cond_true,List.mem_append] at h;have hw:(seq m.dk []||seq (e m.dk) m.Is)=(seq m.dk []||seq (e' m.dk) m.Is):=by
    cases h3:seq m.dk [] with
    | true=>rfl
    | false=>rw [h m.dk (.inl (by rw [h3];simp))]
   have hf:(cond (seq m.cS []) (some m.tp) (cond (seq (e m.cS) []) none (some (e m.cS))))=(cond (seq m.cS []) (some m.tp) (cond (seq (e' m.cS) []) none (some (e' m.cS)))):=by
    cases h3:seq m.cS [] with
    | true=>rfl
    | false=>rw [h m.cS (.inr (by rw [h3];simp))]
   rw [hw,hf]
theorem QZ {ms:List aH} {kind name:Nm} {e e':Nm→Nm} (h:∀ y,y∈reads ms kind name→e y=e' y):dec ms kind e name=dec ms kind e' name:=by
 unfold dec;refine PL ms 0 fun j a ha=>XD fun y hy=>h y ?_;exact List.mem_flatMap.2 ⟨a,List.mem_of_getElem? ha,hy⟩
def Db (fs:List aC) (ms:List aH) (kind:Nm) (vs:List Nm) (name:Nm):List Nm:=
 vs.set (OS fs name) ((dec ms kind (nh fs vs) name).getD (nh fs vs name))
def Em (fs:List aC) (ms:List aH) (kind:Nm) (row:List Nm) (vs:List Nm):List Nm:=row.foldl (Db fs ms kind) vs
theorem Fe (fs:List aC) (ms:List aH) (kind:Nm) (vs:List Nm) (name:Nm):(Db fs ms kind vs name).length=vs.length:=by simp [Db]
theorem yP (fs:List aC) (ms:List aH) (kind:Nm):∀ (row vs:List Nm),(Em fs ms kind row vs).length=vs.length
 | [],_=>rfl
 | a::r,vs=>by
  have:=yP fs ms kind r (Db fs ms kind vs a);rw [Fe] at this;exact this
structure Zt (fs:List aC) (ms:List aH) (kind:Nm) (vs:List Nm) (pre v:List Nm):Prop where
 len:v.length=fs.length
 eq:∀ n,n∈Da fs→nh fs v n=if n∈pre then (dec ms kind (nh fs v) n).getD (nh fs vs n) else nh fs vs n
theorem XE {fs:List aC} {ms:List aH} {kind:Nm} {vs:List Nm} {row:List Nm} (ht:Dw (reads ms kind) row) (hs:∀ y,y∈row→y∈Da fs) {pre post v:List Nm} {x:Nm} (e:row=pre++x::post) (h:Zt fs ms kind vs pre v):Zt fs ms kind vs (pre++[x]) (Db fs ms kind v x):=by
 have hx:x∈Da fs:=hs x (by rw [e];simp);have AF:=ht.nd;rw [e] at AF;have hxp:x ∉ pre:=fun hm=>(List.nodup_append.1 AF).2.2 x hm x (by simp) rfl;have UN:∀ y,y∈pre→y∈Da fs:=fun y hy=>hs y (by rw [e];simp [hy]);have hrx:=ht.rd pre x post e;have hrp:∀ n,n∈pre→∀ y,y∈reads ms kind n→y∈pre:=fun n hn y hy=>by
  obtain ⟨p,q,e'⟩:=List.append_of_mem hn;have:=ht.rd p n (q++x::post) (by rw [e,e'];simp) y hy;rw [e'];simp [this]
 have UU:∀ y,y∈Da fs→nh fs (Db fs ms kind v x) y=if y=x then (dec ms kind (nh fs v) x).getD (nh fs v x) else nh fs v y:=fun y hy=>abz h.len hx hy
 have PZ:∀ y,y∈pre→nh fs (Db fs ms kind v x) y=nh fs v y:=fun y hy=>by
  rw [UU y (UN y hy),if_neg (show ¬ y=x from fun e2=>by subst e2;exact hxp hy)]
 refine ⟨by rw [Fe];exact h.len,fun n hn=>?_⟩;by_cases hnx:n=x
 ·subst hnx;rw [if_pos (by simp),UU n hn,if_pos rfl,h.eq n hn,if_neg hxp,QZ fun y hy=>PZ y (hrx y hy)]
 ·rw [UU n hn,if_neg hnx,h.eq n hn];by_cases hp:n∈pre
  ·rw [if_pos hp,if_pos (by simp [hp]),QZ fun y hy=>PZ y (hrp n hp y hy)]
  ·rw [if_neg hp,if_neg (by simp [hp,hnx])]
theorem P0 {fs:List aC} {ms:List aH} {kind:Nm} {vs:List Nm} {row:List Nm} (ht:Dw (reads ms kind) row) (hs:∀ y,y∈row→y∈Da fs):∀ (post pre v:List Nm),row=pre++post→Zt fs ms kind vs pre v→Zt fs ms kind vs row (Em fs ms kind post v)
 | [],pre,v,e,h=>by
  rw [List.append_nil] at e;rw [e];exact h
 | x::post,pre,v,e,h=>P0 ht hs post (pre++[x]) (Db fs ms kind v x) (by rw [e];simp) (XE ht hs e h)
theorem SJ {fs:List aC} {ms:List aH} {kind:Nm} {vs:List Nm} {row:List Nm} (hl:vs.length=fs.length) (hL:Full (reads ms kind) (Da fs) row):Zt fs ms kind vs row (Em fs ms kind row vs):=
 P0 hL.LQ hL.sub row [] vs rfl ⟨hl,fun n _=>by simp⟩
theorem SK {fs:List aC} {ms:List aH} {kind:Nm} {vs:List Nm} {r1 r2:List Nm} (hn:(Da fs).Nodup) (hl:vs.length=fs.length) (h1:Full (reads ms kind) (Da fs) r1) (h2:Full (reads ms kind) (Da fs) r2):Em fs ms kind r1 vs=Em fs ms kind r2 vs:=by
 have i1:=SJ hl h1;have i2:=SJ hl h2;have key:∀ m n,n∈r1→r1.idxOf n < m→nh fs (Em fs ms kind r1 vs) n=nh fs (Em fs ms kind r2 vs) n:=by
  intro m
  induction m with
  | zero=>intro n _ h;omega
  | succ m ih=>
   intro n hm hi;have hN:=h1.sub n hm;rw [i1.eq n hN,i2.eq n hN,if_pos hm,if_pos (h2.all n hN),QZ fun y hy=>ih y (h1.LQ.lt hm hy).1 (by have:=(h1.LQ.lt hm hy).2;omega)]
 refine List.ext_getElem (by rw [yP,yP]) fun i h3 h4=>?_;have hi:i < fs.length:=by rw [yP] at h3;omega
 have hN:fs[i].Name∈Da fs:=List.mem_map_of_mem (dJ hi);have:=key _ fs[i].Name (h1.all _ hN) (Nat.lt_succ_self _);unfold nh at this;rw [ae7 hn hi,J_ h3,J_ h4] at this;exact this
theorem SL {ms:List aH} {s:aD} (h:(vY ms s).length=s.aV.length):Full (reads ms s.Kind) (names s) (vY ms s):=by
 obtain ⟨h1,h2⟩:=PT ms s;refine ⟨h1,fun y hy=>?_,h2⟩;cases hc:Ej (vY ms s) y with
 | true=>exact yN.1 hc
 | false=>
  have hny:y ∉ vY ms s:=fun hm=>by rw [yN.2 hm] at hc;cases hc
  have h3:(y::vY ms s).Nodup:=List.nodup_cons.2 ⟨hny,h1.nd⟩;have h4:=h3.length_le_of_subset (l₂:=names s) fun z hz=>by
   rcases List.mem_cons.1 hz with e | e
   ·exact e▸hy
   ·exact h2 z e
  simp only [List.length_cons,names,List.length_map] at h4;omega
theorem GL {xs:List aD} {ms:List aH} (h:gA xs ms=true) {s:aD} (hs:s∈xs):
  (Da s.aV).Nodup∧s.aV.length≤6∧Full (reads ms s.Kind) (Da s.aV) (vY ms s)∧(∀ x y,y∈reads ms s.Kind x→y∈Da s.aV)∧ms.length≤12:=by
 simp only [gA,e_,Bool.and_eq_true,List.all_eq_true] at h;obtain ⟨⟨h1,h2,h3⟩,h4,h5,h6⟩:=h;have IC:=h3 s hs;simp only [o9,Bool.and_eq_true] at IC;have h7:=h6 s hs;simp only [bH,beq_iff_eq] at h7;refine ⟨(Ek IC.2.2).1,by have:=ot IC.1;omega,SL (by omega),fun x y hy=>?_,by have:=ot h4;omega⟩;obtain ⟨m,hm1,hm2⟩:=List.mem_flatMap.1 hy;exact PX (PM h2) hs (h5 m hm1) hm2
def Lh (xs:List aD) (ms:List aH) (o:aA):aA:=match xs.find? fun s=>seq s.Kind o.Kind with
 | some s=>cond (bH (s.aV.length:Int) (o.aR.length:Int)) ⟨o.Kind,o.Name,o.aX,Em s.aV ms o.Kind (vY ms s) o.aR,o.Ending,o.b7,o.Version⟩ o
 | none=>o
def xF (xs:List aD) (ms:List aH) (o:aA):aA:=Lh xs ms (El xs o)
theorem Ff {k:Nat} {fs:List aC} {n:Nm} (hk:4194304≤k) (hx:fs.length≤1048576) (h:n∈Da fs):eW k fs n=some (OS fs n:Int):=by
 rw [Ka hk hx,(Lf h).1]
theorem P2 {k:Nat} {fs:List aC} {n:Nm} (hk:4194304≤k) (hx:fs.length≤1048576) (h:n∈Da fs):jy k fs n=some (OS fs n:Int):=by
 rw [Kb hk hx,(Lf h).1]
theorem P3 {fs:List aC} {vs:List Nm} {n:Nm} (hl:vs.length=fs.length) (h:n∈Da fs):bW (OS fs n:Int) vs.length=true:=bM (by rw [hl];exact (Lf h).2.1)
theorem We (fs:List aC) (vs:List Nm) (n:Nm):nth ([]:List UInt8) vs (OS fs n:Int)=nh fs vs n:=rfl
theorem Li {kind name:Nm} {m:aH} (h1:seq m.Kind kind=true) (h2:seq m.Field name=true) (h3:seq m.dk []=false):m.dk∈ox kind name m:=by
 simp [ox,h1,h2,h3]
theorem Lj {kind name:Nm} {m:aH} (h1:seq m.Kind kind=true) (h2:seq m.Field name=true) (h3:seq m.cS []=false):m.cS∈ox kind name m:=by
 simp [ox,h1,h2,h3]
theorem mem_reads {ms:List aH} {kind name y:Nm} {i:Nat} (hi:i < ms.length) (h:y∈ox kind name ms[i]):y∈reads ms kind name:=List.mem_flatMap.2 ⟨_,dJ hi,h⟩
theorem SM {fs:List aC} {ms:List aH} {o:aA} {name:Nm} (hx:fs.length≤1048576) (hm:ms.length≤1048576) (hl:o.aR.length=fs.length) (hR:∀ y,y∈reads ms o.Kind name→y∈Da fs) (J:List aC→List UInt8→aA→Option (List UInt8)) {k:Nat} (hk:4194304*2≤k):
  iter (ts:=fY) (R:=List UInt8) k (eY J) fs ms name o (0:Int)=opt (dec ms o.Kind (nh fs o.aR) name) some (J fs name o):=by
 exact SG (R:=Option (List UInt8)) (x:=ms) (g:=fun _ m=>Lg o.Kind name (nh fs o.aR) m) (B:=4194304) (l:=fun k i=>iter (ts:=fY) (R:=List UInt8) k (eY J) fs ms name o i) (E:=J fs name o) (O:=some)
  (fun k=>by simp only [iter,eY,ck,cond_false]<;>rfl)
  (fun k i hi hb=>by
   simp only [iter,eY,share,cf hi,bM hi,cond_true,bL,bR hi,bQ hm hi,Lg];cases h1:seq ms[i].Kind o.Kind with
   | false=>rfl
   | true=>
    cases h2:seq ms[i].Field name with
    | false=>rfl
    | true=>
     have hw:=fun h3=>hR _ (mem_reads hi (Li h1 h2 h3));have hf:=fun h3=>hR _ (mem_reads hi (Lj h1 h2 h3));have from_:∀ X:Option (List UInt8),(cond (seq ms[i].cS []) (some ms[i].tp) ((eW k fs ms[i].cS).bind fun v=>aZ (bW v o.aR.length) (cond (!seq (nth ([]:List UInt8) o.aR v) []) (some (nth ([]:List UInt8) o.aR v)) X)))
       = opt (cond (seq ms[i].cS []) (some ms[i].tp) (cond (seq (nh fs o.aR ms[i].cS) []) none (some (nh fs o.aR ms[i].cS)))) some X:=fun X=>by
      cases h3:seq ms[i].cS [] with
      | true=>rfl
      | false=>
       rw [Ff hb hx (hf h3)];simp only [Option.bind_some,cond_false,P3 hl (hf h3),bL,We];cases seq (nh fs o.aR ms[i].cS) []<;>rfl
     cases h3:seq ms[i].dk [] with
     | true=>
      simp only [Bool.not_true,cond_false,Bool.true_and,Bool.true_or,cond_true];exact from_ (iter (ts:=fY) (R:=List UInt8) k (eY J) fs ms name o ((i+1:Nat):Int))
     | false=>
      rw [Ff hb hx (hw h3)];simp only [Option.bind_some,Bool.not_true,Bool.not_false,cond_true,cond_false,P3 hl (hw h3),bL,We,Bool.true_and,Bool.false_or];cases seq (nh fs o.aR ms[i].dk) ms[i].Is with
      | false=>rfl
      | true=>exact from_ (iter (ts:=fY) (R:=List UInt8) k (eY J) fs ms name o ((i+1:Nat):Int))) k (by omega)
theorem SN {k:Nat} {fs:List aC} {ms:List aH} {o:aA} {name:Nm} (hk:4194304*2≤k) (hx:fs.length≤1048576) (hm:ms.length≤1048576) (hl:o.aR.length=fs.length) (hn:name∈Da fs) (hR:∀ y,y∈reads ms o.Kind name→y∈Da fs):
  sA k fs ms o name=some ((dec ms o.Kind (nh fs o.aR) name).getD (nh fs o.aR name)):=by
 unfold sA;simp only [share];rw [SM hx hm hl hR _ hk];cases dec ms o.Kind (nh fs o.aR) name with
 | some c=>rfl
 | none=>
  simp only [Ff (show 4194304≤k by omega) hx hn,Option.bind_some,P3 hl hn,bL,We];rfl
theorem Q0 {k:Nat} {xs:List aD} {ms:List aH} {o:aA} (hk:4194304*4≤k) (hx:xs.length≤1048576) (ho:LR o) (o_:gA xs ms=true):uY k xs ms o=some (Lh xs ms o):=by
 unfold uY Lh;rw [Kd ho];simp only [Option.bind_some,s6 (show 4194304≤k by omega) hx,share,cw,Fa (show 4194304≤k by omega) hx,Fb];rcases eJ (fun s:aD=>seq s.Kind o.Kind) xs with ⟨h1,h2⟩ | ⟨j,hj,h1,h2,h3⟩
 ·rw [h1,h2];rfl
 ·rw [h1,h2];simp only;cases he:bH (xs[j].aV.length:Int) (o.aR.length:Int) with
  | false=>rfl
  | true=>
   have hl:o.aR.length=xs[j].aV.length:=by simp only [bH,beq_iff_eq] at he;omega
   obtain ⟨k1,k2,k3,k4,k5⟩:=GL o_ (dJ hj);have Zu:=eP.1 h3;rw [Zu] at k3 k4;have YW:xs[j].aV.length≤1048576:=by omega
   have YU:ms.length≤1048576:=by omega
   simp only [cond_true,Option.isSome_some,Option.getD_some,Bool.not_true,cond_false,bM hj,bL,bR hj,V9 hk YU YW,Option.bind_some];have hrl:(vY ms xs[j]).length≤1048576:=by
    have:=k3.LQ.nd.length_le_of_subset k3.sub;simp only [Da,List.length_map] at this;omega
   exact fD (S:=List Nm) (x:=vY ms xs[j]) (f:=Db xs[j].aV ms o.Kind) (B:=4194304*2) (l:=fun k vs i=>iter (ts:=w8) (R:=aA) k (oT (fun (v41:aA) (v42:List UInt8) (v43:List UInt8) (v44:List UInt8) (v45:Bool) (v46:Int) (v47:List (List UInt8)) (v48:List (List UInt8))=>some (⟨v42,v43,v44,v47,v45,v48,v46⟩:aA))) ms xs[j].aV (vY ms xs[j]) i (⟨([]:List UInt8),([]:List UInt8),([]:List UInt8),[],false,[],(0:Int)⟩:aA) o.Kind o.Name o.aX o.Ending o.Version vs o.b7)
    (J:=fun vs=>some ⟨o.Kind,o.Name,o.aX,vs,o.Ending,o.b7,o.Version⟩) (fun _ vs=>vs.length=xs[j].aV.length)
    (fun k vs _=>by simp only [iter,oT,ck,cond_false]<;>rfl)
    (fun k i vs hi hb hI=>⟨by
     have hn:=k3.sub _ (dJ hi);have hd:=SN (o:=⟨o.Kind,o.Name,o.aX,vs,o.Ending,o.b7,o.Version⟩) hb YW YU hI hn (fun y hy=>k4 _ y hy);simp only [iter,oT,cf hi,bM hi,cond_true,bL,bR hi,bQ hrl hi,Ff (show 4194304≤k by omega) YW hn,hd,Option.bind_some,P3 hI hn];rfl,by rw [Fe];exact hI⟩) k o.aR (by omega) hl
theorem XF (xs:List aD) (ms:List aH) (o:aA):(Lh xs ms o).aR.length=o.aR.length∧(Lh xs ms o).b7=o.b7:=by
 unfold Lh;cases xs.find? fun s=>seq s.Kind o.Kind with
 | none=>exact ⟨rfl,rfl⟩
 | some s=>
  simp only;cases bH (s.aV.length:Int) (o.aR.length:Int) with
  | false=>exact ⟨rfl,rfl⟩
  | true=>exact ⟨yP ..,rfl⟩
theorem M1 {xs:List aD} {o:aA} (h:LR o):LR (El xs o):=by
 have:=Ke xs o;exact ⟨by rw [this.1];exact h.1,by rw [this.2.1];exact h.2⟩
theorem Q1 {k:Nat} {xs:List aD} {ms:List aH} {o:aA} (hk:4194304*4≤k) (hx:xs.length≤1048576) (ho:LR o) (o_:gA xs ms=true):uZ k xs ms o=some (xF xs ms o):=by
 unfold uZ;rw [QY (by omega) hx ho,Option.bind_some,Q0 hk hx (M1 ho) o_];rfl
theorem Ca {k:Nat} {fs:List aC} {n kd nm tm:Nm} {e:Bool} {v:Int} {vs hs:List Nm} (hk:4194304≤k) (hx:fs.length≤1048576) (hl:vs.length=fs.length) (h:n∈Da fs):dU k n kd nm tm e v fs vs hs=some (nh fs vs n,kd,nm,tm,e,v,fs,vs,hs):=by
 unfold dU;rw [P2 hk hx h];simp only [Option.bind_some,P3 hl h,bL,We]
theorem UW {fs:List aC} {ms:List aH} {name kd nm tm:Nm} {e:Bool} {v:Int} {o:aA} {row vs hs:List Nm} {n j:Int} (hx:fs.length≤1048576) (hm:ms.length≤1048576) (hl:vs.length=fs.length) (hn:name∈Da fs) (hR:∀ y,y∈reads ms kd name→y∈Da fs)
  (J:List aH→List (List UInt8)→Int→Int→List UInt8→List UInt8→List UInt8→Bool→Int→aA→List aC→List (List UInt8)→List (List UInt8)→Option aA) {k:Nat} (hk:4194304*2≤k):
  iter (ts:=g9) (R:=aA) k (fh J) ms name row n j ms (ms.length:Int) (0:Int) kd nm tm e v o fs vs hs=J ms row n j kd nm tm e v o fs (Db fs ms kd vs name) hs:=by
 have h:=SG (R:=Option aA) (x:=ms) (g:=fun _ m=>Lg kd name (nh fs vs) m) (B:=4194304) (l:=fun k i=>iter (ts:=g9) (R:=aA) k (fh J) ms name row n j ms (ms.length:Int) i kd nm tm e v o fs vs hs) (E:=J ms row n j kd nm tm e v o fs vs hs) (O:=fun c=>J ms row n j kd nm tm e v o fs (vs.set (OS fs name) c) hs)
  (fun k=>by simp only [iter,fh,ck,cond_false]<;>rfl)
  (fun k i hi hb=>by
   simp only [iter,fh,share,cf hi,bM hi,cond_true,bL,bR hi,bQ hm hi,Lg];cases h1:seq ms[i].Kind kd with
   | false=>rfl
   | true=>
    cases h2:seq ms[i].Field name with
    | false=>rfl
    | true=>
     have hw:=fun h3=>hR _ (mem_reads hi (Li h1 h2 h3));have hf:=fun h3=>hR _ (mem_reads hi (Lj h1 h2 h3));have hp:=P2 hb hx hn;have hib:=P3 hl hn;cases h4:seq ms[i].cS [] with
     | true=>
      cases h3:seq ms[i].dk [] with
      | true=>
       simp only [Bool.not_true,cond_false,cond_true,Bool.true_and,Bool.true_or,hp,Option.bind_some,hib,bL];rfl
      | false=>
       simp only [Bool.not_true,Bool.not_false,cond_false,cond_true,Bool.true_and,Bool.false_or,Ca hb hx hl (hw h3),Option.bind_some,yO,bL,hp,hib];cases seq (nh fs vs ms[i].dk) ms[i].Is<;>rfl
     | false=>
      cases h3:seq ms[i].dk [] with
      | true=>
       simp only [Bool.not_true,Bool.not_false,cond_false,cond_true,Bool.true_and,Bool.true_or,Ca hb hx hl (hf h4),Option.bind_some,yO,bL,hp,hib];cases seq (nh fs vs ms[i].cS) []<;>rfl
      | false=>
       simp only [Bool.not_true,Bool.not_false,cond_false,cond_true,Bool.true_and,Bool.false_or,Ca hb hx hl (hw h3),Ca hb hx hl (hf h4),Option.bind_some,yO,bL,hp,hib];cases seq (nh fs vs ms[i].dk) ms[i].Is<;>cases seq (nh fs vs ms[i].cS) []<;>rfl) k (by omega)
 refine h.trans ?_;unfold Db;change opt (dec ms kd (nh fs vs) name) (fun c=>J ms row n j kd nm tm e v o fs (vs.set (OS fs name) c) hs) (J ms row n j kd nm tm e v o fs vs hs)=_;cases dec ms kd (nh fs vs) name with
 | some c=>rfl
 | none=>
  simp only [Option.getD_none,opt];rw [set_self hl hn]
theorem Q2 {k:Nat} {xs:List aD} {ms:List aH} {o:aA} (hk:4194304*7≤k) (hx:lE aD.sd xs) (hm:lE aH.sd ms) (ho:LR o):qD k xs ms o=some (cond (gA xs ms) (Lh xs ms o) o):=by
 unfold qD;rw [QX ho];simp only [Option.bind_some,Ld o (show 4194304≤k by omega) hx.1,share,yO,bL,Ar hk hx hm];cases o_:gA xs ms with
 | false=>cases (cw xs o).isSome<;>rfl
 | true=>
  simp only [Lh,cw,Fc (show 4194304≤k by omega) hx.1];rcases eJ (fun s:aD=>seq s.Kind o.Kind) xs with ⟨h1,h2⟩ | ⟨j,hj,h1,h2,h3⟩
  ·rw [h1,h2];rfl
  ·rw [h1,h2];simp only;cases he:bH (xs[j].aV.length:Int) (o.aR.length:Int) with
   | false=>rfl
   | true=>
    have hl:o.aR.length=xs[j].aV.length:=by simp only [bH,beq_iff_eq] at he;omega
    obtain ⟨k1,k2,k3,k4,k5⟩:=GL o_ (dJ hj);have Zu:=eP.1 h3;have YW:xs[j].aV.length≤1048576:=by omega
    have YU:ms.length≤1048576:=by omega
    obtain ⟨b,row,r1,r2,r3⟩:=Wc (ms:=ms) (s:=xs[j]) YU (fun x _ y hy=>k4 x y hy) (fun x=>by have:=PY (ms:=ms) (kind:=xs[j].Kind) (x:=x);omega) k2 (show 4194304*5≤k by omega);obtain rfl:b=true:=r3 ⟨_,k3⟩;have hF:=r2 rfl;simp only [cond_true,Option.isSome_some,Option.getD_some,Bool.not_true,cond_false,Option.bind_some,bM hj,bL,bR hj,r1];rw [Zu] at k3 k4 hF;have hrl:row.length≤1048576:=by
     have:=hF.LQ.nd.length_le_of_subset hF.sub;simp only [names,List.length_map] at this;omega
    rw [← SK k1 hl hF k3];exact fD (S:=List Nm) (x:=row) (f:=Db xs[j].aV ms o.Kind) (B:=4194304*2) (l:=fun k vs i=>iter (ts:=tX) (R:=aA) k (me (fun (agG:List UInt8) (agH:List UInt8) (agI:List UInt8) (agJ:Bool) (agK:Int) (ahD:aA) (agL:List (List UInt8)) (agM:List (List UInt8))=>some (⟨agG,agH,agI,agL,agJ,agM,agK⟩:aA))) ms row (row.length:Int) i o.Kind o.Name o.aX o.Ending o.Version (⟨([]:List UInt8),([]:List UInt8),([]:List UInt8),[],false,[],(0:Int)⟩:aA) xs[j].aV vs o.b7)
     (J:=fun vs=>some ⟨o.Kind,o.Name,o.aX,vs,o.Ending,o.b7,o.Version⟩) (fun _ vs=>vs.length=xs[j].aV.length)
     (fun k vs _=>by simp only [iter,me,ck,cond_false]<;>rfl)
     (fun k i vs hi hb hI=>⟨by
      simp only [iter,me,share,cf hi,bM hi,cond_true];have hn:nth ([]:List UInt8) row (i:Int)∈Da xs[j].aV:=by rw [bR hi];exact hF.sub _ (dJ hi)
      change iter (ts:=g9) (R:=aA) k (fh _) ms (nth [] row (i:Int)) row (row.length:Int) (i:Int) ms (ms.length:Int) (0:Int) o.Kind o.Name o.aX o.Ending o.Version _ xs[j].aV vs o.b7=_;refine (UW YW YU hI hn (fun y hy=>k4 _ y hy) _ hb).trans ?_;simp only [bR hi];rw [bQ hrl hi],by rw [Fe];exact hI⟩) k o.aR (by omega) hl
theorem Q3 {k:Nat} {xs:List aD} {ms:List aH} {o:aA} (hk:4194304*7≤k) (hx:lE aD.sd xs) (hm:lE aH.sd ms) (ho:LR o):qE k xs ms o=some (cond (gA xs ms) (xF xs ms o) o):=by
 unfold qE;rw [Ar hk hx hm,adD ho,UT (by omega) hx ho];cases o_:gA xs ms with
 | false=>rfl
 | true=>
  have hs:e_ xs=true:=by
   simp only [gA,Bool.and_eq_true] at o_;exact o_.1
  simp only [Option.bind_some,Bool.not_true,cond_false,hs,cond_true,Q2 hk hx hm (M1 ho),o_];rfl
theorem Mb {a b:Nm} (h:seq a b=true):slt a b=false:=by rw [eP.1 h];exact L_ b
def M3 (a b:List Nm):Bool:=bH (a.length:Int) (b.length:Int)&&(a.zip b).all fun q=>seq q.1 q.2
theorem Fg {α β:Type} {a:List α} {b:List β} (h:a.length≤b.length):(a.zip b).length=a.length:=by simp;omega
theorem Zv {k:Nat} {a b:List Nm} (hk:4194304≤k) (ha:a.length≤1048576):oU k a b=some (M3 a b):=by
 unfold oU M3;cases he:bH (a.length:Int) (b.length:Int) with
 | false=>rfl
 | true=>
  have hl:a.length=b.length:=by simp only [bH,beq_iff_eq] at he;omega
  have hz:=Fg (a:=a) (b:=b) (by omega);have h:=gN (R:=Option Bool) (x:=a.zip b) (p:=fun q=>seq q.1 q.2) (B:=0) (l:=fun k i=>iter (ts:=sB) (R:=Bool) k (kx (some true)) a b i) (E:=some true) (O:=some false)
   (fun k=>by simp only [hz,iter,kx,ck,cond_false]<;>rfl)
   (fun k i hi _=>by
    rw [hz] at hi;have di:i < b.length:=by omega
    simp only [iter,kx,cf hi,bM hi,bM di,cond_true,bL,bR hi,bR di,bQ ha hi,List.getElem_zip];cases seq a[i] b[i]<;>rfl) k (by omega)
  simp only [Bool.not_true,cond_false,share];refine h.trans ?_;cases (a.zip b).all fun q=>seq q.1 q.2<;>rfl
theorem Q4 {k:Nat} {a b:List Nm} (hk:4194304≤k) (ha:a.length≤1048576):qF k a b=some (M3 a b):=by
 unfold qF M3;cases he:bH (a.length:Int) (b.length:Int) with
 | false=>rfl
 | true=>
  have hl:a.length=b.length:=by simp only [bH,beq_iff_eq] at he;omega
  have hz:=Fg (a:=a) (b:=b) (by omega);have h:=gN (R:=Option Bool) (x:=a.zip b) (p:=fun q=>seq q.1 q.2) (B:=0) (l:=fun k i=>iter (ts:=tY) (R:=Bool) k (mf (some true)) a b (a.length:Int) i) (E:=some true) (O:=some false)
   (fun k=>by simp only [hz,iter,mf,ck,cond_false]<;>rfl)
   (fun k i hi _=>by
    rw [hz] at hi;have di:i < b.length:=by omega
    simp only [iter,mf,cf hi,bM hi,bM di,cond_true,bL,bR hi,bR di,bQ ha hi,List.getElem_zip];cases seq a[i] b[i]<;>rfl) k (by omega)
  simp only [Bool.not_true,cond_false,share];refine h.trans ?_;cases (a.zip b).all fun q=>seq q.1 q.2<;>rfl
def nK (a b c d:Nm):Bool:=slt a c||(seq a c&&slt b d)
def Q5 (a b:Nm):Int:=cond (slt a b) (-1) (cond (!(slt a b||seq a b)) 1 0)
theorem Q6 (k:Nat) (a b:Nm):qU k a b=some (Q5 a b):=by
 unfold qU Q5;cases slt a b<;>cases seq a b<;>rfl
def XG (a b c d:Nm):Int:=cond (!bH (Q5 a c) 0) (Q5 a c) (Q5 b d)
theorem Mc (k:Nat) (a b c d:Nm):qS k a b c d=some (XG a b c d):=by
 unfold qS XG;rw [Q6,Q6];simp only [Option.bind_some];cases bH (Q5 a c) 0<;>rfl
theorem Q7 (a b c d:Nm):b8 0 (XG a b c d)=!nK a b c d:=by
 unfold XG nK Q5;cases h1:slt a c<;>cases h2:seq a c<;>cases h3:slt b d<;>cases h4:seq b d<;>rfl
def atO (b:aG) (kind name:Nm):Int:=uE (fun o=>seq o.Kind kind&&seq o.Name name) b.aO 0
theorem adF {k:Nat} {b:aG} {kind name:Nm} (hk:4194304≤k) (hb:b.aO.length≤1048576):E8 k b kind name=some (atO b kind name):=by
 unfold E8;simp only [share];exact m9 (x:=b.aO) (p:=fun o=>seq o.Kind kind&&seq o.Name name) (l:=fun k i=>iter (ts:=CW) (R:=Int) k (xz (some (-1))) kind name b i)
  (fun k=>by simp only [iter,xz,ck,cond_false]<;>rfl)
  (fun k i hi=>by
   simp only [iter,xz,share,cf hi,bM hi,cond_true,bL,bR hi,bQ hb hi];cases seq b.aO[i].Kind kind<;>rfl) k (by omega)
theorem adG {k:Nat} {b:aG} {kind name:Nm} (hk:4194304≤k) (hb:b.aO.length≤1048576):mg k b kind name=some (atO b kind name):=by
 unfold mg;simp only [share];exact m9 (x:=b.aO) (p:=fun o=>seq o.Kind kind&&seq o.Name name) (l:=fun k i=>iter (ts:=p6) (R:=Int) k (iJ (some (-1))) kind name b.aO (b.aO.length:Int) i)
  (fun k=>by simp only [iter,iJ,ck,cond_false]<;>rfl)
  (fun k i hi=>by
   simp only [iter,iJ,share,cf hi,bM hi,cond_true,bL,bR hi,bQ hb hi];cases seq b.aO[i].Kind kind<;>rfl) k (by omega)
def SO (b:aG) (q:aC×Nm):Bool:=!(bH q.1.Kind 4&&(!seq q.2 []&&bK (atO b q.1.To q.2) 0))
def Fh (b:aG) (fs:List aC) (vs:List Nm):Bool:=(fs.zip vs).all (SO b)
theorem SP {w:aL} {b:aG} {n:Int} {fs:List aC} {o:aA} (hb:b.aO.length≤1048576) (hl:fs.length≤o.aR.length) (hv:o.aR.length≤1048576) (J:aL→aG→Int→Option Bool) {k:Nat} (hk:4194304*2≤k):
  iter (ts:=gu) (R:=Bool) k (eI J) w b n fs (0:Int) o=cond (Fh b fs o.aR) (J w b n) (some false):=by
 have hz:=Fg hl;exact gN (R:=Option Bool) (x:=fs.zip o.aR) (p:=SO b) (B:=4194304) (l:=fun k i=>iter (ts:=gu) (R:=Bool) k (eI J) w b n fs i o) (E:=J w b n) (O:=some false)
  (fun k=>by simp only [hz,iter,eI,ck,cond_false]<;>rfl)
  (fun k i hi cl=>by
   rw [hz] at hi;have di:i < o.aR.length:=by omega
   simp only [iter,eI,share,cf hi,bM hi,bM di,cond_true,bL,bR hi,bR di,bQ (show fs.length≤1048576 by omega) hi,adF cl hb,Option.bind_some,List.getElem_zip,SO];cases bH fs[i].Kind 4 with
   | false=>rfl
   | true=>
    cases seq o.aR[i] [] with
    | true=>rfl
    | false=>cases bK (atO b fs[i].To o.aR[i]) 0<;>rfl) k (by rw [hz];omega)
def Cb:List (aC×Nm)→Nat→List (Int×(aC×Unit))
 | [],_=>[]
 | q::r,i=>cond (bH q.1.Kind 4&&!seq q.2 []) (((i:Int),q.1,())::Cb r (i+1)) (Cb r (i+1))
theorem abA {fs:List aC} {o:aA} (hl:fs.length≤o.aR.length) (hv:o.aR.length≤1048576):∀ m i k,i+m=fs.length→m+1≤k→
  iter (ts:=vT) (R:=List (Int×(aC×Unit))) k nI o fs (fs.length:Int) (i:Int)=some (Cb ((fs.zip o.aR).drop i) i):=by
 have hz:=Fg hl;intro m
 induction m with
 | zero=>
  intro i k h1 h2;obtain rfl:i=fs.length:=by omega
  obtain ⟨k,rfl⟩:∃ j,k=j+1:=⟨k-1,by omega⟩;rw [List.drop_of_length_le (by omega)];simp only [iter,nI,ck,cond_false,Cb]<;>rfl
 | succ m ih=>
  intro i k h1 h2;obtain ⟨k,rfl⟩:∃ j,k=j+1:=⟨k-1,by omega⟩;have hi:i < fs.length:=by omega
  have di:i < o.aR.length:=by omega
  rw [List.drop_eq_getElem_cons (show i < (fs.zip o.aR).length by omega),List.getElem_zip];have ih':=ih (i+1) k (by omega) (by omega);simp only [iter,nI,cf hi,bM hi,bM di,cond_true,bL,bR hi,bR di,bQ (show fs.length≤1048576 by omega) hi,ih',Cb];cases bH fs[i].Kind 4<;>cases seq o.aR[i] []<;>rfl
theorem abB {k:Nat} {w:aL} {o:aA} (hk:4194304≤k) (hw:w.cg.length≤1048576) (hv:o.aR.length≤1048576):ly k w o=some (Cb (((cw w.cg o).getD []).zip o.aR) 0):=by
 unfold ly;rw [xD hk hw];simp only [Option.bind_some];cases hf:cw w.cg o with
 | none=>rfl
 | some fs=>
  have hl:=(jD hf).1;have h:=abA (fs:=fs) (o:=o) (by omega) hv fs.length 0 k (by omega) (by omega);rw [List.drop_zero] at h;exact h
theorem Lk {b:aG} {w:aL} {os:List aA} {n j:Int} {e:Bool} {o:aA} {k:Nat} (hk:4194304≤k) (hb:b.aO.length≤1048576) (D:aG→aL→List aA→Int→Int→Bool→aA→Option Bool):∀ (z:List (aC×Nm)) (i:Nat),(∀ t (h:t < z.length),∃ h':i+t < o.aR.length,o.aR[i+t]=z[t].2)→
  Ii (ts:=dg) (R:=Bool) (cT k) D (Cb z i) b w os n j e o=cond (z.all (SO b)) (D b w os n j e o) (some false)
 | [],_,_=>rfl
 | q::r,i,h=>by
  have ih:=Lk (o:=o) (b:=b) (w:=w) (os:=os) (n:=n) (j:=j) (e:=e) hk hb D r (i+1) fun t ht=>by
   obtain ⟨h1,h2⟩:=h (t+1) (by simpa using ht);exact ⟨by omega,by simpa [show i+1+t=i+(t+1) by omega] using h2⟩
  obtain ⟨h1,h2⟩:=h 0 (by simp);simp only [Nat.add_zero,List.getElem_cons_zero] at h1 h2;simp only [Cb,List.all_cons];have hq:SO b q=!(bH q.1.Kind 4&&(!seq q.2 []&&bK (atO b q.1.To q.2) 0)):=rfl;rw [hq];cases c1:bH q.1.Kind 4 with
  | false=>exact ih
  | true=>
   cases c2:seq q.2 [] with
   | true=>exact ih
   | false=>
    simp only [Bool.not_false,Bool.and_self,cond_true,Bool.true_and];change cT k ((i:Int),q.1,()) (Ii (ts:=dg) (R:=Bool) (cT k) D (Cb r (i+1))) b w os n j e o=_;unfold cT;simp only [bM h1,bL,bR h1,h2,adG hk hb,Option.bind_some];cases bK (atO b q.1.To q.2) 0 with
    | true=>rfl
    | false=>exact ih
def Zw (q:Option aA) (o:aA):Bool:=match q with
 | none=>true
 | some p=>nK p.Kind p.Name o.Kind o.Name
def UX (w:aL) (b:aG) (q:Option aA) (o:aA):Bool:=
 (bH (xE w.cg o).1 0&&((h_ w.dY o.aX).isSome&&(b8 1 o.Version&&b8 o.Version b.vo)))&&(Zw q o&&(M3 (xF w.cg w.iO o).aR o.aR&&Fh b ((cw w.cg o).getD []) o.aR))
def pa (w:aL) (b:aG):Bool:=b8 (b.aO.length:Int) 40&&chain (UX w b) none b.aO
theorem M4 (xs:List aD) (ms:List aH) (o:aA):(xF xs ms o).aR.length=o.aR.length:=by
 unfold xF;rw [(XF ..).1,(Ke ..).1]
theorem SQ (xs:List aD) (o:aA):((cw xs o).getD []).length≤o.aR.length:=by
 cases hf:cw xs o with
 | none=>simp
 | some fs=>have:=(jD hf).1;simp;omega
theorem Pf {k:Nat} {w:aL} {b:aG} (hk:4194304*10≤k) (hw:w.sd) (hb:b.sd) (o_:gA w.cg w.iO=true):oV k w b=some (pa w b):=by
 obtain ⟨-,-,-,P4,-⟩:=hb;unfold oV pa;have h:=fE (R:=Option Bool) (x:=b.aO) (p:=UX w b) (B:=4194304*8) (l:=fun k i=>iter (ts:=eZ) (R:=Bool) k (dT (some true)) w b i) (E:=some true) (O:=some false)
  (fun k=>by simp only [iter,dT,ck,cond_false]<;>rfl)
  (fun k i hi cl=>by
   have YX:=P4.2 _ (dJ hi);have hle:=Ma YX;have hsl:=M4 w.cg w.iO b.aO[i];have hlk:=fun (n:Int) (J:aL→aG→Int→Option Bool)=>SP (w:=w) (b:=b) (n:=n) (o:=b.aO[i]) P4.1 (SQ w.cg b.aO[i]) hle.1 J (show 4194304*2≤k by omega);simp only [iter,dT,share,cf hi,bM hi,cond_true,bL,bR hi,Pd (show 4194304*4≤k by omega) hw.1 YX,Iy (show 4194304≤k by omega) hw.2.2.1,LO,Q1 (show 4194304*4≤k by omega) hw.1.1 hle o_,Zv (show 4194304≤k by omega) (show (xF w.cg w.iO b.aO[i]).aR.length≤1048576 by rw [hsl];exact hle.1),s6 (show 4194304≤k by omega) hw.1.1,Option.bind_some,bQ P4.1 hi,UX];have tail:∀ c:Bool,cond (!c) (some false) (iter (ts:=gu) (R:=Bool) k (eI fun adH adI adJ=>iter (ts:=eZ) (R:=Bool) k (dT (some true)) adH adI (aP .i64 adJ (1:Int))) w b (i:Int) ((cw w.cg b.aO[i]).getD []) (0:Int) b.aO[i])
     = cond (c&&Fh b ((cw w.cg b.aO[i]).getD []) b.aO[i].aR) (iter (ts:=eZ) (R:=Bool) k (dT (some true)) w b ((i+1:Nat):Int)) (some false):=fun c=>by
    have:=hlk (i:Int) fun adH adI adJ=>iter (ts:=eZ) (R:=Bool) k (dT (some true)) adH adI (aP .i64 adJ (1:Int));rw [bQ P4.1 hi] at this;cases c with
    | false=>rfl
    | true=>exact this.trans (by cases Fh b ((cw w.cg b.aO[i]).getD []) b.aO[i].aR<;>rfl)
   cases bH (xE w.cg b.aO[i]).1 0 with
   | false=>rfl
   | true=>
    cases (h_ w.dY b.aO[i].aX).isSome with
    | false=>rfl
    | true=>
     cases b8 1 b.aO[i].Version&&b8 b.aO[i].Version b.vo with
     | false=>rfl
     | true=>
      rcases Nat.eq_zero_or_pos i with rfl | h0
      ·simp only [sZ,mm,Zw,Bool.true_and];exact tail _
      ·have di:i-1 < b.aO.length:=by omega
       simp only [z0 h0,q9 h0 (show i≤1048576 by have:=P4.1;omega),bM di,cond_true,bL,bR di,mn h0 hi,Zw,Mc,Option.bind_some,Q7,Bool.true_and];cases nK b.aO[i-1].Kind b.aO[i-1].Name b.aO[i].Kind b.aO[i].Name with
       | false=>rfl
       | true=>exact tail _) k (by have:=P4.1;omega)
 simp only [share,cL];cases b8 (b.aO.length:Int) 40 with
 | false=>rfl
 | true=>exact h.trans (by cases chain (UX w b) none b.aO<;>rfl)
theorem XH {xs:List aD} {o:aA} (h:e_ xs=true):QU xs o=xE xs o:=by
 unfold QU xE;rw [h,Bool.true_and]
theorem Kf (x:List aJ) (n:Nm):bK (uE (fun t:aJ=>seq t.Name n) x 0) 0=!(h_ x n).isSome:=by
 unfold h_;rcases eJ (fun t:aJ=>seq t.Name n) x with ⟨k1,k2⟩ | ⟨q,hq,k1,k2,_⟩
 ·rw [k1,k2];rfl
 ·rw [k1,k2,dz (by omega)];rfl
theorem adK {fs:List aC} {vs:List Nm}:∀ t (h:t < (fs.zip vs).length),∃ h':0+t < vs.length,vs[0+t]=(fs.zip vs)[t].2:=fun t h=>by
 have h2:t < vs.length:=by simp at h;omega
 exact ⟨by omega,by simp⟩
theorem Pg {k:Nat} {w:aL} {b:aG} (hk:4194304*12≤k) (hw:w.sd) (hb:b.sd) (o_:gA w.cg w.iO=true):gj k b w=some (pa w b):=by
 obtain ⟨-,-,-,P4,-⟩:=hb;have rR:e_ w.cg=true:=by simp only [gA,Bool.and_eq_true] at o_;exact o_.1
 unfold gj pa;have h:=fE (R:=Option Bool) (x:=b.aO) (p:=UX w b) (B:=4194304*10) (l:=fun k i=>iter (ts:=cZ) (R:=Bool) k (cI fun _=>some true) b w b.aO (b.aO.length:Int) i false) (E:=some true) (O:=some false)
  (fun k=>by simp only [iter,cI,ck,cond_false]<;>rfl)
  (fun k i hi cl=>by
   have YX:=P4.2 _ (dJ hi);have hle:=Ma YX;have hsl:=M4 w.cg w.iO b.aO[i];have tail:∀ c:Bool,cond (!c) (some false) ((yD k w b.aO[i]).bind fun Zx=>(ly k Zx.1 Zx.2).bind fun Zy=>Ii (ts:=dg) (R:=Bool) (cT k) (fun (adL:aG) (adM:aL) (adN:List aA) (adO:Int) (adP:Int) (adQ:Bool) (Zy:aA)=>iter (ts:=cZ) (R:=Bool) k (cI fun _=>some true) adL adM adN adO (aP .i64 adP (1:Int)) adQ) Zy b w b.aO (b.aO.length:Int) (i:Int) false b.aO[i])
     = cond (c&&Fh b ((cw w.cg b.aO[i]).getD []) b.aO[i].aR) (iter (ts:=cZ) (R:=Bool) k (cI fun _=>some true) b w b.aO (b.aO.length:Int) ((i+1:Nat):Int) false) (some false):=fun c=>by
    cases c with
    | false=>rfl
    | true=>
     unfold yD;simp only [Bool.not_true,cond_false,Option.bind_some,abB (show 4194304≤k by omega) hw.1.1 hle.1,Bool.true_and];refine (Lk (show 4194304≤k by omega) P4.1 _ _ 0 adK).trans ?_;rw [bQ P4.1 hi];rfl
   simp only [iter,cI,share,cf hi,bM hi,cond_true,bL,bR hi,SB (show 4194304*6≤k by omega) hw.1 YX,XH rR,yL (show 4194304≤k by omega) hw.2.2.1,Kf,Q3 (show 4194304*7≤k by omega) hw.1 hw.2.1 hle,o_,Q4 (show 4194304≤k by omega) (show (xF w.cg w.iO b.aO[i]).aR.length≤1048576 by rw [hsl];exact hle.1),Option.bind_some,UX,cL b.aO[i].Version,cL b.vo];have Zz:∀ c1:Bool,cond (!c1) (some false) (cond (!(h_ w.dY b.aO[i].aX).isSome) (some false) (cond (!b8 1 b.aO[i].Version) (some false) (cond (!b8 b.aO[i].Version b.vo) (some false) (cond (!M3 (xF w.cg w.iO b.aO[i]).aR b.aO[i].aR) (some false) ((yD k w b.aO[i]).bind fun Zx=>(ly k Zx.1 Zx.2).bind fun Zy=>Ii (ts:=dg) (R:=Bool) (cT k) (fun (adL:aG) (adM:aL) (adN:List aA) (adO:Int) (adP:Int) (adQ:Bool) (Zy:aA)=>iter (ts:=cZ) (R:=Bool) k (cI fun _=>some true) adL adM adN adO (aP .i64 adP (1:Int)) adQ) Zy b w b.aO (b.aO.length:Int) (i:Int) false b.aO[i])))))
     = cond ((c1&&((h_ w.dY b.aO[i].aX).isSome&&(b8 1 b.aO[i].Version&&b8 b.aO[i].Version b.vo)))&&(M3 (xF w.cg w.iO b.aO[i]).aR b.aO[i].aR&&Fh b ((cw w.cg b.aO[i]).getD []) b.aO[i].aR)) (iter (ts:=cZ) (R:=Bool) k (cI fun _=>some true) b w b.aO (b.aO.length:Int) ((i+1:Nat):Int) false) (some false):=fun c1=>by
    rw [tail];cases c1<;>cases (h_ w.dY b.aO[i].aX).isSome<;>cases b8 1 b.aO[i].Version<;>cases b8 b.aO[i].Version b.vo<;>rfl
   rcases Nat.eq_zero_or_pos i with rfl | h0
   ·simp only [sZ,mm,Zw,Bool.true_and];refine Eq.trans ?_ (Zz _);cases bH (xE w.cg b.aO[0]).1 0 with
    | false=>rfl
    | true=>cases (h_ w.dY b.aO[0].aX).isSome<;>cases b8 1 b.aO[0].Version<;>cases b8 b.aO[0].Version b.vo<;>rfl
   ·have di:i-1 < b.aO.length:=by omega
    simp only [z0 h0,q9 h0 (show i≤1048576 by have:=P4.1;omega),bM di,cond_true,bL,bR di,mn h0 hi,Zw,nK];cases h1:seq b.aO[i-1].Kind b.aO[i].Kind with
    | true=>
     rw [Mb h1];cases slt b.aO[i-1].Name b.aO[i].Name with
     | false=>simp only [Bool.false_or,Bool.true_and,Bool.false_and,Bool.and_false];rfl
     | true=>
      simp only [Bool.false_or,Bool.true_and];refine Eq.trans ?_ (Zz _);cases bH (xE w.cg b.aO[i]).1 0 with
      | false=>rfl
      | true=>cases (h_ w.dY b.aO[i].aX).isSome<;>cases b8 1 b.aO[i].Version<;>cases b8 b.aO[i].Version b.vo<;>rfl
    | false=>
     cases slt b.aO[i-1].Kind b.aO[i].Kind with
     | false=>simp only [Bool.false_or,Bool.true_and,Bool.false_and,Bool.and_false];rfl
     | true=>
      simp only [Bool.true_or,Bool.true_and];refine Eq.trans ?_ (Zz _);cases bH (xE w.cg b.aO[i]).1 0 with
      | false=>rfl
      | true=>cases (h_ w.dY b.aO[i].aX).isSome<;>cases b8 1 b.aO[i].Version<;>cases b8 b.aO[i].Version b.vo<;>rfl) k (by have:=P4.1;omega)
 simp only [share,cL];cases b8 (b.aO.length:Int) 40 with
 | false=>rfl
 | true=>exact h.trans (by cases chain (UX w b) none b.aO<;>rfl)
def uH (x:List aJ):Nat→Nm→Nm→Bool
 | 0,a,b=>seq a b
 | m+1,a,b=>seq a b||(!seq (z6 x a) []&&uH x m (z6 x a) b)
theorem SS {k:Nat} {x:List aJ} {a b:Nm} (hk:4194304*2≤k) (hx:x.length≤1048576):yo k x a b=some (uH x 4 a b):=by
 have go:∀ (m j k:Nat) (a:Nm),j+m=4→4194304+m+1≤k→cond (seq a b) (some true) (iter (ts:=vP) (R:=Bool) k (nE (some false)) x a b (j:Int))=some (uH x m a b):=by
  intro m
  induction m with
  | zero=>
   intro j k a h hk;obtain rfl:j=4:=by omega
   obtain ⟨k,rfl⟩:∃ q,k=q+1:=⟨k-1,by omega⟩;simp only [iter,nE,uH,dz (show ¬ ((4:Nat):Int) < (4:Int) by omega)];cases seq a b<;>rfl
  | succ m ih=>
   intro j k a h hk;obtain ⟨k,rfl⟩:∃ q,k=q+1:=⟨k-1,by omega⟩;have h1:=ih (j+1) k (z6 x a) (by omega) (by omega);simp only [iter,nE,uH,hY (show ((j:Nat):Int) < (4:Int) by omega),cond_true,Su (show 4194304≤k by omega) hx,Option.bind_some,bQ (n:=4) (by omega) (show j < 4 by omega)];cases seq a b with
   | true=>rfl
   | false=>
    cases seq (z6 x a) [] with
    | true=>rfl
    | false=>exact h1
 exact go 4 0 k a (by omega) (by omega)
theorem SU {k:Nat} {x:List aJ} {a b:Nm} (hk:4194304*2≤k) (hx:x.length≤1048576):yF k x a b=some (uH x 4 a b):=by
 have go:∀ (m j k:Nat) (a:Nm),j+m=4→4194304+m+1≤k→iter (ts:=vV) (R:=Bool) k (nJ (some true)) x a b (j:Int)=some (uH x m a b):=by
  intro m
  induction m with
  | zero=>
   intro j k a h hk;obtain rfl:j=4:=by omega
   obtain ⟨k,rfl⟩:∃ q,k=q+1:=⟨k-1,by omega⟩;simp only [iter,nJ,share,uH,yL (show 4194304≤k by omega) hx,Option.bind_some,show bH ((4:Nat):Int) 4=true from rfl];cases seq a b<;>rfl
  | succ m ih=>
   intro j k a h hk;obtain ⟨k,rfl⟩:∃ q,k=q+1:=⟨k-1,by omega⟩;have hj:bH (j:Int) 4=false:=by simp only [bH,beq_eq_false_iff_ne];omega
   have h1:=ih (j+1) k (z6 x a) (by omega) (by omega);simp only [iter,nJ,share,uH,yL (show 4194304≤k by omega) hx,Option.bind_some,hj];cases seq a b with
   | true=>rfl
   | false=>
    simp only [Bool.not_false,cond_true,cond_false,Bool.false_or];rcases eJ (fun t:aJ=>seq t.Name a) x with ⟨k1,k2⟩ | ⟨q,hq,k1,k2,_⟩
    ·have e:z6 x a=[]:=by simp only [z6,h_,k2]
     rw [k1,e];rfl
    ·have e:z6 x a=x[q].ia:=by simp only [z6,h_,k2]
     rw [k1,dz (by omega),bM hq,bR hq,e];rw [e] at h1;simp only [cond_false,bL];cases seq x[q].ia [] with
     | true=>rfl
     | false=>
      simp only [cond_false,bQ (n:=4) (by omega) (show j < 4 by omega)];exact h1
 exact go 4 0 k a (by omega) (by omega)
end Go.Proofs.YtjkbbdldmdajkaaGreatDoor.Pu
