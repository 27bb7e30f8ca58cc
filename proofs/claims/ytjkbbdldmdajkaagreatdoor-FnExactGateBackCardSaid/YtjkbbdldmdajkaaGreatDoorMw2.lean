/- Plain words and laws. No condition. -/
import Derived.Test.YtjkbbdldmdajkaaGreatDoorMw1
set_option linter.unusedSimpArgs false
set_option linter.unusedVariables false
namespace Go.Proofs.YtjkbbdldmdajkaaGreatDoor.Pu
open Go Go.RowKit Go.Proofs.YtjkbbdldmdajkaaGreatDoor.c_ Go.Proofs.YtjkbbdldmdajkaaGreatDoor.Fn
theorem MT {k:Nat} {o:aA} {fs:List aC} (hk:4194304*2≤k) (ho:o.sd) (hl:fs.length=o.aR.length) (hf:∀ f,f∈fs→f.Words.length≤1048576):
  iter (ts:=lZ) (R:=Int×Int) k (ja (some (0,0))) o fs (0:Int)=some ((first (MS o.aR) fs 0).getD (0,0)):=by
 have hv:=ho.2.2.2.1;have h:=He (R:=Option (Int×Int)) (x:=fs) (g:=MS o.aR) (B:=4194304) (l:=fun k i=>iter (ts:=lZ) (R:=Int×Int) k (ja (some (0,0))) o fs i) (E:=some (0,0)) (O:=fun c=>some c)
  (fun k=>by simp only [iter,ja,ck,cond_false]<;>rfl)
  (fun k i hi hb=>by
   have di:i < o.aR.length:=by omega
   have hh:=hv.1;simp only [iter,ja,share,cf hi,bM hi,bM di,cond_true,bL,bR hi,bR di,bQ (n:=fs.length) (by omega) hi,Hf hb (hf _ (dF hi)) (hv.2 _ (dF di)),Option.bind_some,MS,J9 di];cases seq o.aR[i] []<;>cases fs[i].c6<;>cases fits fs[i] o.aR[i]<;>rfl) k (by have:=hv.1;omega)
 refine h.trans ?_;cases first (MS o.aR) fs 0<;>rfl
def xC (xs:List aD) (o:aA):Int×Int:=
 cond (MR xs o) ((first (MS o.aR) ((cw xs o).getD []) 0).getD (0,0)) (1,0)
theorem Pb {k:Nat} {xs:List aD} {o:aA} (hk:4194304*4≤k) (hx:lD aD.sd xs) (ho:o.sd):xu k xs o=some (xC xs o):=by
 have JG:=ho;obtain ⟨h1,h2,h3,h4,-,h5,-⟩:=ho;unfold xu xC MR;simp only [share,sY (show 4194304≤k by omega) hx.1,ez (show 4194304≤k by omega) h2,ez (show 4194304≤k by omega) h3,GD (show 8388608≤k by omega) h5,LN,Option.bind_some,cL];cases hf:cw xs o with
 | none=>rfl
 | some fs=>
  obtain ⟨e1,s,e2,e3⟩:=jD hf;have go:=MT (k:=k) (by omega) JG e1 (fun f hfm=>by
   have:=((hx.2 s e2).2.2 f (by rw [e3];exact hfm)).2.2.2.2.1;exact this.1)
  simp only [Option.isSome_some,Option.getD_some];cases cB o.Name<;>cases cB o.aX<;>cases b8 (o.b7.length:Int) 3<;>cases q8 o.b7<;>cases b8 0 o.Version&&b8 o.Version 1000000<;>first | rfl | (refine (show _=((iter (ts:=lZ) (R:=Int×Int) k (ja (some (0,0))) o fs (0:Int)).bind fun v5=>some (v5.1,v5.2)) from rfl).trans ?_;rw [go];rfl) | exact go
theorem agz (k:Nat) (f:eV):AO k f=some (f.code,f.place):=rfl
def ae1:Option (Int×Int)→Unit ⊕ (eV ⊕ eV)
 | none=>.inl ()
 | some (c,p)=>.inr (.inl ⟨c,p⟩)
theorem Ix {k:Nat} {xs:List aD} {o:aA} {fs:List aC} (hk:4194304*2≤k) (hx:lD aD.sd xs) (ho:o.sd) (hf:cw xs o=some fs):oZ k xs o=some (ae1 (first (MS o.aR) fs 0)):=by
 obtain ⟨hl,s,e2,e3⟩:=jD hf;have hv:=ho.2.2.2.1;unfold oZ;rw [xB (by omega) hx.1,hf];have h:=He (R:=Option (Unit ⊕ (eV ⊕ eV))) (x:=fs) (g:=MS o.aR) (B:=4194304) (l:=fun k i=>iter (ts:=sL) (R:=Unit ⊕ (eV ⊕ eV)) k (kC (some (.inl ()))) o fs (fs.length:Int) i) (E:=some (.inl ())) (O:=fun c=>some (.inr (.inl ⟨c.1,c.2⟩)))
  (fun k=>by simp only [iter,kC,ck,cond_false]<;>rfl)
  (fun k i hi hb=>by
   have di:i < o.aR.length:=by omega
   have hh:=hv.1;have hw:fs[i].Words.length≤1048576:=((hx.2 s e2).2.2 fs[i] (by rw [e3];exact dF hi)).2.2.2.2.1.1;simp only [iter,kC,share,cf hi,bM hi,bM di,cond_true,bL,bR hi,bR di,uC hb hw (hv.2 _ (dF di)),Option.bind_some,MS,J9 di];rw [bQ (n:=fs.length) (by omega) hi];cases seq o.aR[i] []<;>cases fs[i].c6<;>cases fits fs[i] o.aR[i]<;>rfl) k (by have:=hv.1;omega)
 simp only [share,Option.bind_some,Option.getD_some];refine h.trans ?_;cases first (MS o.aR) fs 0<;>rfl
theorem LO {k:Nat} {xs:List aD} {o:aA} (hk:4194304*5≤k) (hx:lD aD.sd xs) (ho:o.sd):sM k xs o=some (cond (e_ xs&&MR xs o) (.inr ()) (.inl ⟨1,0⟩)):=by
 obtain ⟨h1,h2,h3,h4,-,h5,-⟩:=ho;unfold sM MR;simp only [share,yJ hx hk,xB (show 4194304≤k by omega) hx.1,fZ (show 4194304≤k by omega) h2,fZ (show 4194304≤k by omega) h3,uD (show 8388608≤k by omega) h5,Option.bind_some,cL];cases (cw xs o).isSome<;>cases e_ xs<;>cases cB o.Name<;>cases cB o.aX<;>cases b8 (o.b7.length:Int) 3<;>cases q8 o.b7<;>cases b8 0 o.Version<;>cases b8 o.Version 1000000<;>rfl
theorem Sy {k:Nat} {xs:List aD} {o:aA} (hk:4194304*6≤k) (hx:lD aD.sd xs) (ho:o.sd):sN k xs o=some (QQ xs o):=by
 obtain ⟨k,rfl⟩:∃ q,k=q+3:=⟨k-3,by omega⟩;unfold sN QQ;simp only [share,iter,zN];rw [show bK 0 2=true from rfl,show bH 0 0=true from rfl];simp only [cond_true,LO (show 4194304*5≤k+2 by omega) hx ho,Option.bind_some];cases hs:e_ xs&&MR xs o with
 | false=>rfl
 | true=>
  simp only [cond_true,adv];rw [show aP .i64 0 1=1 from rfl,show bK 1 2=true from rfl,show bH 1 0=false from rfl,show bH 1 1=true from rfl];cases hf:cw xs o with
  | none=>simp [MR,hf] at hs
  | some fs=>
   simp only [cond_true,cond_false,Ix (show 4194304*2≤k+1 by omega) hx ho hf,Option.bind_some,Option.getD_some];cases hb:first (MS o.aR) fs 0 with
   | none=>rfl
   | some c=>rfl
theorem J_ {k:Nat} {fs:List aC} {n:List UInt8} (hk:4194304≤k) (hx:fs.length≤1048576):eW k fs n=some (uB (fun f=>seq f.Name n) fs 0):=by
 unfold eW;simp only [share];exact m8 (x:=fs) (p:=fun f=>seq f.Name n) (l:=fun k i=>iter (ts:=ye) (R:=Int) k (qk (some (-1))) fs n i)
  (fun k=>by simp only [iter,qk,ck,cond_false]<;>rfl)
  (fun k i hi=>by simp only [iter,qk,cf hi,bM hi,cond_true,bL,bR hi,bQ hx hi]<;>rfl) k (by omega)
theorem Ka {k:Nat} {fs:List aC} {n:List UInt8} (hk:4194304≤k) (hx:fs.length≤1048576):jy k fs n=some (uB (fun f=>seq f.Name n) fs 0):=by
 unfold jy;simp only [share];exact m8 (x:=fs) (p:=fun f=>seq f.Name n) (l:=fun k i=>iter (ts:=yq) (R:=Int) k (qz (some (-1))) n fs (fs.length:Int) i)
  (fun k=>by simp only [iter,qz,ck,cond_false]<;>rfl)
  (fun k i hi=>by simp only [iter,qz,cf hi,bM hi,cond_true,bL,bR hi,bQ hx hi]<;>rfl) k (by omega)
def Hg (fs:List aC) (n:List UInt8):Option aC:=fs.find? fun f=>seq f.Name n
def ot (fs:List aC) (n:List UInt8):Bool:=match Hg fs n with
 | some f=>!bH f.Kind 4
 | none=>false
theorem Xu {k:Nat} {fs:List aC} {n:List UInt8} (hk:4194304≤k) (hx:fs.length≤1048576):lY k fs n=some (ot fs n):=by
 unfold lY;rw [J_ hk hx];simp only [Option.bind_some,ot,Hg];rcases eJ (fun f:aC=>seq f.Name n) fs with ⟨h1,h2⟩ | ⟨j,hj,h1,h2,_⟩
 ·rw [h1,h2];rfl
 ·rw [h1,h2,C3 (by omega),bM hj,bR hj];rfl
theorem Xv {k:Nat} {fs:List aC} {n:List UInt8} (hk:4194304≤k) (hx:fs.length≤1048576):jL k n fs=some (ot fs n,fs):=by
 unfold jL;rw [Ka hk hx];simp only [Option.bind_some,ot,Hg];rcases eJ (fun f:aC=>seq f.Name n) fs with ⟨h1,h2⟩ | ⟨j,hj,h1,h2,_⟩
 ·rw [h1,h2];rfl
 ·rw [h1,h2,C3 (by omega),bM hj,bR hj];rfl
def Sz (fs:List aC) (n v:List UInt8):Bool:=match Hg fs n with
 | some f=>fits f v
 | none=>false
def Kb (fs:List aC) (m:aH):Bool:=
 ot fs m.Field&&((seq m.dk []||ot fs m.dk)&&((seq m.cR []||ot fs m.cR)&&(!seq m.dk m.Field&&(!seq m.cR m.Field&&((!seq m.dk []||seq m.Is [])&&(!c_.beq (seq m.tl []) (seq m.cR [])&&(seq m.tl []||Sz fs m.Field m.tl)))))))
def ou (xs:List aD) (m:aH):Bool:=match xs.find? fun s=>seq s.Kind m.Kind with
 | some s=>Kb s.aV m
 | none=>false
theorem K_ {fs:List aC} {n:List UInt8} (h:ot fs n=true):∃ j,∃ hj:j < fs.length,uB (fun f=>seq f.Name n) fs 0=(j:Int)∧Hg fs n=some fs[j]:=by
 unfold ot Hg at *;rcases eJ (fun f:aC=>seq f.Name n) fs with ⟨h1,h2⟩ | ⟨j,hj,h1,h2,_⟩
 ·rw [h2] at h;cases h
 ·exact ⟨j,hj,h1,h2⟩
theorem UI {k:Nat} {xs:List aD} {m:aH} (hk:4194304≤k) (hx:lD aD.sd xs) (hm:m.sd):uS k xs m=some (ou xs m):=by
 unfold uS ou;rw [E5 hk hx.1,E6];simp only [Option.bind_some];rcases eJ (fun s:aD=>seq s.Kind m.Kind) xs with ⟨h1,h2⟩ | ⟨j,hj,h1,h2,_⟩
 ·rw [h1,h2];rfl
 ·have hs:=hx.2 _ (dF hj);obtain ⟨-,m2,m3,m4,m5,m6⟩:=hm;rw [h1,h2,dy (by omega),bM hj,bR hj];simp only [cond_false,bL,share,Xu hk hs.2.1,Option.bind_some,Kb];generalize hF:xs[j].aV=fs at *;cases hp:ot fs m.Field with
  | false=>rfl
  | true=>
   obtain ⟨q,hq,q1,q2⟩:=K_ hp;have ady:Sz fs m.Field m.tl=fits fs[q] m.tl:=by unfold Sz;rw [q2]
   rw [J_ hk (by rw [← hF];exact hs.2.1),q1,ady];simp only [Option.bind_some,bM hq,bL,bR hq];rw [Hf hk (by subst hF;exact (hs.2.2 _ (dF hq)).2.2.2.2.1.1) m5];cases seq m.dk []<;>cases ot fs m.dk<;>cases seq m.cR []<;>cases ot fs m.cR<;>cases seq m.dk m.Field<;>cases seq m.cR m.Field<;>cases seq m.Is []<;>cases seq m.tl []<;>rfl
theorem UJ {k:Nat} {fs:List aC} {m:aH} (hk:4194304≤k) (hx:lD aC.sd fs) (hm:m.sd):zL k fs m=some (Kb fs m):=by
 unfold zL;obtain ⟨-,m2,m3,m4,m5,m6⟩:=hm;simp only [share,Xv hk hx.1,Option.bind_some,Kb];cases hp:ot fs m.Field with
 | false=>rfl
 | true=>
  obtain ⟨q,hq,q1,q2⟩:=K_ hp;have ady:Sz fs m.Field m.tl=fits fs[q] m.tl:=by unfold Sz;rw [q2]
  rw [Ka hk hx.1,q1,ady];simp only [Option.bind_some,bM hq,bL,bR hq];rw [uC hk (hx.2 _ (dF hq)).2.2.2.2.1.1 m5];cases seq m.dk []<;>cases ot fs m.dk<;>cases seq m.cR []<;>cases ot fs m.cR<;>cases seq m.dk m.Field<;>cases seq m.cR m.Field<;>cases seq m.Is []<;>cases seq m.tl []<;>rfl
def ov (kind name:Nm) (m:aH):List Nm:=cond (seq m.Kind kind&&seq m.Field name) ((cond (seq m.dk []) [] [m.dk])++(cond (seq m.cR []) [] [m.cR])) []
def reads (ms:List aH) (kind name:Nm):List Nm:=ms.flatMap (ov kind name)
theorem MU {α β:Type} (g:α→List β):∀ (l:List α) (a:List β),l.foldl (fun acc m=>acc++g m) a=a++l.flatMap g
 | [],a=>by simp
 | m::r,a=>by rw [List.foldl_cons,MU g r];simp
theorem MV (kind name:Nm) (m:aH):(ov kind name m).length≤2:=by
 unfold ov;cases seq m.Kind kind&&seq m.Field name<;>cases seq m.dk []<;>cases seq m.cR []<;>simp
theorem Zm {k:Nat} {name:Nm} {ms:List aH} {s:aD} (hk:4194304≤k) (hm:ms.length≤1048576):xA k name ms s=some (reads ms s.Kind name,ms,s):=by
 unfold xA;simp only [share];have h:=fC (S:=List Nm) (x:=ms) (f:=fun acc m=>acc++ov s.Kind name m) (B:=0)
  (l:=fun k acc i=>iter (ts:=yr) (R:=(List (List UInt8))×(List aH)×aD) k (qA fun v61 v62 v63=>some (v63,v61,v62)) name ms (ms.length:Int) i ms s acc) (J:=fun acc=>some (acc,ms,s)) (fun i acc=>acc.length≤2*i)
  (fun k acc _=>by simp only [iter,qA,ck,cond_false]<;>rfl)
  (fun k i acc hi _ hI=>⟨by
   simp only [iter,qA,share,cf hi,bM hi,cond_true,bL,bR hi,bQ hm hi,ov];rw [g9 (by simp;omega) (by omega),g9 (by simp;omega) (by omega),g9 (by simp;omega) (by omega)];cases seq ms[i].Kind s.Kind<;>cases seq ms[i].Field name<;>cases seq ms[i].dk []<;>cases seq ms[i].cR []<;>simp [bL]<;>rfl,by
   have:=MV s.Kind name ms[i];simp only [List.length_append];omega⟩) k [] (by omega) (by simp)
 refine h.trans ?_;rw [MU];rfl
def Ef (row:List Nm) (y:Nm):Bool:=row.any fun z=>seq z y
theorem yK {row:List Nm} {y:Nm}:Ef row y=true↔y∈row:=by
 simp only [Ef,List.any_eq_true,eP];exact ⟨fun ⟨z,h1,h2⟩=>h2▸h1,fun h=>⟨y,h,rfl⟩⟩
def QR (ms:List aH) (kind name:Nm) (row:List Nm):Bool:=(reads ms kind name).all (Ef row)
theorem Xw {k:Nat} {ms:List aH} {kind name:Nm} {row:List Nm} (hk:8388608≤k) (hm:ms.length≤1048576) (hr:row.length≤1048576):xt k ms kind name row=some (QR ms kind name row):=by
 unfold xt;simp only [share];have h:=gM (x:=ms) (p:=fun m=>(ov kind name m).all (Ef row)) (B:=4194304) (l:=fun k i=>iter (ts:=yf) (R:=Bool) k (ql (some true)) ms kind name row i) (E:=some true) (O:=some false)
  (fun k=>by simp only [iter,ql,ck,cond_false]<;>rfl)
  (fun k i hi hb=>by
   simp only [iter,ql,share,cf hi,bM hi,cond_true,bL,bR hi,bQ hm hi,QN hb hr,Option.bind_some,ov];have e1:(row.any fun y=>seq y ms[i].dk)=Ef row ms[i].dk:=rfl;have e2:(row.any fun y=>seq y ms[i].cR)=Ef row ms[i].cR:=rfl;rw [e1,e2];cases seq ms[i].Kind kind<;>cases seq ms[i].Field name<;>cases seq ms[i].dk []<;>cases seq ms[i].cR []<;>cases hw:Ef row ms[i].dk<;>cases hf:Ef row ms[i].cR<;>simp [hw,hf]<;>rfl) k (by omega)
 refine h.trans ?_;unfold QR reads;rw [List.all_flatMap];cases ms.all fun a=>(ov kind name a).all (Ef row)<;>rfl
def Iy (ms:List aH) (s:aD) (row:List Nm) (f:aC):Bool:=!Ef row f.Name&&QR ms s.Kind f.Name row
def C4 (ms:List aH) (s:aD) (row:List Nm):List Nm:=match s.aV.find? (Iy ms s row) with
 | some f=>row++[f.Name]
 | none=>row
def vT (ms:List aH) (s:aD):List Nm:=s.aV.foldl (fun row _=>C4 ms s row) []
theorem Xx (ms:List aH) (s:aD) (row:List Nm):(C4 ms s row).length≤row.length+1:=by
 unfold C4;split<;>simp
theorem V6 {k:Nat} {ms:List aH} {s:aD} (hk:4194304*4≤k) (hm:ms.length≤1048576) (hs:s.aV.length≤1048576):yg k s ms=some (vT ms s):=by
 unfold yg;simp only [share];have inner:∀ (J:List aH→aD→Int→List Nm→Option (List Nm)) (n:Int) (row:List Nm) (k:Nat),4194304*3≤k→row.length≤1048576→
   iter (ts:=ue) (R:=List (List UInt8)) k (pX J) ms s n (0:Int) row=J ms s n (C4 ms s row):=by
  intro J n row k hk hr;have h:=J7 (x:=s.aV) (p:=Iy ms s row) (B:=8388608) (l:=fun k i=>iter (ts:=ue) (R:=List (List UInt8)) k (pX J) ms s n i row) (E:=J ms s n row) (O:=fun f=>J ms s n (row++[f.Name]))
   (fun k=>by simp only [iter,pX,ck,cond_false]<;>rfl)
   (fun k i hi hb=>by
    simp only [iter,pX,share,cf hi,bM hi,cond_true,bL,bR hi,bQ hs hi,QN (show 4194304≤k by omega) hr,Xw hb hm hr,Option.bind_some,Iy];rw [g9 (by simp;omega) (by omega)];have e1:(row.any fun y=>seq y s.aV[i].Name)=Ef row s.aV[i].Name:=rfl;rw [e1];cases Ef row s.aV[i].Name<;>cases QR ms s.Kind s.aV[i].Name row<;>rfl) k (by omega)
  refine h.trans ?_;unfold C4;cases s.aV.find? (Iy ms s row)<;>rfl
 have h:=fC (S:=List Nm) (x:=s.aV) (f:=fun row _=>C4 ms s row) (B:=4194304*3) (l:=fun k row i=>iter (ts:=AH) (R:=List (List UInt8)) k (uT fun v=>some v) ms s i row) (J:=fun row=>some row) (fun i row=>row.length≤i)
  (fun k row _=>by simp only [iter,uT,ck,cond_false]<;>rfl)
  (fun k i row hi hb hI=>⟨by
   simp only [iter,uT,share,cf hi,cond_true];refine (inner _ _ _ _ hb (by omega)).trans ?_;rw [bQ hs hi],Nat.le_trans (Xx ms s row) (by omega)⟩) k [] (by omega) (by simp)
 exact h
section
variable (R:Nm→List Nm) (N:List Nm)
structure Dr (out:List Nm):Prop where
 nd:out.Nodup
 rd:∀ pre x post,out=pre++x::post→∀ y,y∈R x→y∈pre
structure Full (L:List Nm):Prop where
 LP:Dr R L
 all:∀ y,y∈N→y∈L
 sub:∀ y,y∈L→y∈N
variable {R N}
theorem Dr.nil:Dr R []:=⟨List.nodup_nil,fun pre x post h=>by simp at h⟩
theorem Dr.snoc {out:List Nm} {x:Nm} (h:Dr R out) (hx:x ∉ out) (hr:∀ y,y∈R x→y∈out):Dr R (out++[x]):=by
 refine ⟨List.nodup_append.2 ⟨h.nd,by simp,fun a ha b hb=>by simp at hb;subst hb;exact fun e=>hx (e▸ha)⟩,fun pre z post e y hy=>?_⟩;rcases List.append_eq_append_iff.1 e with ⟨cs,h1,h2⟩ | ⟨bs,h1,h2⟩
 ·cases cs with
  | nil=>
   simp only [List.nil_append,List.cons.injEq] at h2;rw [List.append_nil] at h1;rw [h1];exact hr y (h2.1▸hy)
  | cons a cs=>simp at h2
 ·cases bs with
  | nil=>
   simp only [List.nil_append,List.cons.injEq] at h2;rw [List.append_nil] at h1;rw [← h1];exact hr y (h2.1▸hy)
  | cons b bs=>
   simp only [List.cons_append,List.cons.injEq] at h2;obtain ⟨rfl,_⟩:=h2;exact h.rd pre z bs h1 y hy
theorem Dr.lt {L:List Nm} (h:Dr R L) {x y:Nm} (hx:x∈L) (hy:y∈R x):y∈L∧L.idxOf y < L.idxOf x:=by
 obtain ⟨pre,post,e⟩:=List.append_of_mem hx;have hp:=h.rd pre x post e y hy;have AA:=h.nd;rw [e] at AA;have hxp:x ∉ pre:=fun hm=>(List.nodup_append.1 AA).2.2 x hm x (by simp) rfl;refine ⟨by rw [e];simp [hp],?_⟩;rw [e,List.idxOf_append,if_pos hp,List.idxOf_append,if_neg hxp,List.idxOf_cons_self,Nat.zero_add];exact List.idxOf_lt_length_iff.2 hp
end
theorem La (ms:List aH) (s:aD) (row:List Nm):(∃ f,f∈s.aV∧f.Name ∉ row∧(∀ y,y∈reads ms s.Kind f.Name→y∈row)∧C4 ms s row=row++[f.Name])∨
  ((∀ f,f∈s.aV→Iy ms s row f=false)∧C4 ms s row=row):=by
 unfold C4;cases h:s.aV.find? (Iy ms s row) with
 | some f=>
  have h1:=List.find?_some h;simp only [Iy,Bool.and_eq_true,Bool.not_eq_true'] at h1;refine .inl ⟨f,List.mem_of_find?_eq_some h,fun hm=>?_,fun y hy=>?_,rfl⟩
  ·rw [yK.2 hm] at h1;cases h1.1
  ·exact yK.1 (List.all_eq_true.1 h1.2 y hy)
 | none=>exact .inr ⟨fun f hf=>by simpa using List.find?_eq_none.1 h f hf,rfl⟩
def names (s:aD):List Nm:=s.aV.map (·.Name)
theorem PQ (ms:List aH) (s:aD):Dr (reads ms s.Kind) (vT ms s)∧∀ y,y∈vT ms s→y∈names s:=by
 have key:∀ (l:List aC) (row:List Nm),Dr (reads ms s.Kind) row→(∀ y,y∈row→y∈names s)→Dr (reads ms s.Kind) (l.foldl (fun row _=>C4 ms s row) row)∧∀ y,y∈l.foldl (fun row _=>C4 ms s row) row→y∈names s:=by
  intro l
  induction l with
  | nil=>exact fun row h1 h2=>⟨h1,h2⟩
  | cons a r ih=>
   intro row h1 h2;rw [List.foldl_cons];rcases La ms s row with ⟨f,q1,q2,q3,q4⟩ | ⟨_,q⟩
   ·rw [q4];refine ih _ (h1.snoc q2 q3) fun y hy=>?_;rcases List.mem_append.1 hy with h | h
    ·exact h2 y h
    ·simp at h;subst h;exact List.mem_map_of_mem q1
   ·rw [q];exact ih _ h1 h2
 exact key s.aV [] Dr.nil (fun y h=>by cases h)
theorem Xy {ms:List aH} {s:aD} (AA:(names s).Nodup) {L:List Nm} (hL:Full (reads ms s.Kind) (names s) L):(vT ms s).length=s.aV.length:=by
 have hlen:(names s).length=s.aV.length:=by simp [names]
 have step:∀ row:List Nm,row.Nodup→(∀ y,y∈row→y∈names s)→row.length < s.aV.length→∃ f,f∈s.aV∧Iy ms s row f=true:=by
  intro row h1 h2 h3;have:∃ x,L.find? (fun y=>!Ef row y)=some x:=by
   cases h:L.find? (fun y=>!Ef row y) with
   | some x=>exact ⟨x,rfl⟩
   | none=>
    have ox:=List.find?_eq_none.1 h;have jO:∀ y,y∈names s→y∈row:=fun y hy=>by
     have:=ox y (hL.all y hy);simp only [Bool.not_eq_true',Bool.not_eq_false] at this;exact yK.1 (by simpa using this)
    have:=AA.length_le_of_subset jO;omega
  obtain ⟨x,hx⟩:=this;have hxL:=List.mem_of_find?_eq_some hx;obtain ⟨f,hf,rfl⟩:=List.mem_map.1 (hL.sub x hxL);refine ⟨f,hf,?_⟩;simp only [Iy,Bool.and_eq_true];refine ⟨List.find?_some (p:=fun y=>!Ef row y) hx,List.all_eq_true.2 fun y hy=>?_⟩;obtain ⟨hp,pre,post,e,UK⟩:=List.find?_eq_some_iff_append.1 hx;have:=UK y (hL.LP.rd pre f.Name post e y hy);simpa using this
 have key:∀ (l:List aC) (row:List Nm),row.Nodup→(∀ y,y∈row→y∈names s)→Dr (reads ms s.Kind) row→row.length+l.length=s.aV.length→(l.foldl (fun row _=>C4 ms s row) row).length=s.aV.length:=by
  intro l
  induction l with
  | nil=>intro row _ _ _ h;simpa using h
  | cons a r ih=>
   intro row h1 h2 h4 h3;rw [List.length_cons] at h3;rw [List.foldl_cons];rcases La ms s row with ⟨f,q1,q2,q3,q4⟩ | ⟨q1,_⟩
   ·rw [q4];have ht:=h4.snoc q2 q3;refine ih _ ht.nd (fun y hy=>?_) ht (by simp;omega);rcases List.mem_append.1 hy with h | h
    ·exact h2 y h
    ·simp at h;subst h;exact List.mem_map_of_mem q1
   ·obtain ⟨f,hf,hn⟩:=step row h1 h2 (by omega);rw [q1 f hf] at hn;cases hn
 exact key s.aV [] List.nodup_nil (fun y h=>by cases h) Dr.nil (by simp)
theorem Zn {ms:List aH} {s:aD} (AA:(names s).Nodup):(vT ms s).length=s.aV.length↔∃ L,Full (reads ms s.Kind) (names s) L:=by
 constructor
 ·intro h;obtain ⟨h1,h2⟩:=PQ ms s;refine ⟨vT ms s,h1,fun y hy=>?_,h2⟩;cases hc:Ef (vT ms s) y with
  | true=>exact yK.1 hc
  | false=>
   have hny:y ∉ vT ms s:=fun hm=>by rw [yK.2 hm] at hc;cases hc
   have h3:(y::vT ms s).Nodup:=List.nodup_cons.2 ⟨hny,h1.nd⟩;have h4:=h3.length_le_of_subset (l₂:=names s) fun z hz=>by
    rcases List.mem_cons.1 hz with e | e
    ·exact e▸hy
    ·exact h2 z e
   simp only [List.length_cons,names,List.length_map] at h4;omega
 ·rintro ⟨L,hL⟩
  exact Xy AA hL
def SA (n:Nm) (v:Int) (st:List cy):List cy:=pA (fun p:cy=>seq n p.Key) st ⟨n,v⟩
theorem PR (n n':Nm) (v:Int) (st:List cy):iO n' (SA n v st)=cond (seq n' n) v (iO n' st):=J6 (key:=cy.Key) (y:=⟨n,v⟩)
theorem f_ (n:Nm) (v:Int) (st:List cy):iO n (SA n v st)=v:=by rw [PR,p7];rfl
theorem adz {a b:Nm} (h:a≠b):seq a b=false:=by
 cases e:seq a b with
 | false=>rfl
 | true=>exact absurd (eP.1 e) h
theorem eh {n n':Nm} (h:n'≠n) (v:Int) (st:List cy):iO n' (SA n v st)=iO n' st:=by rw [PR,adz h];rfl
section
variable {ms:List aH} {s:aD} {R:Nm→List Nm} {N:List Nm}
def fu (N G:List Nm):Nat:=8388608+(N.length+1-G.length)*1048578
theorem ac2 {N G G':List Nm} (h:G.length≤G'.length):fu N G'≤fu N G:=by unfold fu;omega
theorem ac3 (N G:List Nm):8388608≤fu N G:=by unfold fu;omega
theorem abt {N G:List Nm} {x:Nm} (h:G.length+1≤N.length):fu N (x::G)+1048578≤fu N G:=by unfold fu;simp only [List.length_cons];omega
structure UL (R:Nm→List Nm) (N:List Nm) (st:List cy) (out G:List Nm):Prop where
 two:∀ y,iO y st=2↔y∈out
 rng:∀ y,iO y st=0∨iO y st=1∨iO y st=2
 LP:Dr R out
 sub:∀ y,y∈out→y∈N
 gnd:G.Nodup
 abu:∀ y,y∈G→y∈N
 g:∀ y,y∈G↔iO y st≠0
structure MW (R:Nm→List Nm) (N:List Nm) (st:List cy) (out G:List Nm) (Sj:List cy) (Am:List Nm):Prop where
 inv:∃ G',UL R N Sj Am G'∧G.length≤G'.length
 one:∀ y,iO y Sj=1↔iO y st=1
 ext:∀ y,y∈out→y∈Am
def V7 (L:List Nm) (st:List cy) (x:Nm):Prop:=∀ z,iO z st=1→L.idxOf x < L.idxOf z
def UM (R:Nm→List Nm) (N:List Nm) (ms:List aH) (s:aD) (f:Nat→Nm→List cy→List aH→aD→List Nm→Option (Bool×List cy×List aH×aD×List Nm)) (n:Nat):Prop:=
 ∀ k x st out G,fu N G≤k→x∈N→UL R N st out G→N.length < n+G.length→∃ b Sj Am,f k x st ms s out=some (b,Sj,ms,s,Am)∧(b=true→MW R N st out G Sj Am∧x∈Am)∧∀ L,Full R N L→V7 L st x→b=true
theorem MW.refl {st:List cy} {out G:List Nm} (h:UL R N st out G):MW R N st out G st out:=⟨⟨G,h,Nat.le_refl _⟩,fun _=>Iff.rfl,fun _ h=>h⟩
theorem MW.ahead {st Sj:List cy} {out Am G L:List Nm} (h:MW R N st out G Sj Am) {x:Nm} (ha:V7 L st x):V7 L Sj x:=fun z hz=>ha z ((h.one z).1 hz)
theorem Xz {f:Nat→Nm→List cy→List aH→aD→List Nm→Option (Bool×List cy×List aH×aD×List Nm)} {n:Nat} (hf:UM R N ms s f n) {ys:List Nm} (hl:ys.length≤1048576) (hN:∀ y,y∈ys→y∈N) (x:Nm)
  (J:Nm→List cy→List aH→aD→List Nm→Option (Bool×List cy×List aH×aD×List Nm)):
  ∀ m i k st out G,i+m=ys.length→fu N G+m+1≤k→UL R N st out G→N.length < n+G.length→
   ∃ b Sj Am,iter (ts:=jM) (R:=Bool×(List cy)×(List aH)×aD×(List (List UInt8))) k (dZ f J) x ys (ys.length:Int) (i:Int) st ms s out=(cond b (J x Sj ms s Am) (some (false,Sj,ms,s,Am)))∧
    (b=true→MW R N st out G Sj Am∧∀ y,y∈ys.drop i→y∈Am)∧∀ L,Full R N L→(∀ y,y∈ys.drop i→V7 L st y)→b=true:=by
 intro m
 induction m with
 | zero=>
  intro i k st out G h hk hi _;obtain ⟨k,rfl⟩:∃ q,k=q+1:=⟨k-1,by omega⟩;obtain rfl:i=ys.length:=by omega
  refine ⟨true,st,out,?_,fun _=>⟨.refl hi,fun y hy=>by simp at hy⟩,fun _ _ _=>rfl⟩;simp only [iter,dZ,ck,cond_false]<;>rfl
 | succ m ih=>
  intro i k st out G h hk hi hg;obtain ⟨k,rfl⟩:∃ q,k=q+1:=⟨k-1,by omega⟩;have dT:i < ys.length:=by omega
  obtain ⟨b,st1,wk,h1,h2,h3⟩:=hf k ys[i] st out G (by omega) (hN _ (dF dT)) hi hg;rw [List.drop_eq_getElem_cons dT];cases b with
  | false=>
   refine ⟨false,st1,wk,?_,(fun h=>by cases h),fun L hL ha=>h3 L hL (ha _ (List.mem_cons_self ..))⟩;simp only [iter,dZ,cf dT,bM dT,cond_true,bL,bR dT,h1,Option.bind_some]<;>rfl
  | true=>
   obtain ⟨p1,p2⟩:=h2 rfl;obtain ⟨G1,hi1,YQ⟩:=p1.inv;obtain ⟨b,st2,MX,k1,k2,k3⟩:=ih (i+1) k st1 wk G1 (by omega) (by have:=ac2 (N:=N) YQ;omega) hi1 (by omega);refine ⟨b,st2,MX,?_,fun hb=>?_,fun L hL ha=>k3 L hL fun y hy=>p1.ahead (ha y (List.mem_cons_of_mem _ hy))⟩
   ·simp only [iter,dZ,cf dT,bM dT,cond_true,bL,bR dT,h1,Option.bind_some,bQ hl dT];exact k1
   ·obtain ⟨q1,q2⟩:=k2 hb;obtain ⟨G2,UN,V8⟩:=q1.inv;refine ⟨⟨⟨G2,UN,by omega⟩,fun y=>(q1.one y).trans (p1.one y),fun y hy=>q1.ext y (p1.ext y hy)⟩,fun y hy=>?_⟩;rcases List.mem_cons.1 hy with e | e
    ·exact e▸q1.ext _ p2
    ·exact q2 y e
theorem V9 (YR:ms.length≤1048576) (hR:∀ x,x∈N→∀ y,y∈reads ms s.Kind x→y∈N) (hRl:∀ x,(reads ms s.Kind x).length≤1048576) (hNl:N.length≤1048576):∀ n,UM (reads ms s.Kind) N ms s (ey n) n
 | 0=>fun k x st out G _ _ hi hg=>by
  have:=hi.gnd.length_le_of_subset hi.abu;omega
 | n+1=>fun k x st out G hk hx hi hg=>by
  have ih:=V9 YR hR hRl hNl n;have e0:nM (fun p:cy=>seq x p.Key) (fun p:cy=>p.Mu) (0:Int) st=iO x st:=rfl;simp only [ey,e0,share];rcases hi.rng x with h0 | h0 | h0
  ·
   rw [h0];have i1:UL (reads ms s.Kind) N (SA x 1 st) out (x::G):=by
    have hxG:x ∉ G:=fun h=>(hi.g x).1 h h0;refine ⟨fun y=>?_,fun y=>?_,hi.LP,hi.sub,List.nodup_cons.2 ⟨hxG,hi.gnd⟩,fun y hy=>?_,fun y=>?_⟩
    ·by_cases e:y=x
     ·subst e;rw [f_];exact ⟨fun h=>by omega,fun h=>by have:=(hi.two y).2 h;omega⟩
     ·rw [eh e];exact hi.two y
    ·by_cases e:y=x
     ·subst e;rw [f_];exact .inr (.inl rfl)
     ·rw [eh e];exact hi.rng y
    ·rcases List.mem_cons.1 hy with e | e
     ·exact e▸hx
     ·exact hi.abu y e
    ·by_cases e:y=x
     ·subst e;rw [f_];simp
     ·rw [eh e,List.mem_cons];exact ⟨fun h=>(hi.g y).1 (h.resolve_left e),fun h=>.inr ((hi.g y).2 h)⟩
   have hGl:(x::G).length≤N.length:=i1.gnd.length_le_of_subset i1.abu;have hfu:fu N (x::G)+1048578≤fu N G:=abt (by simpa using hGl);have:=ac3 N G;have dq:=Zm (name:=x) (s:=s) (show 4194304≤k by omega) YR
   let J:Nm→List cy→List aH→aD→List Nm→Option (Bool×List cy×List aH×aD×List Nm):=fun v39 v40 v41 v42 v43=>
    aZ (mv (v43.length+([v39]:List (List UInt8)).length) 16) (some (true,(pA (fun p:cy=>seq v39 p.Key) v40 (⟨v39,(2:Int)⟩:cy)),v41,v42,(v43++([v39]:List (List UInt8)))))
   have hrl:=hRl x;obtain ⟨b,st2,MX,k1,k2,k3⟩:=Xz ih hrl (hR x hx) x J (reads ms s.Kind x).length 0 k (SA x 1 st) out (x::G) (by omega) (by omega) i1 (by simp;omega);simp only [dq,Option.bind_some];have e1:(pA (fun p:cy=>seq x p.Key) st (⟨x,(1:Int)⟩:cy))=SA x 1 st:=rfl;have YS:iter (ts:=jM) (R:=Bool×(List cy)×(List aH)×aD×(List (List UInt8))) k (dZ (ey n) J) x (reads ms s.Kind x) ((reads ms s.Kind x).length:Int) (0:Int) (SA x 1 st) ms s out=(cond b (J x st2 ms s MX) (some (false,st2,ms,s,MX))):=k1;cases b with
   | false=>
    refine ⟨false,st2,MX,by rw [show bH 0 1=false from rfl,show bH 0 2=false from rfl];exact YS,(fun h=>by cases h),fun L hL ha=>?_⟩;refine k3 L hL fun y hy z hz=>?_;have dT:=(hL.LP.lt (hL.all x hx) (by simpa using hy)).2;by_cases e:z=x
    ·rw [e];exact dT
    ·rw [eh e] at hz;exact Nat.lt_trans dT (ha z hz)
   | true=>
    obtain ⟨q1,q2⟩:=k2 rfl;obtain ⟨G2,UN,V8⟩:=q1.inv;have hx1:iO x st2=1:=(q1.one x).2 (f_ _ _ _);have hxo:x ∉ MX:=fun h=>by have:=(UN.two x).2 h;omega
    have hlen:MX.length≤1048576:=Nat.le_trans (UN.LP.nd.length_le_of_subset UN.sub) hNl;refine ⟨true,SA x 2 st2,MX++[x],?_,fun _=>⟨⟨⟨G2,⟨fun y=>?_,fun y=>?_,UN.LP.snoc hxo fun y hy=>q2 y (by simpa using hy),fun y hy=>?_,UN.gnd,UN.abu,fun y=>?_⟩,?_⟩,fun y=>?_,fun y hy=>?_⟩,by simp⟩,fun _ _ _=>rfl⟩
    ·rw [show bH 0 1=false from rfl,show bH 0 2=false from rfl];refine YS.trans ?_;show aZ (mv (MX.length+1) 16) _=_;rw [g9 (by omega) (by omega)];rfl
    ·by_cases e:y=x
     ·subst e;rw [f_];simp
     ·rw [eh e,UN.two y];simp [e]
    ·by_cases e:y=x
     ·subst e;rw [f_];exact .inr (.inr rfl)
     ·rw [eh e];exact UN.rng y
    ·rcases List.mem_append.1 hy with h | h
     ·exact UN.sub y h
     ·simp at h;exact h▸hx
    ·by_cases e:y=x
     ·subst e;rw [f_,UN.g y,hx1];simp
     ·rw [eh e];exact UN.g y
    ·simp only [List.length_cons] at V8;omega
    ·by_cases e:y=x
     ·subst e;rw [f_];omega
     ·rw [eh e,q1.one y,eh e]
    ·exact List.mem_append_left _ (q1.ext y hy)
  ·
   rw [h0];exact ⟨false,st,out,rfl,(fun h=>by cases h),fun L _ ha=>absurd (ha x h0) (Nat.lt_irrefl _)⟩
  ·
   rw [h0];exact ⟨true,st,out,rfl,fun _=>⟨.refl hi,(hi.two x).1 h0⟩,fun _ _ _=>rfl⟩
theorem Zo (hw:∀ n,UM R N ms s (ey n) n) {xs:List Nm} (hl:xs.length≤1048576) (hN:∀ y,y∈xs→y∈N) (hNl:N.length≤1048576)
  (J:List aH→aD→List Nm→Option (List Nm×Bool×List aH×aD)):
  ∀ m i k st out G,i+m=xs.length→fu N G+m+1≤k→UL R N st out G→(∀ z,iO z st≠1)→
   ∃ b Sj Am,iter (ts:=sH) (R:=(List (List UInt8))×Bool×(List aH)×aD) k (gK J) xs (xs.length:Int) (i:Int) ms s out st=(cond b (J ms s Am) (some ([],false,ms,s)))∧
    (b=true→MW R N st out G Sj Am∧∀ y,y∈xs.drop i→y∈Am)∧∀ L,Full R N L→b=true:=by
 intro m
 induction m with
 | zero=>
  intro i k st out G h hk hi _;obtain ⟨k,rfl⟩:∃ q,k=q+1:=⟨k-1,by omega⟩;obtain rfl:i=xs.length:=by omega
  refine ⟨true,st,out,?_,fun _=>⟨.refl hi,fun y hy=>by simp at hy⟩,fun _ _=>rfl⟩;simp only [iter,gK,ck,cond_false]<;>rfl
 | succ m ih=>
  intro i k st out G h hk hi hz;obtain ⟨k,rfl⟩:∃ q,k=q+1:=⟨k-1,by omega⟩;have dT:i < xs.length:=by omega
  have:=ac3 N G;obtain ⟨b,st1,wk,h1,h2,h3⟩:=hw k k xs[i] st out G (by omega) (hN _ (dF dT)) hi (by omega);rw [List.drop_eq_getElem_cons dT];cases b with
  | false=>
   refine ⟨false,st1,wk,?_,(fun h=>by cases h),fun L hL=>h3 L hL fun z hz'=>absurd hz' (hz z)⟩;simp only [iter,gK,cf dT,bM dT,cond_true,bL,bR dT,h1,Option.bind_some]<;>rfl
  | true=>
   obtain ⟨p1,p2⟩:=h2 rfl;obtain ⟨G1,hi1,YQ⟩:=p1.inv;obtain ⟨b,st2,MX,k1,k2,k3⟩:=ih (i+1) k st1 wk G1 (by omega) (by have:=ac2 (N:=N) YQ;omega) hi1 fun z hz'=>hz z ((p1.one z).1 hz');refine ⟨b,st2,MX,?_,fun hb=>?_,k3⟩
   ·simp only [iter,gK,cf dT,bM dT,cond_true,bL,bR dT,h1,Option.bind_some,bQ hl dT];exact k1
   ·obtain ⟨q1,q2⟩:=k2 hb;obtain ⟨G2,UN,V8⟩:=q1.inv;refine ⟨⟨⟨G2,UN,by omega⟩,fun y=>(q1.one y).trans (p1.one y),fun y hy=>q1.ext y (p1.ext y hy)⟩,fun y hy=>?_⟩;rcases List.mem_cons.1 hy with e | e
    ·exact e▸q1.ext _ p2
    ·exact q2 y e
theorem UO (l:List aC) (q:List Nm):l.foldl (fun (q:List Nm) f=>q++[f.Name]) q=q++l.map (·.Name):=by
 induction l generalizing q with
 | nil=>simp
 | cons a r ih=>rw [List.foldl_cons,ih];simp
theorem V_ (YR:ms.length≤1048576) (hR:∀ x,x∈names s→∀ y,y∈reads ms s.Kind x→y∈names s) (hRl:∀ x,(reads ms s.Kind x).length≤1048576) (hNl:s.aV.length≤6) {k:Nat} (hk:4194304*5≤k):
  ∃ b row,ug k s ms=some (row,b)∧(b=true→Full (reads ms s.Kind) (names s) row)∧((∃ L,Full (reads ms s.Kind) (names s) L)→b=true):=by
 have ahx:(names s).length≤6:=by simp only [names,List.length_map];exact hNl
 have i0:UL (reads ms s.Kind) (names s) [] [] []:=⟨fun y=>by simp [iO,nM],fun y=>.inl rfl,Dr.nil,(fun y h=>by cases h),List.nodup_nil,(fun y h=>by cases h),fun y=>by simp [iO,nM]⟩
 let J:List aH→aD→List Nm→Option (List Nm×Bool×List aH×aD):=fun v23 v24 v25=>some (v25,true,v23,v24)
 obtain ⟨b,Sj,Am,h1,h2,h3⟩:=Zo (V9 YR hR hRl (by omega)) (by omega) (fun y h=>h) (by omega) J (names s).length 0 k [] [] [] (by omega) (by simp only [fu,List.length_nil];omega) i0 fun z hz=>by simp [iO,nM] at hz
 have dq:lr k (names s) ms s=cond b (some (Am,true,ms,s)) (some ([],false,ms,s)):=by
  unfold lr;simp only [share];exact h1
 have hof:ug k s ms=cond b (some (Am,true)) (some ([],false)):=by
  unfold ug;simp only [share];have h:=fun J:aD→List aH→List Nm→Option (List Nm×Bool)=>fC (S:=List Nm) (x:=s.aV) (f:=fun q f=>q++[f.Name]) (B:=0) (l:=fun k q i=>iter (ts:=AM) (R:=(List (List UInt8))×Bool) k (u7 J) s.aV (s.aV.length:Int) i s ms q)
   (J:=fun q=>J s ms q) (fun i q=>q.length=i)
   (fun k q _=>by simp only [iter,u7,ck,cond_false]<;>rfl)
   (fun k i q hi _ hq=>⟨by
    simp only [iter,u7,cf hi,bM hi,cond_true,bL,bR hi,bQ (show s.aV.length≤1048576 by omega) hi];rw [g9 (by simp;omega) (by omega)];rfl,by simp [hq]⟩) k [] (by omega) rfl
  refine (h _).trans ?_;rw [UO,List.nil_append];change (lr k (names s) ms s).bind _=_;rw [dq];cases b<;>rfl
 cases b with
 | false=>exact ⟨false,[],hof,(fun h=>by cases h),fun ⟨L,hL⟩=>h3 L hL⟩
 | true=>
  obtain ⟨p,q⟩:=h2 rfl;obtain ⟨G',di,_⟩:=p.inv;exact ⟨true,Am,hof,fun _=>⟨di.LP,fun y h=>q y (by simpa using h),fun y h=>di.sub y h⟩,fun _=>rfl⟩
end
theorem Eg:∀ {r:List aC} {q:List Nm},GF q r=true→(r.map (·.Name)).Nodup∧∀ y,y∈r.map (·.Name)→y ∉ q
 | [],_,_=>⟨List.nodup_nil,fun _ h=>by cases h⟩
 | f::r,q,h=>by
  simp only [GF,Bool.and_eq_true,Bool.not_eq_true'] at h;obtain ⟨h1,h2⟩:=h;obtain ⟨h3,h4⟩:=Eg h2;refine ⟨List.nodup_cons.2 ⟨fun hm=>h4 _ hm (by simp),h3⟩,fun y hy hq=>?_⟩;rcases List.mem_cons.1 hy with e | e
  ·have:q.any (fun y=>seq y f.Name)=true:=List.any_eq_true.2 ⟨y,hq,eP.2 e⟩;rw [h1] at this;cases this
  ·exact h4 y e (by simp [hq])
theorem PS:∀ {xs:List aD} {s:aD} {n:Nm},(kinds xs).Nodup→s∈xs→s.Kind=n→xs.find? (fun s=>seq s.Kind n)=some s
 | [],_,_,_,h,_=>by cases h
 | a::r,s,n,hn,hs,e=>by
  simp only [kinds,List.map_cons,List.nodup_cons] at hn;rw [List.find?_cons];rcases List.mem_cons.1 hs with h | h
  ·subst h;rw [show seq s.Kind n=true from eP.2 e]
  ·cases ha:seq a.Kind n with
   | true=>
    have hm:s.Kind∈r.map (·.Kind):=List.mem_map_of_mem h;rw [e,← eP.1 ha] at hm;exact absurd hm hn.1
   | false=>exact PS hn.2 h e
theorem PT {fs:List aC} {n:Nm} (h:ot fs n=true):n∈fs.map (·.Name):=by
 unfold ot Hg at h;cases e:fs.find? fun f=>seq f.Name n with
 | none=>rw [e] at h;cases h
 | some f=>
  have h1:=List.find?_some e;have h2:=List.mem_of_find?_eq_some e;rw [← eP.1 h1];exact List.mem_map_of_mem h2
theorem PU {xs:List aD} {s:aD} {m:aH} (hn:(kinds xs).Nodup) (hs:s∈xs) (hm:ou xs m=true) {x y:Nm} (hy:y∈ov s.Kind x m):y∈names s:=by
 unfold ov at hy;cases h1:seq m.Kind s.Kind with
 | false=>rw [h1] at hy;cases hy
 | true=>
  rw [h1] at hy;cases h2:seq m.Field x with
  | false=>rw [h2] at hy;cases hy
  | true=>
   rw [h2] at hy;simp only [Bool.and_self,cond_true,List.mem_append] at hy;have hf:=PS hn hs (eP.1 h1).symm;unfold ou at hm;rw [hf] at hm;simp only [Kb,Bool.and_eq_true,Bool.or_eq_true] at hm;obtain ⟨_,h4,h5,_⟩:=hm;rcases hy with hy | hy
   ·cases h6:seq m.dk [] with
    | true=>rw [h6] at hy;cases hy
    | false=>
     rw [h6] at hy;simp only [cond_false,List.mem_singleton] at hy;subst hy;exact PT (h4.resolve_left (by rw [h6];exact Bool.false_ne_true))
   ·cases h6:seq m.cR [] with
    | true=>rw [h6] at hy;cases hy
    | false=>
     rw [h6] at hy;simp only [cond_false,List.mem_singleton] at hy;subst hy;exact PT (h5.resolve_left (by rw [h6];exact Bool.false_ne_true))
theorem PV {ms:List aH} {kind x:Nm}:(reads ms kind x).length≤2*ms.length:=by
 induction ms with
 | nil=>simp [reads]
 | cons a r ih=>
  have:=MV kind x a;simp only [reads,List.flatMap_cons,List.length_append,List.length_cons] at *;omega
def gy (xs:List aD) (ms:List aH):Bool:=
 e_ xs&&(b8 (ms.length:Int) 12&&(ms.all (ou xs)&&xs.all fun s=>bH ((vT ms s).length:Int) (s.aV.length:Int)))
theorem Pc {k:Nat} {xs:List aD} {ms:List aH} (hk:4194304*6≤k) (hx:lD aD.sd xs) (hm:lD aH.sd ms):oR k xs ms=some (gy xs ms):=by
 unfold oR gy;have h4:=fun J:List aD→List aH→Option Bool=>gM (R:=Option Bool) (x:=ms) (p:=ou xs) (B:=4194304) (l:=fun k i=>iter (ts:=so) (R:=Bool) k (kr J) xs ms i) (E:=J xs ms) (O:=some false)
  (fun k=>by simp only [iter,kr,ck,cond_false]<;>rfl)
  (fun k i hi hb=>by
   simp only [iter,kr,cf hi,bM hi,cond_true,bL,bR hi,bQ hm.1 hi,UI hb hx (hm.2 _ (dF hi)),Option.bind_some];cases ou xs ms[i]<;>rfl) k (by have:=hm.1;omega)
 have h9:=gM (R:=Option Bool) (x:=xs) (p:=fun s=>bH ((vT ms s).length:Int) (s.aV.length:Int)) (B:=4194304*4) (l:=fun k i=>iter (ts:=sn) (R:=Bool) k (kq (some true)) xs ms i) (E:=some true) (O:=some false)
  (fun k=>by simp only [iter,kq,ck,cond_false]<;>rfl)
  (fun k i hi hb=>by
   simp only [iter,kq,cf hi,bM hi,cond_true,bL,bR hi,bQ hx.1 hi,V6 hb hm.1 (hx.2 _ (dF hi)).2.1,Option.bind_some];cases bH ((vT ms xs[i]).length:Int) (xs[i].aV.length:Int)<;>rfl) k (by have:=hx.1;omega)
 simp only [share,MQ hx (show 4194304*4≤k by omega),Option.bind_some,cL];cases e_ xs with
 | false=>rfl
 | true=>
  cases b8 (ms.length:Int) 12 with
  | false=>rfl
  | true=>
   refine (h4 _).trans ?_;cases ms.all (ou xs) with
   | false=>rfl
   | true=>exact h9.trans (by cases xs.all fun s=>bH ((vT ms s).length:Int) (s.aV.length:Int)<;>rfl)
theorem An {k:Nat} {xs:List aD} {ms:List aH} (hk:4194304*7≤k) (hx:lD aD.sd xs) (hm:lD aH.sd ms):ig k xs ms=some (gy xs ms):=by
 unfold ig gy;have h4:=fun J:List aD→List aH→Option Bool=>gM (R:=Option Bool) (x:=ms) (p:=ou xs) (B:=4194304) (l:=fun k i=>iter (ts:=sI) (R:=Bool) k (kA J) xs ms ms (ms.length:Int) i) (E:=J xs ms) (O:=some false)
  (fun k=>by simp only [iter,kA,ck,cond_false]<;>rfl)
  (fun k i hi hb=>by
   simp only [iter,kA,share,cf hi,bM hi,cond_true,bL,bR hi,E7 hb hx.1,Option.bind_some,ou];rw [bQ hm.1 hi];rcases eJ (fun s:aD=>seq s.Kind ms[i].Kind) xs with ⟨h1,h2⟩ | ⟨j,hj,h1,h2,_⟩
   ·rw [h1,h2];rfl
   ·rw [h1,h2,dy (by omega),bM hj,bR hj,UJ hb (hx.2 _ (dF hj)).2 (hm.2 _ (dF hi))];simp only;cases Kb xs[j].aV ms[i]<;>rfl) k (by have:=hm.1;omega)
 simp only [share,yJ hx (show 4194304*5≤k by omega),Option.bind_some,cL];cases sZ:e_ xs with
 | false=>rfl
 | true=>
  cases YR:b8 (ms.length:Int) 12 with
  | false=>rfl
  | true=>
   refine (h4 _).trans ?_;cases ox:ms.all (ou xs) with
   | false=>rfl
   | true=>
    simp only [e_,Bool.and_eq_true,List.all_eq_true] at sZ ox;obtain ⟨hx6,agA,agB⟩:=sZ;have AA:=PJ agA;have ahy:=oq YR;have h11:=gM (R:=Option Bool) (x:=xs) (p:=fun s=>bH ((vT ms s).length:Int) (s.aV.length:Int)) (B:=4194304*5) (l:=fun k i=>iter (ts:=rG) (R:=Bool) k (jz (some true)) ms xs (xs.length:Int) i) (E:=some true) (O:=some false)
     (fun k=>by simp only [iter,jz,ck,cond_false]<;>rfl)
     (fun k i hi hb=>by
      have hs:=agB _ (dF hi);simp only [o8,Bool.and_eq_true] at hs;have h6:=oq hs.1;obtain ⟨b,row,h1,h2,h3⟩:=V_ (ms:=ms) (s:=xs[i]) hm.1
       (fun x _ y hy=>by
        obtain ⟨m,hm1,hm2⟩:=List.mem_flatMap.1 hy;exact PU AA (dF hi) (ox m hm1) hm2)
       (fun x=>by have:=PV (ms:=ms) (kind:=xs[i].Kind) (x:=x);omega) (by omega) hb
      have ae2:=Zn (ms:=ms) (s:=xs[i]) (Eg hs.2.2).1;have eb:bH ((vT ms xs[i]).length:Int) (xs[i].aV.length:Int)=b:=by
       cases b with
       | true=>
        have:=ae2.2 ⟨row,h2 rfl⟩;simp only [bH,beq_iff_eq];omega
       | false=>
        simp only [bH,beq_eq_false_iff_ne];intro h;have:=h3 (ae2.1 (by omega));cases this
      simp only [iter,jz,cf hi,bM hi,cond_true,bL,bR hi,h1,Option.bind_some,bQ hx.1 hi,eb];cases b<;>rfl) k (by have:=hx.1;omega)
    exact h11.trans (by cases xs.all fun s=>bH ((vT ms s).length:Int) (s.aV.length:Int)<;>rfl)
def C5 (w:aL):Bool:=gy w.cg w.iN&&Iv w.dX
theorem SB {k:Nat} {w:aL} (hk:4194304*6≤k) (hw:w.sd):su k w=some (C5 w):=by
 unfold su;rw [Pc hk hw.1 hw.2.1,O9 (by omega) hw.2.2];unfold C5;cases gy w.cg w.iN<;>rfl
theorem SC {k:Nat} {w:aL} (hk:4194304*7≤k) (hw:w.sd):rU k w=some (C5 w):=by
 unfold rU;rw [An hk hw.1 hw.2.1,O_ (by omega) hw.2.2];unfold C5;cases gy w.cg w.iN<;>rfl
section
variable {α R S:Type} {x:List α} {B:Nat}
theorem QS (g:Nat→S) {l:Nat→S→Int→R} {E:R} (he:∀ k,l (k+1) (g x.length) (x.length:Int)=E)
  (h:∀ k i (hi:i < x.length),B≤k→l (k+1) (g i) (i:Int)=l k (g (i+1)) ((i+1:Nat):Int)) (k:Nat) (hk:B+x.length+1≤k):l k (g 0) 0=E:=by
 have go:∀ m i k,i+m=x.length→B+m+1≤k→l k (g i) (i:Int)=E:=by
  intro m
  induction m with
  | zero=>
   intro i k h1 h2;obtain rfl:i=x.length:=by omega
   obtain ⟨k,rfl⟩:∃ j,k=j+1:=⟨k-1,by omega⟩;exact he k
  | succ m ih=>
   intro i k h1 h2;obtain ⟨k,rfl⟩:∃ j,k=j+1:=⟨k-1,by omega⟩;rw [h k i (by omega) (by omega)];exact ih (i+1) k (by omega) (by omega)
 exact go x.length 0 k (by omega) (by omega)
end
def opt {β R:Type} (o:Option β) (O:β→R) (E:R):R:=match o with
 | some c=>O c
 | none=>E
theorem SD {α β R:Type} {x:List α} {B:Nat} {g:Nat→α→Option β} {l:Nat→Int→R} {E:R} {O:β→R} (he:∀ k,l (k+1) (x.length:Int)=E)
  (h:∀ k i (hi:i < x.length),B≤k→l (k+1) (i:Int)=opt (g i x[i]) O (l k ((i+1:Nat):Int))) (k:Nat) (hk:B+x.length+1≤k):l k 0=opt (first g x 0) O E:=by
 have:=He (g:=g) (l:=l) (E:=E) (O:=O) he (fun k i hi hb=>by rw [h k i hi hb];cases g i x[i]<;>rfl) k hk;rw [this];cases first g x 0<;>rfl
def LQ (o:aA):Prop:=o.aR.length≤1048576∧o.b7.length≤1048576
theorem L_ {o:aA} (h:o.sd):LQ o:=⟨h.2.2.2.1.1,h.2.2.2.2.2.1.1⟩
theorem Kc {k:Nat} {o:aA} (h:LQ o):mY k o=some (o.Kind,o.Name,o.aX,o.Ending,o.Version,o.aR,o.b7):=by
 unfold mY;have h1:=h.1;have h2:=h.2;rw [g9 (by simp;omega) (by omega),g9 (by simp;omega) (by omega)];rfl
theorem yL (n:Nat):leq n n=true:=by simp [leq]
theorem Iz {k:Nat} {x:List Nm} (h:x.length≤1048576):lu k x=some x:=by
 unfold lu;cases x with
 | nil=>rfl
 | cons a r=>
  rw [Wa h (by omega),show bH ((a::r).length:Int) 0=false by simp only [List.length_cons,bH,beq_eq_false_iff_ne];omega,List.length_replicate,Int.toNat_natCast,yL];rfl
theorem Lb {k:Nat} {x:List Nm} (h:x.length≤1048576):od k x=some x:=by
 unfold od;cases x with
 | nil=>rfl
 | cons a r=>
  rw [Wa h (by omega),show bH ((a::r).length:Int) 0=false by simp only [List.length_cons,bH,beq_eq_false_iff_ne];omega,List.length_replicate,Int.toNat_natCast,yL];rfl
theorem adA {k:Nat} {o:aA} (h:LQ o):jC k o=some o:=by
 unfold jC;rw [Lb h.1,Lb h.2];rfl
theorem QT {k:Nat} {o:aA} (h:LQ o):dI k o=some (o.Kind,o.Name,o.aX,o.Ending,o.Version,o.aR,o.b7):=by
 unfold dI;rw [Iz h.1,Iz h.2];rfl
theorem Lc {k:Nat} {xs:List aD} (o:aA) (hk:4194304≤k) (hx:xs.length≤1048576):mN k xs o.Kind o.Name o.aX o.Ending o.Version o.aR o.b7=some ((cw xs o).getD [],(cw xs o).isSome,o.aR,o.b7):=by
 unfold mN cw;rw [E7 hk hx];simp only [share,Option.bind_some];rcases eJ (fun s:aD=>seq s.Kind o.Kind) xs with ⟨h1,h2⟩ | ⟨j,hj,h1,h2,_⟩
 ·rw [h1,h2];rfl
 ·rw [h1,h2,dy (by omega),bM hj,bR hj,Sx (o.aR.length:Int)];simp only;cases bH (xs[j].aV.length:Int) (o.aR.length:Int)<;>rfl
def SE (d v:Nm):Nm:=cond (seq v []) d v
def iT (fs:List aC) (vs:List Nm) (i:Nat):List Nm:=vs.mapIdx fun j v=>cond (decide (j < i)) (SE (fs.getD j default).Default v) v
theorem B9 (fs:List aC) (vs:List Nm) (i:Nat):(iT fs vs i).length=vs.length:=by simp [iT]
theorem SF (fs:List aC) (vs:List Nm):iT fs vs 0=vs:=by
 refine List.ext_getElem (by simp [iT]) fun j h1 h2=>?_;simp [iT]
theorem MY {fs:List aC} {vs:List Nm} {i:Nat} (hi:i < vs.length):(iT fs vs i)[i]'(by rw [B9];exact hi)=vs[i]:=by simp [iT]
theorem MZ {fs:List aC} {vs:List Nm} {i:Nat} (hi:i < vs.length) (hf:i < fs.length):oI (iT fs vs i) (i:Int) (SE fs[i].Default vs[i])=iT fs vs (i+1):=by
 refine List.ext_getElem (by simp [iT,oI]) fun j h1 h2=>?_;simp only [oI,Int.toNat_natCast,List.getElem_set,iT,List.getElem_mapIdx];by_cases e:i=j
 ·subst e;rw [if_pos rfl,decide_eq_true (show i < i+1 by omega),J9 hf];rfl
 ·rw [if_neg e]
  congr 1
  exact decide_eq_decide.2 (by omega)
theorem Ld {fs:List aC} {vs:List Nm} {i:Nat} (hi:i < vs.length) (h:seq vs[i] []=false):iT fs vs i=iT fs vs (i+1):=by
 refine List.ext_getElem (by simp [iT]) fun j h1 h2=>?_;simp only [iT,List.getElem_mapIdx];by_cases e:i=j
 ·subst e;rw [decide_eq_true (show i < i+1 by omega),decide_eq_false (show ¬ i < i by omega)];simp only [cond_true,cond_false,SE,h]
 ·congr 1
  exact decide_eq_decide.2 (by omega)
def Eh (xs:List aD) (o:aA):aA:=match cw xs o with
 | some fs=>⟨o.Kind,o.Name,o.aX,iT fs o.aR fs.length,o.Ending,o.b7,o.Version⟩
 | none=>o
theorem Kd (xs:List aD) (o:aA):(Eh xs o).aR.length=o.aR.length∧(Eh xs o).b7=o.b7∧(Eh xs o).Kind=o.Kind:=by
 unfold Eh;cases cw xs o with
 | none=>exact ⟨rfl,rfl,rfl⟩
 | some fs=>exact ⟨B9 ..,rfl,rfl⟩
theorem abv (xs:List aD) (o:aA):cw xs (Eh xs o)=cw xs o:=by
 have h:=Kd xs o
 conv=>lhs;unfold cw
 rw [h.1,h.2.2];rfl
theorem QU {k:Nat} {xs:List aD} {o:aA} (hk:4194304*2≤k) (hx:xs.length≤1048576) (ho:LQ o):zH k xs o=some (Eh xs o):=by
 unfold zH Eh;rw [Kc ho];simp only [Option.bind_some,sY (show 4194304≤k by omega) hx,share];cases hf:cw xs o with
 | none=>rfl
 | some fs=>
  have hl:=(jD hf).1;have ho1:=ho.1;simp only [Option.isSome_some,Option.getD_some,Bool.not_true,cond_false];have h:=QS (R:=Option aA) (x:=fs) (B:=0) (iT fs o.aR) (l:=fun k vs i=>iter (ts:=zG) (R:=aA) k (sw (fun (v45:aA) (v46:List UInt8) (v47:List UInt8) (v48:List UInt8) (v49:Bool) (v50:Int) (v51:List (List UInt8)) (v52:List (List UInt8))=>some (⟨v46,v47,v48,v51,v49,v52,v50⟩:aA))) fs i (⟨([]:List UInt8),([]:List UInt8),([]:List UInt8),[],false,[],(0:Int)⟩:aA) o.Kind o.Name o.aX o.Ending o.Version vs o.b7)
   (E:=some ⟨o.Kind,o.Name,o.aX,iT fs o.aR fs.length,o.Ending,o.b7,o.Version⟩)
   (fun k=>by simp only [iter,sw,ck,cond_false]<;>rfl)
   (fun k i hi _=>by
    have di:i < (iT fs o.aR i).length:=by rw [B9];omega
    have UP:i < o.aR.length:=by omega
    simp only [iter,sw,share,cf hi,bM hi,bM di,cond_true,bL,bR hi,bR di,bQ (show fs.length≤1048576 by omega) hi];rw [MY UP];cases hv:seq o.aR[i] [] with
    | true=>
     rw [← MZ UP hi];simp only [SE,hv,cond_true]<;>rfl
    | false=>rw [← Ld UP hv];rfl) k (by omega)
  rw [SF] at h;exact h
theorem UQ {k:Nat} {xs:List aD} {o:aA} (hk:4194304*5≤k) (hx:lD aD.sd xs) (ho:LQ o):u9 k xs o=some (cond (e_ xs) (Eh xs o) o):=by
 unfold u9 Eh;rw [QT ho];simp only [Option.bind_some,Lc o (show 4194304≤k by omega) hx.1,share,yL,bL,yJ hx hk];cases hf:cw xs o with
 | none=>cases e_ xs<;>rfl
 | some fs=>
  have hl:=(jD hf).1;have ho1:=ho.1;simp only [Option.isSome_some,Option.getD_some,Bool.not_true,cond_false];cases e_ xs with
  | false=>rfl
  | true=>
   have h:=QS (R:=Option aA) (x:=fs) (B:=0) (iT fs o.aR) (l:=fun k vs i=>iter (ts:=w_) (R:=aA) k (o4 (fun (v72:List UInt8) (v73:List UInt8) (v74:List UInt8) (v75:Bool) (v76:Int) (v77:aA) (v78:List (List UInt8)) (v79:List (List UInt8))=>some (⟨v72,v73,v74,v78,v75,v79,v76⟩:aA))) fs (fs.length:Int) i o.Kind o.Name o.aX o.Ending o.Version (⟨([]:List UInt8),([]:List UInt8),([]:List UInt8),[],false,[],(0:Int)⟩:aA) vs o.b7)
    (E:=some ⟨o.Kind,o.Name,o.aX,iT fs o.aR fs.length,o.Ending,o.b7,o.Version⟩)
    (fun k=>by simp only [iter,o4,ck,cond_false]<;>rfl)
    (fun k i hi _=>by
     have di:i < (iT fs o.aR i).length:=by rw [B9];omega
     have UP:i < o.aR.length:=by omega
     simp only [iter,o4,share,cf hi,bM hi,bM di,cond_true,bL,bR hi,bR di,bQ (show fs.length≤1048576 by omega) hi];rw [MY UP];cases hv:seq o.aR[i] [] with
     | true=>
      rw [← MZ UP hi];simp only [SE,hv,cond_true]<;>rfl
     | false=>rw [← Ld UP hv];rfl) k (by omega)
   rw [SF] at h;exact h
def C6 (fs:List aC):List Nm:=fs.map (·.Name)
def OQ (fs:List aC) (n:Nm):Nat:=(uB (fun f=>seq f.Name n) fs 0).toNat
def ng (fs:List aC) (vs:List Nm) (n:Nm):Nm:=vs.getD (OQ fs n) []
theorem Le {fs:List aC} {n:Nm} (h:n∈C6 fs):uB (fun f=>seq f.Name n) fs 0=(OQ fs n:Int)∧∃ hj:OQ fs n < fs.length,fs[OQ fs n].Name=n:=by
 unfold OQ;rcases eJ (fun f:aC=>seq f.Name n) fs with ⟨h1,h2⟩ | ⟨j,hj,h1,h2,h3⟩
 ·obtain ⟨f,hf,e⟩:=List.mem_map.1 h;have:=List.find?_eq_none.1 h2 f hf;rw [eP.2 e] at this;exact absurd rfl this
 ·rw [h1,Int.toNat_natCast];exact ⟨rfl,hj,eP.1 h3⟩
theorem adB {fs:List aC} {a b:Nm} (ha:a∈C6 fs) (hb:b∈C6 fs) (h:OQ fs a=OQ fs b):a=b:=by
 obtain ⟨h1,e1⟩:=(Le ha).2;obtain ⟨h2,e2⟩:=(Le hb).2;rw [← e1,← e2];simp only [h]
theorem ae3 {fs:List aC} (hn:(C6 fs).Nodup) {i:Nat} (hi:i < fs.length):OQ fs fs[i].Name=i:=by
 have hm:fs[i].Name∈C6 fs:=List.mem_map_of_mem (dF hi);obtain ⟨h1,e1⟩:=(Le hm).2;have h2:(C6 fs)[OQ fs fs[i].Name]'(by simpa [C6] using h1)=(C6 fs)[i]'(by simpa [C6] using hi):=by simpa [C6] using e1
 exact (List.getElem_inj hn).1 h2
theorem abw {fs:List aC} {vs:List Nm} {x y v:Nm} (hl:vs.length=fs.length) (hx:x∈C6 fs) (hy:y∈C6 fs):ng fs (vs.set (OQ fs x) v) y=if y=x then v else ng fs vs y:=by
 obtain ⟨h1,-⟩:=(Le hx).2;unfold ng;by_cases e:y=x
 ·subst e;rw [if_pos rfl];simp [List.getD,show OQ fs y < vs.length by omega]
 ·rw [if_neg e];have:OQ fs x≠OQ fs y:=fun h=>e (adB hy hx h.symm);simp [List.getD,List.getElem?_set,this]
theorem set_self {fs:List aC} {vs:List Nm} {x:Nm} (hl:vs.length=fs.length) (hx:x∈C6 fs):vs.set (OQ fs x) (ng fs vs x)=vs:=by
 obtain ⟨h1,-⟩:=(Le hx).2;refine List.ext_getElem (by simp) fun j h2 h3=>?_;rw [List.getElem_set];by_cases e:OQ fs x=j
 ·rw [if_pos e];subst e;exact J9 h3
 ·rw [if_neg e]
def Lf (kind name:Nm) (e:Nm→Nm) (m:aH):Option Nm:=
 cond (seq m.Kind kind&&(seq m.Field name&&(seq m.dk []||seq (e m.dk) m.Is))) (cond (seq m.cR []) (some m.tl) (cond (seq (e m.cR) []) none (some (e m.cR)))) none
def dec (ms:List aH) (kind:Nm) (e:Nm→Nm) (name:Nm):Option Nm:=first (fun _ m=>Lf kind name e m) ms 0
theorem XA {kind name:Nm} {e e':Nm→Nm} {m:aH} (h:∀ y,y∈ov kind name m→e y=e' y):Lf kind name e m=Lf kind name e' m:=by
 unfold Lf ov at *;cases h1:seq m.Kind kind with
 | false=>rfl
 | true=>
  cases h2:seq m.Field name with
  | false=>rfl
  | true=>
   rw [h1,h2] at h;simp only [Bool.and_self,cond_true,List.mem_append] at h;have hw:(seq m.dk []||seq (e m.dk) m.Is)=(seq m.dk []||seq (e' m.dk) m.Is):=by
    cases h3:seq m.dk [] with
    | true=>rfl
    | false=>rw [h m.dk (.inl (by rw [h3];simp))]
   have hf:(cond (seq m.cR []) (some m.tl) (cond (seq (e m.cR) []) none (some (e m.cR))))=(cond (seq m.cR []) (some m.tl) (cond (seq (e' m.cR) []) none (some (e' m.cR)))):=by
    cases h3:seq m.cR [] with
    | true=>rfl
    | false=>rw [h m.cR (.inr (by rw [h3];simp))]
   rw [hw,hf]
theorem QV {ms:List aH} {kind name:Nm} {e e':Nm→Nm} (h:∀ y,y∈reads ms kind name→e y=e' y):dec ms kind e name=dec ms kind e' name:=by
 unfold dec;refine PI ms 0 fun j a ha=>XA fun y hy=>h y ?_;exact List.mem_flatMap.2 ⟨a,List.mem_of_getElem? ha,hy⟩
def C7 (fs:List aC) (ms:List aH) (kind:Nm) (vs:List Nm) (name:Nm):List Nm:=
 vs.set (OQ fs name) ((dec ms kind (ng fs vs) name).getD (ng fs vs name))
def Ei (fs:List aC) (ms:List aH) (kind:Nm) (row:List Nm) (vs:List Nm):List Nm:=row.foldl (C7 fs ms kind) vs
theorem E8 (fs:List aC) (ms:List aH) (kind:Nm) (vs:List Nm) (name:Nm):(C7 fs ms kind vs name).length=vs.length:=by simp [C7]
theorem yM (fs:List aC) (ms:List aH) (kind:Nm):∀ (row vs:List Nm),(Ei fs ms kind row vs).length=vs.length
 | [],_=>rfl
 | a::r,vs=>by
  have:=yM fs ms kind r (C7 fs ms kind vs a);rw [E8] at this;exact this
structure Zp (fs:List aC) (ms:List aH) (kind:Nm) (vs:List Nm) (pre v:List Nm):Prop where
 len:v.length=fs.length
 eq:∀ n,n∈C6 fs→ng fs v n=if n∈pre then (dec ms kind (ng fs v) n).getD (ng fs vs n) else ng fs vs n
theorem XB {fs:List aC} {ms:List aH} {kind:Nm} {vs:List Nm} {row:List Nm} (ht:Dr (reads ms kind) row) (hs:∀ y,y∈row→y∈C6 fs) {pre post v:List Nm} {x:Nm} (e:row=pre++x::post) (h:Zp fs ms kind vs pre v):Zp fs ms kind vs (pre++[x]) (C7 fs ms kind v x):=by
 have hx:x∈C6 fs:=hs x (by rw [e];simp);have AA:=ht.nd;rw [e] at AA;have hxp:x ∉ pre:=fun hm=>(List.nodup_append.1 AA).2.2 x hm x (by simp) rfl;have UK:∀ y,y∈pre→y∈C6 fs:=fun y hy=>hs y (by rw [e];simp [hy]);have hrx:=ht.rd pre x post e;have hrp:∀ n,n∈pre→∀ y,y∈reads ms kind n→y∈pre:=fun n hn y hy=>by
  obtain ⟨p,q,e'⟩:=List.append_of_mem hn;have:=ht.rd p n (q++x::post) (by rw [e,e'];simp) y hy;rw [e'];simp [this]
 have UR:∀ y,y∈C6 fs→ng fs (C7 fs ms kind v x) y=if y=x then (dec ms kind (ng fs v) x).getD (ng fs v x) else ng fs v y:=fun y hy=>abw h.len hx hy
 have PW:∀ y,y∈pre→ng fs (C7 fs ms kind v x) y=ng fs v y:=fun y hy=>by
  rw [UR y (UK y hy),if_neg (show ¬ y=x from fun e2=>by subst e2;exact hxp hy)]
 refine ⟨by rw [E8];exact h.len,fun n hn=>?_⟩;by_cases hnx:n=x
 ·subst hnx;rw [if_pos (by simp),UR n hn,if_pos rfl,h.eq n hn,if_neg hxp,QV fun y hy=>PW y (hrx y hy)]
 ·rw [UR n hn,if_neg hnx,h.eq n hn];by_cases hp:n∈pre
  ·rw [if_pos hp,if_pos (by simp [hp]),QV fun y hy=>PW y (hrp n hp y hy)]
  ·rw [if_neg hp,if_neg (by simp [hp,hnx])]
theorem PX {fs:List aC} {ms:List aH} {kind:Nm} {vs:List Nm} {row:List Nm} (ht:Dr (reads ms kind) row) (hs:∀ y,y∈row→y∈C6 fs):∀ (post pre v:List Nm),row=pre++post→Zp fs ms kind vs pre v→Zp fs ms kind vs row (Ei fs ms kind post v)
 | [],pre,v,e,h=>by
  rw [List.append_nil] at e;rw [e];exact h
 | x::post,pre,v,e,h=>PX ht hs post (pre++[x]) (C7 fs ms kind v x) (by rw [e];simp) (XB ht hs e h)
theorem SG {fs:List aC} {ms:List aH} {kind:Nm} {vs:List Nm} {row:List Nm} (hl:vs.length=fs.length) (hL:Full (reads ms kind) (C6 fs) row):Zp fs ms kind vs row (Ei fs ms kind row vs):=
 PX hL.LP hL.sub row [] vs rfl ⟨hl,fun n _=>by simp⟩
theorem SH {fs:List aC} {ms:List aH} {kind:Nm} {vs:List Nm} {r1 r2:List Nm} (hn:(C6 fs).Nodup) (hl:vs.length=fs.length) (h1:Full (reads ms kind) (C6 fs) r1) (h2:Full (reads ms kind) (C6 fs) r2):Ei fs ms kind r1 vs=Ei fs ms kind r2 vs:=by
 have i1:=SG hl h1;have i2:=SG hl h2;have key:∀ m n,n∈r1→r1.idxOf n < m→ng fs (Ei fs ms kind r1 vs) n=ng fs (Ei fs ms kind r2 vs) n:=by
  intro m
  induction m with
  | zero=>intro n _ h;omega
  | succ m ih=>
   intro n hm hi;have hN:=h1.sub n hm;rw [i1.eq n hN,i2.eq n hN,if_pos hm,if_pos (h2.all n hN),QV fun y hy=>ih y (h1.LP.lt hm hy).1 (by have:=(h1.LP.lt hm hy).2;omega)]
 refine List.ext_getElem (by rw [yM,yM]) fun i h3 h4=>?_;have hi:i < fs.length:=by rw [yM] at h3;omega
 have hN:fs[i].Name∈C6 fs:=List.mem_map_of_mem (dF hi);have:=key _ fs[i].Name (h1.all _ hN) (Nat.lt_succ_self _);unfold ng at this;rw [ae3 hn hi,J9 h3,J9 h4] at this;exact this
theorem SI {ms:List aH} {s:aD} (h:(vT ms s).length=s.aV.length):Full (reads ms s.Kind) (names s) (vT ms s):=by
 obtain ⟨h1,h2⟩:=PQ ms s;refine ⟨h1,fun y hy=>?_,h2⟩;cases hc:Ef (vT ms s) y with
 | true=>exact yK.1 hc
 | false=>
  have hny:y ∉ vT ms s:=fun hm=>by rw [yK.2 hm] at hc;cases hc
  have h3:(y::vT ms s).Nodup:=List.nodup_cons.2 ⟨hny,h1.nd⟩;have h4:=h3.length_le_of_subset (l₂:=names s) fun z hz=>by
   rcases List.mem_cons.1 hz with e | e
   ·exact e▸hy
   ·exact h2 z e
  simp only [List.length_cons,names,List.length_map] at h4;omega
theorem GG {xs:List aD} {ms:List aH} (h:gy xs ms=true) {s:aD} (hs:s∈xs):
  (C6 s.aV).Nodup∧s.aV.length≤6∧Full (reads ms s.Kind) (C6 s.aV) (vT ms s)∧(∀ x y,y∈reads ms s.Kind x→y∈C6 s.aV)∧ms.length≤12:=by
 simp only [gy,e_,Bool.and_eq_true,List.all_eq_true] at h;obtain ⟨⟨h1,h2,h3⟩,h4,h5,h6⟩:=h;have IA:=h3 s hs;simp only [o8,Bool.and_eq_true] at IA;have h7:=h6 s hs;simp only [bH,beq_iff_eq] at h7;refine ⟨(Eg IA.2.2).1,by have:=oq IA.1;omega,SI (by omega),fun x y hy=>?_,by have:=oq h4;omega⟩;obtain ⟨m,hm1,hm2⟩:=List.mem_flatMap.1 hy;exact PU (PJ h2) hs (h5 m hm1) hm2
def Lg (xs:List aD) (ms:List aH) (o:aA):aA:=match xs.find? fun s=>seq s.Kind o.Kind with
 | some s=>cond (bH (s.aV.length:Int) (o.aR.length:Int)) ⟨o.Kind,o.Name,o.aX,Ei s.aV ms o.Kind (vT ms s) o.aR,o.Ending,o.b7,o.Version⟩ o
 | none=>o
def xD (xs:List aD) (ms:List aH) (o:aA):aA:=Lg xs ms (Eh xs o)
theorem E9 {k:Nat} {fs:List aC} {n:Nm} (hk:4194304≤k) (hx:fs.length≤1048576) (h:n∈C6 fs):eW k fs n=some (OQ fs n:Int):=by
 rw [J_ hk hx,(Le h).1]
theorem PY {k:Nat} {fs:List aC} {n:Nm} (hk:4194304≤k) (hx:fs.length≤1048576) (h:n∈C6 fs):jy k fs n=some (OQ fs n:Int):=by
 rw [Ka hk hx,(Le h).1]
theorem PZ {fs:List aC} {vs:List Nm} {n:Nm} (hl:vs.length=fs.length) (h:n∈C6 fs):bW (OQ fs n:Int) vs.length=true:=bM (by rw [hl];exact (Le h).2.1)
theorem Wb (fs:List aC) (vs:List Nm) (n:Nm):nth ([]:List UInt8) vs (OQ fs n:Int)=ng fs vs n:=rfl
theorem Lh {kind name:Nm} {m:aH} (h1:seq m.Kind kind=true) (h2:seq m.Field name=true) (h3:seq m.dk []=false):m.dk∈ov kind name m:=by
 simp [ov,h1,h2,h3]
theorem Li {kind name:Nm} {m:aH} (h1:seq m.Kind kind=true) (h2:seq m.Field name=true) (h3:seq m.cR []=false):m.cR∈ov kind name m:=by
 simp [ov,h1,h2,h3]
theorem mem_reads {ms:List aH} {kind name y:Nm} {i:Nat} (hi:i < ms.length) (h:y∈ov kind name ms[i]):y∈reads ms kind name:=List.mem_flatMap.2 ⟨_,dF hi,h⟩
theorem SJ {fs:List aC} {ms:List aH} {o:aA} {name:Nm} (hx:fs.length≤1048576) (hm:ms.length≤1048576) (hl:o.aR.length=fs.length) (hR:∀ y,y∈reads ms o.Kind name→y∈C6 fs) (J:List aC→List UInt8→aA→Option (List UInt8)) {k:Nat} (hk:4194304*2≤k):
  iter (ts:=fX) (R:=List UInt8) k (eY J) fs ms name o (0:Int)=opt (dec ms o.Kind (ng fs o.aR) name) some (J fs name o):=by
 exact SD (R:=Option (List UInt8)) (x:=ms) (g:=fun _ m=>Lf o.Kind name (ng fs o.aR) m) (B:=4194304) (l:=fun k i=>iter (ts:=fX) (R:=List UInt8) k (eY J) fs ms name o i) (E:=J fs name o) (O:=some)
  (fun k=>by simp only [iter,eY,ck,cond_false]<;>rfl)
  (fun k i hi hb=>by
   simp only [iter,eY,share,cf hi,bM hi,cond_true,bL,bR hi,bQ hm hi,Lf];cases h1:seq ms[i].Kind o.Kind with
   | false=>rfl
   | true=>
    cases h2:seq ms[i].Field name with
    | false=>rfl
    | true=>
     have hw:=fun h3=>hR _ (mem_reads hi (Lh h1 h2 h3));have hf:=fun h3=>hR _ (mem_reads hi (Li h1 h2 h3));have from_:∀ X:Option (List UInt8),(cond (seq ms[i].cR []) (some ms[i].tl) ((eW k fs ms[i].cR).bind fun v=>aZ (bW v o.aR.length) (cond (!seq (nth ([]:List UInt8) o.aR v) []) (some (nth ([]:List UInt8) o.aR v)) X)))
       = opt (cond (seq ms[i].cR []) (some ms[i].tl) (cond (seq (ng fs o.aR ms[i].cR) []) none (some (ng fs o.aR ms[i].cR)))) some X:=fun X=>by
      cases h3:seq ms[i].cR [] with
      | true=>rfl
      | false=>
       rw [E9 hb hx (hf h3)];simp only [Option.bind_some,cond_false,PZ hl (hf h3),bL,Wb];cases seq (ng fs o.aR ms[i].cR) []<;>rfl
     cases h3:seq ms[i].dk [] with
     | true=>
      simp only [Bool.not_true,cond_false,Bool.true_and,Bool.true_or,cond_true];exact from_ (iter (ts:=fX) (R:=List UInt8) k (eY J) fs ms name o ((i+1:Nat):Int))
     | false=>
      rw [E9 hb hx (hw h3)];simp only [Option.bind_some,Bool.not_true,Bool.not_false,cond_true,cond_false,PZ hl (hw h3),bL,Wb,Bool.true_and,Bool.false_or];cases seq (ng fs o.aR ms[i].dk) ms[i].Is with
      | false=>rfl
      | true=>exact from_ (iter (ts:=fX) (R:=List UInt8) k (eY J) fs ms name o ((i+1:Nat):Int))) k (by omega)
theorem SK {k:Nat} {fs:List aC} {ms:List aH} {o:aA} {name:Nm} (hk:4194304*2≤k) (hx:fs.length≤1048576) (hm:ms.length≤1048576) (hl:o.aR.length=fs.length) (hn:name∈C6 fs) (hR:∀ y,y∈reads ms o.Kind name→y∈C6 fs):
  sx k fs ms o name=some ((dec ms o.Kind (ng fs o.aR) name).getD (ng fs o.aR name)):=by
 unfold sx;simp only [share];rw [SJ hx hm hl hR _ hk];cases dec ms o.Kind (ng fs o.aR) name with
 | some c=>rfl
 | none=>
  simp only [E9 (show 4194304≤k by omega) hx hn,Option.bind_some,PZ hl hn,bL,Wb];rfl
theorem QW {k:Nat} {xs:List aD} {ms:List aH} {o:aA} (hk:4194304*4≤k) (hx:xs.length≤1048576) (ho:LQ o) (o9:gy xs ms=true):uU k xs ms o=some (Lg xs ms o):=by
 unfold uU Lg;rw [Kc ho];simp only [Option.bind_some,sY (show 4194304≤k by omega) hx,share,cw,E5 (show 4194304≤k by omega) hx,E6];rcases eJ (fun s:aD=>seq s.Kind o.Kind) xs with ⟨h1,h2⟩ | ⟨j,hj,h1,h2,h3⟩
 ·rw [h1,h2];rfl
 ·rw [h1,h2];simp only;cases he:bH (xs[j].aV.length:Int) (o.aR.length:Int) with
  | false=>rfl
  | true=>
   have hl:o.aR.length=xs[j].aV.length:=by simp only [bH,beq_iff_eq] at he;omega
   obtain ⟨k1,k2,k3,k4,k5⟩:=GG o9 (dF hj);have Zq:=eP.1 h3;rw [Zq] at k3 k4;have YT:xs[j].aV.length≤1048576:=by omega
   have YR:ms.length≤1048576:=by omega
   simp only [cond_true,Option.isSome_some,Option.getD_some,Bool.not_true,cond_false,bM hj,bL,bR hj,V6 hk YR YT,Option.bind_some];have hrl:(vT ms xs[j]).length≤1048576:=by
    have:=k3.LP.nd.length_le_of_subset k3.sub;simp only [C6,List.length_map] at this;omega
   exact fC (S:=List Nm) (x:=vT ms xs[j]) (f:=C7 xs[j].aV ms o.Kind) (B:=4194304*2) (l:=fun k vs i=>iter (ts:=w6) (R:=aA) k (oS (fun (v41:aA) (v42:List UInt8) (v43:List UInt8) (v44:List UInt8) (v45:Bool) (v46:Int) (v47:List (List UInt8)) (v48:List (List UInt8))=>some (⟨v42,v43,v44,v47,v45,v48,v46⟩:aA))) ms xs[j].aV (vT ms xs[j]) i (⟨([]:List UInt8),([]:List UInt8),([]:List UInt8),[],false,[],(0:Int)⟩:aA) o.Kind o.Name o.aX o.Ending o.Version vs o.b7)
    (J:=fun vs=>some ⟨o.Kind,o.Name,o.aX,vs,o.Ending,o.b7,o.Version⟩) (fun _ vs=>vs.length=xs[j].aV.length)
    (fun k vs _=>by simp only [iter,oS,ck,cond_false]<;>rfl)
    (fun k i vs hi hb hI=>⟨by
     have hn:=k3.sub _ (dF hi);have hd:=SK (o:=⟨o.Kind,o.Name,o.aX,vs,o.Ending,o.b7,o.Version⟩) hb YT YR hI hn (fun y hy=>k4 _ y hy);simp only [iter,oS,cf hi,bM hi,cond_true,bL,bR hi,bQ hrl hi,E9 (show 4194304≤k by omega) YT hn,hd,Option.bind_some,PZ hI hn];rfl,by rw [E8];exact hI⟩) k o.aR (by omega) hl
theorem XC (xs:List aD) (ms:List aH) (o:aA):(Lg xs ms o).aR.length=o.aR.length∧(Lg xs ms o).b7=o.b7:=by
 unfold Lg;cases xs.find? fun s=>seq s.Kind o.Kind with
 | none=>exact ⟨rfl,rfl⟩
 | some s=>
  simp only;cases bH (s.aV.length:Int) (o.aR.length:Int) with
  | false=>exact ⟨rfl,rfl⟩
  | true=>exact ⟨yM ..,rfl⟩
theorem M0 {xs:List aD} {o:aA} (h:LQ o):LQ (Eh xs o):=by
 have:=Kd xs o;exact ⟨by rw [this.1];exact h.1,by rw [this.2.1];exact h.2⟩
theorem QX {k:Nat} {xs:List aD} {ms:List aH} {o:aA} (hk:4194304*4≤k) (hx:xs.length≤1048576) (ho:LQ o) (o9:gy xs ms=true):uV k xs ms o=some (xD xs ms o):=by
 unfold uV;rw [QU (by omega) hx ho,Option.bind_some,QW hk hx (M0 ho) o9];rfl
theorem B_ {k:Nat} {fs:List aC} {n kd nm tm:Nm} {e:Bool} {v:Int} {vs hs:List Nm} (hk:4194304≤k) (hx:fs.length≤1048576) (hl:vs.length=fs.length) (h:n∈C6 fs):dS k n kd nm tm e v fs vs hs=some (ng fs vs n,kd,nm,tm,e,v,fs,vs,hs):=by
 unfold dS;rw [PY hk hx h];simp only [Option.bind_some,PZ hl h,bL,Wb]
theorem US {fs:List aC} {ms:List aH} {name kd nm tm:Nm} {e:Bool} {v:Int} {o:aA} {row vs hs:List Nm} {n j:Int} (hx:fs.length≤1048576) (hm:ms.length≤1048576) (hl:vs.length=fs.length) (hn:name∈C6 fs) (hR:∀ y,y∈reads ms kd name→y∈C6 fs)
  (J:List aH→List (List UInt8)→Int→Int→List UInt8→List UInt8→List UInt8→Bool→Int→aA→List aC→List (List UInt8)→List (List UInt8)→Option aA) {k:Nat} (hk:4194304*2≤k):
  iter (ts:=g7) (R:=aA) k (fh J) ms name row n j ms (ms.length:Int) (0:Int) kd nm tm e v o fs vs hs=J ms row n j kd nm tm e v o fs (C7 fs ms kd vs name) hs:=by
 have h:=SD (R:=Option aA) (x:=ms) (g:=fun _ m=>Lf kd name (ng fs vs) m) (B:=4194304) (l:=fun k i=>iter (ts:=g7) (R:=aA) k (fh J) ms name row n j ms (ms.length:Int) i kd nm tm e v o fs vs hs) (E:=J ms row n j kd nm tm e v o fs vs hs) (O:=fun c=>J ms row n j kd nm tm e v o fs (vs.set (OQ fs name) c) hs)
  (fun k=>by simp only [iter,fh,ck,cond_false]<;>rfl)
  (fun k i hi hb=>by
   simp only [iter,fh,share,cf hi,bM hi,cond_true,bL,bR hi,bQ hm hi,Lf];cases h1:seq ms[i].Kind kd with
   | false=>rfl
   | true=>
    cases h2:seq ms[i].Field name with
    | false=>rfl
    | true=>
     have hw:=fun h3=>hR _ (mem_reads hi (Lh h1 h2 h3));have hf:=fun h3=>hR _ (mem_reads hi (Li h1 h2 h3));have hp:=PY hb hx hn;have hib:=PZ hl hn;cases h4:seq ms[i].cR [] with
     | true=>
      cases h3:seq ms[i].dk [] with
      | true=>
       simp only [Bool.not_true,cond_false,cond_true,Bool.true_and,Bool.true_or,hp,Option.bind_some,hib,bL];rfl
      | false=>
       simp only [Bool.not_true,Bool.not_false,cond_false,cond_true,Bool.true_and,Bool.false_or,B_ hb hx hl (hw h3),Option.bind_some,yL,bL,hp,hib];cases seq (ng fs vs ms[i].dk) ms[i].Is<;>rfl
     | false=>
      cases h3:seq ms[i].dk [] with
      | true=>
       simp only [Bool.not_true,Bool.not_false,cond_false,cond_true,Bool.true_and,Bool.true_or,B_ hb hx hl (hf h4),Option.bind_some,yL,bL,hp,hib];cases seq (ng fs vs ms[i].cR) []<;>rfl
      | false=>
       simp only [Bool.not_true,Bool.not_false,cond_false,cond_true,Bool.true_and,Bool.false_or,B_ hb hx hl (hw h3),B_ hb hx hl (hf h4),Option.bind_some,yL,bL,hp,hib];cases seq (ng fs vs ms[i].dk) ms[i].Is<;>cases seq (ng fs vs ms[i].cR) []<;>rfl) k (by omega)
 refine h.trans ?_;unfold C7;change opt (dec ms kd (ng fs vs) name) (fun c=>J ms row n j kd nm tm e v o fs (vs.set (OQ fs name) c) hs) (J ms row n j kd nm tm e v o fs vs hs)=_;cases dec ms kd (ng fs vs) name with
 | some c=>rfl
 | none=>
  simp only [Option.getD_none,opt];rw [set_self hl hn]
theorem QY {k:Nat} {xs:List aD} {ms:List aH} {o:aA} (hk:4194304*7≤k) (hx:lD aD.sd xs) (hm:lD aH.sd ms) (ho:LQ o):qB k xs ms o=some (cond (gy xs ms) (Lg xs ms o) o):=by
 unfold qB;rw [QT ho];simp only [Option.bind_some,Lc o (show 4194304≤k by omega) hx.1,share,yL,bL,An hk hx hm];cases o9:gy xs ms with
 | false=>cases (cw xs o).isSome<;>rfl
 | true=>
  simp only [Lg,cw,E7 (show 4194304≤k by omega) hx.1];rcases eJ (fun s:aD=>seq s.Kind o.Kind) xs with ⟨h1,h2⟩ | ⟨j,hj,h1,h2,h3⟩
  ·rw [h1,h2];rfl
  ·rw [h1,h2];simp only;cases he:bH (xs[j].aV.length:Int) (o.aR.length:Int) with
   | false=>rfl
   | true=>
    have hl:o.aR.length=xs[j].aV.length:=by simp only [bH,beq_iff_eq] at he;omega
    obtain ⟨k1,k2,k3,k4,k5⟩:=GG o9 (dF hj);have Zq:=eP.1 h3;have YT:xs[j].aV.length≤1048576:=by omega
    have YR:ms.length≤1048576:=by omega
    obtain ⟨b,row,r1,r2,r3⟩:=V_ (ms:=ms) (s:=xs[j]) YR (fun x _ y hy=>k4 x y hy) (fun x=>by have:=PV (ms:=ms) (kind:=xs[j].Kind) (x:=x);omega) k2 (show 4194304*5≤k by omega);obtain rfl:b=true:=r3 ⟨_,k3⟩;have hF:=r2 rfl;simp only [cond_true,Option.isSome_some,Option.getD_some,Bool.not_true,cond_false,Option.bind_some,bM hj,bL,bR hj,r1];rw [Zq] at k3 k4 hF;have hrl:row.length≤1048576:=by
     have:=hF.LP.nd.length_le_of_subset hF.sub;simp only [names,List.length_map] at this;omega
    rw [← SH k1 hl hF k3];exact fC (S:=List Nm) (x:=row) (f:=C7 xs[j].aV ms o.Kind) (B:=4194304*2) (l:=fun k vs i=>iter (ts:=tV) (R:=aA) k (mc (fun (agC:List UInt8) (agD:List UInt8) (agE:List UInt8) (agF:Bool) (agG:Int) (ahz:aA) (agH:List (List UInt8)) (agI:List (List UInt8))=>some (⟨agC,agD,agE,agH,agF,agI,agG⟩:aA))) ms row (row.length:Int) i o.Kind o.Name o.aX o.Ending o.Version (⟨([]:List UInt8),([]:List UInt8),([]:List UInt8),[],false,[],(0:Int)⟩:aA) xs[j].aV vs o.b7)
     (J:=fun vs=>some ⟨o.Kind,o.Name,o.aX,vs,o.Ending,o.b7,o.Version⟩) (fun _ vs=>vs.length=xs[j].aV.length)
     (fun k vs _=>by simp only [iter,mc,ck,cond_false]<;>rfl)
     (fun k i vs hi hb hI=>⟨by
      simp only [iter,mc,share,cf hi,bM hi,cond_true];have hn:nth ([]:List UInt8) row (i:Int)∈C6 xs[j].aV:=by rw [bR hi];exact hF.sub _ (dF hi)
      change iter (ts:=g7) (R:=aA) k (fh _) ms (nth [] row (i:Int)) row (row.length:Int) (i:Int) ms (ms.length:Int) (0:Int) o.Kind o.Name o.aX o.Ending o.Version _ xs[j].aV vs o.b7=_;refine (US YT YR hI hn (fun y hy=>k4 _ y hy) _ hb).trans ?_;simp only [bR hi];rw [bQ hrl hi],by rw [E8];exact hI⟩) k o.aR (by omega) hl
theorem QZ {k:Nat} {xs:List aD} {ms:List aH} {o:aA} (hk:4194304*7≤k) (hx:lD aD.sd xs) (hm:lD aH.sd ms) (ho:LQ o):qC k xs ms o=some (cond (gy xs ms) (xD xs ms o) o):=by
 unfold qC;rw [An hk hx hm,adA ho,UQ (by omega) hx ho];cases o9:gy xs ms with
 | false=>rfl
 | true=>
  have hs:e_ xs=true:=by
   simp only [gy,Bool.and_eq_true] at o9;exact o9.1
  simp only [Option.bind_some,Bool.not_true,cond_false,hs,cond_true,QY hk hx hm (M0 ho),o9];rfl
theorem Ma {a b:Nm} (h:seq a b=true):slt a b=false:=by rw [eP.1 h];exact L9 b
def M1 (a b:List Nm):Bool:=bH (a.length:Int) (b.length:Int)&&(a.zip b).all fun q=>seq q.1 q.2
theorem E_ {α β:Type} {a:List α} {b:List β} (h:a.length≤b.length):(a.zip b).length=a.length:=by simp;omega
theorem Zr {k:Nat} {a b:List Nm} (hk:4194304≤k) (ha:a.length≤1048576):oT k a b=some (M1 a b):=by
 unfold oT M1;cases he:bH (a.length:Int) (b.length:Int) with
 | false=>rfl
 | true=>
  have hl:a.length=b.length:=by simp only [bH,beq_iff_eq] at he;omega
  have hz:=E_ (a:=a) (b:=b) (by omega);have h:=gM (R:=Option Bool) (x:=a.zip b) (p:=fun q=>seq q.1 q.2) (B:=0) (l:=fun k i=>iter (ts:=sy) (R:=Bool) k (ku (some true)) a b i) (E:=some true) (O:=some false)
   (fun k=>by simp only [hz,iter,ku,ck,cond_false]<;>rfl)
   (fun k i hi _=>by
    rw [hz] at hi;have di:i < b.length:=by omega
    simp only [iter,ku,cf hi,bM hi,bM di,cond_true,bL,bR hi,bR di,bQ ha hi,List.getElem_zip];cases seq a[i] b[i]<;>rfl) k (by omega)
  simp only [Bool.not_true,cond_false,share];refine h.trans ?_;cases (a.zip b).all fun q=>seq q.1 q.2<;>rfl
theorem Q0 {k:Nat} {a b:List Nm} (hk:4194304≤k) (ha:a.length≤1048576):qD k a b=some (M1 a b):=by
 unfold qD M1;cases he:bH (a.length:Int) (b.length:Int) with
 | false=>rfl
 | true=>
  have hl:a.length=b.length:=by simp only [bH,beq_iff_eq] at he;omega
  have hz:=E_ (a:=a) (b:=b) (by omega);have h:=gM (R:=Option Bool) (x:=a.zip b) (p:=fun q=>seq q.1 q.2) (B:=0) (l:=fun k i=>iter (ts:=tW) (R:=Bool) k (me (some true)) a b (a.length:Int) i) (E:=some true) (O:=some false)
   (fun k=>by simp only [hz,iter,me,ck,cond_false]<;>rfl)
   (fun k i hi _=>by
    rw [hz] at hi;have di:i < b.length:=by omega
    simp only [iter,me,cf hi,bM hi,bM di,cond_true,bL,bR hi,bR di,bQ ha hi,List.getElem_zip];cases seq a[i] b[i]<;>rfl) k (by omega)
  simp only [Bool.not_true,cond_false,share];refine h.trans ?_;cases (a.zip b).all fun q=>seq q.1 q.2<;>rfl
def nJ (a b c d:Nm):Bool:=slt a c||(seq a c&&slt b d)
def Q1 (a b:Nm):Int:=cond (slt a b) (-1) (cond (!(slt a b||seq a b)) 1 0)
theorem Q2 (k:Nat) (a b:Nm):qS k a b=some (Q1 a b):=by
 unfold qS Q1;cases slt a b<;>cases seq a b<;>rfl
def XD (a b c d:Nm):Int:=cond (!bH (Q1 a c) 0) (Q1 a c) (Q1 b d)
theorem Mb (k:Nat) (a b c d:Nm):qQ k a b c d=some (XD a b c d):=by
 unfold qQ XD;rw [Q2,Q2];simp only [Option.bind_some];cases bH (Q1 a c) 0<;>rfl
theorem Q3 (a b c d:Nm):b8 0 (XD a b c d)=!nJ a b c d:=by
 unfold XD nJ Q1;cases h1:slt a c<;>cases h2:seq a c<;>cases h3:slt b d<;>cases h4:seq b d<;>rfl
def atO (b:aG) (kind name:Nm):Int:=uB (fun o=>seq o.Kind kind&&seq o.Name name) b.aO 0
theorem adC {k:Nat} {b:aG} {kind name:Nm} (hk:4194304≤k) (hb:b.aO.length≤1048576):E2 k b kind name=some (atO b kind name):=by
 unfold E2;simp only [share];exact m8 (x:=b.aO) (p:=fun o=>seq o.Kind kind&&seq o.Name name) (l:=fun k i=>iter (ts:=CQ) (R:=Int) k (xw (some (-1))) kind name b i)
  (fun k=>by simp only [iter,xw,ck,cond_false]<;>rfl)
  (fun k i hi=>by
   simp only [iter,xw,share,cf hi,bM hi,cond_true,bL,bR hi,bQ hb hi];cases seq b.aO[i].Kind kind<;>rfl) k (by omega)
theorem adD {k:Nat} {b:aG} {kind name:Nm} (hk:4194304≤k) (hb:b.aO.length≤1048576):mf k b kind name=some (atO b kind name):=by
 unfold mf;simp only [share];exact m8 (x:=b.aO) (p:=fun o=>seq o.Kind kind&&seq o.Name name) (l:=fun k i=>iter (ts:=p5) (R:=Int) k (iI (some (-1))) kind name b.aO (b.aO.length:Int) i)
  (fun k=>by simp only [iter,iI,ck,cond_false]<;>rfl)
  (fun k i hi=>by
   simp only [iter,iI,share,cf hi,bM hi,cond_true,bL,bR hi,bQ hb hi];cases seq b.aO[i].Kind kind<;>rfl) k (by omega)
def SL (b:aG) (q:aC×Nm):Bool:=!(bH q.1.Kind 4&&(!seq q.2 []&&bK (atO b q.1.To q.2) 0))
def Fa (b:aG) (fs:List aC) (vs:List Nm):Bool:=(fs.zip vs).all (SL b)
theorem SM {w:aL} {b:aG} {n:Int} {fs:List aC} {o:aA} (hb:b.aO.length≤1048576) (hl:fs.length≤o.aR.length) (hv:o.aR.length≤1048576) (J:aL→aG→Int→Option Bool) {k:Nat} (hk:4194304*2≤k):
  iter (ts:=gq) (R:=Bool) k (eI J) w b n fs (0:Int) o=cond (Fa b fs o.aR) (J w b n) (some false):=by
 have hz:=E_ hl;exact gM (R:=Option Bool) (x:=fs.zip o.aR) (p:=SL b) (B:=4194304) (l:=fun k i=>iter (ts:=gq) (R:=Bool) k (eI J) w b n fs i o) (E:=J w b n) (O:=some false)
  (fun k=>by simp only [hz,iter,eI,ck,cond_false]<;>rfl)
  (fun k i hi cl=>by
   rw [hz] at hi;have di:i < o.aR.length:=by omega
   simp only [iter,eI,share,cf hi,bM hi,bM di,cond_true,bL,bR hi,bR di,bQ (show fs.length≤1048576 by omega) hi,adC cl hb,Option.bind_some,List.getElem_zip,SL];cases bH fs[i].Kind 4 with
   | false=>rfl
   | true=>
    cases seq o.aR[i] [] with
    | true=>rfl
    | false=>cases bK (atO b fs[i].To o.aR[i]) 0<;>rfl) k (by rw [hz];omega)
def Ca:List (aC×Nm)→Nat→List (Int×(aC×Unit))
 | [],_=>[]
 | q::r,i=>cond (bH q.1.Kind 4&&!seq q.2 []) (((i:Int),q.1,())::Ca r (i+1)) (Ca r (i+1))
theorem abx {fs:List aC} {o:aA} (hl:fs.length≤o.aR.length) (hv:o.aR.length≤1048576):∀ m i k,i+m=fs.length→m+1≤k→
  iter (ts:=vO) (R:=List (Int×(aC×Unit))) k nG o fs (fs.length:Int) (i:Int)=some (Ca ((fs.zip o.aR).drop i) i):=by
 have hz:=E_ hl;intro m
 induction m with
 | zero=>
  intro i k h1 h2;obtain rfl:i=fs.length:=by omega
  obtain ⟨k,rfl⟩:∃ j,k=j+1:=⟨k-1,by omega⟩;rw [List.drop_of_length_le (by omega)];simp only [iter,nG,ck,cond_false,Ca]<;>rfl
 | succ m ih=>
  intro i k h1 h2;obtain ⟨k,rfl⟩:∃ j,k=j+1:=⟨k-1,by omega⟩;have hi:i < fs.length:=by omega
  have di:i < o.aR.length:=by omega
  rw [List.drop_eq_getElem_cons (show i < (fs.zip o.aR).length by omega),List.getElem_zip];have ih':=ih (i+1) k (by omega) (by omega);simp only [iter,nG,cf hi,bM hi,bM di,cond_true,bL,bR hi,bR di,bQ (show fs.length≤1048576 by omega) hi,ih',Ca];cases bH fs[i].Kind 4<;>cases seq o.aR[i] []<;>rfl
theorem aby {k:Nat} {w:aL} {o:aA} (hk:4194304≤k) (hw:w.cg.length≤1048576) (hv:o.aR.length≤1048576):lx k w o=some (Ca (((cw w.cg o).getD []).zip o.aR) 0):=by
 unfold lx;rw [xB hk hw];simp only [Option.bind_some];cases hf:cw w.cg o with
 | none=>rfl
 | some fs=>
  have hl:=(jD hf).1;have h:=abx (fs:=fs) (o:=o) (by omega) hv fs.length 0 k (by omega) (by omega);rw [List.drop_zero] at h;exact h
theorem Lj {b:aG} {w:aL} {os:List aA} {n j:Int} {e:Bool} {o:aA} {k:Nat} (hk:4194304≤k) (hb:b.aO.length≤1048576) (D:aG→aL→List aA→Int→Int→Bool→aA→Option Bool):∀ (z:List (aC×Nm)) (i:Nat),(∀ t (h:t < z.length),∃ h':i+t < o.aR.length,o.aR[i+t]=z[t].2)→
  Ig (ts:=de) (R:=Bool) (cS k) D (Ca z i) b w os n j e o=cond (z.all (SL b)) (D b w os n j e o) (some false)
 | [],_,_=>rfl
 | q::r,i,h=>by
  have ih:=Lj (o:=o) (b:=b) (w:=w) (os:=os) (n:=n) (j:=j) (e:=e) hk hb D r (i+1) fun t ht=>by
   obtain ⟨h1,h2⟩:=h (t+1) (by simpa using ht);exact ⟨by omega,by simpa [show i+1+t=i+(t+1) by omega] using h2⟩
  obtain ⟨h1,h2⟩:=h 0 (by simp);simp only [Nat.add_zero,List.getElem_cons_zero] at h1 h2;simp only [Ca,List.all_cons];have hq:SL b q=!(bH q.1.Kind 4&&(!seq q.2 []&&bK (atO b q.1.To q.2) 0)):=rfl;rw [hq];cases c1:bH q.1.Kind 4 with
  | false=>exact ih
  | true=>
   cases c2:seq q.2 [] with
   | true=>exact ih
   | false=>
    simp only [Bool.not_false,Bool.and_self,cond_true,Bool.true_and];change cS k ((i:Int),q.1,()) (Ig (ts:=de) (R:=Bool) (cS k) D (Ca r (i+1))) b w os n j e o=_;unfold cS;simp only [bM h1,bL,bR h1,h2,adD hk hb,Option.bind_some];cases bK (atO b q.1.To q.2) 0 with
    | true=>rfl
    | false=>exact ih
def Zs (q:Option aA) (o:aA):Bool:=match q with
 | none=>true
 | some p=>nJ p.Kind p.Name o.Kind o.Name
def UT (w:aL) (b:aG) (q:Option aA) (o:aA):Bool:=
 (bH (xC w.cg o).1 0&&((hP w.dX o.aX).isSome&&(b8 1 o.Version&&b8 o.Version b.vj)))&&(Zs q o&&(M1 (xD w.cg w.iN o).aR o.aR&&Fa b ((cw w.cg o).getD []) o.aR))
def o_ (w:aL) (b:aG):Bool:=b8 (b.aO.length:Int) 40&&chain (UT w b) none b.aO
theorem M3 (xs:List aD) (ms:List aH) (o:aA):(xD xs ms o).aR.length=o.aR.length:=by
 unfold xD;rw [(XC ..).1,(Kd ..).1]
theorem SN (xs:List aD) (o:aA):((cw xs o).getD []).length≤o.aR.length:=by
 cases hf:cw xs o with
 | none=>simp
 | some fs=>have:=(jD hf).1;simp;omega
theorem Pd {k:Nat} {w:aL} {b:aG} (hk:4194304*10≤k) (hw:w.sd) (hb:b.sd) (o9:gy w.cg w.iN=true):oU k w b=some (o_ w b):=by
 obtain ⟨-,-,-,P0,-⟩:=hb;unfold oU o_;have h:=fD (R:=Option Bool) (x:=b.aO) (p:=UT w b) (B:=4194304*8) (l:=fun k i=>iter (ts:=eZ) (R:=Bool) k (dR (some true)) w b i) (E:=some true) (O:=some false)
  (fun k=>by simp only [iter,dR,ck,cond_false]<;>rfl)
  (fun k i hi cl=>by
   have YU:=P0.2 _ (dF hi);have hle:=L_ YU;have hsl:=M3 w.cg w.iN b.aO[i];have hlk:=fun (n:Int) (J:aL→aG→Int→Option Bool)=>SM (w:=w) (b:=b) (n:=n) (o:=b.aO[i]) P0.1 (SN w.cg b.aO[i]) hle.1 J (show 4194304*2≤k by omega);simp only [iter,dR,share,cf hi,bM hi,cond_true,bL,bR hi,Pb (show 4194304*4≤k by omega) hw.1 YU,Iw (show 4194304≤k by omega) hw.2.2.1,LN,QX (show 4194304*4≤k by omega) hw.1.1 hle o9,Zr (show 4194304≤k by omega) (show (xD w.cg w.iN b.aO[i]).aR.length≤1048576 by rw [hsl];exact hle.1),sY (show 4194304≤k by omega) hw.1.1,Option.bind_some,bQ P0.1 hi,UT];have tail:∀ c:Bool,cond (!c) (some false) (iter (ts:=gq) (R:=Bool) k (eI fun adE adF adG=>iter (ts:=eZ) (R:=Bool) k (dR (some true)) adE adF (aP .i64 adG (1:Int))) w b (i:Int) ((cw w.cg b.aO[i]).getD []) (0:Int) b.aO[i])
     = cond (c&&Fa b ((cw w.cg b.aO[i]).getD []) b.aO[i].aR) (iter (ts:=eZ) (R:=Bool) k (dR (some true)) w b ((i+1:Nat):Int)) (some false):=fun c=>by
    have:=hlk (i:Int) fun adE adF adG=>iter (ts:=eZ) (R:=Bool) k (dR (some true)) adE adF (aP .i64 adG (1:Int));rw [bQ P0.1 hi] at this;cases c with
    | false=>rfl
    | true=>exact this.trans (by cases Fa b ((cw w.cg b.aO[i]).getD []) b.aO[i].aR<;>rfl)
   cases bH (xC w.cg b.aO[i]).1 0 with
   | false=>rfl
   | true=>
    cases (hP w.dX b.aO[i].aX).isSome with
    | false=>rfl
    | true=>
     cases b8 1 b.aO[i].Version&&b8 b.aO[i].Version b.vj with
     | false=>rfl
     | true=>
      rcases Nat.eq_zero_or_pos i with rfl | h0
      ·simp only [sX,ml,Zs,Bool.true_and];exact tail _
      ·have di:i-1 < b.aO.length:=by omega
       simp only [zW h0,q7 h0 (show i≤1048576 by have:=P0.1;omega),bM di,cond_true,bL,bR di,mm h0 hi,Zs,Mb,Option.bind_some,Q3,Bool.true_and];cases nJ b.aO[i-1].Kind b.aO[i-1].Name b.aO[i].Kind b.aO[i].Name with
       | false=>rfl
       | true=>exact tail _) k (by have:=P0.1;omega)
 simp only [share,cL];cases b8 (b.aO.length:Int) 40 with
 | false=>rfl
 | true=>exact h.trans (by cases chain (UT w b) none b.aO<;>rfl)
theorem XE {xs:List aD} {o:aA} (h:e_ xs=true):QQ xs o=xC xs o:=by
 unfold QQ xC;rw [h,Bool.true_and]
theorem Ke (x:List aJ) (n:Nm):bK (uB (fun t:aJ=>seq t.Name n) x 0) 0=!(hP x n).isSome:=by
 unfold hP;rcases eJ (fun t:aJ=>seq t.Name n) x with ⟨k1,k2⟩ | ⟨q,hq,k1,k2,_⟩
 ·rw [k1,k2];rfl
 ·rw [k1,k2,dy (by omega)];rfl
theorem adH {fs:List aC} {vs:List Nm}:∀ t (h:t < (fs.zip vs).length),∃ h':0+t < vs.length,vs[0+t]=(fs.zip vs)[t].2:=fun t h=>by
 have h2:t < vs.length:=by simp at h;omega
 exact ⟨by omega,by simp⟩
theorem Pe {k:Nat} {w:aL} {b:aG} (hk:4194304*12≤k) (hw:w.sd) (hb:b.sd) (o9:gy w.cg w.iN=true):gh k b w=some (o_ w b):=by
 obtain ⟨-,-,-,P0,-⟩:=hb;have sZ:e_ w.cg=true:=by simp only [gy,Bool.and_eq_true] at o9;exact o9.1
 unfold gh o_;have h:=fD (R:=Option Bool) (x:=b.aO) (p:=UT w b) (B:=4194304*10) (l:=fun k i=>iter (ts:=cZ) (R:=Bool) k (cI fun _=>some true) b w b.aO (b.aO.length:Int) i false) (E:=some true) (O:=some false)
  (fun k=>by simp only [iter,cI,ck,cond_false]<;>rfl)
  (fun k i hi cl=>by
   have YU:=P0.2 _ (dF hi);have hle:=L_ YU;have hsl:=M3 w.cg w.iN b.aO[i];have tail:∀ c:Bool,cond (!c) (some false) ((yA k w b.aO[i]).bind fun Zt=>(lx k Zt.1 Zt.2).bind fun Zu=>Ig (ts:=de) (R:=Bool) (cS k) (fun (adI:aG) (adJ:aL) (adK:List aA) (adL:Int) (adM:Int) (adN:Bool) (Zu:aA)=>iter (ts:=cZ) (R:=Bool) k (cI fun _=>some true) adI adJ adK adL (aP .i64 adM (1:Int)) adN) Zu b w b.aO (b.aO.length:Int) (i:Int) false b.aO[i])
     = cond (c&&Fa b ((cw w.cg b.aO[i]).getD []) b.aO[i].aR) (iter (ts:=cZ) (R:=Bool) k (cI fun _=>some true) b w b.aO (b.aO.length:Int) ((i+1:Nat):Int) false) (some false):=fun c=>by
    cases c with
    | false=>rfl
    | true=>
     unfold yA;simp only [Bool.not_true,cond_false,Option.bind_some,aby (show 4194304≤k by omega) hw.1.1 hle.1,Bool.true_and];refine (Lj (show 4194304≤k by omega) P0.1 _ _ 0 adH).trans ?_;rw [bQ P0.1 hi];rfl
   simp only [iter,cI,share,cf hi,bM hi,cond_true,bL,bR hi,Sy (show 4194304*6≤k by omega) hw.1 YU,XE sZ,yI (show 4194304≤k by omega) hw.2.2.1,Ke,QZ (show 4194304*7≤k by omega) hw.1 hw.2.1 hle,o9,Q0 (show 4194304≤k by omega) (show (xD w.cg w.iN b.aO[i]).aR.length≤1048576 by rw [hsl];exact hle.1),Option.bind_some,UT,cL b.aO[i].Version,cL b.vj];have Zv:∀ c1:Bool,cond (!c1) (some false) (cond (!(hP w.dX b.aO[i].aX).isSome) (some false) (cond (!b8 1 b.aO[i].Version) (some false) (cond (!b8 b.aO[i].Version b.vj) (some false) (cond (!M1 (xD w.cg w.iN b.aO[i]).aR b.aO[i].aR) (some false) ((yA k w b.aO[i]).bind fun Zt=>(lx k Zt.1 Zt.2).bind fun Zu=>Ig (ts:=de) (R:=Bool) (cS k) (fun (adI:aG) (adJ:aL) (adK:List aA) (adL:Int) (adM:Int) (adN:Bool) (Zu:aA)=>iter (ts:=cZ) (R:=Bool) k (cI fun _=>some true) adI adJ adK adL (aP .i64 adM (1:Int)) adN) Zu b w b.aO (b.aO.length:Int) (i:Int) false b.aO[i])))))
     = cond ((c1&&((hP w.dX b.aO[i].aX).isSome&&(b8 1 b.aO[i].Version&&b8 b.aO[i].Version b.vj)))&&(M1 (xD w.cg w.iN b.aO[i]).aR b.aO[i].aR&&Fa b ((cw w.cg b.aO[i]).getD []) b.aO[i].aR)) (iter (ts:=cZ) (R:=Bool) k (cI fun _=>some true) b w b.aO (b.aO.length:Int) ((i+1:Nat):Int) false) (some false):=fun c1=>by
    rw [tail];cases c1<;>cases (hP w.dX b.aO[i].aX).isSome<;>cases b8 1 b.aO[i].Version<;>cases b8 b.aO[i].Version b.vj<;>rfl
   rcases Nat.eq_zero_or_pos i with rfl | h0
   ·simp only [sX,ml,Zs,Bool.true_and];refine Eq.trans ?_ (Zv _);cases bH (xC w.cg b.aO[0]).1 0 with
    | false=>rfl
    | true=>cases (hP w.dX b.aO[0].aX).isSome<;>cases b8 1 b.aO[0].Version<;>cases b8 b.aO[0].Version b.vj<;>rfl
   ·have di:i-1 < b.aO.length:=by omega
    simp only [zW h0,q7 h0 (show i≤1048576 by have:=P0.1;omega),bM di,cond_true,bL,bR di,mm h0 hi,Zs,nJ];cases h1:seq b.aO[i-1].Kind b.aO[i].Kind with
    | true=>
     rw [Ma h1];cases slt b.aO[i-1].Name b.aO[i].Name with
     | false=>simp only [Bool.false_or,Bool.true_and,Bool.false_and,Bool.and_false];rfl
     | true=>
      simp only [Bool.false_or,Bool.true_and];refine Eq.trans ?_ (Zv _);cases bH (xC w.cg b.aO[i]).1 0 with
      | false=>rfl
      | true=>cases (hP w.dX b.aO[i].aX).isSome<;>cases b8 1 b.aO[i].Version<;>cases b8 b.aO[i].Version b.vj<;>rfl
    | false=>
     cases slt b.aO[i-1].Kind b.aO[i].Kind with
     | false=>simp only [Bool.false_or,Bool.true_and,Bool.false_and,Bool.and_false];rfl
     | true=>
      simp only [Bool.true_or,Bool.true_and];refine Eq.trans ?_ (Zv _);cases bH (xC w.cg b.aO[i]).1 0 with
      | false=>rfl
      | true=>cases (hP w.dX b.aO[i].aX).isSome<;>cases b8 1 b.aO[i].Version<;>cases b8 b.aO[i].Version b.vj<;>rfl) k (by have:=P0.1;omega)
 simp only [share,cL];cases b8 (b.aO.length:Int) 40 with
 | false=>rfl
 | true=>exact h.trans (by cases chain (UT w b) none b.aO<;>rfl)
def uE (x:List aJ):Nat→Nm→Nm→Bool
 | 0,a,b=>seq a b
 | m+1,a,b=>seq a b||(!seq (zX x a) []&&uE x m (zX x a) b)
theorem SO {k:Nat} {x:List aJ} {a b:Nm} (hk:4194304*2≤k) (hx:x.length≤1048576):yl k x a b=some (uE x 4 a b):=by
 have go:∀ (m j k:Nat) (a:Nm),j+m=4→4194304+m+1≤k→cond (seq a b) (some true) (iter (ts:=vK) (R:=Bool) k (nD (some false)) x a b (j:Int))=some (uE x m a b):=by
  intro m
  induction m with
  | zero=>
   intro j k a h hk;obtain rfl:j=4:=by omega
   obtain ⟨k,rfl⟩:∃ q,k=q+1:=⟨k-1,by omega⟩;simp only [iter,nD,uE,dy (show ¬ ((4:Nat):Int) < (4:Int) by omega)];cases seq a b<;>rfl
  | succ m ih=>
   intro j k a h hk;obtain ⟨k,rfl⟩:∃ q,k=q+1:=⟨k-1,by omega⟩;have h1:=ih (j+1) k (zX x a) (by omega) (by omega);simp only [iter,nD,uE,hJ (show ((j:Nat):Int) < (4:Int) by omega),cond_true,Sr (show 4194304≤k by omega) hx,Option.bind_some,bQ (n:=4) (by omega) (show j < 4 by omega)];cases seq a b with
   | true=>rfl
   | false=>
    cases seq (zX x a) [] with
    | true=>rfl
    | false=>exact h1
 exact go 4 0 k a (by omega) (by omega)
theorem SP {k:Nat} {x:List aJ} {a b:Nm} (hk:4194304*2≤k) (hx:x.length≤1048576):yC k x a b=some (uE x 4 a b):=by
 have go:∀ (m j k:Nat) (a:Nm),j+m=4→4194304+m+1≤k→iter (ts:=vQ) (R:=Bool) k (nI (some true)) x a b (j:Int)=some (uE x m a b):=by
  intro m
  induction m with
  | zero=>
   intro j k a h hk;obtain rfl:j=4:=by omega
   obtain ⟨k,rfl⟩:∃ q,k=q+1:=⟨k-1,by omega⟩;simp only [iter,nI,share,uE,yI (show 4194304≤k by omega) hx,Option.bind_some,show bH ((4:Nat):Int) 4=true from rfl];cases seq a b<;>rfl
  | succ m ih=>
   intro j k a h hk;obtain ⟨k,rfl⟩:∃ q,k=q+1:=⟨k-1,by omega⟩;have hj:bH (j:Int) 4=false:=by simp only [bH,beq_eq_false_iff_ne];omega
   have h1:=ih (j+1) k (zX x a) (by omega) (by omega);simp only [iter,nI,share,uE,yI (show 4194304≤k by omega) hx,Option.bind_some,hj];cases seq a b with
   | true=>rfl
   | false=>
    simp only [Bool.not_false,cond_true,cond_false,Bool.false_or];rcases eJ (fun t:aJ=>seq t.Name a) x with ⟨k1,k2⟩ | ⟨q,hq,k1,k2,_⟩
    ·have e:zX x a=[]:=by simp only [zX,hP,k2]
     rw [k1,e];rfl
    ·have e:zX x a=x[q].h_:=by simp only [zX,hP,k2]
     rw [k1,dy (by omega),bM hq,bR hq,e];rw [e] at h1;simp only [cond_false,bL];cases seq x[q].h_ [] with
     | true=>rfl
     | false=>
      simp only [cond_false,bQ (n:=4) (by omega) (show j < 4 by omega)];exact h1
 exact go 4 0 k a (by omega) (by omega)
end Go.Proofs.YtjkbbdldmdajkaaGreatDoor.Pu
