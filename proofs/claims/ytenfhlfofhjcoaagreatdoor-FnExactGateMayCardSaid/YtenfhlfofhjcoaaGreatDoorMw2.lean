/- Plain words and laws. No condition. -/
import Derived.Test.YtenfhlfofhjcoaaGreatDoorMw1
set_option linter.unusedSimpArgs false
set_option linter.unusedVariables false
namespace Go.Proofs.YtenfhlfofhjcoaaGreatDoor.Pu
open Go Go.RowKit Go.Proofs.YtenfhlfofhjcoaaGreatDoor.Abs Go.Proofs.YtenfhlfofhjcoaaGreatDoor.Fn
def fieldsM (xs:List GateShape) (o:GateObject):Option (List GateField):=match xs.find? fun s=>seq s.Kind o.Kind with
 | some s=>cond (ieq (s.Fields.length:Int) (o.Values.length:Int)) (some s.Fields) none
 | none=>none
theorem fieldsM_some {xs:List GateShape} {o:GateObject} {fs:List GateField} (h:fieldsM xs o=some fs):fs.length=o.Values.length∧∃ s,s∈xs∧s.Fields=fs:=by
 unfold fieldsM at h
 cases hf:xs.find? fun s=>seq s.Kind o.Kind with
 | none=>rw [hf] at h;cases h
 | some s=>
  rw [hf] at h
  simp only at h
  cases he:ieq (s.Fields.length:Int) (o.Values.length:Int) with
  | false=>rw [he] at h;cases h
  | true=>
   rw [he] at h
   cases h
   simp only [ieq,beq_iff_eq] at he
   exact ⟨by omega,s,List.mem_of_find?_eq_some hf,rfl⟩
theorem specFields_e {k:Nat} {xs:List GateShape} {o:GateObject} (hk:4194304≤k) (hx:xs.length≤1048576):spec_l2Fields k xs o=some ((fieldsM xs o).getD [],(fieldsM xs o).isSome):=by
 unfold spec_l2Fields fieldsM
 rw [l1Shape_e hk hx,fidx_gidx]
 simp only [share,Option.bind_some]
 rcases gidx_find (fun s:GateShape=>seq s.Kind o.Kind) xs with ⟨h1,h2⟩ | ⟨j,hj,h1,h2,_⟩
 ·rw [h1,h2];rfl
 ·rw [h1,h2,ilt_f (by omega),inb_n hj,nth_i hj]
  simp only
  cases ieq (xs[j].Fields.length:Int) (o.Values.length:Int)<;>rfl
theorem implFields_e {k:Nat} {xs:List GateShape} {o:GateObject} (hk:4194304≤k) (hx:xs.length≤1048576):impl_fieldsOf k xs o=some ((fieldsM xs o).getD [],(fieldsM xs o).isSome):=by
 unfold impl_fieldsOf fieldsM
 rw [shapeOf_e hk hx]
 simp only [share,Option.bind_some]
 rcases gidx_find (fun s:GateShape=>seq s.Kind o.Kind) xs with ⟨h1,h2⟩ | ⟨j,hj,h1,h2,_⟩
 ·rw [h1,h2];rfl
 ·rw [h1,h2,ilt_f (by omega),inb_n hj,nth_i hj,ieq_comm (o.Values.length:Int)]
  simp only
  cases ieq (xs[j].Fields.length:Int) (o.Values.length:Int)<;>rfl
def formO (xs:List GateShape) (o:GateObject):Bool:=(fieldsM xs o).isSome&&(nameOk o.Name&&(nameOk o.Team&&(ile (o.Holds.length:Int) 3&&(ascend o.Holds&&(ile 0 o.Version&&ile o.Version 1000000)))))
def badV (vs:List (List UInt8)) (i:Nat) (f:GateField):Option (Int×Int):=
 cond (seq (vs.getD i []) []) (cond f.Must (some (2,(i:Int))) none) (cond (fits f (vs.getD i [])) none (some (3,(i:Int))))
def checkM (xs:List GateShape) (o:GateObject):Int×Int:=
 cond (shapesOk xs&&formO xs o) ((first (badV o.Values) ((fieldsM xs o).getD []) 0).getD (0,0)) (1,0)
theorem getD_i {α:Type} {d:α} {x:List α} {i:Nat} (h:i < x.length):x.getD i d=x[i]:=by simp [List.getD,h]
theorem specCheck_loop {k:Nat} {o:GateObject} {fs:List GateField} (hk:4194304*2≤k) (ho:o.sd) (hl:fs.length=o.Values.length) (hf:∀ f,f∈fs→f.Words.length≤1048576):
  iter (ts:=spec_l2Check_L5_ts) (R:=Int×Int) k (spec_l2Check_L5 (some (0,0))) o fs (0:Int)=some ((first (badV o.Values) fs 0).getD (0,0)):=by
 have hv:=ho.2.2.2.1
 have h:=loop_first (R:=Option (Int×Int)) (x:=fs) (g:=badV o.Values) (B:=4194304) (l:=fun k i=>iter (ts:=spec_l2Check_L5_ts) (R:=Int×Int) k (spec_l2Check_L5 (some (0,0))) o fs i) (E:=some (0,0)) (O:=fun c=>some c)
  (fun k=>by simp only [iter,spec_l2Check_L5,ilt_e,cond_false]<;>rfl)
  (fun k i hi hb=>by
   have hi':i < o.Values.length:=by omega
   have hh:=hv.1
   simp only [iter,spec_l2Check_L5,share,ilt_n hi,inb_n hi,inb_n hi',cond_true,req_t,nth_i hi,nth_i hi',iadd_n (n:=fs.length) (by omega) hi,specFits_e hb (hf _ (mem_i hi)) (hv.2 _ (mem_i hi')),Option.bind_some,badV,getD_i hi']
   cases seq o.Values[i] []<;>cases fs[i].Must<;>cases fits fs[i] o.Values[i]<;>rfl) k (by have:=hv.1;omega)
 refine h.trans ?_
 cases first (badV o.Values) fs 0<;>rfl
def checkL2 (xs:List GateShape) (o:GateObject):Int×Int:=
 cond (formO xs o) ((first (badV o.Values) ((fieldsM xs o).getD []) 0).getD (0,0)) (1,0)
theorem specL2Check_e {k:Nat} {xs:List GateShape} {o:GateObject} (hk:4194304*4≤k) (hx:sdS GateShape.sd xs) (ho:o.sd):spec_l2Check k xs o=some (checkL2 xs o):=by
 have ho':=ho
 obtain ⟨h1,h2,h3,h4,-,h5,-⟩:=ho
 unfold spec_l2Check checkL2 formO
 simp only [share,specFields_e (show 4194304≤k by omega) hx.1,l1NameOk_e (show 4194304≤k by omega) h2,l1NameOk_e (show 4194304≤k by omega) h3,l1Ascending_e (show 8388608≤k by omega) h5,in_e,Option.bind_some,ilt_not]
 cases hf:fieldsM xs o with
 | none=>rfl
 | some fs=>
  obtain ⟨e1,s,e2,e3⟩:=fieldsM_some hf
  have go:=specCheck_loop (k:=k) (by omega) ho' e1 (fun f hfm=>by
   have:=((hx.2 s e2).2.2 f (by rw [e3];exact hfm)).2.2.2.2.1
   exact this.1)
  simp only [Option.isSome_some,Option.getD_some]
  cases nameOk o.Name<;>cases nameOk o.Team<;>cases ile (o.Holds.length:Int) 3<;>cases ascend o.Holds<;>cases ile 0 o.Version&&ile o.Version 1000000<;>first | rfl | (refine (show _=((iter (ts:=spec_l2Check_L5_ts) (R:=Int×Int) k (spec_l2Check_L5 (some (0,0))) o fs (0:Int)).bind fun v5=>some (v5.1,v5.2)) from rfl).trans ?_;rw [go];rfl) | exact go
theorem told_e (k:Nat) (f:Fault):impl_told k f=some (f.code,f.place):=rfl
def ofBad:Option (Int×Int)→Unit ⊕ (Fault ⊕ Fault)
 | none=>.inl ()
 | some (c,p)=>.inr (.inl ⟨c,p⟩)
theorem implCheckFields_e {k:Nat} {xs:List GateShape} {o:GateObject} {fs:List GateField} (hk:4194304*2≤k) (hx:sdS GateShape.sd xs) (ho:o.sd) (hf:fieldsM xs o=some fs):impl_checkFields k xs o=some (ofBad (first (badV o.Values) fs 0)):=by
 obtain ⟨hl,s,e2,e3⟩:=fieldsM_some hf
 have hv:=ho.2.2.2.1
 unfold impl_checkFields
 rw [implFields_e (by omega) hx.1,hf]
 have h:=loop_first (R:=Option (Unit ⊕ (Fault ⊕ Fault))) (x:=fs) (g:=badV o.Values) (B:=4194304) (l:=fun k i=>iter (ts:=impl_checkFields_L3_ts) (R:=Unit ⊕ (Fault ⊕ Fault)) k (impl_checkFields_L3 (some (.inl ()))) o fs (fs.length:Int) i) (E:=some (.inl ())) (O:=fun c=>some (.inr (.inl ⟨c.1,c.2⟩)))
  (fun k=>by simp only [iter,impl_checkFields_L3,ilt_e,cond_false]<;>rfl)
  (fun k i hi hb=>by
   have hi':i < o.Values.length:=by omega
   have hh:=hv.1
   have hw:fs[i].Words.length≤1048576:=((hx.2 s e2).2.2 fs[i] (by rw [e3];exact mem_i hi)).2.2.2.2.1.1
   simp only [iter,impl_checkFields_L3,share,ilt_n hi,inb_n hi,inb_n hi',cond_true,req_t,nth_i hi,nth_i hi',implFits_e hb hw (hv.2 _ (mem_i hi')),Option.bind_some,badV,getD_i hi']
   rw [iadd_n (n:=fs.length) (by omega) hi]
   cases seq o.Values[i] []<;>cases fs[i].Must<;>cases fits fs[i] o.Values[i]<;>rfl) k (by have:=hv.1;omega)
 simp only [share,Option.bind_some,Option.getD_some]
 refine h.trans ?_
 cases first (badV o.Values) fs 0<;>rfl
theorem implCheckForm_e {k:Nat} {xs:List GateShape} {o:GateObject} (hk:4194304*5≤k) (hx:sdS GateShape.sd xs) (ho:o.sd):impl_checkForm k xs o=some (cond (shapesOk xs&&formO xs o) (.inr ()) (.inl ⟨1,0⟩)):=by
 obtain ⟨h1,h2,h3,h4,-,h5,-⟩:=ho
 unfold impl_checkForm formO
 simp only [share,implShapesOk_e hx hk,implFields_e (show 4194304≤k by omega) hx.1,isName_e (show 4194304≤k by omega) h2,isName_e (show 4194304≤k by omega) h3,ascendingNames_e (show 8388608≤k by omega) h5,Option.bind_some,ilt_not]
 cases (fieldsM xs o).isSome<;>cases shapesOk xs<;>cases nameOk o.Name<;>cases nameOk o.Team<;>cases ile (o.Holds.length:Int) 3<;>cases ascend o.Holds<;>cases ile 0 o.Version<;>cases ile o.Version 1000000<;>rfl
theorem implCheck_e {k:Nat} {xs:List GateShape} {o:GateObject} (hk:4194304*6≤k) (hx:sdS GateShape.sd xs) (ho:o.sd):impl_GateCheck k xs o=some (checkM xs o):=by
 obtain ⟨k,rfl⟩:∃ q,k=q+3:=⟨k-3,by omega⟩
 unfold impl_GateCheck checkM
 simp only [share,iter,impl_GateCheck_L2]
 rw [show ilt 0 2=true from rfl,show ieq 0 0=true from rfl]
 simp only [cond_true,implCheckForm_e (show 4194304*5≤k+2 by omega) hx ho,Option.bind_some]
 cases hs:shapesOk xs&&formO xs o with
 | false=>rfl
 | true=>
  simp only [cond_true,sumC_r]
  rw [show iadd .i64 0 1=1 from rfl,show ilt 1 2=true from rfl,show ieq 1 0=false from rfl,show ieq 1 1=true from rfl]
  cases hf:fieldsM xs o with
  | none=>simp [formO,hf] at hs
  | some fs=>
   simp only [cond_true,cond_false,implCheckFields_e (show 4194304*2≤k+1 by omega) hx ho hf,Option.bind_some,Option.getD_some]
   cases hb:first (badV o.Values) fs 0 with
   | none=>rfl
   | some c=>rfl
theorem l3Field_e {k:Nat} {fs:List GateField} {n:List UInt8} (hk:4194304≤k) (hx:fs.length≤1048576):spec_l3Field k fs n=some (gidx (fun f=>seq f.Name n) fs 0):=by
 unfold spec_l3Field
 simp only [share]
 exact loop_gidx (x:=fs) (p:=fun f=>seq f.Name n) (l:=fun k i=>iter (ts:=spec_l3Field_L2_ts) (R:=Int) k (spec_l3Field_L2 (some (-1))) fs n i)
  (fun k=>by simp only [iter,spec_l3Field_L2,ilt_e,cond_false]<;>rfl)
  (fun k i hi=>by simp only [iter,spec_l3Field_L2,ilt_n hi,inb_n hi,cond_true,req_t,nth_i hi,iadd_n hx hi]<;>rfl) k (by omega)
theorem placeOf_e {k:Nat} {fs:List GateField} {n:List UInt8} (hk:4194304≤k) (hx:fs.length≤1048576):impl_placeOf k fs n=some (gidx (fun f=>seq f.Name n) fs 0):=by
 unfold impl_placeOf
 simp only [share]
 exact loop_gidx (x:=fs) (p:=fun f=>seq f.Name n) (l:=fun k i=>iter (ts:=impl_placeOf_L2_ts) (R:=Int) k (impl_placeOf_L2 (some (-1))) n fs (fs.length:Int) i)
  (fun k=>by simp only [iter,impl_placeOf_L2,ilt_e,cond_false]<;>rfl)
  (fun k i hi=>by simp only [iter,impl_placeOf_L2,ilt_n hi,inb_n hi,cond_true,req_t,nth_i hi,iadd_n hx hi]<;>rfl) k (by omega)
def fieldN (fs:List GateField) (n:List UInt8):Option GateField:=fs.find? fun f=>seq f.Name n
def plainN (fs:List GateField) (n:List UInt8):Bool:=match fieldN fs n with
 | some f=>!ieq f.Kind 4
 | none=>false
theorem l3Plain_e {k:Nat} {fs:List GateField} {n:List UInt8} (hk:4194304≤k) (hx:fs.length≤1048576):spec_l3Plain k fs n=some (plainN fs n):=by
 unfold spec_l3Plain
 rw [l3Field_e hk hx]
 simp only [Option.bind_some,plainN,fieldN]
 rcases gidx_find (fun f:GateField=>seq f.Name n) fs with ⟨h1,h2⟩ | ⟨j,hj,h1,h2,_⟩
 ·rw [h1,h2];rfl
 ·rw [h1,h2,ile_t (by omega),inb_n hj,nth_i hj];rfl
theorem mendOk1_e {k:Nat} {fs:List GateField} {n:List UInt8} (hk:4194304≤k) (hx:fs.length≤1048576):impl_mendOk_1 k n fs=some (plainN fs n,fs):=by
 unfold impl_mendOk_1
 rw [placeOf_e hk hx]
 simp only [Option.bind_some,plainN,fieldN]
 rcases gidx_find (fun f:GateField=>seq f.Name n) fs with ⟨h1,h2⟩ | ⟨j,hj,h1,h2,_⟩
 ·rw [h1,h2];rfl
 ·rw [h1,h2,ile_t (by omega),inb_n hj,nth_i hj];rfl
def fitsN (fs:List GateField) (n v:List UInt8):Bool:=match fieldN fs n with
 | some f=>fits f v
 | none=>false
def mendOk (fs:List GateField) (m:GateMend):Bool:=
 plainN fs m.Field&&((seq m.When []||plainN fs m.When)&&((seq m.From []||plainN fs m.From)&&(!seq m.When m.Field&&(!seq m.From m.Field&&((!seq m.When []||seq m.Is [])&&(!Abs.beq (seq m.Put []) (seq m.From [])&&(seq m.Put []||fitsN fs m.Field m.Put)))))))
def mendsOkS (xs:List GateShape) (m:GateMend):Bool:=match xs.find? fun s=>seq s.Kind m.Kind with
 | some s=>mendOk s.Fields m
 | none=>false
theorem plain_place {fs:List GateField} {n:List UInt8} (h:plainN fs n=true):∃ j,∃ hj:j < fs.length,gidx (fun f=>seq f.Name n) fs 0=(j:Int)∧fieldN fs n=some fs[j]:=by
 unfold plainN fieldN at *
 rcases gidx_find (fun f:GateField=>seq f.Name n) fs with ⟨h1,h2⟩ | ⟨j,hj,h1,h2,_⟩
 ·rw [h2] at h;cases h
 ·exact ⟨j,hj,h1,h2⟩
theorem specMend_e {k:Nat} {xs:List GateShape} {m:GateMend} (hk:4194304≤k) (hx:sdS GateShape.sd xs) (hm:m.sd):spec_l3MendOk k xs m=some (mendsOkS xs m):=by
 unfold spec_l3MendOk mendsOkS
 rw [l1Shape_e hk hx.1,fidx_gidx]
 simp only [Option.bind_some]
 rcases gidx_find (fun s:GateShape=>seq s.Kind m.Kind) xs with ⟨h1,h2⟩ | ⟨j,hj,h1,h2,_⟩
 ·rw [h1,h2];rfl
 ·have hs:=hx.2 _ (mem_i hj)
  obtain ⟨-,m2,m3,m4,m5,m6⟩:=hm
  rw [h1,h2,ilt_f (by omega),inb_n hj,nth_i hj]
  simp only [cond_false,req_t,share,l3Plain_e hk hs.2.1,Option.bind_some,mendOk]
  generalize hF:xs[j].Fields=fs at *
  cases hp:plainN fs m.Field with
  | false=>rfl
  | true=>
   obtain ⟨q,hq,q1,q2⟩:=plain_place hp
   have hfit:fitsN fs m.Field m.Put=fits fs[q] m.Put:=by unfold fitsN;rw [q2]
   rw [l3Field_e hk (by rw [← hF];exact hs.2.1),q1,hfit]
   simp only [Option.bind_some,inb_n hq,req_t,nth_i hq]
   rw [specFits_e hk (by subst hF;exact (hs.2.2 _ (mem_i hq)).2.2.2.2.1.1) m5]
   cases seq m.When []<;>cases plainN fs m.When<;>cases seq m.From []<;>cases plainN fs m.From<;>cases seq m.When m.Field<;>cases seq m.From m.Field<;>cases seq m.Is []<;>cases seq m.Put []<;>rfl
theorem implMend_e {k:Nat} {fs:List GateField} {m:GateMend} (hk:4194304≤k) (hx:sdS GateField.sd fs) (hm:m.sd):impl_mendOk k fs m=some (mendOk fs m):=by
 unfold impl_mendOk
 obtain ⟨-,m2,m3,m4,m5,m6⟩:=hm
 simp only [share,mendOk1_e hk hx.1,Option.bind_some,mendOk]
 cases hp:plainN fs m.Field with
 | false=>rfl
 | true=>
  obtain ⟨q,hq,q1,q2⟩:=plain_place hp
  have hfit:fitsN fs m.Field m.Put=fits fs[q] m.Put:=by unfold fitsN;rw [q2]
  rw [placeOf_e hk hx.1,q1,hfit]
  simp only [Option.bind_some,inb_n hq,req_t,nth_i hq]
  rw [implFits_e hk (hx.2 _ (mem_i hq)).2.2.2.2.1.1 m5]
  cases seq m.When []<;>cases plainN fs m.When<;>cases seq m.From []<;>cases plainN fs m.From<;>cases seq m.When m.Field<;>cases seq m.From m.Field<;>cases seq m.Is []<;>cases seq m.Put []<;>rfl
def readOf (kind name:Nm) (m:GateMend):List Nm:=cond (seq m.Kind kind&&seq m.Field name) ((cond (seq m.When []) [] [m.When])++(cond (seq m.From []) [] [m.From])) []
def reads (ms:List GateMend) (kind name:Nm):List Nm:=ms.flatMap (readOf kind name)
theorem foldl_flat {α β:Type} (g:α→List β):∀ (l:List α) (a:List β),l.foldl (fun acc m=>acc++g m) a=a++l.flatMap g
 | [],a=>by simp
 | m::r,a=>by rw [List.foldl_cons,foldl_flat g r];simp
theorem readOf_len (kind name:Nm) (m:GateMend):(readOf kind name m).length≤2:=by
 unfold readOf
 cases seq m.Kind kind&&seq m.Field name<;>cases seq m.When []<;>cases seq m.From []<;>simp
theorem rowOf1_e {k:Nat} {name:Nm} {ms:List GateMend} {s:GateShape} (hk:4194304≤k) (hm:ms.length≤1048576):impl_rowOf_1 k name ms s=some (reads ms s.Kind name,ms,s):=by
 unfold impl_rowOf_1
 simp only [share]
 have h:=loop_fold (S:=List Nm) (x:=ms) (f:=fun acc m=>acc++readOf s.Kind name m) (B:=0)
  (l:=fun k acc i=>iter (ts:=impl_rowOf_1_L3_ts) (R:=(List (List UInt8))×(List GateMend)×GateShape) k (impl_rowOf_1_L3 fun v61 v62 v63=>some (v63,v61,v62)) name ms (ms.length:Int) i ms s acc) (J:=fun acc=>some (acc,ms,s)) (fun i acc=>acc.length≤2*i)
  (fun k acc _=>by simp only [iter,impl_rowOf_1_L3,ilt_e,cond_false]<;>rfl)
  (fun k i acc hi _ hI=>⟨by
   simp only [iter,impl_rowOf_1_L3,share,ilt_n hi,inb_n hi,cond_true,req_t,nth_i hi,iadd_n hm hi,readOf]
   rw [appB_t (by simp;omega) (by omega),appB_t (by simp;omega) (by omega),appB_t (by simp;omega) (by omega)]
   cases seq ms[i].Kind s.Kind<;>cases seq ms[i].Field name<;>cases seq ms[i].When []<;>cases seq ms[i].From []<;>simp [req_t]<;>rfl,by
   have:=readOf_len s.Kind name ms[i]
   simp only [List.length_append];omega⟩) k [] (by omega) (by simp)
 refine h.trans ?_
 rw [foldl_flat];rfl
def hasN (row:List Nm) (y:Nm):Bool:=row.any fun z=>seq z y
theorem hasN_iff {row:List Nm} {y:Nm}:hasN row y=true↔y∈row:=by
 simp only [hasN,List.any_eq_true,seq_iff]
 exact ⟨fun ⟨z,h1,h2⟩=>h2▸h1,fun h=>⟨y,h,rfl⟩⟩
def readyN (ms:List GateMend) (kind name:Nm) (row:List Nm):Bool:=(reads ms kind name).all (hasN row)
theorem l3Ready_e {k:Nat} {ms:List GateMend} {kind name:Nm} {row:List Nm} (hk:8388608≤k) (hm:ms.length≤1048576) (hr:row.length≤1048576):spec_l3Ready k ms kind name row=some (readyN ms kind name row):=by
 unfold spec_l3Ready
 simp only [share]
 have h:=loop_all (x:=ms) (p:=fun m=>(readOf kind name m).all (hasN row)) (B:=4194304) (l:=fun k i=>iter (ts:=spec_l3Ready_L2_ts) (R:=Bool) k (spec_l3Ready_L2 (some true)) ms kind name row i) (E:=some true) (O:=some false)
  (fun k=>by simp only [iter,spec_l3Ready_L2,ilt_e,cond_false]<;>rfl)
  (fun k i hi hb=>by
   simp only [iter,spec_l3Ready_L2,share,ilt_n hi,inb_n hi,cond_true,req_t,nth_i hi,iadd_n hm hi,l1Has_e hb hr,Option.bind_some,readOf]
   have e1:(row.any fun y=>seq y ms[i].When)=hasN row ms[i].When:=rfl
   have e2:(row.any fun y=>seq y ms[i].From)=hasN row ms[i].From:=rfl
   rw [e1,e2]
   cases seq ms[i].Kind kind<;>cases seq ms[i].Field name<;>cases seq ms[i].When []<;>cases seq ms[i].From []<;>cases hw:hasN row ms[i].When<;>cases hf:hasN row ms[i].From<;>simp [hw,hf]<;>rfl) k (by omega)
 refine h.trans ?_
 unfold readyN reads
 rw [List.all_flatMap]
 cases ms.all fun a=>(readOf kind name a).all (hasN row)<;>rfl
def nextF (ms:List GateMend) (s:GateShape) (row:List Nm) (f:GateField):Bool:=!hasN row f.Name&&readyN ms s.Kind f.Name row
def stepR (ms:List GateMend) (s:GateShape) (row:List Nm):List Nm:=match s.Fields.find? (nextF ms s row) with
 | some f=>row++[f.Name]
 | none=>row
def rowM (ms:List GateMend) (s:GateShape):List Nm:=s.Fields.foldl (fun row _=>stepR ms s row) []
theorem stepR_len (ms:List GateMend) (s:GateShape) (row:List Nm):(stepR ms s row).length≤row.length+1:=by
 unfold stepR
 split<;>simp
theorem l3Row_e {k:Nat} {ms:List GateMend} {s:GateShape} (hk:4194304*4≤k) (hm:ms.length≤1048576) (hs:s.Fields.length≤1048576):spec_l3Row k s ms=some (rowM ms s):=by
 unfold spec_l3Row
 simp only [share]
 have inner:∀ (J:List GateMend→GateShape→Int→List Nm→Option (List Nm)) (n:Int) (row:List Nm) (k:Nat),4194304*3≤k→row.length≤1048576→
   iter (ts:=spec_l3Row_L6_ts) (R:=List (List UInt8)) k (spec_l3Row_L6 J) ms s n (0:Int) row=J ms s n (stepR ms s row):=by
  intro J n row k hk hr
  have h:=loop_find (x:=s.Fields) (p:=nextF ms s row) (B:=8388608) (l:=fun k i=>iter (ts:=spec_l3Row_L6_ts) (R:=List (List UInt8)) k (spec_l3Row_L6 J) ms s n i row) (E:=J ms s n row) (O:=fun f=>J ms s n (row++[f.Name]))
   (fun k=>by simp only [iter,spec_l3Row_L6,ilt_e,cond_false]<;>rfl)
   (fun k i hi hb=>by
    simp only [iter,spec_l3Row_L6,share,ilt_n hi,inb_n hi,cond_true,req_t,nth_i hi,iadd_n hs hi,l1Has_e (show 4194304≤k by omega) hr,l3Ready_e hb hm hr,Option.bind_some,nextF]
    rw [appB_t (by simp;omega) (by omega)]
    have e1:(row.any fun y=>seq y s.Fields[i].Name)=hasN row s.Fields[i].Name:=rfl
    rw [e1]
    cases hasN row s.Fields[i].Name<;>cases readyN ms s.Kind s.Fields[i].Name row<;>rfl) k (by omega)
  refine h.trans ?_
  unfold stepR
  cases s.Fields.find? (nextF ms s row)<;>rfl
 have h:=loop_fold (S:=List Nm) (x:=s.Fields) (f:=fun row _=>stepR ms s row) (B:=4194304*3) (l:=fun k row i=>iter (ts:=spec_l3Row_L3_ts) (R:=List (List UInt8)) k (spec_l3Row_L3 fun v=>some v) ms s i row) (J:=fun row=>some row) (fun i row=>row.length≤i)
  (fun k row _=>by simp only [iter,spec_l3Row_L3,ilt_e,cond_false]<;>rfl)
  (fun k i row hi hb hI=>⟨by
   simp only [iter,spec_l3Row_L3,share,ilt_n hi,cond_true]
   refine (inner _ _ _ _ hb (by omega)).trans ?_
   rw [iadd_n hs hi],Nat.le_trans (stepR_len ms s row) (by omega)⟩) k [] (by omega) (by simp)
 exact h
section
variable (R:Nm→List Nm) (N:List Nm)
structure Topo (out:List Nm):Prop where
 nd:out.Nodup
 rd:∀ pre x post,out=pre++x::post→∀ y,y∈R x→y∈pre
structure Full (L:List Nm):Prop where
 topo:Topo R L
 all:∀ y,y∈N→y∈L
 sub:∀ y,y∈L→y∈N
variable {R N}
theorem Topo.nil:Topo R []:=⟨List.nodup_nil,fun pre x post h=>by simp at h⟩
theorem Topo.snoc {out:List Nm} {x:Nm} (h:Topo R out) (hx:x ∉ out) (hr:∀ y,y∈R x→y∈out):Topo R (out++[x]):=by
 refine ⟨List.nodup_append.2 ⟨h.nd,by simp,fun a ha b hb=>by simp at hb;subst hb;exact fun e=>hx (e▸ha)⟩,fun pre z post e y hy=>?_⟩
 rcases List.append_eq_append_iff.1 e with ⟨cs,h1,h2⟩ | ⟨bs,h1,h2⟩
 ·cases cs with
  | nil=>
   simp only [List.nil_append,List.cons.injEq] at h2
   rw [List.append_nil] at h1
   rw [h1]
   exact hr y (h2.1▸hy)
  | cons a cs=>simp at h2
 ·cases bs with
  | nil=>
   simp only [List.nil_append,List.cons.injEq] at h2
   rw [List.append_nil] at h1
   rw [← h1]
   exact hr y (h2.1▸hy)
  | cons b bs=>
   simp only [List.cons_append,List.cons.injEq] at h2
   obtain ⟨rfl,_⟩:=h2
   exact h.rd pre z bs h1 y hy
theorem Topo.lt {L:List Nm} (h:Topo R L) {x y:Nm} (hx:x∈L) (hy:y∈R x):y∈L∧L.idxOf y < L.idxOf x:=by
 obtain ⟨pre,post,e⟩:=List.append_of_mem hx
 have hp:=h.rd pre x post e y hy
 have hnd:=h.nd
 rw [e] at hnd
 have hxp:x ∉ pre:=fun hm=>(List.nodup_append.1 hnd).2.2 x hm x (by simp) rfl
 refine ⟨by rw [e];simp [hp],?_⟩
 rw [e,List.idxOf_append,if_pos hp,List.idxOf_append,if_neg hxp,List.idxOf_cons_self,Nat.zero_add]
 exact List.idxOf_lt_length_iff.2 hp
end
theorem stepR_cases (ms:List GateMend) (s:GateShape) (row:List Nm):(∃ f,f∈s.Fields∧f.Name ∉ row∧(∀ y,y∈reads ms s.Kind f.Name→y∈row)∧stepR ms s row=row++[f.Name])∨
  ((∀ f,f∈s.Fields→nextF ms s row f=false)∧stepR ms s row=row):=by
 unfold stepR
 cases h:s.Fields.find? (nextF ms s row) with
 | some f=>
  have h1:=List.find?_some h
  simp only [nextF,Bool.and_eq_true,Bool.not_eq_true'] at h1
  refine .inl ⟨f,List.mem_of_find?_eq_some h,fun hm=>?_,fun y hy=>?_,rfl⟩
  ·rw [hasN_iff.2 hm] at h1;cases h1.1
  ·exact hasN_iff.1 (List.all_eq_true.1 h1.2 y hy)
 | none=>exact .inr ⟨fun f hf=>by simpa using List.find?_eq_none.1 h f hf,rfl⟩
def names (s:GateShape):List Nm:=s.Fields.map (·.Name)
theorem rowM_topo (ms:List GateMend) (s:GateShape):Topo (reads ms s.Kind) (rowM ms s)∧∀ y,y∈rowM ms s→y∈names s:=by
 have key:∀ (l:List GateField) (row:List Nm),Topo (reads ms s.Kind) row→(∀ y,y∈row→y∈names s)→Topo (reads ms s.Kind) (l.foldl (fun row _=>stepR ms s row) row)∧∀ y,y∈l.foldl (fun row _=>stepR ms s row) row→y∈names s:=by
  intro l
  induction l with
  | nil=>exact fun row h1 h2=>⟨h1,h2⟩
  | cons a r ih=>
   intro row h1 h2
   rw [List.foldl_cons]
   rcases stepR_cases ms s row with ⟨f,q1,q2,q3,q4⟩ | ⟨_,q⟩
   ·rw [q4]
    refine ih _ (h1.snoc q2 q3) fun y hy=>?_
    rcases List.mem_append.1 hy with h | h
    ·exact h2 y h
    ·simp at h;subst h;exact List.mem_map_of_mem q1
   ·rw [q];exact ih _ h1 h2
 exact key s.Fields [] Topo.nil (fun y h=>by cases h)
theorem rowM_full {ms:List GateMend} {s:GateShape} (hnd:(names s).Nodup) {L:List Nm} (hL:Full (reads ms s.Kind) (names s) L):(rowM ms s).length=s.Fields.length:=by
 have hlen:(names s).length=s.Fields.length:=by simp [names]
 have step:∀ row:List Nm,row.Nodup→(∀ y,y∈row→y∈names s)→row.length < s.Fields.length→∃ f,f∈s.Fields∧nextF ms s row f=true:=by
  intro row h1 h2 h3
  have:∃ x,L.find? (fun y=>!hasN row y)=some x:=by
   cases h:L.find? (fun y=>!hasN row y) with
   | some x=>exact ⟨x,rfl⟩
   | none=>
    have hall:=List.find?_eq_none.1 h
    have hsub:∀ y,y∈names s→y∈row:=fun y hy=>by
     have:=hall y (hL.all y hy)
     simp only [Bool.not_eq_true',Bool.not_eq_false] at this
     exact hasN_iff.1 (by simpa using this)
    have:=hnd.length_le_of_subset hsub
    omega
  obtain ⟨x,hx⟩:=this
  have hxL:=List.mem_of_find?_eq_some hx
  obtain ⟨f,hf,rfl⟩:=List.mem_map.1 (hL.sub x hxL)
  refine ⟨f,hf,?_⟩
  simp only [nextF,Bool.and_eq_true]
  refine ⟨List.find?_some (p:=fun y=>!hasN row y) hx,List.all_eq_true.2 fun y hy=>?_⟩
  obtain ⟨hp,pre,post,e,hpre⟩:=List.find?_eq_some_iff_append.1 hx
  have:=hpre y (hL.topo.rd pre f.Name post e y hy)
  simpa using this
 have key:∀ (l:List GateField) (row:List Nm),row.Nodup→(∀ y,y∈row→y∈names s)→Topo (reads ms s.Kind) row→row.length+l.length=s.Fields.length→(l.foldl (fun row _=>stepR ms s row) row).length=s.Fields.length:=by
  intro l
  induction l with
  | nil=>intro row _ _ _ h;simpa using h
  | cons a r ih=>
   intro row h1 h2 h4 h3
   rw [List.length_cons] at h3
   rw [List.foldl_cons]
   rcases stepR_cases ms s row with ⟨f,q1,q2,q3,q4⟩ | ⟨q1,_⟩
   ·rw [q4]
    have ht:=h4.snoc q2 q3
    refine ih _ ht.nd (fun y hy=>?_) ht (by simp;omega)
    rcases List.mem_append.1 hy with h | h
    ·exact h2 y h
    ·simp at h;subst h;exact List.mem_map_of_mem q1
   ·obtain ⟨f,hf,hn⟩:=step row h1 h2 (by omega)
    rw [q1 f hf] at hn;cases hn
 exact key s.Fields [] List.nodup_nil (fun y h=>by cases h) Topo.nil (by simp)
theorem rowM_iff {ms:List GateMend} {s:GateShape} (hnd:(names s).Nodup):(rowM ms s).length=s.Fields.length↔∃ L,Full (reads ms s.Kind) (names s) L:=by
 constructor
 ·intro h
  obtain ⟨h1,h2⟩:=rowM_topo ms s
  refine ⟨rowM ms s,h1,fun y hy=>?_,h2⟩
  cases hc:hasN (rowM ms s) y with
  | true=>exact hasN_iff.1 hc
  | false=>
   have hny:y ∉ rowM ms s:=fun hm=>by rw [hasN_iff.2 hm] at hc;cases hc
   have h3:(y::rowM ms s).Nodup:=List.nodup_cons.2 ⟨hny,h1.nd⟩
   have h4:=h3.length_le_of_subset (l₂:=names s) fun z hz=>by
    rcases List.mem_cons.1 hz with e | e
    ·exact e▸hy
    ·exact h2 z e
   simp only [List.length_cons,names,List.length_map] at h4
   omega
 ·rintro ⟨L,hL⟩
  exact rowM_full hnd hL
def setS (n:Nm) (v:Int) (st:List Pair):List Pair:=mput (fun p:Pair=>seq n p.Key) st ⟨n,v⟩
theorem seen1_set (n n':Nm) (v:Int) (st:List Pair):seen1 n' (setS n v st)=cond (seq n' n) v (seen1 n' st):=mget_mput (key:=Pair.Key) (y:=⟨n,v⟩)
theorem seen1_set_same (n:Nm) (v:Int) (st:List Pair):seen1 n (setS n v st)=v:=by rw [seen1_set,seq_self];rfl
theorem seq_ne {a b:Nm} (h:a≠b):seq a b=false:=by
 cases e:seq a b with
 | false=>rfl
 | true=>exact absurd (seq_iff.1 e) h
theorem seen1_set_other {n n':Nm} (h:n'≠n) (v:Int) (st:List Pair):seen1 n' (setS n v st)=seen1 n' st:=by rw [seen1_set,seq_ne h];rfl
section
variable {ms:List GateMend} {s:GateShape} {R:Nm→List Nm} {N:List Nm}
def fu (N G:List Nm):Nat:=8388608+(N.length+1-G.length)*1048578
theorem fu_le {N G G':List Nm} (h:G.length≤G'.length):fu N G'≤fu N G:=by unfold fu;omega
theorem fu_ge (N G:List Nm):8388608≤fu N G:=by unfold fu;omega
theorem fu_cons {N G:List Nm} {x:Nm} (h:G.length+1≤N.length):fu N (x::G)+1048578≤fu N G:=by unfold fu;simp only [List.length_cons];omega
structure DInv (R:Nm→List Nm) (N:List Nm) (st:List Pair) (out G:List Nm):Prop where
 two:∀ y,seen1 y st=2↔y∈out
 rng:∀ y,seen1 y st=0∨seen1 y st=1∨seen1 y st=2
 topo:Topo R out
 sub:∀ y,y∈out→y∈N
 gnd:G.Nodup
 gsub:∀ y,y∈G→y∈N
 g:∀ y,y∈G↔seen1 y st≠0
structure DPost (R:Nm→List Nm) (N:List Nm) (st:List Pair) (out G:List Nm) (st':List Pair) (out':List Nm):Prop where
 inv:∃ G',DInv R N st' out' G'∧G.length≤G'.length
 one:∀ y,seen1 y st'=1↔seen1 y st=1
 ext:∀ y,y∈out→y∈out'
def Ahead (L:List Nm) (st:List Pair) (x:Nm):Prop:=∀ z,seen1 z st=1→L.idxOf x < L.idxOf z
def WalkOk (R:Nm→List Nm) (N:List Nm) (ms:List GateMend) (s:GateShape) (f:Nat→Nm→List Pair→List GateMend→GateShape→List Nm→Option (Bool×List Pair×List GateMend×GateShape×List Nm)) (n:Nat):Prop:=
 ∀ k x st out G,fu N G≤k→x∈N→DInv R N st out G→N.length < n+G.length→∃ b st' out',f k x st ms s out=some (b,st',ms,s,out')∧(b=true→DPost R N st out G st' out'∧x∈out')∧∀ L,Full R N L→Ahead L st x→b=true
theorem DPost.refl {st:List Pair} {out G:List Nm} (h:DInv R N st out G):DPost R N st out G st out:=⟨⟨G,h,Nat.le_refl _⟩,fun _=>Iff.rfl,fun _ h=>h⟩
theorem DPost.ahead {st st':List Pair} {out out' G L:List Nm} (h:DPost R N st out G st' out') {x:Nm} (ha:Ahead L st x):Ahead L st' x:=fun z hz=>ha z ((h.one z).1 hz)
theorem walk_loop {f:Nat→Nm→List Pair→List GateMend→GateShape→List Nm→Option (Bool×List Pair×List GateMend×GateShape×List Nm)} {n:Nat} (hf:WalkOk R N ms s f n) {ys:List Nm} (hl:ys.length≤1048576) (hN:∀ y,y∈ys→y∈N) (x:Nm)
  (J:Nm→List Pair→List GateMend→GateShape→List Nm→Option (Bool×List Pair×List GateMend×GateShape×List Nm)):
  ∀ m i k st out G,i+m=ys.length→fu N G+m+1≤k→DInv R N st out G→N.length < n+G.length→
   ∃ b st' out',iter (ts:=impl_row_string__1_L8_ts) (R:=Bool×(List Pair)×(List GateMend)×GateShape×(List (List UInt8))) k (impl_row_string__1_L8 f J) x ys (ys.length:Int) (i:Int) st ms s out=(cond b (J x st' ms s out') (some (false,st',ms,s,out')))∧
    (b=true→DPost R N st out G st' out'∧∀ y,y∈ys.drop i→y∈out')∧∀ L,Full R N L→(∀ y,y∈ys.drop i→Ahead L st y)→b=true:=by
 intro m
 induction m with
 | zero=>
  intro i k st out G h hk hi _
  obtain ⟨k,rfl⟩:∃ q,k=q+1:=⟨k-1,by omega⟩
  obtain rfl:i=ys.length:=by omega
  refine ⟨true,st,out,?_,fun _=>⟨.refl hi,fun y hy=>by simp at hy⟩,fun _ _ _=>rfl⟩
  simp only [iter,impl_row_string__1_L8,ilt_e,cond_false]<;>rfl
 | succ m ih=>
  intro i k st out G h hk hi hg
  obtain ⟨k,rfl⟩:∃ q,k=q+1:=⟨k-1,by omega⟩
  have hlt:i < ys.length:=by omega
  obtain ⟨b,st1,out1,h1,h2,h3⟩:=hf k ys[i] st out G (by omega) (hN _ (mem_i hlt)) hi hg
  rw [List.drop_eq_getElem_cons hlt]
  cases b with
  | false=>
   refine ⟨false,st1,out1,?_,(fun h=>by cases h),fun L hL ha=>h3 L hL (ha _ (List.mem_cons_self ..))⟩
   simp only [iter,impl_row_string__1_L8,ilt_n hlt,inb_n hlt,cond_true,req_t,nth_i hlt,h1,Option.bind_some]<;>rfl
  | true=>
   obtain ⟨p1,p2⟩:=h2 rfl
   obtain ⟨G1,hi1,hg1⟩:=p1.inv
   obtain ⟨b,st2,out2,k1,k2,k3⟩:=ih (i+1) k st1 out1 G1 (by omega) (by have:=fu_le (N:=N) hg1;omega) hi1 (by omega)
   refine ⟨b,st2,out2,?_,fun hb=>?_,fun L hL ha=>k3 L hL fun y hy=>p1.ahead (ha y (List.mem_cons_of_mem _ hy))⟩
   ·simp only [iter,impl_row_string__1_L8,ilt_n hlt,inb_n hlt,cond_true,req_t,nth_i hlt,h1,Option.bind_some,iadd_n hl hlt]
    exact k1
   ·obtain ⟨q1,q2⟩:=k2 hb
    obtain ⟨G2,hi2,hg2⟩:=q1.inv
    refine ⟨⟨⟨G2,hi2,by omega⟩,fun y=>(q1.one y).trans (p1.one y),fun y hy=>q1.ext y (p1.ext y hy)⟩,fun y hy=>?_⟩
    rcases List.mem_cons.1 hy with e | e
    ·exact e▸q1.ext _ p2
    ·exact q2 y e
theorem walk_ok (hms:ms.length≤1048576) (hR:∀ x,x∈N→∀ y,y∈reads ms s.Kind x→y∈N) (hRl:∀ x,(reads ms s.Kind x).length≤1048576) (hNl:N.length≤1048576):∀ n,WalkOk (reads ms s.Kind) N ms s (impl_row_string__1 n) n
 | 0=>fun k x st out G _ _ hi hg=>by
  have:=hi.gnd.length_le_of_subset hi.gsub
  omega
 | n+1=>fun k x st out G hk hx hi hg=>by
  have ih:=walk_ok hms hR hRl hNl n
  have e0:mget (fun p:Pair=>seq x p.Key) (fun p:Pair=>p.Val) (0:Int) st=seen1 x st:=rfl
  simp only [impl_row_string__1,e0,share]
  rcases hi.rng x with h0 | h0 | h0
  ·
   rw [h0]
   have i1:DInv (reads ms s.Kind) N (setS x 1 st) out (x::G):=by
    have hxG:x ∉ G:=fun h=>(hi.g x).1 h h0
    refine ⟨fun y=>?_,fun y=>?_,hi.topo,hi.sub,List.nodup_cons.2 ⟨hxG,hi.gnd⟩,fun y hy=>?_,fun y=>?_⟩
    ·by_cases e:y=x
     ·subst e
      rw [seen1_set_same]
      exact ⟨fun h=>by omega,fun h=>by have:=(hi.two y).2 h;omega⟩
     ·rw [seen1_set_other e];exact hi.two y
    ·by_cases e:y=x
     ·subst e;rw [seen1_set_same];exact .inr (.inl rfl)
     ·rw [seen1_set_other e];exact hi.rng y
    ·rcases List.mem_cons.1 hy with e | e
     ·exact e▸hx
     ·exact hi.gsub y e
    ·by_cases e:y=x
     ·subst e;rw [seen1_set_same];simp
     ·rw [seen1_set_other e,List.mem_cons]
      exact ⟨fun h=>(hi.g y).1 (h.resolve_left e),fun h=>.inr ((hi.g y).2 h)⟩
   have hGl:(x::G).length≤N.length:=i1.gnd.length_le_of_subset i1.gsub
   have hfu:fu N (x::G)+1048578≤fu N G:=fu_cons (by simpa using hGl)
   have:=fu_ge N G
   have hrow:=rowOf1_e (name:=x) (s:=s) (show 4194304≤k by omega) hms
   let J:Nm→List Pair→List GateMend→GateShape→List Nm→Option (Bool×List Pair×List GateMend×GateShape×List Nm):=fun v39 v40 v41 v42 v43=>
    req (appB (v43.length+([v39]:List (List UInt8)).length) 16) (some (true,(mput (fun p:Pair=>seq v39 p.Key) v40 (⟨v39,(2:Int)⟩:Pair)),v41,v42,(v43++([v39]:List (List UInt8)))))
   have hrl:=hRl x
   obtain ⟨b,st2,out2,k1,k2,k3⟩:=walk_loop ih hrl (hR x hx) x J (reads ms s.Kind x).length 0 k (setS x 1 st) out (x::G) (by omega) (by omega) i1 (by simp;omega)
   simp only [hrow,Option.bind_some]
   have e1:(mput (fun p:Pair=>seq x p.Key) st (⟨x,(1:Int)⟩:Pair))=setS x 1 st:=rfl
   have k1':iter (ts:=impl_row_string__1_L8_ts) (R:=Bool×(List Pair)×(List GateMend)×GateShape×(List (List UInt8))) k (impl_row_string__1_L8 (impl_row_string__1 n) J) x (reads ms s.Kind x) ((reads ms s.Kind x).length:Int) (0:Int) (setS x 1 st) ms s out=(cond b (J x st2 ms s out2) (some (false,st2,ms,s,out2))):=k1
   cases b with
   | false=>
    refine ⟨false,st2,out2,by rw [show ieq 0 1=false from rfl,show ieq 0 2=false from rfl];exact k1',(fun h=>by cases h),fun L hL ha=>?_⟩
    refine k3 L hL fun y hy z hz=>?_
    have hlt:=(hL.topo.lt (hL.all x hx) (by simpa using hy)).2
    by_cases e:z=x
    ·rw [e];exact hlt
    ·rw [seen1_set_other e] at hz
     exact Nat.lt_trans hlt (ha z hz)
   | true=>
    obtain ⟨q1,q2⟩:=k2 rfl
    obtain ⟨G2,hi2,hg2⟩:=q1.inv
    have hx1:seen1 x st2=1:=(q1.one x).2 (seen1_set_same _ _ _)
    have hxo:x ∉ out2:=fun h=>by have:=(hi2.two x).2 h;omega
    have hlen:out2.length≤1048576:=Nat.le_trans (hi2.topo.nd.length_le_of_subset hi2.sub) hNl
    refine ⟨true,setS x 2 st2,out2++[x],?_,fun _=>⟨⟨⟨G2,⟨fun y=>?_,fun y=>?_,hi2.topo.snoc hxo fun y hy=>q2 y (by simpa using hy),fun y hy=>?_,hi2.gnd,hi2.gsub,fun y=>?_⟩,?_⟩,fun y=>?_,fun y hy=>?_⟩,by simp⟩,fun _ _ _=>rfl⟩
    ·rw [show ieq 0 1=false from rfl,show ieq 0 2=false from rfl]
     refine k1'.trans ?_
     show req (appB (out2.length+1) 16) _=_
     rw [appB_t (by omega) (by omega)];rfl
    ·by_cases e:y=x
     ·subst e;rw [seen1_set_same];simp
     ·rw [seen1_set_other e,hi2.two y];simp [e]
    ·by_cases e:y=x
     ·subst e;rw [seen1_set_same];exact .inr (.inr rfl)
     ·rw [seen1_set_other e];exact hi2.rng y
    ·rcases List.mem_append.1 hy with h | h
     ·exact hi2.sub y h
     ·simp at h;exact h▸hx
    ·by_cases e:y=x
     ·subst e;rw [seen1_set_same,hi2.g y,hx1];simp
     ·rw [seen1_set_other e];exact hi2.g y
    ·simp only [List.length_cons] at hg2;omega
    ·by_cases e:y=x
     ·subst e;rw [seen1_set_same];omega
     ·rw [seen1_set_other e,q1.one y,seen1_set_other e]
    ·exact List.mem_append_left _ (q1.ext y hy)
  ·
   rw [h0]
   exact ⟨false,st,out,rfl,(fun h=>by cases h),fun L _ ha=>absurd (ha x h0) (Nat.lt_irrefl _)⟩
  ·
   rw [h0]
   exact ⟨true,st,out,rfl,fun _=>⟨.refl hi,(hi.two x).1 h0⟩,fun _ _ _=>rfl⟩
theorem row_loop (hw:∀ n,WalkOk R N ms s (impl_row_string__1 n) n) {xs:List Nm} (hl:xs.length≤1048576) (hN:∀ y,y∈xs→y∈N) (hNl:N.length≤1048576)
  (J:List GateMend→GateShape→List Nm→Option (List Nm×Bool×List GateMend×GateShape)):
  ∀ m i k st out G,i+m=xs.length→fu N G+m+1≤k→DInv R N st out G→(∀ z,seen1 z st≠1)→
   ∃ b st' out',iter (ts:=impl_row_string__L6_ts) (R:=(List (List UInt8))×Bool×(List GateMend)×GateShape) k (impl_row_string__L6 J) xs (xs.length:Int) (i:Int) ms s out st=(cond b (J ms s out') (some ([],false,ms,s)))∧
    (b=true→DPost R N st out G st' out'∧∀ y,y∈xs.drop i→y∈out')∧∀ L,Full R N L→b=true:=by
 intro m
 induction m with
 | zero=>
  intro i k st out G h hk hi _
  obtain ⟨k,rfl⟩:∃ q,k=q+1:=⟨k-1,by omega⟩
  obtain rfl:i=xs.length:=by omega
  refine ⟨true,st,out,?_,fun _=>⟨.refl hi,fun y hy=>by simp at hy⟩,fun _ _=>rfl⟩
  simp only [iter,impl_row_string__L6,ilt_e,cond_false]<;>rfl
 | succ m ih=>
  intro i k st out G h hk hi hz
  obtain ⟨k,rfl⟩:∃ q,k=q+1:=⟨k-1,by omega⟩
  have hlt:i < xs.length:=by omega
  have:=fu_ge N G
  obtain ⟨b,st1,out1,h1,h2,h3⟩:=hw k k xs[i] st out G (by omega) (hN _ (mem_i hlt)) hi (by omega)
  rw [List.drop_eq_getElem_cons hlt]
  cases b with
  | false=>
   refine ⟨false,st1,out1,?_,(fun h=>by cases h),fun L hL=>h3 L hL fun z hz'=>absurd hz' (hz z)⟩
   simp only [iter,impl_row_string__L6,ilt_n hlt,inb_n hlt,cond_true,req_t,nth_i hlt,h1,Option.bind_some]<;>rfl
  | true=>
   obtain ⟨p1,p2⟩:=h2 rfl
   obtain ⟨G1,hi1,hg1⟩:=p1.inv
   obtain ⟨b,st2,out2,k1,k2,k3⟩:=ih (i+1) k st1 out1 G1 (by omega) (by have:=fu_le (N:=N) hg1;omega) hi1 fun z hz'=>hz z ((p1.one z).1 hz')
   refine ⟨b,st2,out2,?_,fun hb=>?_,k3⟩
   ·simp only [iter,impl_row_string__L6,ilt_n hlt,inb_n hlt,cond_true,req_t,nth_i hlt,h1,Option.bind_some,iadd_n hl hlt]
    exact k1
   ·obtain ⟨q1,q2⟩:=k2 hb
    obtain ⟨G2,hi2,hg2⟩:=q1.inv
    refine ⟨⟨⟨G2,hi2,by omega⟩,fun y=>(q1.one y).trans (p1.one y),fun y hy=>q1.ext y (p1.ext y hy)⟩,fun y hy=>?_⟩
    rcases List.mem_cons.1 hy with e | e
    ·exact e▸q1.ext _ p2
    ·exact q2 y e
theorem names_fold (l:List GateField) (q:List Nm):l.foldl (fun (q:List Nm) f=>q++[f.Name]) q=q++l.map (·.Name):=by
 induction l generalizing q with
 | nil=>simp
 | cons a r ih=>rw [List.foldl_cons,ih];simp
theorem rowOf_e (hms:ms.length≤1048576) (hR:∀ x,x∈names s→∀ y,y∈reads ms s.Kind x→y∈names s) (hRl:∀ x,(reads ms s.Kind x).length≤1048576) (hNl:s.Fields.length≤6) {k:Nat} (hk:4194304*5≤k):
  ∃ b row,impl_rowOf k s ms=some (row,b)∧(b=true→Full (reads ms s.Kind) (names s) row)∧((∃ L,Full (reads ms s.Kind) (names s) L)→b=true):=by
 have hNl':(names s).length≤6:=by simp only [names,List.length_map];exact hNl
 have i0:DInv (reads ms s.Kind) (names s) [] [] []:=⟨fun y=>by simp [seen1,mget],fun y=>.inl rfl,Topo.nil,(fun y h=>by cases h),List.nodup_nil,(fun y h=>by cases h),fun y=>by simp [seen1,mget]⟩
 let J:List GateMend→GateShape→List Nm→Option (List Nm×Bool×List GateMend×GateShape):=fun v23 v24 v25=>some (v25,true,v23,v24)
 obtain ⟨b,st',out',h1,h2,h3⟩:=row_loop (walk_ok hms hR hRl (by omega)) (by omega) (fun y h=>h) (by omega) J (names s).length 0 k [] [] [] (by omega) (by simp only [fu,List.length_nil];omega) i0 fun z hz=>by simp [seen1,mget] at hz
 have hrow:impl_row_string_ k (names s) ms s=cond b (some (out',true,ms,s)) (some ([],false,ms,s)):=by
  unfold impl_row_string_
  simp only [share]
  exact h1
 have hof:impl_rowOf k s ms=cond b (some (out',true)) (some ([],false)):=by
  unfold impl_rowOf
  simp only [share]
  have h:=fun J:GateShape→List GateMend→List Nm→Option (List Nm×Bool)=>loop_fold (S:=List Nm) (x:=s.Fields) (f:=fun q f=>q++[f.Name]) (B:=0) (l:=fun k q i=>iter (ts:=impl_rowOf_L3_ts) (R:=(List (List UInt8))×Bool) k (impl_rowOf_L3 J) s.Fields (s.Fields.length:Int) i s ms q)
   (J:=fun q=>J s ms q) (fun i q=>q.length=i)
   (fun k q _=>by simp only [iter,impl_rowOf_L3,ilt_e,cond_false]<;>rfl)
   (fun k i q hi _ hq=>⟨by
    simp only [iter,impl_rowOf_L3,ilt_n hi,inb_n hi,cond_true,req_t,nth_i hi,iadd_n (show s.Fields.length≤1048576 by omega) hi]
    rw [appB_t (by simp;omega) (by omega)];rfl,by simp [hq]⟩) k [] (by omega) rfl
  refine (h _).trans ?_
  rw [names_fold,List.nil_append]
  change (impl_row_string_ k (names s) ms s).bind _=_
  rw [hrow]
  cases b<;>rfl
 cases b with
 | false=>exact ⟨false,[],hof,(fun h=>by cases h),fun ⟨L,hL⟩=>h3 L hL⟩
 | true=>
  obtain ⟨p,q⟩:=h2 rfl
  obtain ⟨G',hi',_⟩:=p.inv
  exact ⟨true,out',hof,fun _=>⟨hi'.topo,fun y h=>q y (by simpa using h),fun y h=>hi'.sub y h⟩,fun _=>rfl⟩
end
theorem distF_nodup:∀ {r:List GateField} {q:List Nm},distF q r=true→(r.map (·.Name)).Nodup∧∀ y,y∈r.map (·.Name)→y ∉ q
 | [],_,_=>⟨List.nodup_nil,fun _ h=>by cases h⟩
 | f::r,q,h=>by
  simp only [distF,Bool.and_eq_true,Bool.not_eq_true'] at h
  obtain ⟨h1,h2⟩:=h
  obtain ⟨h3,h4⟩:=distF_nodup h2
  refine ⟨List.nodup_cons.2 ⟨fun hm=>h4 _ hm (by simp),h3⟩,fun y hy hq=>?_⟩
  rcases List.mem_cons.1 hy with e | e
  ·have:q.any (fun y=>seq y f.Name)=true:=List.any_eq_true.2 ⟨y,hq,seq_iff.2 e⟩
   rw [h1] at this;cases this
  ·exact h4 y e (by simp [hq])
theorem find_kind:∀ {xs:List GateShape} {s:GateShape} {n:Nm},(kinds xs).Nodup→s∈xs→s.Kind=n→xs.find? (fun s=>seq s.Kind n)=some s
 | [],_,_,_,h,_=>by cases h
 | a::r,s,n,hn,hs,e=>by
  simp only [kinds,List.map_cons,List.nodup_cons] at hn
  rw [List.find?_cons]
  rcases List.mem_cons.1 hs with h | h
  ·subst h
   rw [show seq s.Kind n=true from seq_iff.2 e]
  ·cases ha:seq a.Kind n with
   | true=>
    have hm:s.Kind∈r.map (·.Kind):=List.mem_map_of_mem h
    rw [e,← seq_iff.1 ha] at hm
    exact absurd hm hn.1
   | false=>exact find_kind hn.2 h e
theorem plain_mem {fs:List GateField} {n:Nm} (h:plainN fs n=true):n∈fs.map (·.Name):=by
 unfold plainN fieldN at h
 cases e:fs.find? fun f=>seq f.Name n with
 | none=>rw [e] at h;cases h
 | some f=>
  have h1:=List.find?_some e
  have h2:=List.mem_of_find?_eq_some e
  rw [← seq_iff.1 h1];exact List.mem_map_of_mem h2
theorem readOf_in {xs:List GateShape} {s:GateShape} {m:GateMend} (hn:(kinds xs).Nodup) (hs:s∈xs) (hm:mendsOkS xs m=true) {x y:Nm} (hy:y∈readOf s.Kind x m):y∈names s:=by
 unfold readOf at hy
 cases h1:seq m.Kind s.Kind with
 | false=>rw [h1] at hy;cases hy
 | true=>
  rw [h1] at hy
  cases h2:seq m.Field x with
  | false=>rw [h2] at hy;cases hy
  | true=>
   rw [h2] at hy
   simp only [Bool.and_self,cond_true,List.mem_append] at hy
   have hf:=find_kind hn hs (seq_iff.1 h1).symm
   unfold mendsOkS at hm
   rw [hf] at hm
   simp only [mendOk,Bool.and_eq_true,Bool.or_eq_true] at hm
   obtain ⟨_,h4,h5,_⟩:=hm
   rcases hy with hy | hy
   ·cases h6:seq m.When [] with
    | true=>rw [h6] at hy;cases hy
    | false=>
     rw [h6] at hy
     simp only [cond_false,List.mem_singleton] at hy
     subst hy
     exact plain_mem (h4.resolve_left (by rw [h6];exact Bool.false_ne_true))
   ·cases h6:seq m.From [] with
    | true=>rw [h6] at hy;cases hy
    | false=>
     rw [h6] at hy
     simp only [cond_false,List.mem_singleton] at hy
     subst hy
     exact plain_mem (h5.resolve_left (by rw [h6];exact Bool.false_ne_true))
theorem reads_len {ms:List GateMend} {kind x:Nm}:(reads ms kind x).length≤2*ms.length:=by
 induction ms with
 | nil=>simp [reads]
 | cons a r ih=>
  have:=readOf_len kind x a
  simp only [reads,List.flatMap_cons,List.length_append,List.length_cons] at *
  omega
def mendsOk (xs:List GateShape) (ms:List GateMend):Bool:=
 shapesOk xs&&(ile (ms.length:Int) 12&&(ms.all (mendsOkS xs)&&xs.all fun s=>ieq ((rowM ms s).length:Int) (s.Fields.length:Int)))
theorem specMendsOk_e {k:Nat} {xs:List GateShape} {ms:List GateMend} (hk:4194304*6≤k) (hx:sdS GateShape.sd xs) (hm:sdS GateMend.sd ms):spec_GateMendsOk k xs ms=some (mendsOk xs ms):=by
 unfold spec_GateMendsOk mendsOk
 have h4:=fun J:List GateShape→List GateMend→Option Bool=>loop_all (R:=Option Bool) (x:=ms) (p:=mendsOkS xs) (B:=4194304) (l:=fun k i=>iter (ts:=spec_GateMendsOk_L4_ts) (R:=Bool) k (spec_GateMendsOk_L4 J) xs ms i) (E:=J xs ms) (O:=some false)
  (fun k=>by simp only [iter,spec_GateMendsOk_L4,ilt_e,cond_false]<;>rfl)
  (fun k i hi hb=>by
   simp only [iter,spec_GateMendsOk_L4,ilt_n hi,inb_n hi,cond_true,req_t,nth_i hi,iadd_n hm.1 hi,specMend_e hb hx (hm.2 _ (mem_i hi)),Option.bind_some]
   cases mendsOkS xs ms[i]<;>rfl) k (by have:=hm.1;omega)
 have h9:=loop_all (R:=Option Bool) (x:=xs) (p:=fun s=>ieq ((rowM ms s).length:Int) (s.Fields.length:Int)) (B:=4194304*4) (l:=fun k i=>iter (ts:=spec_GateMendsOk_L9_ts) (R:=Bool) k (spec_GateMendsOk_L9 (some true)) xs ms i) (E:=some true) (O:=some false)
  (fun k=>by simp only [iter,spec_GateMendsOk_L9,ilt_e,cond_false]<;>rfl)
  (fun k i hi hb=>by
   simp only [iter,spec_GateMendsOk_L9,ilt_n hi,inb_n hi,cond_true,req_t,nth_i hi,iadd_n hx.1 hi,l3Row_e hb hm.1 (hx.2 _ (mem_i hi)).2.1,Option.bind_some]
   cases ieq ((rowM ms xs[i]).length:Int) (xs[i].Fields.length:Int)<;>rfl) k (by have:=hx.1;omega)
 simp only [share,specShapesOk_e hx (show 4194304*4≤k by omega),Option.bind_some,ilt_not]
 cases shapesOk xs with
 | false=>rfl
 | true=>
  cases ile (ms.length:Int) 12 with
  | false=>rfl
  | true=>
   refine (h4 _).trans ?_
   cases ms.all (mendsOkS xs) with
   | false=>rfl
   | true=>exact h9.trans (by cases xs.all fun s=>ieq ((rowM ms s).length:Int) (s.Fields.length:Int)<;>rfl)
theorem implMendsOk_e {k:Nat} {xs:List GateShape} {ms:List GateMend} (hk:4194304*7≤k) (hx:sdS GateShape.sd xs) (hm:sdS GateMend.sd ms):impl_GateMendsOk k xs ms=some (mendsOk xs ms):=by
 unfold impl_GateMendsOk mendsOk
 have h4:=fun J:List GateShape→List GateMend→Option Bool=>loop_all (R:=Option Bool) (x:=ms) (p:=mendsOkS xs) (B:=4194304) (l:=fun k i=>iter (ts:=impl_GateMendsOk_L4_ts) (R:=Bool) k (impl_GateMendsOk_L4 J) xs ms ms (ms.length:Int) i) (E:=J xs ms) (O:=some false)
  (fun k=>by simp only [iter,impl_GateMendsOk_L4,ilt_e,cond_false]<;>rfl)
  (fun k i hi hb=>by
   simp only [iter,impl_GateMendsOk_L4,share,ilt_n hi,inb_n hi,cond_true,req_t,nth_i hi,shapeOf_e hb hx.1,Option.bind_some,mendsOkS]
   rw [iadd_n hm.1 hi]
   rcases gidx_find (fun s:GateShape=>seq s.Kind ms[i].Kind) xs with ⟨h1,h2⟩ | ⟨j,hj,h1,h2,_⟩
   ·rw [h1,h2];rfl
   ·rw [h1,h2,ilt_f (by omega),inb_n hj,nth_i hj,implMend_e hb (hx.2 _ (mem_i hj)).2 (hm.2 _ (mem_i hi))]
    simp only
    cases mendOk xs[j].Fields ms[i]<;>rfl) k (by have:=hm.1;omega)
 simp only [share,implShapesOk_e hx (show 4194304*5≤k by omega),Option.bind_some,ilt_not]
 cases hsh:shapesOk xs with
 | false=>rfl
 | true=>
  cases hms:ile (ms.length:Int) 12 with
  | false=>rfl
  | true=>
   refine (h4 _).trans ?_
   cases hall:ms.all (mendsOkS xs) with
   | false=>rfl
   | true=>
    simp only [shapesOk,Bool.and_eq_true,List.all_eq_true] at hsh hall
    obtain ⟨hx6,hasc,hshs⟩:=hsh
    have hnd:=asc_nodup hasc
    have hms':=ile_le hms
    have h11:=loop_all (R:=Option Bool) (x:=xs) (p:=fun s=>ieq ((rowM ms s).length:Int) (s.Fields.length:Int)) (B:=4194304*5) (l:=fun k i=>iter (ts:=impl_GateMendsOk_L11_ts) (R:=Bool) k (impl_GateMendsOk_L11 (some true)) ms xs (xs.length:Int) i) (E:=some true) (O:=some false)
     (fun k=>by simp only [iter,impl_GateMendsOk_L11,ilt_e,cond_false]<;>rfl)
     (fun k i hi hb=>by
      have hs:=hshs _ (mem_i hi)
      simp only [shapeOk,Bool.and_eq_true] at hs
      have h6:=ile_le hs.1
      obtain ⟨b,row,h1,h2,h3⟩:=rowOf_e (ms:=ms) (s:=xs[i]) hm.1
       (fun x _ y hy=>by
        obtain ⟨m,hm1,hm2⟩:=List.mem_flatMap.1 hy
        exact readOf_in hnd (mem_i hi) (hall m hm1) hm2)
       (fun x=>by have:=reads_len (ms:=ms) (kind:=xs[i].Kind) (x:=x);omega) (by omega) hb
      have hiff:=rowM_iff (ms:=ms) (s:=xs[i]) (distF_nodup hs.2.2).1
      have eb:ieq ((rowM ms xs[i]).length:Int) (xs[i].Fields.length:Int)=b:=by
       cases b with
       | true=>
        have:=hiff.2 ⟨row,h2 rfl⟩
        simp only [ieq,beq_iff_eq];omega
       | false=>
        simp only [ieq,beq_eq_false_iff_ne]
        intro h
        have:=h3 (hiff.1 (by omega))
        cases this
      simp only [iter,impl_GateMendsOk_L11,ilt_n hi,inb_n hi,cond_true,req_t,nth_i hi,h1,Option.bind_some,iadd_n hx.1 hi,eb]
      cases b<;>rfl) k (by have:=hx.1;omega)
    exact h11.trans (by cases xs.all fun s=>ieq ((rowM ms s).length:Int) (s.Fields.length:Int)<;>rfl)
def lawOk (w:GateLaw):Bool:=mendsOk w.Shapes w.Mends&&teamsOk w.Teams
theorem specLawOk_e {k:Nat} {w:GateLaw} (hk:4194304*6≤k) (hw:w.sd):spec_GateLawOk k w=some (lawOk w):=by
 unfold spec_GateLawOk
 rw [specMendsOk_e hk hw.1 hw.2.1,specTeamsOk_e (by omega) hw.2.2]
 unfold lawOk
 cases mendsOk w.Shapes w.Mends<;>rfl
theorem implLawOk_e {k:Nat} {w:GateLaw} (hk:4194304*7≤k) (hw:w.sd):impl_GateLawOk k w=some (lawOk w):=by
 unfold impl_GateLawOk
 rw [implMendsOk_e hk hw.1 hw.2.1,implTeamsOk_e (by omega) hw.2.2]
 unfold lawOk
 cases mendsOk w.Shapes w.Mends<;>rfl
section
variable {α R S:Type} {x:List α} {B:Nat}
theorem loop_at (g:Nat→S) {l:Nat→S→Int→R} {E:R} (he:∀ k,l (k+1) (g x.length) (x.length:Int)=E)
  (h:∀ k i (hi:i < x.length),B≤k→l (k+1) (g i) (i:Int)=l k (g (i+1)) ((i+1:Nat):Int)) (k:Nat) (hk:B+x.length+1≤k):l k (g 0) 0=E:=by
 have go:∀ m i k,i+m=x.length→B+m+1≤k→l k (g i) (i:Int)=E:=by
  intro m
  induction m with
  | zero=>
   intro i k h1 h2
   obtain rfl:i=x.length:=by omega
   obtain ⟨k,rfl⟩:∃ j,k=j+1:=⟨k-1,by omega⟩
   exact he k
  | succ m ih=>
   intro i k h1 h2
   obtain ⟨k,rfl⟩:∃ j,k=j+1:=⟨k-1,by omega⟩
   rw [h k i (by omega) (by omega)]
   exact ih (i+1) k (by omega) (by omega)
 exact go x.length 0 k (by omega) (by omega)
end
def opt {β R:Type} (o:Option β) (O:β→R) (E:R):R:=match o with
 | some c=>O c
 | none=>E
theorem loop_opt {α β R:Type} {x:List α} {B:Nat} {g:Nat→α→Option β} {l:Nat→Int→R} {E:R} {O:β→R} (he:∀ k,l (k+1) (x.length:Int)=E)
  (h:∀ k i (hi:i < x.length),B≤k→l (k+1) (i:Int)=opt (g i x[i]) O (l k ((i+1:Nat):Int))) (k:Nat) (hk:B+x.length+1≤k):l k 0=opt (first g x 0) O E:=by
 have:=loop_first (g:=g) (l:=l) (E:=E) (O:=O) he (fun k i hi hb=>by rw [h k i hi hb];cases g i x[i]<;>rfl) k hk
 rw [this]
 cases first g x 0<;>rfl
def lenO (o:GateObject):Prop:=o.Values.length≤1048576∧o.Holds.length≤1048576
theorem lenO_sd {o:GateObject} (h:o.sd):lenO o:=⟨h.2.2.2.1.1,h.2.2.2.2.2.1.1⟩
theorem l2Copy2_e {k:Nat} {o:GateObject} (h:lenO o):spec_l2Copy_2 k o=some (o.Kind,o.Name,o.Team,o.Ending,o.Version,o.Values,o.Holds):=by
 unfold spec_l2Copy_2
 have h1:=h.1
 have h2:=h.2
 rw [appB_t (by simp;omega) (by omega),appB_t (by simp;omega) (by omega)]
 rfl
theorem leq_self (n:Nat):leq n n=true:=by simp [leq]
theorem copyTexts2_e {k:Nat} {x:List Nm} (h:x.length≤1048576):impl_copyTexts_2 k x=some x:=by
 unfold impl_copyTexts_2
 cases x with
 | nil=>rfl
 | cons a r=>
  rw [mkB_t h (by omega),show ieq ((a::r).length:Int) 0=false by simp only [List.length_cons,ieq,beq_eq_false_iff_ne];omega,ilt_0 (by simp),List.length_replicate,Int.toNat_natCast,leq_self]
  rfl
theorem copyTexts_e {k:Nat} {x:List Nm} (h:x.length≤1048576):impl_copyTexts k x=some x:=by
 unfold impl_copyTexts
 cases x with
 | nil=>rfl
 | cons a r=>
  rw [mkB_t h (by omega),show ieq ((a::r).length:Int) 0=false by simp only [List.length_cons,ieq,beq_eq_false_iff_ne];omega,List.length_replicate,Int.toNat_natCast,leq_self]
  rfl
theorem twin_e {k:Nat} {o:GateObject} (h:lenO o):impl_GateObject_twin k o=some o:=by
 unfold impl_GateObject_twin
 rw [copyTexts_e h.1,copyTexts_e h.2];rfl
theorem twin2_e {k:Nat} {o:GateObject} (h:lenO o):impl_GateObject_twin_2 k o=some (o.Kind,o.Name,o.Team,o.Ending,o.Version,o.Values,o.Holds):=by
 unfold impl_GateObject_twin_2
 rw [copyTexts2_e h.1,copyTexts2_e h.2];rfl
theorem fieldsOf2_e {k:Nat} {xs:List GateShape} (o:GateObject) (hk:4194304≤k) (hx:xs.length≤1048576):impl_fieldsOf_2 k xs o.Kind o.Name o.Team o.Ending o.Version o.Values o.Holds=some ((fieldsM xs o).getD [],(fieldsM xs o).isSome,o.Values,o.Holds):=by
 unfold impl_fieldsOf_2 fieldsM
 rw [shapeOf_e hk hx]
 simp only [share,Option.bind_some]
 rcases gidx_find (fun s:GateShape=>seq s.Kind o.Kind) xs with ⟨h1,h2⟩ | ⟨j,hj,h1,h2,_⟩
 ·rw [h1,h2];rfl
 ·rw [h1,h2,ilt_f (by omega),inb_n hj,nth_i hj,ieq_comm (o.Values.length:Int)]
  simp only
  cases ieq (xs[j].Fields.length:Int) (o.Values.length:Int)<;>rfl
def fillG (d v:Nm):Nm:=cond (seq v []) d v
def fillTo (fs:List GateField) (vs:List Nm) (i:Nat):List Nm:=vs.mapIdx fun j v=>cond (decide (j < i)) (fillG (fs.getD j default).Default v) v
theorem fillTo_len (fs:List GateField) (vs:List Nm) (i:Nat):(fillTo fs vs i).length=vs.length:=by simp [fillTo]
theorem fillTo_0 (fs:List GateField) (vs:List Nm):fillTo fs vs 0=vs:=by
 refine List.ext_getElem (by simp [fillTo]) fun j h1 h2=>?_
 simp [fillTo]
theorem fillTo_get {fs:List GateField} {vs:List Nm} {i:Nat} (hi:i < vs.length):(fillTo fs vs i)[i]'(by rw [fillTo_len];exact hi)=vs[i]:=by simp [fillTo]
theorem fillTo_set {fs:List GateField} {vs:List Nm} {i:Nat} (hi:i < vs.length) (hf:i < fs.length):put' (fillTo fs vs i) (i:Int) (fillG fs[i].Default vs[i])=fillTo fs vs (i+1):=by
 refine List.ext_getElem (by simp [fillTo,put']) fun j h1 h2=>?_
 simp only [put',Int.toNat_natCast,List.getElem_set,fillTo,List.getElem_mapIdx]
 by_cases e:i=j
 ·subst e
  rw [if_pos rfl,decide_eq_true (show i < i+1 by omega),getD_i hf];rfl
 ·rw [if_neg e]
  congr 1
  exact decide_eq_decide.2 (by omega)
theorem fillTo_same {fs:List GateField} {vs:List Nm} {i:Nat} (hi:i < vs.length) (h:seq vs[i] []=false):fillTo fs vs i=fillTo fs vs (i+1):=by
 refine List.ext_getElem (by simp [fillTo]) fun j h1 h2=>?_
 simp only [fillTo,List.getElem_mapIdx]
 by_cases e:i=j
 ·subst e
  rw [decide_eq_true (show i < i+1 by omega),decide_eq_false (show ¬ i < i by omega)]
  simp only [cond_true,cond_false,fillG,h]
 ·congr 1
  exact decide_eq_decide.2 (by omega)
def fillO (xs:List GateShape) (o:GateObject):GateObject:=match fieldsM xs o with
 | some fs=>⟨o.Kind,o.Name,o.Team,fillTo fs o.Values fs.length,o.Ending,o.Holds,o.Version⟩
 | none=>o
theorem fillO_len (xs:List GateShape) (o:GateObject):(fillO xs o).Values.length=o.Values.length∧(fillO xs o).Holds=o.Holds∧(fillO xs o).Kind=o.Kind:=by
 unfold fillO
 cases fieldsM xs o with
 | none=>exact ⟨rfl,rfl,rfl⟩
 | some fs=>exact ⟨fillTo_len ..,rfl,rfl⟩
theorem fillO_fields (xs:List GateShape) (o:GateObject):fieldsM xs (fillO xs o)=fieldsM xs o:=by
 have h:=fillO_len xs o
 conv=>lhs;unfold fieldsM
 rw [h.1,h.2.2]
 rfl
theorem specL2Fill_e {k:Nat} {xs:List GateShape} {o:GateObject} (hk:4194304*2≤k) (hx:xs.length≤1048576) (ho:lenO o):spec_l2Fill k xs o=some (fillO xs o):=by
 unfold spec_l2Fill fillO
 rw [l2Copy2_e ho]
 simp only [Option.bind_some,specFields_e (show 4194304≤k by omega) hx,share]
 cases hf:fieldsM xs o with
 | none=>rfl
 | some fs=>
  have hl:=(fieldsM_some hf).1
  have ho1:=ho.1
  simp only [Option.isSome_some,Option.getD_some,Bool.not_true,cond_false]
  have h:=loop_at (R:=Option GateObject) (x:=fs) (B:=0) (fillTo fs o.Values) (l:=fun k vs i=>iter (ts:=spec_l2Fill_L6_ts) (R:=GateObject) k (spec_l2Fill_L6 (fun (v45:GateObject) (v46:List UInt8) (v47:List UInt8) (v48:List UInt8) (v49:Bool) (v50:Int) (v51:List (List UInt8)) (v52:List (List UInt8))=>some (⟨v46,v47,v48,v51,v49,v52,v50⟩:GateObject))) fs i (⟨([]:List UInt8),([]:List UInt8),([]:List UInt8),[],false,[],(0:Int)⟩:GateObject) o.Kind o.Name o.Team o.Ending o.Version vs o.Holds)
   (E:=some ⟨o.Kind,o.Name,o.Team,fillTo fs o.Values fs.length,o.Ending,o.Holds,o.Version⟩)
   (fun k=>by simp only [iter,spec_l2Fill_L6,ilt_e,cond_false]<;>rfl)
   (fun k i hi _=>by
    have hi':i < (fillTo fs o.Values i).length:=by rw [fillTo_len];omega
    have hi'':i < o.Values.length:=by omega
    simp only [iter,spec_l2Fill_L6,share,ilt_n hi,inb_n hi,inb_n hi',cond_true,req_t,nth_i hi,nth_i hi',iadd_n (show fs.length≤1048576 by omega) hi]
    rw [fillTo_get hi'']
    cases hv:seq o.Values[i] [] with
    | true=>
     rw [← fillTo_set hi'' hi]
     simp only [fillG,hv,cond_true]<;>rfl
    | false=>rw [← fillTo_same hi'' hv];rfl) k (by omega)
  rw [fillTo_0] at h
  exact h
theorem implFill_e {k:Nat} {xs:List GateShape} {o:GateObject} (hk:4194304*5≤k) (hx:sdS GateShape.sd xs) (ho:lenO o):impl_GateFill k xs o=some (cond (shapesOk xs) (fillO xs o) o):=by
 unfold impl_GateFill fillO
 rw [twin2_e ho]
 simp only [Option.bind_some,fieldsOf2_e o (show 4194304≤k by omega) hx.1,share,leq_self,req_t,implShapesOk_e hx hk]
 cases hf:fieldsM xs o with
 | none=>cases shapesOk xs<;>rfl
 | some fs=>
  have hl:=(fieldsM_some hf).1
  have ho1:=ho.1
  simp only [Option.isSome_some,Option.getD_some,Bool.not_true,cond_false]
  cases shapesOk xs with
  | false=>rfl
  | true=>
   have h:=loop_at (R:=Option GateObject) (x:=fs) (B:=0) (fillTo fs o.Values) (l:=fun k vs i=>iter (ts:=impl_GateFill_L6_ts) (R:=GateObject) k (impl_GateFill_L6 (fun (v72:List UInt8) (v73:List UInt8) (v74:List UInt8) (v75:Bool) (v76:Int) (v77:GateObject) (v78:List (List UInt8)) (v79:List (List UInt8))=>some (⟨v72,v73,v74,v78,v75,v79,v76⟩:GateObject))) fs (fs.length:Int) i o.Kind o.Name o.Team o.Ending o.Version (⟨([]:List UInt8),([]:List UInt8),([]:List UInt8),[],false,[],(0:Int)⟩:GateObject) vs o.Holds)
    (E:=some ⟨o.Kind,o.Name,o.Team,fillTo fs o.Values fs.length,o.Ending,o.Holds,o.Version⟩)
    (fun k=>by simp only [iter,impl_GateFill_L6,ilt_e,cond_false]<;>rfl)
    (fun k i hi _=>by
     have hi':i < (fillTo fs o.Values i).length:=by rw [fillTo_len];omega
     have hi'':i < o.Values.length:=by omega
     simp only [iter,impl_GateFill_L6,share,ilt_n hi,inb_n hi,inb_n hi',cond_true,req_t,nth_i hi,nth_i hi',iadd_n (show fs.length≤1048576 by omega) hi]
     rw [fillTo_get hi'']
     cases hv:seq o.Values[i] [] with
     | true=>
      rw [← fillTo_set hi'' hi]
      simp only [fillG,hv,cond_true]<;>rfl
     | false=>rw [← fillTo_same hi'' hv];rfl) k (by omega)
   rw [fillTo_0] at h
   exact h
def nms (fs:List GateField):List Nm:=fs.map (·.Name)
def plN (fs:List GateField) (n:Nm):Nat:=(gidx (fun f=>seq f.Name n) fs 0).toNat
def valN (fs:List GateField) (vs:List Nm) (n:Nm):Nm:=vs.getD (plN fs n) []
theorem pl_ok {fs:List GateField} {n:Nm} (h:n∈nms fs):gidx (fun f=>seq f.Name n) fs 0=(plN fs n:Int)∧∃ hj:plN fs n < fs.length,fs[plN fs n].Name=n:=by
 unfold plN
 rcases gidx_find (fun f:GateField=>seq f.Name n) fs with ⟨h1,h2⟩ | ⟨j,hj,h1,h2,h3⟩
 ·obtain ⟨f,hf,e⟩:=List.mem_map.1 h
  have:=List.find?_eq_none.1 h2 f hf
  rw [seq_iff.2 e] at this
  exact absurd rfl this
 ·rw [h1,Int.toNat_natCast]
  exact ⟨rfl,hj,seq_iff.1 h3⟩
theorem pl_inj {fs:List GateField} {a b:Nm} (ha:a∈nms fs) (hb:b∈nms fs) (h:plN fs a=plN fs b):a=b:=by
 obtain ⟨h1,e1⟩:=(pl_ok ha).2
 obtain ⟨h2,e2⟩:=(pl_ok hb).2
 rw [← e1,← e2];simp only [h]
theorem pl_at {fs:List GateField} (hn:(nms fs).Nodup) {i:Nat} (hi:i < fs.length):plN fs fs[i].Name=i:=by
 have hm:fs[i].Name∈nms fs:=List.mem_map_of_mem (mem_i hi)
 obtain ⟨h1,e1⟩:=(pl_ok hm).2
 have h2:(nms fs)[plN fs fs[i].Name]'(by simpa [nms] using h1)=(nms fs)[i]'(by simpa [nms] using hi):=by simpa [nms] using e1
 exact (List.getElem_inj hn).1 h2
theorem val_set {fs:List GateField} {vs:List Nm} {x y v:Nm} (hl:vs.length=fs.length) (hx:x∈nms fs) (hy:y∈nms fs):valN fs (vs.set (plN fs x) v) y=if y=x then v else valN fs vs y:=by
 obtain ⟨h1,-⟩:=(pl_ok hx).2
 unfold valN
 by_cases e:y=x
 ·subst e
  rw [if_pos rfl]
  simp [List.getD,show plN fs y < vs.length by omega]
 ·rw [if_neg e]
  have:plN fs x≠plN fs y:=fun h=>e (pl_inj hy hx h.symm)
  simp [List.getD,List.getElem?_set,this]
theorem set_self {fs:List GateField} {vs:List Nm} {x:Nm} (hl:vs.length=fs.length) (hx:x∈nms fs):vs.set (plN fs x) (valN fs vs x)=vs:=by
 obtain ⟨h1,-⟩:=(pl_ok hx).2
 refine List.ext_getElem (by simp) fun j h2 h3=>?_
 rw [List.getElem_set]
 by_cases e:plN fs x=j
 ·rw [if_pos e];subst e;exact getD_i h3
 ·rw [if_neg e]
def mendV (kind name:Nm) (e:Nm→Nm) (m:GateMend):Option Nm:=
 cond (seq m.Kind kind&&(seq m.Field name&&(seq m.When []||seq (e m.When) m.Is))) (cond (seq m.From []) (some m.Put) (cond (seq (e m.From) []) none (some (e m.From)))) none
def dec (ms:List GateMend) (kind:Nm) (e:Nm→Nm) (name:Nm):Option Nm:=first (fun _ m=>mendV kind name e m) ms 0
theorem mendV_loc {kind name:Nm} {e e':Nm→Nm} {m:GateMend} (h:∀ y,y∈readOf kind name m→e y=e' y):mendV kind name e m=mendV kind name e' m:=by
 unfold mendV readOf at *
 cases h1:seq m.Kind kind with
 | false=>rfl
 | true=>
  cases h2:seq m.Field name with
  | false=>rfl
  | true=>
   rw [h1,h2] at h
   simp only [Bool.and_self,cond_true,List.mem_append] at h
   have hw:(seq m.When []||seq (e m.When) m.Is)=(seq m.When []||seq (e' m.When) m.Is):=by
    cases h3:seq m.When [] with
    | true=>rfl
    | false=>rw [h m.When (.inl (by rw [h3];simp))]
   have hf:(cond (seq m.From []) (some m.Put) (cond (seq (e m.From) []) none (some (e m.From))))=(cond (seq m.From []) (some m.Put) (cond (seq (e' m.From) []) none (some (e' m.From)))):=by
    cases h3:seq m.From [] with
    | true=>rfl
    | false=>rw [h m.From (.inr (by rw [h3];simp))]
   rw [hw,hf]
theorem dec_loc {ms:List GateMend} {kind name:Nm} {e e':Nm→Nm} (h:∀ y,y∈reads ms kind name→e y=e' y):dec ms kind e name=dec ms kind e' name:=by
 unfold dec
 refine first_ext ms 0 fun j a ha=>mendV_loc fun y hy=>h y ?_
 exact List.mem_flatMap.2 ⟨a,List.mem_of_getElem? ha,hy⟩
def stepV (fs:List GateField) (ms:List GateMend) (kind:Nm) (vs:List Nm) (name:Nm):List Nm:=
 vs.set (plN fs name) ((dec ms kind (valN fs vs) name).getD (valN fs vs name))
def mendVs (fs:List GateField) (ms:List GateMend) (kind:Nm) (row:List Nm) (vs:List Nm):List Nm:=row.foldl (stepV fs ms kind) vs
theorem stepV_len (fs:List GateField) (ms:List GateMend) (kind:Nm) (vs:List Nm) (name:Nm):(stepV fs ms kind vs name).length=vs.length:=by simp [stepV]
theorem mendVs_len (fs:List GateField) (ms:List GateMend) (kind:Nm):∀ (row vs:List Nm),(mendVs fs ms kind row vs).length=vs.length
 | [],_=>rfl
 | a::r,vs=>by
  have:=mendVs_len fs ms kind r (stepV fs ms kind vs a)
  rw [stepV_len] at this
  exact this
structure MInv (fs:List GateField) (ms:List GateMend) (kind:Nm) (vs:List Nm) (pre v:List Nm):Prop where
 len:v.length=fs.length
 eq:∀ n,n∈nms fs→valN fs v n=if n∈pre then (dec ms kind (valN fs v) n).getD (valN fs vs n) else valN fs vs n
theorem mend_step {fs:List GateField} {ms:List GateMend} {kind:Nm} {vs:List Nm} {row:List Nm} (ht:Topo (reads ms kind) row) (hs:∀ y,y∈row→y∈nms fs) {pre post v:List Nm} {x:Nm} (e:row=pre++x::post) (h:MInv fs ms kind vs pre v):MInv fs ms kind vs (pre++[x]) (stepV fs ms kind v x):=by
 have hx:x∈nms fs:=hs x (by rw [e];simp)
 have hnd:=ht.nd
 rw [e] at hnd
 have hxp:x ∉ pre:=fun hm=>(List.nodup_append.1 hnd).2.2 x hm x (by simp) rfl
 have hpre:∀ y,y∈pre→y∈nms fs:=fun y hy=>hs y (by rw [e];simp [hy])
 have hrx:=ht.rd pre x post e
 have hrp:∀ n,n∈pre→∀ y,y∈reads ms kind n→y∈pre:=fun n hn y hy=>by
  obtain ⟨p,q,e'⟩:=List.append_of_mem hn
  have:=ht.rd p n (q++x::post) (by rw [e,e'];simp) y hy
  rw [e'];simp [this]
 have hset:∀ y,y∈nms fs→valN fs (stepV fs ms kind v x) y=if y=x then (dec ms kind (valN fs v) x).getD (valN fs v x) else valN fs v y:=fun y hy=>val_set h.len hx hy
 have hsame:∀ y,y∈pre→valN fs (stepV fs ms kind v x) y=valN fs v y:=fun y hy=>by
  rw [hset y (hpre y hy),if_neg (show ¬ y=x from fun e2=>by subst e2;exact hxp hy)]
 refine ⟨by rw [stepV_len];exact h.len,fun n hn=>?_⟩
 by_cases hnx:n=x
 ·subst hnx
  rw [if_pos (by simp),hset n hn,if_pos rfl,h.eq n hn,if_neg hxp,dec_loc fun y hy=>hsame y (hrx y hy)]
 ·rw [hset n hn,if_neg hnx,h.eq n hn]
  by_cases hp:n∈pre
  ·rw [if_pos hp,if_pos (by simp [hp]),dec_loc fun y hy=>hsame y (hrp n hp y hy)]
  ·rw [if_neg hp,if_neg (by simp [hp,hnx])]
theorem mend_fold {fs:List GateField} {ms:List GateMend} {kind:Nm} {vs:List Nm} {row:List Nm} (ht:Topo (reads ms kind) row) (hs:∀ y,y∈row→y∈nms fs):∀ (post pre v:List Nm),row=pre++post→MInv fs ms kind vs pre v→MInv fs ms kind vs row (mendVs fs ms kind post v)
 | [],pre,v,e,h=>by
  rw [List.append_nil] at e
  rw [e];exact h
 | x::post,pre,v,e,h=>mend_fold ht hs post (pre++[x]) (stepV fs ms kind v x) (by rw [e];simp) (mend_step ht hs e h)
theorem mend_inv {fs:List GateField} {ms:List GateMend} {kind:Nm} {vs:List Nm} {row:List Nm} (hl:vs.length=fs.length) (hL:Full (reads ms kind) (nms fs) row):MInv fs ms kind vs row (mendVs fs ms kind row vs):=
 mend_fold hL.topo hL.sub row [] vs rfl ⟨hl,fun n _=>by simp⟩
theorem mend_unique {fs:List GateField} {ms:List GateMend} {kind:Nm} {vs:List Nm} {r1 r2:List Nm} (hn:(nms fs).Nodup) (hl:vs.length=fs.length) (h1:Full (reads ms kind) (nms fs) r1) (h2:Full (reads ms kind) (nms fs) r2):mendVs fs ms kind r1 vs=mendVs fs ms kind r2 vs:=by
 have i1:=mend_inv hl h1
 have i2:=mend_inv hl h2
 have key:∀ m n,n∈r1→r1.idxOf n < m→valN fs (mendVs fs ms kind r1 vs) n=valN fs (mendVs fs ms kind r2 vs) n:=by
  intro m
  induction m with
  | zero=>intro n _ h;omega
  | succ m ih=>
   intro n hm hi
   have hN:=h1.sub n hm
   rw [i1.eq n hN,i2.eq n hN,if_pos hm,if_pos (h2.all n hN),dec_loc fun y hy=>ih y (h1.topo.lt hm hy).1 (by have:=(h1.topo.lt hm hy).2;omega)]
 refine List.ext_getElem (by rw [mendVs_len,mendVs_len]) fun i h3 h4=>?_
 have hi:i < fs.length:=by rw [mendVs_len] at h3;omega
 have hN:fs[i].Name∈nms fs:=List.mem_map_of_mem (mem_i hi)
 have:=key _ fs[i].Name (h1.all _ hN) (Nat.lt_succ_self _)
 unfold valN at this
 rw [pl_at hn hi,getD_i h3,getD_i h4] at this
 exact this
theorem rowM_isFull {ms:List GateMend} {s:GateShape} (h:(rowM ms s).length=s.Fields.length):Full (reads ms s.Kind) (names s) (rowM ms s):=by
 obtain ⟨h1,h2⟩:=rowM_topo ms s
 refine ⟨h1,fun y hy=>?_,h2⟩
 cases hc:hasN (rowM ms s) y with
 | true=>exact hasN_iff.1 hc
 | false=>
  have hny:y ∉ rowM ms s:=fun hm=>by rw [hasN_iff.2 hm] at hc;cases hc
  have h3:(y::rowM ms s).Nodup:=List.nodup_cons.2 ⟨hny,h1.nd⟩
  have h4:=h3.length_le_of_subset (l₂:=names s) fun z hz=>by
   rcases List.mem_cons.1 hz with e | e
   ·exact e▸hy
   ·exact h2 z e
  simp only [List.length_cons,names,List.length_map] at h4
  omega
theorem mendsOk_shape {xs:List GateShape} {ms:List GateMend} (h:mendsOk xs ms=true) {s:GateShape} (hs:s∈xs):
  (nms s.Fields).Nodup∧s.Fields.length≤6∧Full (reads ms s.Kind) (nms s.Fields) (rowM ms s)∧(∀ x y,y∈reads ms s.Kind x→y∈nms s.Fields)∧ms.length≤12:=by
 simp only [mendsOk,shapesOk,Bool.and_eq_true,List.all_eq_true] at h
 obtain ⟨⟨h1,h2,h3⟩,h4,h5,h6⟩:=h
 have hs':=h3 s hs
 simp only [shapeOk,Bool.and_eq_true] at hs'
 have h7:=h6 s hs
 simp only [ieq,beq_iff_eq] at h7
 refine ⟨(distF_nodup hs'.2.2).1,by have:=ile_le hs'.1;omega,rowM_isFull (by omega),fun x y hy=>?_,by have:=ile_le h4;omega⟩
 obtain ⟨m,hm1,hm2⟩:=List.mem_flatMap.1 hy
 exact readOf_in (asc_nodup h2) hs (h5 m hm1) hm2
def mendO (xs:List GateShape) (ms:List GateMend) (o:GateObject):GateObject:=match xs.find? fun s=>seq s.Kind o.Kind with
 | some s=>cond (ieq (s.Fields.length:Int) (o.Values.length:Int)) ⟨o.Kind,o.Name,o.Team,mendVs s.Fields ms o.Kind (rowM ms s) o.Values,o.Ending,o.Holds,o.Version⟩ o
 | none=>o
def shapedO (xs:List GateShape) (ms:List GateMend) (o:GateObject):GateObject:=mendO xs ms (fillO xs o)
theorem l3Field_p {k:Nat} {fs:List GateField} {n:Nm} (hk:4194304≤k) (hx:fs.length≤1048576) (h:n∈nms fs):spec_l3Field k fs n=some (plN fs n:Int):=by
 rw [l3Field_e hk hx,(pl_ok h).1]
theorem placeOf_p {k:Nat} {fs:List GateField} {n:Nm} (hk:4194304≤k) (hx:fs.length≤1048576) (h:n∈nms fs):impl_placeOf k fs n=some (plN fs n:Int):=by
 rw [placeOf_e hk hx,(pl_ok h).1]
theorem inb_p {fs:List GateField} {vs:List Nm} {n:Nm} (hl:vs.length=fs.length) (h:n∈nms fs):inb (plN fs n:Int) vs.length=true:=inb_n (by rw [hl];exact (pl_ok h).2.1)
theorem nth_p (fs:List GateField) (vs:List Nm) (n:Nm):nth ([]:List UInt8) vs (plN fs n:Int)=valN fs vs n:=rfl
theorem readOf_when {kind name:Nm} {m:GateMend} (h1:seq m.Kind kind=true) (h2:seq m.Field name=true) (h3:seq m.When []=false):m.When∈readOf kind name m:=by
 simp [readOf,h1,h2,h3]
theorem readOf_from {kind name:Nm} {m:GateMend} (h1:seq m.Kind kind=true) (h2:seq m.Field name=true) (h3:seq m.From []=false):m.From∈readOf kind name m:=by
 simp [readOf,h1,h2,h3]
theorem mem_reads {ms:List GateMend} {kind name y:Nm} {i:Nat} (hi:i < ms.length) (h:y∈readOf kind name ms[i]):y∈reads ms kind name:=List.mem_flatMap.2 ⟨_,mem_i hi,h⟩
theorem l3Decided_l {fs:List GateField} {ms:List GateMend} {o:GateObject} {name:Nm} (hx:fs.length≤1048576) (hm:ms.length≤1048576) (hl:o.Values.length=fs.length) (hR:∀ y,y∈reads ms o.Kind name→y∈nms fs) (J:List GateField→List UInt8→GateObject→Option (List UInt8)) {k:Nat} (hk:4194304*2≤k):
  iter (ts:=spec_l3Decided_L2_ts) (R:=List UInt8) k (spec_l3Decided_L2 J) fs ms name o (0:Int)=opt (dec ms o.Kind (valN fs o.Values) name) some (J fs name o):=by
 exact loop_opt (R:=Option (List UInt8)) (x:=ms) (g:=fun _ m=>mendV o.Kind name (valN fs o.Values) m) (B:=4194304) (l:=fun k i=>iter (ts:=spec_l3Decided_L2_ts) (R:=List UInt8) k (spec_l3Decided_L2 J) fs ms name o i) (E:=J fs name o) (O:=some)
  (fun k=>by simp only [iter,spec_l3Decided_L2,ilt_e,cond_false]<;>rfl)
  (fun k i hi hb=>by
   simp only [iter,spec_l3Decided_L2,share,ilt_n hi,inb_n hi,cond_true,req_t,nth_i hi,iadd_n hm hi,mendV]
   cases h1:seq ms[i].Kind o.Kind with
   | false=>rfl
   | true=>
    cases h2:seq ms[i].Field name with
    | false=>rfl
    | true=>
     have hw:=fun h3=>hR _ (mem_reads hi (readOf_when h1 h2 h3))
     have hf:=fun h3=>hR _ (mem_reads hi (readOf_from h1 h2 h3))
     have from_:∀ X:Option (List UInt8),(cond (seq ms[i].From []) (some ms[i].Put) ((spec_l3Field k fs ms[i].From).bind fun v=>req (inb v o.Values.length) (cond (!seq (nth ([]:List UInt8) o.Values v) []) (some (nth ([]:List UInt8) o.Values v)) X)))
       = opt (cond (seq ms[i].From []) (some ms[i].Put) (cond (seq (valN fs o.Values ms[i].From) []) none (some (valN fs o.Values ms[i].From)))) some X:=fun X=>by
      cases h3:seq ms[i].From [] with
      | true=>rfl
      | false=>
       rw [l3Field_p hb hx (hf h3)]
       simp only [Option.bind_some,cond_false,inb_p hl (hf h3),req_t,nth_p]
       cases seq (valN fs o.Values ms[i].From) []<;>rfl
     cases h3:seq ms[i].When [] with
     | true=>
      simp only [Bool.not_true,cond_false,Bool.true_and,Bool.true_or,cond_true]
      exact from_ (iter (ts:=spec_l3Decided_L2_ts) (R:=List UInt8) k (spec_l3Decided_L2 J) fs ms name o ((i+1:Nat):Int))
     | false=>
      rw [l3Field_p hb hx (hw h3)]
      simp only [Option.bind_some,Bool.not_true,Bool.not_false,cond_true,cond_false,inb_p hl (hw h3),req_t,nth_p,Bool.true_and,Bool.false_or]
      cases seq (valN fs o.Values ms[i].When) ms[i].Is with
      | false=>rfl
      | true=>exact from_ (iter (ts:=spec_l3Decided_L2_ts) (R:=List UInt8) k (spec_l3Decided_L2 J) fs ms name o ((i+1:Nat):Int))) k (by omega)
theorem l3Decided_e {k:Nat} {fs:List GateField} {ms:List GateMend} {o:GateObject} {name:Nm} (hk:4194304*2≤k) (hx:fs.length≤1048576) (hm:ms.length≤1048576) (hl:o.Values.length=fs.length) (hn:name∈nms fs) (hR:∀ y,y∈reads ms o.Kind name→y∈nms fs):
  spec_l3Decided k fs ms o name=some ((dec ms o.Kind (valN fs o.Values) name).getD (valN fs o.Values name)):=by
 unfold spec_l3Decided
 simp only [share]
 rw [l3Decided_l hx hm hl hR _ hk]
 cases dec ms o.Kind (valN fs o.Values) name with
 | some c=>rfl
 | none=>
  simp only [l3Field_p (show 4194304≤k by omega) hx hn,Option.bind_some,inb_p hl hn,req_t,nth_p]
  rfl
theorem l3Row2_e {k:Nat} {ms:List GateMend} {s:GateShape} (hk:4194304*4≤k) (hm:ms.length≤1048576) (hs:s.Fields.length≤1048576):spec_l3Row_2 k s ms=some (rowM ms s):=by
 unfold spec_l3Row_2
 simp only [share]
 have inner:∀ (J:List GateMend→Int→GateShape→List Nm→Option (List Nm)) (n:Int) (row:List Nm) (k:Nat),4194304*3≤k→row.length≤1048576→
   iter (ts:=spec_l3Row_2_L6_ts) (R:=List (List UInt8)) k (spec_l3Row_2_L6 J) ms n (0:Int) s row=J ms n s (stepR ms s row):=by
  intro J n row k hk hr
  have h:=loop_find (x:=s.Fields) (p:=nextF ms s row) (B:=8388608) (l:=fun k i=>iter (ts:=spec_l3Row_2_L6_ts) (R:=List (List UInt8)) k (spec_l3Row_2_L6 J) ms n i s row) (E:=J ms n s row) (O:=fun f=>J ms n s (row++[f.Name]))
   (fun k=>by simp only [iter,spec_l3Row_2_L6,ilt_e,cond_false]<;>rfl)
   (fun k i hi hb=>by
    simp only [iter,spec_l3Row_2_L6,share,ilt_n hi,inb_n hi,cond_true,req_t,nth_i hi,iadd_n hs hi,l1Has_e (show 4194304≤k by omega) hr,l3Ready_e hb hm hr,Option.bind_some,nextF]
    rw [appB_t (by simp;omega) (by omega)]
    have e1:(row.any fun y=>seq y s.Fields[i].Name)=hasN row s.Fields[i].Name:=rfl
    rw [e1]
    cases hasN row s.Fields[i].Name<;>cases readyN ms s.Kind s.Fields[i].Name row<;>rfl) k (by omega)
  refine h.trans ?_
  unfold stepR
  cases s.Fields.find? (nextF ms s row)<;>rfl
 have h:=loop_fold (S:=List Nm) (x:=s.Fields) (f:=fun row _=>stepR ms s row) (B:=4194304*3) (l:=fun k row i=>iter (ts:=spec_l3Row_2_L3_ts) (R:=List (List UInt8)) k (spec_l3Row_2_L3 fun v=>some v) ms i s row) (J:=fun row=>some row) (fun i row=>row.length≤i)
  (fun k row _=>by simp only [iter,spec_l3Row_2_L3,ilt_e,cond_false]<;>rfl)
  (fun k i row hi hb hI=>⟨by
   simp only [iter,spec_l3Row_2_L3,share,ilt_n hi,cond_true]
   refine (inner _ _ _ _ hb (by omega)).trans ?_
   rw [iadd_n hs hi],Nat.le_trans (stepR_len ms s row) (by omega)⟩) k [] (by omega) (by simp)
 exact h
theorem specMended_e {k:Nat} {xs:List GateShape} {ms:List GateMend} {o:GateObject} (hk:4194304*4≤k) (hx:xs.length≤1048576) (ho:lenO o) (hok:mendsOk xs ms=true):spec_l3Mended k xs ms o=some (mendO xs ms o):=by
 unfold spec_l3Mended mendO
 rw [l2Copy2_e ho]
 simp only [Option.bind_some,specFields_e (show 4194304≤k by omega) hx,share,fieldsM,l1Shape_e (show 4194304≤k by omega) hx,fidx_gidx]
 rcases gidx_find (fun s:GateShape=>seq s.Kind o.Kind) xs with ⟨h1,h2⟩ | ⟨j,hj,h1,h2,h3⟩
 ·rw [h1,h2];rfl
 ·rw [h1,h2]
  simp only
  cases he:ieq (xs[j].Fields.length:Int) (o.Values.length:Int) with
  | false=>rfl
  | true=>
   have hl:o.Values.length=xs[j].Fields.length:=by simp only [ieq,beq_iff_eq] at he;omega
   obtain ⟨k1,k2,k3,k4,k5⟩:=mendsOk_shape hok (mem_i hj)
   have hkind:=seq_iff.1 h3
   rw [hkind] at k3 k4
   have hfs:xs[j].Fields.length≤1048576:=by omega
   have hms:ms.length≤1048576:=by omega
   simp only [cond_true,Option.isSome_some,Option.getD_some,Bool.not_true,cond_false,inb_n hj,req_t,nth_i hj,l3Row2_e hk hms hfs,Option.bind_some]
   have hrl:(rowM ms xs[j]).length≤1048576:=by
    have:=k3.topo.nd.length_le_of_subset k3.sub
    simp only [nms,List.length_map] at this;omega
   exact loop_fold (S:=List Nm) (x:=rowM ms xs[j]) (f:=stepV xs[j].Fields ms o.Kind) (B:=4194304*2) (l:=fun k vs i=>iter (ts:=spec_l3Mended_L7_ts) (R:=GateObject) k (spec_l3Mended_L7 (fun (v41:GateObject) (v42:List UInt8) (v43:List UInt8) (v44:List UInt8) (v45:Bool) (v46:Int) (v47:List (List UInt8)) (v48:List (List UInt8))=>some (⟨v42,v43,v44,v47,v45,v48,v46⟩:GateObject))) ms xs[j].Fields i (⟨([]:List UInt8),([]:List UInt8),([]:List UInt8),[],false,[],(0:Int)⟩:GateObject) o.Kind o.Name o.Team o.Ending o.Version (rowM ms xs[j]) vs o.Holds)
    (J:=fun vs=>some ⟨o.Kind,o.Name,o.Team,vs,o.Ending,o.Holds,o.Version⟩) (fun _ vs=>vs.length=xs[j].Fields.length)
    (fun k vs _=>by simp only [iter,spec_l3Mended_L7,ilt_e,cond_false]<;>rfl)
    (fun k i vs hi hb hI=>⟨by
     have hn:=k3.sub _ (mem_i hi)
     have hd:=l3Decided_e (o:=⟨o.Kind,o.Name,o.Team,vs,o.Ending,o.Holds,o.Version⟩) hb hfs hms hI hn (fun y hy=>k4 _ y hy)
     simp only [iter,spec_l3Mended_L7,ilt_n hi,inb_n hi,cond_true,req_t,nth_i hi,iadd_n hrl hi,l3Field_p (show 4194304≤k by omega) hfs hn,hd,Option.bind_some,inb_p hI hn]
     rfl,by rw [stepV_len];exact hI⟩) k o.Values (by omega) hl
theorem mendO_len (xs:List GateShape) (ms:List GateMend) (o:GateObject):(mendO xs ms o).Values.length=o.Values.length∧(mendO xs ms o).Holds=o.Holds:=by
 unfold mendO
 cases xs.find? fun s=>seq s.Kind o.Kind with
 | none=>exact ⟨rfl,rfl⟩
 | some s=>
  simp only
  cases ieq (s.Fields.length:Int) (o.Values.length:Int) with
  | false=>exact ⟨rfl,rfl⟩
  | true=>exact ⟨mendVs_len ..,rfl⟩
theorem fillO_lenO {xs:List GateShape} {o:GateObject} (h:lenO o):lenO (fillO xs o):=by
 have:=fillO_len xs o
 exact ⟨by rw [this.1];exact h.1,by rw [this.2.1];exact h.2⟩
theorem specShaped_e {k:Nat} {xs:List GateShape} {ms:List GateMend} {o:GateObject} (hk:4194304*4≤k) (hx:xs.length≤1048576) (ho:lenO o) (hok:mendsOk xs ms=true):spec_l3Shaped k xs ms o=some (shapedO xs ms o):=by
 unfold spec_l3Shaped
 rw [specL2Fill_e (by omega) hx ho,Option.bind_some,specMended_e hk hx (fillO_lenO ho) hok];rfl
theorem rowString2_l (J:List GateMend→GateShape→List (List UInt8)→Option ((List (List UInt8))×Bool×(List GateMend)×GateShape)):∀ (k:Nat) (ys:List (List UInt8)) (n i:Int) (ms:List GateMend) (s:GateShape) (out:List (List UInt8)) (st:List Pair),
  iter (ts:=impl_row_string__2_L6_ts) (R:=Bool×(List GateMend)×GateShape×(List (List UInt8))) k (impl_row_string__2_L6 fun a b c=>(J a b c).map fun r=>(r.2.1,r.2.2.1,r.2.2.2,r.1)) ys n i ms s out st
  = (iter (ts:=impl_row_string__L6_ts) (R:=(List (List UInt8))×Bool×(List GateMend)×GateShape) k (impl_row_string__L6 J) ys n i ms s out st).map fun r=>(r.2.1,r.2.2.1,r.2.2.2,r.1):=by
 intro k
 induction k with
 | zero=>intros;rfl
 | succ k ih=>
  intro ys n i ms s out st
  simp only [iter,impl_row_string__2_L6,impl_row_string__L6]
  cases ilt i n with
  | false=>rfl
  | true=>
   cases inb i ys.length with
   | false=>rfl
   | true=>
    simp only [cond_true,req_t]
    cases impl_row_string__1 k k (nth ([]:List UInt8) ys i) st ms s out with
    | none=>rfl
    | some r=>
     simp only [Option.bind_some]
     cases r.1 with
     | false=>rfl
     | true=>exact ih _ _ _ _ _ _ _
theorem rowString2_e (k:Nat) (ys:List Nm) (ms:List GateMend) (s:GateShape):impl_row_string__2 k ys ms s=(impl_row_string_ k ys ms s).map fun r=>(r.2.1,r.2.2.1,r.2.2.2,r.1):=
 rowString2_l (fun v23 v24 v25=>some (v25,true,v23,v24)) k ys _ _ ms s _ _
theorem rowOf2_l (J:GateShape→List GateMend→List (List UInt8)→Option ((List (List UInt8))×Bool)) (J2:GateShape→List GateMend→List (List UInt8)→Option (Bool×(List (List UInt8)))) (hJ:∀ a b c,J2 a b c=(J a b c).map fun r=>(r.2,r.1)):∀ (k:Nat) (fs:List GateField) (n i:Int) (s:GateShape) (ms:List GateMend) (out:List (List UInt8)),
  iter (ts:=impl_rowOf_2_L3_ts) (R:=Bool×(List (List UInt8))) k (impl_rowOf_2_L3 J2) fs n i s ms out
  = (iter (ts:=impl_rowOf_L3_ts) (R:=(List (List UInt8))×Bool) k (impl_rowOf_L3 J) fs n i s ms out).map fun r=>(r.2,r.1):=by
 intro k
 induction k with
 | zero=>intros;rfl
 | succ k ih=>
  intro fs n i s ms out
  simp only [iter,impl_rowOf_2_L3,impl_rowOf_L3]
  cases ilt i n with
  | false=>exact hJ _ _ _
  | true=>
   cases inb i fs.length with
   | false=>rfl
   | true=>
    simp only [cond_true,req_t]
    cases appB (out.length+([(nth (default:GateField) fs i).Name]:List (List UInt8)).length) 16 with
    | false=>rfl
    | true=>exact ih _ _ _ _ _ _
theorem rowOf2_e (k:Nat) (s:GateShape) (ms:List GateMend):impl_rowOf_2 k s ms=(impl_rowOf k s ms).map fun r=>(r.2,r.1):=by
 unfold impl_rowOf_2 impl_rowOf
 simp only [share]
 refine rowOf2_l _ _ (fun a b c=>?_) k _ _ _ _ _ _
 rw [rowString2_e]
 cases impl_row_string_ k c b a<;>rfl
theorem mended12_e {k:Nat} {fs:List GateField} {n kd nm tm:Nm} {e:Bool} {v:Int} {vs hs:List Nm} (hk:4194304≤k) (hx:fs.length≤1048576) (hl:vs.length=fs.length) (h:n∈nms fs):impl_GateMended_1_2 k n kd nm tm e v fs vs hs=some (valN fs vs n,kd,nm,tm,e,v,fs,vs,hs):=by
 unfold impl_GateMended_1_2
 rw [placeOf_p hk hx h]
 simp only [Option.bind_some,inb_p hl h,req_t,nth_p]
theorem mended11_l {fs:List GateField} {ms:List GateMend} {name kd nm tm:Nm} {e:Bool} {v:Int} {o:GateObject} {row vs hs:List Nm} {n j:Int} (hx:fs.length≤1048576) (hm:ms.length≤1048576) (hl:vs.length=fs.length) (hn:name∈nms fs) (hR:∀ y,y∈reads ms kd name→y∈nms fs)
  (J:List GateMend→Int→Int→List UInt8→List UInt8→List UInt8→Bool→Int→GateObject→List GateField→List (List UInt8)→List (List UInt8)→List (List UInt8)→Option GateObject) {k:Nat} (hk:4194304*2≤k):
  iter (ts:=impl_GateMended_L11_ts) (R:=GateObject) k (impl_GateMended_L11 J) ms name n j ms (ms.length:Int) (0:Int) kd nm tm e v o fs row vs hs=J ms n j kd nm tm e v o fs row (stepV fs ms kd vs name) hs:=by
 have h:=loop_opt (R:=Option GateObject) (x:=ms) (g:=fun _ m=>mendV kd name (valN fs vs) m) (B:=4194304) (l:=fun k i=>iter (ts:=impl_GateMended_L11_ts) (R:=GateObject) k (impl_GateMended_L11 J) ms name n j ms (ms.length:Int) i kd nm tm e v o fs row vs hs) (E:=J ms n j kd nm tm e v o fs row vs hs) (O:=fun c=>J ms n j kd nm tm e v o fs row (vs.set (plN fs name) c) hs)
  (fun k=>by simp only [iter,impl_GateMended_L11,ilt_e,cond_false]<;>rfl)
  (fun k i hi hb=>by
   simp only [iter,impl_GateMended_L11,share,ilt_n hi,inb_n hi,cond_true,req_t,nth_i hi,iadd_n hm hi,mendV]
   cases h1:seq ms[i].Kind kd with
   | false=>rfl
   | true=>
    cases h2:seq ms[i].Field name with
    | false=>rfl
    | true=>
     have hw:=fun h3=>hR _ (mem_reads hi (readOf_when h1 h2 h3))
     have hf:=fun h3=>hR _ (mem_reads hi (readOf_from h1 h2 h3))
     have hp:=placeOf_p hb hx hn
     have hib:=inb_p hl hn
     cases h4:seq ms[i].From [] with
     | true=>
      cases h3:seq ms[i].When [] with
      | true=>
       simp only [Bool.not_true,cond_false,cond_true,Bool.true_and,Bool.true_or,hp,Option.bind_some,hib,req_t]
       rfl
      | false=>
       simp only [Bool.not_true,Bool.not_false,cond_false,cond_true,Bool.true_and,Bool.false_or,mended12_e hb hx hl (hw h3),Option.bind_some,leq_self,req_t,hp,hib]
       cases seq (valN fs vs ms[i].When) ms[i].Is<;>rfl
     | false=>
      cases h3:seq ms[i].When [] with
      | true=>
       simp only [Bool.not_true,Bool.not_false,cond_false,cond_true,Bool.true_and,Bool.true_or,mended12_e hb hx hl (hf h4),Option.bind_some,leq_self,req_t,hp,hib]
       cases seq (valN fs vs ms[i].From) []<;>rfl
      | false=>
       simp only [Bool.not_true,Bool.not_false,cond_false,cond_true,Bool.true_and,Bool.false_or,mended12_e hb hx hl (hw h3),mended12_e hb hx hl (hf h4),Option.bind_some,leq_self,req_t,hp,hib]
       cases seq (valN fs vs ms[i].When) ms[i].Is<;>cases seq (valN fs vs ms[i].From) []<;>rfl) k (by omega)
 refine h.trans ?_
 unfold stepV
 change opt (dec ms kd (valN fs vs) name) (fun c=>J ms n j kd nm tm e v o fs row (vs.set (plN fs name) c) hs) (J ms n j kd nm tm e v o fs row vs hs)=_
 cases dec ms kd (valN fs vs) name with
 | some c=>rfl
 | none=>
  simp only [Option.getD_none,opt]
  rw [set_self hl hn]
theorem implMended_e {k:Nat} {xs:List GateShape} {ms:List GateMend} {o:GateObject} (hk:4194304*7≤k) (hx:sdS GateShape.sd xs) (hm:sdS GateMend.sd ms) (ho:lenO o):impl_GateMended k xs ms o=some (cond (mendsOk xs ms) (mendO xs ms o) o):=by
 unfold impl_GateMended
 rw [twin2_e ho]
 simp only [Option.bind_some,fieldsOf2_e o (show 4194304≤k by omega) hx.1,share,leq_self,req_t,implMendsOk_e hk hx hm]
 cases hok:mendsOk xs ms with
 | false=>cases (fieldsM xs o).isSome<;>rfl
 | true=>
  simp only [mendO,fieldsM,shapeOf_e (show 4194304≤k by omega) hx.1]
  rcases gidx_find (fun s:GateShape=>seq s.Kind o.Kind) xs with ⟨h1,h2⟩ | ⟨j,hj,h1,h2,h3⟩
  ·rw [h1,h2];rfl
  ·rw [h1,h2]
   simp only
   cases he:ieq (xs[j].Fields.length:Int) (o.Values.length:Int) with
   | false=>rfl
   | true=>
    have hl:o.Values.length=xs[j].Fields.length:=by simp only [ieq,beq_iff_eq] at he;omega
    obtain ⟨k1,k2,k3,k4,k5⟩:=mendsOk_shape hok (mem_i hj)
    have hkind:=seq_iff.1 h3
    have hfs:xs[j].Fields.length≤1048576:=by omega
    have hms:ms.length≤1048576:=by omega
    obtain ⟨b,row,r1,r2,r3⟩:=rowOf_e (ms:=ms) (s:=xs[j]) hms (fun x _ y hy=>k4 x y hy) (fun x=>by have:=reads_len (ms:=ms) (kind:=xs[j].Kind) (x:=x);omega) k2 (show 4194304*5≤k by omega)
    obtain rfl:b=true:=r3 ⟨_,k3⟩
    have hF:=r2 rfl
    simp only [cond_true,Option.isSome_some,Option.getD_some,Bool.not_true,cond_false,Option.bind_some,inb_n hj,req_t,nth_i hj,rowOf2_e,r1,Option.map_some]
    rw [hkind] at k3 k4 hF
    have hrl:row.length≤1048576:=by
     have:=hF.topo.nd.length_le_of_subset hF.sub
     simp only [names,List.length_map] at this;omega
    rw [← mend_unique k1 hl hF k3]
    exact loop_fold (S:=List Nm) (x:=row) (f:=stepV xs[j].Fields ms o.Kind) (B:=4194304*2) (l:=fun k vs i=>iter (ts:=impl_GateMended_L8_ts) (R:=GateObject) k (impl_GateMended_L8 (fun (v984:List UInt8) (v985:List UInt8) (v986:List UInt8) (v987:Bool) (v988:Int) (v989:GateObject) (v990:List (List UInt8)) (v991:List (List UInt8))=>some (⟨v984,v985,v986,v990,v987,v991,v988⟩:GateObject))) ms (row.length:Int) i o.Kind o.Name o.Team o.Ending o.Version (⟨([]:List UInt8),([]:List UInt8),([]:List UInt8),[],false,[],(0:Int)⟩:GateObject) xs[j].Fields row vs o.Holds)
     (J:=fun vs=>some ⟨o.Kind,o.Name,o.Team,vs,o.Ending,o.Holds,o.Version⟩) (fun _ vs=>vs.length=xs[j].Fields.length)
     (fun k vs _=>by simp only [iter,impl_GateMended_L8,ilt_e,cond_false]<;>rfl)
     (fun k i vs hi hb hI=>⟨by
      simp only [iter,impl_GateMended_L8,share,ilt_n hi,inb_n hi,cond_true]
      have hn:nth ([]:List UInt8) row (i:Int)∈nms xs[j].Fields:=by rw [nth_i hi];exact hF.sub _ (mem_i hi)
      change iter (ts:=impl_GateMended_L11_ts) (R:=GateObject) k (impl_GateMended_L11 _) ms (nth [] row (i:Int)) (row.length:Int) (i:Int) ms (ms.length:Int) (0:Int) o.Kind o.Name o.Team o.Ending o.Version _ xs[j].Fields row vs o.Holds=_
      refine (mended11_l hfs hms hI hn (fun y hy=>k4 _ y hy) _ hb).trans ?_
      simp only [nth_i hi]
      rw [iadd_n hrl hi],by rw [stepV_len];exact hI⟩) k o.Values (by omega) hl
theorem implShaped_e {k:Nat} {xs:List GateShape} {ms:List GateMend} {o:GateObject} (hk:4194304*7≤k) (hx:sdS GateShape.sd xs) (hm:sdS GateMend.sd ms) (ho:lenO o):impl_GateShaped k xs ms o=some (cond (mendsOk xs ms) (shapedO xs ms o) o):=by
 unfold impl_GateShaped
 rw [implMendsOk_e hk hx hm,twin_e ho,implFill_e (by omega) hx ho]
 cases hok:mendsOk xs ms with
 | false=>rfl
 | true=>
  have hs:shapesOk xs=true:=by
   simp only [mendsOk,Bool.and_eq_true] at hok;exact hok.1
  simp only [Option.bind_some,Bool.not_true,cond_false,hs,cond_true,implMended_e hk hx hm (fillO_lenO ho),hok]
  rfl
theorem slt_seq {a b:Nm} (h:seq a b=true):slt a b=false:=by rw [seq_iff.1 h];exact slt_irr b
def sameT (a b:List Nm):Bool:=ieq (a.length:Int) (b.length:Int)&&(a.zip b).all fun q=>seq q.1 q.2
theorem zip_len {α β:Type} {a:List α} {b:List β} (h:a.length≤b.length):(a.zip b).length=a.length:=by simp;omega
theorem l5Same_e {k:Nat} {a b:List Nm} (hk:4194304≤k) (ha:a.length≤1048576):spec_l5SameTexts k a b=some (sameT a b):=by
 unfold spec_l5SameTexts sameT
 cases he:ieq (a.length:Int) (b.length:Int) with
 | false=>rfl
 | true=>
  have hl:a.length=b.length:=by simp only [ieq,beq_iff_eq] at he;omega
  have hz:=zip_len (a:=a) (b:=b) (by omega)
  have h:=loop_all (R:=Option Bool) (x:=a.zip b) (p:=fun q=>seq q.1 q.2) (B:=0) (l:=fun k i=>iter (ts:=spec_l5SameTexts_L4_ts) (R:=Bool) k (spec_l5SameTexts_L4 (some true)) a b i) (E:=some true) (O:=some false)
   (fun k=>by simp only [hz,iter,spec_l5SameTexts_L4,ilt_e,cond_false]<;>rfl)
   (fun k i hi _=>by
    rw [hz] at hi
    have hi':i < b.length:=by omega
    simp only [iter,spec_l5SameTexts_L4,ilt_n hi,inb_n hi,inb_n hi',cond_true,req_t,nth_i hi,nth_i hi',iadd_n ha hi,List.getElem_zip]
    cases seq a[i] b[i]<;>rfl) k (by omega)
  simp only [Bool.not_true,cond_false,share]
  refine h.trans ?_
  cases (a.zip b).all fun q=>seq q.1 q.2<;>rfl
theorem equalTexts_e {k:Nat} {a b:List Nm} (hk:4194304≤k) (ha:a.length≤1048576):impl_equalTexts k a b=some (sameT a b):=by
 unfold impl_equalTexts sameT
 cases he:ieq (a.length:Int) (b.length:Int) with
 | false=>rfl
 | true=>
  have hl:a.length=b.length:=by simp only [ieq,beq_iff_eq] at he;omega
  have hz:=zip_len (a:=a) (b:=b) (by omega)
  have h:=loop_all (R:=Option Bool) (x:=a.zip b) (p:=fun q=>seq q.1 q.2) (B:=0) (l:=fun k i=>iter (ts:=impl_equalTexts_L4_ts) (R:=Bool) k (impl_equalTexts_L4 (some true)) a b (a.length:Int) i) (E:=some true) (O:=some false)
   (fun k=>by simp only [hz,iter,impl_equalTexts_L4,ilt_e,cond_false]<;>rfl)
   (fun k i hi _=>by
    rw [hz] at hi
    have hi':i < b.length:=by omega
    simp only [iter,impl_equalTexts_L4,ilt_n hi,inb_n hi,inb_n hi',cond_true,req_t,nth_i hi,nth_i hi',iadd_n ha hi,List.getElem_zip]
    cases seq a[i] b[i]<;>rfl) k (by omega)
  simp only [Bool.not_true,cond_false,share]
  refine h.trans ?_
  cases (a.zip b).all fun q=>seq q.1 q.2<;>rfl
def twoLt (a b c d:Nm):Bool:=slt a c||(seq a c&&slt b d)
def key5 (a b:Nm):Int:=cond (slt a b) (-1) (cond (!(slt a b||seq a b)) 1 0)
theorem l5Key_e (k:Nat) (a b:Nm):spec_l5Key k a b=some (key5 a b):=by
 unfold spec_l5Key key5
 cases slt a b<;>cases seq a b<;>rfl
def two5 (a b c d:Nm):Int:=cond (!ieq (key5 a c) 0) (key5 a c) (key5 b d)
theorem l5Two_e (k:Nat) (a b c d:Nm):spec_l5Two k a b c d=some (two5 a b c d):=by
 unfold spec_l5Two two5
 rw [l5Key_e,l5Key_e]
 simp only [Option.bind_some]
 cases ieq (key5 a c) 0<;>rfl
theorem two5_lt (a b c d:Nm):ile 0 (two5 a b c d)=!twoLt a b c d:=by
 unfold two5 twoLt key5
 cases h1:slt a c<;>cases h2:seq a c<;>cases h3:slt b d<;>cases h4:seq b d<;>rfl
def atO (b:GateBook) (kind name:Nm):Int:=gidx (fun o=>seq o.Kind kind&&seq o.Name name) b.Objects 0
theorem l5At_e {k:Nat} {b:GateBook} {kind name:Nm} (hk:4194304≤k) (hb:b.Objects.length≤1048576):spec_l5At k b kind name=some (atO b kind name):=by
 unfold spec_l5At
 simp only [share]
 exact loop_gidx (x:=b.Objects) (p:=fun o=>seq o.Kind kind&&seq o.Name name) (l:=fun k i=>iter (ts:=spec_l5At_L2_ts) (R:=Int) k (spec_l5At_L2 (some (-1))) kind name b i)
  (fun k=>by simp only [iter,spec_l5At_L2,ilt_e,cond_false]<;>rfl)
  (fun k i hi=>by
   simp only [iter,spec_l5At_L2,share,ilt_n hi,inb_n hi,cond_true,req_t,nth_i hi,iadd_n hb hi]
   cases seq b.Objects[i].Kind kind<;>rfl) k (by omega)
theorem find_e {k:Nat} {b:GateBook} {kind name:Nm} (hk:4194304≤k) (hb:b.Objects.length≤1048576):impl_GateBook_find k b kind name=some (atO b kind name):=by
 unfold impl_GateBook_find
 simp only [share]
 exact loop_gidx (x:=b.Objects) (p:=fun o=>seq o.Kind kind&&seq o.Name name) (l:=fun k i=>iter (ts:=impl_GateBook_find_L2_ts) (R:=Int) k (impl_GateBook_find_L2 (some (-1))) kind name b.Objects (b.Objects.length:Int) i)
  (fun k=>by simp only [iter,impl_GateBook_find_L2,ilt_e,cond_false]<;>rfl)
  (fun k i hi=>by
   simp only [iter,impl_GateBook_find_L2,share,ilt_n hi,inb_n hi,cond_true,req_t,nth_i hi,iadd_n hb hi]
   cases seq b.Objects[i].Kind kind<;>rfl) k (by omega)
def linkP (b:GateBook) (q:GateField×Nm):Bool:=!(ieq q.1.Kind 4&&(!seq q.2 []&&ilt (atO b q.1.To q.2) 0))
def linksOk (b:GateBook) (fs:List GateField) (vs:List Nm):Bool:=(fs.zip vs).all (linkP b)
theorem specLinks_l {w:GateLaw} {b:GateBook} {n:Int} {fs:List GateField} {o:GateObject} (hb:b.Objects.length≤1048576) (hl:fs.length≤o.Values.length) (hv:o.Values.length≤1048576) (J:GateLaw→GateBook→Int→Option Bool) {k:Nat} (hk:4194304*2≤k):
  iter (ts:=spec_l5ObjectsOk_L16_ts) (R:=Bool) k (spec_l5ObjectsOk_L16 J) w b n fs (0:Int) o=cond (linksOk b fs o.Values) (J w b n) (some false):=by
 have hz:=zip_len hl
 exact loop_all (R:=Option Bool) (x:=fs.zip o.Values) (p:=linkP b) (B:=4194304) (l:=fun k i=>iter (ts:=spec_l5ObjectsOk_L16_ts) (R:=Bool) k (spec_l5ObjectsOk_L16 J) w b n fs i o) (E:=J w b n) (O:=some false)
  (fun k=>by simp only [hz,iter,spec_l5ObjectsOk_L16,ilt_e,cond_false]<;>rfl)
  (fun k i hi hb'=>by
   rw [hz] at hi
   have hi':i < o.Values.length:=by omega
   simp only [iter,spec_l5ObjectsOk_L16,share,ilt_n hi,inb_n hi,inb_n hi',cond_true,req_t,nth_i hi,nth_i hi',iadd_n (show fs.length≤1048576 by omega) hi,l5At_e hb' hb,Option.bind_some,List.getElem_zip,linkP]
   cases ieq fs[i].Kind 4 with
   | false=>rfl
   | true=>
    cases seq o.Values[i] [] with
    | true=>rfl
    | false=>cases ilt (atO b fs[i].To o.Values[i]) 0<;>rfl) k (by rw [hz];omega)
def linksL:List (GateField×Nm)→Nat→List (Int×(GateField×Unit))
 | [],_=>[]
 | q::r,i=>cond (ieq q.1.Kind 4&&!seq q.2 []) (((i:Int),q.1,())::linksL r (i+1)) (linksL r (i+1))
theorem links_l {fs:List GateField} {o:GateObject} (hl:fs.length≤o.Values.length) (hv:o.Values.length≤1048576):∀ m i k,i+m=fs.length→m+1≤k→
  iter (ts:=i_impl_links_1_L3_ts) (R:=List (Int×(GateField×Unit))) k i_impl_links_1_L3 o fs (fs.length:Int) (i:Int)=some (linksL ((fs.zip o.Values).drop i) i):=by
 have hz:=zip_len hl
 intro m
 induction m with
 | zero=>
  intro i k h1 h2
  obtain rfl:i=fs.length:=by omega
  obtain ⟨k,rfl⟩:∃ j,k=j+1:=⟨k-1,by omega⟩
  rw [List.drop_of_length_le (by omega)]
  simp only [iter,i_impl_links_1_L3,ilt_e,cond_false,linksL]<;>rfl
 | succ m ih=>
  intro i k h1 h2
  obtain ⟨k,rfl⟩:∃ j,k=j+1:=⟨k-1,by omega⟩
  have hi:i < fs.length:=by omega
  have hi':i < o.Values.length:=by omega
  rw [List.drop_eq_getElem_cons (show i < (fs.zip o.Values).length by omega),List.getElem_zip]
  have ih':=ih (i+1) k (by omega) (by omega)
  simp only [iter,i_impl_links_1_L3,ilt_n hi,inb_n hi,inb_n hi',cond_true,req_t,nth_i hi,nth_i hi',iadd_n (show fs.length≤1048576 by omega) hi,ih',linksL]
  cases ieq fs[i].Kind 4<;>cases seq o.Values[i] []<;>rfl
theorem links_e {k:Nat} {w:GateLaw} {o:GateObject} (hk:4194304≤k) (hw:w.Shapes.length≤1048576) (hv:o.Values.length≤1048576):i_impl_links_1 k w o=some (linksL (((fieldsM w.Shapes o).getD []).zip o.Values) 0):=by
 unfold i_impl_links_1
 rw [implFields_e hk hw]
 simp only [Option.bind_some]
 cases hf:fieldsM w.Shapes o with
 | none=>rfl
 | some fs=>
  have hl:=(fieldsM_some hf).1
  have h:=links_l (fs:=fs) (o:=o) (by omega) hv fs.length 0 k (by omega) (by omega)
  rw [List.drop_zero] at h
  exact h
theorem implLinks_l {b:GateBook} {w:GateLaw} {os:List GateObject} {n j:Int} {e:Bool} {o:GateObject} {k:Nat} (hk:4194304≤k) (hb:b.Objects.length≤1048576) (D:GateBook→GateLaw→List GateObject→Int→Int→Bool→GateObject→Option Bool):∀ (z:List (GateField×Nm)) (i:Nat),(∀ t (h:t < z.length),∃ h':i+t < o.Values.length,o.Values[i+t]=z[t].2)→
  iterL (ts:=impl_GateBook_objectsOk_L16_ts) (R:=Bool) (impl_GateBook_objectsOk_L16 k) D (linksL z i) b w os n j e o=cond (z.all (linkP b)) (D b w os n j e o) (some false)
 | [],_,_=>rfl
 | q::r,i,h=>by
  have ih:=implLinks_l (o:=o) (b:=b) (w:=w) (os:=os) (n:=n) (j:=j) (e:=e) hk hb D r (i+1) fun t ht=>by
   obtain ⟨h1,h2⟩:=h (t+1) (by simpa using ht)
   exact ⟨by omega,by simpa [show i+1+t=i+(t+1) by omega] using h2⟩
  obtain ⟨h1,h2⟩:=h 0 (by simp)
  simp only [Nat.add_zero,List.getElem_cons_zero] at h1 h2
  simp only [linksL,List.all_cons]
  have hq:linkP b q=!(ieq q.1.Kind 4&&(!seq q.2 []&&ilt (atO b q.1.To q.2) 0)):=rfl
  rw [hq]
  cases c1:ieq q.1.Kind 4 with
  | false=>exact ih
  | true=>
   cases c2:seq q.2 [] with
   | true=>exact ih
   | false=>
    simp only [Bool.not_false,Bool.and_self,cond_true,Bool.true_and]
    change impl_GateBook_objectsOk_L16 k ((i:Int),q.1,()) (iterL (ts:=impl_GateBook_objectsOk_L16_ts) (R:=Bool) (impl_GateBook_objectsOk_L16 k) D (linksL r (i+1))) b w os n j e o=_
    unfold impl_GateBook_objectsOk_L16
    simp only [inb_n h1,req_t,nth_i h1,h2,find_e hk hb,Option.bind_some]
    cases ilt (atO b q.1.To q.2) 0 with
    | true=>rfl
    | false=>exact ih
end Go.Proofs.YtenfhlfofhjcoaaGreatDoor.Pu
