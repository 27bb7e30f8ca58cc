/- m[k] += v: the entry of a map and its stamp. -/
import Derived.Test.YtjkbbdldmdajkaaGreatDoorWM
import Derived.WideKeyEntry
set_option linter.unusedSimpArgs false
set_option linter.unusedVariables false
namespace Go.Proofs.YtjkbbdldmdajkaaGreatDoor.c_
open Go Go.RowKit
variable {w w' xk:World} {F F' Bs O O' v8:Nat→Prop} {μ bC lG:Nat→Nat} {K K' EF:Nat→Prop} {ft bZ:Nat→Nat→Prop} {P:Program} {R:Type}
theorem YO {es:Array MapEntry} (h:∀ i j,i < j→j < es.size→(es.getD i default).born < (es.getD j default).born):(es.toList.map (·.born)).Nodup:=by
 unfold List.Nodup;rw [List.pairwise_iff_getElem];intro i j hi hj JK;have di:i < es.size:=by simpa using hi
 have mR:j < es.size:=by simpa using hj
 have:=h i j JK mR;simp only [Array.getD_eq_getD_getElem?,Array.getElem?_eq_getElem di,Array.getElem?_eq_getElem mR,Option.getD_some] at this;simp only [List.getElem_map,Array.getElem_toList];omega
theorem OL {es:Array MapEntry} (h:∀ i j,i < j→j < es.size→(es.getD i default).born < (es.getD j default).born) {j:Nat} (hj:j < es.size):
  es.findIdx? (fun e=>((e.born:Nat):Int)==(((es.getD j default).born:Nat):Int))=some j:=by
 rw [Go.WideElems.findIdx_arr];refine Go.WideElems.findIdx_born (YO h) ?_;simp [Array.getD_eq_getD_getElem?,hj]
theorem Sk (es:Array MapEntry) (j:Nat) (k x:Value):(es.modify j fun e=>{ e with key:=k }).modify j (fun e=>{ e with val:=x })=es.modify j fun e=>{ e with key:=k,val:=x }:=by
 apply Array.ext
 ·simp
 ·intro i h1 h2;simp only [Array.getElem_modify];split<;>simp_all
theorem Ur (es:Array MapEntry) (k z x:Value) (c:Nat):(es.push { key:=k,val:=z,born:=c }).modify es.size (fun e=>{ e with val:=x })=es.push { key:=k,val:=x,born:=c }:=by
 apply Array.ext
 ·simp
 ·intro i h1 h2;simp only [Array.getElem_modify,Array.getElem_push];split<;>split<;>simp_all<;>omega
theorem YP {es:Array MapEntry} {clock:Nat} {k z:Value} (h:∀ i j,i < j→j < es.size→(es.getD i default).born < (es.getD j default).born) (hc:∀ i,i < es.size→(es.getD i default).born < clock):
  (es.push { key:=k,val:=z,born:=clock }).findIdx? (fun e=>((e.born:Nat):Int)==((clock:Nat):Int))=some es.size:=by
 have e1:∀ i,i < es.size→(es.push { key:=k,val:=z,born:=clock }).getD i default=es.getD i default:=fun i hi=>by
  simp only [Array.getD_eq_getD_getElem?,Array.getElem?_push];rw [if_neg (by omega)]
 have e2:(es.push { key:=k,val:=z,born:=clock }).getD es.size default={ key:=k,val:=z,born:=clock }:=by
  simp [Array.getD_eq_getD_getElem?,Array.getElem?_push]
 have h9:=OL (es:=es.push { key:=k,val:=z,born:=clock }) (j:=es.size) (fun i j JK hj=>by
  simp only [Array.size_push] at hj;rw [e1 i (by omega)];by_cases e:j=es.size
  ·subst e;rw [e2];exact hc i JK
  ·rw [e1 j (by omega)];exact h i j JK (by omega)) (by simp)
 rw [e2] at h9;exact h9
theorem YQ {es:Array MapEntry} {k:Value} (h:∀ i j,i < j→j < es.size→(es.getD i default).born < (es.getD j default).born) {j:Nat} (hj:j < es.size):
  (es.modify j fun e=>{ e with key:=k }).findIdx? (fun e=>((e.born:Nat):Int)==(((es.getD j default).born:Nat):Int))=some j:=by
 have e1:∀ i,i < es.size→((es.modify j fun e=>{ e with key:=k }).getD i default).born=(es.getD i default).born:=fun i hi=>by
  simp only [Array.getD_eq_getD_getElem?];simp [hi,Array.getElem_modify];split<;>rfl
 have h9:=OL (es:=es.modify j fun e=>{ e with key:=k }) (j:=j) (fun a b hab hb=>by
  simp only [Array.size_modify] at hb;rw [e1 a (by omega),e1 b hb];exact h a b hab hb) (by simpa using hj)
 rw [e1 j hj] at h9;exact h9
theorem zb {t:TypeId} {b j c:Nat} {st:Nat} {es:Array MapEntry} {x:Value} (hb:w.heap[b]?=some (.map es c)) (hj:es.findIdx? (fun e=>((e.born:Nat):Int)==((st:Nat):Int))=some j):
  (Instr.entryStore t (.map (some b)) (goInt st) x).run P w=.ok () (jQ w b (.map (es.modify j fun e=>{ e with val:=x }) c)):=by
 simp only [Instr.entryStore,goInt,asInt,asIntOf,Sem.run_bind,Sem.run_pure,iC hb,Result.andThen_ok];rw [hj];exact mr hb
theorem aeT {t kt et:TypeId} {b c:Nat} {es:Array MapEntry} {k x z:Value} (ht:P.underlying t=some (.map kt et)) (hb:w.heap[b]?=some (.map es c)) (Y9:(Instr.checkKey false 10000 kt k).run P w=.ok () w)
  (hf:(Instr.findKey kt k es.toList).run P w=.ok none w) (hz:(zeroValue et).run P w=.ok z w) (h:∀ i j,i < j→j < es.size→(es.getD i default).born < (es.getD j default).born) (hc:∀ i,i < es.size→(es.getD i default).born < c):
  ∃ v st w1,(Instr.mapEntry t (.map (some b)) k).run P w=.ok (.tuple #[v,goInt (st:Nat)]) w1∧
   (Instr.entryStore t (.map (some b)) (goInt (st:Nat)) x).run P w1=.ok () (jQ w b (.map (es.push { key:=k,val:=x,born:=c }) (c+1))):=by
 have dQ:b < w.heap.size:=(Array.getElem?_eq_some_iff.1 hb).1;refine ⟨z,c,jQ w b (.map (es.push { key:=k,val:=z,born:=c }) (c+1)),?_,?_⟩
 ·simp [Instr.mapEntry,cb ht,iC hb,Y9,hf,hz,mr hb]
 ·rw [zb (xK dQ _) (YP h hc),Kt,Ur]
theorem aeU {t kt et:TypeId} {b c j:Nat} {es:Array MapEntry} {k x v:Value} (ht:P.underlying t=some (.map kt et)) (hb:w.heap[b]?=some (.map es c)) (Y9:(Instr.checkKey false 10000 kt k).run P w=.ok () w)
  (hf:(Instr.findKey kt k es.toList).run P w=.ok (some (j,v)) w) (hj:j < es.size) (hs:∀ y,(Instr.keyThatStays (((es[j]?).map (·.key)).getD y) k).run P w=.ok k w) (h:∀ i j,i < j→j < es.size→(es.getD i default).born < (es.getD j default).born):
  ∃ v st w1,(Instr.mapEntry t (.map (some b)) k).run P w=.ok (.tuple #[v,goInt (st:Nat)]) w1∧
   (Instr.entryStore t (.map (some b)) (goInt (st:Nat)) x).run P w1=.ok () (jQ w b (.map (es.modify j fun e=>{ e with key:=k,val:=x }) c)):=by
 have dQ:b < w.heap.size:=(Array.getElem?_eq_some_iff.1 hb).1;refine ⟨v,(es.getD j default).born,jQ w b (.map (es.modify j fun e=>{ e with key:=k }) c),?_,?_⟩
 ·have hbn:((es[j]?).map fun x=>(x.born:Int)).getD 0=(((es.getD j default).born:Nat):Int):=by simp [hj]
  simp only [Instr.mapEntry,Sem.run_bind,cb ht,iC hb,Y9,hf,hs,mr hb,Result.andThen_ok,Sem.run_pure,hbn]
 ·rw [zb (xK dQ _) (YQ h hj),Kt,Sk]
theorem aa_ (l:List (AV×AV)) (j st:Nat):eQ (.HJ l j st) (.map l):=
 ⟨fun _=>rfl,fun {w F μ K S n o} h=>by
  obtain ⟨es,clock,h1,h2,h3,h4,h5,_⟩:=h;exact ⟨es,clock,h1,h2,h3,h4,h5⟩⟩
def Gu (l:List (AV×AV)) (ka za:AV):Option Nat→List (AV×AV)
 | none=>l++[(ka,za)]
 | some _=>l
def DM (l:List (AV×AV)):Option Nat→Nat
 | none=>l.length
 | some j=>j
theorem YN {o:Oper} {s:fT} {t kt et:TypeId} {m k:Operand} {id:Nat} {l:List (AV×AV)} {ka za:AV} {d:TypeDesc} {r:Option Nat} {act:Act} (ho:o.op=.mapEntry t m k) (hx:ee s m (.mp id)) (hH:s.H id=some (.map l)) (hk:ee s k ka) (hz:zvA P et=some za) (hcz:Qb za)
  (Y9:Qb ka) (ht:P.underlying t=some (.map kt et)) (DL:P.underlying kt=some d) (hd:BK P kt ka=true) (hf:lJ ka l 0=some r) (hka:∀ j,r=some j→(l.getD j (.top,.top)).1=ka) (hs:SR w F O μ K s ft act):
  ∃ v st w1 O' bZ,(execOp act.eval o).run P w=.ok (.value (.tuple #[v,goInt (st:Nat)])) w1∧HR w1 F O' μ K (s.H.dh [(id,some (.HJ (Gu l ka za r) (DM l r) st))]) bZ∧Fr w F O μ K w1 F O' μ:=by
 obtain ⟨z,X5,rfl⟩:=abg hz;obtain ⟨ob,p_,hB⟩:=hs.hr.dC id _ hH rfl;obtain ⟨es,clock,rfl,h2,h3,h4,h5⟩:=Mt hB;have hm:=hx hs;have Us:=hk hs;generalize EO:act.eval m=u at hm;cases hm with
 | mp _ bY=>
  have Pm:=CO (w:=w) (es:=es.toList) DL hd Us (by simpa using h3) (fun j hj=>by rw [Ag];exact (h4 j hj).2.1) hf;have hch:∀ e,(Instr.checkKey e 10000 kt (act.eval k)).run P w=.ok () w:=fun e=>Fz hd Us;have gQ:s.H.live id:=⟨_,hH,rfl⟩;have X5:=X5 (w:=w);have fin:∀ (Xf:Array MapEntry) (c':Nat) (l':List (AV×AV)) (j st:Nat) (v:Value),(Instr.mapEntry t (.map (some (μ id))) (act.eval k)).run P w=.ok (.tuple #[v,goInt (st:Nat)]) (jQ w (μ id) (.map Xf c'))→
    ik w F μ K (fun x=>x=μ id) (μ id) (.map Xf c') (.HJ l' j st)→∃ v Sm w1 O' bZ,(execOp act.eval o).run P w=.ok (.value (.tuple #[v,goInt (Sm:Nat)])) w1∧HR w1 F O' μ K (s.H.dh [(id,some (.HJ l' j Sm))]) bZ∧Fr w F O μ K w1 F O' μ:=by
   intro Xf c' l' j st v lH NC;obtain ⟨O',bZ,k1,k2⟩:=mq (L:=[]) hs.hr hH rfl p_ (o':=.map Xf c') (by simp [sameShape]) (by simp) (fun y (hy:y=μ id)=>⟨id,.inl rfl,gQ,hy▸hs.hr.self id gQ⟩) rfl NC;exact ⟨v,st,_,O',bZ,by simp [execOp,ho,EO,lH],k1,k2⟩
  cases r with
  | none=>
   simp only at Pm;refine fin (es.push { key:=act.eval k,val:=z,born:=clock }) (clock+1) _ _ clock z ?_ ?_
   ·simp [Instr.mapEntry,cb ht,iC p_,hch,Pm,X5,mr p_]
   ·have eo:∀ i,i < es.size→(es.push { key:=act.eval k,val:=z,born:=clock }).getD i default=es.getD i default:=fun i hi=>by
     simp [Array.getD_eq_getD_getElem?,Array.getElem?_push,show i≠es.size by omega]
    have en:(es.push { key:=act.eval k,val:=z,born:=clock }).getD es.size default={ key:=act.eval k,val:=z,born:=clock }:=by
     simp [Array.getD_eq_getD_getElem?,Array.getElem?_push]
    refine ⟨_,_,rfl,fun _=>Iff.rfl,by simp [Gu,h3],fun i hi=>?_,fun i j JK hj=>?_,by simp [DM,h3],by simp only [DM];rw [← h3,en]⟩
    ·simp only [Gu,List.length_append,List.length_cons,List.length_nil] at hi;by_cases e:i < l.length
     ·have e2:(Gu l ka (zv z) none).getD i (.top,.top)=l.getD i (.top,.top):=by simp [Gu,List.getD,List.getElem?_append,e]
      obtain ⟨q1,q2,q3⟩:=h4 i e;rw [eo i (by omega),e2];exact ⟨by omega,q2,q3⟩
     ·have ei:i=es.size:=by omega
      have e2:(Gu l ka (zv z) none).getD i (.top,.top)=(ka,zv z):=by simp [Gu,List.getD,List.getElem?_append,show ¬ i < l.length from e,show i-l.length=0 by omega]
      rw [ei,en,← ei,e2];exact ⟨by simp,Y9 Us,hcz (adr (F:=F) (μ:=μ) (K:=K) z)⟩
    ·have mR:j < es.size+1:=by simpa using hj
     rw [eo i (by omega)];by_cases e:j < es.size
     ·rw [eo j e];exact h5 i j JK e
     ·have ej:j=es.size:=by omega
      rw [ej,en];exact (h4 i (by omega)).1
  | some j=>
   obtain ⟨k2,ze,k4⟩:=Pm;have hj:j < l.length:=by
    have:es.toList.length=l.length:=by simpa using h3
    omega
   have Tu:j < es.size:=by omega
   have xm:∀ v,(Instr.keyThatStays (((es[j]?).map (·.key)).getD v) (act.eval k)).run P w=.ok (act.eval k) w:=fun v=>by
    have acX:((es[j]?).map (·.key)).getD v=(es.getD j default).key:=by simp [Tu]
    have:=Ut k4 Us (h4 j hj).2.1;rw [acX];unfold Instr.keyThatStays;rw [if_pos this];exact Sem.run_pure _ _ _
   rw [Ag] at ze;have hbn:((es[j]?).map fun x=>(x.born:Int)).getD 0=(((es.getD j default).born:Nat):Int):=by simp [Tu]
   refine fin (es.modify j fun e=>{ e with key:=act.eval k }) clock _ _ (es.getD j default).born (es.getD j default).val ?_ ?_
   ·simp only [Instr.mapEntry,Sem.run_bind,cb ht,iC p_,hch,ze,xm,mr p_,Result.andThen_ok,Sem.run_pure,hbn]
   ·have gm:∀ i,i < es.size→(es.modify j fun e=>{ e with key:=act.eval k }).getD i default=if i=j then { es.getD j default with key:=act.eval k } else es.getD i default:=fun i hi=>by
     by_cases e:i=j
     ·subst e;simp [Array.getD_eq_getD_getElem?,hi,Array.getElem_modify]
     ·simp [Array.getD_eq_getD_getElem?,hi,Array.getElem_modify,e,Ne.symm e]
    have born:∀ i,i < es.size→((es.modify j fun e=>{ e with key:=act.eval k }).getD i default).born=(es.getD i default).born:=fun i hi=>by
     rw [gm i hi];split
     ·rename_i e;subst e;rfl
     ·rfl
    refine ⟨_,_,rfl,fun _=>Iff.rfl,by simp [Gu,h3],fun i hi=>?_,fun i i' JK mR=>?_,by simpa [DM] using Tu,born j Tu⟩
    ·have di:i < l.length:=by simpa [Gu] using hi
     rw [gm i (by omega)];obtain ⟨q1,q2,q3⟩:=h4 i di;by_cases e:i=j
     ·subst e;rw [if_pos rfl];refine ⟨q1,?_,q3⟩;show VR w F μ Dc (l.getD i (.top,.top)).1 _;rw [hka i rfl];exact Y9 Us
     ·rw [if_neg e];exact ⟨q1,q2,q3⟩
    ·have TI:i' < es.size:=by simpa using mR
     rw [born i (by omega),born i' TI];exact h5 i i' JK TI
theorem PG {o:Oper} {s:fT} {t:TypeId} {m x3 x:Operand} {id j st:Nat} {l:List (AV×AV)} {va:AV} (ho:o.op=.entryStore t m x3 x) (hm:ee s m (.mp id)) (hH:s.H id=some (.HJ l j st)) (h3':ee s x3 (.int .i64 (st:Nat))) (hv:ee s x va) (OU:Qb va):
  dr P o s ⟨.lit undef,[(id,some (.map (l.set j ((l.getD j (.top,.top)).1,va))))],[]⟩:=by
 intro w F O μ K ft act hs _ Kn Q xq;obtain ⟨ob,p_,hB⟩:=hs.hr.dC id _ hH rfl;obtain ⟨es,clock,rfl,h2,h3,h4,h5,h6,h7⟩:=hB;have Yg:=hm hs;have hvv:=hv hs;have xm:=(h3' hs).de;have gQ:s.H.live id:=⟨_,hH,rfl⟩;generalize EO:act.eval m=u at Yg;cases Yg with
 | mp _ bY=>
  have hr:=zb (P:=P) (t:=t) (x:=act.eval x) (st:=st) p_ (by rw [← h7];exact OL h5 h6);have gm:∀ i,i < es.size→(es.modify j fun e=>{ e with val:=act.eval x }).getD i default=if i=j then { es.getD j default with val:=act.eval x } else es.getD i default:=fun i hi=>by
   by_cases e:i=j
   ·subst e;simp [Array.getD_eq_getD_getElem?,hi,Array.getElem_modify]
   ·simp [Array.getD_eq_getD_getElem?,hi,Array.getElem_modify,e,Ne.symm e]
  have born:∀ i,i < es.size→((es.modify j fun e=>{ e with val:=act.eval x }).getD i default).born=(es.getD i default).born:=fun i hi=>by
   rw [gm i hi];split
   ·rename_i e;subst e;rfl
   ·rfl
  have NC:ik w F μ K (fun x=>x=μ id) (μ id) (.map (es.modify j fun e=>{ e with val:=act.eval x }) clock) (.map (l.set j ((l.getD j (.top,.top)).1,va))):=by
   refine ⟨_,_,rfl,fun _=>Iff.rfl,by simp [h3],fun i hi=>?_,fun i i' JK mR=>?_⟩
   ·have di:i < l.length:=by simpa using hi
    rw [gm i (by omega)];obtain ⟨q1,q2,q3⟩:=h4 i di;by_cases e:i=j
    ·subst e;rw [if_pos rfl];have e2:(l.set i ((l.getD i (.top,.top)).1,va)).getD i (.top,.top)=((l.getD i (.top,.top)).1,va):=by simp [List.getD,di]
     rw [e2];exact ⟨q1,q2,OU hvv⟩
    ·rw [if_neg e];have e2:(l.set j ((l.getD j (.top,.top)).1,va)).getD i (.top,.top)=l.getD i (.top,.top):=by simp [List.getD,List.getElem?_set_ne (Ne.symm e)]
     rw [e2];exact ⟨q1,q2,q3⟩
   ·have TI:i' < es.size:=by simpa using mR
    rw [born i (by omega),born i' TI];exact h5 i i' JK TI
  obtain ⟨O',bZ,k1,k2⟩:=mq (L:=[]) hs.hr hH rfl p_ (o':=.map (es.modify j fun e=>{ e with val:=act.eval x }) clock) (by simp [sameShape]) (by simp) (fun y (hy:y=μ id)=>⟨id,.inl rfl,gQ,hy▸hs.hr.self id gQ⟩) rfl NC;have e3:(execOp act.eval o).run P w=.ok .skip (jQ w (μ id) (.map (es.modify j fun e=>{ e with val:=act.eval x }) clock)):=by
   have aht:act.eval x3=goInt (st:Nat):=xm;simp [execOp,ho,EO,aht,hr]
  unfold Oper.wp;rw [e3,Oper.upon_skip];refine xq _ _ F O' μ bZ ?_ ?_ ?_
  ·exact .lit _
  ·simp only [jE];exact k1
  ·exact k2
end Go.Proofs.YtjkbbdldmdajkaaGreatDoor.c_
