/- m[k] += v: the entry of a map and its stamp. -/
import Derived.Test.YtjkbbdldmdajkaaGreatDoorWM
import Derived.WideKeyEntry
set_option linter.unusedSimpArgs false
set_option linter.unusedVariables false
namespace Go.Proofs.YtjkbbdldmdajkaaGreatDoor.c_
open Go Go.RowKit
variable {w w' xh:World} {F F' Bn O O' vW:Nat→Prop} {μ bD lF:Nat→Nat} {K K' EB:Nat→Prop} {ft bY:Nat→Nat→Prop} {P:Program} {R:Type}
theorem YL {es:Array MapEntry} (h:∀ i j,i < j→j < es.size→(es.getD i default).born < (es.getD j default).born):(es.toList.map (·.born)).Nodup:=by
 unfold List.Nodup;rw [List.pairwise_iff_getElem];intro i j hi hj JJ;have di:i < es.size:=by simpa using hi
 have mQ:j < es.size:=by simpa using hj
 have:=h i j JJ mQ;simp only [Array.getD_eq_getD_getElem?,Array.getElem?_eq_getElem di,Array.getElem?_eq_getElem mQ,Option.getD_some] at this;simp only [List.getElem_map,Array.getElem_toList];omega
theorem OJ {es:Array MapEntry} (h:∀ i j,i < j→j < es.size→(es.getD i default).born < (es.getD j default).born) {j:Nat} (hj:j < es.size):
  es.findIdx? (fun e=>((e.born:Nat):Int)==(((es.getD j default).born:Nat):Int))=some j:=by
 rw [Go.WideElems.findIdx_arr];refine Go.WideElems.findIdx_born (YL h) ?_;simp [Array.getD_eq_getD_getElem?,hj]
theorem Sh (es:Array MapEntry) (j:Nat) (k x:Value):(es.modify j fun e=>{ e with key:=k }).modify j (fun e=>{ e with val:=x })=es.modify j fun e=>{ e with key:=k,val:=x }:=by
 apply Array.ext
 ·simp
 ·intro i h1 h2;simp only [Array.getElem_modify];split<;>simp_all
theorem Uo (es:Array MapEntry) (k z x:Value) (c:Nat):(es.push { key:=k,val:=z,born:=c }).modify es.size (fun e=>{ e with val:=x })=es.push { key:=k,val:=x,born:=c }:=by
 apply Array.ext
 ·simp
 ·intro i h1 h2;simp only [Array.getElem_modify,Array.getElem_push];split<;>split<;>simp_all<;>omega
theorem YM {es:Array MapEntry} {clock:Nat} {k z:Value} (h:∀ i j,i < j→j < es.size→(es.getD i default).born < (es.getD j default).born) (hc:∀ i,i < es.size→(es.getD i default).born < clock):
  (es.push { key:=k,val:=z,born:=clock }).findIdx? (fun e=>((e.born:Nat):Int)==((clock:Nat):Int))=some es.size:=by
 have e1:∀ i,i < es.size→(es.push { key:=k,val:=z,born:=clock }).getD i default=es.getD i default:=fun i hi=>by
  simp only [Array.getD_eq_getD_getElem?,Array.getElem?_push];rw [if_neg (by omega)]
 have e2:(es.push { key:=k,val:=z,born:=clock }).getD es.size default={ key:=k,val:=z,born:=clock }:=by
  simp [Array.getD_eq_getD_getElem?,Array.getElem?_push]
 have h9:=OJ (es:=es.push { key:=k,val:=z,born:=clock }) (j:=es.size) (fun i j JJ hj=>by
  simp only [Array.size_push] at hj;rw [e1 i (by omega)];by_cases e:j=es.size
  ·subst e;rw [e2];exact hc i JJ
  ·rw [e1 j (by omega)];exact h i j JJ (by omega)) (by simp)
 rw [e2] at h9;exact h9
theorem YN {es:Array MapEntry} {k:Value} (h:∀ i j,i < j→j < es.size→(es.getD i default).born < (es.getD j default).born) {j:Nat} (hj:j < es.size):
  (es.modify j fun e=>{ e with key:=k }).findIdx? (fun e=>((e.born:Nat):Int)==(((es.getD j default).born:Nat):Int))=some j:=by
 have e1:∀ i,i < es.size→((es.modify j fun e=>{ e with key:=k }).getD i default).born=(es.getD i default).born:=fun i hi=>by
  simp only [Array.getD_eq_getD_getElem?];simp [hi,Array.getElem_modify];split<;>rfl
 have h9:=OJ (es:=es.modify j fun e=>{ e with key:=k }) (j:=j) (fun a b hab hb=>by
  simp only [Array.size_modify] at hb;rw [e1 a (by omega),e1 b hb];exact h a b hab hb) (by simpa using hj)
 rw [e1 j hj] at h9;exact h9
theorem y8 {t:TypeId} {b j c:Nat} {st:Nat} {es:Array MapEntry} {x:Value} (hb:w.heap[b]?=some (.map es c)) (hj:es.findIdx? (fun e=>((e.born:Nat):Int)==((st:Nat):Int))=some j):
  (Instr.entryStore t (.map (some b)) (goInt st) x).run P w=.ok () (jQ w b (.map (es.modify j fun e=>{ e with val:=x }) c)):=by
 simp only [Instr.entryStore,goInt,asInt,asIntOf,Sem.run_bind,Sem.run_pure,iB hb,Result.andThen_ok];rw [hj];exact mq hb
theorem aeP {t kt et:TypeId} {b c:Nat} {es:Array MapEntry} {k x z:Value} (ht:P.underlying t=some (.map kt et)) (hb:w.heap[b]?=some (.map es c)) (Y5:(Instr.checkKey false 10000 kt k).run P w=.ok () w)
  (hf:(Instr.findKey kt k es.toList).run P w=.ok none w) (hz:(zeroValue et).run P w=.ok z w) (h:∀ i j,i < j→j < es.size→(es.getD i default).born < (es.getD j default).born) (hc:∀ i,i < es.size→(es.getD i default).born < c):
  ∃ v st w1,(Instr.mapEntry t (.map (some b)) k).run P w=.ok (.tuple #[v,goInt (st:Nat)]) w1∧
   (Instr.entryStore t (.map (some b)) (goInt (st:Nat)) x).run P w1=.ok () (jQ w b (.map (es.push { key:=k,val:=x,born:=c }) (c+1))):=by
 have dT:b < w.heap.size:=(Array.getElem?_eq_some_iff.1 hb).1;refine ⟨z,c,jQ w b (.map (es.push { key:=k,val:=z,born:=c }) (c+1)),?_,?_⟩
 ·simp [Instr.mapEntry,cb ht,iB hb,Y5,hf,hz,mq hb]
 ·rw [y8 (xJ dT _) (YM h hc),Kr,Uo]
theorem aeQ {t kt et:TypeId} {b c j:Nat} {es:Array MapEntry} {k x v:Value} (ht:P.underlying t=some (.map kt et)) (hb:w.heap[b]?=some (.map es c)) (Y5:(Instr.checkKey false 10000 kt k).run P w=.ok () w)
  (hf:(Instr.findKey kt k es.toList).run P w=.ok (some (j,v)) w) (hj:j < es.size) (hs:∀ y,(Instr.keyThatStays (((es[j]?).map (·.key)).getD y) k).run P w=.ok k w) (h:∀ i j,i < j→j < es.size→(es.getD i default).born < (es.getD j default).born):
  ∃ v st w1,(Instr.mapEntry t (.map (some b)) k).run P w=.ok (.tuple #[v,goInt (st:Nat)]) w1∧
   (Instr.entryStore t (.map (some b)) (goInt (st:Nat)) x).run P w1=.ok () (jQ w b (.map (es.modify j fun e=>{ e with key:=k,val:=x }) c)):=by
 have dT:b < w.heap.size:=(Array.getElem?_eq_some_iff.1 hb).1;refine ⟨v,(es.getD j default).born,jQ w b (.map (es.modify j fun e=>{ e with key:=k }) c),?_,?_⟩
 ·have hbn:((es[j]?).map fun x=>(x.born:Int)).getD 0=(((es.getD j default).born:Nat):Int):=by simp [hj]
  simp only [Instr.mapEntry,Sem.run_bind,cb ht,iB hb,Y5,hf,hs,mq hb,Result.andThen_ok,Sem.run_pure,hbn]
 ·rw [y8 (xJ dT _) (YN h hj),Kr,Sh]
theorem aa7 (l:List (AV×AV)) (j st:Nat):eQ (.HE l j st) (.map l):=
 ⟨fun _=>rfl,fun {w F μ K S n o} h=>by
  obtain ⟨es,clock,h1,h2,h3,h4,h5,_⟩:=h;exact ⟨es,clock,h1,h2,h3,h4,h5⟩⟩
def Gp (l:List (AV×AV)) (ka za:AV):Option Nat→List (AV×AV)
 | none=>l++[(ka,za)]
 | some _=>l
def DI (l:List (AV×AV)):Option Nat→Nat
 | none=>l.length
 | some j=>j
theorem YK {o:Oper} {s:fU} {t kt et:TypeId} {m k:Operand} {id:Nat} {l:List (AV×AV)} {ka za:AV} {d:TypeDesc} {r:Option Nat} {act:Act} (ho:o.op=.mapEntry t m k) (hx:ee s m (.mp id)) (hH:s.H id=some (.map l)) (hk:ee s k ka) (hz:zvA P et=some za) (hcz:P8 za)
  (Y5:P8 ka) (ht:P.underlying t=some (.map kt et)) (DH:P.underlying kt=some d) (hd:BH P kt ka=true) (hf:lI ka l 0=some r) (hka:∀ j,r=some j→(l.getD j (.top,.top)).1=ka) (hs:SR w F O μ K s ft act):
  ∃ v st w1 O' bY,(execOp act.eval o).run P w=.ok (.value (.tuple #[v,goInt (st:Nat)])) w1∧HR w1 F O' μ K (s.H.dh [(id,some (.HE (Gp l ka za r) (DI l r) st))]) bY∧Fr w F O μ K w1 F O' μ:=by
 obtain ⟨z,X2,rfl⟩:=abd hz;obtain ⟨ob,p9,hB⟩:=hs.hr.dC id _ hH rfl;obtain ⟨es,clock,rfl,h2,h3,h4,h5⟩:=Ms hB;have hm:=hx hs;have Up:=hk hs;generalize EK:act.eval m=u at hm;cases hm with
 | mp _ bZ=>
  have Pk:=CJ (w:=w) (es:=es.toList) DH hd Up (by simpa using h3) (fun j hj=>by rw [Ac];exact (h4 j hj).2.1) hf;have hch:∀ e,(Instr.checkKey e 10000 kt (act.eval k)).run P w=.ok () w:=fun e=>Fu hd Up;have hU:s.H.live id:=⟨_,hH,rfl⟩;have X2:=X2 (w:=w);have fin:∀ (Xc:Array MapEntry) (c':Nat) (l':List (AV×AV)) (j st:Nat) (v:Value),(Instr.mapEntry t (.map (some (μ id))) (act.eval k)).run P w=.ok (.tuple #[v,goInt (st:Nat)]) (jQ w (μ id) (.map Xc c'))→
    ij w F μ K (fun x=>x=μ id) (μ id) (.map Xc c') (.HE l' j st)→∃ v Sj w1 O' bY,(execOp act.eval o).run P w=.ok (.value (.tuple #[v,goInt (Sj:Nat)])) w1∧HR w1 F O' μ K (s.H.dh [(id,some (.HE l' j Sj))]) bY∧Fr w F O μ K w1 F O' μ:=by
   intro Xc c' l' j st v lG NB;obtain ⟨O',bY,k1,k2⟩:=mo (L:=[]) hs.hr hH rfl p9 (o':=.map Xc c') (by simp [sameShape]) (by simp) (fun y (hy:y=μ id)=>⟨id,.inl rfl,hU,hy▸hs.hr.self id hU⟩) rfl NB;exact ⟨v,st,_,O',bY,by simp [execOp,ho,EK,lG],k1,k2⟩
  cases r with
  | none=>
   simp only at Pk;refine fin (es.push { key:=act.eval k,val:=z,born:=clock }) (clock+1) _ _ clock z ?_ ?_
   ·simp [Instr.mapEntry,cb ht,iB p9,hch,Pk,X2,mq p9]
   ·have eo:∀ i,i < es.size→(es.push { key:=act.eval k,val:=z,born:=clock }).getD i default=es.getD i default:=fun i hi=>by
     simp [Array.getD_eq_getD_getElem?,Array.getElem?_push,show i≠es.size by omega]
    have en:(es.push { key:=act.eval k,val:=z,born:=clock }).getD es.size default={ key:=act.eval k,val:=z,born:=clock }:=by
     simp [Array.getD_eq_getD_getElem?,Array.getElem?_push]
    refine ⟨_,_,rfl,fun _=>Iff.rfl,by simp [Gp,h3],fun i hi=>?_,fun i j JJ hj=>?_,by simp [DI,h3],by simp only [DI];rw [← h3,en]⟩
    ·simp only [Gp,List.length_append,List.length_cons,List.length_nil] at hi;by_cases e:i < l.length
     ·have e2:(Gp l ka (zv z) none).getD i (.top,.top)=l.getD i (.top,.top):=by simp [Gp,List.getD,List.getElem?_append,e]
      obtain ⟨q1,q2,q3⟩:=h4 i e;rw [eo i (by omega),e2];exact ⟨by omega,q2,q3⟩
     ·have ei:i=es.size:=by omega
      have e2:(Gp l ka (zv z) none).getD i (.top,.top)=(ka,zv z):=by simp [Gp,List.getD,List.getElem?_append,show ¬ i < l.length from e,show i-l.length=0 by omega]
      rw [ei,en,← ei,e2];exact ⟨by simp,Y5 Up,hcz (ado (F:=F) (μ:=μ) (K:=K) z)⟩
    ·have mQ:j < es.size+1:=by simpa using hj
     rw [eo i (by omega)];by_cases e:j < es.size
     ·rw [eo j e];exact h5 i j JJ e
     ·have ej:j=es.size:=by omega
      rw [ej,en];exact (h4 i (by omega)).1
  | some j=>
   obtain ⟨k2,y_,k4⟩:=Pk;have hj:j < l.length:=by
    have:es.toList.length=l.length:=by simpa using h3
    omega
   have Tr:j < es.size:=by omega
   have xj:∀ v,(Instr.keyThatStays (((es[j]?).map (·.key)).getD v) (act.eval k)).run P w=.ok (act.eval k) w:=fun v=>by
    have acU:((es[j]?).map (·.key)).getD v=(es.getD j default).key:=by simp [Tr]
    have:=Uq k4 Up (h4 j hj).2.1;rw [acU];unfold Instr.keyThatStays;rw [if_pos this];exact Sem.run_pure _ _ _
   rw [Ac] at y_;have hbn:((es[j]?).map fun x=>(x.born:Int)).getD 0=(((es.getD j default).born:Nat):Int):=by simp [Tr]
   refine fin (es.modify j fun e=>{ e with key:=act.eval k }) clock _ _ (es.getD j default).born (es.getD j default).val ?_ ?_
   ·simp only [Instr.mapEntry,Sem.run_bind,cb ht,iB p9,hch,y_,xj,mq p9,Result.andThen_ok,Sem.run_pure,hbn]
   ·have gm:∀ i,i < es.size→(es.modify j fun e=>{ e with key:=act.eval k }).getD i default=if i=j then { es.getD j default with key:=act.eval k } else es.getD i default:=fun i hi=>by
     by_cases e:i=j
     ·subst e;simp [Array.getD_eq_getD_getElem?,hi,Array.getElem_modify]
     ·simp [Array.getD_eq_getD_getElem?,hi,Array.getElem_modify,e,Ne.symm e]
    have born:∀ i,i < es.size→((es.modify j fun e=>{ e with key:=act.eval k }).getD i default).born=(es.getD i default).born:=fun i hi=>by
     rw [gm i hi];split
     ·rename_i e;subst e;rfl
     ·rfl
    refine ⟨_,_,rfl,fun _=>Iff.rfl,by simp [Gp,h3],fun i hi=>?_,fun i i' JJ mQ=>?_,by simpa [DI] using Tr,born j Tr⟩
    ·have di:i < l.length:=by simpa [Gp] using hi
     rw [gm i (by omega)];obtain ⟨q1,q2,q3⟩:=h4 i di;by_cases e:i=j
     ·subst e;rw [if_pos rfl];refine ⟨q1,?_,q3⟩;show VR w F μ C8 (l.getD i (.top,.top)).1 _;rw [hka i rfl];exact Y5 Up
     ·rw [if_neg e];exact ⟨q1,q2,q3⟩
    ·have TF:i' < es.size:=by simpa using mQ
     rw [born i (by omega),born i' TF];exact h5 i i' JJ TF
theorem PD {o:Oper} {s:fU} {t:TypeId} {m x3 x:Operand} {id j st:Nat} {l:List (AV×AV)} {va:AV} (ho:o.op=.entryStore t m x3 x) (hm:ee s m (.mp id)) (hH:s.H id=some (.HE l j st)) (h3':ee s x3 (.int .i64 (st:Nat))) (hv:ee s x va) (OS:P8 va):
  dr P o s ⟨.lit undef,[(id,some (.map (l.set j ((l.getD j (.top,.top)).1,va))))],[]⟩:=by
 intro w F O μ K ft act hs _ Kn Q xo;obtain ⟨ob,p9,hB⟩:=hs.hr.dC id _ hH rfl;obtain ⟨es,clock,rfl,h2,h3,h4,h5,h6,h7⟩:=hB;have Yc:=hm hs;have hvv:=hv hs;have xj:=(h3' hs).dd;have hU:s.H.live id:=⟨_,hH,rfl⟩;generalize EK:act.eval m=u at Yc;cases Yc with
 | mp _ bZ=>
  have hr:=y8 (P:=P) (t:=t) (x:=act.eval x) (st:=st) p9 (by rw [← h7];exact OJ h5 h6);have gm:∀ i,i < es.size→(es.modify j fun e=>{ e with val:=act.eval x }).getD i default=if i=j then { es.getD j default with val:=act.eval x } else es.getD i default:=fun i hi=>by
   by_cases e:i=j
   ·subst e;simp [Array.getD_eq_getD_getElem?,hi,Array.getElem_modify]
   ·simp [Array.getD_eq_getD_getElem?,hi,Array.getElem_modify,e,Ne.symm e]
  have born:∀ i,i < es.size→((es.modify j fun e=>{ e with val:=act.eval x }).getD i default).born=(es.getD i default).born:=fun i hi=>by
   rw [gm i hi];split
   ·rename_i e;subst e;rfl
   ·rfl
  have NB:ij w F μ K (fun x=>x=μ id) (μ id) (.map (es.modify j fun e=>{ e with val:=act.eval x }) clock) (.map (l.set j ((l.getD j (.top,.top)).1,va))):=by
   refine ⟨_,_,rfl,fun _=>Iff.rfl,by simp [h3],fun i hi=>?_,fun i i' JJ mQ=>?_⟩
   ·have di:i < l.length:=by simpa using hi
    rw [gm i (by omega)];obtain ⟨q1,q2,q3⟩:=h4 i di;by_cases e:i=j
    ·subst e;rw [if_pos rfl];have e2:(l.set i ((l.getD i (.top,.top)).1,va)).getD i (.top,.top)=((l.getD i (.top,.top)).1,va):=by simp [List.getD,di]
     rw [e2];exact ⟨q1,q2,OS hvv⟩
    ·rw [if_neg e];have e2:(l.set j ((l.getD j (.top,.top)).1,va)).getD i (.top,.top)=l.getD i (.top,.top):=by simp [List.getD,List.getElem?_set_ne (Ne.symm e)]
     rw [e2];exact ⟨q1,q2,q3⟩
   ·have TF:i' < es.size:=by simpa using mQ
    rw [born i (by omega),born i' TF];exact h5 i i' JJ TF
  obtain ⟨O',bY,k1,k2⟩:=mo (L:=[]) hs.hr hH rfl p9 (o':=.map (es.modify j fun e=>{ e with val:=act.eval x }) clock) (by simp [sameShape]) (by simp) (fun y (hy:y=μ id)=>⟨id,.inl rfl,hU,hy▸hs.hr.self id hU⟩) rfl NB;have e3:(execOp act.eval o).run P w=.ok .skip (jQ w (μ id) (.map (es.modify j fun e=>{ e with val:=act.eval x }) clock)):=by
   have ahp:act.eval x3=goInt (st:Nat):=xj;simp [execOp,ho,EK,ahp,hr]
  unfold Oper.wp;rw [e3,Oper.upon_skip];refine xo _ _ F O' μ bY ?_ ?_ ?_
  ·exact .lit _
  ·simp only [jE];exact k1
  ·exact k2
end Go.Proofs.YtjkbbdldmdajkaaGreatDoor.c_
