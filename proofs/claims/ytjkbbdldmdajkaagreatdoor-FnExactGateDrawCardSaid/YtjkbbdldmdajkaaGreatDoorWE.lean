/- m[k] += v: the entry of a map and its stamp. -/
import Derived.Test.YtjkbbdldmdajkaaGreatDoorWM
import Derived.WideKeyEntry
set_option linter.unusedSimpArgs false
set_option linter.unusedVariables false
namespace Go.Proofs.YtjkbbdldmdajkaaGreatDoor.c5
open Go Go.RowKit
variable {w w' ss:World} {F F' zT O O' uo:Nat→Prop} {μ aZ jE:Nat→Nat} {K K' C9:Nat→Prop} {ft bX:Nat→Nat→Prop} {P:Program} {R:Type}
theorem Yu {es:Array MapEntry} (h:∀ i j,i < j→j < es.size→(es.getD i default).born < (es.getD j default).born):(es.toList.map (·.born)).Nodup:=by
 unfold List.Nodup;rw [List.pairwise_iff_getElem];intro i j hi hj H_;have da:i < es.size:=by simpa using hi
 have mi:j < es.size:=by simpa using hj
 have:=h i j H_ mi;simp only [Array.getD_eq_getD_getElem?,Array.getElem?_eq_getElem da,Array.getElem?_eq_getElem mi,Option.getD_some] at this;simp only [List.getElem_map,Array.getElem_toList];omega
theorem Ob {es:Array MapEntry} (h:∀ i j,i < j→j < es.size→(es.getD i default).born < (es.getD j default).born) {j:Nat} (hj:j < es.size):
  es.findIdx? (fun e=>((e.born:Nat):Int)==(((es.getD j default).born:Nat):Int))=some j:=by
 rw [Go.WideElems.findIdx_arr];refine Go.WideElems.findIdx_born (Yu h) ?_;simp [Array.getD_eq_getD_getElem?,hj]
theorem RK (es:Array MapEntry) (j:Nat) (k x:Value):(es.modify j fun e=>{ e with key:=k }).modify j (fun e=>{ e with val:=x })=es.modify j fun e=>{ e with key:=k,val:=x }:=by
 apply Array.ext
 ·simp
 ·intro i h1 h2;simp only [Array.getElem_modify];split<;>simp_all
theorem TW (es:Array MapEntry) (k z x:Value) (c:Nat):(es.push { key:=k,val:=z,born:=c }).modify es.size (fun e=>{ e with val:=x })=es.push { key:=k,val:=x,born:=c }:=by
 apply Array.ext
 ·simp
 ·intro i h1 h2;simp only [Array.getElem_modify,Array.getElem_push];split<;>split<;>simp_all<;>omega
theorem Yv {es:Array MapEntry} {clock:Nat} {k z:Value} (h:∀ i j,i < j→j < es.size→(es.getD i default).born < (es.getD j default).born) (hc:∀ i,i < es.size→(es.getD i default).born < clock):
  (es.push { key:=k,val:=z,born:=clock }).findIdx? (fun e=>((e.born:Nat):Int)==((clock:Nat):Int))=some es.size:=by
 have e1:∀ i,i < es.size→(es.push { key:=k,val:=z,born:=clock }).getD i default=es.getD i default:=fun i hi=>by
  simp only [Array.getD_eq_getD_getElem?,Array.getElem?_push];rw [if_neg (by omega)]
 have e2:(es.push { key:=k,val:=z,born:=clock }).getD es.size default={ key:=k,val:=z,born:=clock }:=by
  simp [Array.getD_eq_getD_getElem?,Array.getElem?_push]
 have h9:=Ob (es:=es.push { key:=k,val:=z,born:=clock }) (j:=es.size) (fun i j H_ hj=>by
  simp only [Array.size_push] at hj;rw [e1 i (by omega)];by_cases e:j=es.size
  ·subst e;rw [e2];exact hc i H_
  ·rw [e1 j (by omega)];exact h i j H_ (by omega)) (by simp)
 rw [e2] at h9;exact h9
theorem Yw {es:Array MapEntry} {k:Value} (h:∀ i j,i < j→j < es.size→(es.getD i default).born < (es.getD j default).born) {j:Nat} (hj:j < es.size):
  (es.modify j fun e=>{ e with key:=k }).findIdx? (fun e=>((e.born:Nat):Int)==(((es.getD j default).born:Nat):Int))=some j:=by
 have e1:∀ i,i < es.size→((es.modify j fun e=>{ e with key:=k }).getD i default).born=(es.getD i default).born:=fun i hi=>by
  simp only [Array.getD_eq_getD_getElem?];simp [hi,Array.getElem_modify];split<;>rfl
 have h9:=Ob (es:=es.modify j fun e=>{ e with key:=k }) (j:=j) (fun a b hab hb=>by
  simp only [Array.size_modify] at hb;rw [e1 a (by omega),e1 b hb];exact h a b hab hb) (by simpa using hj)
 rw [e1 j hj] at h9;exact h9
theorem yk {t:TypeId} {b j c:Nat} {st:Nat} {es:Array MapEntry} {x:Value} (hb:w.heap[b]?=some (.map es c)) (hj:es.findIdx? (fun e=>((e.born:Nat):Int)==((st:Nat):Int))=some j):
  (Instr.entryStore t (.map (some b)) (goInt st) x).run P w=.ok () (jA w b (.map (es.modify j fun e=>{ e with val:=x }) c)):=by
 simp only [Instr.entryStore,goInt,asInt,asIntOf,Sem.run_bind,Sem.run_pure,il hb,Result.andThen_ok];rw [hj];exact lW hb
theorem aeC {t kt et:TypeId} {b c:Nat} {es:Array MapEntry} {k x z:Value} (ht:P.underlying t=some (.map kt et)) (hb:w.heap[b]?=some (.map es c)) (YP:(Instr.checkKey false 10000 kt k).run P w=.ok () w)
  (hf:(Instr.findKey kt k es.toList).run P w=.ok none w) (hz:(zeroValue et).run P w=.ok z w) (h:∀ i j,i < j→j < es.size→(es.getD i default).born < (es.getD j default).born) (hc:∀ i,i < es.size→(es.getD i default).born < c):
  ∃ v st w1,(Instr.mapEntry t (.map (some b)) k).run P w=.ok (.tuple #[v,goInt (st:Nat)]) w1∧
   (Instr.entryStore t (.map (some b)) (goInt (st:Nat)) x).run P w1=.ok () (jA w b (.map (es.push { key:=k,val:=x,born:=c }) (c+1))):=by
 have dY:b < w.heap.size:=(Array.getElem?_eq_some_iff.1 hb).1;refine ⟨z,c,jA w b (.map (es.push { key:=k,val:=z,born:=c }) (c+1)),?_,?_⟩
 ·simp [Instr.mapEntry,ca ht,il hb,YP,hf,hz,lW hb]
 ·rw [yk (wO dY _) (Yv h hc),JW,TW]
theorem aeD {t kt et:TypeId} {b c j:Nat} {es:Array MapEntry} {k x v:Value} (ht:P.underlying t=some (.map kt et)) (hb:w.heap[b]?=some (.map es c)) (YP:(Instr.checkKey false 10000 kt k).run P w=.ok () w)
  (hf:(Instr.findKey kt k es.toList).run P w=.ok (some (j,v)) w) (hj:j < es.size) (hs:∀ y,(Instr.keyThatStays (((es[j]?).map (·.key)).getD y) k).run P w=.ok k w) (h:∀ i j,i < j→j < es.size→(es.getD i default).born < (es.getD j default).born):
  ∃ v st w1,(Instr.mapEntry t (.map (some b)) k).run P w=.ok (.tuple #[v,goInt (st:Nat)]) w1∧
   (Instr.entryStore t (.map (some b)) (goInt (st:Nat)) x).run P w1=.ok () (jA w b (.map (es.modify j fun e=>{ e with key:=k,val:=x }) c)):=by
 have dY:b < w.heap.size:=(Array.getElem?_eq_some_iff.1 hb).1;refine ⟨v,(es.getD j default).born,jA w b (.map (es.modify j fun e=>{ e with key:=k }) c),?_,?_⟩
 ·have hbn:((es[j]?).map fun x=>(x.born:Int)).getD 0=(((es.getD j default).born:Nat):Int):=by simp [hj]
  simp only [Instr.mapEntry,Sem.run_bind,ca ht,il hb,YP,hf,hs,lW hb,Result.andThen_ok,Sem.run_pure,hbn]
 ·rw [yk (wO dY _) (Yw h hj),JW,RK]
theorem aaD (l:List (AV×AV)) (j st:Nat):eg (.G5 l j st) (.map l):=
 ⟨fun _=>rfl,fun {w F μ K S n o} h=>by
  obtain ⟨es,clock,h1,h2,h3,h4,h5,_⟩:=h;exact ⟨es,clock,h1,h2,h3,h4,h5⟩⟩
def FL (l:List (AV×AV)) (ka za:AV):Option Nat→List (AV×AV)
 | none=>l++[(ka,za)]
 | some _=>l
def C7 (l:List (AV×AV)):Option Nat→Nat
 | none=>l.length
 | some j=>j
theorem Yt {o:Oper} {s:fG} {t kt et:TypeId} {m k:Operand} {id:Nat} {l:List (AV×AV)} {ka za:AV} {d:TypeDesc} {r:Option Nat} {act:Act} (ho:o.op=.mapEntry t m k) (hx:dT s m (.mp id)) (hH:s.H id=some (.map l)) (hk:dT s k ka) (hz:zvA P et=some za) (hcz:PI za)
  (YP:PI ka) (ht:P.underlying t=some (.map kt et)) (C6:P.underlying kt=some d) (hd:A3 P kt ka=true) (hf:kV ka l 0=some r) (hka:∀ j,r=some j→(l.getD j (.top,.top)).1=ka) (hs:SR w F O μ K s ft act):
  ∃ v st w1 O' bX,(execOp act.eval o).run P w=.ok (.value (.tuple #[v,goInt (st:Nat)])) w1∧HR w1 F O' μ K (s.H.c_ [(id,some (.G5 (FL l ka za r) (C7 l r) st))]) bX∧Fr w F O μ K w1 F O' μ:=by
 obtain ⟨z,XH,rfl⟩:=aaK hz;obtain ⟨ob,po,hB⟩:=hs.hr.du id _ hH rfl;obtain ⟨es,clock,rfl,h2,h3,h4,h5⟩:=L2 hB;have hm:=hx hs;have TX:=hk hs;generalize Ea:act.eval m=u at hm;cases hm with
 | mp _ bZ=>
  have SH:=B7 (w:=w) (es:=es.toList) C6 hd TX (by simpa using h3) (fun j hj=>by rw [zr];exact (h4 j hj).2.1) hf;have hch:∀ e,(Instr.checkKey e 10000 kt (act.eval k)).run P w=.ok () w:=fun e=>EU hd TX;have gC:s.H.live id:=⟨_,hH,rfl⟩;have XH:=XH (w:=w);have fin:∀ (WX:Array MapEntry) (c':Nat) (l':List (AV×AV)) (j st:Nat) (v:Value),(Instr.mapEntry t (.map (some (μ id))) (act.eval k)).run P w=.ok (.tuple #[v,goInt (st:Nat)]) (jA w (μ id) (.map WX c'))→
    hP w F μ K (fun x=>x=μ id) (μ id) (.map WX c') (.G5 l' j st)→∃ v RM w1 O' bX,(execOp act.eval o).run P w=.ok (.value (.tuple #[v,goInt (RM:Nat)])) w1∧HR w1 F O' μ K (s.H.c_ [(id,some (.G5 l' j RM))]) bX∧Fr w F O μ K w1 F O' μ:=by
   intro WX c' l' j st v kT M4;obtain ⟨O',bX,k1,k2⟩:=lV (L:=[]) hs.hr hH rfl po (o':=.map WX c') (by simp [sameShape]) (by simp) (fun y (hy:y=μ id)=>⟨id,.inl rfl,gC,hy▸hs.hr.self id gC⟩) rfl M4;exact ⟨v,st,_,O',bX,by simp [execOp,ho,Ea,kT],k1,k2⟩
  cases r with
  | none=>
   simp only at SH;refine fin (es.push { key:=act.eval k,val:=z,born:=clock }) (clock+1) _ _ clock z ?_ ?_
   ·simp [Instr.mapEntry,ca ht,il po,hch,SH,XH,lW po]
   ·have eo:∀ i,i < es.size→(es.push { key:=act.eval k,val:=z,born:=clock }).getD i default=es.getD i default:=fun i hi=>by
     simp [Array.getD_eq_getD_getElem?,Array.getElem?_push,show i≠es.size by omega]
    have en:(es.push { key:=act.eval k,val:=z,born:=clock }).getD es.size default={ key:=act.eval k,val:=z,born:=clock }:=by
     simp [Array.getD_eq_getD_getElem?,Array.getElem?_push]
    refine ⟨_,_,rfl,fun _=>Iff.rfl,by simp [FL,h3],fun i hi=>?_,fun i j H_ hj=>?_,by simp [C7,h3],by simp only [C7];rw [← h3,en]⟩
    ·simp only [FL,List.length_append,List.length_cons,List.length_nil] at hi;by_cases e:i < l.length
     ·have e2:(FL l ka (zv z) none).getD i (.top,.top)=l.getD i (.top,.top):=by simp [FL,List.getD,List.getElem?_append,e]
      obtain ⟨q1,q2,q3⟩:=h4 i e;rw [eo i (by omega),e2];exact ⟨by omega,q2,q3⟩
     ·have ei:i=es.size:=by omega
      have e2:(FL l ka (zv z) none).getD i (.top,.top)=(ka,zv z):=by simp [FL,List.getD,List.getElem?_append,show ¬ i < l.length from e,show i-l.length=0 by omega]
      rw [ei,en,← ei,e2];exact ⟨by simp,YP TX,hcz (ac2 (F:=F) (μ:=μ) (K:=K) z)⟩
    ·have mi:j < es.size+1:=by simpa using hj
     rw [eo i (by omega)];by_cases e:j < es.size
     ·rw [eo j e];exact h5 i j H_ e
     ·have ej:j=es.size:=by omega
      rw [ej,en];exact (h4 i (by omega)).1
  | some j=>
   obtain ⟨k2,ym,k4⟩:=SH;have hj:j < l.length:=by
    have:es.toList.length=l.length:=by simpa using h3
    omega
   have SW:j < es.size:=by omega
   have wo:∀ v,(Instr.keyThatStays (((es[j]?).map (·.key)).getD v) (act.eval k)).run P w=.ok (act.eval k) w:=fun v=>by
    have acv:((es[j]?).map (·.key)).getD v=(es.getD j default).key:=by simp [SW]
    have:=TY k4 TX (h4 j hj).2.1;rw [acv];unfold Instr.keyThatStays;rw [if_pos this];exact Sem.run_pure _ _ _
   rw [zr] at ym;have hbn:((es[j]?).map fun x=>(x.born:Int)).getD 0=(((es.getD j default).born:Nat):Int):=by simp [SW]
   refine fin (es.modify j fun e=>{ e with key:=act.eval k }) clock _ _ (es.getD j default).born (es.getD j default).val ?_ ?_
   ·simp only [Instr.mapEntry,Sem.run_bind,ca ht,il po,hch,ym,wo,lW po,Result.andThen_ok,Sem.run_pure,hbn]
   ·have gm:∀ i,i < es.size→(es.modify j fun e=>{ e with key:=act.eval k }).getD i default=if i=j then { es.getD j default with key:=act.eval k } else es.getD i default:=fun i hi=>by
     by_cases e:i=j
     ·subst e;simp [Array.getD_eq_getD_getElem?,hi,Array.getElem_modify]
     ·simp [Array.getD_eq_getD_getElem?,hi,Array.getElem_modify,e,Ne.symm e]
    have born:∀ i,i < es.size→((es.modify j fun e=>{ e with key:=act.eval k }).getD i default).born=(es.getD i default).born:=fun i hi=>by
     rw [gm i hi];split
     ·rename_i e;subst e;rfl
     ·rfl
    refine ⟨_,_,rfl,fun _=>Iff.rfl,by simp [FL,h3],fun i hi=>?_,fun i i' H_ mi=>?_,by simpa [C7] using SW,born j SW⟩
    ·have da:i < l.length:=by simpa [FL] using hi
     rw [gm i (by omega)];obtain ⟨q1,q2,q3⟩:=h4 i da;by_cases e:i=j
     ·subst e;rw [if_pos rfl];refine ⟨q1,?_,q3⟩;show VR w F μ Cv (l.getD i (.top,.top)).1 _;rw [hka i rfl];exact YP TX
     ·rw [if_neg e];exact ⟨q1,q2,q3⟩
    ·have OG:i' < es.size:=by simpa using mi
     rw [born i (by omega),born i' OG];exact h5 i i' H_ OG
theorem O8 {o:Oper} {s:fG} {t:TypeId} {m x3 x:Operand} {id j st:Nat} {l:List (AV×AV)} {va:AV} (ho:o.op=.entryStore t m x3 x) (hm:dT s m (.mp id)) (hH:s.H id=some (.G5 l j st)) (h3':dT s x3 (.int .i64 (st:Nat))) (hv:dT s x va) (LK:PI va):
  dg P o s ⟨.lit undef,[(id,some (.map (l.set j ((l.getD j (.top,.top)).1,va))))],[]⟩:=by
 intro w F O μ K ft act hs _ Kn Q wu;obtain ⟨ob,po,hB⟩:=hs.hr.du id _ hH rfl;obtain ⟨es,clock,rfl,h2,h3,h4,h5,h6,h7⟩:=hB;have XS:=hm hs;have hvv:=hv hs;have wo:=(h3' hs).c8;have gC:s.H.live id:=⟨_,hH,rfl⟩;generalize Ea:act.eval m=u at XS;cases XS with
 | mp _ bZ=>
  have hr:=yk (P:=P) (t:=t) (x:=act.eval x) (st:=st) po (by rw [← h7];exact Ob h5 h6);have gm:∀ i,i < es.size→(es.modify j fun e=>{ e with val:=act.eval x }).getD i default=if i=j then { es.getD j default with val:=act.eval x } else es.getD i default:=fun i hi=>by
   by_cases e:i=j
   ·subst e;simp [Array.getD_eq_getD_getElem?,hi,Array.getElem_modify]
   ·simp [Array.getD_eq_getD_getElem?,hi,Array.getElem_modify,e,Ne.symm e]
  have born:∀ i,i < es.size→((es.modify j fun e=>{ e with val:=act.eval x }).getD i default).born=(es.getD i default).born:=fun i hi=>by
   rw [gm i hi];split
   ·rename_i e;subst e;rfl
   ·rfl
  have M4:hP w F μ K (fun x=>x=μ id) (μ id) (.map (es.modify j fun e=>{ e with val:=act.eval x }) clock) (.map (l.set j ((l.getD j (.top,.top)).1,va))):=by
   refine ⟨_,_,rfl,fun _=>Iff.rfl,by simp [h3],fun i hi=>?_,fun i i' H_ mi=>?_⟩
   ·have da:i < l.length:=by simpa using hi
    rw [gm i (by omega)];obtain ⟨q1,q2,q3⟩:=h4 i da;by_cases e:i=j
    ·subst e;rw [if_pos rfl];have e2:(l.set i ((l.getD i (.top,.top)).1,va)).getD i (.top,.top)=((l.getD i (.top,.top)).1,va):=by simp [List.getD,da]
     rw [e2];exact ⟨q1,q2,LK hvv⟩
    ·rw [if_neg e];have e2:(l.set j ((l.getD j (.top,.top)).1,va)).getD i (.top,.top)=l.getD i (.top,.top):=by simp [List.getD,List.getElem?_set_ne (Ne.symm e)]
     rw [e2];exact ⟨q1,q2,q3⟩
   ·have OG:i' < es.size:=by simpa using mi
    rw [born i (by omega),born i' OG];exact h5 i i' H_ OG
  obtain ⟨O',bX,k1,k2⟩:=lV (L:=[]) hs.hr hH rfl po (o':=.map (es.modify j fun e=>{ e with val:=act.eval x }) clock) (by simp [sameShape]) (by simp) (fun y (hy:y=μ id)=>⟨id,.inl rfl,gC,hy▸hs.hr.self id gC⟩) rfl M4;have e3:(execOp act.eval o).run P w=.ok .skip (jA w (μ id) (.map (es.modify j fun e=>{ e with val:=act.eval x }) clock)):=by
   have ahR:act.eval x3=goInt (st:Nat):=wo;simp [execOp,ho,Ea,ahR,hr]
  unfold Oper.wp;rw [e3,Oper.upon_skip];refine wu _ _ F O' μ bX ?_ ?_ ?_
  ·exact .lit _
  ·simp only [jm];exact k1
  ·exact k2
end Go.Proofs.YtjkbbdldmdajkaaGreatDoor.c5
