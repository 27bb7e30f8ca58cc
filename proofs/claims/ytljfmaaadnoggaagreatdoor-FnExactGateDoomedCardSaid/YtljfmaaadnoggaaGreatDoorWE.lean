/- m[k] += v: the entry of a map and its stamp. -/
import Derived.Test.YtljfmaaadnoggaaGreatDoorWM
import Derived.WideKeyEntry
set_option linter.unusedSimpArgs false
set_option linter.unusedVariables false
namespace Go.Proofs.YtljfmaaadnoggaaGreatDoor.cX
open Go Go.RowKit
variable {w w' xW:World} {F F' Cq O O' wx:Nat→Prop} {μ bC kZ:Nat→Nat} {K K' Gg:Nat→Prop} {ft b8:Nat→Nat→Prop} {P:Program} {R:Type}
theorem abd {es:Array MapEntry} (h:∀ i j,i < j→j < es.size→(es.getD i default).born < (es.getD j default).born):(es.toList.map (·.born)).Nodup:=by
 unfold List.Nodup
 rw [List.pairwise_iff_getElem]
 intro i j hi hj LH
 have c9:i < es.size:=by simpa using hi
 have ko:j < es.size:=by simpa using hj
 have:=h i j LH ko
 simp only [Array.getD_eq_getD_getElem?,Array.getElem?_eq_getElem c9,Array.getElem?_eq_getElem ko,Option.getD_some] at this
 simp only [List.getElem_map,Array.getElem_toList]
 omega
theorem QI {es:Array MapEntry} (h:∀ i j,i < j→j < es.size→(es.getD i default).born < (es.getD j default).born) {j:Nat} (hj:j < es.size):
  es.findIdx? (fun e=>((e.born:Nat):Int)==(((es.getD j default).born:Nat):Int))=some j:=by
 rw [Go.WideElems.findIdx_arr]
 refine Go.WideElems.findIdx_born (abd h) ?_
 simp [Array.getD_eq_getD_getElem?,hj]
theorem UD (es:Array MapEntry) (j:Nat) (k x:Value):(es.modify j fun e=>{ e with key:=k }).modify j (fun e=>{ e with val:=x })=es.modify j fun e=>{ e with key:=k,val:=x }:=by
 apply Array.ext
 ·simp
 ·intro i h1 h2
  simp only [Array.getElem_modify]
  split<;>simp_all
theorem WL (es:Array MapEntry) (k z x:Value) (c:Nat):(es.push { key:=k,val:=z,born:=c }).modify es.size (fun e=>{ e with val:=x })=es.push { key:=k,val:=x,born:=c }:=by
 apply Array.ext
 ·simp
 ·intro i h1 h2
  simp only [Array.getElem_modify,Array.getElem_push]
  split<;>split<;>simp_all<;>omega
theorem abe {es:Array MapEntry} {clock:Nat} {k z:Value} (h:∀ i j,i < j→j < es.size→(es.getD i default).born < (es.getD j default).born) (hc:∀ i,i < es.size→(es.getD i default).born < clock):
  (es.push { key:=k,val:=z,born:=clock }).findIdx? (fun e=>((e.born:Nat):Int)==((clock:Nat):Int))=some es.size:=by
 have e1:∀ i,i < es.size→(es.push { key:=k,val:=z,born:=clock }).getD i default=es.getD i default:=fun i hi=>by
  simp only [Array.getD_eq_getD_getElem?,Array.getElem?_push]
  rw [if_neg (by omega)]
 have e2:(es.push { key:=k,val:=z,born:=clock }).getD es.size default={ key:=k,val:=z,born:=clock }:=by
  simp [Array.getD_eq_getD_getElem?,Array.getElem?_push]
 have h9:=QI (es:=es.push { key:=k,val:=z,born:=clock }) (j:=es.size) (fun i j LH hj=>by
  simp only [Array.size_push] at hj
  rw [e1 i (by omega)]
  by_cases e:j=es.size
  ·subst e;rw [e2];exact hc i LH
  ·rw [e1 j (by omega)];exact h i j LH (by omega)) (by simp)
 rw [e2] at h9
 exact h9
theorem abf {es:Array MapEntry} {k:Value} (h:∀ i j,i < j→j < es.size→(es.getD i default).born < (es.getD j default).born) {j:Nat} (hj:j < es.size):
  (es.modify j fun e=>{ e with key:=k }).findIdx? (fun e=>((e.born:Nat):Int)==(((es.getD j default).born:Nat):Int))=some j:=by
 have e1:∀ i,i < es.size→((es.modify j fun e=>{ e with key:=k }).getD i default).born=(es.getD i default).born:=fun i hi=>by
  simp only [Array.getD_eq_getD_getElem?]
  simp [hi,Array.getElem_modify]
  split<;>rfl
 have h9:=QI (es:=es.modify j fun e=>{ e with key:=k }) (j:=j) (fun a b hab hb=>by
  simp only [Array.size_modify] at hb
  rw [e1 a (by omega),e1 b hb]
  exact h a b hab hb) (by simpa using hj)
 rw [e1 j hj] at h9
 exact h9
theorem z7 {t:TypeId} {b j c:Nat} {st:Nat} {es:Array MapEntry} {x:Value} (hb:w.heap[b]?=some (.map es c)) (hj:es.findIdx? (fun e=>((e.born:Nat):Int)==((st:Nat):Int))=some j):
  (Instr.entryStore t (.map (some b)) (goInt st) x).run P w=.ok () (jP w b (.map (es.modify j fun e=>{ e with val:=x }) c)):=by
 simp only [Instr.entryStore,goInt,asInt,asIntOf,Sem.run_bind,Sem.run_pure,iy hb,Result.andThen_ok]
 rw [hj]
 exact mc hb
theorem ag6 {t kt et:TypeId} {b c:Nat} {es:Array MapEntry} {k x z:Value} (ht:P.underlying t=some (.map kt et)) (hb:w.heap[b]?=some (.map es c)) (hck:(Instr.checkKey false 10000 kt k).run P w=.ok () w)
  (hf:(Instr.findKey kt k es.toList).run P w=.ok none w) (hz:(zeroValue et).run P w=.ok z w) (h:∀ i j,i < j→j < es.size→(es.getD i default).born < (es.getD j default).born) (hc:∀ i,i < es.size→(es.getD i default).born < c):
  ∃ v st w1,(Instr.mapEntry t (.map (some b)) k).run P w=.ok (.tuple #[v,goInt (st:Nat)]) w1∧
   (Instr.entryStore t (.map (some b)) (goInt (st:Nat)) x).run P w1=.ok () (jP w b (.map (es.push { key:=k,val:=x,born:=c }) (c+1))):=by
 have dQ:b < w.heap.size:=(Array.getElem?_eq_some_iff.1 hb).1
 refine ⟨z,c,jP w b (.map (es.push { key:=k,val:=z,born:=c }) (c+1)),?_,?_⟩
 ·simp [Instr.mapEntry,ct ht,iy hb,hck,hf,hz,mc hb]
 ·rw [z7 (yo dQ _) (abe h hc),Mu,WL]
theorem ag7 {t kt et:TypeId} {b c j:Nat} {es:Array MapEntry} {k x v:Value} (ht:P.underlying t=some (.map kt et)) (hb:w.heap[b]?=some (.map es c)) (hck:(Instr.checkKey false 10000 kt k).run P w=.ok () w)
  (hf:(Instr.findKey kt k es.toList).run P w=.ok (some (j,v)) w) (hj:j < es.size) (hs:∀ y,(Instr.keyThatStays (((es[j]?).map (·.key)).getD y) k).run P w=.ok k w) (h:∀ i j,i < j→j < es.size→(es.getD i default).born < (es.getD j default).born):
  ∃ v st w1,(Instr.mapEntry t (.map (some b)) k).run P w=.ok (.tuple #[v,goInt (st:Nat)]) w1∧
   (Instr.entryStore t (.map (some b)) (goInt (st:Nat)) x).run P w1=.ok () (jP w b (.map (es.modify j fun e=>{ e with key:=k,val:=x }) c)):=by
 have dQ:b < w.heap.size:=(Array.getElem?_eq_some_iff.1 hb).1
 refine ⟨v,(es.getD j default).born,jP w b (.map (es.modify j fun e=>{ e with key:=k }) c),?_,?_⟩
 ·have hbn:((es[j]?).map fun x=>(x.born:Int)).getD 0=(((es.getD j default).born:Nat):Int):=by simp [hj]
  simp only [Instr.mapEntry,Sem.run_bind,ct ht,iy hb,hck,hf,hs,mc hb,Result.andThen_ok,Sem.run_pure,hbn]
 ·rw [z7 (yo dQ _) (abf h hj),Mu,UD]
theorem ac8 (l:List (AV×AV)) (j st:Nat):eV (.JA l j st) (.map l):=
 ⟨fun _=>rfl,fun {w F μ K S n o} h=>by
  obtain ⟨es,clock,h1,h2,h3,h4,h5,_⟩:=h
  exact ⟨es,clock,h1,h2,h3,h4,h5⟩⟩
def Ii (l:List (AV×AV)) (ka za:AV):Option Nat→List (AV×AV)
 | none=>l++[(ka,za)]
 | some _=>l
def EW (l:List (AV×AV)):Option Nat→Nat
 | none=>l.length
 | some j=>j
theorem abc {o:Oper} {s:fU} {t kt et:TypeId} {m k:Operand} {id:Nat} {l:List (AV×AV)} {ka za:AV} {d:TypeDesc} {r:Option Nat} {act:Act} (ho:o.op=.mapEntry t m k) (hx:ec s m (.mp id)) (hH:s.H id=some (.map l)) (hk:ec s k ka) (hz:zvA P et=some za) (hcz:Sh za)
  (hck:Sh ka) (ht:P.underlying t=some (.map kt et)) (EV:P.underlying kt=some d) (hd:CI P kt ka=true) (hf:la ka l 0=some r) (hka:∀ j,r=some j→(l.getD j (.top,.top)).1=ka) (hs:SR w F O μ K s ft act):
  ∃ v st w1 O' b8,(execOp act.eval o).run P w=.ok (.value (.tuple #[v,goInt (st:Nat)])) w1∧HR w1 F O' μ K (s.H.c_ [(id,some (.JA (Ii l ka za r) (EW l r) st))]) b8∧Fr w F O μ K w1 F O' μ:=by
 obtain ⟨z,hzr,rfl⟩:=adg hz
 obtain ⟨ob,qR,hB⟩:=hs.hr.dw id _ hH rfl
 obtain ⟨es,clock,rfl,h2,h3,h4,h5⟩:=OB hB
 have hm:=hx hs
 have WM:=hk hs
 generalize Gp:act.eval m=u at hm
 cases hm with
 | mp _ cb=>
  have TJ:=DK (w:=w) (es:=es.toList) EV hd WM (by simpa using h3) (fun j hj=>by rw [Be];exact (h4 j hj).2.1) hf
  have hch:∀ e,(Instr.checkKey e 10000 kt (act.eval k)).run P w=.ok () w:=fun e=>Hf hd WM
  have iM:s.H.live id:=⟨_,hH,rfl⟩
  have hzr:=hzr (w:=w)
  have fin:∀ (ZP:Array MapEntry) (c':Nat) (l':List (AV×AV)) (j st:Nat) (v:Value),(Instr.mapEntry t (.map (some (μ id))) (act.eval k)).run P w=.ok (.tuple #[v,goInt (st:Nat)]) (jP w (μ id) (.map ZP c'))→
    h_ w F μ K (fun x=>x=μ id) (μ id) (.map ZP c') (.JA l' j st)→∃ v UG w1 O' b8,(execOp act.eval o).run P w=.ok (.value (.tuple #[v,goInt (UG:Nat)])) w1∧HR w1 F O' μ K (s.H.c_ [(id,some (.JA l' j UG))]) b8∧Fr w F O μ K w1 F O' μ:=by
   intro ZP c' l' j st v mb PK
   obtain ⟨O',b8,k1,k2⟩:=ma (L:=[]) hs.hr hH rfl qR (o':=.map ZP c') (by simp [sameShape]) (by simp) (fun y (hy:y=μ id)=>⟨id,.inl rfl,iM,hy▸hs.hr.self id iM⟩) rfl PK
   exact ⟨v,st,_,O',b8,by simp [execOp,ho,Gp,mb],k1,k2⟩
  cases r with
  | none=>
   simp only at TJ
   refine fin (es.push { key:=act.eval k,val:=z,born:=clock }) (clock+1) _ _ clock z ?_ ?_
   ·simp [Instr.mapEntry,ct ht,iy qR,hch,TJ,hzr,mc qR]
   ·have eo:∀ i,i < es.size→(es.push { key:=act.eval k,val:=z,born:=clock }).getD i default=es.getD i default:=fun i hi=>by
     simp [Array.getD_eq_getD_getElem?,Array.getElem?_push,show i≠es.size by omega]
    have en:(es.push { key:=act.eval k,val:=z,born:=clock }).getD es.size default={ key:=act.eval k,val:=z,born:=clock }:=by
     simp [Array.getD_eq_getD_getElem?,Array.getElem?_push]
    refine ⟨_,_,rfl,fun _=>Iff.rfl,by simp [Ii,h3],fun i hi=>?_,fun i j LH hj=>?_,by simp [EW,h3],by simp only [EW];rw [← h3,en]⟩
    ·simp only [Ii,List.length_append,List.length_cons,List.length_nil] at hi
     by_cases e:i < l.length
     ·have e2:(Ii l ka (zv z) none).getD i (.top,.top)=l.getD i (.top,.top):=by simp [Ii,List.getD,List.getElem?_append,e]
      obtain ⟨q1,q2,q3⟩:=h4 i e
      rw [eo i (by omega),e2]
      exact ⟨by omega,q2,q3⟩
     ·have ei:i=es.size:=by omega
      have e2:(Ii l ka (zv z) none).getD i (.top,.top)=(ka,zv z):=by simp [Ii,List.getD,List.getElem?_append,show ¬ i < l.length from e,show i-l.length=0 by omega]
      rw [ei,en,← ei,e2]
      exact ⟨by simp,hck WM,hcz (afj (F:=F) (μ:=μ) (K:=K) z)⟩
    ·have ko:j < es.size+1:=by simpa using hj
     rw [eo i (by omega)]
     by_cases e:j < es.size
     ·rw [eo j e];exact h5 i j LH e
     ·have ej:j=es.size:=by omega
      rw [ej,en]
      exact (h4 i (by omega)).1
  | some j=>
   obtain ⟨k2,z9,k4⟩:=TJ
   have hj:j < l.length:=by
    have:es.toList.length=l.length:=by simpa using h3
    omega
   have VS:j < es.size:=by omega
   have wq:∀ v,(Instr.keyThatStays (((es[j]?).map (·.key)).getD v) (act.eval k)).run P w=.ok (act.eval k) w:=fun v=>by
    have aeO:((es[j]?).map (·.key)).getD v=(es.getD j default).key:=by simp [VS]
    have:=WN k4 WM (h4 j hj).2.1
    rw [aeO]
    unfold Instr.keyThatStays
    rw [if_pos this]
    exact Sem.run_pure _ _ _
   rw [Be] at z9
   have hbn:((es[j]?).map fun x=>(x.born:Int)).getD 0=(((es.getD j default).born:Nat):Int):=by simp [VS]
   refine fin (es.modify j fun e=>{ e with key:=act.eval k }) clock _ _ (es.getD j default).born (es.getD j default).val ?_ ?_
   ·simp only [Instr.mapEntry,Sem.run_bind,ct ht,iy qR,hch,z9,wq,mc qR,Result.andThen_ok,Sem.run_pure,hbn]
   ·have gm:∀ i,i < es.size→(es.modify j fun e=>{ e with key:=act.eval k }).getD i default=if i=j then { es.getD j default with key:=act.eval k } else es.getD i default:=fun i hi=>by
     by_cases e:i=j
     ·subst e;simp [Array.getD_eq_getD_getElem?,hi,Array.getElem_modify]
     ·simp [Array.getD_eq_getD_getElem?,hi,Array.getElem_modify,e,Ne.symm e]
    have born:∀ i,i < es.size→((es.modify j fun e=>{ e with key:=act.eval k }).getD i default).born=(es.getD i default).born:=fun i hi=>by
     rw [gm i hi];split
     ·rename_i e;subst e;rfl
     ·rfl
    refine ⟨_,_,rfl,fun _=>Iff.rfl,by simp [Ii,h3],fun i hi=>?_,fun i i' LH ko=>?_,by simpa [EW] using VS,born j VS⟩
    ·have c9:i < l.length:=by simpa [Ii] using hi
     rw [gm i (by omega)]
     obtain ⟨q1,q2,q3⟩:=h4 i c9
     by_cases e:i=j
     ·subst e
      rw [if_pos rfl]
      refine ⟨q1,?_,q3⟩
      show VR w F μ Ei (l.getD i (.top,.top)).1 _
      rw [hka i rfl]
      exact hck WM
     ·rw [if_neg e];exact ⟨q1,q2,q3⟩
    ·have R9:i' < es.size:=by simpa using ko
     rw [born i (by omega),born i' R9]
     exact h5 i i' LH R9
theorem RA {o:Oper} {s:fU} {t:TypeId} {m x3 x:Operand} {id j st:Nat} {l:List (AV×AV)} {va:AV} (ho:o.op=.entryStore t m x3 x) (hm:ec s m (.mp id)) (hH:s.H id=some (.JA l j st)) (h3':ec s x3 (.int .i64 (st:Nat))) (hv:ec s x va) (QR:Sh va):
  de P o s ⟨.lit undef,[(id,some (.map (l.set j ((l.getD j (.top,.top)).1,va))))],[]⟩:=by
 intro w F O μ K ft act hs _ Kn Q x5
 obtain ⟨ob,qR,hB⟩:=hs.hr.dw id _ hH rfl
 obtain ⟨es,clock,rfl,h2,h3,h4,h5,h6,h7⟩:=hB
 have hm':=hm hs
 have hvv:=hv hs
 have wq:=(h3' hs).dd
 have iM:s.H.live id:=⟨_,hH,rfl⟩
 generalize Gp:act.eval m=u at hm'
 cases hm' with
 | mp _ cb=>
  have hr:=z7 (P:=P) (t:=t) (x:=act.eval x) (st:=st) qR (by rw [← h7];exact QI h5 h6)
  have gm:∀ i,i < es.size→(es.modify j fun e=>{ e with val:=act.eval x }).getD i default=if i=j then { es.getD j default with val:=act.eval x } else es.getD i default:=fun i hi=>by
   by_cases e:i=j
   ·subst e;simp [Array.getD_eq_getD_getElem?,hi,Array.getElem_modify]
   ·simp [Array.getD_eq_getD_getElem?,hi,Array.getElem_modify,e,Ne.symm e]
  have born:∀ i,i < es.size→((es.modify j fun e=>{ e with val:=act.eval x }).getD i default).born=(es.getD i default).born:=fun i hi=>by
   rw [gm i hi];split
   ·rename_i e;subst e;rfl
   ·rfl
  have PK:h_ w F μ K (fun x=>x=μ id) (μ id) (.map (es.modify j fun e=>{ e with val:=act.eval x }) clock) (.map (l.set j ((l.getD j (.top,.top)).1,va))):=by
   refine ⟨_,_,rfl,fun _=>Iff.rfl,by simp [h3],fun i hi=>?_,fun i i' LH ko=>?_⟩
   ·have c9:i < l.length:=by simpa using hi
    rw [gm i (by omega)]
    obtain ⟨q1,q2,q3⟩:=h4 i c9
    by_cases e:i=j
    ·subst e
     rw [if_pos rfl]
     have e2:(l.set i ((l.getD i (.top,.top)).1,va)).getD i (.top,.top)=((l.getD i (.top,.top)).1,va):=by simp [List.getD,c9]
     rw [e2]
     exact ⟨q1,q2,QR hvv⟩
    ·rw [if_neg e]
     have e2:(l.set j ((l.getD j (.top,.top)).1,va)).getD i (.top,.top)=l.getD i (.top,.top):=by simp [List.getD,List.getElem?_set_ne (Ne.symm e)]
     rw [e2];exact ⟨q1,q2,q3⟩
   ·have R9:i' < es.size:=by simpa using ko
    rw [born i (by omega),born i' R9]
    exact h5 i i' LH R9
  obtain ⟨O',b8,k1,k2⟩:=ma (L:=[]) hs.hr hH rfl qR (o':=.map (es.modify j fun e=>{ e with val:=act.eval x }) clock) (by simp [sameShape]) (by simp) (fun y (hy:y=μ id)=>⟨id,.inl rfl,iM,hy▸hs.hr.self id iM⟩) rfl PK
  have e3:(execOp act.eval o).run P w=.ok .skip (jP w (μ id) (.map (es.modify j fun e=>{ e with val:=act.eval x }) clock)):=by
   have ajQ:act.eval x3=goInt (st:Nat):=wq
   simp [execOp,ho,Gp,ajQ,hr]
  unfold Oper.wp
  rw [e3,Oper.upon_skip]
  refine x5 _ _ F O' μ b8 ?_ ?_ ?_
  ·exact .lit _
  ·simp only [jC];exact k1
  ·exact k2
end Go.Proofs.YtljfmaaadnoggaaGreatDoor.cX
