/- m[k] += v: the entry of a map and its stamp. -/
import Derived.Test.YtljfmaaadnoggaaWM
import Derived.WideKeyEntry
set_option linter.unusedSimpArgs false
set_option linter.unusedVariables false
namespace Go.Proofs.Ytljfmaaadnoggaa.Abs
open Go Go.RowKit
variable {w w' w'':World} {F F' F'' O O' O'':Nat→Prop} {μ μ' μ'':Nat→Nat} {K K' K'':Nat→Prop} {ft ft':Nat→Nat→Prop} {P:Program} {R:Type}
theorem inc_nodup {es:Array MapEntry} (h:∀ i j,i < j→j < es.size→(es.getD i default).born < (es.getD j default).born):(es.toList.map (·.born)).Nodup:=by
 unfold List.Nodup
 rw [List.pairwise_iff_getElem]
 intro i j hi hj hij
 have hi':i < es.size:=by simpa using hi
 have hj':j < es.size:=by simpa using hj
 have:=h i j hij hj'
 simp only [Array.getD_eq_getD_getElem?,Array.getElem?_eq_getElem hi',Array.getElem?_eq_getElem hj',Option.getD_some] at this
 simp only [List.getElem_map,Array.getElem_toList]
 omega
theorem stamp_at {es:Array MapEntry} (h:∀ i j,i < j→j < es.size→(es.getD i default).born < (es.getD j default).born) {j:Nat} (hj:j < es.size):
  es.findIdx? (fun e=>((e.born:Nat):Int)==(((es.getD j default).born:Nat):Int))=some j:=by
 rw [Go.WideElems.findIdx_arr]
 refine Go.WideElems.findIdx_born (inc_nodup h) ?_
 simp [Array.getD_eq_getD_getElem?,hj]
theorem modify_twice (es:Array MapEntry) (j:Nat) (k x:Value):(es.modify j fun e=>{ e with key:=k }).modify j (fun e=>{ e with val:=x })=es.modify j fun e=>{ e with key:=k,val:=x }:=by
 apply Array.ext
 ·simp
 ·intro i h1 h2
  simp only [Array.getElem_modify]
  split<;>simp_all
theorem push_modify (es:Array MapEntry) (k z x:Value) (c:Nat):(es.push { key:=k,val:=z,born:=c }).modify es.size (fun e=>{ e with val:=x })=es.push { key:=k,val:=x,born:=c }:=by
 apply Array.ext
 ·simp
 ·intro i h1 h2
  simp only [Array.getElem_modify,Array.getElem_push]
  split<;>split<;>simp_all<;>omega
theorem stamp_new {es:Array MapEntry} {clock:Nat} {k z:Value} (h:∀ i j,i < j→j < es.size→(es.getD i default).born < (es.getD j default).born) (hc:∀ i,i < es.size→(es.getD i default).born < clock):
  (es.push { key:=k,val:=z,born:=clock }).findIdx? (fun e=>((e.born:Nat):Int)==((clock:Nat):Int))=some es.size:=by
 have e1:∀ i,i < es.size→(es.push { key:=k,val:=z,born:=clock }).getD i default=es.getD i default:=fun i hi=>by
  simp only [Array.getD_eq_getD_getElem?,Array.getElem?_push]
  rw [if_neg (by omega)]
 have e2:(es.push { key:=k,val:=z,born:=clock }).getD es.size default={ key:=k,val:=z,born:=clock }:=by
  simp [Array.getD_eq_getD_getElem?,Array.getElem?_push]
 have h9:=stamp_at (es:=es.push { key:=k,val:=z,born:=clock }) (j:=es.size) (fun i j hij hj=>by
  simp only [Array.size_push] at hj
  rw [e1 i (by omega)]
  by_cases e:j=es.size
  ·subst e;rw [e2];exact hc i hij
  ·rw [e1 j (by omega)];exact h i j hij (by omega)) (by simp)
 rw [e2] at h9
 exact h9
theorem stamp_old {es:Array MapEntry} {k:Value} (h:∀ i j,i < j→j < es.size→(es.getD i default).born < (es.getD j default).born) {j:Nat} (hj:j < es.size):
  (es.modify j fun e=>{ e with key:=k }).findIdx? (fun e=>((e.born:Nat):Int)==(((es.getD j default).born:Nat):Int))=some j:=by
 have e1:∀ i,i < es.size→((es.modify j fun e=>{ e with key:=k }).getD i default).born=(es.getD i default).born:=fun i hi=>by
  simp only [Array.getD_eq_getD_getElem?]
  simp [hi,Array.getElem_modify]
  split<;>rfl
 have h9:=stamp_at (es:=es.modify j fun e=>{ e with key:=k }) (j:=j) (fun a b hab hb=>by
  simp only [Array.size_modify] at hb
  rw [e1 a (by omega),e1 b hb]
  exact h a b hab hb) (by simpa using hj)
 rw [e1 j hj] at h9
 exact h9
theorem entryStore_run {t:TypeId} {b j c:Nat} {st:Nat} {es:Array MapEntry} {x:Value} (hb:w.heap[b]?=some (.map es c)) (hj:es.findIdx? (fun e=>((e.born:Nat):Int)==((st:Nat):Int))=some j):
  (Instr.entryStore t (.map (some b)) (goInt st) x).run P w=.ok () (wput w b (.map (es.modify j fun e=>{ e with val:=x }) c)):=by
 simp only [Instr.entryStore,goInt,asInt,asIntOf,Sem.run_bind,Sem.run_pure,getMap_run hb,Result.andThen_ok]
 rw [hj]
 exact setMap_run hb
theorem entry_new {t kt et:TypeId} {b c:Nat} {es:Array MapEntry} {k x z:Value} (ht:P.underlying t=some (.map kt et)) (hb:w.heap[b]?=some (.map es c)) (hck:(Instr.checkKey false 10000 kt k).run P w=.ok () w)
  (hf:(Instr.findKey kt k es.toList).run P w=.ok none w) (hz:(zeroValue et).run P w=.ok z w) (h:∀ i j,i < j→j < es.size→(es.getD i default).born < (es.getD j default).born) (hc:∀ i,i < es.size→(es.getD i default).born < c):
  ∃ v st w1,(Instr.mapEntry t (.map (some b)) k).run P w=.ok (.tuple #[v,goInt (st:Nat)]) w1∧
   (Instr.entryStore t (.map (some b)) (goInt (st:Nat)) x).run P w1=.ok () (wput w b (.map (es.push { key:=k,val:=x,born:=c }) (c+1))):=by
 have hlt:b < w.heap.size:=(Array.getElem?_eq_some_iff.1 hb).1
 refine ⟨z,c,wput w b (.map (es.push { key:=k,val:=z,born:=c }) (c+1)),?_,?_⟩
 ·simp [Instr.mapEntry,run_und ht,getMap_run hb,hck,hf,hz,setMap_run hb]
 ·rw [entryStore_run (wput_same hlt _) (stamp_new h hc),wput_wput,push_modify]
theorem entry_old {t kt et:TypeId} {b c j:Nat} {es:Array MapEntry} {k x v:Value} (ht:P.underlying t=some (.map kt et)) (hb:w.heap[b]?=some (.map es c)) (hck:(Instr.checkKey false 10000 kt k).run P w=.ok () w)
  (hf:(Instr.findKey kt k es.toList).run P w=.ok (some (j,v)) w) (hj:j < es.size) (hs:∀ y,(Instr.keyThatStays (((es[j]?).map (·.key)).getD y) k).run P w=.ok k w) (h:∀ i j,i < j→j < es.size→(es.getD i default).born < (es.getD j default).born):
  ∃ v st w1,(Instr.mapEntry t (.map (some b)) k).run P w=.ok (.tuple #[v,goInt (st:Nat)]) w1∧
   (Instr.entryStore t (.map (some b)) (goInt (st:Nat)) x).run P w1=.ok () (wput w b (.map (es.modify j fun e=>{ e with key:=k,val:=x }) c)):=by
 have hlt:b < w.heap.size:=(Array.getElem?_eq_some_iff.1 hb).1
 refine ⟨v,(es.getD j default).born,wput w b (.map (es.modify j fun e=>{ e with key:=k }) c),?_,?_⟩
 ·have hbn:((es[j]?).map fun x=>(x.born:Int)).getD 0=(((es.getD j default).born:Nat):Int):=by simp [hj]
  simp only [Instr.mapEntry,Sem.run_bind,run_und ht,getMap_run hb,hck,hf,hs,setMap_run hb,Result.andThen_ok,Sem.run_pure,hbn]
 ·rw [entryStore_run (wput_same hlt _) (stamp_old h hj),wput_wput,modify_twice]
theorem mapz_map (l:List (AV×AV)) (j st:Nat):BImp (.mapz l j st) (.map l):=
 ⟨fun _=>rfl,fun {w F μ K S n o} h=>by
  obtain ⟨es,clock,h1,h2,h3,h4,h5,_⟩:=h
  exact ⟨es,clock,h1,h2,h3,h4,h5⟩⟩
def entA (l:List (AV×AV)) (ka za:AV):Option Nat→List (AV×AV)
 | none=>l++[(ka,za)]
 | some _=>l
def entJ (l:List (AV×AV)):Option Nat→Nat
 | none=>l.length
 | some j=>j
theorem entry_run {o:Oper} {s:SSt} {t kt et:TypeId} {m k:Operand} {id:Nat} {l:List (AV×AV)} {ka za:AV} {d:TypeDesc} {r:Option Nat} {act:Act} (ho:o.op=.mapEntry t m k) (hx:Opd s m (.mp id)) (hH:s.H id=some (.map l)) (hk:Opd s k ka) (hz:zvA P et=some za) (hcz:Clo za)
  (hck:Clo ka) (ht:P.underlying t=some (.map kt et)) (hkt:P.underlying kt=some d) (hd:keyK P kt ka=true) (hf:findAV ka l 0=some r) (hka:∀ j,r=some j→(l.getD j (.top,.top)).1=ka) (hs:SR w F O μ K s ft act):
  ∃ v st w1 O' ft',(execOp act.eval o).run P w=.ok (.value (.tuple #[v,goInt (st:Nat)])) w1∧HR w1 F O' μ K (s.H.upd [(id,some (.mapz (entA l ka za r) (entJ l r) st))]) ft'∧Fr w F O μ K w1 F O' μ:=by
 obtain ⟨z,hzr,rfl⟩:=zvA_ok hz
 obtain ⟨ob,hob,hB⟩:=hs.hr.blk id _ hH rfl
 obtain ⟨es,clock,rfl,h2,h3,h4,h5⟩:=map_inv hB
 have hm:=hx hs
 have hkv:=hk hs
 generalize hev:act.eval m=u at hm
 cases hm with
 | mp _ hid=>
  have hfn:=findKey_ok (w:=w) (es:=es.toList) hkt hd hkv (by simpa using h3) (fun j hj=>by rw [es_list];exact (h4 j hj).2.1) hf
  have hch:∀ e,(Instr.checkKey e 10000 kt (act.eval k)).run P w=.ok () w:=fun e=>key_check hd hkv
  have hlv:s.H.live id:=⟨_,hH,rfl⟩
  have hzr:=hzr (w:=w)
  have fin:∀ (es':Array MapEntry) (c':Nat) (l':List (AV×AV)) (j st:Nat) (v:Value),(Instr.mapEntry t (.map (some (μ id))) (act.eval k)).run P w=.ok (.tuple #[v,goInt (st:Nat)]) (wput w (μ id) (.map es' c'))→
    BlkR w F μ K (fun x=>x=μ id) (μ id) (.map es' c') (.mapz l' j st)→∃ v st' w1 O' ft',(execOp act.eval o).run P w=.ok (.value (.tuple #[v,goInt (st':Nat)])) w1∧HR w1 F O' μ K (s.H.upd [(id,some (.mapz l' j st'))]) ft'∧Fr w F O μ K w1 F O' μ:=by
   intro es' c' l' j st v hrun hBlk
   obtain ⟨O',ft',k1,k2⟩:=write_step (L:=[]) hs.hr hH rfl hob (o':=.map es' c') (by simp [sameShape]) (by simp) (fun y (hy:y=μ id)=>⟨id,.inl rfl,hlv,hy▸hs.hr.self id hlv⟩) rfl hBlk
   exact ⟨v,st,_,O',ft',by simp [execOp,ho,hev,hrun],k1,k2⟩
  cases r with
  | none=>
   simp only at hfn
   refine fin (es.push { key:=act.eval k,val:=z,born:=clock }) (clock+1) _ _ clock z ?_ ?_
   ·simp [Instr.mapEntry,run_und ht,getMap_run hob,hch,hfn,hzr,setMap_run hob]
   ·have eo:∀ i,i < es.size→(es.push { key:=act.eval k,val:=z,born:=clock }).getD i default=es.getD i default:=fun i hi=>by
     simp [Array.getD_eq_getD_getElem?,Array.getElem?_push,show i≠es.size by omega]
    have en:(es.push { key:=act.eval k,val:=z,born:=clock }).getD es.size default={ key:=act.eval k,val:=z,born:=clock }:=by
     simp [Array.getD_eq_getD_getElem?,Array.getElem?_push]
    refine ⟨_,_,rfl,fun _=>Iff.rfl,by simp [entA,h3],fun i hi=>?_,fun i j hij hj=>?_,by simp [entJ,h3],by simp only [entJ];rw [← h3,en]⟩
    ·simp only [entA,List.length_append,List.length_cons,List.length_nil] at hi
     by_cases e:i < l.length
     ·have e2:(entA l ka (zv z) none).getD i (.top,.top)=l.getD i (.top,.top):=by simp [entA,List.getD,List.getElem?_append,e]
      obtain ⟨q1,q2,q3⟩:=h4 i e
      rw [eo i (by omega),e2]
      exact ⟨by omega,q2,q3⟩
     ·have ei:i=es.size:=by omega
      have e2:(entA l ka (zv z) none).getD i (.top,.top)=(ka,zv z):=by simp [entA,List.getD,List.getElem?_append,show ¬ i < l.length from e,show i-l.length=0 by omega]
      rw [ei,en,← ei,e2]
      exact ⟨by simp,hck hkv,hcz (zv_ok (F:=F) (μ:=μ) (K:=K) z)⟩
    ·have hj':j < es.size+1:=by simpa using hj
     rw [eo i (by omega)]
     by_cases e:j < es.size
     ·rw [eo j e];exact h5 i j hij e
     ·have ej:j=es.size:=by omega
      rw [ej,en]
      exact (h4 i (by omega)).1
  | some j=>
   obtain ⟨k2,hfr,k4⟩:=hfn
   have hj:j < l.length:=by
    have:es.toList.length=l.length:=by simpa using h3
    omega
   have hje:j < es.size:=by omega
   have hst:∀ v,(Instr.keyThatStays (((es[j]?).map (·.key)).getD v) (act.eval k)).run P w=.ok (act.eval k) w:=fun v=>by
    have hkey:((es[j]?).map (·.key)).getD v=(es.getD j default).key:=by simp [hje]
    have:=same_key k4 hkv (h4 j hj).2.1
    rw [hkey]
    unfold Instr.keyThatStays
    rw [if_pos this]
    exact Sem.run_pure _ _ _
   rw [es_list] at hfr
   have hbn:((es[j]?).map fun x=>(x.born:Int)).getD 0=(((es.getD j default).born:Nat):Int):=by simp [hje]
   refine fin (es.modify j fun e=>{ e with key:=act.eval k }) clock _ _ (es.getD j default).born (es.getD j default).val ?_ ?_
   ·simp only [Instr.mapEntry,Sem.run_bind,run_und ht,getMap_run hob,hch,hfr,hst,setMap_run hob,Result.andThen_ok,Sem.run_pure,hbn]
   ·have gm:∀ i,i < es.size→(es.modify j fun e=>{ e with key:=act.eval k }).getD i default=if i=j then { es.getD j default with key:=act.eval k } else es.getD i default:=fun i hi=>by
     by_cases e:i=j
     ·subst e;simp [Array.getD_eq_getD_getElem?,hi,Array.getElem_modify]
     ·simp [Array.getD_eq_getD_getElem?,hi,Array.getElem_modify,e,Ne.symm e]
    have born:∀ i,i < es.size→((es.modify j fun e=>{ e with key:=act.eval k }).getD i default).born=(es.getD i default).born:=fun i hi=>by
     rw [gm i hi];split
     ·rename_i e;subst e;rfl
     ·rfl
    refine ⟨_,_,rfl,fun _=>Iff.rfl,by simp [entA,h3],fun i hi=>?_,fun i i' hij hj'=>?_,by simpa [entJ] using hje,born j hje⟩
    ·have hi':i < l.length:=by simpa [entA] using hi
     rw [gm i (by omega)]
     obtain ⟨q1,q2,q3⟩:=h4 i hi'
     by_cases e:i=j
     ·subst e
      rw [if_pos rfl]
      refine ⟨q1,?_,q3⟩
      show VR w F μ NoK (l.getD i (.top,.top)).1 _
      rw [hka i rfl]
      exact hck hkv
     ·rw [if_neg e];exact ⟨q1,q2,q3⟩
    ·have hj2:i' < es.size:=by simpa using hj'
     rw [born i (by omega),born i' hj2]
     exact h5 i i' hij hj2
theorem op_entryStore {o:Oper} {s:SSt} {t:TypeId} {m x3 x:Operand} {id j st:Nat} {l:List (AV×AV)} {va:AV} (ho:o.op=.entryStore t m x3 x) (hm:Opd s m (.mp id)) (hH:s.H id=some (.mapz l j st)) (h3':Opd s x3 (.int .i64 (st:Nat))) (hv:Opd s x va) (hcl:Clo va):
  OpOk P o s ⟨.lit undef,[(id,some (.map (l.set j ((l.getD j (.top,.top)).1,va))))],[]⟩:=by
 intro w F O μ K ft act hs _ Kn Q hkk
 obtain ⟨ob,hob,hB⟩:=hs.hr.blk id _ hH rfl
 obtain ⟨es,clock,rfl,h2,h3,h4,h5,h6,h7⟩:=hB
 have hm':=hm hs
 have hvv:=hv hs
 have hst:=(h3' hs).int_inv
 have hlv:s.H.live id:=⟨_,hH,rfl⟩
 generalize hev:act.eval m=u at hm'
 cases hm' with
 | mp _ hid=>
  have hr:=entryStore_run (P:=P) (t:=t) (x:=act.eval x) (st:=st) hob (by rw [← h7];exact stamp_at h5 h6)
  have gm:∀ i,i < es.size→(es.modify j fun e=>{ e with val:=act.eval x }).getD i default=if i=j then { es.getD j default with val:=act.eval x } else es.getD i default:=fun i hi=>by
   by_cases e:i=j
   ·subst e;simp [Array.getD_eq_getD_getElem?,hi,Array.getElem_modify]
   ·simp [Array.getD_eq_getD_getElem?,hi,Array.getElem_modify,e,Ne.symm e]
  have born:∀ i,i < es.size→((es.modify j fun e=>{ e with val:=act.eval x }).getD i default).born=(es.getD i default).born:=fun i hi=>by
   rw [gm i hi];split
   ·rename_i e;subst e;rfl
   ·rfl
  have hBlk:BlkR w F μ K (fun x=>x=μ id) (μ id) (.map (es.modify j fun e=>{ e with val:=act.eval x }) clock) (.map (l.set j ((l.getD j (.top,.top)).1,va))):=by
   refine ⟨_,_,rfl,fun _=>Iff.rfl,by simp [h3],fun i hi=>?_,fun i i' hij hj'=>?_⟩
   ·have hi':i < l.length:=by simpa using hi
    rw [gm i (by omega)]
    obtain ⟨q1,q2,q3⟩:=h4 i hi'
    by_cases e:i=j
    ·subst e
     rw [if_pos rfl]
     have e2:(l.set i ((l.getD i (.top,.top)).1,va)).getD i (.top,.top)=((l.getD i (.top,.top)).1,va):=by simp [List.getD,hi']
     rw [e2]
     exact ⟨q1,q2,hcl hvv⟩
    ·rw [if_neg e]
     have e2:(l.set j ((l.getD j (.top,.top)).1,va)).getD i (.top,.top)=l.getD i (.top,.top):=by simp [List.getD,List.getElem?_set_ne (Ne.symm e)]
     rw [e2];exact ⟨q1,q2,q3⟩
   ·have hj2:i' < es.size:=by simpa using hj'
    rw [born i (by omega),born i' hj2]
    exact h5 i i' hij hj2
  obtain ⟨O',ft',k1,k2⟩:=write_step (L:=[]) hs.hr hH rfl hob (o':=.map (es.modify j fun e=>{ e with val:=act.eval x }) clock) (by simp [sameShape]) (by simp) (fun y (hy:y=μ id)=>⟨id,.inl rfl,hlv,hy▸hs.hr.self id hlv⟩) rfl hBlk
  have e3:(execOp act.eval o).run P w=.ok .skip (wput w (μ id) (.map (es.modify j fun e=>{ e with val:=act.eval x }) clock)):=by
   have hst':act.eval x3=goInt (st:Nat):=hst
   simp [execOp,ho,hev,hst',hr]
  unfold Oper.wp
  rw [e3,Oper.upon_skip]
  refine hkk _ _ F O' μ ft' ?_ ?_ ?_
  ·exact .lit _
  ·simp only [plus_nil];exact k1
  ·exact k2
end Go.Proofs.Ytljfmaaadnoggaa.Abs
