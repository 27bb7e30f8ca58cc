/- m[k] += v: the entry of a map and its stamp. -/
import Derived.Test.YtljfmaaadnoggaaGreatDoorWM
import Derived.WideKeyEntry
set_option linter.unusedSimpArgs false
set_option linter.unusedVariables false
namespace Go.Proofs.YtljfmaaadnoggaaGreatDoor.cU
open Go Go.RowKit
variable {w w' vP:World} {F F' Am O O' ux:Nat→Prop} {μ bB jV:Nat→Nat} {K K' DQ:Nat→Prop} {ft b7:Nat→Nat→Prop} {P:Program} {R:Type}
theorem X7 {es:Array MapEntry} (h:∀ i j,i < j→j < es.size→(es.getD i default).born < (es.getD j default).born):(es.toList.map (·.born)).Nodup:=by
 unfold List.Nodup
 rw [List.pairwise_iff_getElem]
 intro i j hi hj Lj
 have c8:i < es.size:=by simpa using hi
 have lu:j < es.size:=by simpa using hj
 have:=h i j Lj lu
 simp only [Array.getD_eq_getD_getElem?,Array.getElem?_eq_getElem c8,Array.getElem?_eq_getElem lu,Option.getD_some] at this
 simp only [List.getElem_map,Array.getElem_toList]
 omega
theorem N8 {es:Array MapEntry} (h:∀ i j,i < j→j < es.size→(es.getD i default).born < (es.getD j default).born) {j:Nat} (hj:j < es.size):
  es.findIdx? (fun e=>((e.born:Nat):Int)==(((es.getD j default).born:Nat):Int))=some j:=by
 rw [Go.WideElems.findIdx_arr]
 refine Go.WideElems.findIdx_born (X7 h) ?_
 simp [Array.getD_eq_getD_getElem?,hj]
theorem RM (es:Array MapEntry) (j:Nat) (k x:Value):(es.modify j fun e=>{ e with key:=k }).modify j (fun e=>{ e with val:=x })=es.modify j fun e=>{ e with key:=k,val:=x }:=by
 apply Array.ext
 ·simp
 ·intro i h1 h2
  simp only [Array.getElem_modify]
  split<;>simp_all
theorem TQ (es:Array MapEntry) (k z x:Value) (c:Nat):(es.push { key:=k,val:=z,born:=c }).modify es.size (fun e=>{ e with val:=x })=es.push { key:=k,val:=x,born:=c }:=by
 apply Array.ext
 ·simp
 ·intro i h1 h2
  simp only [Array.getElem_modify,Array.getElem_push]
  split<;>split<;>simp_all<;>omega
theorem X8 {es:Array MapEntry} {clock:Nat} {k z:Value} (h:∀ i j,i < j→j < es.size→(es.getD i default).born < (es.getD j default).born) (hc:∀ i,i < es.size→(es.getD i default).born < clock):
  (es.push { key:=k,val:=z,born:=clock }).findIdx? (fun e=>((e.born:Nat):Int)==((clock:Nat):Int))=some es.size:=by
 have e1:∀ i,i < es.size→(es.push { key:=k,val:=z,born:=clock }).getD i default=es.getD i default:=fun i hi=>by
  simp only [Array.getD_eq_getD_getElem?,Array.getElem?_push]
  rw [if_neg (by omega)]
 have e2:(es.push { key:=k,val:=z,born:=clock }).getD es.size default={ key:=k,val:=z,born:=clock }:=by
  simp [Array.getD_eq_getD_getElem?,Array.getElem?_push]
 have h9:=N8 (es:=es.push { key:=k,val:=z,born:=clock }) (j:=es.size) (fun i j Lj hj=>by
  simp only [Array.size_push] at hj
  rw [e1 i (by omega)]
  by_cases e:j=es.size
  ·subst e;rw [e2];exact hc i Lj
  ·rw [e1 j (by omega)];exact h i j Lj (by omega)) (by simp)
 rw [e2] at h9
 exact h9
theorem X9 {es:Array MapEntry} {k:Value} (h:∀ i j,i < j→j < es.size→(es.getD i default).born < (es.getD j default).born) {j:Nat} (hj:j < es.size):
  (es.modify j fun e=>{ e with key:=k }).findIdx? (fun e=>((e.born:Nat):Int)==(((es.getD j default).born:Nat):Int))=some j:=by
 have e1:∀ i,i < es.size→((es.modify j fun e=>{ e with key:=k }).getD i default).born=(es.getD i default).born:=fun i hi=>by
  simp only [Array.getD_eq_getD_getElem?]
  simp [hi,Array.getElem_modify]
  split<;>rfl
 have h9:=N8 (es:=es.modify j fun e=>{ e with key:=k }) (j:=j) (fun a b hab hb=>by
  simp only [Array.size_modify] at hb
  rw [e1 a (by omega),e1 b hb]
  exact h a b hab hb) (by simpa using hj)
 rw [e1 j hj] at h9
 exact h9
theorem xV {t:TypeId} {b j c:Nat} {st:Nat} {es:Array MapEntry} {x:Value} (hb:w.heap[b]?=some (.map es c)) (hj:es.findIdx? (fun e=>((e.born:Nat):Int)==((st:Nat):Int))=some j):
  (Instr.entryStore t (.map (some b)) (goInt st) x).run P w=.ok () (iZ w b (.map (es.modify j fun e=>{ e with val:=x }) c)):=by
 simp only [Instr.entryStore,goInt,asInt,asIntOf,Sem.run_bind,Sem.run_pure,kO hb,Result.andThen_ok]
 rw [hj]
 exact pB hb
theorem adW {t kt et:TypeId} {b c:Nat} {es:Array MapEntry} {k x z:Value} (ht:P.underlying t=some (.map kt et)) (hb:w.heap[b]?=some (.map es c)) (Yr:(Instr.checkKey false 10000 kt k).run P w=.ok () w)
  (hf:(Instr.findKey kt k es.toList).run P w=.ok none w) (hz:(zeroValue et).run P w=.ok z w) (h:∀ i j,i < j→j < es.size→(es.getD i default).born < (es.getD j default).born) (hc:∀ i,i < es.size→(es.getD i default).born < c):
  ∃ v st w1,(Instr.mapEntry t (.map (some b)) k).run P w=.ok (.tuple #[v,goInt (st:Nat)]) w1∧
   (Instr.entryStore t (.map (some b)) (goInt (st:Nat)) x).run P w1=.ok () (iZ w b (.map (es.push { key:=k,val:=x,born:=c }) (c+1))):=by
 have dL:b < w.heap.size:=(Array.getElem?_eq_some_iff.1 hb).1
 refine ⟨z,c,iZ w b (.map (es.push { key:=k,val:=z,born:=c }) (c+1)),?_,?_⟩
 ·simp [Instr.mapEntry,cl ht,kO hb,Yr,hf,hz,pB hb]
 ·rw [xV (wo dL _) (X8 h hc),J9,TQ]
theorem adX {t kt et:TypeId} {b c j:Nat} {es:Array MapEntry} {k x v:Value} (ht:P.underlying t=some (.map kt et)) (hb:w.heap[b]?=some (.map es c)) (Yr:(Instr.checkKey false 10000 kt k).run P w=.ok () w)
  (hf:(Instr.findKey kt k es.toList).run P w=.ok (some (j,v)) w) (hj:j < es.size) (hs:∀ y,(Instr.keyThatStays (((es[j]?).map (·.key)).getD y) k).run P w=.ok k w) (h:∀ i j,i < j→j < es.size→(es.getD i default).born < (es.getD j default).born):
  ∃ v st w1,(Instr.mapEntry t (.map (some b)) k).run P w=.ok (.tuple #[v,goInt (st:Nat)]) w1∧
   (Instr.entryStore t (.map (some b)) (goInt (st:Nat)) x).run P w1=.ok () (iZ w b (.map (es.modify j fun e=>{ e with key:=k,val:=x }) c)):=by
 have dL:b < w.heap.size:=(Array.getElem?_eq_some_iff.1 hb).1
 refine ⟨v,(es.getD j default).born,iZ w b (.map (es.modify j fun e=>{ e with key:=k }) c),?_,?_⟩
 ·have hbn:((es[j]?).map fun x=>(x.born:Int)).getD 0=(((es.getD j default).born:Nat):Int):=by simp [hj]
  simp only [Instr.mapEntry,Sem.run_bind,cl ht,kO hb,Yr,hf,hs,pB hb,Result.andThen_ok,Sem.run_pure,hbn]
 ·rw [xV (wo dL _) (X9 h hj),J9,RM]
theorem aai (l:List (AV×AV)) (j st:Nat):eD (.G_ l j st) (.map l):=
 ⟨fun _=>rfl,fun {w F μ K S n o} h=>by
  obtain ⟨es,clock,h1,h2,h3,h4,h5,_⟩:=h
  exact ⟨es,clock,h1,h2,h3,h4,h5⟩⟩
def FI (l:List (AV×AV)) (ka za:AV):Option Nat→List (AV×AV)
 | none=>l++[(ka,za)]
 | some _=>l
def CJ (l:List (AV×AV)):Option Nat→Nat
 | none=>l.length
 | some j=>j
theorem X6 {o:Oper} {s:fy} {t kt et:TypeId} {m k:Operand} {id:Nat} {l:List (AV×AV)} {ka za:AV} {d:TypeDesc} {r:Option Nat} {act:Act} (ho:o.op=.mapEntry t m k) (hx:dT s m (.mp id)) (hH:s.H id=some (.map l)) (hk:dT s k ka) (hz:zvA P et=some za) (hcz:PL za)
  (Yr:PL ka) (ht:P.underlying t=some (.map kt et)) (Ge:P.underlying kt=some d) (hd:BD P kt ka=true) (hf:kN ka l 0=some r) (hka:∀ j,r=some j→(l.getD j (.top,.top)).1=ka) (hs:SR w F O μ K s ft act):
  ∃ v st w1 O' b7,(execOp act.eval o).run P w=.ok (.value (.tuple #[v,goInt (st:Nat)])) w1∧HR w1 F O' μ K (s.H.c7 [(id,some (.G_ (FI l ka za r) (CJ l r) st))]) b7∧Fr w F O μ K w1 F O' μ:=by
 obtain ⟨z,Xm,rfl⟩:=aap hz
 obtain ⟨ob,rQ,hB⟩:=hs.hr.di id _ hH rfl
 obtain ⟨es,clock,rfl,h2,h3,h4,h5⟩:=RN hB
 have hm:=hx hs
 have WG:=hk hs
 generalize F_:act.eval m=u at hm
 cases hm with
 | mp _ bY=>
  have Xg:=HB (w:=w) (es:=es.toList) Ge hd WG (by simpa using h3) (fun j hj=>by rw [EH];exact (h4 j hj).2.1) hf
  have hch:∀ e,(Instr.checkKey e 10000 kt (act.eval k)).run P w=.ok () w:=fun e=>KL hd WG
  have ic:s.H.live id:=⟨_,hH,rfl⟩
  have Xm:=Xm (w:=w)
  have fin:∀ (es':Array MapEntry) (c':Nat) (l':List (AV×AV)) (j st:Nat) (v:Value),(Instr.mapEntry t (.map (some (μ id))) (act.eval k)).run P w=.ok (.tuple #[v,goInt (st:Nat)]) (iZ w (μ id) (.map es' c'))→
    gO w F μ K (fun x=>x=μ id) (μ id) (.map es' c') (.G_ l' j st)→∃ v RQ w1 O' b7,(execOp act.eval o).run P w=.ok (.value (.tuple #[v,goInt (RQ:Nat)])) w1∧HR w1 F O' μ K (s.H.c7 [(id,some (.G_ l' j RQ))]) b7∧Fr w F O μ K w1 F O' μ:=by
   intro es' c' l' j st v lD Q1
   obtain ⟨O',b7,k1,k2⟩:=mD (L:=[]) hs.hr hH rfl rQ (o':=.map es' c') (by simp [sameShape]) (by simp) (fun y (hy:y=μ id)=>⟨id,.inl rfl,ic,hy▸hs.hr.self id ic⟩) rfl Q1
   exact ⟨v,st,_,O',b7,by simp [execOp,ho,F_,lD],k1,k2⟩
  cases r with
  | none=>
   simp only at Xg
   refine fin (es.push { key:=act.eval k,val:=z,born:=clock }) (clock+1) _ _ clock z ?_ ?_
   ·simp [Instr.mapEntry,cl ht,kO rQ,hch,Xg,Xm,pB rQ]
   ·have eo:∀ i,i < es.size→(es.push { key:=act.eval k,val:=z,born:=clock }).getD i default=es.getD i default:=fun i hi=>by
     simp [Array.getD_eq_getD_getElem?,Array.getElem?_push,show i≠es.size by omega]
    have en:(es.push { key:=act.eval k,val:=z,born:=clock }).getD es.size default={ key:=act.eval k,val:=z,born:=clock }:=by
     simp [Array.getD_eq_getD_getElem?,Array.getElem?_push]
    refine ⟨_,_,rfl,fun _=>Iff.rfl,by simp [FI,h3],fun i hi=>?_,fun i j Lj hj=>?_,by simp [CJ,h3],by simp only [CJ];rw [← h3,en]⟩
    ·simp only [FI,List.length_append,List.length_cons,List.length_nil] at hi
     by_cases e:i < l.length
     ·have e2:(FI l ka (zv z) none).getD i (.top,.top)=l.getD i (.top,.top):=by simp [FI,List.getD,List.getElem?_append,e]
      obtain ⟨q1,q2,q3⟩:=h4 i e
      rw [eo i (by omega),e2]
      exact ⟨by omega,q2,q3⟩
     ·have ei:i=es.size:=by omega
      have e2:(FI l ka (zv z) none).getD i (.top,.top)=(ka,zv z):=by simp [FI,List.getD,List.getElem?_append,show ¬ i < l.length from e,show i-l.length=0 by omega]
      rw [ei,en,← ei,e2]
      exact ⟨by simp,Yr WG,hcz (acu (F:=F) (μ:=μ) (K:=K) z)⟩
    ·have lu:j < es.size+1:=by simpa using hj
     rw [eo i (by omega)]
     by_cases e:j < es.size
     ·rw [eo j e];exact h5 i j Lj e
     ·have ej:j=es.size:=by omega
      rw [ej,en]
      exact (h4 i (by omega)).1
  | some j=>
   obtain ⟨k2,AA,k4⟩:=Xg
   have hj:j < l.length:=by
    have:es.toList.length=l.length:=by simpa using h3
    omega
   have Yj:j < es.size:=by omega
   have vQ:∀ v,(Instr.keyThatStays (((es[j]?).map (·.key)).getD v) (act.eval k)).run P w=.ok (act.eval k) w:=fun v=>by
    have abX:((es[j]?).map (·.key)).getD v=(es.getD j default).key:=by simp [Yj]
    have:=TR k4 WG (h4 j hj).2.1
    rw [abX]
    unfold Instr.keyThatStays
    rw [if_pos this]
    exact Sem.run_pure _ _ _
   rw [EH] at AA
   have hbn:((es[j]?).map fun x=>(x.born:Int)).getD 0=(((es.getD j default).born:Nat):Int):=by simp [Yj]
   refine fin (es.modify j fun e=>{ e with key:=act.eval k }) clock _ _ (es.getD j default).born (es.getD j default).val ?_ ?_
   ·simp only [Instr.mapEntry,Sem.run_bind,cl ht,kO rQ,hch,AA,vQ,pB rQ,Result.andThen_ok,Sem.run_pure,hbn]
   ·have gm:∀ i,i < es.size→(es.modify j fun e=>{ e with key:=act.eval k }).getD i default=if i=j then { es.getD j default with key:=act.eval k } else es.getD i default:=fun i hi=>by
     by_cases e:i=j
     ·subst e;simp [Array.getD_eq_getD_getElem?,hi,Array.getElem_modify]
     ·simp [Array.getD_eq_getD_getElem?,hi,Array.getElem_modify,e,Ne.symm e]
    have born:∀ i,i < es.size→((es.modify j fun e=>{ e with key:=act.eval k }).getD i default).born=(es.getD i default).born:=fun i hi=>by
     rw [gm i hi];split
     ·rename_i e;subst e;rfl
     ·rfl
    refine ⟨_,_,rfl,fun _=>Iff.rfl,by simp [FI,h3],fun i hi=>?_,fun i i' Lj lu=>?_,by simpa [CJ] using Yj,born j Yj⟩
    ·have c8:i < l.length:=by simpa [FI] using hi
     rw [gm i (by omega)]
     obtain ⟨q1,q2,q3⟩:=h4 i c8
     by_cases e:i=j
     ·subst e
      rw [if_pos rfl]
      refine ⟨q1,?_,q3⟩
      show VR w F μ B_ (l.getD i (.top,.top)).1 _
      rw [hka i rfl]
      exact Yr WG
     ·rw [if_neg e];exact ⟨q1,q2,q3⟩
    ·have S6:i' < es.size:=by simpa using lu
     rw [born i (by omega),born i' S6]
     exact h5 i i' Lj S6
theorem O9 {o:Oper} {s:fy} {t:TypeId} {m x3 x:Operand} {id j st:Nat} {l:List (AV×AV)} {va:AV} (ho:o.op=.entryStore t m x3 x) (hm:dT s m (.mp id)) (hH:s.H id=some (.G_ l j st)) (h3':dT s x3 (.int .i64 (st:Nat))) (hv:dT s x va) (Og:PL va):
  db P o s ⟨.lit undef,[(id,some (.map (l.set j ((l.getD j (.top,.top)).1,va))))],[]⟩:=by
 intro w F O μ K ft act hs _ Kn Q wv
 obtain ⟨ob,rQ,hB⟩:=hs.hr.di id _ hH rfl
 obtain ⟨es,clock,rfl,h2,h3,h4,h5,h6,h7⟩:=hB
 have Xy:=hm hs
 have hvv:=hv hs
 have vQ:=(h3' hs).c_
 have ic:s.H.live id:=⟨_,hH,rfl⟩
 generalize F_:act.eval m=u at Xy
 cases Xy with
 | mp _ bY=>
  have hr:=xV (P:=P) (t:=t) (x:=act.eval x) (st:=st) rQ (by rw [← h7];exact N8 h5 h6)
  have gm:∀ i,i < es.size→(es.modify j fun e=>{ e with val:=act.eval x }).getD i default=if i=j then { es.getD j default with val:=act.eval x } else es.getD i default:=fun i hi=>by
   by_cases e:i=j
   ·subst e;simp [Array.getD_eq_getD_getElem?,hi,Array.getElem_modify]
   ·simp [Array.getD_eq_getD_getElem?,hi,Array.getElem_modify,e,Ne.symm e]
  have born:∀ i,i < es.size→((es.modify j fun e=>{ e with val:=act.eval x }).getD i default).born=(es.getD i default).born:=fun i hi=>by
   rw [gm i hi];split
   ·rename_i e;subst e;rfl
   ·rfl
  have Q1:gO w F μ K (fun x=>x=μ id) (μ id) (.map (es.modify j fun e=>{ e with val:=act.eval x }) clock) (.map (l.set j ((l.getD j (.top,.top)).1,va))):=by
   refine ⟨_,_,rfl,fun _=>Iff.rfl,by simp [h3],fun i hi=>?_,fun i i' Lj lu=>?_⟩
   ·have c8:i < l.length:=by simpa using hi
    rw [gm i (by omega)]
    obtain ⟨q1,q2,q3⟩:=h4 i c8
    by_cases e:i=j
    ·subst e
     rw [if_pos rfl]
     have e2:(l.set i ((l.getD i (.top,.top)).1,va)).getD i (.top,.top)=((l.getD i (.top,.top)).1,va):=by simp [List.getD,c8]
     rw [e2]
     exact ⟨q1,q2,Og hvv⟩
    ·rw [if_neg e]
     have e2:(l.set j ((l.getD j (.top,.top)).1,va)).getD i (.top,.top)=l.getD i (.top,.top):=by simp [List.getD,List.getElem?_set_ne (Ne.symm e)]
     rw [e2];exact ⟨q1,q2,q3⟩
   ·have S6:i' < es.size:=by simpa using lu
    rw [born i (by omega),born i' S6]
    exact h5 i i' Lj S6
  obtain ⟨O',b7,k1,k2⟩:=mD (L:=[]) hs.hr hH rfl rQ (o':=.map (es.modify j fun e=>{ e with val:=act.eval x }) clock) (by simp [sameShape]) (by simp) (fun y (hy:y=μ id)=>⟨id,.inl rfl,ic,hy▸hs.hr.self id ic⟩) rfl Q1
  have e3:(execOp act.eval o).run P w=.ok .skip (iZ w (μ id) (.map (es.modify j fun e=>{ e with val:=act.eval x }) clock)):=by
   have agT:act.eval x3=goInt (st:Nat):=vQ
   simp [execOp,ho,F_,agT,hr]
  unfold Oper.wp
  rw [e3,Oper.upon_skip]
  refine wv _ _ F O' μ b7 ?_ ?_ ?_
  ·exact .lit _
  ·simp only [la];exact k1
  ·exact k2
end Go.Proofs.YtljfmaaadnoggaaGreatDoor.cU
