/- Maps of the call's own: made, looked up, written. No condition. -/
import Derived.Test.YtljfmaaadnoggaaWK
set_option linter.unusedSimpArgs false
set_option linter.unusedVariables false
namespace Go.Proofs.Ytljfmaaadnoggaa.Abs
open Go Go.RowKit
variable {w w' w'':World} {F F' F'' O O' O'':Nat→Prop} {μ μ' μ'':Nat→Nat} {K K' K'':Nat→Prop} {ft ft':Nat→Nat→Prop} {P:Program} {R:Type}
theorem op_makeMap {o:Oper} {s:SSt} {t:TypeId} {N:Nat} (ho:o.op=.makeMap t none):OpOk P o s ⟨.mp N,[(N,some (.map []))],[N]⟩:=
 opok_alloc fun {w F O μ K ft act} hs=>by
  refine ⟨.map (some w.heap.size),.map #[] 0,w.drawn,?_,⟨#[],0,rfl,fun x=>Iff.rfl,rfl,(fun i hi=>absurd hi (by simp)),fun i j _ hj=>absurd hj (by simp)⟩,fun w' μ' _ _ hm=>?_⟩
  ·simp [execOp,ho,Instr.makeMap]
  ·rw [← hm];exact .mp N (.inr (by simp))
def zv:Value→AV
 | .agg ⟨cs⟩=>.agg (cs.map ofV)
 | v=>ofV v
theorem zv_ok (v:Value):VR w F μ K (zv v) v:=by
 unfold zv
 split
 ·rename_i cs
  exact .mkAgg ⟨by simp,fun i hi=>by
   have hi':i < cs.length:=by simpa using hi
   have e:(cs.map ofV).getD i .top=ofV (cs.getD i undef):=by simp [List.getD,hi']
   rw [e];exact ofV_ok _⟩
 ·exact ofV_ok _
def zvA (P:Program) (t:TypeId):Option AV:=match P.info? t with
 | some i=>match i.zero with
  | some z=>some (zv z)
  | none=>none
 | none=>none
theorem zvA_ok {t:TypeId} {a:AV} (h:zvA P t=some a):∃ z,(∀ w,(zeroValue t).run P w=.ok z w)∧a=zv z:=by
 unfold zvA at h
 split at h
 ·rename_i i hi
  split at h
  ·rename_i z hz
   exact ⟨z,fun w=>run_zer hi hz,by simpa using h.symm⟩
  ·cases h
 ·cases h
def lookR (ok:Bool) (v:AV) (b:Bool):AV:=match ok with
 | true=>.tup [v,.bool b]
 | false=>v
theorem lookR_ok {ok:Bool} {a:AV} {v:Value} {b:Bool} (h:VR w F μ K a v):VR w F μ K (lookR ok a b) (if ok then .tuple #[v,.bool b] else v):=by
 cases ok with
 | false=>exact h
 | true=>exact .mkTup (.cons h (.cons (.bool _) .nil))
theorem map_inv {S:Nat→Prop} {b:Nat} {o:Obj} {l:List (AV×AV)} (h:BlkR w F μ K S b o (.map l)):∃ es clock,o=.map es clock∧(∀ x,S x↔x=b)∧es.size=l.length∧(∀ i,i < l.length→(es.getD i default).born < clock∧VR w F μ NoK (l.getD i (.top,.top)).1 (es.getD i default).key∧VR w F μ NoK (l.getD i (.top,.top)).2 (es.getD i default).val)∧
   ∀ i j,i < j→j < es.size→(es.getD i default).born < (es.getD j default).born:=h
theorem es_list (es:Array MapEntry) (i:Nat):es.toList.getD i default=es.getD i default:=by
 simp [List.getD,Array.getD_eq_getD_getElem?]
theorem getMap_run {r:Nat} {es:Array MapEntry} {c:Nat} (h:w.heap[r]?=some (.map es c)):(getObj r).run P w=.ok (.map es c) w:=by
 simp [getObj,Sem.run,h]
theorem setMap_run {r:Nat} {es:Array MapEntry} {c:Nat} {o:Obj} (h:w.heap[r]?=some (.map es c)):(setObj r o).run P w=.ok () (wput w r o):=by
 have hlt:r < w.heap.size:=(Array.getElem?_eq_some_iff.1 h).1
 have h':w.heap[r]=.map es c:=by simpa [hlt] using h
 simp [setObj,Sem.run,h',hlt,wput]
def lookV (ok:Bool) (za:AV) (l:List (AV×AV)):Option Nat→AV
 | none=>lookR ok za false
 | some j=>lookR ok (l.getD j (.top,.top)).2 true
theorem ov_lookup {o:Oper} {s:SSt} {t kt et:TypeId} {x k:Operand} {ok:Bool} {id:Nat} {l:List (AV×AV)} {ka za:AV} {d:TypeDesc} {r:Option Nat} (ho:o.op=.lookup t x k ok) (hx:Opd s x (.mp id)) (hH:s.H id=some (.map l)) (hk:Opd s k ka)
  (ht:P.underlying t=some (.map kt et)) (hkt:P.underlying kt=some d) (hd:keyK P kt ka=true) (hf:findAV ka l 0=some r) (hz:zvA P et=some za):
  ∀ {w:World} {F O:Nat→Prop} {μ:Nat→Nat} {K:Nat→Prop} {ft:Nat→Nat→Prop} {act:Act},SR w F O μ K s ft act→∃ v,(execOp act.eval o).run P w=.ok (.value v) w∧VR w F μ K (lookV ok za l r) v:=fun {w F O μ K ft act} hs=>by
  obtain ⟨z,hzr,rfl⟩:=zvA_ok hz
  obtain ⟨ob,hob,hB⟩:=hs.hr.blk id _ hH rfl
  obtain ⟨es,clock,rfl,h2,h3,h4,h5⟩:=map_inv hB
  have hv:=hx hs
  have hkv:=hk hs
  generalize hev:act.eval x=v at hv
  cases hv with
  | mp _ hid=>
   have hfn:=findKey_ok (w:=w) (es:=es.toList) hkt hd hkv (by simpa using h3) (fun j hj=>by rw [es_list];exact (h4 j hj).2.1) hf
   have hck:∀ e,(Instr.checkKey e 10000 kt (act.eval k)).run P w=.ok () w:=fun e=>key_check hd hkv
   cases r with
   | none=>
    simp only at hfn
    have hfr:=hfn
    refine ⟨if ok then .tuple #[z,.bool false] else z,?_,lookR_ok (zv_ok z)⟩
    simp [execOp,ho,Instr.lookup,run_und ht,hev,getMap_run hob,hck,hfr,hzr]
   | some j=>
    obtain ⟨k2,hfr,_⟩:=hfn
    have hj:j < l.length:=by
     have:es.toList.length=l.length:=by simpa using h3
     omega
    refine ⟨if ok then .tuple #[(es.getD j default).val,.bool true] else (es.getD j default).val,?_,lookR_ok (h4 j hj).2.2.up⟩
    rw [es_list] at hfr
    simp [execOp,ho,Instr.lookup,run_und ht,hev,getMap_run hob,hck,hfr]
theorem op_lookup {o:Oper} {s:SSt} {t kt et:TypeId} {x k:Operand} {ok:Bool} {id:Nat} {l:List (AV×AV)} {ka za:AV} {d:TypeDesc} {r:Option Nat} (ho:o.op=.lookup t x k ok) (hx:Opd s x (.mp id)) (hH:s.H id=some (.map l)) (hk:Opd s k ka)
  (ht:P.underlying t=some (.map kt et)) (hkt:P.underlying kt=some d) (hd:keyK P kt ka=true) (hf:findAV ka l 0=some r) (hz:zvA P et=some za):
  OpOk P o s ⟨lookV ok za l r,[],[]⟩:=opok_value fun hs=>ov_lookup ho hx hH hk ht hkt hd hf hz hs
def putA (l:List (AV×AV)) (ka va:AV):Option Nat→List (AV×AV)
 | none=>l++[(ka,va)]
 | some j=>l.set j (ka,va)
theorem op_mapUpdate {o:Oper} {s:SSt} {t kt et:TypeId} {m k x:Operand} {id:Nat} {l:List (AV×AV)} {ka va:AV} {d:TypeDesc} {r:Option Nat} (ho:o.op=.mapUpdate t m k x∨o.op=.insert t m k x) (hx:Opd s m (.mp id)) (hH:s.H id=some (.map l)) (hk:Opd s k ka)
  (hv:Opd s x va) (hcl:Clo va) (hck:Clo ka) (ht:P.underlying t=some (.map kt et)) (hkt:P.underlying kt=some d) (hd:keyK P kt ka=true) (hf:findAV ka l 0=some r):
  OpOk P o s ⟨.lit undef,[(id,some (.map (putA l ka va r)))],[]⟩:=by
 intro w F O μ K ft act hs _ Kn Q hkk
 obtain ⟨ob,hob,hB⟩:=hs.hr.blk id _ hH rfl
 obtain ⟨es,clock,rfl,h2,h3,h4,h5⟩:=map_inv hB
 have hm:=hx hs
 have hkv:=hk hs
 have hvv:=hv hs
 generalize hev:act.eval m=u at hm
 cases hm with
 | mp _ hid=>
  have hfn:=findKey_ok (w:=w) (es:=es.toList) hkt hd hkv (by simpa using h3) (fun j hj=>by rw [es_list];exact (h4 j hj).2.1) hf
  have hch:∀ e,(Instr.checkKey e 10000 kt (act.eval k)).run P w=.ok () w:=fun e=>key_check hd hkv
  have hlv:s.H.live id:=⟨_,hH,rfl⟩
  have fin:∀ (es':Array MapEntry) (c':Nat) (l':List (AV×AV)),(execOp act.eval o).run P w=.ok .skip (wput w (μ id) (.map es' c'))→BlkR w F μ K (fun x=>x=μ id) (μ id) (.map es' c') (.map l')→
    (∀ (w':World) F' O' μ' ft',VR w' F' μ' K (.lit undef) undef→HR w' F' O' μ' K (s.H.upd [(id,some (.map l'))]) ft'→Fr w F O μ K w' F' O' μ'→Kn (act.put o.dst undef) w')→o.wp P act w Kn Q:=by
   intro es' c' l' hrun hBlk hgo
   obtain ⟨O',ft',k1,k2⟩:=write_step (L:=[]) hs.hr hH rfl hob (o':=.map es' c') (by simp [sameShape]) (by simp) (fun y (hy:y=μ id)=>⟨id,.inl rfl,hlv,hy▸hs.hr.self id hlv⟩) rfl hBlk
   unfold Oper.wp
   rw [hrun,Oper.upon_skip]
   exact hgo _ F O' μ ft' (.lit _) k1 k2
  have out:∀ (w':World) F' O' μ' ft',VR w' F' μ' K (.lit undef) undef→HR w' F' O' μ' K (s.H.upd [(id,some (.map (putA l ka va r)))]) ft'→Fr w F O μ K w' F' O' μ'→Kn (act.put o.dst undef) w':=fun w' F' O' μ' ft' k1 k2 k3=>
   hkk undef w' F' O' μ' ft' (by simp only [plus_nil];exact k1) (by simp only [plus_nil];exact k2) k3
  cases r with
  | none=>
   simp only at hfn
   have hfr:=hfn
   refine fin (es.push { key:=act.eval k,val:=act.eval x,born:=clock }) (clock+1) _ ?_ ?_ out
   ·rcases ho with ho | ho<;>simp [execOp,ho,Instr.mapUpdate,run_und ht,hev,getMap_run hob,hch,hfr,setMap_run hob]
   ·refine ⟨_,_,rfl,fun _=>Iff.rfl,by simp [putA,h3],fun i hi=>?_,fun i j hij hj=>?_⟩
    ·simp only [putA,List.length_append,List.length_cons,List.length_nil] at hi
     by_cases e:i < l.length
     ·have e1:(es.push { key:=act.eval k,val:=act.eval x,born:=clock }).getD i default=es.getD i default:=by
       simp [Array.getD_eq_getD_getElem?,Array.getElem?_push,show i≠es.size by omega]
      have e2:(putA l ka va none).getD i (.top,.top)=l.getD i (.top,.top):=by simp [putA,List.getD,List.getElem?_append,e]
      obtain ⟨q1,q2,q3⟩:=h4 i e
      rw [e1,e2]
      exact ⟨by omega,q2,q3⟩
     ·have ei:i=es.size:=by omega
      have e1:(es.push { key:=act.eval k,val:=act.eval x,born:=clock }).getD i default={ key:=act.eval k,val:=act.eval x,born:=clock }:=by
       simp [Array.getD_eq_getD_getElem?,Array.getElem?_push,ei]
      have e2:(putA l ka va none).getD i (.top,.top)=(ka,va):=by simp [putA,List.getD,List.getElem?_append,show ¬ i < l.length from e,show i-l.length=0 by omega]
      rw [e1,e2]
      exact ⟨by simp,hck hkv,hcl hvv⟩
    ·have hj':j < es.size+1:=by simpa using hj
     have e1:(es.push { key:=act.eval k,val:=act.eval x,born:=clock }).getD i default=es.getD i default:=by
      simp [Array.getD_eq_getD_getElem?,Array.getElem?_push,show i≠es.size by omega]
     rw [e1]
     by_cases e:j < es.size
     ·have e2:(es.push { key:=act.eval k,val:=act.eval x,born:=clock }).getD j default=es.getD j default:=by
       simp [Array.getD_eq_getD_getElem?,Array.getElem?_push,show j≠es.size by omega]
      rw [e2];exact h5 i j hij e
     ·have e2:(es.push { key:=act.eval k,val:=act.eval x,born:=clock }).getD j default={ key:=act.eval k,val:=act.eval x,born:=clock }:=by
       simp [Array.getD_eq_getD_getElem?,Array.getElem?_push,show j=es.size by omega]
      rw [e2]
      exact (h4 i (by omega)).1
  | some j=>
   obtain ⟨k2,hfr,k4⟩:=hfn
   have hj:j < l.length:=by
    have:es.toList.length=l.length:=by simpa using h3
    omega
   have hje:j < es.size:=by omega
   have hkey:((es[j]?).map (·.key)).getD (act.eval k)=(es.getD j default).key:=by simp [hje]
   have hst:∀ v,(Instr.keyThatStays (((es[j]?).map (·.key)).getD v) (act.eval k)).run P w=.ok (act.eval k) w:=fun v=>by
    have hkey:((es[j]?).map (·.key)).getD v=(es.getD j default).key:=by simp [hje]
    have:=same_key k4 hkv (h4 j hj).2.1
    rw [hkey]
    unfold Instr.keyThatStays
    rw [if_pos this]
    exact Sem.run_pure _ _ _
   refine fin (es.modify j fun e=>{ e with key:=act.eval k,val:=act.eval x }) clock _ ?_ ?_ out
   ·rw [es_list] at hfr
    rcases ho with ho | ho<;>simp [execOp,ho,Instr.mapUpdate,run_und ht,hev,getMap_run hob,hch,hfr,hst,setMap_run hob]
   ·have gm:∀ i,i < es.size→(es.modify j fun e=>{ e with key:=act.eval k,val:=act.eval x }).getD i default=if i=j then { es.getD j default with key:=act.eval k,val:=act.eval x } else es.getD i default:=fun i hi=>by
     by_cases e:i=j
     ·subst e;simp [Array.getD_eq_getD_getElem?,hi,Array.getElem_modify]
     ·simp [Array.getD_eq_getD_getElem?,hi,Array.getElem_modify,e,Ne.symm e]
    refine ⟨_,_,rfl,fun _=>Iff.rfl,by simp [putA,h3],fun i hi=>?_,fun i i' hij hj'=>?_⟩
    ·have hi':i < l.length:=by simpa [putA] using hi
     rw [gm i (by omega)]
     by_cases e:i=j
     ·subst e
      rw [if_pos rfl]
      have e2:(putA l ka va (some i)).getD i (.top,.top)=(ka,va):=by simp [putA,List.getD,hi']
      rw [e2]
      exact ⟨(h4 i hi').1,hck hkv,hcl hvv⟩
     ·rw [if_neg e]
      have e2:(putA l ka va (some j)).getD i (.top,.top)=l.getD i (.top,.top):=by simp [putA,List.getD,List.getElem?_set_ne (Ne.symm e)]
      rw [e2];exact h4 i hi'
    ·have hj2:i' < es.size:=by simpa using hj'
     have born:∀ i,i < es.size→((es.modify j fun e=>{ e with key:=act.eval k,val:=act.eval x }).getD i default).born=(es.getD i default).born:=fun i hi=>by
      rw [gm i hi];split
      ·rename_i e;subst e;rfl
      ·rfl
     rw [born i (by omega),born i' hj2]
     exact h5 i i' hij hj2
end Go.Proofs.Ytljfmaaadnoggaa.Abs
