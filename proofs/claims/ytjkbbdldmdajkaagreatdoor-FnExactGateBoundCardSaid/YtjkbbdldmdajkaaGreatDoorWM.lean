/- Maps of the call's own: made, looked up, written. No condition. -/
import Derived.Test.YtjkbbdldmdajkaaGreatDoorWK
set_option linter.unusedSimpArgs false
set_option linter.unusedVariables false
namespace Go.Proofs.YtjkbbdldmdajkaaGreatDoor.c_
open Go Go.RowKit
variable {w w' xh:World} {F F' Bn O O' vW:Nat→Prop} {μ bD lF:Nat→Nat} {K K' EB:Nat→Prop} {ft bY:Nat→Nat→Prop} {P:Program} {R:Type}
theorem OM {o:Oper} {s:fU} {t:TypeId} {N:Nat} (ho:o.op=.makeMap t none):dr P o s ⟨.mp N,[(N,some (.map []))],[N]⟩:=
 rf fun {w F O μ K ft act} hs=>by
  refine ⟨.map (some w.heap.size),.map #[] 0,w.drawn,?_,⟨#[],0,rfl,fun x=>Iff.rfl,rfl,(fun i hi=>absurd hi (by simp)),fun i j _ hj=>absurd hj (by simp)⟩,fun w' bD _ _ hm=>?_⟩
  ·simp [execOp,ho,Instr.makeMap]
  ·rw [← hm];exact .mp N (.inr (by simp))
def zv:Value→AV
 | .agg ⟨cs⟩=>.agg (cs.map Wn)
 | v=>Wn v
theorem ado (v:Value):VR w F μ K (zv v) v:=by
 unfold zv;split
 ·rename_i cs;exact .rO ⟨by simp,fun i hi=>by
   have di:i < cs.length:=by simpa using hi
   have e:(cs.map Wn).getD i .top=Wn (cs.getD i undef):=by simp [List.getD,di]
   rw [e];exact Kw _⟩
 ·exact Kw _
def zvA (P:Program) (t:TypeId):Option AV:=match P.info? t with
 | some i=>match i.zero with
  | some z=>some (zv z)
  | none=>none
 | none=>none
theorem abd {t:TypeId} {a:AV} (h:zvA P t=some a):∃ z,(∀ w,(zeroValue t).run P w=.ok z w)∧a=zv z:=by
 unfold zvA at h;split at h
 ·rename_i i hi;split at h
  ·rename_i z hz;exact ⟨z,fun w=>Rp hi hz,by simpa using h.symm⟩
  ·cases h
 ·cases h
def ON (ok:Bool) (v:AV) (b:Bool):AV:=match ok with
 | true=>.nO [v,.bool b]
 | false=>v
theorem Us {ok:Bool} {a:AV} {v:Value} {b:Bool} (h:VR w F μ K a v):VR w F μ K (ON ok a b) (if ok then .tuple #[v,.bool b] else v):=by
 cases ok with
 | false=>exact h
 | true=>exact .Lr (.cons h (.cons (.bool _) .nil))
theorem Ms {S:Nat→Prop} {b:Nat} {o:Obj} {l:List (AV×AV)} (h:ij w F μ K S b o (.map l)):∃ es clock,o=.map es clock∧(∀ x,S x↔x=b)∧es.size=l.length∧(∀ i,i < l.length→(es.getD i default).born < clock∧VR w F μ C8 (l.getD i (.top,.top)).1 (es.getD i default).key∧VR w F μ C8 (l.getD i (.top,.top)).2 (es.getD i default).val)∧
   ∀ i j,i < j→j < es.size→(es.getD i default).born < (es.getD j default).born:=h
theorem Ac (es:Array MapEntry) (i:Nat):es.toList.getD i default=es.getD i default:=by
 simp [List.getD,Array.getD_eq_getD_getElem?]
theorem iB {r:Nat} {es:Array MapEntry} {c:Nat} (h:w.heap[r]?=some (.map es c)):(getObj r).run P w=.ok (.map es c) w:=by
 simp [getObj,Sem.run,h]
theorem mq {r:Nat} {es:Array MapEntry} {c:Nat} {o:Obj} (h:w.heap[r]?=some (.map es c)):(setObj r o).run P w=.ok () (jQ w r o):=by
 have dT:r < w.heap.size:=(Array.getElem?_eq_some_iff.1 h).1;have h':w.heap[r]=.map es c:=by simpa [dT] using h
 simp [setObj,Sem.run,h',dT,jQ]
def Ab (ok:Bool) (za:AV) (l:List (AV×AV)):Option Nat→AV
 | none=>ON ok za false
 | some j=>ON ok (l.getD j (.top,.top)).2 true
theorem Qx {o:Oper} {s:fU} {t kt et:TypeId} {x k:Operand} {ok:Bool} {id:Nat} {l:List (AV×AV)} {ka za:AV} {d:TypeDesc} {r:Option Nat} (ho:o.op=.lookup t x k ok) (hx:ee s x (.mp id)) (hH:s.H id=some (.map l)) (hk:ee s k ka)
  (ht:P.underlying t=some (.map kt et)) (DH:P.underlying kt=some d) (hd:BH P kt ka=true) (hf:lI ka l 0=some r) (hz:zvA P et=some za):
  ∀ {w:World} {F O:Nat→Prop} {μ:Nat→Nat} {K:Nat→Prop} {ft:Nat→Nat→Prop} {act:Act},SR w F O μ K s ft act→∃ v,(execOp act.eval o).run P w=.ok (.value v) w∧VR w F μ K (Ab ok za l r) v:=fun {w F O μ K ft act} hs=>by
  obtain ⟨z,X2,rfl⟩:=abd hz;obtain ⟨ob,p9,hB⟩:=hs.hr.dC id _ hH rfl;obtain ⟨es,clock,rfl,h2,h3,h4,h5⟩:=Ms hB;have hv:=hx hs;have Up:=hk hs;generalize EK:act.eval x=v at hv;cases hv with
  | mp _ bZ=>
   have Pk:=CJ (w:=w) (es:=es.toList) DH hd Up (by simpa using h3) (fun j hj=>by rw [Ac];exact (h4 j hj).2.1) hf;have Y5:∀ e,(Instr.checkKey e 10000 kt (act.eval k)).run P w=.ok () w:=fun e=>Fu hd Up;cases r with
   | none=>
    simp only at Pk;have y_:=Pk;refine ⟨if ok then .tuple #[z,.bool false] else z,?_,Us (ado z)⟩;simp [execOp,ho,Instr.lookup,cb ht,EK,iB p9,Y5,y_,X2]
   | some j=>
    obtain ⟨k2,y_,_⟩:=Pk;have hj:j < l.length:=by
     have:es.toList.length=l.length:=by simpa using h3
     omega
    refine ⟨if ok then .tuple #[(es.getD j default).val,.bool true] else (es.getD j default).val,?_,Us (h4 j hj).2.2.up⟩;rw [Ac] at y_;simp [execOp,ho,Instr.lookup,cb ht,EK,iB p9,Y5,y_]
theorem BJ {o:Oper} {s:fU} {t kt et:TypeId} {x k:Operand} {ok:Bool} {id:Nat} {l:List (AV×AV)} {ka za:AV} {d:TypeDesc} {r:Option Nat} (ho:o.op=.lookup t x k ok) (hx:ee s x (.mp id)) (hH:s.H id=some (.map l)) (hk:ee s k ka)
  (ht:P.underlying t=some (.map kt et)) (DH:P.underlying kt=some d) (hd:BH P kt ka=true) (hf:lI ka l 0=some r) (hz:zvA P et=some za):
  dr P o s ⟨Ab ok za l r,[],[]⟩:=b6 fun hs=>Qx ho hx hH hk ht DH hd hf hz hs
def p8 (l:List (AV×AV)) (ka va:AV):Option Nat→List (AV×AV)
 | none=>l++[(ka,va)]
 | some j=>l.set j (ka,va)
theorem tj {o:Oper} {s:fU} {t kt et:TypeId} {m k x:Operand} {id:Nat} {l:List (AV×AV)} {ka va:AV} {d:TypeDesc} {r:Option Nat} (ho:o.op=.mapUpdate t m k x∨o.op=.insert t m k x) (hx:ee s m (.mp id)) (hH:s.H id=some (.map l)) (hk:ee s k ka)
  (hv:ee s x va) (OS:P8 va) (Y5:P8 ka) (ht:P.underlying t=some (.map kt et)) (DH:P.underlying kt=some d) (hd:BH P kt ka=true) (hf:lI ka l 0=some r):
  dr P o s ⟨.lit undef,[(id,some (.map (p8 l ka va r)))],[]⟩:=by
 intro w F O μ K ft act hs _ Kn Q xo;obtain ⟨ob,p9,hB⟩:=hs.hr.dC id _ hH rfl;obtain ⟨es,clock,rfl,h2,h3,h4,h5⟩:=Ms hB;have hm:=hx hs;have Up:=hk hs;have hvv:=hv hs;generalize EK:act.eval m=u at hm;cases hm with
 | mp _ bZ=>
  have Pk:=CJ (w:=w) (es:=es.toList) DH hd Up (by simpa using h3) (fun j hj=>by rw [Ac];exact (h4 j hj).2.1) hf;have hch:∀ e,(Instr.checkKey e 10000 kt (act.eval k)).run P w=.ok () w:=fun e=>Fu hd Up;have hU:s.H.live id:=⟨_,hH,rfl⟩;have fin:∀ (Xc:Array MapEntry) (c':Nat) (l':List (AV×AV)),(execOp act.eval o).run P w=.ok .skip (jQ w (μ id) (.map Xc c'))→ij w F μ K (fun x=>x=μ id) (μ id) (.map Xc c') (.map l')→
    (∀ (w':World) F' O' bD bY,VR w' F' bD K (.lit undef) undef→HR w' F' O' bD K (s.H.dh [(id,some (.map l'))]) bY→Fr w F O μ K w' F' O' bD→Kn (act.put o.dst undef) w')→o.wp P act w Kn Q:=by
   intro Xc c' l' lG NB hgo;obtain ⟨O',bY,k1,k2⟩:=mo (L:=[]) hs.hr hH rfl p9 (o':=.map Xc c') (by simp [sameShape]) (by simp) (fun y (hy:y=μ id)=>⟨id,.inl rfl,hU,hy▸hs.hr.self id hU⟩) rfl NB;unfold Oper.wp;rw [lG,Oper.upon_skip];exact hgo _ F O' μ bY (.lit _) k1 k2
  have out:∀ (w':World) F' O' bD bY,VR w' F' bD K (.lit undef) undef→HR w' F' O' bD K (s.H.dh [(id,some (.map (p8 l ka va r)))]) bY→Fr w F O μ K w' F' O' bD→Kn (act.put o.dst undef) w':=fun w' F' O' bD bY k1 k2 k3=>
   xo undef w' F' O' bD bY (by simp only [jE];exact k1) (by simp only [jE];exact k2) k3
  cases r with
  | none=>
   simp only at Pk;have y_:=Pk;refine fin (es.push { key:=act.eval k,val:=act.eval x,born:=clock }) (clock+1) _ ?_ ?_ out
   ·rcases ho with ho | ho<;>simp [execOp,ho,Instr.mapUpdate,cb ht,EK,iB p9,hch,y_,mq p9]
   ·refine ⟨_,_,rfl,fun _=>Iff.rfl,by simp [p8,h3],fun i hi=>?_,fun i j JJ hj=>?_⟩
    ·simp only [p8,List.length_append,List.length_cons,List.length_nil] at hi;by_cases e:i < l.length
     ·have e1:(es.push { key:=act.eval k,val:=act.eval x,born:=clock }).getD i default=es.getD i default:=by
       simp [Array.getD_eq_getD_getElem?,Array.getElem?_push,show i≠es.size by omega]
      have e2:(p8 l ka va none).getD i (.top,.top)=l.getD i (.top,.top):=by simp [p8,List.getD,List.getElem?_append,e]
      obtain ⟨q1,q2,q3⟩:=h4 i e;rw [e1,e2];exact ⟨by omega,q2,q3⟩
     ·have ei:i=es.size:=by omega
      have e1:(es.push { key:=act.eval k,val:=act.eval x,born:=clock }).getD i default={ key:=act.eval k,val:=act.eval x,born:=clock }:=by
       simp [Array.getD_eq_getD_getElem?,Array.getElem?_push,ei]
      have e2:(p8 l ka va none).getD i (.top,.top)=(ka,va):=by simp [p8,List.getD,List.getElem?_append,show ¬ i < l.length from e,show i-l.length=0 by omega]
      rw [e1,e2];exact ⟨by simp,Y5 Up,OS hvv⟩
    ·have mQ:j < es.size+1:=by simpa using hj
     have e1:(es.push { key:=act.eval k,val:=act.eval x,born:=clock }).getD i default=es.getD i default:=by
      simp [Array.getD_eq_getD_getElem?,Array.getElem?_push,show i≠es.size by omega]
     rw [e1];by_cases e:j < es.size
     ·have e2:(es.push { key:=act.eval k,val:=act.eval x,born:=clock }).getD j default=es.getD j default:=by
       simp [Array.getD_eq_getD_getElem?,Array.getElem?_push,show j≠es.size by omega]
      rw [e2];exact h5 i j JJ e
     ·have e2:(es.push { key:=act.eval k,val:=act.eval x,born:=clock }).getD j default={ key:=act.eval k,val:=act.eval x,born:=clock }:=by
       simp [Array.getD_eq_getD_getElem?,Array.getElem?_push,show j=es.size by omega]
      rw [e2];exact (h4 i (by omega)).1
  | some j=>
   obtain ⟨k2,y_,k4⟩:=Pk;have hj:j < l.length:=by
    have:es.toList.length=l.length:=by simpa using h3
    omega
   have Tr:j < es.size:=by omega
   have acU:((es[j]?).map (·.key)).getD (act.eval k)=(es.getD j default).key:=by simp [Tr]
   have xj:∀ v,(Instr.keyThatStays (((es[j]?).map (·.key)).getD v) (act.eval k)).run P w=.ok (act.eval k) w:=fun v=>by
    have acU:((es[j]?).map (·.key)).getD v=(es.getD j default).key:=by simp [Tr]
    have:=Uq k4 Up (h4 j hj).2.1;rw [acU];unfold Instr.keyThatStays;rw [if_pos this];exact Sem.run_pure _ _ _
   refine fin (es.modify j fun e=>{ e with key:=act.eval k,val:=act.eval x }) clock _ ?_ ?_ out
   ·rw [Ac] at y_;rcases ho with ho | ho<;>simp [execOp,ho,Instr.mapUpdate,cb ht,EK,iB p9,hch,y_,xj,mq p9]
   ·have gm:∀ i,i < es.size→(es.modify j fun e=>{ e with key:=act.eval k,val:=act.eval x }).getD i default=if i=j then { es.getD j default with key:=act.eval k,val:=act.eval x } else es.getD i default:=fun i hi=>by
     by_cases e:i=j
     ·subst e;simp [Array.getD_eq_getD_getElem?,hi,Array.getElem_modify]
     ·simp [Array.getD_eq_getD_getElem?,hi,Array.getElem_modify,e,Ne.symm e]
    refine ⟨_,_,rfl,fun _=>Iff.rfl,by simp [p8,h3],fun i hi=>?_,fun i i' JJ mQ=>?_⟩
    ·have di:i < l.length:=by simpa [p8] using hi
     rw [gm i (by omega)];by_cases e:i=j
     ·subst e;rw [if_pos rfl];have e2:(p8 l ka va (some i)).getD i (.top,.top)=(ka,va):=by simp [p8,List.getD,di]
      rw [e2];exact ⟨(h4 i di).1,Y5 Up,OS hvv⟩
     ·rw [if_neg e];have e2:(p8 l ka va (some j)).getD i (.top,.top)=l.getD i (.top,.top):=by simp [p8,List.getD,List.getElem?_set_ne (Ne.symm e)]
      rw [e2];exact h4 i di
    ·have TF:i' < es.size:=by simpa using mQ
     have born:∀ i,i < es.size→((es.modify j fun e=>{ e with key:=act.eval k,val:=act.eval x }).getD i default).born=(es.getD i default).born:=fun i hi=>by
      rw [gm i hi];split
      ·rename_i e;subst e;rfl
      ·rfl
     rw [born i (by omega),born i' TF];exact h5 i i' JJ TF
def abi (l:List (AV×AV)):Option Nat→List (AV×AV)
 | none=>l
 | some j=>l.eraseIdx j
theorem YO {o:Oper} {s:fU} {t u kt et:TypeId} {m k:Operand} {id:Nat} {l:List (AV×AV)} {ka:AV} {d:TypeDesc} {r:Option Nat} (ho:o.op=.call ⟨.builtin .delete,#[m,k],#[t,u]⟩) (hx:ee s m (.mp id)) (hH:s.H id=some (.map l)) (hk:ee s k ka)
  (ht:P.underlying t=some (.map kt et)) (DH:P.underlying kt=some d) (hd:BH P kt ka=true) (hf:lI ka l 0=some r):
  dr P o s ⟨.top,[(id,some (.map (abi l r)))],[]⟩:=by
 intro w F O μ K ft act hs _ Kn Q xo;obtain ⟨ob,p9,hB⟩:=hs.hr.dC id _ hH rfl;obtain ⟨es,clock,rfl,h2,h3,h4,h5⟩:=Ms hB;have hm:=hx hs;have Up:=hk hs;generalize EK:act.eval m=x at hm;cases hm with
 | mp _ bZ=>
  have Pk:=CJ (w:=w) (es:=es.toList) DH hd Up (by simpa using h3) (fun j hj=>by rw [Ac];exact (h4 j hj).2.1) hf;have hch:∀ e,(Instr.checkKey e 10000 kt (act.eval k)).run P w=.ok () w:=fun e=>Fu hd Up;have hU:s.H.live id:=⟨_,hH,rfl⟩;have fin:∀ (Xc:Array MapEntry) (l':List (AV×AV)),(execOp act.eval o).run P w=.ok (.value (.tuple #[])) (jQ w (μ id) (.map Xc clock))→ij w F μ K (fun x=>x=μ id) (μ id) (.map Xc clock) (.map l')→
    (∀ (w':World) F' O' bD bY,VR w' F' bD K .top (.tuple #[])→HR w' F' O' bD K (s.H.dh [(id,some (.map l'))]) bY→Fr w F O μ K w' F' O' bD→Kn (act.put o.dst (.tuple #[])) w')→o.wp P act w Kn Q:=by
   intro Xc l' lG NB hgo;obtain ⟨O',bY,k1,k2⟩:=mo (L:=[]) hs.hr hH rfl p9 (o':=.map Xc clock) (by simp [sameShape]) (by simp) (fun y (hy:y=μ id)=>⟨id,.inl rfl,hU,hy▸hs.hr.self id hU⟩) rfl NB;unfold Oper.wp;rw [lG,Oper.upon_value];exact hgo _ F O' μ bY (.top _) k1 k2
  have out:∀ (w':World) F' O' bD bY,VR w' F' bD K .top (.tuple #[])→HR w' F' O' bD K (s.H.dh [(id,some (.map (abi l r)))]) bY→Fr w F O μ K w' F' O' bD→Kn (act.put o.dst (.tuple #[])) w':=fun w' F' O' bD bY k1 k2 k3=>
   xo (.tuple #[]) w' F' O' bD bY (by simp only [jE];exact k1) (by simp only [jE];exact k2) k3
  cases r with
  | none=>
   simp only at Pk;have y_:=Pk;refine fin es _ ?_ ⟨_,_,rfl,fun _=>Iff.rfl,h3,h4,h5⟩ out;simp [execOp,ho,resolve,invoke,builtin,Builtin.delete_,cb ht,EK,iB p9,hch,y_,mq p9]
  | some j=>
   obtain ⟨k2,y_,k4⟩:=Pk;have hj:j < l.length:=by
    have:es.toList.length=l.length:=by simpa using h3
    omega
   have Tr:j < es.size:=by omega
   refine fin (es.eraseIdxIfInBounds j) _ ?_ ?_ out
   ·rw [Ac] at y_;simp [execOp,ho,resolve,invoke,builtin,Builtin.delete_,cb ht,EK,iB p9,hch,y_,mq p9]
   ·have e0:es.eraseIdxIfInBounds j=es.eraseIdx j Tr:=by simp [Array.eraseIdxIfInBounds,Tr]
    have fT:(es.eraseIdx j Tr).size=es.size-1:=Array.size_eraseIdx ..;have gm:∀ i,(es.eraseIdx j Tr).getD i default=if i < j then es.getD i default else es.getD (i+1) default:=fun i=>by
     simp only [Array.getD_eq_getD_getElem?,Array.getElem?_eraseIdx];split<;>rfl
    have gl:∀ i,(l.eraseIdx j).getD i (.top,.top)=if i < j then l.getD i (.top,.top) else l.getD (i+1) (.top,.top):=fun i=>by
     simp only [List.getD,List.getElem?_eraseIdx];split<;>rfl
    have hln:(l.eraseIdx j).length=l.length-1:=List.length_eraseIdx_of_lt hj;rw [e0];refine ⟨_,_,rfl,fun _=>Iff.rfl,by simp only [abi];omega,fun i hi=>?_,fun i i' JJ mQ=>?_⟩
    ·simp only [abi] at hi ⊢;rw [gm,gl];split
     ·exact h4 i (by omega)
     ·exact h4 (i+1) (by omega)
    ·rw [gm,gm];split<;>split
     ·exact h5 i i' JJ (by omega)
     ·exact h5 i (i'+1) (by omega) (by omega)
     ·omega
     ·exact h5 (i+1) (i'+1) (by omega) (by omega)
end Go.Proofs.YtjkbbdldmdajkaaGreatDoor.c_
