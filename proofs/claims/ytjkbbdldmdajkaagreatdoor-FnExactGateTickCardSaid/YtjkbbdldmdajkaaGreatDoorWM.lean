/- Maps of the call's own: made, looked up, written. No condition. -/
import Derived.Test.YtjkbbdldmdajkaaGreatDoorWK
set_option linter.unusedSimpArgs false
set_option linter.unusedVariables false
namespace Go.Proofs.YtjkbbdldmdajkaaGreatDoor.c_
open Go Go.RowKit
variable {w w' xk:World} {F F' Bs O O' v8:Nat→Prop} {μ bC lG:Nat→Nat} {K K' EF:Nat→Prop} {ft bZ:Nat→Nat→Prop} {P:Program} {R:Type}
theorem OO {o:Oper} {s:fT} {t:TypeId} {N:Nat} (ho:o.op=.makeMap t none):dr P o s ⟨.mp N,[(N,some (.map []))],[N]⟩:=
 rh fun {w F O μ K ft act} hs=>by
  refine ⟨.map (some w.heap.size),.map #[] 0,w.drawn,?_,⟨#[],0,rfl,fun x=>Iff.rfl,rfl,(fun i hi=>absurd hi (by simp)),fun i j _ hj=>absurd hj (by simp)⟩,fun w' bC _ _ hm=>?_⟩
  ·simp [execOp,ho,Instr.makeMap]
  ·rw [← hm];exact .mp N (.inr (by simp))
def zv:Value→AV
 | .agg ⟨cs⟩=>.agg (cs.map Wq)
 | v=>Wq v
theorem adr (v:Value):VR w F μ K (zv v) v:=by
 unfold zv;split
 ·rename_i cs;exact .rP ⟨by simp,fun i hi=>by
   have di:i < cs.length:=by simpa using hi
   have e:(cs.map Wq).getD i .top=Wq (cs.getD i undef):=by simp [List.getD,di]
   rw [e];exact Kx _⟩
 ·exact Kx _
def zvA (P:Program) (t:TypeId):Option AV:=match P.info? t with
 | some i=>match i.zero with
  | some z=>some (zv z)
  | none=>none
 | none=>none
theorem abg {t:TypeId} {a:AV} (h:zvA P t=some a):∃ z,(∀ w,(zeroValue t).run P w=.ok z w)∧a=zv z:=by
 unfold zvA at h;split at h
 ·rename_i i hi;split at h
  ·rename_i z hz;exact ⟨z,fun w=>Rs hi hz,by simpa using h.symm⟩
  ·cases h
 ·cases h
def OP (ok:Bool) (v:AV) (b:Bool):AV:=match ok with
 | true=>.nP [v,.bool b]
 | false=>v
theorem Uv {ok:Bool} {a:AV} {v:Value} {b:Bool} (h:VR w F μ K a v):VR w F μ K (OP ok a b) (if ok then .tuple #[v,.bool b] else v):=by
 cases ok with
 | false=>exact h
 | true=>exact .Ls (.cons h (.cons (.bool _) .nil))
theorem Mt {S:Nat→Prop} {b:Nat} {o:Obj} {l:List (AV×AV)} (h:ik w F μ K S b o (.map l)):∃ es clock,o=.map es clock∧(∀ x,S x↔x=b)∧es.size=l.length∧(∀ i,i < l.length→(es.getD i default).born < clock∧VR w F μ Dc (l.getD i (.top,.top)).1 (es.getD i default).key∧VR w F μ Dc (l.getD i (.top,.top)).2 (es.getD i default).val)∧
   ∀ i j,i < j→j < es.size→(es.getD i default).born < (es.getD j default).born:=h
theorem Ag (es:Array MapEntry) (i:Nat):es.toList.getD i default=es.getD i default:=by
 simp [List.getD,Array.getD_eq_getD_getElem?]
theorem iC {r:Nat} {es:Array MapEntry} {c:Nat} (h:w.heap[r]?=some (.map es c)):(getObj r).run P w=.ok (.map es c) w:=by
 simp [getObj,Sem.run,h]
theorem mr {r:Nat} {es:Array MapEntry} {c:Nat} {o:Obj} (h:w.heap[r]?=some (.map es c)):(setObj r o).run P w=.ok () (jQ w r o):=by
 have dQ:r < w.heap.size:=(Array.getElem?_eq_some_iff.1 h).1;have h':w.heap[r]=.map es c:=by simpa [dQ] using h
 simp [setObj,Sem.run,h',dQ,jQ]
def Af (ok:Bool) (za:AV) (l:List (AV×AV)):Option Nat→AV
 | none=>OP ok za false
 | some j=>OP ok (l.getD j (.top,.top)).2 true
theorem QB {o:Oper} {s:fT} {t kt et:TypeId} {x k:Operand} {ok:Bool} {id:Nat} {l:List (AV×AV)} {ka za:AV} {d:TypeDesc} {r:Option Nat} (ho:o.op=.lookup t x k ok) (hx:ee s x (.mp id)) (hH:s.H id=some (.map l)) (hk:ee s k ka)
  (ht:P.underlying t=some (.map kt et)) (DL:P.underlying kt=some d) (hd:BK P kt ka=true) (hf:lJ ka l 0=some r) (hz:zvA P et=some za):
  ∀ {w:World} {F O:Nat→Prop} {μ:Nat→Nat} {K:Nat→Prop} {ft:Nat→Nat→Prop} {act:Act},SR w F O μ K s ft act→∃ v,(execOp act.eval o).run P w=.ok (.value v) w∧VR w F μ K (Af ok za l r) v:=fun {w F O μ K ft act} hs=>by
  obtain ⟨z,X5,rfl⟩:=abg hz;obtain ⟨ob,p_,hB⟩:=hs.hr.dC id _ hH rfl;obtain ⟨es,clock,rfl,h2,h3,h4,h5⟩:=Mt hB;have hv:=hx hs;have Us:=hk hs;generalize EO:act.eval x=v at hv;cases hv with
  | mp _ bY=>
   have Pm:=CO (w:=w) (es:=es.toList) DL hd Us (by simpa using h3) (fun j hj=>by rw [Ag];exact (h4 j hj).2.1) hf;have Y9:∀ e,(Instr.checkKey e 10000 kt (act.eval k)).run P w=.ok () w:=fun e=>Fz hd Us;cases r with
   | none=>
    simp only at Pm;have ze:=Pm;refine ⟨if ok then .tuple #[z,.bool false] else z,?_,Uv (adr z)⟩;simp [execOp,ho,Instr.lookup,cb ht,EO,iC p_,Y9,ze,X5]
   | some j=>
    obtain ⟨k2,ze,_⟩:=Pm;have hj:j < l.length:=by
     have:es.toList.length=l.length:=by simpa using h3
     omega
    refine ⟨if ok then .tuple #[(es.getD j default).val,.bool true] else (es.getD j default).val,?_,Uv (h4 j hj).2.2.up⟩;rw [Ag] at ze;simp [execOp,ho,Instr.lookup,cb ht,EO,iC p_,Y9,ze]
theorem BL {o:Oper} {s:fT} {t kt et:TypeId} {x k:Operand} {ok:Bool} {id:Nat} {l:List (AV×AV)} {ka za:AV} {d:TypeDesc} {r:Option Nat} (ho:o.op=.lookup t x k ok) (hx:ee s x (.mp id)) (hH:s.H id=some (.map l)) (hk:ee s k ka)
  (ht:P.underlying t=some (.map kt et)) (DL:P.underlying kt=some d) (hd:BK P kt ka=true) (hf:lJ ka l 0=some r) (hz:zvA P et=some za):
  dr P o s ⟨Af ok za l r,[],[]⟩:=b6 fun hs=>QB ho hx hH hk ht DL hd hf hz hs
def p9 (l:List (AV×AV)) (ka va:AV):Option Nat→List (AV×AV)
 | none=>l++[(ka,va)]
 | some j=>l.set j (ka,va)
theorem tn {o:Oper} {s:fT} {t kt et:TypeId} {m k x:Operand} {id:Nat} {l:List (AV×AV)} {ka va:AV} {d:TypeDesc} {r:Option Nat} (ho:o.op=.mapUpdate t m k x∨o.op=.insert t m k x) (hx:ee s m (.mp id)) (hH:s.H id=some (.map l)) (hk:ee s k ka)
  (hv:ee s x va) (OU:Qb va) (Y9:Qb ka) (ht:P.underlying t=some (.map kt et)) (DL:P.underlying kt=some d) (hd:BK P kt ka=true) (hf:lJ ka l 0=some r):
  dr P o s ⟨.lit undef,[(id,some (.map (p9 l ka va r)))],[]⟩:=by
 intro w F O μ K ft act hs _ Kn Q xq;obtain ⟨ob,p_,hB⟩:=hs.hr.dC id _ hH rfl;obtain ⟨es,clock,rfl,h2,h3,h4,h5⟩:=Mt hB;have hm:=hx hs;have Us:=hk hs;have hvv:=hv hs;generalize EO:act.eval m=u at hm;cases hm with
 | mp _ bY=>
  have Pm:=CO (w:=w) (es:=es.toList) DL hd Us (by simpa using h3) (fun j hj=>by rw [Ag];exact (h4 j hj).2.1) hf;have hch:∀ e,(Instr.checkKey e 10000 kt (act.eval k)).run P w=.ok () w:=fun e=>Fz hd Us;have gQ:s.H.live id:=⟨_,hH,rfl⟩;have fin:∀ (Xf:Array MapEntry) (c':Nat) (l':List (AV×AV)),(execOp act.eval o).run P w=.ok .skip (jQ w (μ id) (.map Xf c'))→ik w F μ K (fun x=>x=μ id) (μ id) (.map Xf c') (.map l')→
    (∀ (w':World) F' O' bC bZ,VR w' F' bC K (.lit undef) undef→HR w' F' O' bC K (s.H.dh [(id,some (.map l'))]) bZ→Fr w F O μ K w' F' O' bC→Kn (act.put o.dst undef) w')→o.wp P act w Kn Q:=by
   intro Xf c' l' lH NC hgo;obtain ⟨O',bZ,k1,k2⟩:=mq (L:=[]) hs.hr hH rfl p_ (o':=.map Xf c') (by simp [sameShape]) (by simp) (fun y (hy:y=μ id)=>⟨id,.inl rfl,gQ,hy▸hs.hr.self id gQ⟩) rfl NC;unfold Oper.wp;rw [lH,Oper.upon_skip];exact hgo _ F O' μ bZ (.lit _) k1 k2
  have out:∀ (w':World) F' O' bC bZ,VR w' F' bC K (.lit undef) undef→HR w' F' O' bC K (s.H.dh [(id,some (.map (p9 l ka va r)))]) bZ→Fr w F O μ K w' F' O' bC→Kn (act.put o.dst undef) w':=fun w' F' O' bC bZ k1 k2 k3=>
   xq undef w' F' O' bC bZ (by simp only [jE];exact k1) (by simp only [jE];exact k2) k3
  cases r with
  | none=>
   simp only at Pm;have ze:=Pm;refine fin (es.push { key:=act.eval k,val:=act.eval x,born:=clock }) (clock+1) _ ?_ ?_ out
   ·rcases ho with ho | ho<;>simp [execOp,ho,Instr.mapUpdate,cb ht,EO,iC p_,hch,ze,mr p_]
   ·refine ⟨_,_,rfl,fun _=>Iff.rfl,by simp [p9,h3],fun i hi=>?_,fun i j JK hj=>?_⟩
    ·simp only [p9,List.length_append,List.length_cons,List.length_nil] at hi;by_cases e:i < l.length
     ·have e1:(es.push { key:=act.eval k,val:=act.eval x,born:=clock }).getD i default=es.getD i default:=by
       simp [Array.getD_eq_getD_getElem?,Array.getElem?_push,show i≠es.size by omega]
      have e2:(p9 l ka va none).getD i (.top,.top)=l.getD i (.top,.top):=by simp [p9,List.getD,List.getElem?_append,e]
      obtain ⟨q1,q2,q3⟩:=h4 i e;rw [e1,e2];exact ⟨by omega,q2,q3⟩
     ·have ei:i=es.size:=by omega
      have e1:(es.push { key:=act.eval k,val:=act.eval x,born:=clock }).getD i default={ key:=act.eval k,val:=act.eval x,born:=clock }:=by
       simp [Array.getD_eq_getD_getElem?,Array.getElem?_push,ei]
      have e2:(p9 l ka va none).getD i (.top,.top)=(ka,va):=by simp [p9,List.getD,List.getElem?_append,show ¬ i < l.length from e,show i-l.length=0 by omega]
      rw [e1,e2];exact ⟨by simp,Y9 Us,OU hvv⟩
    ·have mR:j < es.size+1:=by simpa using hj
     have e1:(es.push { key:=act.eval k,val:=act.eval x,born:=clock }).getD i default=es.getD i default:=by
      simp [Array.getD_eq_getD_getElem?,Array.getElem?_push,show i≠es.size by omega]
     rw [e1];by_cases e:j < es.size
     ·have e2:(es.push { key:=act.eval k,val:=act.eval x,born:=clock }).getD j default=es.getD j default:=by
       simp [Array.getD_eq_getD_getElem?,Array.getElem?_push,show j≠es.size by omega]
      rw [e2];exact h5 i j JK e
     ·have e2:(es.push { key:=act.eval k,val:=act.eval x,born:=clock }).getD j default={ key:=act.eval k,val:=act.eval x,born:=clock }:=by
       simp [Array.getD_eq_getD_getElem?,Array.getElem?_push,show j=es.size by omega]
      rw [e2];exact (h4 i (by omega)).1
  | some j=>
   obtain ⟨k2,ze,k4⟩:=Pm;have hj:j < l.length:=by
    have:es.toList.length=l.length:=by simpa using h3
    omega
   have Tu:j < es.size:=by omega
   have acX:((es[j]?).map (·.key)).getD (act.eval k)=(es.getD j default).key:=by simp [Tu]
   have xm:∀ v,(Instr.keyThatStays (((es[j]?).map (·.key)).getD v) (act.eval k)).run P w=.ok (act.eval k) w:=fun v=>by
    have acX:((es[j]?).map (·.key)).getD v=(es.getD j default).key:=by simp [Tu]
    have:=Ut k4 Us (h4 j hj).2.1;rw [acX];unfold Instr.keyThatStays;rw [if_pos this];exact Sem.run_pure _ _ _
   refine fin (es.modify j fun e=>{ e with key:=act.eval k,val:=act.eval x }) clock _ ?_ ?_ out
   ·rw [Ag] at ze;rcases ho with ho | ho<;>simp [execOp,ho,Instr.mapUpdate,cb ht,EO,iC p_,hch,ze,xm,mr p_]
   ·have gm:∀ i,i < es.size→(es.modify j fun e=>{ e with key:=act.eval k,val:=act.eval x }).getD i default=if i=j then { es.getD j default with key:=act.eval k,val:=act.eval x } else es.getD i default:=fun i hi=>by
     by_cases e:i=j
     ·subst e;simp [Array.getD_eq_getD_getElem?,hi,Array.getElem_modify]
     ·simp [Array.getD_eq_getD_getElem?,hi,Array.getElem_modify,e,Ne.symm e]
    refine ⟨_,_,rfl,fun _=>Iff.rfl,by simp [p9,h3],fun i hi=>?_,fun i i' JK mR=>?_⟩
    ·have di:i < l.length:=by simpa [p9] using hi
     rw [gm i (by omega)];by_cases e:i=j
     ·subst e;rw [if_pos rfl];have e2:(p9 l ka va (some i)).getD i (.top,.top)=(ka,va):=by simp [p9,List.getD,di]
      rw [e2];exact ⟨(h4 i di).1,Y9 Us,OU hvv⟩
     ·rw [if_neg e];have e2:(p9 l ka va (some j)).getD i (.top,.top)=l.getD i (.top,.top):=by simp [p9,List.getD,List.getElem?_set_ne (Ne.symm e)]
      rw [e2];exact h4 i di
    ·have TI:i' < es.size:=by simpa using mR
     have born:∀ i,i < es.size→((es.modify j fun e=>{ e with key:=act.eval k,val:=act.eval x }).getD i default).born=(es.getD i default).born:=fun i hi=>by
      rw [gm i hi];split
      ·rename_i e;subst e;rfl
      ·rfl
     rw [born i (by omega),born i' TI];exact h5 i i' JK TI
def abl (l:List (AV×AV)):Option Nat→List (AV×AV)
 | none=>l
 | some j=>l.eraseIdx j
theorem YR {o:Oper} {s:fT} {t u kt et:TypeId} {m k:Operand} {id:Nat} {l:List (AV×AV)} {ka:AV} {d:TypeDesc} {r:Option Nat} (ho:o.op=.call ⟨.builtin .delete,#[m,k],#[t,u]⟩) (hx:ee s m (.mp id)) (hH:s.H id=some (.map l)) (hk:ee s k ka)
  (ht:P.underlying t=some (.map kt et)) (DL:P.underlying kt=some d) (hd:BK P kt ka=true) (hf:lJ ka l 0=some r):
  dr P o s ⟨.top,[(id,some (.map (abl l r)))],[]⟩:=by
 intro w F O μ K ft act hs _ Kn Q xq;obtain ⟨ob,p_,hB⟩:=hs.hr.dC id _ hH rfl;obtain ⟨es,clock,rfl,h2,h3,h4,h5⟩:=Mt hB;have hm:=hx hs;have Us:=hk hs;generalize EO:act.eval m=x at hm;cases hm with
 | mp _ bY=>
  have Pm:=CO (w:=w) (es:=es.toList) DL hd Us (by simpa using h3) (fun j hj=>by rw [Ag];exact (h4 j hj).2.1) hf;have hch:∀ e,(Instr.checkKey e 10000 kt (act.eval k)).run P w=.ok () w:=fun e=>Fz hd Us;have gQ:s.H.live id:=⟨_,hH,rfl⟩;have fin:∀ (Xf:Array MapEntry) (l':List (AV×AV)),(execOp act.eval o).run P w=.ok (.value (.tuple #[])) (jQ w (μ id) (.map Xf clock))→ik w F μ K (fun x=>x=μ id) (μ id) (.map Xf clock) (.map l')→
    (∀ (w':World) F' O' bC bZ,VR w' F' bC K .top (.tuple #[])→HR w' F' O' bC K (s.H.dh [(id,some (.map l'))]) bZ→Fr w F O μ K w' F' O' bC→Kn (act.put o.dst (.tuple #[])) w')→o.wp P act w Kn Q:=by
   intro Xf l' lH NC hgo;obtain ⟨O',bZ,k1,k2⟩:=mq (L:=[]) hs.hr hH rfl p_ (o':=.map Xf clock) (by simp [sameShape]) (by simp) (fun y (hy:y=μ id)=>⟨id,.inl rfl,gQ,hy▸hs.hr.self id gQ⟩) rfl NC;unfold Oper.wp;rw [lH,Oper.upon_value];exact hgo _ F O' μ bZ (.top _) k1 k2
  have out:∀ (w':World) F' O' bC bZ,VR w' F' bC K .top (.tuple #[])→HR w' F' O' bC K (s.H.dh [(id,some (.map (abl l r)))]) bZ→Fr w F O μ K w' F' O' bC→Kn (act.put o.dst (.tuple #[])) w':=fun w' F' O' bC bZ k1 k2 k3=>
   xq (.tuple #[]) w' F' O' bC bZ (by simp only [jE];exact k1) (by simp only [jE];exact k2) k3
  cases r with
  | none=>
   simp only at Pm;have ze:=Pm;refine fin es _ ?_ ⟨_,_,rfl,fun _=>Iff.rfl,h3,h4,h5⟩ out;simp [execOp,ho,resolve,invoke,builtin,Builtin.delete_,cb ht,EO,iC p_,hch,ze,mr p_]
  | some j=>
   obtain ⟨k2,ze,k4⟩:=Pm;have hj:j < l.length:=by
    have:es.toList.length=l.length:=by simpa using h3
    omega
   have Tu:j < es.size:=by omega
   refine fin (es.eraseIdxIfInBounds j) _ ?_ ?_ out
   ·rw [Ag] at ze;simp [execOp,ho,resolve,invoke,builtin,Builtin.delete_,cb ht,EO,iC p_,hch,ze,mr p_]
   ·have e0:es.eraseIdxIfInBounds j=es.eraseIdx j Tu:=by simp [Array.eraseIdxIfInBounds,Tu]
    have fV:(es.eraseIdx j Tu).size=es.size-1:=Array.size_eraseIdx ..;have gm:∀ i,(es.eraseIdx j Tu).getD i default=if i < j then es.getD i default else es.getD (i+1) default:=fun i=>by
     simp only [Array.getD_eq_getD_getElem?,Array.getElem?_eraseIdx];split<;>rfl
    have gl:∀ i,(l.eraseIdx j).getD i (.top,.top)=if i < j then l.getD i (.top,.top) else l.getD (i+1) (.top,.top):=fun i=>by
     simp only [List.getD,List.getElem?_eraseIdx];split<;>rfl
    have hln:(l.eraseIdx j).length=l.length-1:=List.length_eraseIdx_of_lt hj;rw [e0];refine ⟨_,_,rfl,fun _=>Iff.rfl,by simp only [abl];omega,fun i hi=>?_,fun i i' JK mR=>?_⟩
    ·simp only [abl] at hi ⊢;rw [gm,gl];split
     ·exact h4 i (by omega)
     ·exact h4 (i+1) (by omega)
    ·rw [gm,gm];split<;>split
     ·exact h5 i i' JK (by omega)
     ·exact h5 i (i'+1) (by omega) (by omega)
     ·omega
     ·exact h5 (i+1) (i'+1) (by omega) (by omega)
end Go.Proofs.YtjkbbdldmdajkaaGreatDoor.c_
