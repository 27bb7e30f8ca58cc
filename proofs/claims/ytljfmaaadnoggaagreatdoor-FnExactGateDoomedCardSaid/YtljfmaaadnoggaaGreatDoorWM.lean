/- Maps of the call's own: made, looked up, written. No condition. -/
import Derived.Test.YtljfmaaadnoggaaGreatDoorWK
set_option linter.unusedSimpArgs false
set_option linter.unusedVariables false
namespace Go.Proofs.YtljfmaaadnoggaaGreatDoor.cX
open Go Go.RowKit
variable {w w' xW:World} {F F' Cq O O' wx:Nat→Prop} {μ bC kZ:Nat→Nat} {K K' Gg:Nat→Prop} {ft b8:Nat→Nat→Prop} {P:Program} {R:Type}
theorem QL {o:Oper} {s:fU} {t:TypeId} {N:Nat} (ho:o.op=.makeMap t none):de P o s ⟨.mp N,[(N,some (.map []))],[N]⟩:=
 uO fun {w F O μ K ft act} hs=>by
  refine ⟨.map (some w.heap.size),.map #[] 0,w.drawn,?_,⟨#[],0,rfl,fun x=>Iff.rfl,rfl,(fun i hi=>absurd hi (by simp)),fun i j _ hj=>absurd hj (by simp)⟩,fun w' bC _ _ hm=>?_⟩
  ·simp [execOp,ho,Instr.makeMap]
  ·rw [← hm];exact .mp N (.inr (by simp))
def zv:Value→AV
 | .agg ⟨cs⟩=>.agg (cs.map Y5)
 | v=>Y5 v
theorem afj (v:Value):VR w F μ K (zv v) v:=by
 unfold zv
 split
 ·rename_i cs
  exact .rE ⟨by simp,fun i hi=>by
   have c9:i < cs.length:=by simpa using hi
   have e:(cs.map Y5).getD i .top=Y5 (cs.getD i undef):=by simp [List.getD,c9]
   rw [e];exact Mz _⟩
 ·exact Mz _
def zvA (P:Program) (t:TypeId):Option AV:=match P.info? t with
 | some i=>match i.zero with
  | some z=>some (zv z)
  | none=>none
 | none=>none
theorem adg {t:TypeId} {a:AV} (h:zvA P t=some a):∃ z,(∀ w,(zeroValue t).run P w=.ok z w)∧a=zv z:=by
 unfold zvA at h
 split at h
 ·rename_i i hi
  split at h
  ·rename_i z hz
   exact ⟨z,fun w=>TN hi hz,by simpa using h.symm⟩
  ·cases h
 ·cases h
def QM (ok:Bool) (v:AV) (b:Bool):AV:=match ok with
 | true=>.ph [v,.bool b]
 | false=>v
theorem WQ {ok:Bool} {a:AV} {v:Value} {b:Bool} (h:VR w F μ K a v):VR w F μ K (QM ok a b) (if ok then .tuple #[v,.bool b] else v):=by
 cases ok with
 | false=>exact h
 | true=>exact .Nx (.cons h (.cons (.bool _) .nil))
theorem OB {S:Nat→Prop} {b:Nat} {o:Obj} {l:List (AV×AV)} (h:h_ w F μ K S b o (.map l)):∃ es clock,o=.map es clock∧(∀ x,S x↔x=b)∧es.size=l.length∧(∀ i,i < l.length→(es.getD i default).born < clock∧VR w F μ Ei (l.getD i (.top,.top)).1 (es.getD i default).key∧VR w F μ Ei (l.getD i (.top,.top)).2 (es.getD i default).val)∧
   ∀ i j,i < j→j < es.size→(es.getD i default).born < (es.getD j default).born:=h
theorem Be (es:Array MapEntry) (i:Nat):es.toList.getD i default=es.getD i default:=by
 simp [List.getD,Array.getD_eq_getD_getElem?]
theorem iy {r:Nat} {es:Array MapEntry} {c:Nat} (h:w.heap[r]?=some (.map es c)):(getObj r).run P w=.ok (.map es c) w:=by
 simp [getObj,Sem.run,h]
theorem mc {r:Nat} {es:Array MapEntry} {c:Nat} {o:Obj} (h:w.heap[r]?=some (.map es c)):(setObj r o).run P w=.ok () (jP w r o):=by
 have dQ:r < w.heap.size:=(Array.getElem?_eq_some_iff.1 h).1
 have h':w.heap[r]=.map es c:=by simpa [dQ] using h
 simp [setObj,Sem.run,h',dQ,jP]
def Bd (ok:Bool) (za:AV) (l:List (AV×AV)):Option Nat→AV
 | none=>QM ok za false
 | some j=>QM ok (l.getD j (.top,.top)).2 true
theorem SH {o:Oper} {s:fU} {t kt et:TypeId} {x k:Operand} {ok:Bool} {id:Nat} {l:List (AV×AV)} {ka za:AV} {d:TypeDesc} {r:Option Nat} (ho:o.op=.lookup t x k ok) (hx:ec s x (.mp id)) (hH:s.H id=some (.map l)) (hk:ec s k ka)
  (ht:P.underlying t=some (.map kt et)) (EV:P.underlying kt=some d) (hd:CI P kt ka=true) (hf:la ka l 0=some r) (hz:zvA P et=some za):
  ∀ {w:World} {F O:Nat→Prop} {μ:Nat→Nat} {K:Nat→Prop} {ft:Nat→Nat→Prop} {act:Act},SR w F O μ K s ft act→∃ v,(execOp act.eval o).run P w=.ok (.value v) w∧VR w F μ K (Bd ok za l r) v:=fun {w F O μ K ft act} hs=>by
  obtain ⟨z,hzr,rfl⟩:=adg hz
  obtain ⟨ob,qR,hB⟩:=hs.hr.dw id _ hH rfl
  obtain ⟨es,clock,rfl,h2,h3,h4,h5⟩:=OB hB
  have hv:=hx hs
  have WM:=hk hs
  generalize Gp:act.eval x=v at hv
  cases hv with
  | mp _ cb=>
   have TJ:=DK (w:=w) (es:=es.toList) EV hd WM (by simpa using h3) (fun j hj=>by rw [Be];exact (h4 j hj).2.1) hf
   have hck:∀ e,(Instr.checkKey e 10000 kt (act.eval k)).run P w=.ok () w:=fun e=>Hf hd WM
   cases r with
   | none=>
    simp only at TJ
    have z9:=TJ
    refine ⟨if ok then .tuple #[z,.bool false] else z,?_,WQ (afj z)⟩
    simp [execOp,ho,Instr.lookup,ct ht,Gp,iy qR,hck,z9,hzr]
   | some j=>
    obtain ⟨k2,z9,_⟩:=TJ
    have hj:j < l.length:=by
     have:es.toList.length=l.length:=by simpa using h3
     omega
    refine ⟨if ok then .tuple #[(es.getD j default).val,.bool true] else (es.getD j default).val,?_,WQ (h4 j hj).2.2.up⟩
    rw [Be] at z9
    simp [execOp,ho,Instr.lookup,ct ht,Gp,iy qR,hck,z9]
theorem CK {o:Oper} {s:fU} {t kt et:TypeId} {x k:Operand} {ok:Bool} {id:Nat} {l:List (AV×AV)} {ka za:AV} {d:TypeDesc} {r:Option Nat} (ho:o.op=.lookup t x k ok) (hx:ec s x (.mp id)) (hH:s.H id=some (.map l)) (hk:ec s k ka)
  (ht:P.underlying t=some (.map kt et)) (EV:P.underlying kt=some d) (hd:CI P kt ka=true) (hf:la ka l 0=some r) (hz:zvA P et=some za):
  de P o s ⟨Bd ok za l r,[],[]⟩:=cd fun hs=>SH ho hx hH hk ht EV hd hf hz hs
def pX (l:List (AV×AV)) (ka va:AV):Option Nat→List (AV×AV)
 | none=>l++[(ka,va)]
 | some j=>l.set j (ka,va)
theorem tx {o:Oper} {s:fU} {t kt et:TypeId} {m k x:Operand} {id:Nat} {l:List (AV×AV)} {ka va:AV} {d:TypeDesc} {r:Option Nat} (ho:o.op=.mapUpdate t m k x∨o.op=.insert t m k x) (hx:ec s m (.mp id)) (hH:s.H id=some (.map l)) (hk:ec s k ka)
  (hv:ec s x va) (QR:Sh va) (hck:Sh ka) (ht:P.underlying t=some (.map kt et)) (EV:P.underlying kt=some d) (hd:CI P kt ka=true) (hf:la ka l 0=some r):
  de P o s ⟨.lit undef,[(id,some (.map (pX l ka va r)))],[]⟩:=by
 intro w F O μ K ft act hs _ Kn Q x5
 obtain ⟨ob,qR,hB⟩:=hs.hr.dw id _ hH rfl
 obtain ⟨es,clock,rfl,h2,h3,h4,h5⟩:=OB hB
 have hm:=hx hs
 have WM:=hk hs
 have hvv:=hv hs
 generalize Gp:act.eval m=u at hm
 cases hm with
 | mp _ cb=>
  have TJ:=DK (w:=w) (es:=es.toList) EV hd WM (by simpa using h3) (fun j hj=>by rw [Be];exact (h4 j hj).2.1) hf
  have hch:∀ e,(Instr.checkKey e 10000 kt (act.eval k)).run P w=.ok () w:=fun e=>Hf hd WM
  have iM:s.H.live id:=⟨_,hH,rfl⟩
  have fin:∀ (ZP:Array MapEntry) (c':Nat) (l':List (AV×AV)),(execOp act.eval o).run P w=.ok .skip (jP w (μ id) (.map ZP c'))→h_ w F μ K (fun x=>x=μ id) (μ id) (.map ZP c') (.map l')→
    (∀ (w':World) F' O' bC b8,VR w' F' bC K (.lit undef) undef→HR w' F' O' bC K (s.H.c_ [(id,some (.map l'))]) b8→Fr w F O μ K w' F' O' bC→Kn (act.put o.dst undef) w')→o.wp P act w Kn Q:=by
   intro ZP c' l' mb PK hgo
   obtain ⟨O',b8,k1,k2⟩:=ma (L:=[]) hs.hr hH rfl qR (o':=.map ZP c') (by simp [sameShape]) (by simp) (fun y (hy:y=μ id)=>⟨id,.inl rfl,iM,hy▸hs.hr.self id iM⟩) rfl PK
   unfold Oper.wp
   rw [mb,Oper.upon_skip]
   exact hgo _ F O' μ b8 (.lit _) k1 k2
  have out:∀ (w':World) F' O' bC b8,VR w' F' bC K (.lit undef) undef→HR w' F' O' bC K (s.H.c_ [(id,some (.map (pX l ka va r)))]) b8→Fr w F O μ K w' F' O' bC→Kn (act.put o.dst undef) w':=fun w' F' O' bC b8 k1 k2 k3=>
   x5 undef w' F' O' bC b8 (by simp only [jC];exact k1) (by simp only [jC];exact k2) k3
  cases r with
  | none=>
   simp only at TJ
   have z9:=TJ
   refine fin (es.push { key:=act.eval k,val:=act.eval x,born:=clock }) (clock+1) _ ?_ ?_ out
   ·rcases ho with ho | ho<;>simp [execOp,ho,Instr.mapUpdate,ct ht,Gp,iy qR,hch,z9,mc qR]
   ·refine ⟨_,_,rfl,fun _=>Iff.rfl,by simp [pX,h3],fun i hi=>?_,fun i j LH hj=>?_⟩
    ·simp only [pX,List.length_append,List.length_cons,List.length_nil] at hi
     by_cases e:i < l.length
     ·have e1:(es.push { key:=act.eval k,val:=act.eval x,born:=clock }).getD i default=es.getD i default:=by
       simp [Array.getD_eq_getD_getElem?,Array.getElem?_push,show i≠es.size by omega]
      have e2:(pX l ka va none).getD i (.top,.top)=l.getD i (.top,.top):=by simp [pX,List.getD,List.getElem?_append,e]
      obtain ⟨q1,q2,q3⟩:=h4 i e
      rw [e1,e2]
      exact ⟨by omega,q2,q3⟩
     ·have ei:i=es.size:=by omega
      have e1:(es.push { key:=act.eval k,val:=act.eval x,born:=clock }).getD i default={ key:=act.eval k,val:=act.eval x,born:=clock }:=by
       simp [Array.getD_eq_getD_getElem?,Array.getElem?_push,ei]
      have e2:(pX l ka va none).getD i (.top,.top)=(ka,va):=by simp [pX,List.getD,List.getElem?_append,show ¬ i < l.length from e,show i-l.length=0 by omega]
      rw [e1,e2]
      exact ⟨by simp,hck WM,QR hvv⟩
    ·have ko:j < es.size+1:=by simpa using hj
     have e1:(es.push { key:=act.eval k,val:=act.eval x,born:=clock }).getD i default=es.getD i default:=by
      simp [Array.getD_eq_getD_getElem?,Array.getElem?_push,show i≠es.size by omega]
     rw [e1]
     by_cases e:j < es.size
     ·have e2:(es.push { key:=act.eval k,val:=act.eval x,born:=clock }).getD j default=es.getD j default:=by
       simp [Array.getD_eq_getD_getElem?,Array.getElem?_push,show j≠es.size by omega]
      rw [e2];exact h5 i j LH e
     ·have e2:(es.push { key:=act.eval k,val:=act.eval x,born:=clock }).getD j default={ key:=act.eval k,val:=act.eval x,born:=clock }:=by
       simp [Array.getD_eq_getD_getElem?,Array.getElem?_push,show j=es.size by omega]
      rw [e2]
      exact (h4 i (by omega)).1
  | some j=>
   obtain ⟨k2,z9,k4⟩:=TJ
   have hj:j < l.length:=by
    have:es.toList.length=l.length:=by simpa using h3
    omega
   have VS:j < es.size:=by omega
   have aeO:((es[j]?).map (·.key)).getD (act.eval k)=(es.getD j default).key:=by simp [VS]
   have wq:∀ v,(Instr.keyThatStays (((es[j]?).map (·.key)).getD v) (act.eval k)).run P w=.ok (act.eval k) w:=fun v=>by
    have aeO:((es[j]?).map (·.key)).getD v=(es.getD j default).key:=by simp [VS]
    have:=WN k4 WM (h4 j hj).2.1
    rw [aeO]
    unfold Instr.keyThatStays
    rw [if_pos this]
    exact Sem.run_pure _ _ _
   refine fin (es.modify j fun e=>{ e with key:=act.eval k,val:=act.eval x }) clock _ ?_ ?_ out
   ·rw [Be] at z9
    rcases ho with ho | ho<;>simp [execOp,ho,Instr.mapUpdate,ct ht,Gp,iy qR,hch,z9,wq,mc qR]
   ·have gm:∀ i,i < es.size→(es.modify j fun e=>{ e with key:=act.eval k,val:=act.eval x }).getD i default=if i=j then { es.getD j default with key:=act.eval k,val:=act.eval x } else es.getD i default:=fun i hi=>by
     by_cases e:i=j
     ·subst e;simp [Array.getD_eq_getD_getElem?,hi,Array.getElem_modify]
     ·simp [Array.getD_eq_getD_getElem?,hi,Array.getElem_modify,e,Ne.symm e]
    refine ⟨_,_,rfl,fun _=>Iff.rfl,by simp [pX,h3],fun i hi=>?_,fun i i' LH ko=>?_⟩
    ·have c9:i < l.length:=by simpa [pX] using hi
     rw [gm i (by omega)]
     by_cases e:i=j
     ·subst e
      rw [if_pos rfl]
      have e2:(pX l ka va (some i)).getD i (.top,.top)=(ka,va):=by simp [pX,List.getD,c9]
      rw [e2]
      exact ⟨(h4 i c9).1,hck WM,QR hvv⟩
     ·rw [if_neg e]
      have e2:(pX l ka va (some j)).getD i (.top,.top)=l.getD i (.top,.top):=by simp [pX,List.getD,List.getElem?_set_ne (Ne.symm e)]
      rw [e2];exact h4 i c9
    ·have R9:i' < es.size:=by simpa using ko
     have born:∀ i,i < es.size→((es.modify j fun e=>{ e with key:=act.eval k,val:=act.eval x }).getD i default).born=(es.getD i default).born:=fun i hi=>by
      rw [gm i hi];split
      ·rename_i e;subst e;rfl
      ·rfl
     rw [born i (by omega),born i' R9]
     exact h5 i i' LH R9
def adl (l:List (AV×AV)):Option Nat→List (AV×AV)
 | none=>l
 | some j=>l.eraseIdx j
theorem abg {o:Oper} {s:fU} {t u kt et:TypeId} {m k:Operand} {id:Nat} {l:List (AV×AV)} {ka:AV} {d:TypeDesc} {r:Option Nat} (ho:o.op=.call ⟨.builtin .delete,#[m,k],#[t,u]⟩) (hx:ec s m (.mp id)) (hH:s.H id=some (.map l)) (hk:ec s k ka)
  (ht:P.underlying t=some (.map kt et)) (EV:P.underlying kt=some d) (hd:CI P kt ka=true) (hf:la ka l 0=some r):
  de P o s ⟨.top,[(id,some (.map (adl l r)))],[]⟩:=by
 intro w F O μ K ft act hs _ Kn Q x5
 obtain ⟨ob,qR,hB⟩:=hs.hr.dw id _ hH rfl
 obtain ⟨es,clock,rfl,h2,h3,h4,h5⟩:=OB hB
 have hm:=hx hs
 have WM:=hk hs
 generalize Gp:act.eval m=x at hm
 cases hm with
 | mp _ cb=>
  have TJ:=DK (w:=w) (es:=es.toList) EV hd WM (by simpa using h3) (fun j hj=>by rw [Be];exact (h4 j hj).2.1) hf
  have hch:∀ e,(Instr.checkKey e 10000 kt (act.eval k)).run P w=.ok () w:=fun e=>Hf hd WM
  have iM:s.H.live id:=⟨_,hH,rfl⟩
  have fin:∀ (ZP:Array MapEntry) (l':List (AV×AV)),(execOp act.eval o).run P w=.ok (.value (.tuple #[])) (jP w (μ id) (.map ZP clock))→h_ w F μ K (fun x=>x=μ id) (μ id) (.map ZP clock) (.map l')→
    (∀ (w':World) F' O' bC b8,VR w' F' bC K .top (.tuple #[])→HR w' F' O' bC K (s.H.c_ [(id,some (.map l'))]) b8→Fr w F O μ K w' F' O' bC→Kn (act.put o.dst (.tuple #[])) w')→o.wp P act w Kn Q:=by
   intro ZP l' mb PK hgo
   obtain ⟨O',b8,k1,k2⟩:=ma (L:=[]) hs.hr hH rfl qR (o':=.map ZP clock) (by simp [sameShape]) (by simp) (fun y (hy:y=μ id)=>⟨id,.inl rfl,iM,hy▸hs.hr.self id iM⟩) rfl PK
   unfold Oper.wp
   rw [mb,Oper.upon_value]
   exact hgo _ F O' μ b8 (.top _) k1 k2
  have out:∀ (w':World) F' O' bC b8,VR w' F' bC K .top (.tuple #[])→HR w' F' O' bC K (s.H.c_ [(id,some (.map (adl l r)))]) b8→Fr w F O μ K w' F' O' bC→Kn (act.put o.dst (.tuple #[])) w':=fun w' F' O' bC b8 k1 k2 k3=>
   x5 (.tuple #[]) w' F' O' bC b8 (by simp only [jC];exact k1) (by simp only [jC];exact k2) k3
  cases r with
  | none=>
   simp only at TJ
   have z9:=TJ
   refine fin es _ ?_ ⟨_,_,rfl,fun _=>Iff.rfl,h3,h4,h5⟩ out
   simp [execOp,ho,resolve,invoke,builtin,Builtin.delete_,ct ht,Gp,iy qR,hch,z9,mc qR]
  | some j=>
   obtain ⟨k2,z9,k4⟩:=TJ
   have hj:j < l.length:=by
    have:es.toList.length=l.length:=by simpa using h3
    omega
   have VS:j < es.size:=by omega
   refine fin (es.eraseIdxIfInBounds j) _ ?_ ?_ out
   ·rw [Be] at z9
    simp [execOp,ho,resolve,invoke,builtin,Builtin.delete_,ct ht,Gp,iy qR,hch,z9,mc qR]
   ·have e0:es.eraseIdxIfInBounds j=es.eraseIdx j VS:=by simp [Array.eraseIdxIfInBounds,VS]
    have fL:(es.eraseIdx j VS).size=es.size-1:=Array.size_eraseIdx ..
    have gm:∀ i,(es.eraseIdx j VS).getD i default=if i < j then es.getD i default else es.getD (i+1) default:=fun i=>by
     simp only [Array.getD_eq_getD_getElem?,Array.getElem?_eraseIdx]
     split<;>rfl
    have gl:∀ i,(l.eraseIdx j).getD i (.top,.top)=if i < j then l.getD i (.top,.top) else l.getD (i+1) (.top,.top):=fun i=>by
     simp only [List.getD,List.getElem?_eraseIdx]
     split<;>rfl
    have hln:(l.eraseIdx j).length=l.length-1:=List.length_eraseIdx_of_lt hj
    rw [e0]
    refine ⟨_,_,rfl,fun _=>Iff.rfl,by simp only [adl];omega,fun i hi=>?_,fun i i' LH ko=>?_⟩
    ·simp only [adl] at hi ⊢
     rw [gm,gl]
     split
     ·exact h4 i (by omega)
     ·exact h4 (i+1) (by omega)
    ·rw [gm,gm]
     split<;>split
     ·exact h5 i i' LH (by omega)
     ·exact h5 i (i'+1) (by omega) (by omega)
     ·omega
     ·exact h5 (i+1) (i'+1) (by omega) (by omega)
end Go.Proofs.YtljfmaaadnoggaaGreatDoor.cX
