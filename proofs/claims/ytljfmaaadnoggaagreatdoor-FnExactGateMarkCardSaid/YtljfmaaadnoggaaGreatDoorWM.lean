/- Maps of the call's own: made, looked up, written. No condition. -/
import Derived.Test.YtljfmaaadnoggaaGreatDoorWK
set_option linter.unusedSimpArgs false
set_option linter.unusedVariables false
namespace Go.Proofs.YtljfmaaadnoggaaGreatDoor.cU
open Go Go.RowKit
variable {w w' vP:World} {F F' Am O O' ux:Nat→Prop} {μ bB jV:Nat→Nat} {K K' DQ:Nat→Prop} {ft b7:Nat→Nat→Prop} {P:Program} {R:Type}
theorem Oa {o:Oper} {s:fy} {t:TypeId} {N:Nat} (ho:o.op=.makeMap t none):db P o s ⟨.mp N,[(N,some (.map []))],[N]⟩:=
 sQ fun {w F O μ K ft act} hs=>by
  refine ⟨.map (some w.heap.size),.map #[] 0,w.drawn,?_,⟨#[],0,rfl,fun x=>Iff.rfl,rfl,(fun i hi=>absurd hi (by simp)),fun i j _ hj=>absurd hj (by simp)⟩,fun w' bB _ _ hm=>?_⟩
  ·simp [execOp,ho,Instr.makeMap]
  ·rw [← hm];exact .mp N (.inr (by simp))
def zv:Value→AV
 | .agg ⟨cs⟩=>.agg (cs.map VU)
 | v=>VU v
theorem acu (v:Value):VR w F μ K (zv v) v:=by
 unfold zv
 split
 ·rename_i cs
  exact .pY ⟨by simp,fun i hi=>by
   have c8:i < cs.length:=by simpa using hi
   have e:(cs.map VU).getD i .top=VU (cs.getD i undef):=by simp [List.getD,c8]
   rw [e];exact Kd _⟩
 ·exact Kd _
def zvA (P:Program) (t:TypeId):Option AV:=match P.info? t with
 | some i=>match i.zero with
  | some z=>some (zv z)
  | none=>none
 | none=>none
theorem aap {t:TypeId} {a:AV} (h:zvA P t=some a):∃ z,(∀ w,(zeroValue t).run P w=.ok z w)∧a=zv z:=by
 unfold zvA at h
 split at h
 ·rename_i i hi
  split at h
  ·rename_i z hz
   exact ⟨z,fun w=>QV hi hz,by simpa using h.symm⟩
  ·cases h
 ·cases h
def Ob (ok:Bool) (v:AV) (b:Bool):AV:=match ok with
 | true=>.n9 [v,.bool b]
 | false=>v
theorem TT {ok:Bool} {a:AV} {v:Value} {b:Bool} (h:VR w F μ K a v):VR w F μ K (Ob ok a b) (if ok then .tuple #[v,.bool b] else v):=by
 cases ok with
 | false=>exact h
 | true=>exact .Le (.cons h (.cons (.bool _) .nil))
theorem RN {S:Nat→Prop} {b:Nat} {o:Obj} {l:List (AV×AV)} (h:gO w F μ K S b o (.map l)):∃ es clock,o=.map es clock∧(∀ x,S x↔x=b)∧es.size=l.length∧(∀ i,i < l.length→(es.getD i default).born < clock∧VR w F μ B_ (l.getD i (.top,.top)).1 (es.getD i default).key∧VR w F μ B_ (l.getD i (.top,.top)).2 (es.getD i default).val)∧
   ∀ i j,i < j→j < es.size→(es.getD i default).born < (es.getD j default).born:=h
theorem EH (es:Array MapEntry) (i:Nat):es.toList.getD i default=es.getD i default:=by
 simp [List.getD,Array.getD_eq_getD_getElem?]
theorem kO {r:Nat} {es:Array MapEntry} {c:Nat} (h:w.heap[r]?=some (.map es c)):(getObj r).run P w=.ok (.map es c) w:=by
 simp [getObj,Sem.run,h]
theorem pB {r:Nat} {es:Array MapEntry} {c:Nat} {o:Obj} (h:w.heap[r]?=some (.map es c)):(setObj r o).run P w=.ok () (iZ w r o):=by
 have dL:r < w.heap.size:=(Array.getElem?_eq_some_iff.1 h).1
 have h':w.heap[r]=.map es c:=by simpa [dL] using h
 simp [setObj,Sem.run,h',dL,iZ]
def ze (ok:Bool) (za:AV) (l:List (AV×AV)):Option Nat→AV
 | none=>Ob ok za false
 | some j=>Ob ok (l.getD j (.top,.top)).2 true
theorem Qb {o:Oper} {s:fy} {t kt et:TypeId} {x k:Operand} {ok:Bool} {id:Nat} {l:List (AV×AV)} {ka za:AV} {d:TypeDesc} {r:Option Nat} (ho:o.op=.lookup t x k ok) (hx:dT s x (.mp id)) (hH:s.H id=some (.map l)) (hk:dT s k ka)
  (ht:P.underlying t=some (.map kt et)) (Ge:P.underlying kt=some d) (hd:BD P kt ka=true) (hf:kN ka l 0=some r) (hz:zvA P et=some za):
  ∀ {w:World} {F O:Nat→Prop} {μ:Nat→Nat} {K:Nat→Prop} {ft:Nat→Nat→Prop} {act:Act},SR w F O μ K s ft act→∃ v,(execOp act.eval o).run P w=.ok (.value v) w∧VR w F μ K (ze ok za l r) v:=fun {w F O μ K ft act} hs=>by
  obtain ⟨z,Xm,rfl⟩:=aap hz
  obtain ⟨ob,rQ,hB⟩:=hs.hr.di id _ hH rfl
  obtain ⟨es,clock,rfl,h2,h3,h4,h5⟩:=RN hB
  have hv:=hx hs
  have WG:=hk hs
  generalize F_:act.eval x=v at hv
  cases hv with
  | mp _ bY=>
   have Xg:=HB (w:=w) (es:=es.toList) Ge hd WG (by simpa using h3) (fun j hj=>by rw [EH];exact (h4 j hj).2.1) hf
   have Yr:∀ e,(Instr.checkKey e 10000 kt (act.eval k)).run P w=.ok () w:=fun e=>KL hd WG
   cases r with
   | none=>
    simp only at Xg
    have AA:=Xg
    refine ⟨if ok then .tuple #[z,.bool false] else z,?_,TT (acu z)⟩
    simp [execOp,ho,Instr.lookup,cl ht,F_,kO rQ,Yr,AA,Xm]
   | some j=>
    obtain ⟨k2,AA,_⟩:=Xg
    have hj:j < l.length:=by
     have:es.toList.length=l.length:=by simpa using h3
     omega
    refine ⟨if ok then .tuple #[(es.getD j default).val,.bool true] else (es.getD j default).val,?_,TT (h4 j hj).2.2.up⟩
    rw [EH] at AA
    simp [execOp,ho,Instr.lookup,cl ht,F_,kO rQ,Yr,AA]
theorem AH {o:Oper} {s:fy} {t kt et:TypeId} {x k:Operand} {ok:Bool} {id:Nat} {l:List (AV×AV)} {ka za:AV} {d:TypeDesc} {r:Option Nat} (ho:o.op=.lookup t x k ok) (hx:dT s x (.mp id)) (hH:s.H id=some (.map l)) (hk:dT s k ka)
  (ht:P.underlying t=some (.map kt et)) (Ge:P.underlying kt=some d) (hd:BD P kt ka=true) (hf:kN ka l 0=some r) (hz:zvA P et=some za):
  db P o s ⟨ze ok za l r,[],[]⟩:=bZ fun hs=>Qb ho hx hH hk ht Ge hd hf hz hs
def oC (l:List (AV×AV)) (ka va:AV):Option Nat→List (AV×AV)
 | none=>l++[(ka,va)]
 | some j=>l.set j (ka,va)
theorem rM {o:Oper} {s:fy} {t kt et:TypeId} {m k x:Operand} {id:Nat} {l:List (AV×AV)} {ka va:AV} {d:TypeDesc} {r:Option Nat} (ho:o.op=.mapUpdate t m k x∨o.op=.insert t m k x) (hx:dT s m (.mp id)) (hH:s.H id=some (.map l)) (hk:dT s k ka)
  (hv:dT s x va) (Og:PL va) (Yr:PL ka) (ht:P.underlying t=some (.map kt et)) (Ge:P.underlying kt=some d) (hd:BD P kt ka=true) (hf:kN ka l 0=some r):
  db P o s ⟨.lit undef,[(id,some (.map (oC l ka va r)))],[]⟩:=by
 intro w F O μ K ft act hs _ Kn Q wv
 obtain ⟨ob,rQ,hB⟩:=hs.hr.di id _ hH rfl
 obtain ⟨es,clock,rfl,h2,h3,h4,h5⟩:=RN hB
 have hm:=hx hs
 have WG:=hk hs
 have hvv:=hv hs
 generalize F_:act.eval m=u at hm
 cases hm with
 | mp _ bY=>
  have Xg:=HB (w:=w) (es:=es.toList) Ge hd WG (by simpa using h3) (fun j hj=>by rw [EH];exact (h4 j hj).2.1) hf
  have hch:∀ e,(Instr.checkKey e 10000 kt (act.eval k)).run P w=.ok () w:=fun e=>KL hd WG
  have ic:s.H.live id:=⟨_,hH,rfl⟩
  have fin:∀ (es':Array MapEntry) (c':Nat) (l':List (AV×AV)),(execOp act.eval o).run P w=.ok .skip (iZ w (μ id) (.map es' c'))→gO w F μ K (fun x=>x=μ id) (μ id) (.map es' c') (.map l')→
    (∀ (w':World) F' O' bB b7,VR w' F' bB K (.lit undef) undef→HR w' F' O' bB K (s.H.c7 [(id,some (.map l'))]) b7→Fr w F O μ K w' F' O' bB→Kn (act.put o.dst undef) w')→o.wp P act w Kn Q:=by
   intro es' c' l' lD Q1 hgo
   obtain ⟨O',b7,k1,k2⟩:=mD (L:=[]) hs.hr hH rfl rQ (o':=.map es' c') (by simp [sameShape]) (by simp) (fun y (hy:y=μ id)=>⟨id,.inl rfl,ic,hy▸hs.hr.self id ic⟩) rfl Q1
   unfold Oper.wp
   rw [lD,Oper.upon_skip]
   exact hgo _ F O' μ b7 (.lit _) k1 k2
  have out:∀ (w':World) F' O' bB b7,VR w' F' bB K (.lit undef) undef→HR w' F' O' bB K (s.H.c7 [(id,some (.map (oC l ka va r)))]) b7→Fr w F O μ K w' F' O' bB→Kn (act.put o.dst undef) w':=fun w' F' O' bB b7 k1 k2 k3=>
   wv undef w' F' O' bB b7 (by simp only [la];exact k1) (by simp only [la];exact k2) k3
  cases r with
  | none=>
   simp only at Xg
   have AA:=Xg
   refine fin (es.push { key:=act.eval k,val:=act.eval x,born:=clock }) (clock+1) _ ?_ ?_ out
   ·rcases ho with ho | ho<;>simp [execOp,ho,Instr.mapUpdate,cl ht,F_,kO rQ,hch,AA,pB rQ]
   ·refine ⟨_,_,rfl,fun _=>Iff.rfl,by simp [oC,h3],fun i hi=>?_,fun i j Lj hj=>?_⟩
    ·simp only [oC,List.length_append,List.length_cons,List.length_nil] at hi
     by_cases e:i < l.length
     ·have e1:(es.push { key:=act.eval k,val:=act.eval x,born:=clock }).getD i default=es.getD i default:=by
       simp [Array.getD_eq_getD_getElem?,Array.getElem?_push,show i≠es.size by omega]
      have e2:(oC l ka va none).getD i (.top,.top)=l.getD i (.top,.top):=by simp [oC,List.getD,List.getElem?_append,e]
      obtain ⟨q1,q2,q3⟩:=h4 i e
      rw [e1,e2]
      exact ⟨by omega,q2,q3⟩
     ·have ei:i=es.size:=by omega
      have e1:(es.push { key:=act.eval k,val:=act.eval x,born:=clock }).getD i default={ key:=act.eval k,val:=act.eval x,born:=clock }:=by
       simp [Array.getD_eq_getD_getElem?,Array.getElem?_push,ei]
      have e2:(oC l ka va none).getD i (.top,.top)=(ka,va):=by simp [oC,List.getD,List.getElem?_append,show ¬ i < l.length from e,show i-l.length=0 by omega]
      rw [e1,e2]
      exact ⟨by simp,Yr WG,Og hvv⟩
    ·have lu:j < es.size+1:=by simpa using hj
     have e1:(es.push { key:=act.eval k,val:=act.eval x,born:=clock }).getD i default=es.getD i default:=by
      simp [Array.getD_eq_getD_getElem?,Array.getElem?_push,show i≠es.size by omega]
     rw [e1]
     by_cases e:j < es.size
     ·have e2:(es.push { key:=act.eval k,val:=act.eval x,born:=clock }).getD j default=es.getD j default:=by
       simp [Array.getD_eq_getD_getElem?,Array.getElem?_push,show j≠es.size by omega]
      rw [e2];exact h5 i j Lj e
     ·have e2:(es.push { key:=act.eval k,val:=act.eval x,born:=clock }).getD j default={ key:=act.eval k,val:=act.eval x,born:=clock }:=by
       simp [Array.getD_eq_getD_getElem?,Array.getElem?_push,show j=es.size by omega]
      rw [e2]
      exact (h4 i (by omega)).1
  | some j=>
   obtain ⟨k2,AA,k4⟩:=Xg
   have hj:j < l.length:=by
    have:es.toList.length=l.length:=by simpa using h3
    omega
   have Yj:j < es.size:=by omega
   have abX:((es[j]?).map (·.key)).getD (act.eval k)=(es.getD j default).key:=by simp [Yj]
   have vQ:∀ v,(Instr.keyThatStays (((es[j]?).map (·.key)).getD v) (act.eval k)).run P w=.ok (act.eval k) w:=fun v=>by
    have abX:((es[j]?).map (·.key)).getD v=(es.getD j default).key:=by simp [Yj]
    have:=TR k4 WG (h4 j hj).2.1
    rw [abX]
    unfold Instr.keyThatStays
    rw [if_pos this]
    exact Sem.run_pure _ _ _
   refine fin (es.modify j fun e=>{ e with key:=act.eval k,val:=act.eval x }) clock _ ?_ ?_ out
   ·rw [EH] at AA
    rcases ho with ho | ho<;>simp [execOp,ho,Instr.mapUpdate,cl ht,F_,kO rQ,hch,AA,vQ,pB rQ]
   ·have gm:∀ i,i < es.size→(es.modify j fun e=>{ e with key:=act.eval k,val:=act.eval x }).getD i default=if i=j then { es.getD j default with key:=act.eval k,val:=act.eval x } else es.getD i default:=fun i hi=>by
     by_cases e:i=j
     ·subst e;simp [Array.getD_eq_getD_getElem?,hi,Array.getElem_modify]
     ·simp [Array.getD_eq_getD_getElem?,hi,Array.getElem_modify,e,Ne.symm e]
    refine ⟨_,_,rfl,fun _=>Iff.rfl,by simp [oC,h3],fun i hi=>?_,fun i i' Lj lu=>?_⟩
    ·have c8:i < l.length:=by simpa [oC] using hi
     rw [gm i (by omega)]
     by_cases e:i=j
     ·subst e
      rw [if_pos rfl]
      have e2:(oC l ka va (some i)).getD i (.top,.top)=(ka,va):=by simp [oC,List.getD,c8]
      rw [e2]
      exact ⟨(h4 i c8).1,Yr WG,Og hvv⟩
     ·rw [if_neg e]
      have e2:(oC l ka va (some j)).getD i (.top,.top)=l.getD i (.top,.top):=by simp [oC,List.getD,List.getElem?_set_ne (Ne.symm e)]
      rw [e2];exact h4 i c8
    ·have S6:i' < es.size:=by simpa using lu
     have born:∀ i,i < es.size→((es.modify j fun e=>{ e with key:=act.eval k,val:=act.eval x }).getD i default).born=(es.getD i default).born:=fun i hi=>by
      rw [gm i hi];split
      ·rename_i e;subst e;rfl
      ·rfl
     rw [born i (by omega),born i' S6]
     exact h5 i i' Lj S6
end Go.Proofs.YtljfmaaadnoggaaGreatDoor.cU
