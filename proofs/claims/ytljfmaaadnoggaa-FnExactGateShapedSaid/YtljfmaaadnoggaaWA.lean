/- A function: its entry, its ends; that what it computes is its contract. No condition. -/
import Derived.Test.YtljfmaaadnoggaaVY
import Derived.RangeFuncRecord
namespace Go.Proofs.Ytljfmaaadnoggaa.Abs
open Go Go.RowKit
variable {w w' w'':World} {F F' F'' O O' O'':Nat→Prop} {μ μ' μ'':Nat→Nat} {K K' K'':Nat→Prop} {ft ft':Nat→Nat→Prop} {P:Program} {R:Type}
def resT (P:Program):List ResultVar→TSt→Option (List TA)
 | [],_=>some []
 | .tmp t::r,s=>match resT P r s with
  | some l=>some (look s.tm t::l)
  | none=>none
 | .cell a t::r,s=>match P.underlying t,P.info? t,resT P r s with
  | some d,some i,some l=>if aggD d then (match rdT s.H (look s.tm a) i.size with
    | some c=>some (.agg c::l)
    | none=>none) else (match rdT s.H (look s.tm a) 1 with
    | some [c]=>some (c::l)
    | _=>none)
  | _,_,_=>none
def tupT:List TA→TA
 | [x]=>x
 | l=>.tup l
def resOne (tmps:Array Value):ResultVar→Sem Value
 | .tmp t=>pure (tmps.getD t undef)
 | .cell a t=>do loadVar t (← asAddr (tmps.getD a undef))
theorem resT_ok {s:TSt} {a:Act} (ho:s.ok) (hs:SR w F O μ K s.st ft a):∀ {rs:List ResultVar} {l:List TA},resT P rs s=some l→wfL s.H s.N l∧∃ vs,(rs.mapM (resOne a.tmps)).run P w=.ok vs w∧VRs w F μ K (avL s.H l) vs
 | [],l,h=>by
  simp only [resT] at h
  cases h
  exact ⟨by simp only [wfL],[],by simp,by simp only [avL];exact .nil⟩
 | .tmp t::r,l,h=>by
  simp only [resT] at h
  split at h
  ·rename_i l' hr
   cases h
   obtain ⟨hw,vs,h1,h2⟩:=resT_ok ho hs hr
   exact ⟨by simp only [wfL];exact ⟨ho.tm t,hw⟩,_,by simp only [List.mapM_cons,resOne,Sem.run_bind,Sem.run_pure,Result.andThen_ok,h1];rfl,by simp only [avL];exact .cons (hs.tm t) h2⟩
  ·cases h
 | .cell c t::r,l,h=>by
  simp only [resT] at h
  split at h
  ·rename_i d i l' hd hi hr
   obtain ⟨hw,vs,h1,h2⟩:=resT_ok ho hs hr
   split at h
   ·rename_i ha
    split at h
    ·rename_i cc hc
     cases h
     obtain ⟨k1,k2,c',k3,k4⟩:=rdT_ok ho (x:=.tmp c) hc
     obtain ⟨b,o,u,hv,hu⟩:=k3 hs
     have h3:=loadVar_agg (P:=P) (w:=w) hd hi ha b o u fun j hj=>(hu j hj).1
     simp only [Instr.loadAt,Instr.sureAddr,Sem.run_bind,Sem.run_pure,Result.andThen_ok] at h3
     have hv:a.tmps.getD c undef=.pointer (some ⟨b,o,none⟩):=hv
     refine ⟨by simp only [wfL,TA.wf];exact ⟨k2,hw⟩,_,by simp only [List.mapM_cons,resOne,Sem.run_bind,Sem.run_pure,Result.andThen_ok,hv,asAddr,h3,h1];rfl,?_⟩
     simp only [avL,TA.av]
     refine .cons (.mkAgg ?_) h2
     rw [← range_map_eq k1 k4]
     exact range_map_VRs fun j hj=>(hu j hj).2
    ·cases h
   ·rename_i ha
    split at h
    ·rename_i cc hc
     cases h
     obtain ⟨k1,k2,c',k3,k4⟩:=rdT_ok ho (x:=.tmp c) hc
     obtain ⟨b,o,u,hv,hu⟩:=k3 hs
     have h3:=loadVar_one (P:=P) (w:=w) hd (by simpa using ha) b o (u 0) (hu 0 (by omega)).1
     simp only [Instr.loadAt,Instr.sureAddr,Sem.run_bind,Sem.run_pure,Result.andThen_ok] at h3
     have hv:a.tmps.getD c undef=.pointer (some ⟨b,o,none⟩):=hv
     simp only [wfL] at k2
     refine ⟨by simp only [wfL];exact ⟨k2.1,hw⟩,_,by simp only [List.mapM_cons,resOne,Sem.run_bind,Sem.run_pure,Result.andThen_ok,hv,asAddr,h3,h1];rfl,?_⟩
     simp only [avL]
     refine .cons ?_ h2
     have:=(hu 0 (by omega)).2
     rw [k4 0 (by omega)] at this
     exact this
    ·cases h
  ·cases h
theorem results_ok {fn:Func} {s:TSt} {a:Act} (ho:s.ok) (hs:SR w F O μ K s.st ft a) {l:List TA} (h:resT P fn.results.toList s=some l):
  (tupT l).wf s.H s.N∧∃ v,(results fn a.tmps).run P w=.ok v w∧VR w F μ K ((tupT l).av s.H) v:=by
 obtain ⟨hw,vs,h1,h2⟩:=resT_ok ho hs h
 have h3:(fn.results.mapM (resOne a.tmps)).run P w=.ok ⟨vs⟩ w:=by
  rw [Array.mapM_eq_mapM_toList]
  simp only [Sem.run_map]
  rw [h1]
  rfl
 refine ⟨?_,_,by
  show (do let vs ← fn.results.mapM (resOne a.tmps);pure (if h:vs.size=1 then vs[0] else .tuple vs):Sem Value).run P w=_
  simp only [Sem.run_bind]
  rw [h3]
  rfl,?_⟩
 ·match l,hw with
  | [],hw=>simp only [tupT,TA.wf,wfL]
  | [x],hw=>simp only [wfL] at hw;exact hw.1
  | x::y::l,hw=>simp only [tupT,TA.wf];exact hw
 ·match l,vs,h2 with
  | [],vs,h2=>
   simp only [avL] at h2
   rw [h2.nil_inv]
   simp only [tupT,TA.av,avL]
   exact .mkTup .nil
  | [x],vs,h2=>
   simp only [avL] at h2
   obtain ⟨v,r,rfl,k1,k2⟩:=h2.cons_inv
   rw [k2.nil_inv]
   exact k1
  | x::y::l,vs,h2=>
   have:vs.length≠1:=by rw [← h2.1,avL_length];simp
   simp only [tupT,TA.av]
   rw [dif_neg (by simpa using this)]
   exact .mkTup h2
def extV (s:TSt) (m0:Nat) (a:Alt) (v:TA):Option (List Dyn):=
 match ext s.H a.res v (pin m0) with
 | some (e1,d1)=>match extBs s.H a.bps 0 e1 with
  | some (e2,d2)=>match e2.good a.bps.length s.N&&(a.res.lt a.bps.length&&a.bps.all (Bp.lt a.bps.length)) with
   | true=>some (d1++d2)
   | false=>none
  | none=>none
 | none=>none
theorem extV_ok {s:TSt} {m0:Nat} {a:Alt} {v:TA} {ds:List Dyn} (h:extV s m0 a v=some ds):∃ va r H',instP id a.res ds=some (va,r)∧instBs id a.bps 0 r=some (H',[])∧m0≤a.bps.length∧
  ∀ {w F O μ ft act u},SR w F O μ (below s.N) s.st ft act→VR w F μ (below s.N) (v.av s.H) u→∃ F' O' μ' ft',VR w F' μ' (below a.bps.length) (va.av H') u∧HR w F' O' μ' (below a.bps.length) (hpT H') ft'∧Fr w F O μ (below m0) w F' O' μ':=by
 unfold extV at h
 split at h
 ·rename_i e1 d1 h1
  split at h
  ·rename_i e2 d2 h2
   split at h
   ·rename_i hc
    simp only [Bool.and_eq_true] at hc
    cases h
    obtain ⟨hg,hl1,hl2⟩:=hc
    obtain ⟨bl,bi,ba,bq⟩:=extBs_ok (H':=[]) (ρ:=id) h2
    obtain ⟨q,q1,_⟩:=bq []
    rw [List.append_nil] at q1
    obtain ⟨bl,bi,ba,bq⟩:=extBs_ok (H':=q) (ρ:=id) h2
    obtain ⟨q',q1',q2⟩:=bq []
    rw [List.append_nil,q1] at q1'
    cases q1'
    obtain ⟨xl,xi,xb⟩:=ext_ok (H':=q) (ρ:=id) h1
    obtain ⟨va,a1,a2⟩:=xb d2
    have inj:=bi (xi (pin_inj m0))
    have pins:∀ j,j < m0→asgOf e2.asc j=some j:=fun j hj=>(xl.trans bl).asc j j (pin_asg hj)
    have hm:m0≤a.bps.length:=by
     rcases Nat.lt_or_ge a.bps.length m0 with h | h
     ·have h3:=pins a.bps.length h
      simp only [Xs.good,Bool.and_eq_true] at hg
      have h0:=List.all_eq_true.1 hg.1 _ (asgOf_mem h3)
      simp only [Bool.and_eq_true] at h0
      have:=Nat.le_of_ble_eq_true h0.1
      omega
     ·exact h
    refine ⟨va,d2,q,a1,q1,hm,fun {w F O μ ft act u} hs hv=>?_⟩
    have hH:∀ p,p∈q→BlkOk s.H q e2 id p:=fun p hp=>(q2 p hp).1
    have hall:∀ j,j < a.bps.length→∃ id',asgOf e2.asc j=some id'∧id' < s.N:=fun j hj=>by
     obtain ⟨id',h3⟩:=ba j hj
     rw [Nat.zero_add] at h3
     simp only [Xs.good,Bool.and_eq_true] at hg
     have h0:=List.all_eq_true.1 hg.1 _ (asgOf_mem h3)
     simp only [Bool.and_eq_true] at h0
     exact ⟨id',h3,Nat.le_of_ble_eq_true h0.2⟩
    obtain ⟨hr',sub⟩:=canon_HR (m:=a.bps.length) hs hg inj hH (fun p hp=>by
     obtain ⟨i,hi,e⟩:=(q2 p hp).2
     rw [e];simpa using hi) hall
    have rd:=reads_of (m:=a.bps.length) (H':=q) hs hg hH inj
    refine ⟨_,_,_,_,a2 (rd.of bl) hv,hr',?_⟩
    refine { os:=rfl,tape:=rfl,output:=rfl,size:=Nat.le_refl _,mu:=fun j hj=>?_,froz:=fun b h=>.inl h,shape:=fun _ _=>rfl,same:=fun _ _ _=>rfl,onew:=fun x hx=>.inl (sub x hx),fnew:=?_ }
    ·simp only [muX,pins j hj,Option.getD_some]
    ·rintro b (h | ⟨id2,k1,k2,k3⟩)
     ·exact .inl h
     ·exact .inr (.inr (hs.hr.own id2 k2 b k3))
   ·cases h
  ·cases h
 ·cases h
def extW (s:TSt) (m0:Nat) (a:Alt) (v:TA):Option (List Dyn):=extV (virts s (pinPl m0 a.bps s m0)) m0 a v
theorem extW_ok {s:TSt} {m0:Nat} {a:Alt} {v:TA} {ds:List Dyn} (h:extW s m0 a v=some ds) (ho:s.ok) (hm:m0≤s.N) (hv:v.wf s.H s.N):∃ va r H',instP id a.res ds=some (va,r)∧instBs id a.bps 0 r=some (H',[])∧m0≤a.bps.length∧
  ∀ {w F O μ ft act u},SR w F O μ (below s.N) s.st ft act→VR w F μ (below s.N) (v.av s.H) u→∃ F' O' μ' ft',VR w F' μ' (below a.bps.length) (va.av H') u∧HR w F' O' μ' (below a.bps.length) (hpT H') ft'∧Fr w F O μ (below m0) w F' O' μ':=by
 obtain ⟨va,r,H',h1,h2,h3,h4⟩:=extV_ok h
 refine ⟨va,r,H',h1,h2,h3,fun {w F O μ ft act u} hs hu=>?_⟩
 obtain ⟨v1,v2,v3,v6,μ1,ft1,v4,v5⟩:=virts_ok (pinPl m0 a.bps s m0) ho hs
 have hu':VR w F μ1 (below (virts s (pinPl m0 a.bps s m0)).N) (v.av (virts s (pinPl m0 a.bps s m0)).H) u:=by
  rw [(av_sub v6 (Nat.le_refl _) v hv).1]
  exact hu.step hs.hr v5 fun id (hid:id < s.N)=>Nat.lt_of_lt_of_le hid v2
 obtain ⟨F',O',μ',ft',k1,k2,k3⟩:=h4 v4 hu'
 exact ⟨F',O',μ',ft',k1,k2,(v5.pin fun id (hid:id < m0)=>(show id < s.N by omega)).trans k3⟩
def outInj:(l:List Alt)→(Alt→Option (List Dyn))→Option (OutT l)
 | [],_=>none
 | [a],f=>match f a with
  | some ds=>castR a.tys ds
  | none=>none
 | a::b::r,f=>match f a with
  | some ds=>match castR a.tys ds with
   | some x=>some (.inl x)
   | none=>none
  | none=>match outInj (b::r) f with
   | some x=>some (.inr x)
   | none=>none
theorem outInj_ok:∀ {l:List Alt} {f:Alt→Option (List Dyn)} {o:OutT l},outInj l f=some o→f (outOf l o).1=some (outOf l o).2
 | [],f,o,h=>by cases h
 | [a],f,o,h=>by
  simp only [outInj] at h
  split at h
  ·rename_i ds hds
   show f a=some (rDyn a.tys o)
   rw [hds,castR_some h]
  ·cases h
 | a::b::r,f,o,h=>by
  simp only [outInj] at h
  split at h
  ·rename_i ds hds
   split at h
   ·rename_i x hx
    cases h
    show f a=some (rDyn a.tys x)
    rw [hds,castR_some hx]
   ·cases h
  ·split at h
   ·rename_i x hx
    cases h
    exact outInj_ok (l:=b::r) hx
   ·cases h
def endT (outs:List Alt) (m0:Nat) (pan:Bool) (v:TA) (s:TSt):Option (OutT outs):=outInj outs fun a=>match pan,a.pan with
 | true,true=>extW s m0 a v
 | false,false=>extW s m0 a v
 | _,_=>none
def resPl (m0:Nat) (bps:List Bp) (s:TSt):List ResultVar→List Pat→List Place
 | .tmp t::rs,.ow j::ps=>match look s.tm t with
  | .nils=>match bps[j]? with
   | some (.row ty v)=>.tm t ty v::resPl m0 bps s rs ps
   | _=>resPl m0 bps s rs ps
  | _=>resPl m0 bps s rs ps
 | .cell a _::rs,p::ps=>match look s.tm a with
  | .bp id 0=>match lookH s.H id with
   | some (.box l)=>match p with
    | .agg qs=>cellPl m0 bps id 0 qs l++resPl m0 bps s rs ps
    | p=>cellPl m0 bps id 0 [p] l++resPl m0 bps s rs ps
   | _=>resPl m0 bps s rs ps
  | _=>resPl m0 bps s rs ps
 | _::rs,_::ps=>resPl m0 bps s rs ps
 | _,_=>[]
def resPats (rs:List ResultVar) (p:Pat):List Pat:=match rs with
 | [_]=>[p]
 | _=>match p with
  | .tup ps=>ps
  | _=>[]
def extR0 (P:Program) (rs:List ResultVar) (s:TSt) (m0:Nat) (a:Alt):Option (List Dyn):=match resT P rs (virts s (resPl m0 a.bps s rs (resPats rs a.res))) with
 | some l=>extW (virts s (resPl m0 a.bps s rs (resPats rs a.res))) m0 a (tupT l)
 | none=>none
def extR (P:Program) (rs:List ResultVar) (s:TSt) (m0:Nat) (a:Alt):Option (List Dyn):=extR0 P rs (shuts s (hrowsOf s.H)) m0 a
def retT (P:Program) (rs:List ResultVar) (outs:List Alt) (m0:Nat) (s:TSt):Option (OutT outs):=outInj outs fun a=>match a.pan with
 | true=>none
 | false=>extR P rs s m0 a
def argT:Nat→List TA→List (Nat×TA)
 | _,[]=>[]
 | i,a::r=>(i,a)::argT (i+1) r
def denF (E:Env) (cts:Nat→List CT) (A:Ann) (args:List Pat) (bps:List Bp) (outs:List Alt) (nt:Nat) (rs:List ResultVar) (code:Code) (k:Nat) (x:Tup (tysL args++tysB bps)):Option (OutT outs):=
 match instL id args (tupDyn _ x) with
 | some (as,l)=>match instBs id bps 0 l with
  | some (H,[])=>match Nat.ble as.length nt&&(ltL bps.length args&&bps.all (Bp.lt bps.length)) with
   | true=>den E cts A bps.length code k ⟨nt,bps.length,argT 0 as,H⟩ ⟨retT E.P rs outs bps.length,fun _ _=>none,retT E.P rs outs bps.length,endT outs bps.length true⟩
   | false=>none
  | _=>none
 | none=>none
theorem look_argT (args:List TA) (i t:Nat):look (argT i args) t=if i≤t then args.getD (t-i) .top else .top:=by
 induction args generalizing i with
 | nil=>simp [argT,look]
 | cons x r ih=>
  simp only [argT,look]
  cases h:Nat.beq t i with
  | true=>
   have h:=Nat.eq_of_beq_eq_true h
   subst h;simp
  | false=>
   have h:=Nat.ne_of_beq_eq_false h
   rw [ih]
   by_cases h2:i+1≤t
   ·rw [if_pos h2,if_pos (by omega),show t-i=(t-(i+1))+1 by omega]
    simp
   ·rw [if_neg h2,if_neg (by omega)]
theorem entry_SR {nt N:Nat} {args:List TA} {H:List (Nat×TBlk)} {vs:List Value} (hr:HR w F O μ (below N) (hpT H) ft) (hv:VRs w F μ (below N) (avL H args) vs) (hn:args.length≤nt):
  SR w F O μ (below N) (TSt.st ⟨nt,N,argT 0 args,H⟩) ft { tmps:=⟨vs⟩++Array.replicate (nt-(⟨vs⟩:Array Value).size) undef,defers:=[] } where
 hr:=hr
 nt:=by have:=hv.1;rw [avL_length] at this;simp [TSt.st];omega
 tm:=fun t=>by
  show VR w F μ (below N) ((look (argT 0 args) t).av H) _
  rw [look_argT]
  simp only [Nat.zero_le,if_true,Nat.sub_zero]
  by_cases h:t < args.length
  ·have h':t < vs.length:=by have:=hv.1;rw [avL_length] at this;omega
   have:=hv.2 t (by rw [avL_length];exact h)
   rw [avL_getD _ _ _ h] at this
   have e:(({ toList:=vs }:Array Value)++Array.replicate (nt-({ toList:=vs }:Array Value).size) undef).getD t undef=vs.getD t undef:=by
    simp [List.getD,Array.getElem?_append,h']
   rw [e];exact this
  ·have:args.getD t .top=.top:=by simp [List.getD,List.getElem?_eq_none (Nat.le_of_not_lt h)]
   rw [this];simp only [TA.av];exact .top _
 df:=DfOk.nil
def AllC (P:Program):List CT→Prop
 | []=>True
 | c::r=>ConOk P c∧AllC P r
def AllI (P:Program):List IT→Prop
 | []=>True
 | c::r=>IterOk P c∧AllI P r
theorem allI_mem:∀ {l:List IT},AllI P l→∀ c,c∈l→IterOk P c
 | [],_,c,hc=>by cases hc
 | d::r,h,c,hc=>by
  rcases List.mem_cons.1 hc with e | e
  ·rw [e];exact h.1
  ·exact allI_mem h.2 c e
def itNone:Nat→List IT:=fun _=>[]
def AllM (P:Program):List (TypeId×String×FuncId)→Prop
 | []=>True
 | (t,n,f)::r=>MethodIs P t n f∧AllM P r
theorem env_of {E:Env} {cts:List CT} (hc:AllC E.P cts) (hm:AllM E.P E.mt):EnvOk E cts where
 con:=fun c hcm=>by
  induction cts with
  | nil=>cases hcm
  | cons d r ih=>
   rcases List.mem_cons.1 hcm with h | h
   ·rw [h];exact hc.1
   ·exact ih hc.2 h
 meth:=fun t n f hmm=>by
  have key:∀ l:List (TypeId×String×FuncId),AllM E.P l→(t,n,f)∈l→MethodIs E.P t n f:=by
   intro l
   induction l with
   | nil=>intro _ h;cases h
   | cons d r ih=>
    obtain ⟨t',n',f'⟩:=d
    intro h1 h2
    rcases List.mem_cons.1 h2 with h | h
    ·cases h;exact h1.1
    ·exact ih h1.2 h
  exact key _ hm hmm
structure Shut (w w':World) (ds:List Deferred):Prop where
 os:w'.os=w.os
 tape:w'.tape=w.tape
 output:w'.output=w.output
 size:w'.heap.size=w.heap.size
 same:∀ b,isMark b ∉ ds→w'.heap[b]?=w.heap[b]?
 shape:∀ b,w'.shape? b=w.shape? b
theorem Shut.kp {ds:List Deferred} (h:Shut w w' ds) (hd:DfOk w F O ds):Kp w w' F O where
 os:=h.os
 tape:=h.tape
 output:=h.output
 size:=Nat.le_of_eq h.size.symm
 keep:=fun b hb=>h.same b fun hm=>by
  obtain ⟨b',h1,h2,h3,_⟩:=hd.all _ hm
  have e:b=b':=by simpa [isMark] using h1
  subst e
  exact hb.elim h3 h2
 shape:=fun b _=>h.shape b
theorem Fr.shut {ds:List Deferred} (h:Fr w F O μ K w' F' O' μ') (k:Shut w' w'' ds) (hm:∀ b,isMark b∈ds→w.heap.size≤b):Fr w F O μ K w'' F' O' μ':=
 { h with os:=k.os.trans h.os,tape:=k.tape.trans h.tape,output:=k.output.trans h.output,size:=by rw [k.size];exact h.size,shape:=fun b hb=>(k.shape b).trans (h.shape b hb),same:=fun b hb hn=>(k.same b fun hmem=>by have:=hm b hmem;omega).trans (h.same b hb hn) }
theorem leaves_marks {ds:List Deferred} {fn:Func} {tmps:Array Value}:∀ {w:World},DfOk w F O ds→∃ w',Shut w w' ds∧∀ (R:Ending→World→Prop) (u:FrameMode),u≠.run→LeavesIn (Wr none) 0 P fn tmps R [] u w'→LeavesInM (Wr none) 0 P fn tmps R ds u w:=by
 induction ds with
 | nil=>exact fun {w} h=>⟨w,⟨rfl,rfl,rfl,rfl,fun _ _=>rfl,fun _=>rfl⟩,fun R u _ h=>h⟩
 | cons d ds ih=>
  intro w h
  obtain ⟨b,rfl,h2,h3,h4⟩:=h.all d (by simp)
  have hnd:=List.nodup_cons.1 h.nd
  have hlt:b < w.heap.size:=(Array.getElem?_eq_some_iff.1 h4).1
  obtain ⟨w',k1,k2⟩:=ih (w:=w.putObj b (.deferred none)) ⟨hnd.2,fun d' hd'=>by
   obtain ⟨b',m1,m2,m3,m4⟩:=h.all d' (by simp [hd'])
   refine ⟨b',m1,m2,m3,?_⟩
   rw [World.putObj_heap_other (fun e=>hnd.1 (by rw [← e,← m1];exact hd'))]
   exact m4⟩
  refine ⟨w',⟨k1.os,k1.tape,k1.output,by rw [k1.size];simp,fun b' hb'=>?_,fun b'=>?_⟩,fun R u hu hl=>⟨hu,.inl ⟨b,_,rfl,run_takeDeferred h4,k2 R u hu hl⟩⟩⟩
  ·simp only [List.mem_cons,not_or] at hb'
   rw [k1.same b' hb'.2]
   exact World.putObj_heap_other fun e=>hb'.1 (by rw [e])
  ·rw [k1.shape b']
   by_cases e:b'=b
   ·subst e
    simp only [World.shape?,h4,World.putObj_heap_same hlt]
   ·simp only [World.shape?,World.putObj_heap_other e]
theorem con_none {c:CT} (h:∀ x,appT _ c.F x=none):ConOk P c:=fun x o ho=>by rw [h x] at ho;cases ho
theorem con_of_den {E:Env} {cts:Nat→List CT} {A:Ann} {c:CT} {fn:Func} {code:Code} (k:Nat) (hE:∀ j,j≤k→EnvOk E (cts j)) (hI:∀ j,j≤k→AllI E.P (A.it j)) (hmix:E.P.follows .mixedOrders=true)
  (hcall:∀ (xs:Array Value) (w:World),(callFunc c.f xs).run E.P w=.ok (.enter c.f xs) w) (hf:E.P.funcs[c.f]?=some fn) (hb:fn.body=some code)
  (h:c.F=curT _ (denF E cts A c.args c.bps c.outs fn.ntmps fn.results.toList code k)) (hm:c.outs.all (fun a=>Nat.ble c.bps.length a.bps.length)=true):ConOk E.P c:=by
 intro x o ho as l H h1 h2 v r H' h3 h4
 rw [h,appT_curT] at ho
 unfold denF at ho
 rw [h1] at ho
 simp only at ho
 rw [h2] at ho
 simp only at ho
 split at ho
 ·rename_i hg
  simp only [Bool.and_eq_true] at hg
  obtain ⟨hn,hl1,hl2⟩:=hg
  have hn:=Nat.le_of_ble_eq_true hn
  have hmem:=caseO_mem (X:=Unit) c.outs o
  have hmm:=Nat.le_of_ble_eq_true (List.all_eq_true.1 hm _ hmem)
  refine ⟨hmm,hcall,fun w F O μ ft cargs hargs hr=>?_⟩
  have hs:=entry_SR hr hargs hn
  have hok:TSt.ok ⟨fn.ntmps,c.bps.length,argT 0 as,H⟩:=by
   have hw:=instL_wf (m:=c.bps.length) (N:=c.bps.length) (H:=H) (fun j h=>h) h1 hl1
   refine ⟨fun t=>?_,fun id l hl=>instBs_wf (m:=c.bps.length) (fun j h=>h) h2 hl2 _ (lookH_mem hl)⟩
   show (look (argT 0 as) t).wf H _
   rw [look_argT]
   split
   ·exact getD_wf hw _
   ·simp only [TA.wf]
  have hwp:=den_ok hE (fun j hj=>allI_mem (hI j hj)) hmix code c.bps.length (fn.ntmps,w.heap.size) none k _ _ ho (.inl rfl) (Nat.le_refl _) hok (Nat.le_refl _) (Nat.le_refl _) ⟨rfl,fun b hb=>by cases hb⟩ hs
  refine (callsIn_wide (n:=0)).1 (callsIn_of_wp_marks (F:=Wr none) (n:=0) hf hb trivial (Code.wpIn_mono ?_ hwp))
  rintro e a' w' ⟨s',F',O',μ',ft',hh,hk⟩
  obtain ⟨w2,sh,hlv⟩:=leaves_marks (P:=E.P) (fn:=fn) (tmps:=a'.tmps) hh.sr.df
  have kp:Kp w' w2 F' O':=sh.kp hh.sr.df
  have hsr2:SR w2 F' O' μ' (below s'.N) s'.st ft' { a' with defers:=[] }:=⟨hh.sr.hr.kp kp,hh.sr.nt,fun t=>(hh.sr.tm t).kp hh.sr.hr kp,DfOk.nil⟩
  have hfr:∀ {F2 O2 μ2},Fr w2 F' O' μ' (below c.bps.length) w2 F2 O2 μ2→Fr w F O μ (below c.bps.length) w2 F2 O2 μ2:=fun h=>(hh.fr.shut sh fun b hb=>hh.nt.2 b hb).trans h
  have fin:retT E.P fn.results.toList c.outs c.bps.length s'=some o→∃ u,(results fn a'.tmps).run E.P w2=.ok u w2∧∃ v2 F' O' μ' ft',Ending.returned u=(cond (outOf c.outs o).1.pan (GEnd.pan (v.av H')) (.ret (v.av H'))).is v2∧
    VR w2 F' μ' (below (outOf c.outs o).1.bps.length) (cond (outOf c.outs o).1.pan (GEnd.pan (v.av H')) (.ret (v.av H'))).av v2∧HR w2 F' O' μ' (below (outOf c.outs o).1.bps.length) (hpT H') ft'∧Fr w F O μ (below c.bps.length) w2 F' O' μ':=by
   intro hret
   have:=outInj_ok hret
   cases e2:(outOf c.outs o).1.pan with
   | true=>rw [e2] at this;cases this
   | false=>
    rw [e2] at this
    simp only [extR,extR0] at this
    obtain ⟨y1,y2,y3,_,ft0,y4⟩:=shuts_ok (hrowsOf s'.H) hh.ok hsr2
    generalize shuts s' (hrowsOf s'.H)=s0 at this y1 y2 y3 y4
    rw [← y2] at y4
    have hle:c.bps.length≤s0.N:=by rw [y2];exact hh.le
    obtain ⟨v1,v2,v3,_,μ1,ft1,v4,v5⟩:=virts_ok (resPl c.bps.length (outOf c.outs o).1.bps s0 fn.results.toList (resPats fn.results.toList (outOf c.outs o).1.res)) y1 y4
    split at this
    ·rename_i l2 hl2
     obtain ⟨hw,u,k1,k2⟩:=results_ok v1 v4 hl2
     obtain ⟨va,r2,H2,m1,m2,_,m3⟩:=extW_ok this v1 (Nat.le_trans hle v2) hw
     rw [h3] at m1
     cases m1
     rw [h4] at m2
     cases m2
     obtain ⟨F2,O2,μ2,ft2,n1,n2,n3⟩:=m3 v4 k2
     exact ⟨u,k1,u,F2,O2,μ2,ft2,rfl,n1,n2,hfr ((v5.pin fun id (hid:id < c.bps.length)=>Nat.lt_of_lt_of_le hid hle).trans n3)⟩
    ·cases this
  cases e with
  | normal=>exact hlv _ _ (by simp) (fin hk)
  | ret=>exact hlv _ _ (by simp) (fin hk)
  | panic l=>
   obtain ⟨u,va,rfl,hp,hw,hv⟩:=hk
   refine hlv _ _ (by simp) ?_
   have:=outInj_ok hp
   cases e2:(outOf c.outs o).1.pan with
   | false=>rw [e2] at this;cases this
   | true=>
    rw [e2] at this
    obtain ⟨va,r2,H2,m1,m2,_,m3⟩:=extW_ok this hh.ok hh.le hw
    rw [h3] at m1
    cases m1
    rw [h4] at m2
    cases m2
    obtain ⟨F2,O2,μ2,ft2,n1,n2,n3⟩:=m3 hsr2 (hv.kp hh.sr.hr kp)
    exact ⟨u,F2,O2,μ2,ft2,rfl,n1,n2,hfr n3⟩
  | exit i=>cases hk
  | goto l=>exact hk.elim
  | outgrown=>exact hk.elim
 ·cases ho
end Go.Proofs.Ytljfmaaadnoggaa.Abs
