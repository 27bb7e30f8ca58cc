/- A function: its entry, its ends; that what it computes is its contract. No condition. -/
import Derived.Test.YtjkbbdldmdajkaaGreatDoorVY
import Derived.RangeFuncRecord
namespace Go.Proofs.YtjkbbdldmdajkaaGreatDoor.c_
open Go Go.RowKit
variable {w w' xh:World} {F F' Bn O O' vW:Nat→Prop} {μ bD lF:Nat→Nat} {K K' EB:Nat→Prop} {ft bY:Nat→Nat→Prop} {P:Program} {R:Type}
def Uh (P:Program):List ResultVar→bP→Option (List TA)
 | [],_=>some []
 | .tmp t::r,s=>match Uh P r s with
  | some l=>some (look s.tm t::l)
  | none=>none
 | .cell a t::r,s=>match P.underlying t,P.info? t,Uh P r s with
  | some d,some i,some l=>if I1 d then (match rdT s.H (look s.tm a) i.size with
    | some c=>some (.agg c::l)
    | none=>none) else (match rdT s.H (look s.tm a) 1 with
    | some [c]=>some (c::l)
    | _=>none)
  | _,_,_=>none
def VZ:List TA→TA
 | [x]=>x
 | l=>.nO l
def KS (tmps:Array Value):ResultVar→Sem Value
 | .tmp t=>pure (tmps.getD t undef)
 | .cell a t=>do loadVar t (← asAddr (tmps.getD a undef))
theorem Sb {s:bP} {a:Act} (ho:s.ok) (hs:SR w F O μ K s.st ft a):∀ {rs:List ResultVar} {l:List TA},Uh P rs s=some l→iz s.H s.N l∧∃ vs,(rs.mapM (KS a.tmps)).run P w=.ok vs w∧iU w F μ K (er s.H l) vs
 | [],l,h=>by
  simp only [Uh] at h;cases h;exact ⟨by simp only [iz],[],by simp,by simp only [er];exact .nil⟩
 | .tmp t::r,l,h=>by
  simp only [Uh] at h;split at h
  ·rename_i l' hr;cases h;obtain ⟨hw,vs,h1,h2⟩:=Sb ho hs hr;exact ⟨by simp only [iz];exact ⟨ho.tm t,hw⟩,_,by simp only [List.mapM_cons,KS,Sem.run_bind,Sem.run_pure,Result.andThen_ok,h1];rfl,by simp only [er];exact .cons (hs.tm t) h2⟩
  ·cases h
 | .cell c t::r,l,h=>by
  simp only [Uh] at h;split at h
  ·rename_i d i l' hd hi hr;obtain ⟨hw,vs,h1,h2⟩:=Sb ho hs hr;split at h
   ·rename_i ha;split at h
    ·rename_i cc hc;cases h;obtain ⟨k1,k2,c',k3,k4⟩:=RH ho (x:=.tmp c) hc;obtain ⟨b,o,u,hv,hu⟩:=k3 hs;have h3:=EF (P:=P) (w:=w) hd hi ha b o u fun j hj=>(hu j hj).1;simp only [Instr.loadAt,Instr.sureAddr,Sem.run_bind,Sem.run_pure,Result.andThen_ok] at h3;have hv:a.tmps.getD c undef=.pointer (some ⟨b,o,none⟩):=hv;refine ⟨by simp only [iz,TA.wf];exact ⟨k2,hw⟩,_,by simp only [List.mapM_cons,KS,Sem.run_bind,Sem.run_pure,Result.andThen_ok,hv,asAddr,h3,h1];rfl,?_⟩;simp only [er,TA.av];refine .cons (.rO ?_) h2;rw [← Cz k1 k4];exact At fun j hj=>(hu j hj).2
    ·cases h
   ·rename_i ha;split at h
    ·rename_i cc hc;cases h;obtain ⟨k1,k2,c',k3,k4⟩:=RH ho (x:=.tmp c) hc;obtain ⟨b,o,u,hv,hu⟩:=k3 hs;have h3:=EG (P:=P) (w:=w) hd (by simpa using ha) b o (u 0) (hu 0 (by omega)).1;simp only [Instr.loadAt,Instr.sureAddr,Sem.run_bind,Sem.run_pure,Result.andThen_ok] at h3;have hv:a.tmps.getD c undef=.pointer (some ⟨b,o,none⟩):=hv;simp only [iz] at k2;refine ⟨by simp only [iz];exact ⟨k2.1,hw⟩,_,by simp only [List.mapM_cons,KS,Sem.run_bind,Sem.run_pure,Result.andThen_ok,hv,asAddr,h3,h1];rfl,?_⟩;simp only [er];refine .cons ?_ h2;have:=(hu 0 (by omega)).2;rw [k4 0 (by omega)] at this;exact this
    ·cases h
  ·cases h
theorem OD {fn:Func} {s:bP} {a:Act} (ho:s.ok) (hs:SR w F O μ K s.st ft a) {l:List TA} (h:Uh P fn.results.toList s=some l):
  (VZ l).wf s.H s.N∧∃ v,(results fn a.tmps).run P w=.ok v w∧VR w F μ K ((VZ l).av s.H) v:=by
 obtain ⟨hw,vs,h1,h2⟩:=Sb ho hs h;have h3:(fn.results.mapM (KS a.tmps)).run P w=.ok ⟨vs⟩ w:=by
  rw [Array.mapM_eq_mapM_toList];simp only [Sem.run_map];rw [h1];rfl
 refine ⟨?_,_,by
  show (do let vs ← fn.results.mapM (KS a.tmps);pure (if h:vs.size=1 then vs[0] else .tuple vs):Sem Value).run P w=_;simp only [Sem.run_bind];rw [h3];rfl,?_⟩
 ·match l,hw with
  | [],hw=>simp only [VZ,TA.wf,iz]
  | [x],hw=>simp only [iz] at hw;exact hw.1
  | x::y::l,hw=>simp only [VZ,TA.wf];exact hw
 ·match l,vs,h2 with
  | [],vs,h2=>
   simp only [er] at h2;rw [h2.iJ];simp only [VZ,TA.av,er];exact .Lr .nil
  | [x],vs,h2=>
   simp only [er] at h2;obtain ⟨v,r,rfl,k1,k2⟩:=h2.cons_inv;rw [k2.iJ];exact k1
  | x::y::l,vs,h2=>
   have:vs.length≠1:=by rw [← h2.1,bG];simp
   simp only [VZ,TA.av];rw [dif_neg (by simpa using this)];exact .Lr h2
def aeC (s:bP) (m0:Nat) (a:Alt) (v:TA):Option (List cN):=
 match ext s.H a.res v (OR m0) with
 | some (e1,d1)=>match ET s.H a.db 0 e1 with
  | some (e2,d2)=>match e2.EU a.db.length s.N&&(a.res.lt a.db.length&&a.db.all (Bp.lt a.db.length)) with
   | true=>some (d1++d2)
   | false=>none
  | none=>none
 | none=>none
theorem acK {s:bP} {m0:Nat} {a:Alt} {v:TA} {ds:List cN} (h:aeC s m0 a v=some ds):∃ va r H',instP id a.res ds=some (va,r)∧instBs id a.db 0 r=some (H',[])∧m0≤a.db.length∧
  ∀ {w F O μ ft act u},SR w F O μ (below s.N) s.st ft act→VR w F μ (below s.N) (v.av s.H) u→∃ F' O' bD bY,VR w F' bD (below a.db.length) (va.av H') u∧HR w F' O' bD (below a.db.length) (xk H') bY∧Fr w F O μ (below m0) w F' O' bD:=by
 unfold aeC at h;split at h
 ·rename_i e1 d1 h1;split at h
  ·rename_i e2 d2 h2;split at h
   ·rename_i hc;simp only [Bool.and_eq_true] at hc;cases h;obtain ⟨hg,hl1,Q8⟩:=hc;obtain ⟨bl,bi,ba,bq⟩:=v8 (H':=[]) (ρ:=id) h2;obtain ⟨q,q1,_⟩:=bq [];rw [List.append_nil] at q1;obtain ⟨bl,bi,ba,bq⟩:=v8 (H':=q) (ρ:=id) h2;obtain ⟨q',q1',q2⟩:=bq [];rw [List.append_nil,q1] at q1';cases q1';obtain ⟨xl,xi,xb⟩:=VC (H':=q) (ρ:=id) h1;obtain ⟨va,a1,a2⟩:=xb d2;have inj:=bi (xi (WL m0));have pins:∀ j,j < m0→ec e2.v7 j=some j:=fun j hj=>(xl.trans bl).v7 j j (WK hj);have hm:m0≤a.db.length:=by
     rcases Nat.lt_or_ge a.db.length m0 with h | h
     ·have h3:=pins a.db.length h;simp only [Xs.EU,Bool.and_eq_true] at hg;have h0:=List.all_eq_true.1 hg.1 _ (m_ h3);simp only [Bool.and_eq_true] at h0;have:=Nat.le_of_ble_eq_true h0.1;omega
     ·exact h
    refine ⟨va,d2,q,a1,q1,hm,fun {w F O μ ft act u} hs hv=>?_⟩;have hH:∀ p,p∈q→Ob s.H q e2 id p:=fun p hp=>(q2 p hp).1;have ox:∀ j,j < a.db.length→∃ b9,ec e2.v7 j=some b9∧b9 < s.N:=fun j hj=>by
     obtain ⟨b9,h3⟩:=ba j hj;rw [Nat.zero_add] at h3;simp only [Xs.EU,Bool.and_eq_true] at hg;have h0:=List.all_eq_true.1 hg.1 _ (m_ h3);simp only [Bool.and_eq_true] at h0;exact ⟨b9,h3,Nat.le_of_ble_eq_true h0.2⟩
    obtain ⟨DK,sub⟩:=TR (m:=a.db.length) hs hg inj hH (fun p hp=>by
     obtain ⟨i,hi,e⟩:=(q2 p hp).2;rw [e];simpa using hi) ox
    have rd:=Jm (m:=a.db.length) (H':=q) hs hg hH inj;refine ⟨_,_,_,_,a2 (rd.of bl) hv,DK,?_⟩;refine { os:=rfl,tape:=rfl,output:=rfl,size:=Nat.le_refl _,mu:=fun j hj=>?_,As:=fun b h=>.inl h,shape:=fun _ _=>rfl,same:=fun _ _ _=>rfl,EA:=fun x hx=>.inl (sub x hx),HF:=?_ }
    ·simp only [muX,pins j hj,Option.getD_some]
    ·rintro b (h | ⟨Cu,k1,k2,k3⟩)
     ·exact .inl h
     ·exact .inr (.inr (hs.hr.own Cu k2 b k3))
   ·cases h
  ·cases h
 ·cases h
def acL (s:bP) (m0:Nat) (a:Alt) (v:TA):Option (List cN):=aeC (BA s (Ow m0 a.db s m0)) m0 a v
theorem W4 {s:bP} {m0:Nat} {a:Alt} {v:TA} {ds:List cN} (h:acL s m0 a v=some ds) (ho:s.ok) (hm:m0≤s.N) (hv:v.wf s.H s.N):∃ va r H',instP id a.res ds=some (va,r)∧instBs id a.db 0 r=some (H',[])∧m0≤a.db.length∧
  ∀ {w F O μ ft act u},SR w F O μ (below s.N) s.st ft act→VR w F μ (below s.N) (v.av s.H) u→∃ F' O' bD bY,VR w F' bD (below a.db.length) (va.av H') u∧HR w F' O' bD (below a.db.length) (xk H') bY∧Fr w F O μ (below m0) w F' O' bD:=by
 obtain ⟨va,r,H',h1,h2,h3,h4⟩:=acK h;refine ⟨va,r,H',h1,h2,h3,fun {w F O μ ft act u} hs hu=>?_⟩;obtain ⟨v1,v2,v3,v6,KB,Ww,v4,v5⟩:=Jz (Ow m0 a.db s m0) ho hs;have hu':VR w F KB (below (BA s (Ow m0 a.db s m0)).N) (v.av (BA s (Ow m0 a.db s m0)).H) u:=by
  rw [(jR v6 (Nat.le_refl _) v hv).1];exact hu.step hs.hr v5 fun id (bZ:id < s.N)=>Nat.lt_of_lt_of_le bZ v2
 obtain ⟨F',O',bD,bY,k1,k2,k3⟩:=h4 v4 hu';exact ⟨F',O',bD,bY,k1,k2,(v5.OR fun id (bZ:id < m0)=>(show id < s.N by omega)).trans k3⟩
def KT:(l:List Alt)→(Alt→Option (List cN))→Option (KG l)
 | [],_=>none
 | [a],f=>match f a with
  | some ds=>Qi a.eR ds
  | none=>none
 | a::b::r,f=>match f a with
  | some ds=>match Qi a.eR ds with
   | some x=>some (.inl x)
   | none=>none
  | none=>match KT (b::r) f with
   | some x=>some (.inr x)
   | none=>none
theorem KU:∀ {l:List Alt} {f:Alt→Option (List cN)} {o:KG l},KT l f=some o→f (oD l o).1=some (oD l o).2
 | [],f,o,h=>by cases h
 | [a],f,o,h=>by
  simp only [KT] at h;split at h
  ·rename_i ds tq;show f a=some (VE a.eR o);rw [tq,HU h]
  ·cases h
 | a::b::r,f,o,h=>by
  simp only [KT] at h;split at h
  ·rename_i ds tq;split at h
   ·rename_i x hx;cases h;show f a=some (VE a.eR x);rw [tq,HU hx]
   ·cases h
  ·split at h
   ·rename_i x hx;cases h;exact KU (l:=b::r) hx
   ·cases h
def aha (outs:List Alt) (m0:Nat) (Kx:Bool) (v:TA) (s:bP):Option (KG outs):=KT outs fun a=>match Kx,a.Kx with
 | true,true=>acL s m0 a v
 | false,false=>acL s m0 a v
 | _,_=>none
def Db (m0:Nat) (db:List Bp) (s:bP):List ResultVar→List wx→List Place
 | .tmp t::rs,.ow j::ps=>match look s.tm t with
  | .fA=>match db[j]? with
   | some (.row ty v)=>.tm t ty v::Db m0 db s rs ps
   | _=>Db m0 db s rs ps
  | _=>Db m0 db s rs ps
 | .cell a _::rs,p::ps=>match look s.tm a with
  | .bp id 0=>match aT s.H id with
   | some (.box l)=>match p with
    | .agg qs=>y7 m0 db id 0 qs l++Db m0 db s rs ps
    | .d t=>y7 m0 db id 0 (l.map fun _=>.d t) l++Db m0 db s rs ps
    | p=>y7 m0 db id 0 [p] l++Db m0 db s rs ps
   | _=>Db m0 db s rs ps
  | _=>Db m0 db s rs ps
 | _::rs,_::ps=>Db m0 db s rs ps
 | _,_=>[]
def Sc (rs:List ResultVar) (p:wx):List wx:=match rs with
 | [_]=>[p]
 | _=>match p with
  | .nO ps=>ps
  | _=>[]
def adj (P:Program) (rs:List ResultVar) (s:bP) (m0:Nat) (a:Alt):Option (List cN):=match Uh P rs (BA s (Db m0 a.db s rs (Sc rs a.res))) with
 | some l=>acL (BA s (Db m0 a.db s rs (Sc rs a.res))) m0 a (VZ l)
 | none=>none
def afN (P:Program) (rs:List ResultVar) (s:bP) (m0:Nat) (a:Alt):Option (List cN):=adj P rs (tg s (z7 s.H)) m0 a
def aeD (P:Program) (rs:List ResultVar) (outs:List Alt) (m0:Nat) (s:bP):Option (KG outs):=KT outs fun a=>match a.Kx with
 | true=>none
 | false=>afN P rs s m0 a
def KV:Nat→List TA→List (Nat×TA)
 | _,[]=>[]
 | i,a::r=>(i,a)::KV (i+1) r
def afO (E:Env) (bN:Nat→List CT) (A:Ann) (args:List wx) (db:List Bp) (outs:List Alt) (nt:Nat) (rs:List ResultVar) (code:Code) (k:Nat) (x:zf (DE args++RW db)):Option (KG outs):=
 match instL id args (fo _ x) with
 | some (as,l)=>match instBs id db 0 l with
  | some (H,[])=>match Nat.ble as.length nt&&(ltL db.length args&&db.all (Bp.lt db.length)) with
   | true=>den E bN A db.length code k ⟨nt,db.length,KV 0 as,H⟩ ⟨aeD E.P rs outs db.length,fun _ _=>none,aeD E.P rs outs db.length,aha outs db.length true⟩
   | false=>none
  | _=>none
 | none=>none
theorem KW (args:List TA) (i t:Nat):look (KV i args) t=if i≤t then args.getD (t-i) .top else .top:=by
 induction args generalizing i with
 | nil=>simp [KV,look]
 | cons x r ih=>
  simp only [KV,look];cases h:Nat.beq t i with
  | true=>
   have h:=Nat.eq_of_beq_eq_true h;subst h;simp
  | false=>
   have h:=Nat.ne_of_beq_eq_false h;rw [ih];by_cases h2:i+1≤t
   ·rw [if_pos h2,if_pos (by omega),show t-i=(t-(i+1))+1 by omega];simp
   ·rw [if_neg h2,if_neg (by omega)]
theorem Ui {nt N:Nat} {args:List TA} {H:List (Nat×aY)} {vs:List Value} (hr:HR w F O μ (below N) (xk H) ft) (hv:iU w F μ (below N) (er H args) vs) (hn:args.length≤nt):
  SR w F O μ (below N) (bP.st ⟨nt,N,KV 0 args,H⟩) ft { tmps:=⟨vs⟩++Array.replicate (nt-(⟨vs⟩:Array Value).size) undef,defers:=[] } where
 hr:=hr
 nt:=by have:=hv.1;rw [bG] at this;simp [bP.st];omega
 tm:=fun t=>by
  show VR w F μ (below N) ((look (KV 0 args) t).av H) _;rw [KW];simp only [Nat.zero_le,if_true,Nat.sub_zero];by_cases h:t < args.length
  ·have h':t < vs.length:=by have:=hv.1;rw [bG] at this;omega
   have:=hv.2 t (by rw [bG];exact h);rw [dO _ _ _ h] at this;have e:(({ toList:=vs }:Array Value)++Array.replicate (nt-({ toList:=vs }:Array Value).size) undef).getD t undef=vs.getD t undef:=by
    simp [List.getD,Array.getElem?_append,h']
   rw [e];exact this
  ·have:args.getD t .top=.top:=by simp [List.getD,List.getElem?_eq_none (Nat.le_of_not_lt h)]
   rw [this];simp only [TA.av];exact .top _
 df:=wq.nil
def afP (P:Program):List CT→Prop
 | []=>True
 | c::r=>aU P c∧afP P r
def aeE (P:Program):List IT→Prop
 | []=>True
 | c::r=>JX P c∧aeE P r
theorem Uj:∀ {l:List IT},aeE P l→∀ c,c∈l→JX P c
 | [],_,c,hc=>by cases hc
 | d::r,h,c,hc=>by
  rcases List.mem_cons.1 hc with e | e
  ·rw [e];exact h.1
  ·exact Uj h.2 c e
def aS:Nat→List IT:=fun _=>[]
def aeF (P:Program):List (TypeId×String×FuncId)→Prop
 | []=>True
 | (t,n,f)::r=>gJ P t n f∧aeF P r
theorem aQ {E:Env} {bN:List CT} (hc:afP E.P bN) (hm:aeF E.P E.mt):xm E bN where
 con:=fun c hcm=>by
  induction bN with
  | nil=>cases hcm
  | cons d r ih=>
   rcases List.mem_cons.1 hcm with h | h
   ·rw [h];exact hc.1
   ·exact ih hc.2 h
 afw:=fun t n f hmm=>by
  have key:∀ l:List (TypeId×String×FuncId),aeF E.P l→(t,n,f)∈l→gJ E.P t n f:=by
   intro l
   induction l with
   | nil=>intro _ h;cases h
   | cons d r ih=>
    obtain ⟨t',n',f'⟩:=d;intro h1 h2;rcases List.mem_cons.1 h2 with h | h
    ·cases h;exact h1.1
    ·exact ih h1.2 h
  exact key _ hm hmm
structure acM (w w':World) (ds:List Deferred):Prop where
 os:w'.os=w.os
 tape:w'.tape=w.tape
 output:w'.output=w.output
 size:w'.heap.size=w.heap.size
 same:∀ b,yS b ∉ ds→w'.heap[b]?=w.heap[b]?
 shape:∀ b,w'.shape? b=w.shape? b
theorem acM.kp {ds:List Deferred} (h:acM w w' ds) (hd:wq w F O ds):Kp w w' F O where
 os:=h.os
 tape:=h.tape
 output:=h.output
 size:=Nat.le_of_eq h.size.symm
 LW:=fun b hb=>h.same b fun hm=>by
  obtain ⟨b',h1,h2,h3,_⟩:=hd.all _ hm;have e:b=b':=by simpa [yS] using h1
  subst e;exact hb.elim h3 h2
 shape:=fun b _=>h.shape b
theorem Fr.shut {ds:List Deferred} (h:Fr w F O μ K w' F' O' bD) (k:acM w' xh ds) (hm:∀ b,yS b∈ds→w.heap.size≤b):Fr w F O μ K xh F' O' bD:=
 { h with os:=k.os.trans h.os,tape:=k.tape.trans h.tape,output:=k.output.trans h.output,size:=by rw [k.size];exact h.size,shape:=fun b hb=>(k.shape b).trans (h.shape b hb),same:=fun b hb hn=>(k.same b fun KL=>by have:=hm b KL;omega).trans (h.same b hb hn) }
theorem Sd {ds:List Deferred} {fn:Func} {tmps:Array Value}:∀ {w:World},wq w F O ds→∃ w',acM w w' ds∧∀ (R:Ending→World→Prop) (u:FrameMode),u≠.run→LeavesIn (Wr none) 0 P fn tmps R [] u w'→LeavesInM (Wr none) 0 P fn tmps R ds u w:=by
 induction ds with
 | nil=>exact fun {w} h=>⟨w,⟨rfl,rfl,rfl,rfl,fun _ _=>rfl,fun _=>rfl⟩,fun R u _ h=>h⟩
 | cons d ds ih=>
  intro w h;obtain ⟨b,rfl,h2,h3,h4⟩:=h.all d (by simp);have AA:=List.nodup_cons.1 h.nd;have dT:b < w.heap.size:=(Array.getElem?_eq_some_iff.1 h4).1;obtain ⟨w',k1,k2⟩:=ih (w:=w.putObj b (.deferred none)) ⟨AA.2,fun d' NN=>by
   obtain ⟨b',m1,m2,m3,m4⟩:=h.all d' (by simp [NN]);refine ⟨b',m1,m2,m3,?_⟩;rw [World.putObj_heap_other (fun e=>AA.1 (by rw [← e,← m1];exact NN))];exact m4⟩
  refine ⟨w',⟨k1.os,k1.tape,k1.output,by rw [k1.size];simp,fun b' cl=>?_,fun b'=>?_⟩,fun R u hu hl=>⟨hu,.inl ⟨b,_,rfl,run_takeDeferred h4,k2 R u hu hl⟩⟩⟩
  ·simp only [List.mem_cons,not_or] at cl;rw [k1.same b' cl.2];exact World.putObj_heap_other fun e=>cl.1 (by rw [e])
  ·rw [k1.shape b'];by_cases e:b'=b
   ·subst e;simp only [World.shape?,h4,World.putObj_heap_same dT]
   ·simp only [World.shape?,World.putObj_heap_other e]
theorem Y6 {c:CT} (h:∀ x,yG _ c.F x=none):aU P c:=fun x o ho=>by rw [h x] at ho;cases ho
theorem aI {E:Env} {bN:Nat→List CT} {A:Ann} {c:CT} {fn:Func} {code:Code} (k:Nat) (hE:∀ j,j≤k→xm E (bN j)) (hI:∀ j,j≤k→aeE E.P (A.it j)) (bE:E.P.follows .mixedOrders=true)
  (Ug:∀ (xs:Array Value) (w:World),(callFunc c.f xs).run E.P w=.ok (.enter c.f xs) w) (hf:E.P.funcs[c.f]?=some fn) (hb:fn.body=some code)
  (h:c.F=Xl _ (afO E bN A c.args c.db c.outs fn.ntmps fn.results.toList code k)) (hm:c.outs.all (fun a=>Nat.ble c.db.length a.db.length)=true):aU E.P c:=by
 intro x o ho as l H h1 h2 v r H' h3 h4;rw [h,xH] at ho;unfold afO at ho;rw [h1] at ho;simp only at ho;rw [h2] at ho;simp only at ho;split at ho
 ·rename_i hg;simp only [Bool.and_eq_true] at hg;obtain ⟨hn,hl1,Q8⟩:=hg;have hn:=Nat.le_of_ble_eq_true hn;have KL:=KI (X:=Unit) c.outs o;have hmm:=Nat.le_of_ble_eq_true (List.all_eq_true.1 hm _ KL);refine ⟨hmm,Ug,fun w F O μ ft s7 Bk hr=>?_⟩;have hs:=Ui hr Bk hn;have o9:bP.ok ⟨fn.ntmps,c.db.length,KV 0 as,H⟩:=by
   have hw:=instL_wf (m:=c.db.length) (N:=c.db.length) (H:=H) (fun j h=>h) h1 hl1;refine ⟨fun t=>?_,fun id l hl=>instBs_wf (m:=c.db.length) (fun j h=>h) h2 Q8 _ (lH hl)⟩;show (look (KV 0 as) t).wf H _;rw [KW];split
   ·exact Cy hw _
   ·simp only [TA.wf]
  have hwp:=aeB hE (fun j hj=>Uj (hI j hj)) bE code c.db.length (fn.ntmps,w.heap.size) none k _ _ ho (.inl rfl) (Nat.le_refl _) o9 (Nat.le_refl _) (Nat.le_refl _) ⟨rfl,fun b hb=>by cases hb⟩ hs;refine (callsIn_wide (n:=0)).1 (callsIn_of_wp_marks (F:=Wr none) (n:=0) hf hb trivial (Code.wpIn_mono ?_ hwp))
  rintro e a' w' ⟨s',F',O',bD,bY,hh,hk⟩
  obtain ⟨w2,sh,hU⟩:=Sd (P:=E.P) (fn:=fn) (tmps:=a'.tmps) hh.sr.df;have kp:Kp w' w2 F' O':=sh.kp hh.sr.df;have afQ:SR w2 F' O' bD (below s'.N) s'.st bY { a' with defers:=[] }:=⟨hh.sr.hr.kp kp,hh.sr.nt,fun t=>(hh.sr.tm t).kp hh.sr.hr kp,wq.nil⟩;have y_:∀ {F2 O2 Gk},Fr w2 F' O' bD (below c.db.length) w2 F2 O2 Gk→Fr w F O μ (below c.db.length) w2 F2 O2 Gk:=fun h=>(hh.fr.shut sh fun b hb=>hh.nt.2 b hb).trans h;have fin:aeD E.P fn.results.toList c.outs c.db.length s'=some o→∃ u,(results fn a'.tmps).run E.P w2=.ok u w2∧∃ v2 F' O' bD bY,Ending.returned u=(cond (oD c.outs o).1.Kx (HK.Kx (v.av H')) (.ret (v.av H'))).is v2∧
    VR w2 F' bD (below (oD c.outs o).1.db.length) (cond (oD c.outs o).1.Kx (HK.Kx (v.av H')) (.ret (v.av H'))).av v2∧HR w2 F' O' bD (below (oD c.outs o).1.db.length) (xk H') bY∧Fr w F O μ (below c.db.length) w2 F' O' bD:=by
   intro ahb;have:=KU ahb;cases e2:(oD c.outs o).1.Kx with
   | true=>rw [e2] at this;cases this
   | false=>
    rw [e2] at this;simp only [afN,adj] at this;obtain ⟨y1,y2,y3,_,ft0,y4⟩:=Jj (z7 s'.H) hh.ok afQ;generalize tg s' (z7 s'.H)=s0 at this y1 y2 y3 y4;rw [← y2] at y4;have hle:c.db.length≤s0.N:=by rw [y2];exact hh.le
    obtain ⟨v1,v2,v3,_,KB,Ww,v4,v5⟩:=Jz (Db c.db.length (oD c.outs o).1.db s0 fn.results.toList (Sc fn.results.toList (oD c.outs o).1.res)) y1 y4;split at this
    ·rename_i l2 Q8;obtain ⟨hw,u,k1,k2⟩:=OD v1 v4 Q8;obtain ⟨va,r2,H2,m1,m2,_,m3⟩:=W4 this v1 (Nat.le_trans hle v2) hw;rw [h3] at m1;cases m1;rw [h4] at m2;cases m2;obtain ⟨F2,O2,Gk,Lt,n1,n2,n3⟩:=m3 v4 k2;exact ⟨u,k1,u,F2,O2,Gk,Lt,rfl,n1,n2,y_ ((v5.OR fun id (bZ:id < c.db.length)=>Nat.lt_of_lt_of_le bZ hle).trans n3)⟩
    ·cases this
  cases e with
  | normal=>exact hU _ _ (by simp) (fin hk)
  | ret=>exact hU _ _ (by simp) (fin hk)
  | panic l=>
   obtain ⟨u,va,rfl,hp,hw,hv⟩:=hk;refine hU _ _ (by simp) ?_;have:=KU hp;cases e2:(oD c.outs o).1.Kx with
   | false=>rw [e2] at this;cases this
   | true=>
    rw [e2] at this;obtain ⟨va,r2,H2,m1,m2,_,m3⟩:=W4 this hh.ok hh.le hw;rw [h3] at m1;cases m1;rw [h4] at m2;cases m2;obtain ⟨F2,O2,Gk,Lt,n1,n2,n3⟩:=m3 afQ (hv.kp hh.sr.hr kp);exact ⟨u,F2,O2,Gk,Lt,rfl,n1,n2,y_ n3⟩
  | exit i=>cases hk
  | goto l=>exact hk.elim
  | outgrown=>exact hk.elim
 ·cases ho
end Go.Proofs.YtjkbbdldmdajkaaGreatDoor.c_
