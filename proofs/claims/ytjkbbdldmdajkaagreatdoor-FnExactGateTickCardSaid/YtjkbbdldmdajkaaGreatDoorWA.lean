/- A function: its entry, its ends; that what it computes is its contract. No condition. -/
import Derived.Test.YtjkbbdldmdajkaaGreatDoorVY
import Derived.RangeFuncRecord
namespace Go.Proofs.YtjkbbdldmdajkaaGreatDoor.c_
open Go Go.RowKit
variable {w w' xk:World} {F F' Bs O O' v8:Nat→Prop} {μ bC lG:Nat→Nat} {K K' EF:Nat→Prop} {ft bZ:Nat→Nat→Prop} {P:Program} {R:Type}
def Uk (P:Program):List ResultVar→bP→Option (List TA)
 | [],_=>some []
 | .tmp t::r,s=>match Uk P r s with
  | some l=>some (look s.tm t::l)
  | none=>none
 | .cell a t::r,s=>match P.underlying t,P.info? t,Uk P r s with
  | some d,some i,some l=>if I3 d then (match rdT s.H (look s.tm a) i.size with
    | some c=>some (.agg c::l)
    | none=>none) else (match rdT s.H (look s.tm a) 1 with
    | some [c]=>some (c::l)
    | _=>none)
  | _,_,_=>none
def V2:List TA→TA
 | [x]=>x
 | l=>.nP l
def KT (tmps:Array Value):ResultVar→Sem Value
 | .tmp t=>pure (tmps.getD t undef)
 | .cell a t=>do loadVar t (← asAddr (tmps.getD a undef))
theorem Se {s:bP} {a:Act} (ho:s.ok) (hs:SR w F O μ K s.st ft a):∀ {rs:List ResultVar} {l:List TA},Uk P rs s=some l→im s.H s.N l∧∃ vs,(rs.mapM (KT a.tmps)).run P w=.ok vs w∧iL w F μ K (dD s.H l) vs
 | [],l,h=>by
  simp only [Uk] at h;cases h;exact ⟨by simp only [im],[],by simp,by simp only [dD];exact .nil⟩
 | .tmp t::r,l,h=>by
  simp only [Uk] at h;split at h
  ·rename_i l' hr;cases h;obtain ⟨hw,vs,h1,h2⟩:=Se ho hs hr;exact ⟨by simp only [im];exact ⟨ho.tm t,hw⟩,_,by simp only [List.mapM_cons,KT,Sem.run_bind,Sem.run_pure,Result.andThen_ok,h1];rfl,by simp only [dD];exact .cons (hs.tm t) h2⟩
  ·cases h
 | .cell c t::r,l,h=>by
  simp only [Uk] at h;split at h
  ·rename_i d i l' hd hi hr;obtain ⟨hw,vs,h1,h2⟩:=Se ho hs hr;split at h
   ·rename_i ha;split at h
    ·rename_i cc hc;cases h;obtain ⟨k1,k2,c',k3,k4⟩:=RJ ho (x:=.tmp c) hc;obtain ⟨b,o,u,hv,hu⟩:=k3 hs;have h3:=EJ (P:=P) (w:=w) hd hi ha b o u fun j hj=>(hu j hj).1;simp only [Instr.loadAt,Instr.sureAddr,Sem.run_bind,Sem.run_pure,Result.andThen_ok] at h3;have hv:a.tmps.getD c undef=.pointer (some ⟨b,o,none⟩):=hv;refine ⟨by simp only [im,TA.wf];exact ⟨k2,hw⟩,_,by simp only [List.mapM_cons,KT,Sem.run_bind,Sem.run_pure,Result.andThen_ok,hv,asAddr,h3,h1];rfl,?_⟩;simp only [dD,TA.av];refine .cons (.rP ?_) h2;rw [← CA k1 k4];exact Ax fun j hj=>(hu j hj).2
    ·cases h
   ·rename_i ha;split at h
    ·rename_i cc hc;cases h;obtain ⟨k1,k2,c',k3,k4⟩:=RJ ho (x:=.tmp c) hc;obtain ⟨b,o,u,hv,hu⟩:=k3 hs;have h3:=EK (P:=P) (w:=w) hd (by simpa using ha) b o (u 0) (hu 0 (by omega)).1;simp only [Instr.loadAt,Instr.sureAddr,Sem.run_bind,Sem.run_pure,Result.andThen_ok] at h3;have hv:a.tmps.getD c undef=.pointer (some ⟨b,o,none⟩):=hv;simp only [im] at k2;refine ⟨by simp only [im];exact ⟨k2.1,hw⟩,_,by simp only [List.mapM_cons,KT,Sem.run_bind,Sem.run_pure,Result.andThen_ok,hv,asAddr,h3,h1];rfl,?_⟩;simp only [dD];refine .cons ?_ h2;have:=(hu 0 (by omega)).2;rw [k4 0 (by omega)] at this;exact this
    ·cases h
  ·cases h
theorem OF {fn:Func} {s:bP} {a:Act} (ho:s.ok) (hs:SR w F O μ K s.st ft a) {l:List TA} (h:Uk P fn.results.toList s=some l):
  (V2 l).wf s.H s.N∧∃ v,(results fn a.tmps).run P w=.ok v w∧VR w F μ K ((V2 l).av s.H) v:=by
 obtain ⟨hw,vs,h1,h2⟩:=Se ho hs h;have h3:(fn.results.mapM (KT a.tmps)).run P w=.ok ⟨vs⟩ w:=by
  rw [Array.mapM_eq_mapM_toList];simp only [Sem.run_map];rw [h1];rfl
 refine ⟨?_,_,by
  show (do let vs ← fn.results.mapM (KT a.tmps);pure (if h:vs.size=1 then vs[0] else .tuple vs):Sem Value).run P w=_;simp only [Sem.run_bind];rw [h3];rfl,?_⟩
 ·match l,hw with
  | [],hw=>simp only [V2,TA.wf,im]
  | [x],hw=>simp only [im] at hw;exact hw.1
  | x::y::l,hw=>simp only [V2,TA.wf];exact hw
 ·match l,vs,h2 with
  | [],vs,h2=>
   simp only [dD] at h2;rw [h2.iK];simp only [V2,TA.av,dD];exact .Ls .nil
  | [x],vs,h2=>
   simp only [dD] at h2;obtain ⟨v,r,rfl,k1,k2⟩:=h2.cons_inv;rw [k2.iK];exact k1
  | x::y::l,vs,h2=>
   have:vs.length≠1:=by rw [← h2.1,bB];simp
   simp only [V2,TA.av];rw [dif_neg (by simpa using this)];exact .Ls h2
def aeG (s:bP) (m0:Nat) (a:Alt) (v:TA):Option (List cN):=
 match ext s.H a.res v (OT m0) with
 | some (e1,d1)=>match EX s.H a.dc 0 e1 with
  | some (e2,d2)=>match e2.EY a.dc.length s.N&&(a.res.lt a.dc.length&&a.dc.all (Bp.lt a.dc.length)) with
   | true=>some (d1++d2)
   | false=>none
  | none=>none
 | none=>none
theorem acN {s:bP} {m0:Nat} {a:Alt} {v:TA} {ds:List cN} (h:aeG s m0 a v=some ds):∃ va r H',instP id a.res ds=some (va,r)∧instBs id a.dc 0 r=some (H',[])∧m0≤a.dc.length∧
  ∀ {w F O μ ft act u},SR w F O μ (below s.N) s.st ft act→VR w F μ (below s.N) (v.av s.H) u→∃ F' O' bC bZ,VR w F' bC (below a.dc.length) (va.av H') u∧HR w F' O' bC (below a.dc.length) (xn H') bZ∧Fr w F O μ (below m0) w F' O' bC:=by
 unfold aeG at h;split at h
 ·rename_i e1 d1 h1;split at h
  ·rename_i e2 d2 h2;split at h
   ·rename_i hc;simp only [Bool.and_eq_true] at hc;cases h;obtain ⟨hg,hl1,Rb⟩:=hc;obtain ⟨bl,bi,ba,bq⟩:=wb (H':=[]) (ρ:=id) h2;obtain ⟨q,q1,_⟩:=bq [];rw [List.append_nil] at q1;obtain ⟨bl,bi,ba,bq⟩:=wb (H':=q) (ρ:=id) h2;obtain ⟨q',q1',q2⟩:=bq [];rw [List.append_nil,q1] at q1';cases q1';obtain ⟨xl,xi,xb⟩:=VF (H':=q) (ρ:=id) h1;obtain ⟨va,a1,a2⟩:=xb d2;have inj:=bi (xi (WO m0));have pins:∀ j,j < m0→ef e2.uP j=some j:=fun j hj=>(xl.trans bl).uP j j (WN hj);have hm:m0≤a.dc.length:=by
     rcases Nat.lt_or_ge a.dc.length m0 with h | h
     ·have h3:=pins a.dc.length h;simp only [Xs.EY,Bool.and_eq_true] at hg;have h0:=List.all_eq_true.1 hg.1 _ (na h3);simp only [Bool.and_eq_true] at h0;have:=Nat.le_of_ble_eq_true h0.1;omega
     ·exact h
    refine ⟨va,d2,q,a1,q1,hm,fun {w F O μ ft act u} hs hv=>?_⟩;have hH:∀ p,p∈q→Od s.H q e2 id p:=fun p hp=>(q2 p hp).1;have oy:∀ j,j < a.dc.length→∃ b9,ef e2.uP j=some b9∧b9 < s.N:=fun j hj=>by
     obtain ⟨b9,h3⟩:=ba j hj;rw [Nat.zero_add] at h3;simp only [Xs.EY,Bool.and_eq_true] at hg;have h0:=List.all_eq_true.1 hg.1 _ (na h3);simp only [Bool.and_eq_true] at h0;exact ⟨b9,h3,Nat.le_of_ble_eq_true h0.2⟩
    obtain ⟨DP,sub⟩:=TV (m:=a.dc.length) hs hg inj hH (fun p hp=>by
     obtain ⟨i,hi,e⟩:=(q2 p hp).2;rw [e];simpa using hi) oy
    have rd:=Jo (m:=a.dc.length) (H':=q) hs hg hH inj;refine ⟨_,_,_,_,a2 (rd.of bl) hv,DP,?_⟩;refine { os:=rfl,tape:=rfl,output:=rfl,size:=Nat.le_refl _,mu:=fun j hj=>?_,Aw:=fun b h=>.inl h,shape:=fun _ _=>rfl,same:=fun _ _ _=>rfl,EE:=fun x hx=>.inl (sub x hx),HK:=?_ }
    ·simp only [muX,pins j hj,Option.getD_some]
    ·rintro b (h | ⟨Cv,k1,k2,k3⟩)
     ·exact .inl h
     ·exact .inr (.inr (hs.hr.own Cv k2 b k3))
   ·cases h
  ·cases h
 ·cases h
def acO (s:bP) (m0:Nat) (a:Alt) (v:TA):Option (List cN):=aeG (BD s (Oy m0 a.dc s m0)) m0 a v
theorem W7 {s:bP} {m0:Nat} {a:Alt} {v:TA} {ds:List cN} (h:acO s m0 a v=some ds) (ho:s.ok) (hm:m0≤s.N) (hv:v.wf s.H s.N):∃ va r H',instP id a.res ds=some (va,r)∧instBs id a.dc 0 r=some (H',[])∧m0≤a.dc.length∧
  ∀ {w F O μ ft act u},SR w F O μ (below s.N) s.st ft act→VR w F μ (below s.N) (v.av s.H) u→∃ F' O' bC bZ,VR w F' bC (below a.dc.length) (va.av H') u∧HR w F' O' bC (below a.dc.length) (xn H') bZ∧Fr w F O μ (below m0) w F' O' bC:=by
 obtain ⟨va,r,H',h1,h2,h3,h4⟩:=acN h;refine ⟨va,r,H',h1,h2,h3,fun {w F O μ ft act u} hs hu=>?_⟩;obtain ⟨v1,v2,v3,v6,KC,Wz,v4,v5⟩:=JA (Oy m0 a.dc s m0) ho hs;have hu':VR w F KC (below (BD s (Oy m0 a.dc s m0)).N) (v.av (BD s (Oy m0 a.dc s m0)).H) u:=by
  rw [(jR v6 (Nat.le_refl _) v hv).1];exact hu.step hs.hr v5 fun id (bY:id < s.N)=>Nat.lt_of_lt_of_le bY v2
 obtain ⟨F',O',bC,bZ,k1,k2,k3⟩:=h4 v4 hu';exact ⟨F',O',bC,bZ,k1,k2,(v5.OT fun id (bY:id < m0)=>(show id < s.N by omega)).trans k3⟩
def KU:(l:List Alt)→(Alt→Option (List cN))→Option (KH l)
 | [],_=>none
 | [a],f=>match f a with
  | some ds=>Qm a.eR ds
  | none=>none
 | a::b::r,f=>match f a with
  | some ds=>match Qm a.eR ds with
   | some x=>some (.inl x)
   | none=>none
  | none=>match KU (b::r) f with
   | some x=>some (.inr x)
   | none=>none
theorem KV:∀ {l:List Alt} {f:Alt→Option (List cN)} {o:KH l},KU l f=some o→f (oE l o).1=some (oE l o).2
 | [],f,o,h=>by cases h
 | [a],f,o,h=>by
  simp only [KU] at h;split at h
  ·rename_i ds tt;show f a=some (VH a.eR o);rw [tt,HZ h]
  ·cases h
 | a::b::r,f,o,h=>by
  simp only [KU] at h;split at h
  ·rename_i ds tt;split at h
   ·rename_i x hx;cases h;show f a=some (VH a.eR x);rw [tt,HZ hx]
   ·cases h
  ·split at h
   ·rename_i x hx;cases h;exact KV (l:=b::r) hx
   ·cases h
def ahe (outs:List Alt) (m0:Nat) (Ky:Bool) (v:TA) (s:bP):Option (KH outs):=KU outs fun a=>match Ky,a.Ky with
 | true,true=>acO s m0 a v
 | false,false=>acO s m0 a v
 | _,_=>none
def Dg (m0:Nat) (dc:List Bp) (s:bP):List ResultVar→List vm→List Place
 | .tmp t::rs,.ow j::ps=>match look s.tm t with
  | .fB=>match dc[j]? with
   | some (.row ty v)=>.tm t ty v::Dg m0 dc s rs ps
   | _=>Dg m0 dc s rs ps
  | _=>Dg m0 dc s rs ps
 | .cell a _::rs,p::ps=>match look s.tm a with
  | .bp id 0=>match aT s.H id with
   | some (.box l)=>match p with
    | .agg qs=>y_ m0 dc id 0 qs l++Dg m0 dc s rs ps
    | .d t=>y_ m0 dc id 0 (l.map fun _=>.d t) l++Dg m0 dc s rs ps
    | p=>y_ m0 dc id 0 [p] l++Dg m0 dc s rs ps
   | _=>Dg m0 dc s rs ps
  | _=>Dg m0 dc s rs ps
 | _::rs,_::ps=>Dg m0 dc s rs ps
 | _,_=>[]
def Sf (rs:List ResultVar) (p:vm):List vm:=match rs with
 | [_]=>[p]
 | _=>match p with
  | .nP ps=>ps
  | _=>[]
def adm (P:Program) (rs:List ResultVar) (s:bP) (m0:Nat) (a:Alt):Option (List cN):=match Uk P rs (BD s (Dg m0 a.dc s rs (Sf rs a.res))) with
 | some l=>acO (BD s (Dg m0 a.dc s rs (Sf rs a.res))) m0 a (V2 l)
 | none=>none
def afR (P:Program) (rs:List ResultVar) (s:bP) (m0:Nat) (a:Alt):Option (List cN):=adm P rs (th s (Aa s.H)) m0 a
def aeH (P:Program) (rs:List ResultVar) (outs:List Alt) (m0:Nat) (s:bP):Option (KH outs):=KU outs fun a=>match a.Ky with
 | true=>none
 | false=>afR P rs s m0 a
def KW:Nat→List TA→List (Nat×TA)
 | _,[]=>[]
 | i,a::r=>(i,a)::KW (i+1) r
def afS (E:Env) (bN:Nat→List CT) (A:Ann) (args:List vm) (dc:List Bp) (outs:List Alt) (nt:Nat) (rs:List ResultVar) (code:Code) (k:Nat) (x:zj (CE args++RY dc)):Option (KH outs):=
 match instL id args (fq _ x) with
 | some (as,l)=>match instBs id dc 0 l with
  | some (H,[])=>match Nat.ble as.length nt&&(Y3 dc.length args&&dc.all (Bp.lt dc.length)) with
   | true=>den E bN A dc.length code k ⟨nt,dc.length,KW 0 as,H⟩ ⟨aeH E.P rs outs dc.length,fun _ _=>none,aeH E.P rs outs dc.length,ahe outs dc.length true⟩
   | false=>none
  | _=>none
 | none=>none
theorem KX (args:List TA) (i t:Nat):look (KW i args) t=if i≤t then args.getD (t-i) .top else .top:=by
 induction args generalizing i with
 | nil=>simp [KW,look]
 | cons x r ih=>
  simp only [KW,look];cases h:Nat.beq t i with
  | true=>
   have h:=Nat.eq_of_beq_eq_true h;subst h;simp
  | false=>
   have h:=Nat.ne_of_beq_eq_false h;rw [ih];by_cases h2:i+1≤t
   ·rw [if_pos h2,if_pos (by omega),show t-i=(t-(i+1))+1 by omega];simp
   ·rw [if_neg h2,if_neg (by omega)]
theorem Ul {nt N:Nat} {args:List TA} {H:List (Nat×aY)} {vs:List Value} (hr:HR w F O μ (below N) (xn H) ft) (hv:iL w F μ (below N) (dD H args) vs) (hn:args.length≤nt):
  SR w F O μ (below N) (bP.st ⟨nt,N,KW 0 args,H⟩) ft { tmps:=⟨vs⟩++Array.replicate (nt-(⟨vs⟩:Array Value).size) undef,defers:=[] } where
 hr:=hr
 nt:=by have:=hv.1;rw [bB] at this;simp [bP.st];omega
 tm:=fun t=>by
  show VR w F μ (below N) ((look (KW 0 args) t).av H) _;rw [KX];simp only [Nat.zero_le,if_true,Nat.sub_zero];by_cases h:t < args.length
  ·have h':t < vs.length:=by have:=hv.1;rw [bB] at this;omega
   have:=hv.2 t (by rw [bB];exact h);rw [dx _ _ _ h] at this;have e:(({ toList:=vs }:Array Value)++Array.replicate (nt-({ toList:=vs }:Array Value).size) undef).getD t undef=vs.getD t undef:=by
    simp [List.getD,Array.getElem?_append,h']
   rw [e];exact this
  ·have:args.getD t .top=.top:=by simp [List.getD,List.getElem?_eq_none (Nat.le_of_not_lt h)]
   rw [this];simp only [TA.av];exact .top _
 df:=wx.nil
def afT (P:Program):List CT→Prop
 | []=>True
 | c::r=>aU P c∧afT P r
def aeI (P:Program):List IT→Prop
 | []=>True
 | c::r=>JY P c∧aeI P r
theorem Um:∀ {l:List IT},aeI P l→∀ c,c∈l→JY P c
 | [],_,c,hc=>by cases hc
 | d::r,h,c,hc=>by
  rcases List.mem_cons.1 hc with e | e
  ·rw [e];exact h.1
  ·exact Um h.2 c e
def aS:Nat→List IT:=fun _=>[]
def aeJ (P:Program):List (TypeId×String×FuncId)→Prop
 | []=>True
 | (t,n,f)::r=>gK P t n f∧aeJ P r
theorem aQ {E:Env} {bN:List CT} (hc:afT E.P bN) (hm:aeJ E.P E.mt):xo E bN where
 con:=fun c hcm=>by
  induction bN with
  | nil=>cases hcm
  | cons d r ih=>
   rcases List.mem_cons.1 hcm with h | h
   ·rw [h];exact hc.1
   ·exact ih hc.2 h
 afA:=fun t n f hmm=>by
  have key:∀ l:List (TypeId×String×FuncId),aeJ E.P l→(t,n,f)∈l→gK E.P t n f:=by
   intro l
   induction l with
   | nil=>intro _ h;cases h
   | cons d r ih=>
    obtain ⟨t',n',f'⟩:=d;intro h1 h2;rcases List.mem_cons.1 h2 with h | h
    ·cases h;exact h1.1
    ·exact ih h1.2 h
  exact key _ hm hmm
structure acP (w w':World) (ds:List Deferred):Prop where
 os:w'.os=w.os
 tape:w'.tape=w.tape
 output:w'.output=w.output
 size:w'.heap.size=w.heap.size
 same:∀ b,yV b ∉ ds→w'.heap[b]?=w.heap[b]?
 shape:∀ b,w'.shape? b=w.shape? b
theorem acP.kp {ds:List Deferred} (h:acP w w' ds) (hd:wx w F O ds):Kp w w' F O where
 os:=h.os
 tape:=h.tape
 output:=h.output
 size:=Nat.le_of_eq h.size.symm
 LX:=fun b hb=>h.same b fun hm=>by
  obtain ⟨b',h1,h2,h3,_⟩:=hd.all _ hm;have e:b=b':=by simpa [yV] using h1
  subst e;exact hb.elim h3 h2
 shape:=fun b _=>h.shape b
theorem Fr.shut {ds:List Deferred} (h:Fr w F O μ K w' F' O' bC) (k:acP w' xk ds) (hm:∀ b,yV b∈ds→w.heap.size≤b):Fr w F O μ K xk F' O' bC:=
 { h with os:=k.os.trans h.os,tape:=k.tape.trans h.tape,output:=k.output.trans h.output,size:=by rw [k.size];exact h.size,shape:=fun b hb=>(k.shape b).trans (h.shape b hb),same:=fun b hb hn=>(k.same b fun KM=>by have:=hm b KM;omega).trans (h.same b hb hn) }
theorem Sg {ds:List Deferred} {fn:Func} {tmps:Array Value}:∀ {w:World},wx w F O ds→∃ w',acP w w' ds∧∀ (R:Ending→World→Prop) (u:FrameMode),u≠.run→LeavesIn (Wr none) 0 P fn tmps R [] u w'→LeavesInM (Wr none) 0 P fn tmps R ds u w:=by
 induction ds with
 | nil=>exact fun {w} h=>⟨w,⟨rfl,rfl,rfl,rfl,fun _ _=>rfl,fun _=>rfl⟩,fun R u _ h=>h⟩
 | cons d ds ih=>
  intro w h;obtain ⟨b,rfl,h2,h3,h4⟩:=h.all d (by simp);have AF:=List.nodup_cons.1 h.nd;have dQ:b < w.heap.size:=(Array.getElem?_eq_some_iff.1 h4).1;obtain ⟨w',k1,k2⟩:=ih (w:=w.putObj b (.deferred none)) ⟨AF.2,fun d' NO=>by
   obtain ⟨b',m1,m2,m3,m4⟩:=h.all d' (by simp [NO]);refine ⟨b',m1,m2,m3,?_⟩;rw [World.putObj_heap_other (fun e=>AF.1 (by rw [← e,← m1];exact NO))];exact m4⟩
  refine ⟨w',⟨k1.os,k1.tape,k1.output,by rw [k1.size];simp,fun b' cl=>?_,fun b'=>?_⟩,fun R u hu hl=>⟨hu,.inl ⟨b,_,rfl,run_takeDeferred h4,k2 R u hu hl⟩⟩⟩
  ·simp only [List.mem_cons,not_or] at cl;rw [k1.same b' cl.2];exact World.putObj_heap_other fun e=>cl.1 (by rw [e])
  ·rw [k1.shape b'];by_cases e:b'=b
   ·subst e;simp only [World.shape?,h4,World.putObj_heap_same dQ]
   ·simp only [World.shape?,World.putObj_heap_other e]
theorem Y_ {c:CT} (h:∀ x,yJ _ c.F x=none):aU P c:=fun x o ho=>by rw [h x] at ho;cases ho
theorem aI {E:Env} {bN:Nat→List CT} {A:Ann} {c:CT} {fn:Func} {code:Code} (k:Nat) (hE:∀ j,j≤k→xo E (bN j)) (hI:∀ j,j≤k→aeI E.P (A.it j)) (bF:E.P.follows .mixedOrders=true)
  (Uj:∀ (xs:Array Value) (w:World),(callFunc c.f xs).run E.P w=.ok (.enter c.f xs) w) (hf:E.P.funcs[c.f]?=some fn) (hb:fn.body=some code)
  (h:c.F=Xo _ (afS E bN A c.args c.dc c.outs fn.ntmps fn.results.toList code k)) (hm:c.outs.all (fun a=>Nat.ble c.dc.length a.dc.length)=true):aU E.P c:=by
 intro x o ho as l H h1 h2 v r H' h3 h4;rw [h,xI] at ho;unfold afS at ho;rw [h1] at ho;simp only at ho;rw [h2] at ho;simp only at ho;split at ho
 ·rename_i hg;simp only [Bool.and_eq_true] at hg;obtain ⟨hn,hl1,Rb⟩:=hg;have hn:=Nat.le_of_ble_eq_true hn;have KM:=KJ (X:=Unit) c.outs o;have hmm:=Nat.le_of_ble_eq_true (List.all_eq_true.1 hm _ KM);refine ⟨hmm,Uj,fun w F O μ ft s8 Bo hr=>?_⟩;have hs:=Ul hr Bo hn;have o_:bP.ok ⟨fn.ntmps,c.dc.length,KW 0 as,H⟩:=by
   have hw:=instL_wf (m:=c.dc.length) (N:=c.dc.length) (H:=H) (fun j h=>h) h1 hl1;refine ⟨fun t=>?_,fun id l hl=>instBs_wf (m:=c.dc.length) (fun j h=>h) h2 Rb _ (lI hl)⟩;show (look (KW 0 as) t).wf H _;rw [KX];split
   ·exact Cz hw _
   ·simp only [TA.wf]
  have hwp:=aeF hE (fun j hj=>Um (hI j hj)) bF code c.dc.length (fn.ntmps,w.heap.size) none k _ _ ho (.inl rfl) (Nat.le_refl _) o_ (Nat.le_refl _) (Nat.le_refl _) ⟨rfl,fun b hb=>by cases hb⟩ hs;refine (callsIn_wide (n:=0)).1 (callsIn_of_wp_marks (F:=Wr none) (n:=0) hf hb trivial (Code.wpIn_mono ?_ hwp))
  rintro e a' w' ⟨s',F',O',bC,bZ,hh,hk⟩
  obtain ⟨w2,sh,gQ⟩:=Sg (P:=E.P) (fn:=fn) (tmps:=a'.tmps) hh.sr.df;have kp:Kp w' w2 F' O':=sh.kp hh.sr.df;have afU:SR w2 F' O' bC (below s'.N) s'.st bZ { a' with defers:=[] }:=⟨hh.sr.hr.kp kp,hh.sr.nt,fun t=>(hh.sr.tm t).kp hh.sr.hr kp,wx.nil⟩;have ze:∀ {F2 O2 Gq},Fr w2 F' O' bC (below c.dc.length) w2 F2 O2 Gq→Fr w F O μ (below c.dc.length) w2 F2 O2 Gq:=fun h=>(hh.fr.shut sh fun b hb=>hh.nt.2 b hb).trans h;have fin:aeH E.P fn.results.toList c.outs c.dc.length s'=some o→∃ u,(results fn a'.tmps).run E.P w2=.ok u w2∧∃ v2 F' O' bC bZ,Ending.returned u=(cond (oE c.outs o).1.Ky (HO.Ky (v.av H')) (.ret (v.av H'))).is v2∧
    VR w2 F' bC (below (oE c.outs o).1.dc.length) (cond (oE c.outs o).1.Ky (HO.Ky (v.av H')) (.ret (v.av H'))).av v2∧HR w2 F' O' bC (below (oE c.outs o).1.dc.length) (xn H') bZ∧Fr w F O μ (below c.dc.length) w2 F' O' bC:=by
   intro ahf;have:=KV ahf;cases e2:(oE c.outs o).1.Ky with
   | true=>rw [e2] at this;cases this
   | false=>
    rw [e2] at this;simp only [afR,adm] at this;obtain ⟨y1,y2,y3,_,ft0,y4⟩:=Jl (Aa s'.H) hh.ok afU;generalize th s' (Aa s'.H)=s0 at this y1 y2 y3 y4;rw [← y2] at y4;have hle:c.dc.length≤s0.N:=by rw [y2];exact hh.le
    obtain ⟨v1,v2,v3,_,KC,Wz,v4,v5⟩:=JA (Dg c.dc.length (oE c.outs o).1.dc s0 fn.results.toList (Sf fn.results.toList (oE c.outs o).1.res)) y1 y4;split at this
    ·rename_i l2 Rb;obtain ⟨hw,u,k1,k2⟩:=OF v1 v4 Rb;obtain ⟨va,r2,H2,m1,m2,_,m3⟩:=W7 this v1 (Nat.le_trans hle v2) hw;rw [h3] at m1;cases m1;rw [h4] at m2;cases m2;obtain ⟨F2,O2,Gq,Lu,n1,n2,n3⟩:=m3 v4 k2;exact ⟨u,k1,u,F2,O2,Gq,Lu,rfl,n1,n2,ze ((v5.OT fun id (bY:id < c.dc.length)=>Nat.lt_of_lt_of_le bY hle).trans n3)⟩
    ·cases this
  cases e with
  | normal=>exact gQ _ _ (by simp) (fin hk)
  | ret=>exact gQ _ _ (by simp) (fin hk)
  | panic l=>
   obtain ⟨u,va,rfl,hp,hw,hv⟩:=hk;refine gQ _ _ (by simp) ?_;have:=KV hp;cases e2:(oE c.outs o).1.Ky with
   | false=>rw [e2] at this;cases this
   | true=>
    rw [e2] at this;obtain ⟨va,r2,H2,m1,m2,_,m3⟩:=W7 this hh.ok hh.le hw;rw [h3] at m1;cases m1;rw [h4] at m2;cases m2;obtain ⟨F2,O2,Gq,Lu,n1,n2,n3⟩:=m3 afU (hv.kp hh.sr.hr kp);exact ⟨u,F2,O2,Gq,Lu,rfl,n1,n2,ze n3⟩
  | exit i=>cases hk
  | goto l=>exact hk.elim
  | outgrown=>exact hk.elim
 ·cases ho
end Go.Proofs.YtjkbbdldmdajkaaGreatDoor.c_
