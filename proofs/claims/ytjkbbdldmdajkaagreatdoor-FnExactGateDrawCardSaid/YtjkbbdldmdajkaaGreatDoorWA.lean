/- A function: its entry, its ends; that what it computes is its contract. No condition. -/
import Derived.Test.YtjkbbdldmdajkaaGreatDoorVY
import Derived.RangeFuncRecord
namespace Go.Proofs.YtjkbbdldmdajkaaGreatDoor.c5
open Go Go.RowKit
variable {w w' ss:World} {F F' zT O O' uo:Nat→Prop} {μ aZ jE:Nat→Nat} {K K' C9:Nat→Prop} {ft bX:Nat→Nat→Prop} {P:Program} {R:Type}
def TM (P:Program):List ResultVar→bL→Option (List TA)
 | [],_=>some []
 | .tmp t::r,s=>match TM P r s with
  | some l=>some (look s.tm t::l)
  | none=>none
 | .cell a t::r,s=>match P.underlying t,P.info? t,TM P r s with
  | some d,some i,some l=>if Iv d then (match rdT s.H (look s.tm a) i.size with
    | some c=>some (.agg c::l)
    | none=>none) else (match rdT s.H (look s.tm a) 1 with
    | some [c]=>some (c::l)
    | _=>none)
  | _,_,_=>none
def Vz:List TA→TA
 | [x]=>x
 | l=>.ov l
def Kj (tmps:Array Value):ResultVar→Sem Value
 | .tmp t=>pure (tmps.getD t undef)
 | .cell a t=>do loadVar t (← asAddr (tmps.getD a undef))
theorem RD {s:bL} {a:Act} (ho:s.ok) (hs:SR w F O μ K s.st ft a):∀ {rs:List ResultVar} {l:List TA},TM P rs s=some l→hU s.H s.N l∧∃ vs,(rs.mapM (Kj a.tmps)).run P w=.ok vs w∧gZ w F μ K (di s.H l) vs
 | [],l,h=>by
  simp only [TM] at h;cases h;exact ⟨by simp only [hU],[],by simp,by simp only [di];exact .nil⟩
 | .tmp t::r,l,h=>by
  simp only [TM] at h;split at h
  ·rename_i l' hr;cases h;obtain ⟨hw,vs,h1,h2⟩:=RD ho hs hr;exact ⟨by simp only [hU];exact ⟨ho.tm t,hw⟩,_,by simp only [List.mapM_cons,Kj,Sem.run_bind,Sem.run_pure,Result.andThen_ok,h1];rfl,by simp only [di];exact .cons (hs.tm t) h2⟩
  ·cases h
 | .cell c t::r,l,h=>by
  simp only [TM] at h;split at h
  ·rename_i d i l' hd hi hr;obtain ⟨hw,vs,h1,h2⟩:=RD ho hs hr;split at h
   ·rename_i ha;split at h
    ·rename_i cc hc;cases h;obtain ⟨k1,k2,c',k3,k4⟩:=Q9 ho (x:=.tmp c) hc;obtain ⟨b,o,u,hv,hu⟩:=k3 hs;have h3:=D6 (P:=P) (w:=w) hd hi ha b o u fun j hj=>(hu j hj).1;simp only [Instr.loadAt,Instr.sureAddr,Sem.run_bind,Sem.run_pure,Result.andThen_ok] at h3;have hv:a.tmps.getD c undef=.pointer (some ⟨b,o,none⟩):=hv;refine ⟨by simp only [hU,TA.wf];exact ⟨k2,hw⟩,_,by simp only [List.mapM_cons,Kj,Sem.run_bind,Sem.run_pure,Result.andThen_ok,hv,asAddr,h3,h1];rfl,?_⟩;simp only [di,TA.av];refine .cons (.qO ?_) h2;rw [← BU k1 k4];exact zL fun j hj=>(hu j hj).2
    ·cases h
   ·rename_i ha;split at h
    ·rename_i cc hc;cases h;obtain ⟨k1,k2,c',k3,k4⟩:=Q9 ho (x:=.tmp c) hc;obtain ⟨b,o,u,hv,hu⟩:=k3 hs;have h3:=D7 (P:=P) (w:=w) hd (by simpa using ha) b o (u 0) (hu 0 (by omega)).1;simp only [Instr.loadAt,Instr.sureAddr,Sem.run_bind,Sem.run_pure,Result.andThen_ok] at h3;have hv:a.tmps.getD c undef=.pointer (some ⟨b,o,none⟩):=hv;simp only [hU] at k2;refine ⟨by simp only [hU];exact ⟨k2.1,hw⟩,_,by simp only [List.mapM_cons,Kj,Sem.run_bind,Sem.run_pure,Result.andThen_ok,hv,asAddr,h3,h1];rfl,?_⟩;simp only [di];refine .cons ?_ h2;have:=(hu 0 (by omega)).2;rw [k4 0 (by omega)] at this;exact this
    ·cases h
  ·cases h
theorem N5 {fn:Func} {s:bL} {a:Act} (ho:s.ok) (hs:SR w F O μ K s.st ft a) {l:List TA} (h:TM P fn.results.toList s=some l):
  (Vz l).wf s.H s.N∧∃ v,(results fn a.tmps).run P w=.ok v w∧VR w F μ K ((Vz l).av s.H) v:=by
 obtain ⟨hw,vs,h1,h2⟩:=RD ho hs h;have h3:(fn.results.mapM (Kj a.tmps)).run P w=.ok ⟨vs⟩ w:=by
  rw [Array.mapM_eq_mapM_toList];simp only [Sem.run_map];rw [h1];rfl
 refine ⟨?_,_,by
  show (do let vs ← fn.results.mapM (Kj a.tmps);pure (if h:vs.size=1 then vs[0] else .tuple vs):Sem Value).run P w=_;simp only [Sem.run_bind];rw [h3];rfl,?_⟩
 ·match l,hw with
  | [],hw=>simp only [Vz,TA.wf,hU]
  | [x],hw=>simp only [hU] at hw;exact hw.1
  | x::y::l,hw=>simp only [Vz,TA.wf];exact hw
 ·match l,vs,h2 with
  | [],vs,h2=>
   simp only [di] at h2;rw [h2.gY];simp only [Vz,TA.av,di];exact .KR .nil
  | [x],vs,h2=>
   simp only [di] at h2;obtain ⟨v,r,rfl,k1,k2⟩:=h2.cons_inv;rw [k2.gY];exact k1
  | x::y::l,vs,h2=>
   have:vs.length≠1:=by rw [← h2.1,bC];simp
   simp only [Vz,TA.av];rw [dif_neg (by simpa using this)];exact .KR h2
def aen (s:bL) (m0:Nat) (a:Alt) (v:TA):Option (List cG):=
 match ext s.H a.res v (LH m0) with
 | some (e1,d1)=>match Ei s.H a.cE 0 e1 with
  | some (e2,d2)=>match e2.vq a.cE.length s.N&&(a.res.lt a.cE.length&&a.cE.all (Bp.lt a.cE.length)) with
   | true=>some (d1++d2)
   | false=>none
  | none=>none
 | none=>none
theorem ach {s:bL} {m0:Nat} {a:Alt} {v:TA} {ds:List cG} (h:aen s m0 a v=some ds):∃ va r H',instP id a.res ds=some (va,r)∧instBs id a.cE 0 r=some (H',[])∧m0≤a.cE.length∧
  ∀ {w F O μ ft act u},SR w F O μ (below s.N) s.st ft act→VR w F μ (below s.N) (v.av s.H) u→∃ F' O' aZ bX,VR w F' aZ (below a.cE.length) (va.av H') u∧HR w F' O' aZ (below a.cE.length) (sx H') bX∧Fr w F O μ (below m0) w F' O' aZ:=by
 unfold aen at h;split at h
 ·rename_i e1 d1 h1;split at h
  ·rename_i e2 d2 h2;split at h
   ·rename_i hc;simp only [Bool.and_eq_true] at hc;cases h;obtain ⟨hg,hl1,Ok⟩:=hc;obtain ⟨bl,bi,ba,bq⟩:=vf (H':=[]) (ρ:=id) h2;obtain ⟨q,q1,_⟩:=bq [];rw [List.append_nil] at q1;obtain ⟨bl,bi,ba,bq⟩:=vf (H':=q) (ρ:=id) h2;obtain ⟨q',q1',q2⟩:=bq [];rw [List.append_nil,q1] at q1';cases q1';obtain ⟨xl,xi,xb⟩:=Vc (H':=q) (ρ:=id) h1;obtain ⟨va,a1,a2⟩:=xb d2;have inj:=bi (xi (Wt m0));have pins:∀ j,j < m0→dU e2.tK j=some j:=fun j hj=>(xl.trans bl).tK j j (Ws hj);have hm:m0≤a.cE.length:=by
     rcases Nat.lt_or_ge a.cE.length m0 with h | h
     ·have h3:=pins a.cE.length h;simp only [Xs.vq,Bool.and_eq_true] at hg;have h0:=List.all_eq_true.1 hg.1 _ (mv h3);simp only [Bool.and_eq_true] at h0;have:=Nat.le_of_ble_eq_true h0.1;omega
     ·exact h
    refine ⟨va,d2,q,a1,q1,hm,fun {w F O μ ft act u} hs hv=>?_⟩;have hH:∀ p,p∈q→NF s.H q e2 id p:=fun p hp=>(q2 p hp).1;have nG:∀ j,j < a.cE.length→∃ b9,dU e2.tK j=some b9∧b9 < s.N:=fun j hj=>by
     obtain ⟨b9,h3⟩:=ba j hj;rw [Nat.zero_add] at h3;simp only [Xs.vq,Bool.and_eq_true] at hg;have h0:=List.all_eq_true.1 hg.1 _ (mv h3);simp only [Bool.and_eq_true] at h0;exact ⟨b9,h3,Nat.le_of_ble_eq_true h0.2⟩
    obtain ⟨C_,sub⟩:=Tn (m:=a.cE.length) hs hg inj hH (fun p hp=>by
     obtain ⟨i,hi,e⟩:=(q2 p hp).2;rw [e];simpa using hi) nG
    have rd:=IP (m:=a.cE.length) (H':=q) hs hg hH inj;refine ⟨_,_,_,_,a2 (rd.of bl) hv,C_,?_⟩;refine { os:=rfl,tape:=rfl,output:=rfl,size:=Nat.le_refl _,mu:=fun j hj=>?_,zK:=fun b h=>.inl h,shape:=fun _ _=>rfl,same:=fun _ _ _=>rfl,D0:=fun x hx=>.inl (sub x hx),G6:=?_ }
    ·simp only [muX,pins j hj,Option.getD_some]
    ·rintro b (h | ⟨BP,k1,k2,k3⟩)
     ·exact .inl h
     ·exact .inr (.inr (hs.hr.own BP k2 b k3))
   ·cases h
  ·cases h
 ·cases h
def aci (s:bL) (m0:Nat) (a:Alt) (v:TA):Option (List cG):=aen (AW s (NV m0 a.cE s m0)) m0 a v
theorem WL {s:bL} {m0:Nat} {a:Alt} {v:TA} {ds:List cG} (h:aci s m0 a v=some ds) (ho:s.ok) (hm:m0≤s.N) (hv:v.wf s.H s.N):∃ va r H',instP id a.res ds=some (va,r)∧instBs id a.cE 0 r=some (H',[])∧m0≤a.cE.length∧
  ∀ {w F O μ ft act u},SR w F O μ (below s.N) s.st ft act→VR w F μ (below s.N) (v.av s.H) u→∃ F' O' aZ bX,VR w F' aZ (below a.cE.length) (va.av H') u∧HR w F' O' aZ (below a.cE.length) (sx H') bX∧Fr w F O μ (below m0) w F' O' aZ:=by
 obtain ⟨va,r,H',h1,h2,h3,h4⟩:=ach h;refine ⟨va,r,H',h1,h2,h3,fun {w F O μ ft act u} hs hu=>?_⟩;obtain ⟨v1,v2,v3,v6,Hz,S3,v4,v5⟩:=I1 (NV m0 a.cE s m0) ho hs;have hu':VR w F Hz (below (AW s (NV m0 a.cE s m0)).N) (v.av (AW s (NV m0 a.cE s m0)).H) u:=by
  rw [(jB v6 (Nat.le_refl _) v hv).1];exact hu.step hs.hr v5 fun id (bZ:id < s.N)=>Nat.lt_of_lt_of_le bZ v2
 obtain ⟨F',O',aZ,bX,k1,k2,k3⟩:=h4 v4 hu';exact ⟨F',O',aZ,bX,k1,k2,(v5.LH fun id (bZ:id < m0)=>(show id < s.N by omega)).trans k3⟩
def Kk:(l:List Alt)→(Alt→Option (List cG))→Option (Ej l)
 | [],_=>none
 | [a],f=>match f a with
  | some ds=>PU a.ey ds
  | none=>none
 | a::b::r,f=>match f a with
  | some ds=>match PU a.ey ds with
   | some x=>some (.inl x)
   | none=>none
  | none=>match Kk (b::r) f with
   | some x=>some (.inr x)
   | none=>none
theorem Kl:∀ {l:List Alt} {f:Alt→Option (List cG)} {o:Ej l},Kk l f=some o→f (fU l o).1=some (fU l o).2
 | [],f,o,h=>by cases h
 | [a],f,o,h=>by
  simp only [Kk] at h;split at h
  ·rename_i ds sy;show f a=some (Ve a.ey o);rw [sy,Hj h]
  ·cases h
 | a::b::r,f,o,h=>by
  simp only [Kk] at h;split at h
  ·rename_i ds sy;split at h
   ·rename_i x hx;cases h;show f a=some (Ve a.ey x);rw [sy,Hj hx]
   ·cases h
  ·split at h
   ·rename_i x hx;cases h;exact Kl (l:=b::r) hx
   ·cases h
def aeo (outs:List Alt) (m0:Nat) (zU:Bool) (v:TA) (s:bL):Option (Ej outs):=Kk outs fun a=>match zU,a.zU with
 | true,true=>aci s m0 a v
 | false,false=>aci s m0 a v
 | _,_=>none
def CA (m0:Nat) (cE:List Bp) (s:bL):List ResultVar→List sA→List Place
 | .tmp t::rs,.ow j::ps=>match look s.tm t with
  | .fb=>match cE[j]? with
   | some (.row ty v)=>.tm t ty v::CA m0 cE s rs ps
   | _=>CA m0 cE s rs ps
  | _=>CA m0 cE s rs ps
 | .cell a _::rs,p::ps=>match look s.tm a with
  | .bp id 0=>match aS s.H id with
   | some (.box l)=>match p with
    | .agg qs=>yj m0 cE id 0 qs l++CA m0 cE s rs ps
    | .d t=>yj m0 cE id 0 (l.map fun _=>.d t) l++CA m0 cE s rs ps
    | p=>yj m0 cE id 0 [p] l++CA m0 cE s rs ps
   | _=>CA m0 cE s rs ps
  | _=>CA m0 cE s rs ps
 | _::rs,_::ps=>CA m0 cE s rs ps
 | _,_=>[]
def RF (rs:List ResultVar) (p:sA):List sA:=match rs with
 | [_]=>[p]
 | _=>match p with
  | .ov ps=>ps
  | _=>[]
def acU (P:Program) (rs:List ResultVar) (s:bL) (m0:Nat) (a:Alt):Option (List cG):=match TM P rs (AW s (CA m0 a.cE s rs (RF rs a.res))) with
 | some l=>aci (AW s (CA m0 a.cE s rs (RF rs a.res))) m0 a (Vz l)
 | none=>none
def afK (P:Program) (rs:List ResultVar) (s:bL) (m0:Nat) (a:Alt):Option (List cG):=acU P rs (pw s (sk s.H)) m0 a
def VA (P:Program) (rs:List ResultVar) (outs:List Alt) (m0:Nat) (s:bL):Option (Ej outs):=Kk outs fun a=>match a.zU with
 | true=>none
 | false=>afK P rs s m0 a
def Hv:Nat→List TA→List (Nat×TA)
 | _,[]=>[]
 | i,a::r=>(i,a)::Hv (i+1) r
def acj (E:Env) (bJ:Nat→List CT) (A:T7) (args:List sA) (cE:List Bp) (outs:List Alt) (nt:Nat) (rs:List ResultVar) (code:Code) (k:Nat) (x:xP (zN args++NB cE)):Option (Ej outs):=
 match instL id args (ew _ x) with
 | some (as,l)=>match instBs id cE 0 l with
  | some (H,[])=>match Nat.ble as.length nt&&(Wq cE.length args&&cE.all (Bp.lt cE.length)) with
   | true=>den E bJ A cE.length code k ⟨nt,cE.length,Hv 0 as,H⟩ ⟨VA E.P rs outs cE.length,fun _ _=>none,VA E.P rs outs cE.length,aeo outs cE.length true⟩
   | false=>none
  | _=>none
 | none=>none
theorem Km (args:List TA) (i t:Nat):look (Hv i args) t=if i≤t then args.getD (t-i) .top else .top:=by
 induction args generalizing i with
 | nil=>simp [Hv,look]
 | cons x r ih=>
  simp only [Hv,look];cases h:Nat.beq t i with
  | true=>
   have h:=Nat.eq_of_beq_eq_true h;subst h;simp
  | false=>
   have h:=Nat.ne_of_beq_eq_false h;rw [ih];by_cases h2:i+1≤t
   ·rw [if_pos h2,if_pos (by omega),show t-i=(t-(i+1))+1 by omega];simp
   ·rw [if_neg h2,if_neg (by omega)]
theorem TN {nt N:Nat} {args:List TA} {H:List (Nat×aX)} {vs:List Value} (hr:HR w F O μ (below N) (sx H) ft) (hv:gZ w F μ (below N) (di H args) vs) (hn:args.length≤nt):
  SR w F O μ (below N) (bL.st ⟨nt,N,Hv 0 args,H⟩) ft { tmps:=⟨vs⟩++Array.replicate (nt-(⟨vs⟩:Array Value).size) undef,defers:=[] } where
 hr:=hr
 nt:=by have:=hv.1;rw [bC] at this;simp [bL.st];omega
 tm:=fun t=>by
  show VR w F μ (below N) ((look (Hv 0 args) t).av H) _;rw [Km];simp only [Nat.zero_le,if_true,Nat.sub_zero];by_cases h:t < args.length
  ·have h':t < vs.length:=by have:=hv.1;rw [bC] at this;omega
   have:=hv.2 t (by rw [bC];exact h);rw [dq _ _ _ h] at this;have e:(({ toList:=vs }:Array Value)++Array.replicate (nt-({ toList:=vs }:Array Value).size) undef).getD t undef=vs.getD t undef:=by
    simp [List.getD,Array.getElem?_append,h']
   rw [e];exact this
  ·have:args.getD t .top=.top:=by simp [List.getD,List.getElem?_eq_none (Nat.le_of_not_lt h)]
   rw [this];simp only [TA.av];exact .top _
 df:=qj.nil
def afL (P:Program):List CT→Prop
 | []=>True
 | c::r=>aV P c∧afL P r
def Yk (P:Program):List IT→Prop
 | []=>True
 | c::r=>Gu P c∧Yk P r
theorem N6:∀ {l:List IT},Yk P l→∀ c,c∈l→Gu P c
 | [],_,c,hc=>by cases hc
 | d::r,h,c,hc=>by
  rcases List.mem_cons.1 hc with e | e
  ·rw [e];exact h.1
  ·exact N6 h.2 c e
def aR:Nat→List IT:=fun _=>[]
def aep (P:Program):List (TypeId×String×FuncId)→Prop
 | []=>True
 | (t,n,f)::r=>gF P t n f∧aep P r
theorem aQ {E:Env} {bJ:List CT} (hc:afL E.P bJ) (hm:aep E.P E.mt):px E bJ where
 con:=fun c hcm=>by
  induction bJ with
  | nil=>cases hcm
  | cons d r ih=>
   rcases List.mem_cons.1 hcm with h | h
   ·rw [h];exact hc.1
   ·exact ih hc.2 h
 aft:=fun t n f hmm=>by
  have key:∀ l:List (TypeId×String×FuncId),aep E.P l→(t,n,f)∈l→gF E.P t n f:=by
   intro l
   induction l with
   | nil=>intro _ h;cases h
   | cons d r ih=>
    obtain ⟨t',n',f'⟩:=d;intro h1 h2;rcases List.mem_cons.1 h2 with h | h
    ·cases h;exact h1.1
    ·exact ih h1.2 h
  exact key _ hm hmm
structure ack (w w':World) (ds:List Deferred):Prop where
 os:w'.os=w.os
 tape:w'.tape=w.tape
 output:w'.output=w.output
 size:w'.heap.size=w.heap.size
 same:∀ b,mB b ∉ ds→w'.heap[b]?=w.heap[b]?
 shape:∀ b,w'.shape? b=w.shape? b
theorem ack.kp {ds:List Deferred} (h:ack w w' ds) (hd:qj w F O ds):Kp w w' F O where
 os:=h.os
 tape:=h.tape
 output:=h.output
 size:=Nat.le_of_eq h.size.symm
 Ln:=fun b hb=>h.same b fun hm=>by
  obtain ⟨b',h1,h2,h3,_⟩:=hd.all _ hm;have e:b=b':=by simpa [mB] using h1
  subst e;exact hb.elim h3 h2
 shape:=fun b _=>h.shape b
theorem Fr.shut {ds:List Deferred} (h:Fr w F O μ K w' F' O' aZ) (k:ack w' ss ds) (hm:∀ b,mB b∈ds→w.heap.size≤b):Fr w F O μ K ss F' O' aZ:=
 { h with os:=k.os.trans h.os,tape:=k.tape.trans h.tape,output:=k.output.trans h.output,size:=by rw [k.size];exact h.size,shape:=fun b hb=>(k.shape b).trans (h.shape b hb),same:=fun b hb hn=>(k.same b fun NI=>by have:=hm b NI;omega).trans (h.same b hb hn) }
theorem wM {ds:List Deferred} {fn:Func} {tmps:Array Value}:∀ {w:World},qj w F O ds→∃ w',ack w w' ds∧∀ (tl:List Deferred) (R:Ending→World→Prop) (u:FrameMode),u≠.run→LeavesInM (Wr none) 0 P fn tmps R tl u w'→LeavesInM (Wr none) 0 P fn tmps R (ds++tl) u w:=by
 induction ds with
 | nil=>exact fun {w} h=>⟨w,⟨rfl,rfl,rfl,rfl,fun _ _=>rfl,fun _=>rfl⟩,fun tl R u _ h=>h⟩
 | cons d ds ih=>
  intro w h;obtain ⟨b,rfl,h2,h3,h4⟩:=h.all d (by simp);have zg:=List.nodup_cons.1 h.nd;have dY:b < w.heap.size:=(Array.getElem?_eq_some_iff.1 h4).1;obtain ⟨w',k1,k2⟩:=ih (w:=w.putObj b (.deferred none)) ⟨zg.2,fun d' Nf=>by
   obtain ⟨b',m1,m2,m3,m4⟩:=h.all d' (by simp [Nf]);refine ⟨b',m1,m2,m3,?_⟩;rw [World.putObj_heap_other (fun e=>zg.1 (by rw [← e,← m1];exact Nf))];exact m4⟩
  refine ⟨w',⟨k1.os,k1.tape,k1.output,by rw [k1.size];simp,fun b' ck=>?_,fun b'=>?_⟩,fun tl R u hu hl=>⟨hu,.inl ⟨b,_,rfl,run_takeDeferred h4,k2 tl R u hu hl⟩⟩⟩
  ·simp only [List.mem_cons,not_or] at ck;rw [k1.same b' ck.2];exact World.putObj_heap_other fun e=>ck.1 (by rw [e])
  ·rw [k1.shape b'];by_cases e:b'=b
   ·subst e;simp only [World.shape?,h4,World.putObj_heap_same dY]
   ·simp only [World.shape?,World.putObj_heap_other e]
theorem TO {args:List sA} {cE:List Bp} {ds l:List cG} {as:List TA} {H:List (Nat×aX)} {nt:Nat} {gp:List Value} (h1:instL id args ds=some (as,l)) (h2:instBs id cE 0 l=some (H,[])) (hg:(Nat.ble as.length nt&&(Wq cE.length args&&cE.all (Bp.lt cE.length)))=true)
  (hv:gZ w F μ (below cE.length) (di H as) gp) (hr:HR w F O μ (below cE.length) (sx H) ft):
  bL.ok ⟨nt,cE.length,Hv 0 as,H⟩∧SR w F O μ (below cE.length) (bL.st ⟨nt,cE.length,Hv 0 as,H⟩) ft { tmps:=⟨gp⟩++Array.replicate (nt-(⟨gp⟩:Array Value).size) undef,defers:=[] }:=by
 simp only [Bool.and_eq_true] at hg;obtain ⟨hn,hl1,Ok⟩:=hg;refine ⟨?_,TN hr hv (Nat.le_of_ble_eq_true hn)⟩;have hw:=instL_wf (m:=cE.length) (N:=cE.length) (H:=H) (fun j h=>h) h1 hl1;refine ⟨fun t=>?_,fun id l hl=>instBs_wf (m:=cE.length) (fun j h=>h) h2 Ok _ (kU hl)⟩;show (look (Hv 0 as) t).wf H _;rw [Km];split
 ·exact BT hw _
 ·simp only [TA.wf]
def Es (w:World) (F O:Nat→Prop) (μ:Nat→Nat) (m0:Nat) (g:C3) (m':Nat) (H':Hp) (e:Ending):World→Prop:=fun w'=>∃ v F' O' aZ bX,e=g.is v∧VR w' F' aZ (below m') g.av v∧HR w' F' O' aZ (below m') H' bX∧Fr w F O μ (below m0) w' F' O' aZ
theorem I2 {fn:Func} {outs:List Alt} {m0:Nat} {o:Ej outs} {s:bL} {a:Act} {v:TA} {r:List cG} {H':List (Nat×aX)} (u9:s.ok) (hle:m0≤s.N) (hs:SR w F O μ (below s.N) s.st ft a) (h3:instP id (fU outs o).1.res (fU outs o).2=some (v,r)) (h4:instBs id (fU outs o).1.cE 0 r=some (H',[]))
  (aeq:VA P fn.results.toList outs m0 s=some o):∃ u,(results fn a.tmps).run P w=.ok u w∧Es w F O μ m0 (cond (fU outs o).1.zU (.zU (v.av H')) (.ret (v.av H'))) (fU outs o).1.cE.length (sx H') (.returned u) w:=by
 have:=Kl aeq;cases e2:(fU outs o).1.zU with
 | true=>rw [e2] at this;cases this
 | false=>
  rw [e2] at this;simp only [afK,acU] at this;obtain ⟨y1,y2,y3,_,ft0,y4⟩:=Eh (sk s.H) u9 hs;generalize pw s (sk s.H)=s0 at this y1 y2 y3 y4;rw [← y2] at y4;have hle:m0≤s0.N:=by rw [y2];exact hle
  obtain ⟨v1,v2,v3,_,Hz,S3,v4,v5⟩:=I1 (CA m0 (fU outs o).1.cE s0 fn.results.toList (RF fn.results.toList (fU outs o).1.res)) y1 y4;split at this
  ·rename_i l2 Ok;obtain ⟨hw,u,k1,k2⟩:=N5 v1 v4 Ok;obtain ⟨va,r2,H2,m1,m2,_,m3⟩:=WL this v1 (Nat.le_trans hle v2) hw;rw [h3] at m1;cases m1;rw [h4] at m2;cases m2;obtain ⟨F2,O2,zl,EJ,n1,n2,n3⟩:=m3 v4 k2;exact ⟨u,k1,u,F2,O2,zl,EJ,rfl,n1,n2,(v5.LH fun id (bZ:id < m0)=>Nat.lt_of_lt_of_le bZ hle).trans n3⟩
  ·cases this
theorem WM {outs:List Alt} {m0:Nat} {o:Ej outs} {s:bL} {a:Act} {v x:TA} {u:Value} {r:List cG} {H':List (Nat×aX)} (u9:s.ok) (hle:m0≤s.N) (hs:SR w F O μ (below s.N) s.st ft a) (h3:instP id (fU outs o).1.res (fU outs o).2=some (v,r)) (h4:instBs id (fU outs o).1.cE 0 r=some (H',[]))
  (hp:aeo outs m0 true x s=some o) (hw:x.wf s.H s.N) (hv:VR w F μ (below s.N) (x.av s.H) u):Es w F O μ m0 (cond (fU outs o).1.zU (.zU (v.av H')) (.ret (v.av H'))) (fU outs o).1.cE.length (sx H') (.panicked [{ v:=u,recovered:=false }]) w:=by
 have:=Kl hp;cases e2:(fU outs o).1.zU with
 | false=>rw [e2] at this;cases this
 | true=>
  rw [e2] at this;obtain ⟨va,r2,H2,m1,m2,_,m3⟩:=WL this u9 hle hw;rw [h3] at m1;cases m1;rw [h4] at m2;cases m2;obtain ⟨F2,O2,zl,EJ,n1,n2,n3⟩:=m3 hs hv;exact ⟨u,F2,O2,zl,EJ,rfl,n1,n2,n3⟩
theorem YQ {c:CT} (h:∀ x,xQ _ c.F x=none):aV P c:=fun x o ho=>by rw [h x] at ho;cases ho
theorem Es.back {m0 m':Nat} {g:C3} {H':Hp} {e:Ending} (h:Es w' F' O' aZ m0 g m' H' e ss) (hf:∀ {F2 O2 zl},Fr w' F' O' aZ (below m0) ss F2 O2 zl→Fr w F O μ (below m0) ss F2 O2 zl):Es w F O μ m0 g m' H' e ss:=by
 obtain ⟨v,F2,O2,zl,EJ,h1,h2,h3,h4⟩:=h;exact ⟨v,F2,O2,zl,EJ,h1,h2,h3,hf h4⟩
theorem WN {E:Env} {bJ:Nat→List CT} {A:T7} {args:List sA} {cE:List Bp} {outs:List Alt} {nt:Nat} {rs:List ResultVar} {code:Code} {k:Nat} {x:xP (zN args++NB cE)} {o:Ej outs} {as:List TA} {l:List cG} {H:List (Nat×aX)} {gp:List Value} (nf:Bool)
  (hE:∀ j,j≤k→px E (bJ j)) (hI:∀ j,j≤k→Yk E.P (A.it j)) (bF:E.P.follows .mixedOrders=true) (YH:nf=false∨tP code=true) (ho:acj E bJ A args cE outs nt rs code k x=some o)
  (h1:instL id args (ew _ x)=some (as,l)) (h2:instBs id cE 0 l=some (H,[])) (hv:gZ w F μ (below cE.length) (di H as) gp) (hr:HR w F O μ (below cE.length) (sx H) ft):
  code.wpIn (Wr none) 0 E.P (Er ⟨VA E.P rs outs cE.length,fun _ _=>none,VA E.P rs outs cE.length,aeo outs cE.length true⟩ o w F O μ cE.length ⟨nt,w.heap.size,nf,[]⟩) { tmps:=⟨gp⟩++Array.replicate (nt-(⟨gp⟩:Array Value).size) undef,defers:=[] } w:=by
 unfold acj at ho;rw [h1] at ho;simp only at ho;rw [h2] at ho;simp only at ho;split at ho
 ·rename_i hg;obtain ⟨u9,hs⟩:=TO h1 h2 hg hv hr;exact Vx hE (fun j hj=>N6 (hI j hj)) bF code cE.length ⟨nt,w.heap.size,nf,[]⟩ none k _ _ ho (YH.imp (fun h=>⟨rfl,h⟩) id) (Nat.le_refl _) u9 (Nat.le_refl _) (Nat.le_refl _) ⟨rfl,(fun b hb=>by cases hb),rfl⟩ hs
 ·cases ho
theorem L0 {s:bL} {a:Act} {tl:List Deferred} (hs:SR w F O μ K s.st ft a) (kp:Kp w w' F O) (hd:qj w' F O (SI tl)):SR w' F O μ K s.st ft { a with defers:=tl }:=⟨hs.hr.kp kp,hs.nt,fun t=>(hs.tm t).kp hs.hr kp,hd⟩
theorem aH {E:Env} {bJ:Nat→List CT} {A:T7} {c:CT} {fn:Func} {code:Code} (k:Nat) (hE:∀ j,j≤k→px E (bJ j)) (hI:∀ j,j≤k→Yk E.P (A.it j)) (bF:E.P.follows .mixedOrders=true)
  (Cx:∀ (xs:Array Value) (w:World),(callFunc c.f xs).run E.P w=.ok (.enter c.f xs) w) (hf:E.P.funcs[c.f]?=some fn) (hb:fn.body=some code)
  (h:c.F=RS _ (acj E bJ A c.args c.cE c.outs fn.ntmps fn.results.toList code k)) (hm:c.outs.all (fun a=>Nat.ble c.cE.length a.cE.length)=true):aV E.P c:=by
 intro x o ho as l H h1 h2 v r H' h3 h4;rw [h,qJ] at ho;refine ⟨Nat.le_of_ble_eq_true (List.all_eq_true.1 hm _ (AT (X:=Unit) c.outs o)),Cx,fun w F O μ ft gp x7 hr=>?_⟩;refine (callsIn_wide (n:=0)).1 (callsIn_of_wp_marks (F:=Wr none) (n:=0) hf hb trivial (Code.wpIn_mono ?_ (WN false hE hI bF (.inl rfl) ho h1 h2 x7 hr)))
 rintro e a' w' ⟨s',F',O',aZ,bX,hh,hk⟩
 have RN:=hh.sr.df;have emk:=BK hh.nt.2.2;rw [emk] at RN;obtain ⟨w2,sh,gC⟩:=wM (P:=E.P) (fn:=fn) (tmps:=a'.tmps) RN;have VB:=L0 (tl:=[]) hh.sr (sh.kp RN) qj.nil;have ym:∀ {F2 O2 zl},Fr w2 F' O' aZ (below c.cE.length) w2 F2 O2 zl→Fr w F O μ (below c.cE.length) w2 F2 O2 zl:=fun h=>(hh.fr.shut sh fun b hb=>(hh.nt.2.1 b hb).1).trans h;have aer:=gC [];rw [List.append_nil] at aer;have fin:VA E.P fn.results.toList c.outs c.cE.length s'=some o→LeavesInM (Wr none) 0 E.P fn a'.tmps (fun e w'=>Es w F O μ c.cE.length (cond (fU c.outs o).1.zU (C3.zU (v.av H')) (.ret (v.av H'))) (fU c.outs o).1.cE.length (sx H') e w') a'.defers .returning w':=fun aeq=>by
  obtain ⟨u,k1,k2⟩:=I2 hh.ok hh.le VB h3 h4 aeq;exact aer _ _ (by simp) ⟨u,k1,k2.back ym⟩
 cases e with
 | normal=>exact fin hk
 | ret=>exact fin hk
 | panic l=>
  obtain ⟨u,va,rfl,hp,hw,hv⟩:=hk;exact aer _ _ (by simp) ((WM hh.ok hh.le VB h3 h4 hp hw (hv.kp hh.sr.hr (sh.kp RN))).back ym)
 | exit i=>cases hk
 | goto l=>exact hk.elim
 | outgrown=>exact hk.elim
end Go.Proofs.YtjkbbdldmdajkaaGreatDoor.c5
