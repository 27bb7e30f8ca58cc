/- A function: its entry, its ends; that what it computes is its contract. No condition. -/
import Derived.Test.YtljfmaaadnoggaaGreatDoorVY
import Derived.RangeFuncRecord
namespace Go.Proofs.YtljfmaaadnoggaaGreatDoor.cX
open Go Go.RowKit
variable {w w' xW:World} {F F' Cq O O' wx:Nat→Prop} {μ bC kZ:Nat→Nat} {K K' Gg:Nat→Prop} {ft b8:Nat→Nat→Prop} {P:Program} {R:Type}
def WD (P:Program):List ResultVar→bQ→Option (List TA)
 | [],_=>some []
 | .tmp t::r,s=>match WD P r s with
  | some l=>some (look s.tm t::l)
  | none=>none
 | .cell a t::r,s=>match P.underlying t,P.info? t,WD P r s with
  | some d,some i,some l=>if KY d then (match rdT s.H (look s.tm a) i.size with
    | some c=>some (.agg c::l)
    | none=>none) else (match rdT s.H (look s.tm a) 1 with
    | some [c]=>some (c::l)
    | _=>none)
  | _,_,_=>none
def Yu:List TA→TA
 | [x]=>x
 | l=>.ph l
def MV (tmps:Array Value):ResultVar→Sem Value
 | .tmp t=>pure (tmps.getD t undef)
 | .cell a t=>do loadVar t (← asAddr (tmps.getD a undef))
theorem Ux {s:bQ} {a:Act} (ho:s.ok) (hs:SR w F O μ K s.st ft a):∀ {rs:List ResultVar} {l:List TA},WD P rs s=some l→iw s.H s.N l∧∃ vs,(rs.mapM (MV a.tmps)).run P w=.ok vs w∧iR w F μ K (dU s.H l) vs
 | [],l,h=>by
  simp only [WD] at h
  cases h
  exact ⟨by simp only [iw],[],by simp,by simp only [dU];exact .nil⟩
 | .tmp t::r,l,h=>by
  simp only [WD] at h
  split at h
  ·rename_i l' hr
   cases h
   obtain ⟨hw,vs,h1,h2⟩:=Ux ho hs hr
   exact ⟨by simp only [iw];exact ⟨ho.tm t,hw⟩,_,by simp only [List.mapM_cons,MV,Sem.run_bind,Sem.run_pure,Result.andThen_ok,h1];rfl,by simp only [dU];exact .cons (hs.tm t) h2⟩
  ·cases h
 | .cell c t::r,l,h=>by
  simp only [WD] at h
  split at h
  ·rename_i d i l' hd hi hr
   obtain ⟨hw,vs,h1,h2⟩:=Ux ho hs hr
   split at h
   ·rename_i ha
    split at h
    ·rename_i cc hc
     cases h
     obtain ⟨k1,k2,c',k3,k4⟩:=T4 ho (x:=.tmp c) hc
     obtain ⟨b,o,u,hv,hu⟩:=k3 hs
     have h3:=Gi (P:=P) (w:=w) hd hi ha b o u fun j hj=>(hu j hj).1
     simp only [Instr.loadAt,Instr.sureAddr,Sem.run_bind,Sem.run_pure,Result.andThen_ok] at h3
     have hv:a.tmps.getD c undef=.pointer (some ⟨b,o,none⟩):=hv
     refine ⟨by simp only [iw,TA.wf];exact ⟨k2,hw⟩,_,by simp only [List.mapM_cons,MV,Sem.run_bind,Sem.run_pure,Result.andThen_ok,hv,asAddr,h3,h1];rfl,?_⟩
     simp only [dU,TA.av]
     refine .cons (.rE ?_) h2
     rw [← DA k1 k4]
     exact Bx fun j hj=>(hu j hj).2
    ·cases h
   ·rename_i ha
    split at h
    ·rename_i cc hc
     cases h
     obtain ⟨k1,k2,c',k3,k4⟩:=T4 ho (x:=.tmp c) hc
     obtain ⟨b,o,u,hv,hu⟩:=k3 hs
     have h3:=Gj (P:=P) (w:=w) hd (by simpa using ha) b o (u 0) (hu 0 (by omega)).1
     simp only [Instr.loadAt,Instr.sureAddr,Sem.run_bind,Sem.run_pure,Result.andThen_ok] at h3
     have hv:a.tmps.getD c undef=.pointer (some ⟨b,o,none⟩):=hv
     simp only [iw] at k2
     refine ⟨by simp only [iw];exact ⟨k2.1,hw⟩,_,by simp only [List.mapM_cons,MV,Sem.run_bind,Sem.run_pure,Result.andThen_ok,hv,asAddr,h3,h1];rfl,?_⟩
     simp only [dU]
     refine .cons ?_ h2
     have:=(hu 0 (by omega)).2
     rw [k4 0 (by omega)] at this
     exact this
    ·cases h
  ·cases h
theorem QC {fn:Func} {s:bQ} {a:Act} (ho:s.ok) (hs:SR w F O μ K s.st ft a) {l:List TA} (h:WD P fn.results.toList s=some l):
  (Yu l).wf s.H s.N∧∃ v,(results fn a.tmps).run P w=.ok v w∧VR w F μ K ((Yu l).av s.H) v:=by
 obtain ⟨hw,vs,h1,h2⟩:=Ux ho hs h
 have h3:(fn.results.mapM (MV a.tmps)).run P w=.ok ⟨vs⟩ w:=by
  rw [Array.mapM_eq_mapM_toList]
  simp only [Sem.run_map]
  rw [h1]
  rfl
 refine ⟨?_,_,by
  show (do let vs ← fn.results.mapM (MV a.tmps);pure (if h:vs.size=1 then vs[0] else .tuple vs):Sem Value).run P w=_
  simp only [Sem.run_bind]
  rw [h3]
  rfl,?_⟩
 ·match l,hw with
  | [],hw=>simp only [Yu,TA.wf,iw]
  | [x],hw=>simp only [iw] at hw;exact hw.1
  | x::y::l,hw=>simp only [Yu,TA.wf];exact hw
 ·match l,vs,h2 with
  | [],vs,h2=>
   simp only [dU] at h2
   rw [h2.iH]
   simp only [Yu,TA.av,dU]
   exact .Nx .nil
  | [x],vs,h2=>
   simp only [dU] at h2
   obtain ⟨v,r,rfl,k1,k2⟩:=h2.cons_inv
   rw [k2.iH]
   exact k1
  | x::y::l,vs,h2=>
   have:vs.length≠1:=by rw [← h2.1,bI];simp
   simp only [Yu,TA.av]
   rw [dif_neg (by simpa using this)]
   exact .Nx h2
def agT (s:bQ) (m0:Nat) (a:Alt) (v:TA):Option (List cI):=
 match ext s.H a.res v (QQ m0) with
 | some (e1,d1)=>match Gz s.H a.c6 0 e1 with
  | some (e2,d2)=>match e2.Bt a.c6.length s.N&&(a.res.lt a.c6.length&&a.c6.all (Bp.lt a.c6.length)) with
   | true=>some (d1++d2)
   | false=>none
  | none=>none
 | none=>none
theorem aeE {s:bQ} {m0:Nat} {a:Alt} {v:TA} {ds:List cI} (h:agT s m0 a v=some ds):∃ va r H',instP id a.res ds=some (va,r)∧instBs id a.c6 0 r=some (H',[])∧m0≤a.c6.length∧
  ∀ {w F O μ ft act u},SR w F O μ (below s.N) s.st ft act→VR w F μ (below s.N) (v.av s.H) u→∃ F' O' bC b8,VR w F' bC (below a.c6.length) (va.av H') u∧HR w F' O' bC (below a.c6.length) (xX H') b8∧Fr w F O μ (below m0) w F' O' bC:=by
 unfold agT at h
 split at h
 ·rename_i e1 d1 h1
  split at h
  ·rename_i e2 d2 h2
   split at h
   ·rename_i hc
    simp only [Bool.and_eq_true] at hc
    cases h
    obtain ⟨hg,hl1,Tu⟩:=hc
    obtain ⟨bl,bi,ba,bq⟩:=wC (H':=[]) (ρ:=id) h2
    obtain ⟨q,q1,_⟩:=bq []
    rw [List.append_nil] at q1
    obtain ⟨bl,bi,ba,bq⟩:=wC (H':=q) (ρ:=id) h2
    obtain ⟨q',q1',q2⟩:=bq []
    rw [List.append_nil,q1] at q1'
    cases q1'
    obtain ⟨xl,xi,xb⟩:=X8 (H':=q) (ρ:=id) h1
    obtain ⟨va,a1,a2⟩:=xb d2
    have inj:=bi (xi (Zq m0))
    have pins:∀ j,j < m0→dR e2.wB j=some j:=fun j hj=>(xl.trans bl).wB j j (Zp hj)
    have hm:m0≤a.c6.length:=by
     rcases Nat.lt_or_ge a.c6.length m0 with h | h
     ·have h3:=pins a.c6.length h
      simp only [Xs.Bt,Bool.and_eq_true] at hg
      have h0:=List.all_eq_true.1 hg.1 _ (mM h3)
      simp only [Bool.and_eq_true] at h0
      have:=Nat.le_of_ble_eq_true h0.1
      omega
     ·exact h
    refine ⟨va,d2,q,a1,q1,hm,fun {w F O μ ft act u} hs hv=>?_⟩
    have hH:∀ p,p∈q→Qg s.H q e2 id p:=fun p hp=>(q2 p hp).1
    have n5:∀ j,j < a.c6.length→∃ cg,dR e2.wB j=some cg∧cg < s.N:=fun j hj=>by
     obtain ⟨cg,h3⟩:=ba j hj
     rw [Nat.zero_add] at h3
     simp only [Xs.Bt,Bool.and_eq_true] at hg
     have h0:=List.all_eq_true.1 hg.1 _ (mM h3)
     simp only [Bool.and_eq_true] at h0
     exact ⟨cg,h3,Nat.le_of_ble_eq_true h0.2⟩
    obtain ⟨EZ,sub⟩:=Wf (m:=a.c6.length) hs hg inj hH (fun p hp=>by
     obtain ⟨i,hi,e⟩:=(q2 p hp).2
     rw [e];simpa using hi) n5
    have rd:=Lk (m:=a.c6.length) (H':=q) hs hg hH inj
    refine ⟨_,_,_,_,a2 (rd.of bl) hv,EZ,?_⟩
    refine { os:=rfl,tape:=rfl,output:=rfl,size:=Nat.le_refl _,mu:=fun j hj=>?_,Bw:=fun b h=>.inl h,shape:=fun _ _=>rfl,same:=fun _ _ _=>rfl,Gf:=fun x hx=>.inl (sub x hx),JB:=?_ }
    ·simp only [muX,pins j hj,Option.getD_some]
    ·rintro b (h | ⟨Dv,k1,k2,k3⟩)
     ·exact .inl h
     ·exact .inr (.inr (hs.hr.own Dv k2 b k3))
   ·cases h
  ·cases h
 ·cases h
def aeF (s:bQ) (m0:Nat) (a:Alt) (v:TA):Option (List cI):=agT (CB s (Qv m0 a.c6 s m0)) m0 a v
theorem ZG {s:bQ} {m0:Nat} {a:Alt} {v:TA} {ds:List cI} (h:aeF s m0 a v=some ds) (ho:s.ok) (hm:m0≤s.N) (hv:v.wf s.H s.N):∃ va r H',instP id a.res ds=some (va,r)∧instBs id a.c6 0 r=some (H',[])∧m0≤a.c6.length∧
  ∀ {w F O μ ft act u},SR w F O μ (below s.N) s.st ft act→VR w F μ (below s.N) (v.av s.H) u→∃ F' O' bC b8,VR w F' bC (below a.c6.length) (va.av H') u∧HR w F' O' bC (below a.c6.length) (xX H') b8∧Fr w F O μ (below m0) w F' O' bC:=by
 obtain ⟨va,r,H',h1,h2,h3,h4⟩:=aeE h
 refine ⟨va,r,H',h1,h2,h3,fun {w F O μ ft act u} hs hu=>?_⟩
 obtain ⟨v1,v2,v3,v6,ME,Zc,v4,v5⟩:=Lx (Qv m0 a.c6 s m0) ho hs
 have hu':VR w F ME (below (CB s (Qv m0 a.c6 s m0)).N) (v.av (CB s (Qv m0 a.c6 s m0)).H) u:=by
  rw [(jQ v6 (Nat.le_refl _) v hv).1]
  exact hu.step hs.hr v5 fun id (cb:id < s.N)=>Nat.lt_of_lt_of_le cb v2
 obtain ⟨F',O',bC,b8,k1,k2,k3⟩:=h4 v4 hu'
 exact ⟨F',O',bC,b8,k1,k2,(v5.QQ fun id (cb:id < m0)=>(show id < s.N by omega)).trans k3⟩
def MW:(l:List Alt)→(Alt→Option (List cI))→Option (MJ l)
 | [],_=>none
 | [a],f=>match f a with
  | some ds=>Ss a.ef ds
  | none=>none
 | a::b::r,f=>match f a with
  | some ds=>match Ss a.ef ds with
   | some x=>some (.inl x)
   | none=>none
  | none=>match MW (b::r) f with
   | some x=>some (.inr x)
   | none=>none
theorem MX:∀ {l:List Alt} {f:Alt→Option (List cI)} {o:MJ l},MW l f=some o→f (oc l o).1=some (oc l o).2
 | [],f,o,h=>by cases h
 | [a],f,o,h=>by
  simp only [MW] at h
  split at h
  ·rename_i ds tC
   show f a=some (X_ a.ef o)
   rw [tC,JO h]
  ·cases h
 | a::b::r,f,o,h=>by
  simp only [MW] at h
  split at h
  ·rename_i ds tC
   split at h
   ·rename_i x hx
    cases h
    show f a=some (X_ a.ef x)
    rw [tC,JO hx]
   ·cases h
  ·split at h
   ·rename_i x hx
    cases h
    exact MX (l:=b::r) hx
   ·cases h
def ajB (outs:List Alt) (m0:Nat) (MA:Bool) (v:TA) (s:bQ):Option (MJ outs):=MW outs fun a=>match MA,a.MA with
 | true,true=>aeF s m0 a v
 | false,false=>aeF s m0 a v
 | _,_=>none
def GH (m0:Nat) (c6:List Bp) (s:bQ):List ResultVar→List wR→List Place
 | .tmp t::rs,.ow j::ps=>match look s.tm t with
  | .ff=>match c6[j]? with
   | some (.row ty v)=>.tm t ty v::GH m0 c6 s rs ps
   | _=>GH m0 c6 s rs ps
  | _=>GH m0 c6 s rs ps
 | .cell a _::rs,p::ps=>match look s.tm a with
  | .bp id 0=>match aR s.H id with
   | some (.box l)=>match p with
    | .agg qs=>GF m0 c6 id 0 qs l++GH m0 c6 s rs ps
    | p=>GF m0 c6 id 0 [p] l++GH m0 c6 s rs ps
   | _=>GH m0 c6 s rs ps
  | _=>GH m0 c6 s rs ps
 | _::rs,_::ps=>GH m0 c6 s rs ps
 | _,_=>[]
def Uy (rs:List ResultVar) (p:wR):List wR:=match rs with
 | [_]=>[p]
 | _=>match p with
  | .ph ps=>ps
  | _=>[]
def afe (P:Program) (rs:List ResultVar) (s:bQ) (m0:Nat) (a:Alt):Option (List cI):=match WD P rs (CB s (GH m0 a.c6 s rs (Uy rs a.res))) with
 | some l=>aeF (CB s (GH m0 a.c6 s rs (Uy rs a.res))) m0 a (Yu l)
 | none=>none
def aid (P:Program) (rs:List ResultVar) (s:bQ) (m0:Nat) (a:Alt):Option (List cI):=afe P rs (tv s (A9 s.H)) m0 a
def agU (P:Program) (rs:List ResultVar) (outs:List Alt) (m0:Nat) (s:bQ):Option (MJ outs):=MW outs fun a=>match a.MA with
 | true=>none
 | false=>aid P rs s m0 a
def MY:Nat→List TA→List (Nat×TA)
 | _,[]=>[]
 | i,a::r=>(i,a)::MY (i+1) r
def aie (E:Env) (bM:Nat→List CT) (A:Ann) (args:List wR) (c6:List Bp) (outs:List Alt) (nt:Nat) (rs:List ResultVar) (code:Code) (k:Nat) (x:Ad (ES args++Uh c6)):Option (MJ outs):=
 match instL id args (e_ _ x) with
 | some (as,l)=>match instBs id c6 0 l with
  | some (H,[])=>match Nat.ble as.length nt&&(ltL c6.length args&&c6.all (Bp.lt c6.length)) with
   | true=>den E bM A c6.length code k ⟨nt,c6.length,MY 0 as,H⟩ ⟨agU E.P rs outs c6.length,fun _ _=>none,agU E.P rs outs c6.length,ajB outs c6.length true⟩
   | false=>none
  | _=>none
 | none=>none
theorem MZ (args:List TA) (i t:Nat):look (MY i args) t=if i≤t then args.getD (t-i) .top else .top:=by
 induction args generalizing i with
 | nil=>simp [MY,look]
 | cons x r ih=>
  simp only [MY,look]
  cases h:Nat.beq t i with
  | true=>
   have h:=Nat.eq_of_beq_eq_true h
   subst h;simp
  | false=>
   have h:=Nat.ne_of_beq_eq_false h
   rw [ih]
   by_cases h2:i+1≤t
   ·rw [if_pos h2,if_pos (by omega),show t-i=(t-(i+1))+1 by omega]
    simp
   ·rw [if_neg h2,if_neg (by omega)]
theorem WE {nt N:Nat} {args:List TA} {H:List (Nat×aY)} {vs:List Value} (hr:HR w F O μ (below N) (xX H) ft) (hv:iR w F μ (below N) (dU H args) vs) (hn:args.length≤nt):
  SR w F O μ (below N) (bQ.st ⟨nt,N,MY 0 args,H⟩) ft { tmps:=⟨vs⟩++Array.replicate (nt-(⟨vs⟩:Array Value).size) undef,defers:=[] } where
 hr:=hr
 nt:=by have:=hv.1;rw [bI] at this;simp [bQ.st];omega
 tm:=fun t=>by
  show VR w F μ (below N) ((look (MY 0 args) t).av H) _
  rw [MZ]
  simp only [Nat.zero_le,if_true,Nat.sub_zero]
  by_cases h:t < args.length
  ·have h':t < vs.length:=by have:=hv.1;rw [bI] at this;omega
   have:=hv.2 t (by rw [bI];exact h)
   rw [dH _ _ _ h] at this
   have e:(({ toList:=vs }:Array Value)++Array.replicate (nt-({ toList:=vs }:Array Value).size) undef).getD t undef=vs.getD t undef:=by
    simp [List.getD,Array.getElem?_append,h']
   rw [e];exact this
  ·have:args.getD t .top=.top:=by simp [List.getD,List.getElem?_eq_none (Nat.le_of_not_lt h)]
   rw [this];simp only [TA.av];exact .top _
 df:=wP.nil
def aif (P:Program):List CT→Prop
 | []=>True
 | c::r=>aV P c∧aif P r
def agV (P:Program):List IT→Prop
 | []=>True
 | c::r=>L0 P c∧agV P r
theorem WG:∀ {l:List IT},agV P l→∀ c,c∈l→L0 P c
 | [],_,c,hc=>by cases hc
 | d::r,h,c,hc=>by
  rcases List.mem_cons.1 hc with e | e
  ·rw [e];exact h.1
  ·exact WG h.2 c e
def aP:Nat→List IT:=fun _=>[]
def agW (P:Program):List (TypeId×String×FuncId)→Prop
 | []=>True
 | (t,n,f)::r=>gC P t n f∧agW P r
theorem aO {E:Env} {bM:List CT} (hc:aif E.P bM) (hm:agW E.P E.mt):xZ E bM where
 con:=fun c hcm=>by
  induction bM with
  | nil=>cases hcm
  | cons d r ih=>
   rcases List.mem_cons.1 hcm with h | h
   ·rw [h];exact hc.1
   ·exact ih hc.2 h
 ahX:=fun t n f hmm=>by
  have key:∀ l:List (TypeId×String×FuncId),agW E.P l→(t,n,f)∈l→gC E.P t n f:=by
   intro l
   induction l with
   | nil=>intro _ h;cases h
   | cons d r ih=>
    obtain ⟨t',n',f'⟩:=d
    intro h1 h2
    rcases List.mem_cons.1 h2 with h | h
    ·cases h;exact h1.1
    ·exact ih h1.2 h
  exact key _ hm hmm
structure aeG (w w':World) (ds:List Deferred):Prop where
 os:w'.os=w.os
 tape:w'.tape=w.tape
 output:w'.output=w.output
 size:w'.heap.size=w.heap.size
 same:∀ b,zR b ∉ ds→w'.heap[b]?=w.heap[b]?
 shape:∀ b,w'.shape? b=w.shape? b
theorem aeG.kp {ds:List Deferred} (h:aeG w w' ds) (hd:wP w F O ds):Kp w w' F O where
 os:=h.os
 tape:=h.tape
 output:=h.output
 size:=Nat.le_of_eq h.size.symm
 NZ:=fun b hb=>h.same b fun hm=>by
  obtain ⟨b',h1,h2,h3,_⟩:=hd.all _ hm
  have e:b=b':=by simpa [zR] using h1
  subst e
  exact hb.elim h3 h2
 shape:=fun b _=>h.shape b
theorem Fr.shut {ds:List Deferred} (h:Fr w F O μ K w' F' O' bC) (k:aeG w' xW ds) (hm:∀ b,zR b∈ds→w.heap.size≤b):Fr w F O μ K xW F' O' bC:=
 { h with os:=k.os.trans h.os,tape:=k.tape.trans h.tape,output:=k.output.trans h.output,size:=by rw [k.size];exact h.size,shape:=fun b hb=>(k.shape b).trans (h.shape b hb),same:=fun b hb hn=>(k.same b fun MO=>by have:=hm b MO;omega).trans (h.same b hb hn) }
theorem Uz {ds:List Deferred} {fn:Func} {tmps:Array Value}:∀ {w:World},wP w F O ds→∃ w',aeG w w' ds∧∀ (R:Ending→World→Prop) (u:FrameMode),u≠.run→LeavesIn (Wr none) 0 P fn tmps R [] u w'→LeavesInM (Wr none) 0 P fn tmps R ds u w:=by
 induction ds with
 | nil=>exact fun {w} h=>⟨w,⟨rfl,rfl,rfl,rfl,fun _ _=>rfl,fun _=>rfl⟩,fun R u _ h=>h⟩
 | cons d ds ih=>
  intro w h
  obtain ⟨b,rfl,h2,h3,h4⟩:=h.all d (by simp)
  have Ck:=List.nodup_cons.1 h.nd
  have dQ:b < w.heap.size:=(Array.getElem?_eq_some_iff.1 h4).1
  obtain ⟨w',k1,k2⟩:=ih (w:=w.putObj b (.deferred none)) ⟨Ck.2,fun d' PU=>by
   obtain ⟨b',m1,m2,m3,m4⟩:=h.all d' (by simp [PU])
   refine ⟨b',m1,m2,m3,?_⟩
   rw [World.putObj_heap_other (fun e=>Ck.1 (by rw [← e,← m1];exact PU))]
   exact m4⟩
  refine ⟨w',⟨k1.os,k1.tape,k1.output,by rw [k1.size];simp,fun b' cu=>?_,fun b'=>?_⟩,fun R u hu hl=>⟨hu,.inl ⟨b,_,rfl,run_takeDeferred h4,k2 R u hu hl⟩⟩⟩
  ·simp only [List.mem_cons,not_or] at cu
   rw [k1.same b' cu.2]
   exact World.putObj_heap_other fun e=>cu.1 (by rw [e])
  ·rw [k1.shape b']
   by_cases e:b'=b
   ·subst e
    simp only [World.shape?,h4,World.putObj_heap_same dQ]
   ·simp only [World.shape?,World.putObj_heap_other e]
theorem UK {c:CT} (h:∀ x,zA _ c.F x=none):aV P c:=fun x o ho=>by rw [h x] at ho;cases ho
theorem aG {E:Env} {bM:Nat→List CT} {A:Ann} {c:CT} {fn:Func} {code:Code} (k:Nat) (hE:∀ j,j≤k→xZ E (bM j)) (hI:∀ j,j≤k→agV E.P (A.it j)) (a_:E.P.follows .mixedOrders=true)
  (WC:∀ (xs:Array Value) (w:World),(callFunc c.f xs).run E.P w=.ok (.enter c.f xs) w) (hf:E.P.funcs[c.f]?=some fn) (hb:fn.body=some code)
  (h:c.F=ZY _ (aie E bM A c.args c.c6 c.outs fn.ntmps fn.results.toList code k)) (hm:c.outs.all (fun a=>Nat.ble c.c6.length a.c6.length)=true):aV E.P c:=by
 intro x o ho as l H h1 h2 v r H' h3 h4
 rw [h,yl] at ho
 unfold aie at ho
 rw [h1] at ho
 simp only at ho
 rw [h2] at ho
 simp only at ho
 split at ho
 ·rename_i hg
  simp only [Bool.and_eq_true] at hg
  obtain ⟨hn,hl1,Tu⟩:=hg
  have hn:=Nat.le_of_ble_eq_true hn
  have MO:=ML (X:=Unit) c.outs o
  have hmm:=Nat.le_of_ble_eq_true (List.all_eq_true.1 hm _ MO)
  refine ⟨hmm,WC,fun w F O μ ft td Gd hr=>?_⟩
  have hs:=WE hr Gd hn
  have Eh:bQ.ok ⟨fn.ntmps,c.c6.length,MY 0 as,H⟩:=by
   have hw:=instL_wf (m:=c.c6.length) (N:=c.c6.length) (H:=H) (fun j h=>h) h1 hl1
   refine ⟨fun t=>?_,fun id l hl=>instBs_wf (m:=c.c6.length) (fun j h=>h) h2 Tu _ (k_ hl)⟩
   show (look (MY 0 as) t).wf H _
   rw [MZ]
   split
   ·exact Dz hw _
   ·simp only [TA.wf]
  have hwp:=agS hE (fun j hj=>WG (hI j hj)) a_ code c.c6.length (fn.ntmps,w.heap.size) none k _ _ ho (.inl rfl) (Nat.le_refl _) Eh (Nat.le_refl _) (Nat.le_refl _) ⟨rfl,fun b hb=>by cases hb⟩ hs
  refine (callsIn_wide (n:=0)).1 (callsIn_of_wp_marks (F:=Wr none) (n:=0) hf hb trivial (Code.wpIn_mono ?_ hwp))
  rintro e a' w' ⟨s',F',O',bC,b8,hh,hk⟩
  obtain ⟨w2,sh,iM⟩:=Uz (P:=E.P) (fn:=fn) (tmps:=a'.tmps) hh.sr.df
  have kp:Kp w' w2 F' O':=sh.kp hh.sr.df
  have aih:SR w2 F' O' bC (below s'.N) s'.st b8 { a' with defers:=[] }:=⟨hh.sr.hr.kp kp,hh.sr.nt,fun t=>(hh.sr.tm t).kp hh.sr.hr kp,wP.nil⟩
  have z9:∀ {F2 O2 Ic},Fr w2 F' O' bC (below c.c6.length) w2 F2 O2 Ic→Fr w F O μ (below c.c6.length) w2 F2 O2 Ic:=fun h=>(hh.fr.shut sh fun b hb=>hh.nt.2 b hb).trans h
  have fin:agU E.P fn.results.toList c.outs c.c6.length s'=some o→∃ u,(results fn a'.tmps).run E.P w2=.ok u w2∧∃ v2 F' O' bC b8,Ending.returned u=(cond (oc c.outs o).1.MA (JG.MA (v.av H')) (.ret (v.av H'))).is v2∧
    VR w2 F' bC (below (oc c.outs o).1.c6.length) (cond (oc c.outs o).1.MA (JG.MA (v.av H')) (.ret (v.av H'))).av v2∧HR w2 F' O' bC (below (oc c.outs o).1.c6.length) (xX H') b8∧Fr w F O μ (below c.c6.length) w2 F' O' bC:=by
   intro ajC
   have:=MX ajC
   cases e2:(oc c.outs o).1.MA with
   | true=>rw [e2] at this;cases this
   | false=>
    rw [e2] at this
    simp only [aid,afe] at this
    obtain ⟨y1,y2,y3,_,ft0,y4⟩:=Lg (A9 s'.H) hh.ok aih
    generalize tv s' (A9 s'.H)=s0 at this y1 y2 y3 y4
    rw [← y2] at y4
    have hle:c.c6.length≤s0.N:=by rw [y2];exact hh.le
    obtain ⟨v1,v2,v3,_,ME,Zc,v4,v5⟩:=Lx (GH c.c6.length (oc c.outs o).1.c6 s0 fn.results.toList (Uy fn.results.toList (oc c.outs o).1.res)) y1 y4
    split at this
    ·rename_i l2 Tu
     obtain ⟨hw,u,k1,k2⟩:=QC v1 v4 Tu
     obtain ⟨va,r2,H2,m1,m2,_,m3⟩:=ZG this v1 (Nat.le_trans hle v2) hw
     rw [h3] at m1
     cases m1
     rw [h4] at m2
     cases m2
     obtain ⟨F2,O2,Ic,Nz,n1,n2,n3⟩:=m3 v4 k2
     exact ⟨u,k1,u,F2,O2,Ic,Nz,rfl,n1,n2,z9 ((v5.QQ fun id (cb:id < c.c6.length)=>Nat.lt_of_lt_of_le cb hle).trans n3)⟩
    ·cases this
  cases e with
  | normal=>exact iM _ _ (by simp) (fin hk)
  | ret=>exact iM _ _ (by simp) (fin hk)
  | panic l=>
   obtain ⟨u,va,rfl,hp,hw,hv⟩:=hk
   refine iM _ _ (by simp) ?_
   have:=MX hp
   cases e2:(oc c.outs o).1.MA with
   | false=>rw [e2] at this;cases this
   | true=>
    rw [e2] at this
    obtain ⟨va,r2,H2,m1,m2,_,m3⟩:=ZG this hh.ok hh.le hw
    rw [h3] at m1
    cases m1
    rw [h4] at m2
    cases m2
    obtain ⟨F2,O2,Ic,Nz,n1,n2,n3⟩:=m3 aih (hv.kp hh.sr.hr kp)
    exact ⟨u,F2,O2,Ic,Nz,rfl,n1,n2,z9 n3⟩
  | exit i=>cases hk
  | goto l=>exact hk.elim
  | outgrown=>exact hk.elim
 ·cases ho
end Go.Proofs.YtljfmaaadnoggaaGreatDoor.cX
