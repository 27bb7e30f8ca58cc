/- A function: its entry, its ends; that what it computes is its contract. No condition. -/
import Derived.Test.YtljfmaaadnoggaaGreatDoorVY
import Derived.RangeFuncRecord
namespace Go.Proofs.YtljfmaaadnoggaaGreatDoor.cU
open Go Go.RowKit
variable {w w' vP:World} {F F' Am O O' ux:Nat→Prop} {μ bB jV:Nat→Nat} {K K' DQ:Nat→Prop} {ft b7:Nat→Nat→Prop} {P:Program} {R:Type}
def TJ (P:Program):List ResultVar→bK→Option (List TA)
 | [],_=>some []
 | .tmp t::r,s=>match TJ P r s with
  | some l=>some (look s.tm t::l)
  | none=>none
 | .cell a t::r,s=>match P.underlying t,P.info? t,TJ P r s with
  | some d,some i,some l=>if IF d then (match rdT s.H (look s.tm a) i.size with
    | some c=>some (.agg c::l)
    | none=>none) else (match rdT s.H (look s.tm a) 1 with
    | some [c]=>some (c::l)
    | _=>none)
  | _,_,_=>none
def Vt:List TA→TA
 | [x]=>x
 | l=>.n9 l
def KD (tmps:Array Value):ResultVar→Sem Value
 | .tmp t=>pure (tmps.getD t undef)
 | .cell a t=>do loadVar t (← asAddr (tmps.getD a undef))
theorem RG {s:bK} {a:Act} (ho:s.ok) (hs:SR w F O μ K s.st ft a):∀ {rs:List ResultVar} {l:List TA},TJ P rs s=some l→gQ s.H s.N l∧∃ vs,(rs.mapM (KD a.tmps)).run P w=.ok vs w∧hP w F μ K (dJ s.H l) vs
 | [],l,h=>by
  simp only [TJ] at h
  cases h
  exact ⟨by simp only [gQ],[],by simp,by simp only [dJ];exact .nil⟩
 | .tmp t::r,l,h=>by
  simp only [TJ] at h
  split at h
  ·rename_i l' hr
   cases h
   obtain ⟨hw,vs,h1,h2⟩:=RG ho hs hr
   exact ⟨by simp only [gQ];exact ⟨ho.tm t,hw⟩,_,by simp only [List.mapM_cons,KD,Sem.run_bind,Sem.run_pure,Result.andThen_ok,h1];rfl,by simp only [dJ];exact .cons (hs.tm t) h2⟩
  ·cases h
 | .cell c t::r,l,h=>by
  simp only [TJ] at h
  split at h
  ·rename_i d i l' hd hi hr
   obtain ⟨hw,vs,h1,h2⟩:=RG ho hs hr
   split at h
   ·rename_i ha
    split at h
    ·rename_i cc hc
     cases h
     obtain ⟨k1,k2,c',k3,k4⟩:=Ra ho (x:=.tmp c) hc
     obtain ⟨b,o,u,hv,hu⟩:=k3 hs
     have h3:=DS (P:=P) (w:=w) hd hi ha b o u fun j hj=>(hu j hj).1
     simp only [Instr.loadAt,Instr.sureAddr,Sem.run_bind,Sem.run_pure,Result.andThen_ok] at h3
     have hv:a.tmps.getD c undef=.pointer (some ⟨b,o,none⟩):=hv
     refine ⟨by simp only [gQ,TA.wf];exact ⟨k2,hw⟩,_,by simp only [List.mapM_cons,KD,Sem.run_bind,Sem.run_pure,Result.andThen_ok,hv,asAddr,h3,h1];rfl,?_⟩
     simp only [dJ,TA.av]
     refine .cons (.pY ?_) h2
     rw [← Bt k1 k4]
     exact zu fun j hj=>(hu j hj).2
    ·cases h
   ·rename_i ha
    split at h
    ·rename_i cc hc
     cases h
     obtain ⟨k1,k2,c',k3,k4⟩:=Ra ho (x:=.tmp c) hc
     obtain ⟨b,o,u,hv,hu⟩:=k3 hs
     have h3:=DT (P:=P) (w:=w) hd (by simpa using ha) b o (u 0) (hu 0 (by omega)).1
     simp only [Instr.loadAt,Instr.sureAddr,Sem.run_bind,Sem.run_pure,Result.andThen_ok] at h3
     have hv:a.tmps.getD c undef=.pointer (some ⟨b,o,none⟩):=hv
     simp only [gQ] at k2
     refine ⟨by simp only [gQ];exact ⟨k2.1,hw⟩,_,by simp only [List.mapM_cons,KD,Sem.run_bind,Sem.run_pure,Result.andThen_ok,hv,asAddr,h3,h1];rfl,?_⟩
     simp only [dJ]
     refine .cons ?_ h2
     have:=(hu 0 (by omega)).2
     rw [k4 0 (by omega)] at this
     exact this
    ·cases h
  ·cases h
theorem N2 {fn:Func} {s:bK} {a:Act} (ho:s.ok) (hs:SR w F O μ K s.st ft a) {l:List TA} (h:TJ P fn.results.toList s=some l):
  (Vt l).wf s.H s.N∧∃ v,(results fn a.tmps).run P w=.ok v w∧VR w F μ K ((Vt l).av s.H) v:=by
 obtain ⟨hw,vs,h1,h2⟩:=RG ho hs h
 have h3:(fn.results.mapM (KD a.tmps)).run P w=.ok ⟨vs⟩ w:=by
  rw [Array.mapM_eq_mapM_toList]
  simp only [Sem.run_map]
  rw [h1]
  rfl
 refine ⟨?_,_,by
  show (do let vs ← fn.results.mapM (KD a.tmps);pure (if h:vs.size=1 then vs[0] else .tuple vs):Sem Value).run P w=_
  simp only [Sem.run_bind]
  rw [h3]
  rfl,?_⟩
 ·match l,hw with
  | [],hw=>simp only [Vt,TA.wf,gQ]
  | [x],hw=>simp only [gQ] at hw;exact hw.1
  | x::y::l,hw=>simp only [Vt,TA.wf];exact hw
 ·match l,vs,h2 with
  | [],vs,h2=>
   simp only [dJ] at h2
   rw [h2.gY]
   simp only [Vt,TA.av,dJ]
   exact .Le .nil
  | [x],vs,h2=>
   simp only [dJ] at h2
   obtain ⟨v,r,rfl,k1,k2⟩:=h2.cons_inv
   rw [k2.gY]
   exact k1
  | x::y::l,vs,h2=>
   have:vs.length≠1:=by rw [← h2.1,bE];simp
   simp only [Vt,TA.av]
   rw [dif_neg (by simpa using this)]
   exact .Le h2
def adJ (s:bK) (m0:Nat) (a:Alt) (v:TA):Option (List cE):=
 match ext s.H a.res v (Of m0) with
 | some (e1,d1)=>match D8 s.H a.cW 0 e1 with
  | some (e2,d2)=>match e2.D9 a.cW.length s.N&&(a.res.lt a.cW.length&&a.cW.all (Bp.lt a.cW.length)) with
   | true=>some (d1++d2)
   | false=>none
  | none=>none
 | none=>none
theorem abN {s:bK} {m0:Nat} {a:Alt} {v:TA} {ds:List cE} (h:adJ s m0 a v=some ds):∃ va r H',instP id a.res ds=some (va,r)∧instBs id a.cW 0 r=some (H',[])∧m0≤a.cW.length∧
  ∀ {w F O μ ft act u},SR w F O μ (below s.N) s.st ft act→VR w F μ (below s.N) (v.av s.H) u→∃ F' O' bB b7,VR w F' bB (below a.cW.length) (va.av H') u∧HR w F' O' bB (below a.cW.length) (vS H') b7∧Fr w F O μ (below m0) w F' O' bB:=by
 unfold adJ at h
 split at h
 ·rename_i e1 d1 h1
  split at h
  ·rename_i e2 d2 h2
   split at h
   ·rename_i hc
    simp only [Bool.and_eq_true] at hc
    cases h
    obtain ⟨hg,hl1,QM⟩:=hc
    obtain ⟨bl,bi,ba,bq⟩:=uC (H':=[]) (ρ:=id) h2
    obtain ⟨q,q1,_⟩:=bq []
    rw [List.append_nil] at q1
    obtain ⟨bl,bi,ba,bq⟩:=uC (H':=q) (ρ:=id) h2
    obtain ⟨q',q1',q2⟩:=bq []
    rw [List.append_nil,q1] at q1'
    cases q1'
    obtain ⟨xl,xi,xb⟩:=U8 (H':=q) (ρ:=id) h1
    obtain ⟨va,a1,a2⟩:=xb d2
    have inj:=bi (xi (Wf m0))
    have pins:∀ j,j < m0→dH e2.uB j=some j:=fun j hj=>(xl.trans bl).uB j j (We hj)
    have hm:m0≤a.cW.length:=by
     rcases Nat.lt_or_ge a.cW.length m0 with h | h
     ·have h3:=pins a.cW.length h
      simp only [Xs.D9,Bool.and_eq_true] at hg
      have h0:=List.all_eq_true.1 hg.1 _ (lx h3)
      simp only [Bool.and_eq_true] at h0
      have:=Nat.le_of_ble_eq_true h0.1
      omega
     ·exact h
    refine ⟨va,d2,q,a1,q1,hm,fun {w F O μ ft act u} hs hv=>?_⟩
    have hH:∀ p,p∈q→NF s.H q e2 id p:=fun p hp=>(q2 p hp).1
    have mC:∀ j,j < a.cW.length→∃ b9,dH e2.uB j=some b9∧b9 < s.N:=fun j hj=>by
     obtain ⟨b9,h3⟩:=ba j hj
     rw [Nat.zero_add] at h3
     simp only [Xs.D9,Bool.and_eq_true] at hg
     have h0:=List.all_eq_true.1 hg.1 _ (lx h3)
     simp only [Bool.and_eq_true] at h0
     exact ⟨b9,h3,Nat.le_of_ble_eq_true h0.2⟩
    obtain ⟨CL,sub⟩:=Tk (m:=a.cW.length) hs hg inj hH (fun p hp=>by
     obtain ⟨i,hi,e⟩:=(q2 p hp).2
     rw [e];simpa using hi) mC
    have rd:=I2 (m:=a.cW.length) (H':=q) hs hg hH inj
    refine ⟨_,_,_,_,a2 (rd.of bl) hv,CL,?_⟩
    refine { os:=rfl,tape:=rfl,output:=rfl,size:=Nat.le_refl _,mu:=fun j hj=>?_,zr:=fun b h=>.inl h,shape:=fun _ _=>rfl,same:=fun _ _ _=>rfl,DP:=fun x hx=>.inl (sub x hx),Ha:=?_ }
    ·simp only [muX,pins j hj,Option.getD_some]
    ·rintro b (h | ⟨Bn,k1,k2,k3⟩)
     ·exact .inl h
     ·exact .inr (.inr (hs.hr.own Bn k2 b k3))
   ·cases h
  ·cases h
 ·cases h
def abO (s:bK) (m0:Nat) (a:Alt) (v:TA):Option (List cE):=adJ (Ax s (NT m0 a.cW s m0)) m0 a v
theorem Ww {s:bK} {m0:Nat} {a:Alt} {v:TA} {ds:List cE} (h:abO s m0 a v=some ds) (ho:s.ok) (hm:m0≤s.N) (hv:v.wf s.H s.N):∃ va r H',instP id a.res ds=some (va,r)∧instBs id a.cW 0 r=some (H',[])∧m0≤a.cW.length∧
  ∀ {w F O μ ft act u},SR w F O μ (below s.N) s.st ft act→VR w F μ (below s.N) (v.av s.H) u→∃ F' O' bB b7,VR w F' bB (below a.cW.length) (va.av H') u∧HR w F' O' bB (below a.cW.length) (vS H') b7∧Fr w F O μ (below m0) w F' O' bB:=by
 obtain ⟨va,r,H',h1,h2,h3,h4⟩:=abN h
 refine ⟨va,r,H',h1,h2,h3,fun {w F O μ ft act u} hs hu=>?_⟩
 obtain ⟨v1,v2,v3,v6,Kj,V2,v4,v5⟩:=Jd (NT m0 a.cW s m0) ho hs
 have hu':VR w F Kj (below (Ax s (NT m0 a.cW s m0)).N) (v.av (Ax s (NT m0 a.cW s m0)).H) u:=by
  rw [(iX v6 (Nat.le_refl _) v hv).1]
  exact hu.step hs.hr v5 fun id (bY:id < s.N)=>Nat.lt_of_lt_of_le bY v2
 obtain ⟨F',O',bB,b7,k1,k2,k3⟩:=h4 v4 hu'
 exact ⟨F',O',bB,b7,k1,k2,(v5.Of fun id (bY:id < m0)=>(show id < s.N by omega)).trans k3⟩
def KE:(l:List Alt)→(Alt→Option (List cE))→Option (Kq l)
 | [],_=>none
 | [a],f=>match f a with
  | some ds=>PW a.dR ds
  | none=>none
 | a::b::r,f=>match f a with
  | some ds=>match PW a.dR ds with
   | some x=>some (.inl x)
   | none=>none
  | none=>match KE (b::r) f with
   | some x=>some (.inr x)
   | none=>none
theorem KF:∀ {l:List Alt} {f:Alt→Option (List cE)} {o:Kq l},KE l f=some o→f (mN l o).1=some (mN l o).2
 | [],f,o,h=>by cases h
 | [a],f,o,h=>by
  simp only [KE] at h
  split at h
  ·rename_i ds rR
   show f a=some (U_ a.dR o)
   rw [rR,Ho h]
  ·cases h
 | a::b::r,f,o,h=>by
  simp only [KE] at h
  split at h
  ·rename_i ds rR
   split at h
   ·rename_i x hx
    cases h
    show f a=some (U_ a.dR x)
    rw [rR,Ho hx]
   ·cases h
  ·split at h
   ·rename_i x hx
    cases h
    exact KF (l:=b::r) hx
   ·cases h
def agE (outs:List Alt) (m0:Nat) (Ke:Bool) (v:TA) (s:bK):Option (Kq outs):=KE outs fun a=>match Ke,a.Ke with
 | true,true=>abO s m0 a v
 | false,false=>abO s m0 a v
 | _,_=>none
def Ee (m0:Nat) (cW:List Bp) (s:bK):List ResultVar→List uQ→List Place
 | .tmp t::rs,.ow j::ps=>match look s.tm t with
  | .eQ=>match cW[j]? with
   | some (.row ty v)=>.tm t ty v::Ee m0 cW s rs ps
   | _=>Ee m0 cW s rs ps
  | _=>Ee m0 cW s rs ps
 | .cell a _::rs,p::ps=>match look s.tm a with
  | .bp id 0=>match aR s.H id with
   | some (.box l)=>match p with
    | .agg qs=>Ec m0 cW id 0 qs l++Ee m0 cW s rs ps
    | p=>Ec m0 cW id 0 [p] l++Ee m0 cW s rs ps
   | _=>Ee m0 cW s rs ps
  | _=>Ee m0 cW s rs ps
 | _::rs,_::ps=>Ee m0 cW s rs ps
 | _,_=>[]
def RH (rs:List ResultVar) (p:uQ):List uQ:=match rs with
 | [_]=>[p]
 | _=>match p with
  | .n9 ps=>ps
  | _=>[]
def aco (P:Program) (rs:List ResultVar) (s:bK) (m0:Nat) (a:Alt):Option (List cE):=match TJ P rs (Ax s (Ee m0 a.cW s rs (RH rs a.res))) with
 | some l=>abO (Ax s (Ee m0 a.cW s rs (RH rs a.res))) m0 a (Vt l)
 | none=>none
def aeU (P:Program) (rs:List ResultVar) (s:bK) (m0:Nat) (a:Alt):Option (List cE):=aco P rs (rK s (y9 s.H)) m0 a
def adK (P:Program) (rs:List ResultVar) (outs:List Alt) (m0:Nat) (s:bK):Option (Kq outs):=KE outs fun a=>match a.Ke with
 | true=>none
 | false=>aeU P rs s m0 a
def KG:Nat→List TA→List (Nat×TA)
 | _,[]=>[]
 | i,a::r=>(i,a)::KG (i+1) r
def aeV (E:Env) (bH:Nat→List CT) (A:Ann) (args:List uQ) (cW:List Bp) (outs:List Alt) (nt:Nat) (rs:List ResultVar) (code:Code) (k:Nat) (x:x4 (CG args++Rp cW)):Option (Kq outs):=
 match instL id args (eG _ x) with
 | some (as,l)=>match instBs id cW 0 l with
  | some (H,[])=>match Nat.ble as.length nt&&(ZQ cW.length args&&cW.all (Bp.lt cW.length)) with
   | true=>den E bH A cW.length code k ⟨nt,cW.length,KG 0 as,H⟩ ⟨adK E.P rs outs cW.length,fun _ _=>none,adK E.P rs outs cW.length,agE outs cW.length true⟩
   | false=>none
  | _=>none
 | none=>none
theorem KH (args:List TA) (i t:Nat):look (KG i args) t=if i≤t then args.getD (t-i) .top else .top:=by
 induction args generalizing i with
 | nil=>simp [KG,look]
 | cons x r ih=>
  simp only [KG,look]
  cases h:Nat.beq t i with
  | true=>
   have h:=Nat.eq_of_beq_eq_true h
   subst h;simp
  | false=>
   have h:=Nat.ne_of_beq_eq_false h
   rw [ih]
   by_cases h2:i+1≤t
   ·rw [if_pos h2,if_pos (by omega),show t-i=(t-(i+1))+1 by omega]
    simp
   ·rw [if_neg h2,if_neg (by omega)]
theorem TK {nt N:Nat} {args:List TA} {H:List (Nat×aW)} {vs:List Value} (hr:HR w F O μ (below N) (vS H) ft) (hv:hP w F μ (below N) (dJ H args) vs) (hn:args.length≤nt):
  SR w F O μ (below N) (bK.st ⟨nt,N,KG 0 args,H⟩) ft { tmps:=⟨vs⟩++Array.replicate (nt-(⟨vs⟩:Array Value).size) undef,defers:=[] } where
 hr:=hr
 nt:=by have:=hv.1;rw [bE] at this;simp [bK.st];omega
 tm:=fun t=>by
  show VR w F μ (below N) ((look (KG 0 args) t).av H) _
  rw [KH]
  simp only [Nat.zero_le,if_true,Nat.sub_zero]
  by_cases h:t < args.length
  ·have h':t < vs.length:=by have:=hv.1;rw [bE] at this;omega
   have:=hv.2 t (by rw [bE];exact h)
   rw [dy _ _ _ h] at this
   have e:(({ toList:=vs }:Array Value)++Array.replicate (nt-({ toList:=vs }:Array Value).size) undef).getD t undef=vs.getD t undef:=by
    simp [List.getD,Array.getElem?_append,h']
   rw [e];exact this
  ·have:args.getD t .top=.top:=by simp [List.getD,List.getElem?_eq_none (Nat.le_of_not_lt h)]
   rw [this];simp only [TA.av];exact .top _
 df:=uO.nil
def aeW (P:Program):List CT→Prop
 | []=>True
 | c::r=>aU P c∧aeW P r
def adL (P:Program):List IT→Prop
 | []=>True
 | c::r=>JE P c∧adL P r
theorem TL:∀ {l:List IT},adL P l→∀ c,c∈l→JE P c
 | [],_,c,hc=>by cases hc
 | d::r,h,c,hc=>by
  rcases List.mem_cons.1 hc with e | e
  ·rw [e];exact h.1
  ·exact TL h.2 c e
def aP:Nat→List IT:=fun _=>[]
def adM (P:Program):List (TypeId×String×FuncId)→Prop
 | []=>True
 | (t,n,f)::r=>f_ P t n f∧adM P r
theorem aO {E:Env} {bH:List CT} (hc:aeW E.P bH) (hm:adM E.P E.mt):vT E bH where
 con:=fun c hcm=>by
  induction bH with
  | nil=>cases hcm
  | cons d r ih=>
   rcases List.mem_cons.1 hcm with h | h
   ·rw [h];exact hc.1
   ·exact ih hc.2 h
 aeD:=fun t n f hmm=>by
  have key:∀ l:List (TypeId×String×FuncId),adM E.P l→(t,n,f)∈l→f_ E.P t n f:=by
   intro l
   induction l with
   | nil=>intro _ h;cases h
   | cons d r ih=>
    obtain ⟨t',n',f'⟩:=d
    intro h1 h2
    rcases List.mem_cons.1 h2 with h | h
    ·cases h;exact h1.1
    ·exact ih h1.2 h
  exact key _ hm hmm
structure abP (w w':World) (ds:List Deferred):Prop where
 os:w'.os=w.os
 tape:w'.tape=w.tape
 output:w'.output=w.output
 size:w'.heap.size=w.heap.size
 same:∀ b,xK b ∉ ds→w'.heap[b]?=w.heap[b]?
 shape:∀ b,w'.shape? b=w.shape? b
theorem abP.kp {ds:List Deferred} (h:abP w w' ds) (hd:uO w F O ds):Kp w w' F O where
 os:=h.os
 tape:=h.tape
 output:=h.output
 size:=Nat.le_of_eq h.size.symm
 LH:=fun b hb=>h.same b fun hm=>by
  obtain ⟨b',h1,h2,h3,_⟩:=hd.all _ hm
  have e:b=b':=by simpa [xK] using h1
  subst e
  exact hb.elim h3 h2
 shape:=fun b _=>h.shape b
theorem Fr.shut {ds:List Deferred} (h:Fr w F O μ K w' F' O' bB) (k:abP w' vP ds) (hm:∀ b,xK b∈ds→w.heap.size≤b):Fr w F O μ K vP F' O' bB:=
 { h with os:=k.os.trans h.os,tape:=k.tape.trans h.tape,output:=k.output.trans h.output,size:=by rw [k.size];exact h.size,shape:=fun b hb=>(k.shape b).trans (h.shape b hb),same:=fun b hb hn=>(k.same b fun Kw=>by have:=hm b Kw;omega).trans (h.same b hb hn) }
theorem RI {ds:List Deferred} {fn:Func} {tmps:Array Value}:∀ {w:World},uO w F O ds→∃ w',abP w w' ds∧∀ (R:Ending→World→Prop) (u:FrameMode),u≠.run→LeavesIn (Wr none) 0 P fn tmps R [] u w'→LeavesInM (Wr none) 0 P fn tmps R ds u w:=by
 induction ds with
 | nil=>exact fun {w} h=>⟨w,⟨rfl,rfl,rfl,rfl,fun _ _=>rfl,fun _=>rfl⟩,fun R u _ h=>h⟩
 | cons d ds ih=>
  intro w h
  obtain ⟨b,rfl,h2,h3,h4⟩:=h.all d (by simp)
  have AL:=List.nodup_cons.1 h.nd
  have dL:b < w.heap.size:=(Array.getElem?_eq_some_iff.1 h4).1
  obtain ⟨w',k1,k2⟩:=ih (w:=w.putObj b (.deferred none)) ⟨AL.2,fun d' Nh=>by
   obtain ⟨b',m1,m2,m3,m4⟩:=h.all d' (by simp [Nh])
   refine ⟨b',m1,m2,m3,?_⟩
   rw [World.putObj_heap_other (fun e=>AL.1 (by rw [← e,← m1];exact Nh))]
   exact m4⟩
  refine ⟨w',⟨k1.os,k1.tape,k1.output,by rw [k1.size];simp,fun b' cd=>?_,fun b'=>?_⟩,fun R u hu hl=>⟨hu,.inl ⟨b,_,rfl,run_takeDeferred h4,k2 R u hu hl⟩⟩⟩
  ·simp only [List.mem_cons,not_or] at cd
   rw [k1.same b' cd.2]
   exact World.putObj_heap_other fun e=>cd.1 (by rw [e])
  ·rw [k1.shape b']
   by_cases e:b'=b
   ·subst e
    simp only [World.shape?,h4,World.putObj_heap_same dL]
   ·simp only [World.shape?,World.putObj_heap_other e]
theorem Yt {c:CT} (h:∀ x,xy _ c.F x=none):aU P c:=fun x o ho=>by rw [h x] at ho;cases ho
theorem aE {E:Env} {bH:Nat→List CT} {A:Ann} {c:CT} {fn:Func} {code:Code} (k:Nat) (hE:∀ j,j≤k→vT E (bH j)) (hI:∀ j,j≤k→adL E.P (A.it j)) (bA:E.P.follows .mixedOrders=true)
  (TI:∀ (xs:Array Value) (w:World),(callFunc c.f xs).run E.P w=.ok (.enter c.f xs) w) (hf:E.P.funcs[c.f]?=some fn) (hb:fn.body=some code)
  (h:c.F=WQ _ (aeV E bH A c.args c.cW c.outs fn.ntmps fn.results.toList code k)) (hm:c.outs.all (fun a=>Nat.ble c.cW.length a.cW.length)=true):aU E.P c:=by
 intro x o ho as l H h1 h2 v r H' h3 h4
 rw [h,wj] at ho
 unfold aeV at ho
 rw [h1] at ho
 simp only at ho
 rw [h2] at ho
 simp only at ho
 split at ho
 ·rename_i hg
  simp only [Bool.and_eq_true] at hg
  obtain ⟨hn,hl1,QM⟩:=hg
  have hn:=Nat.le_of_ble_eq_true hn
  have Kw:=Kt (X:=Unit) c.outs o
  have hmm:=Nat.le_of_ble_eq_true (List.all_eq_true.1 hm _ Kw)
  refine ⟨hmm,TI,fun w F O μ ft ru Ix hr=>?_⟩
  have hs:=TK hr Ix hn
  have Du:bK.ok ⟨fn.ntmps,c.cW.length,KG 0 as,H⟩:=by
   have hw:=instL_wf (m:=c.cW.length) (N:=c.cW.length) (H:=H) (fun j h=>h) h1 hl1
   refine ⟨fun t=>?_,fun id l hl=>instBs_wf (m:=c.cW.length) (fun j h=>h) h2 QM _ (jW hl)⟩
   show (look (KG 0 as) t).wf H _
   rw [KH]
   split
   ·exact Bs hw _
   ·simp only [TA.wf]
  have hwp:=adI hE (fun j hj=>TL (hI j hj)) bA code c.cW.length (fn.ntmps,w.heap.size) none k _ _ ho (.inl rfl) (Nat.le_refl _) Du (Nat.le_refl _) (Nat.le_refl _) ⟨rfl,fun b hb=>by cases hb⟩ hs
  refine (callsIn_wide (n:=0)).1 (callsIn_of_wp_marks (F:=Wr none) (n:=0) hf hb trivial (Code.wpIn_mono ?_ hwp))
  rintro e a' w' ⟨s',F',O',bB,b7,hh,hk⟩
  obtain ⟨w2,sh,ic⟩:=RI (P:=E.P) (fn:=fn) (tmps:=a'.tmps) hh.sr.df
  have kp:Kp w' w2 F' O':=sh.kp hh.sr.df
  have aeX:SR w2 F' O' bB (below s'.N) s'.st b7 { a' with defers:=[] }:=⟨hh.sr.hr.kp kp,hh.sr.nt,fun t=>(hh.sr.tm t).kp hh.sr.hr kp,uO.nil⟩
  have AA:∀ {F2 O2 FE},Fr w2 F' O' bB (below c.cW.length) w2 F2 O2 FE→Fr w F O μ (below c.cW.length) w2 F2 O2 FE:=fun h=>(hh.fr.shut sh fun b hb=>hh.nt.2 b hb).trans h
  have fin:adK E.P fn.results.toList c.outs c.cW.length s'=some o→∃ u,(results fn a'.tmps).run E.P w2=.ok u w2∧∃ v2 F' O' bB b7,Ending.returned u=(cond (mN c.outs o).1.Ke (Hg.Ke (v.av H')) (.ret (v.av H'))).is v2∧
    VR w2 F' bB (below (mN c.outs o).1.cW.length) (cond (mN c.outs o).1.Ke (Hg.Ke (v.av H')) (.ret (v.av H'))).av v2∧HR w2 F' O' bB (below (mN c.outs o).1.cW.length) (vS H') b7∧Fr w F O μ (below c.cW.length) w2 F' O' bB:=by
   intro agF
   have:=KF agF
   cases e2:(mN c.outs o).1.Ke with
   | true=>rw [e2] at this;cases this
   | false=>
    rw [e2] at this
    simp only [aeU,aco] at this
    obtain ⟨y1,y2,y3,_,ft0,y4⟩:=IY (y9 s'.H) hh.ok aeX
    generalize rK s' (y9 s'.H)=s0 at this y1 y2 y3 y4
    rw [← y2] at y4
    have hle:c.cW.length≤s0.N:=by rw [y2];exact hh.le
    obtain ⟨v1,v2,v3,_,Kj,V2,v4,v5⟩:=Jd (Ee c.cW.length (mN c.outs o).1.cW s0 fn.results.toList (RH fn.results.toList (mN c.outs o).1.res)) y1 y4
    split at this
    ·rename_i l2 QM
     obtain ⟨hw,u,k1,k2⟩:=N2 v1 v4 QM
     obtain ⟨va,r2,H2,m1,m2,_,m3⟩:=Ww this v1 (Nat.le_trans hle v2) hw
     rw [h3] at m1
     cases m1
     rw [h4] at m2
     cases m2
     obtain ⟨F2,O2,FE,Lg,n1,n2,n3⟩:=m3 v4 k2
     exact ⟨u,k1,u,F2,O2,FE,Lg,rfl,n1,n2,AA ((v5.Of fun id (bY:id < c.cW.length)=>Nat.lt_of_lt_of_le bY hle).trans n3)⟩
    ·cases this
  cases e with
  | normal=>exact ic _ _ (by simp) (fin hk)
  | ret=>exact ic _ _ (by simp) (fin hk)
  | panic l=>
   obtain ⟨u,va,rfl,hp,hw,hv⟩:=hk
   refine ic _ _ (by simp) ?_
   have:=KF hp
   cases e2:(mN c.outs o).1.Ke with
   | false=>rw [e2] at this;cases this
   | true=>
    rw [e2] at this
    obtain ⟨va,r2,H2,m1,m2,_,m3⟩:=Ww this hh.ok hh.le hw
    rw [h3] at m1
    cases m1
    rw [h4] at m2
    cases m2
    obtain ⟨F2,O2,FE,Lg,n1,n2,n3⟩:=m3 aeX (hv.kp hh.sr.hr kp)
    exact ⟨u,F2,O2,FE,Lg,rfl,n1,n2,AA n3⟩
  | exit i=>cases hk
  | goto l=>exact hk.elim
  | outgrown=>exact hk.elim
 ·cases ho
end Go.Proofs.YtljfmaaadnoggaaGreatDoor.cU
