/- Frames: a state as its pattern tells it, its blocks numbered anew. No condition. -/
import Derived.Test.YtljfmaaadnoggaaGreatDoorVM
set_option linter.unusedSimpArgs false
set_option linter.unusedVariables false
namespace Go.Proofs.YtljfmaaadnoggaaGreatDoor.cU
open Go Go.RowKit
variable {w w' vP:World} {F F' Am O O' ux:Nat→Prop} {μ bB jV:Nat→Nat} {K K' DQ:Nat→Prop} {ft b7:Nat→Nat→Prop} {P:Program} {R:Type}
mutual
def uQ.lt (m:Nat):uQ→Bool
 | .ow j=>j.blt m
 | .bs j _ _=>j.blt m
 | .bp j _=>j.blt m
 | .mp j=>j.blt m
 | .agg ps=>ZQ m ps
 | .n9 ps=>ZQ m ps
 | .nX _ p=>p.lt m
 | .fn _ xs ys=>ZQ m xs&&ZQ m ys
 | _=>true
def ZQ (m:Nat):List uQ→Bool
 | []=>true
 | p::r=>p.lt m&&ZQ m r
end
def Bp.lt (m:Nat):Bp→Bool
 | .box ps=>ZQ m ps
 | _=>true
mutual
theorem inst_wf {ρ:Nat→Nat} {m N:Nat} {H:List (Nat×aW)} (FD:∀ j,j < m→ρ j < N):∀ {p:uQ} {l l':List cE} {a:TA},instP ρ p l=some (a,l')→p.lt m=true→a.wf H N
 | .any,l,l',a,h,_=>by simp only [instP] at h;cases h;simp only [TA.wf]
 | .d t,l,l',a,h,_=>by
  simp only [instP] at h
  split at h
  ·split at h
   ·cases h;exact Wd _ _ _
   ·cases h
  ·cases h
 | .agg ps,l,l',a,h,hl=>by
  simp only [instP] at h
  simp only [uQ.lt] at hl
  split at h
  ·rename_i as l2 hi
   cases h
   simp only [TA.wf]
   exact instL_wf FD hi hl
  ·cases h
 | .n9 ps,l,l',a,h,hl=>by
  simp only [instP] at h
  simp only [uQ.lt] at hl
  split at h
  ·rename_i as l2 hi
   cases h
   simp only [TA.wf]
   exact instL_wf FD hi hl
  ·cases h
 | .ow j,l,l',a,h,hl=>by
  simp only [instP] at h
  simp only [uQ.lt] at hl
  cases h
  simp only [TA.wf]
  exact FD j (Nat.le_of_ble_eq_true hl)
 | .bs j n aZ,l,l',a,h,_=>by simp only [instP] at h;cases h;simp only [TA.wf]
 | .bp j off,l,l',a,h,_=>by simp only [instP] at h;cases h;simp only [TA.wf]
 | .mp j,l,l',a,h,_=>by simp only [instP] at h;cases h;simp only [TA.wf]
 | .fp t off,l,l',a,h,_=>by
  simp only [instP] at h
  split at h
  ·split at h
   ·cases h;simp only [TA.wf]
   ·cases h
  ·cases h
 | .nX t p,l,l',a,h,hl=>by
  simp only [instP] at h
  simp only [uQ.lt] at hl
  split at h
  ·rename_i b l2 hi
   cases h
   simp only [TA.wf]
   exact inst_wf FD hi hl
  ·cases h
 | .fn f xs ys,l,l',a,h,hl=>by
  simp only [instP] at h
  simp only [uQ.lt,Bool.and_eq_true] at hl
  split at h
  ·rename_i as l2 hi
   split at h
   ·rename_i bs l3 hj
    cases h
    simp only [TA.wf]
    exact ⟨instL_wf FD hi hl.1,instL_wf FD hj hl.2⟩
   ·cases h
  ·cases h
 | .Ol,l,l',a,h,_=>by simp only [instP] at h;cases h;simp only [TA.wf]
 | .kb b,l,l',a,h,_=>by simp only [instP] at h;cases h;simp only [TA.wf]
theorem instL_wf {ρ:Nat→Nat} {m N:Nat} {H:List (Nat×aW)} (FD:∀ j,j < m→ρ j < N):∀ {ps:List uQ} {l l':List cE} {as:List TA},instL ρ ps l=some (as,l')→ZQ m ps=true→gQ H N as
 | [],l,l',as,h,_=>by simp only [instL] at h;cases h;simp only [gQ]
 | p::ps,l,l',as,h,hl=>by
  simp only [instL] at h
  simp only [ZQ,Bool.and_eq_true] at hl
  split at h
  ·rename_i a l2 hi
   split at h
   ·rename_i bs l3 hj
    cases h
    simp only [gQ]
    exact ⟨inst_wf FD hi hl.1,instL_wf FD hj hl.2⟩
   ·cases h
  ·cases h
end
theorem instBs_wf {ρ:Nat→Nat} {m N:Nat} {H:List (Nat×aW)} (FD:∀ j,j < m→ρ j < N):∀ {bs:List Bp} {j0:Nat} {l l':List cE} {q:List (Nat×aW)},instBs ρ bs j0 l=some (q,l')→bs.all (Bp.lt m)=true→∀ p,p∈q→gQ H N p.2.refs
 | [],j0,l,l',q,h,_,p,hp=>by simp only [instBs] at h;cases h;cases hp
 | b::r,j0,l,l',q,h,hl,p,hp=>by
  simp only [List.all_cons,Bool.and_eq_true] at hl
  by_cases hg:b=.gone
  ·subst hg
   simp only [instBs] at h
   exact instBs_wf FD h hl.2 p hp
  ·rw [instBs_cons hg] at h
   split at h
   ·rename_i x l2 hb
    split at h
    ·rename_i q2 l3 hr
     cases h
     rcases List.mem_cons.1 hp with e | e
     ·subst e
      cases b with
      | gone=>exact absurd rfl hg
      | row t v=>
       simp only [instB] at hb
       split at hb
       ·split at hb
        ·cases hb;simp only [aW.refs,gQ]
        ·cases hb
       ·cases hb
      | dmap i=>
       simp only [instB] at hb
       split at hb
       ·split at hb
        ·cases hb;simp only [aW.refs,gQ]
        ·cases hb
       ·cases hb
      | cq t=>
       simp only [instB] at hb
       split at hb
       ·split at hb
        ·cases hb
         exact cZ.2 fun a ha=>by
          obtain ⟨y,_,rfl⟩:=List.mem_map.1 ha
          simp only [TA.wf]
        ·cases hb
       ·cases hb
      | box ps=>
       simp only [instB] at hb
       split at hb
       ·rename_i as l5 hi
        cases hb
        simp only [Bp.lt] at hl
        exact instL_wf FD hi hl.1
       ·cases hb
     ·exact instBs_wf FD hr hl.2 p e
    ·cases h
   ·cases h
theorem jW {H:List (Nat×aW)} {id:Nat} {b:aW} (h:aR H id=some b):(id,b)∈H:=by
 induction H with
 | nil=>cases h
 | cons p H ih=>
  obtain ⟨j,x⟩:=p
  simp only [aR] at h
  split at h
  ·rename_i e
   cases h
   rw [Nat.eq_of_beq_eq_true e];simp
  ·exact List.mem_cons_of_mem _ (ih h)
theorem Ko {s:bK} {act:Act} (hs:SR w F O μ K s.st ft act) {id:Nat} {t:Ty} {v:RV} {xs:List t.dn} (hb:aR s.H id=some (.row t v xs)) {u:Value} (hv:VR w F μ K (dd v.b id xs.length (eR t)) u) (hF:∀ b,F b→F' b)
  (hF2:s.st.H.live id→∀ b,ft id b→F' b) {K2:Nat→Prop}:VR w F' bB K2 (.fs (eR t) xs.length (cy t xs)) u:=by
 rcases sS hv with ⟨⟨_,rfl⟩,h2,h3⟩ | ⟨cap,sz,t',rfl,h2,bY,h4,h5,h6⟩
 ·rw [h2];exact .uw _ _ _ _
 ·have cd:s.st.H id=some (.row v.b (eR t) xs.length (bU v t xs)):=dz hb
  have hl:(ju.row v.b (eR t) xs.length (bU v t xs)).eI=true:=by
   cases ZR:v.b with
   | false=>rfl
   | true=>simpa [ju.eI] using h6 ZR
  have ic:s.st.H.live id:=⟨_,cd,hl⟩
  obtain ⟨ob,rQ,cs,t2,S,rfl,hB⟩:=hs.hr.di id _ cd hl
  have CF:cap*eR t≤cs.size:=by
   simp only [World.shape?,rQ,Option.some.injEq,Prod.mk.injEq] at h4
   rw [h4.2];exact h5
  refine .fs _ _ _ (μ id) 0 cap (fun i j=>cs.getD (i*eR t+j) undef) (hF2 ic _ (hs.hr.self id ic)) h2 (fun i j hi hj=>⟨?_,(hB.cell i j hi hj).2⟩) fun i j hi hj=>?_
  ·have h7:(i+1)*eR t≤xs.length*eR t:=Nat.mul_le_mul_right _ hi
   rw [Nat.add_mul,Nat.one_mul] at h7
   have h8:xs.length*eR t≤cap*eR t:=Nat.mul_le_mul_right _ h2
   have:i*eR t+j < cs.size:=by omega
   simp [World.cell?,rQ,this]
  ·have h9:=(hB.cell i j hi hj).1
   cases hd:v.d with
   | false=>
    have e:bU v t xs i j=cy t xs i j:=by simp only [bU,hd]
    rw [e] at h9
    exact (h9.closed (D3 _ _ _ _)).1.mono (fun _ _=>rfl) hF (fun _ h=>h.elim) (fun _ h=>h) fun _ h=>h.elim
   | true=>exact h9.freeze hF _ (Br t xs i j) (by simp only [bU,hd]) fun b OA=>hF2 ic b ((hB.all b).2 (.inr ⟨i,j,hi,hj,OA⟩))
structure iY where
 Ym:List (Nat×uQ)
 cW:List Bp
def iY.dR (f:iY):List Ty:=CG (f.Ym.map (·.2))++Rp f.cW
def Of (m:Nat):Xs:=⟨(List.range m).map fun j=>(j,j),[]⟩
def Xs.D9 (e:Xs) (m N:Nat):Bool:=e.uB.all (fun p=>p.1.blt m&&p.2.blt N)&&e.fz.all fun id=>!(e.uB.any fun p=>Nat.beq p.2 id)
def adq (s:bK) (m0:Nat) (f:iY):Option (List cE):=
 match D7 s.H (f.Ym.map (·.2)) (f.Ym.map fun p=>look s.tm p.1) (Of m0) with
 | some (e1,d1)=>match D8 s.H f.cW 0 e1 with
  | some (e2,d2)=>if e2.D9 f.cW.length s.N&&(ZQ f.cW.length (f.Ym.map (·.2))&&f.cW.all (Bp.lt f.cW.length)) then some (d1++d2) else none
  | none=>none
 | none=>none
def instF (nt:Nat) (f:iY) (ds:List cE):Option bK:=
 match instL id (f.Ym.map (·.2)) ds with
 | some (as,l)=>match instBs id f.cW 0 l with
  | some (H,[])=>some ⟨nt,f.cW.length,(f.Ym.map (·.1)).zip as,H⟩
  | _=>none
 | none=>none
theorem Tj {H H':List (Nat×aW)}:∀ {ks:List Nat} {as:List TA} {vs:List Value} {f:Nat→Value},hP w F μ K (dJ H as) vs→vs=ks.map f→∀ t,VR w F μ K ((look (ks.zip as) t).av H) (f t)
 | [],as,vs,f,h,hv,t=>by simp only [List.zip_nil_left,look,TA.av];exact .top _
 | k::ks,[],vs,f,h,hv,t=>by simp only [List.zip_nil_right,look,TA.av];exact .top _
 | k::ks,a::as,vs,f,h,hv,t=>by
  simp only [dJ] at h
  obtain ⟨v,r,rfl,h1,h2⟩:=h.cons_inv
  simp only [List.map_cons,List.cons.injEq] at hv
  simp only [List.zip_cons_cons,look]
  cases e:Nat.beq t k with
  | true=>rw [Nat.eq_of_beq_eq_true e,← hv.1];exact h1
  | false=>exact Tj (H':=H') h2 hv.2 t
theorem Lm {H:List (Nat×aW)} {N:Nat}:∀ {ks:List Nat} {as:List TA},gQ H N as→∀ t,(look (ks.zip as) t).wf H N
 | [],as,h,t=>by simp only [List.zip_nil_left,look,TA.wf]
 | k::ks,[],h,t=>by simp only [List.zip_nil_right,look,TA.wf]
 | k::ks,a::as,h,t=>by
  simp only [gQ] at h
  simp only [List.zip_cons_cons,look]
  cases Nat.beq t k with
  | true=>exact h.1
  | false=>exact Lm h.2 t
theorem We {m j:Nat} (h:j < m):dH (Of m).uB j=some j:=by
 have key:∀ (l:List Nat),j∈l→dH (l.map fun j=>(j,j)) j=some j:=by
  intro l
  induction l with
  | nil=>intro h;cases h
  | cons x l ih=>
   intro h
   simp only [List.map_cons,dH]
   cases e:Nat.beq j x with
   | true=>simp only [Nat.eq_of_beq_eq_true e]
   | false=>exact ih ((List.mem_cons.1 h).resolve_left (Nat.ne_of_beq_eq_false e))
 exact key _ (by simpa using h)
theorem Wf (m:Nat):(Of m).inj:=by
 have key:∀ (l:List Nat) (j id:Nat),dH (l.map fun j=>(j,j)) j=some id→id=j:=by
  intro l
  induction l with
  | nil=>intro j id h;cases h
  | cons x l ih=>
   intro j id h
   simp only [List.map_cons,dH] at h
   split at h
   ·rename_i e
    cases h
    exact (Nat.eq_of_beq_eq_true e).symm
   ·exact ih j id h
 intro j j' id h h'
 rw [← key _ j id h,← key _ j' id h']
def muX (e:Xs) (μ:Nat→Nat):Nat→Nat:=fun j=>μ ((dH e.uB j).getD 0)
def frX (s:bK) (e:Xs) (F:Nat→Prop) (ft:Nat→Nat→Prop):Nat→Prop:=fun b=>F b∨∃ id,id∈e.fz∧s.st.H.live id∧ft id b
theorem I2 {s:bK} {act:Act} {e:Xs} {m:Nat} {H':List (Nat×aW)} (hs:SR w F O μ K s.st ft act) (hg:e.D9 m s.N=true) (hH:∀ p,p∈H'→NF s.H H' e id p) (hi:e.inj):
  Reads w F μ K s.H e (frX s e F ft) (muX e μ) (fun j=>j < m) H' id where
 fF:=fun b h=>.inl h
 num:=fun j b9 hj _=>by
  simp only [Xs.D9,Bool.and_eq_true] at hg
  have h0:=List.all_eq_true.1 hg.1 _ (lx hj)
  simp only [Bool.and_eq_true] at h0
  exact ⟨Nat.le_of_ble_eq_true h0.1,by simp only [muX,id,hj,Option.getD_some]⟩
 row:=fun j b9 hj x hx=>by
  cases hb:aR H' j with
  | none=>simp only [id,hb,fj] at hx;cases hx
  | some B'=>
   obtain ⟨j2,Bn,B,h1,h2,h3,_,_,h4,_⟩:=hH _ (jW hb)
   simp only [id] at h1
   subst h1
   rw [hj] at h2
   cases h2
   rw [h3]
   simp only [id,hb] at hx
   exact h4 x hx
 fz:=fun b9 bY t v xs hb u hv K2=>Ko hs hb hv (fun b h=>.inl h) fun hl b cd=>.inr ⟨b9,bY,hl,cd⟩
theorem Tk {s:bK} {act:Act} {e:Xs} {m:Nat} {H':List (Nat×aW)} (hs:SR w F O μ (below s.N) s.st ft act) (hg:e.D9 m s.N=true) (hi:e.inj) (hH:∀ p,p∈H'→NF s.H H' e id p) (dL:∀ p,p∈H'→p.1 < m)
  (mC:∀ j,j < m→∃ b9,dH e.uB j=some b9∧b9 < s.N):
  HR w (frX s e F ft) (fun x=>∃ j b9,dH e.uB j=some b9∧s.st.H.live b9∧ft b9 x) (muX e μ) (below m) (vS H') (fun j=>ft ((dH e.uB j).getD 0))∧
   ∀ x,(∃ j b9,dH e.uB j=some b9∧s.st.H.live b9∧ft b9 x)→O x:=by
 have rd:=I2 (H':=H') hs hg hH hi
 have hr:=hs.hr
 have lv:∀ j b,(vS H') j=some b→∃ (b9:Nat) (B B':aW),dH e.uB j=some b9∧s.st.H b9=some (B.di s.H)∧b=B'.di H'∧(b.eI=true→(B.di s.H).eI=true)∧
   ∀ {S n o},gO w F μ (below s.N) S n o (B.di s.H)→gO w (frX s e F ft) (muX e μ) (fun j=>j < m) S n o b:=by
  intro j b hb
  obtain ⟨B',hl,hv,rfl⟩:=gP hb
  obtain ⟨j2,Bn,B,h1,h2,h3,h3v,_,_,h5,h6⟩:=hH _ (jW hl)
  simp only [id] at h1
  subst h1
  exact ⟨Bn,B,B',h2,dz h3 h3v,rfl,h5,fun {S n o} hB=>h6 rd hB⟩
 have live:∀ j,Hp.live (vS H') j→∃ b9,dH e.uB j=some b9∧s.st.H.live b9:=by
  rintro j ⟨b,hb,hl⟩
  obtain ⟨b9,B,B',h1,h2,h3,h4,_⟩:=lv j b hb
  exact ⟨b9,h1,B.di s.H,h2,h4 hl⟩
 have sub:∀ x,(∃ j b9,dH e.uB j=some b9∧s.st.H.live b9∧ft b9 x)→O x:=fun x ⟨j,b9,_,h2,h3⟩=>hr.own b9 h2 x h3
 refine ⟨{ lt:=fun j hj=>?_,known:=fun j b hb=>?_,di:=fun j b hb hl=>?_,self:=fun j hl=>?_,own:=fun j hl x hx=>?_,dj:=fun j j' hl Bk x hx j7=>?_,xW:=?_,wf:=?_,p0:=fun b h=>hr.p0 b (sub b h),pos:=hr.pos.mono (Nat.le_refl _) (fun _ h=>.inl h) fun _ _=>rfl },sub⟩
 ·obtain ⟨b9,h1,h2⟩:=mC j hj
  simp only [muX,h1,Option.getD_some]
  exact hr.lt b9 h2
 ·obtain ⟨B',hl,_⟩:=gP hb
  exact dL _ (jW hl)
 ·obtain ⟨b9,B,B',h1,h2,h3,h4,h5⟩:=lv j b hb
  obtain ⟨o,ho,hB⟩:=hr.di b9 (B.di s.H) h2 (h4 hl)
  refine ⟨o,by simp only [muX,h1,Option.getD_some];exact ho,?_⟩
  simp only [muX,h1,Option.getD_some]
  exact h5 hB
 ·obtain ⟨b9,h1,h2⟩:=live j hl
  simp only [muX,h1,Option.getD_some]
  exact hr.self b9 h2
 ·obtain ⟨b9,h1,h2⟩:=live j hl
  simp only [h1,Option.getD_some] at hx
  exact ⟨j,b9,h1,h2,hx⟩
 ·obtain ⟨b9,h1,h2⟩:=live j hl
  obtain ⟨Bn,k1,k2⟩:=live j' Bk
  simp only [h1,k1,Option.getD_some] at hx j7
  have:=hr.dj b9 Bn h2 k2 x hx j7
  subst this
  exact hi j j' b9 h1 k1
 ·rintro b ⟨j,b9,h1,h2,h3⟩ (h | ⟨Bn,k1,k2,k3⟩)
  ·exact hr.xW b (hr.own b9 h2 b h3) h
  ·have:=hr.dj b9 Bn h2 k2 b h3 k3
   subst this
   simp only [Xs.D9,Bool.and_eq_true] at hg
   have:=List.all_eq_true.1 hg.2 _ k1
   simp only [Bool.not_eq_true',List.any_eq_false] at this
   exact this _ (lx h1) (by simp)
 ·rintro b (h | ⟨Bn,k1,k2,k3⟩)
  ·exact hr.wf b h
  ·exact hr.p0 b (hr.own Bn k2 b k3)
theorem ZS {s:bK} {m0:Nat} {f:iY} {ds:List cE} (h:adq s m0 f=some ds) (hm0:m0≤s.N):
  ∃ s',instF s.nt f ds=some s'∧s'.ok∧s'.nt=s.nt∧m0≤s'.N∧∀ {w F O μ ft a},SR w F O μ (below s.N) s.st ft a→∃ F' O' bB b7,SR w F' O' bB (below s'.N) s'.st b7 a∧Fr w F O μ (below m0) w F' O' bB:=by
 unfold adq at h
 split at h
 ·rename_i e1 d1 h1
  split at h
  ·rename_i e2 d2 h2
   split at h
   ·rename_i hc
    simp only [Bool.and_eq_true] at hc
    cases h
    obtain ⟨hg,hl1,QM⟩:=hc
    obtain ⟨bl,bi,ba,bq⟩:=uC (H':=[]) (ρ:=id) h2
    obtain ⟨q,q1,_⟩:=bq []
    rw [List.append_nil] at q1
    obtain ⟨bl,bi,ba,bq⟩:=uC (H':=q) (ρ:=id) h2
    obtain ⟨q',q1',q2⟩:=bq []
    rw [List.append_nil,q1] at q1'
    cases q1'
    obtain ⟨xl,xi,xb⟩:=wg (H':=q) (ρ:=id) h1
    obtain ⟨as,a1,a2⟩:=xb d2
    have inj:=bi (xi (Wf m0))
    have pins:∀ j,j < m0→dH e2.uB j=some j:=fun j hj=>(xl.trans bl).uB j j (We hj)
    have hm:m0≤f.cW.length:=by
     rcases Nat.lt_or_ge f.cW.length m0 with h | h
     ·have h3:=pins f.cW.length h
      simp only [Xs.D9,Bool.and_eq_true] at hg
      have h0:=List.all_eq_true.1 hg.1 _ (lx h3)
      simp only [Bool.and_eq_true] at h0
      have:=Nat.le_of_ble_eq_true h0.1
      omega
     ·exact h
    refine ⟨⟨s.nt,f.cW.length,(f.Ym.map (·.1)).zip as,q⟩,by simp only [instF,a1,q1],⟨fun t=>Lm (instL_wf (m:=f.cW.length) (fun j h=>h) a1 hl1) t,fun id l hl=>?_⟩,rfl,hm,fun {w F O μ ft a} hs=>?_⟩
    ·exact instBs_wf (m:=f.cW.length) (fun j h=>h) q1 QM _ (jW hl)
    ·have hH:∀ p,p∈q→NF s.H q e2 id p:=fun p hp=>(q2 p hp).1
     have mC:∀ j,j < f.cW.length→∃ b9,dH e2.uB j=some b9∧b9 < s.N:=fun j hj=>by
      obtain ⟨b9,h3⟩:=ba j hj
      rw [Nat.zero_add] at h3
      simp only [Xs.D9,Bool.and_eq_true] at hg
      have h0:=List.all_eq_true.1 hg.1 _ (lx h3)
      simp only [Bool.and_eq_true] at h0
      exact ⟨b9,h3,Nat.le_of_ble_eq_true h0.2⟩
     obtain ⟨CL,sub⟩:=Tk (m:=f.cW.length) hs hg inj hH (fun p hp=>by
      obtain ⟨i,hi,e⟩:=(q2 p hp).2
      rw [e];simpa using hi) mC
     have rd:=I2 (m:=f.cW.length) (H':=q) hs hg hH inj
     refine ⟨_,_,_,_,⟨CL,hs.nt,fun t=>?_,hs.df.sub sub fun b hb=>?_⟩,?_⟩
     ·have hv:hP w F μ (below s.N) (dJ s.H (f.Ym.map fun p=>look s.tm p.1)) ((f.Ym.map (·.1)).map fun t=>a.tmps.getD t undef):=by
       refine ⟨by rw [bE];simp,fun i hi=>?_⟩
       rw [bE] at hi
       rw [dy _ _ _ hi]
       simp only [List.length_map] at hi
       have:=hs.tm (f.Ym[i].1)
       simpa [List.getD,hi,bK.st] using this
      exact Tj (H':=q) (a2 (rd.of bl) hv) rfl t
     ·rcases hb with h | ⟨Bn,k1,k2,k3⟩
      ·exact .inl h
      ·exact .inr (hs.hr.own Bn k2 b k3)
     ·refine { os:=rfl,tape:=rfl,output:=rfl,size:=Nat.le_refl _,mu:=fun j hj=>?_,zr:=fun b h=>.inl h,shape:=fun _ _=>rfl,same:=fun _ _ _=>rfl,DP:=fun x hx=>.inl (sub x hx),Ha:=?_ }
      ·simp only [muX,pins j hj,Option.getD_some]
      ·rintro b (h | ⟨Bn,k1,k2,k3⟩)
       ·exact .inl h
       ·exact .inr (.inr (hs.hr.own Bn k2 b k3))
   ·cases h
  ·cases h
 ·cases h
end Go.Proofs.YtljfmaaadnoggaaGreatDoor.cU
