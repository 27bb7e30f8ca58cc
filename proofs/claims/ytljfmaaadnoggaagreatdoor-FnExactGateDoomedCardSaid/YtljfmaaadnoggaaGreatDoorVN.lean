/- Frames: a state as its pattern tells it, its blocks numbered anew. No condition. -/
import Derived.Test.YtljfmaaadnoggaaGreatDoorVM
set_option linter.unusedSimpArgs false
set_option linter.unusedVariables false
namespace Go.Proofs.YtljfmaaadnoggaaGreatDoor.cX
open Go Go.RowKit
variable {w w' xW:World} {F F' Cq O O' wx:Nat→Prop} {μ bC kZ:Nat→Nat} {K K' Gg:Nat→Prop} {ft b8:Nat→Nat→Prop} {P:Program} {R:Type}
mutual
def wR.lt (m:Nat):wR→Bool
 | .ow j=>j.blt m
 | .bs j _ _=>j.blt m
 | .bp j _=>j.blt m
 | .mp j=>j.blt m
 | .agg ps=>ltL m ps
 | .ph ps=>ltL m ps
 | .pe _ p=>p.lt m
 | .fn _ xs ys=>ltL m xs&&ltL m ys
 | _=>true
def ltL (m:Nat):List wR→Bool
 | []=>true
 | p::r=>p.lt m&&ltL m r
end
def Bp.lt (m:Nat):Bp→Bool
 | .box ps=>ltL m ps
 | _=>true
mutual
theorem inst_wf {ρ:Nat→Nat} {m N:Nat} {H:List (Nat×aY)} (Ib:∀ j,j < m→ρ j < N):∀ {p:wR} {l l':List cI} {a:TA},instP ρ p l=some (a,l')→p.lt m=true→a.wf H N
 | .any,l,l',a,h,_=>by simp only [instP] at h;cases h;simp only [TA.wf]
 | .d t,l,l',a,h,_=>by
  simp only [instP] at h
  split at h
  ·split at h
   ·cases h;exact Zo _ _ _
   ·cases h
  ·cases h
 | .agg ps,l,l',a,h,hl=>by
  simp only [instP] at h
  simp only [wR.lt] at hl
  split at h
  ·rename_i as l2 hi
   cases h
   simp only [TA.wf]
   exact instL_wf Ib hi hl
  ·cases h
 | .ph ps,l,l',a,h,hl=>by
  simp only [instP] at h
  simp only [wR.lt] at hl
  split at h
  ·rename_i as l2 hi
   cases h
   simp only [TA.wf]
   exact instL_wf Ib hi hl
  ·cases h
 | .ow j,l,l',a,h,hl=>by
  simp only [instP] at h
  simp only [wR.lt] at hl
  cases h
  simp only [TA.wf]
  exact Ib j (Nat.le_of_ble_eq_true hl)
 | .bs j n bB,l,l',a,h,_=>by simp only [instP] at h;cases h;simp only [TA.wf]
 | .bp j off,l,l',a,h,_=>by simp only [instP] at h;cases h;simp only [TA.wf]
 | .mp j,l,l',a,h,_=>by simp only [instP] at h;cases h;simp only [TA.wf]
 | .fp t off,l,l',a,h,_=>by
  simp only [instP] at h
  split at h
  ·split at h
   ·cases h;simp only [TA.wf]
   ·cases h
  ·cases h
 | .pe t p,l,l',a,h,hl=>by
  simp only [instP] at h
  simp only [wR.lt] at hl
  split at h
  ·rename_i b l2 hi
   cases h
   simp only [TA.wf]
   exact inst_wf Ib hi hl
  ·cases h
 | .fn f xs ys,l,l',a,h,hl=>by
  simp only [instP] at h
  simp only [wR.lt,Bool.and_eq_true] at hl
  split at h
  ·rename_i as l2 hi
   split at h
   ·rename_i bs l3 hj
    cases h
    simp only [TA.wf]
    exact ⟨instL_wf Ib hi hl.1,instL_wf Ib hj hl.2⟩
   ·cases h
  ·cases h
 | .QV,l,l',a,h,_=>by simp only [instP] at h;cases h;simp only [TA.wf]
 | .kb b,l,l',a,h,_=>by simp only [instP] at h;cases h;simp only [TA.wf]
theorem instL_wf {ρ:Nat→Nat} {m N:Nat} {H:List (Nat×aY)} (Ib:∀ j,j < m→ρ j < N):∀ {ps:List wR} {l l':List cI} {as:List TA},instL ρ ps l=some (as,l')→ltL m ps=true→iw H N as
 | [],l,l',as,h,_=>by simp only [instL] at h;cases h;simp only [iw]
 | p::ps,l,l',as,h,hl=>by
  simp only [instL] at h
  simp only [ltL,Bool.and_eq_true] at hl
  split at h
  ·rename_i a l2 hi
   split at h
   ·rename_i bs l3 hj
    cases h
    simp only [iw]
    exact ⟨inst_wf Ib hi hl.1,instL_wf Ib hj hl.2⟩
   ·cases h
  ·cases h
end
theorem instBs_wf {ρ:Nat→Nat} {m N:Nat} {H:List (Nat×aY)} (Ib:∀ j,j < m→ρ j < N):∀ {bs:List Bp} {j0:Nat} {l l':List cI} {q:List (Nat×aY)},instBs ρ bs j0 l=some (q,l')→bs.all (Bp.lt m)=true→∀ p,p∈q→iw H N p.2.refs
 | [],j0,l,l',q,h,_,p,hp=>by simp only [instBs] at h;cases h;cases hp
 | b::r,j0,l,l',q,h,hl,p,hp=>by
  simp only [List.all_cons,Bool.and_eq_true] at hl
  by_cases hg:b=.gone
  ·subst hg
   simp only [instBs] at h
   exact instBs_wf Ib h hl.2 p hp
  ·rw [instBs_cons hg] at h
   split at h
   ·rename_i x l2 hb
    split at h
    ·rename_i q2 l3 hr
     cases h
     rcases List.mem_cons.1 hp with e | e
     ·subst e
      cases b with
      | gone=>exact absurd rfl hg
      | row t v=>
       simp only [instB] at hb
       split at hb
       ·split at hb
        ·cases hb;simp only [aY.refs,iw]
        ·cases hb
       ·cases hb
      | dmap i=>
       simp only [instB] at hb
       split at hb
       ·split at hb
        ·cases hb;simp only [aY.refs,iw]
        ·cases hb
       ·cases hb
      | b_ t=>
       simp only [instB] at hb
       split at hb
       ·split at hb
        ·cases hb
         exact c8.2 fun a ha=>by
          obtain ⟨y,_,rfl⟩:=List.mem_map.1 ha
          simp only [TA.wf]
        ·cases hb
       ·cases hb
      | box ps=>
       simp only [instB] at hb
       split at hb
       ·rename_i as l5 hi
        cases hb
        simp only [Bp.lt] at hl
        exact instL_wf Ib hi hl.1
       ·cases hb
     ·exact instBs_wf Ib hr hl.2 p e
    ·cases h
   ·cases h
theorem k_ {H:List (Nat×aY)} {id:Nat} {b:aY} (h:aR H id=some b):(id,b)∈H:=by
 induction H with
 | nil=>cases h
 | cons p H ih=>
  obtain ⟨j,x⟩:=p
  simp only [aR] at h
  split at h
  ·rename_i e
   cases h
   rw [Nat.eq_of_beq_eq_true e];simp
  ·exact List.mem_cons_of_mem _ (ih h)
theorem MI {s:bQ} {act:Act} (hs:SR w F O μ K s.st ft act) {id:Nat} {t:Ty} {v:RV} {xs:List t.dn} (hb:aR s.H id=some (.row t v xs)) {u:Value} (hv:VR w F μ K (dr v.b id xs.length (fg t)) u) (hF:∀ b,F b→F' b)
  (hF2:s.st.H.live id→∀ b,ft id b→F' b) {K2:Nat→Prop}:VR w F' bC K2 (.fs (fg t) xs.length (cC t xs)) u:=by
 rcases uQ hv with ⟨⟨_,rfl⟩,h2,h3⟩ | ⟨cap,sz,t',rfl,h2,cb,h4,h5,h6⟩
 ·rw [h2];exact .wv _ _ _ _
 ·have cu:s.st.H id=some (.row v.b (fg t) xs.length (bY v t xs)):=dz hb
  have hl:(kq.row v.b (fg t) xs.length (bY v t xs)).fa=true:=by
   cases hvb:v.b with
   | false=>rfl
   | true=>simpa [kq.fa] using h6 hvb
  have iM:s.st.H.live id:=⟨_,cu,hl⟩
  obtain ⟨ob,qR,cs,t2,S,rfl,hB⟩:=hs.hr.dw id _ cu hl
  have ER:cap*fg t≤cs.size:=by
   simp only [World.shape?,qR,Option.some.injEq,Prod.mk.injEq] at h4
   rw [h4.2];exact h5
  refine .fs _ _ _ (μ id) 0 cap (fun i j=>cs.getD (i*fg t+j) undef) (hF2 iM _ (hs.hr.self id iM)) h2 (fun i j hi hj=>⟨?_,(hB.cell i j hi hj).2⟩) fun i j hi hj=>?_
  ·have h7:(i+1)*fg t≤xs.length*fg t:=Nat.mul_le_mul_right _ hi
   rw [Nat.add_mul,Nat.one_mul] at h7
   have h8:xs.length*fg t≤cap*fg t:=Nat.mul_le_mul_right _ h2
   have:i*fg t+j < cs.size:=by omega
   simp [World.cell?,qR,this]
  ·have h9:=(hB.cell i j hi hj).1
   cases hd:v.d with
   | false=>
    have e:bY v t xs i j=cC t xs i j:=by simp only [bY,hd]
    rw [e] at h9
    exact (h9.closed (Gt _ _ _ _)).1.mono (fun _ _=>rfl) hF (fun _ h=>h.elim) (fun _ h=>h) fun _ h=>h.elim
   | true=>exact h9.freeze hF _ (Dy t xs i j) (by simp only [bY,hd]) fun b EY=>hF2 iM b ((hB.all b).2 (.inr ⟨i,j,hi,hj,EY⟩))
structure jR where
 tms:List (Nat×wR)
 c6:List Bp
def jR.ef (f:jR):List Ty:=ES (f.tms.map (·.2))++Uh f.c6
def QQ (m:Nat):Xs:=⟨(List.range m).map fun j=>(j,j),[]⟩
def Xs.Bt (e:Xs) (m N:Nat):Bool:=e.wB.all (fun p=>p.1.blt m&&p.2.blt N)&&e.fz.all fun id=>!(e.wB.any fun p=>Nat.beq p.2 id)
def agB (s:bQ) (m0:Nat) (f:jR):Option (List cI):=
 match Gy s.H (f.tms.map (·.2)) (f.tms.map fun p=>look s.tm p.1) (QQ m0) with
 | some (e1,d1)=>match Gz s.H f.c6 0 e1 with
  | some (e2,d2)=>if e2.Bt f.c6.length s.N&&(ltL f.c6.length (f.tms.map (·.2))&&f.c6.all (Bp.lt f.c6.length)) then some (d1++d2) else none
  | none=>none
 | none=>none
def instF (nt:Nat) (f:jR) (ds:List cI):Option bQ:=
 match instL id (f.tms.map (·.2)) ds with
 | some (as,l)=>match instBs id f.c6 0 l with
  | some (H,[])=>some ⟨nt,f.c6.length,(f.tms.map (·.1)).zip as,H⟩
  | _=>none
 | none=>none
theorem We {H H':List (Nat×aY)}:∀ {ks:List Nat} {as:List TA} {vs:List Value} {f:Nat→Value},iR w F μ K (dU H as) vs→vs=ks.map f→∀ t,VR w F μ K ((look (ks.zip as) t).av H) (f t)
 | [],as,vs,f,h,hv,t=>by simp only [List.zip_nil_left,look,TA.av];exact .top _
 | k::ks,[],vs,f,h,hv,t=>by simp only [List.zip_nil_right,look,TA.av];exact .top _
 | k::ks,a::as,vs,f,h,hv,t=>by
  simp only [dU] at h
  obtain ⟨v,r,rfl,h1,h2⟩:=h.cons_inv
  simp only [List.map_cons,List.cons.injEq] at hv
  simp only [List.zip_cons_cons,look]
  cases e:Nat.beq t k with
  | true=>rw [Nat.eq_of_beq_eq_true e,← hv.1];exact h1
  | false=>exact We (H':=H') h2 hv.2 t
theorem NF {H:List (Nat×aY)} {N:Nat}:∀ {ks:List Nat} {as:List TA},iw H N as→∀ t,(look (ks.zip as) t).wf H N
 | [],as,h,t=>by simp only [List.zip_nil_left,look,TA.wf]
 | k::ks,[],h,t=>by simp only [List.zip_nil_right,look,TA.wf]
 | k::ks,a::as,h,t=>by
  simp only [iw] at h
  simp only [List.zip_cons_cons,look]
  cases Nat.beq t k with
  | true=>exact h.1
  | false=>exact NF h.2 t
theorem Zp {m j:Nat} (h:j < m):dR (QQ m).wB j=some j:=by
 have key:∀ (l:List Nat),j∈l→dR (l.map fun j=>(j,j)) j=some j:=by
  intro l
  induction l with
  | nil=>intro h;cases h
  | cons x l ih=>
   intro h
   simp only [List.map_cons,dR]
   cases e:Nat.beq j x with
   | true=>simp only [Nat.eq_of_beq_eq_true e]
   | false=>exact ih ((List.mem_cons.1 h).resolve_left (Nat.ne_of_beq_eq_false e))
 exact key _ (by simpa using h)
theorem Zq (m:Nat):(QQ m).inj:=by
 have key:∀ (l:List Nat) (j id:Nat),dR (l.map fun j=>(j,j)) j=some id→id=j:=by
  intro l
  induction l with
  | nil=>intro j id h;cases h
  | cons x l ih=>
   intro j id h
   simp only [List.map_cons,dR] at h
   split at h
   ·rename_i e
    cases h
    exact (Nat.eq_of_beq_eq_true e).symm
   ·exact ih j id h
 intro j j' id h h'
 rw [← key _ j id h,← key _ j' id h']
def muX (e:Xs) (μ:Nat→Nat):Nat→Nat:=fun j=>μ ((dR e.wB j).getD 0)
def frX (s:bQ) (e:Xs) (F:Nat→Prop) (ft:Nat→Nat→Prop):Nat→Prop:=fun b=>F b∨∃ id,id∈e.fz∧s.st.H.live id∧ft id b
theorem Lk {s:bQ} {act:Act} {e:Xs} {m:Nat} {H':List (Nat×aY)} (hs:SR w F O μ K s.st ft act) (hg:e.Bt m s.N=true) (hH:∀ p,p∈H'→Qg s.H H' e id p) (hi:e.inj):
  Reads w F μ K s.H e (frX s e F ft) (muX e μ) (fun j=>j < m) H' id where
 fF:=fun b h=>.inl h
 num:=fun j cg hj _=>by
  simp only [Xs.Bt,Bool.and_eq_true] at hg
  have h0:=List.all_eq_true.1 hg.1 _ (mM hj)
  simp only [Bool.and_eq_true] at h0
  exact ⟨Nat.le_of_ble_eq_true h0.1,by simp only [muX,id,hj,Option.getD_some]⟩
 row:=fun j cg hj x hx=>by
  cases hb:aR H' j with
  | none=>simp only [id,hb,fM] at hx;cases hx
  | some B'=>
   obtain ⟨j2,Dv,B,h1,h2,h3,_,_,h4,_⟩:=hH _ (k_ hb)
   simp only [id] at h1
   subst h1
   rw [hj] at h2
   cases h2
   rw [h3]
   simp only [id,hb] at hx
   exact h4 x hx
 fz:=fun cg cb t v xs hb u hv K2=>MI hs hb hv (fun b h=>.inl h) fun hl b cu=>.inr ⟨cg,cb,hl,cu⟩
theorem Wf {s:bQ} {act:Act} {e:Xs} {m:Nat} {H':List (Nat×aY)} (hs:SR w F O μ (below s.N) s.st ft act) (hg:e.Bt m s.N=true) (hi:e.inj) (hH:∀ p,p∈H'→Qg s.H H' e id p) (dQ:∀ p,p∈H'→p.1 < m)
  (n5:∀ j,j < m→∃ cg,dR e.wB j=some cg∧cg < s.N):
  HR w (frX s e F ft) (fun x=>∃ j cg,dR e.wB j=some cg∧s.st.H.live cg∧ft cg x) (muX e μ) (below m) (xX H') (fun j=>ft ((dR e.wB j).getD 0))∧
   ∀ x,(∃ j cg,dR e.wB j=some cg∧s.st.H.live cg∧ft cg x)→O x:=by
 have rd:=Lk (H':=H') hs hg hH hi
 have hr:=hs.hr
 have lv:∀ j b,(xX H') j=some b→∃ (cg:Nat) (B B':aY),dR e.wB j=some cg∧s.st.H cg=some (B.dw s.H)∧b=B'.dw H'∧(b.fa=true→(B.dw s.H).fa=true)∧
   ∀ {S n o},h_ w F μ (below s.N) S n o (B.dw s.H)→h_ w (frX s e F ft) (muX e μ) (fun j=>j < m) S n o b:=by
  intro j b hb
  obtain ⟨B',hl,hv,rfl⟩:=iv hb
  obtain ⟨j2,Dv,B,h1,h2,h3,h3v,_,_,h5,h6⟩:=hH _ (k_ hl)
  simp only [id] at h1
  subst h1
  exact ⟨Dv,B,B',h2,dz h3 h3v,rfl,h5,fun {S n o} hB=>h6 rd hB⟩
 have live:∀ j,Hp.live (xX H') j→∃ cg,dR e.wB j=some cg∧s.st.H.live cg:=by
  rintro j ⟨b,hb,hl⟩
  obtain ⟨cg,B,B',h1,h2,h3,h4,_⟩:=lv j b hb
  exact ⟨cg,h1,B.dw s.H,h2,h4 hl⟩
 have sub:∀ x,(∃ j cg,dR e.wB j=some cg∧s.st.H.live cg∧ft cg x)→O x:=fun x ⟨j,cg,_,h2,h3⟩=>hr.own cg h2 x h3
 refine ⟨{ lt:=fun j hj=>?_,known:=fun j b hb=>?_,dw:=fun j b hb hl=>?_,self:=fun j hl=>?_,own:=fun j hl x hx=>?_,dj:=fun j j' hl Ds x hx ll=>?_,z8:=?_,wf:=?_,rH:=fun b h=>hr.rH b (sub b h),pos:=hr.pos.mono (Nat.le_refl _) (fun _ h=>.inl h) fun _ _=>rfl },sub⟩
 ·obtain ⟨cg,h1,h2⟩:=n5 j hj
  simp only [muX,h1,Option.getD_some]
  exact hr.lt cg h2
 ·obtain ⟨B',hl,_⟩:=iv hb
  exact dQ _ (k_ hl)
 ·obtain ⟨cg,B,B',h1,h2,h3,h4,h5⟩:=lv j b hb
  obtain ⟨o,ho,hB⟩:=hr.dw cg (B.dw s.H) h2 (h4 hl)
  refine ⟨o,by simp only [muX,h1,Option.getD_some];exact ho,?_⟩
  simp only [muX,h1,Option.getD_some]
  exact h5 hB
 ·obtain ⟨cg,h1,h2⟩:=live j hl
  simp only [muX,h1,Option.getD_some]
  exact hr.self cg h2
 ·obtain ⟨cg,h1,h2⟩:=live j hl
  simp only [h1,Option.getD_some] at hx
  exact ⟨j,cg,h1,h2,hx⟩
 ·obtain ⟨cg,h1,h2⟩:=live j hl
  obtain ⟨Dv,k1,k2⟩:=live j' Ds
  simp only [h1,k1,Option.getD_some] at hx ll
  have:=hr.dj cg Dv h2 k2 x hx ll
  subst this
  exact hi j j' cg h1 k1
 ·rintro b ⟨j,cg,h1,h2,h3⟩ (h | ⟨Dv,k1,k2,k3⟩)
  ·exact hr.z8 b (hr.own cg h2 b h3) h
  ·have:=hr.dj cg Dv h2 k2 b h3 k3
   subst this
   simp only [Xs.Bt,Bool.and_eq_true] at hg
   have:=List.all_eq_true.1 hg.2 _ k1
   simp only [Bool.not_eq_true',List.any_eq_false] at this
   exact this _ (mM h1) (by simp)
 ·rintro b (h | ⟨Dv,k1,k2,k3⟩)
  ·exact hr.wf b h
  ·exact hr.rH b (hr.own Dv k2 b k3)
theorem acJ {s:bQ} {m0:Nat} {f:jR} {ds:List cI} (h:agB s m0 f=some ds) (hm0:m0≤s.N):
  ∃ s',instF s.nt f ds=some s'∧s'.ok∧s'.nt=s.nt∧m0≤s'.N∧∀ {w F O μ ft a},SR w F O μ (below s.N) s.st ft a→∃ F' O' bC b8,SR w F' O' bC (below s'.N) s'.st b8 a∧Fr w F O μ (below m0) w F' O' bC:=by
 unfold agB at h
 split at h
 ·rename_i e1 d1 h1
  split at h
  ·rename_i e2 d2 h2
   split at h
   ·rename_i hc
    simp only [Bool.and_eq_true] at hc
    cases h
    obtain ⟨hg,hl1,Tu⟩:=hc
    obtain ⟨bl,bi,ba,bq⟩:=wC (H':=[]) (ρ:=id) h2
    obtain ⟨q,q1,_⟩:=bq []
    rw [List.append_nil] at q1
    obtain ⟨bl,bi,ba,bq⟩:=wC (H':=q) (ρ:=id) h2
    obtain ⟨q',q1',q2⟩:=bq []
    rw [List.append_nil,q1] at q1'
    cases q1'
    obtain ⟨xl,xi,xb⟩:=yj (H':=q) (ρ:=id) h1
    obtain ⟨as,a1,a2⟩:=xb d2
    have inj:=bi (xi (Zq m0))
    have pins:∀ j,j < m0→dR e2.wB j=some j:=fun j hj=>(xl.trans bl).wB j j (Zp hj)
    have hm:m0≤f.c6.length:=by
     rcases Nat.lt_or_ge f.c6.length m0 with h | h
     ·have h3:=pins f.c6.length h
      simp only [Xs.Bt,Bool.and_eq_true] at hg
      have h0:=List.all_eq_true.1 hg.1 _ (mM h3)
      simp only [Bool.and_eq_true] at h0
      have:=Nat.le_of_ble_eq_true h0.1
      omega
     ·exact h
    refine ⟨⟨s.nt,f.c6.length,(f.tms.map (·.1)).zip as,q⟩,by simp only [instF,a1,q1],⟨fun t=>NF (instL_wf (m:=f.c6.length) (fun j h=>h) a1 hl1) t,fun id l hl=>?_⟩,rfl,hm,fun {w F O μ ft a} hs=>?_⟩
    ·exact instBs_wf (m:=f.c6.length) (fun j h=>h) q1 Tu _ (k_ hl)
    ·have hH:∀ p,p∈q→Qg s.H q e2 id p:=fun p hp=>(q2 p hp).1
     have n5:∀ j,j < f.c6.length→∃ cg,dR e2.wB j=some cg∧cg < s.N:=fun j hj=>by
      obtain ⟨cg,h3⟩:=ba j hj
      rw [Nat.zero_add] at h3
      simp only [Xs.Bt,Bool.and_eq_true] at hg
      have h0:=List.all_eq_true.1 hg.1 _ (mM h3)
      simp only [Bool.and_eq_true] at h0
      exact ⟨cg,h3,Nat.le_of_ble_eq_true h0.2⟩
     obtain ⟨EZ,sub⟩:=Wf (m:=f.c6.length) hs hg inj hH (fun p hp=>by
      obtain ⟨i,hi,e⟩:=(q2 p hp).2
      rw [e];simpa using hi) n5
     have rd:=Lk (m:=f.c6.length) (H':=q) hs hg hH inj
     refine ⟨_,_,_,_,⟨EZ,hs.nt,fun t=>?_,hs.df.sub sub fun b hb=>?_⟩,?_⟩
     ·have hv:iR w F μ (below s.N) (dU s.H (f.tms.map fun p=>look s.tm p.1)) ((f.tms.map (·.1)).map fun t=>a.tmps.getD t undef):=by
       refine ⟨by rw [bI];simp,fun i hi=>?_⟩
       rw [bI] at hi
       rw [dH _ _ _ hi]
       simp only [List.length_map] at hi
       have:=hs.tm (f.tms[i].1)
       simpa [List.getD,hi,bQ.st] using this
      exact We (H':=q) (a2 (rd.of bl) hv) rfl t
     ·rcases hb with h | ⟨Dv,k1,k2,k3⟩
      ·exact .inl h
      ·exact .inr (hs.hr.own Dv k2 b k3)
     ·refine { os:=rfl,tape:=rfl,output:=rfl,size:=Nat.le_refl _,mu:=fun j hj=>?_,Bw:=fun b h=>.inl h,shape:=fun _ _=>rfl,same:=fun _ _ _=>rfl,Gf:=fun x hx=>.inl (sub x hx),JB:=?_ }
      ·simp only [muX,pins j hj,Option.getD_some]
      ·rintro b (h | ⟨Dv,k1,k2,k3⟩)
       ·exact .inl h
       ·exact .inr (.inr (hs.hr.own Dv k2 b k3))
   ·cases h
  ·cases h
 ·cases h
end Go.Proofs.YtljfmaaadnoggaaGreatDoor.cX
