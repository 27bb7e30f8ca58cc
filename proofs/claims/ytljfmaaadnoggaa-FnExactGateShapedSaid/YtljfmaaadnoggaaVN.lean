/- Frames: a state as its pattern tells it, its blocks numbered anew. No condition. -/
import Derived.Test.YtljfmaaadnoggaaVM
set_option linter.unusedSimpArgs false
set_option linter.unusedVariables false
namespace Go.Proofs.Ytljfmaaadnoggaa.Abs
open Go Go.RowKit
variable {w w' w'':World} {F F' F'' O O' O'':Nat→Prop} {μ μ' μ'':Nat→Nat} {K K' K'':Nat→Prop} {ft ft':Nat→Nat→Prop} {P:Program} {R:Type}
mutual
def Pat.lt (m:Nat):Pat→Bool
 | .ow j=>j.blt m
 | .bs j _ _=>j.blt m
 | .bp j _=>j.blt m
 | .mp j=>j.blt m
 | .agg ps=>ltL m ps
 | .tup ps=>ltL m ps
 | .ifc _ p=>p.lt m
 | .fn _ xs ys=>ltL m xs&&ltL m ys
 | _=>true
def ltL (m:Nat):List Pat→Bool
 | []=>true
 | p::r=>p.lt m&&ltL m r
end
def Bp.lt (m:Nat):Bp→Bool
 | .box ps=>ltL m ps
 | _=>true
mutual
theorem inst_wf {ρ:Nat→Nat} {m N:Nat} {H:List (Nat×TBlk)} (hρ:∀ j,j < m→ρ j < N):∀ {p:Pat} {l l':List Dyn} {a:TA},instP ρ p l=some (a,l')→p.lt m=true→a.wf H N
 | .any,l,l',a,h,_=>by simp only [instP] at h;cases h;simp only [TA.wf]
 | .d t,l,l',a,h,_=>by
  simp only [instP] at h
  split at h
  ·split at h
   ·cases h;exact dynT_wf _ _ _
   ·cases h
  ·cases h
 | .agg ps,l,l',a,h,hl=>by
  simp only [instP] at h
  simp only [Pat.lt] at hl
  split at h
  ·rename_i as l2 hi
   cases h
   simp only [TA.wf]
   exact instL_wf hρ hi hl
  ·cases h
 | .tup ps,l,l',a,h,hl=>by
  simp only [instP] at h
  simp only [Pat.lt] at hl
  split at h
  ·rename_i as l2 hi
   cases h
   simp only [TA.wf]
   exact instL_wf hρ hi hl
  ·cases h
 | .ow j,l,l',a,h,hl=>by
  simp only [instP] at h
  simp only [Pat.lt] at hl
  cases h
  simp only [TA.wf]
  exact hρ j (Nat.le_of_ble_eq_true hl)
 | .bs j n esz,l,l',a,h,_=>by simp only [instP] at h;cases h;simp only [TA.wf]
 | .bp j off,l,l',a,h,_=>by simp only [instP] at h;cases h;simp only [TA.wf]
 | .mp j,l,l',a,h,_=>by simp only [instP] at h;cases h;simp only [TA.wf]
 | .fp t off,l,l',a,h,_=>by
  simp only [instP] at h
  split at h
  ·split at h
   ·cases h;simp only [TA.wf]
   ·cases h
  ·cases h
 | .ifc t p,l,l',a,h,hl=>by
  simp only [instP] at h
  simp only [Pat.lt] at hl
  split at h
  ·rename_i b l2 hi
   cases h
   simp only [TA.wf]
   exact inst_wf hρ hi hl
  ·cases h
 | .fn f xs ys,l,l',a,h,hl=>by
  simp only [instP] at h
  simp only [Pat.lt,Bool.and_eq_true] at hl
  split at h
  ·rename_i as l2 hi
   split at h
   ·rename_i bs l3 hj
    cases h
    simp only [TA.wf]
    exact ⟨instL_wf hρ hi hl.1,instL_wf hρ hj hl.2⟩
   ·cases h
  ·cases h
 | .nilI,l,l',a,h,_=>by simp only [instP] at h;cases h;simp only [TA.wf]
 | .kb b,l,l',a,h,_=>by simp only [instP] at h;cases h;simp only [TA.wf]
theorem instL_wf {ρ:Nat→Nat} {m N:Nat} {H:List (Nat×TBlk)} (hρ:∀ j,j < m→ρ j < N):∀ {ps:List Pat} {l l':List Dyn} {as:List TA},instL ρ ps l=some (as,l')→ltL m ps=true→wfL H N as
 | [],l,l',as,h,_=>by simp only [instL] at h;cases h;simp only [wfL]
 | p::ps,l,l',as,h,hl=>by
  simp only [instL] at h
  simp only [ltL,Bool.and_eq_true] at hl
  split at h
  ·rename_i a l2 hi
   split at h
   ·rename_i bs l3 hj
    cases h
    simp only [wfL]
    exact ⟨inst_wf hρ hi hl.1,instL_wf hρ hj hl.2⟩
   ·cases h
  ·cases h
end
theorem instBs_wf {ρ:Nat→Nat} {m N:Nat} {H:List (Nat×TBlk)} (hρ:∀ j,j < m→ρ j < N):∀ {bs:List Bp} {j0:Nat} {l l':List Dyn} {q:List (Nat×TBlk)},instBs ρ bs j0 l=some (q,l')→bs.all (Bp.lt m)=true→∀ p,p∈q→wfL H N p.2.refs
 | [],j0,l,l',q,h,_,p,hp=>by simp only [instBs] at h;cases h;cases hp
 | b::r,j0,l,l',q,h,hl,p,hp=>by
  simp only [List.all_cons,Bool.and_eq_true] at hl
  by_cases hg:b=.gone
  ·subst hg
   simp only [instBs] at h
   exact instBs_wf hρ h hl.2 p hp
  ·rw [instBs_cons hg] at h
   split at h
   ·rename_i x l2 hb
    split at h
    ·rename_i q2 l3 hr
     cases h
     rcases List.mem_cons.1 hp with e | e
     ·subst e
      cases b with
      | gone=>exact absurd rfl hg
      | row t v=>
       simp only [instB] at hb
       split at hb
       ·split at hb
        ·cases hb;simp only [TBlk.refs,wfL]
        ·cases hb
       ·cases hb
      | dmap i=>
       simp only [instB] at hb
       split at hb
       ·split at hb
        ·cases hb;simp only [TBlk.refs,wfL]
        ·cases hb
       ·cases hb
      | boxd t=>
       simp only [instB] at hb
       split at hb
       ·split at hb
        ·cases hb
         exact wfL_iff.2 fun a ha=>by
          obtain ⟨y,_,rfl⟩:=List.mem_map.1 ha
          simp only [TA.wf]
        ·cases hb
       ·cases hb
      | box ps=>
       simp only [instB] at hb
       split at hb
       ·rename_i as l5 hi
        cases hb
        simp only [Bp.lt] at hl
        exact instL_wf hρ hi hl.1
       ·cases hb
     ·exact instBs_wf hρ hr hl.2 p e
    ·cases h
   ·cases h
theorem lookH_mem {H:List (Nat×TBlk)} {id:Nat} {b:TBlk} (h:lookH H id=some b):(id,b)∈H:=by
 induction H with
 | nil=>cases h
 | cons p H ih=>
  obtain ⟨j,x⟩:=p
  simp only [lookH] at h
  split at h
  ·rename_i e
   cases h
   rw [Nat.eq_of_beq_eq_true e];simp
  ·exact List.mem_cons_of_mem _ (ih h)
theorem freeze_ok {s:TSt} {act:Act} (hs:SR w F O μ K s.st ft act) {id:Nat} {t:Ty} {v:RV} {xs:List t.dn} (hb:lookH s.H id=some (.row t v xs)) {u:Value} (hv:VR w F μ K (rowAV v.b id xs.length (tsz t)) u) (hF:∀ b,F b→F' b)
  (hF2:s.st.H.live id→∀ b,ft id b→F' b) {K2:Nat→Prop}:VR w F' μ' K2 (.fs (tsz t) xs.length (rcells t xs)) u:=by
 rcases rowAV_cap hv with ⟨⟨_,rfl⟩,h2,h3⟩ | ⟨cap,sz,t',rfl,h2,hid,h4,h5,h6⟩
 ·rw [h2];exact .fsnil _ _ _ _
 ·have hb':s.st.H id=some (.row v.b (tsz t) xs.length (vcells v t xs)):=st_at hb
  have hl:(Blk.row v.b (tsz t) xs.length (vcells v t xs)).lies=true:=by
   cases hvb:v.b with
   | false=>rfl
   | true=>simpa [Blk.lies] using h6 hvb
  have hlv:s.st.H.live id:=⟨_,hb',hl⟩
  obtain ⟨ob,hob,cs,t2,S,rfl,hB⟩:=hs.hr.blk id _ hb' hl
  have hcs:cap*tsz t≤cs.size:=by
   simp only [World.shape?,hob,Option.some.injEq,Prod.mk.injEq] at h4
   rw [h4.2];exact h5
  refine .fs _ _ _ (μ id) 0 cap (fun i j=>cs.getD (i*tsz t+j) undef) (hF2 hlv _ (hs.hr.self id hlv)) h2 (fun i j hi hj=>⟨?_,(hB.cell i j hi hj).2⟩) fun i j hi hj=>?_
  ·have h7:(i+1)*tsz t≤xs.length*tsz t:=Nat.mul_le_mul_right _ hi
   rw [Nat.add_mul,Nat.one_mul] at h7
   have h8:xs.length*tsz t≤cap*tsz t:=Nat.mul_le_mul_right _ h2
   have:i*tsz t+j < cs.size:=by omega
   simp [World.cell?,hob,this]
  ·have h9:=(hB.cell i j hi hj).1
   cases hd:v.d with
   | false=>
    have e:vcells v t xs i j=rcells t xs i j:=by simp only [vcells,hd]
    rw [e] at h9
    exact (h9.closed (rcells_noos _ _ _ _)).1.mono (fun _ _=>rfl) hF (fun _ h=>h.elim) (fun _ h=>h) fun _ h=>h.elim
   | true=>exact h9.freeze hF _ (rcells_dat t xs i j) (by simp only [vcells,hd]) fun b hb2=>hF2 hlv b ((hB.all b).2 (.inr ⟨i,j,hi,hj,hb2⟩))
structure Frame' where
 tms:List (Nat×Pat)
 bps:List Bp
def Frame'.tys (f:Frame'):List Ty:=tysL (f.tms.map (·.2))++tysB f.bps
def pin (m:Nat):Xs:=⟨(List.range m).map fun j=>(j,j),[]⟩
def Xs.good (e:Xs) (m N:Nat):Bool:=e.asc.all (fun p=>p.1.blt m&&p.2.blt N)&&e.fz.all fun id=>!(e.asc.any fun p=>Nat.beq p.2 id)
def extF (s:TSt) (m0:Nat) (f:Frame'):Option (List Dyn):=
 match extL s.H (f.tms.map (·.2)) (f.tms.map fun p=>look s.tm p.1) (pin m0) with
 | some (e1,d1)=>match extBs s.H f.bps 0 e1 with
  | some (e2,d2)=>if e2.good f.bps.length s.N&&(ltL f.bps.length (f.tms.map (·.2))&&f.bps.all (Bp.lt f.bps.length)) then some (d1++d2) else none
  | none=>none
 | none=>none
def instF (nt:Nat) (f:Frame') (ds:List Dyn):Option TSt:=
 match instL id (f.tms.map (·.2)) ds with
 | some (as,l)=>match instBs id f.bps 0 l with
  | some (H,[])=>some ⟨nt,f.bps.length,(f.tms.map (·.1)).zip as,H⟩
  | _=>none
 | none=>none
theorem look_zip {H H':List (Nat×TBlk)}:∀ {ks:List Nat} {as:List TA} {vs:List Value} {f:Nat→Value},VRs w F μ K (avL H as) vs→vs=ks.map f→∀ t,VR w F μ K ((look (ks.zip as) t).av H) (f t)
 | [],as,vs,f,h,hv,t=>by simp only [List.zip_nil_left,look,TA.av];exact .top _
 | k::ks,[],vs,f,h,hv,t=>by simp only [List.zip_nil_right,look,TA.av];exact .top _
 | k::ks,a::as,vs,f,h,hv,t=>by
  simp only [avL] at h
  obtain ⟨v,r,rfl,h1,h2⟩:=h.cons_inv
  simp only [List.map_cons,List.cons.injEq] at hv
  simp only [List.zip_cons_cons,look]
  cases e:Nat.beq t k with
  | true=>rw [Nat.eq_of_beq_eq_true e,← hv.1];exact h1
  | false=>exact look_zip (H':=H') h2 hv.2 t
theorem look_zip_wf {H:List (Nat×TBlk)} {N:Nat}:∀ {ks:List Nat} {as:List TA},wfL H N as→∀ t,(look (ks.zip as) t).wf H N
 | [],as,h,t=>by simp only [List.zip_nil_left,look,TA.wf]
 | k::ks,[],h,t=>by simp only [List.zip_nil_right,look,TA.wf]
 | k::ks,a::as,h,t=>by
  simp only [wfL] at h
  simp only [List.zip_cons_cons,look]
  cases Nat.beq t k with
  | true=>exact h.1
  | false=>exact look_zip_wf h.2 t
theorem pin_asg {m j:Nat} (h:j < m):asgOf (pin m).asc j=some j:=by
 have key:∀ (l:List Nat),j∈l→asgOf (l.map fun j=>(j,j)) j=some j:=by
  intro l
  induction l with
  | nil=>intro h;cases h
  | cons x l ih=>
   intro h
   simp only [List.map_cons,asgOf]
   cases e:Nat.beq j x with
   | true=>simp only [Nat.eq_of_beq_eq_true e]
   | false=>exact ih ((List.mem_cons.1 h).resolve_left (Nat.ne_of_beq_eq_false e))
 exact key _ (by simpa using h)
theorem pin_inj (m:Nat):(pin m).inj:=by
 have key:∀ (l:List Nat) (j id:Nat),asgOf (l.map fun j=>(j,j)) j=some id→id=j:=by
  intro l
  induction l with
  | nil=>intro j id h;cases h
  | cons x l ih=>
   intro j id h
   simp only [List.map_cons,asgOf] at h
   split at h
   ·rename_i e
    cases h
    exact (Nat.eq_of_beq_eq_true e).symm
   ·exact ih j id h
 intro j j' id h h'
 rw [← key _ j id h,← key _ j' id h']
def muX (e:Xs) (μ:Nat→Nat):Nat→Nat:=fun j=>μ ((asgOf e.asc j).getD 0)
def frX (s:TSt) (e:Xs) (F:Nat→Prop) (ft:Nat→Nat→Prop):Nat→Prop:=fun b=>F b∨∃ id,id∈e.fz∧s.st.H.live id∧ft id b
theorem reads_of {s:TSt} {act:Act} {e:Xs} {m:Nat} {H':List (Nat×TBlk)} (hs:SR w F O μ K s.st ft act) (hg:e.good m s.N=true) (hH:∀ p,p∈H'→BlkOk s.H H' e id p) (hi:e.inj):
  Reads w F μ K s.H e (frX s e F ft) (muX e μ) (fun j=>j < m) H' id where
 fF:=fun b h=>.inl h
 num:=fun j id' hj _=>by
  simp only [Xs.good,Bool.and_eq_true] at hg
  have h0:=List.all_eq_true.1 hg.1 _ (asgOf_mem hj)
  simp only [Bool.and_eq_true] at h0
  exact ⟨Nat.le_of_ble_eq_true h0.1,by simp only [muX,id,hj,Option.getD_some]⟩
 row:=fun j id' hj x hx=>by
  cases hb:lookH H' j with
  | none=>simp only [id,hb,shp] at hx;cases hx
  | some B'=>
   obtain ⟨j2,id2,B,h1,h2,h3,_,_,h4,_⟩:=hH _ (lookH_mem hb)
   simp only [id] at h1
   subst h1
   rw [hj] at h2
   cases h2
   rw [h3]
   simp only [id,hb] at hx
   exact h4 x hx
 fz:=fun id' hid t v xs hb u hv K2=>freeze_ok hs hb hv (fun b h=>.inl h) fun hl b hb'=>.inr ⟨id',hid,hl,hb'⟩
theorem canon_HR {s:TSt} {act:Act} {e:Xs} {m:Nat} {H':List (Nat×TBlk)} (hs:SR w F O μ (below s.N) s.st ft act) (hg:e.good m s.N=true) (hi:e.inj) (hH:∀ p,p∈H'→BlkOk s.H H' e id p) (hlt:∀ p,p∈H'→p.1 < m)
  (hall:∀ j,j < m→∃ id',asgOf e.asc j=some id'∧id' < s.N):
  HR w (frX s e F ft) (fun x=>∃ j id',asgOf e.asc j=some id'∧s.st.H.live id'∧ft id' x) (muX e μ) (below m) (hpT H') (fun j=>ft ((asgOf e.asc j).getD 0))∧
   ∀ x,(∃ j id',asgOf e.asc j=some id'∧s.st.H.live id'∧ft id' x)→O x:=by
 have rd:=reads_of (H':=H') hs hg hH hi
 have hr:=hs.hr
 have lv:∀ j b,(hpT H') j=some b→∃ (id':Nat) (B B':TBlk),asgOf e.asc j=some id'∧s.st.H id'=some (B.blk s.H)∧b=B'.blk H'∧(b.lies=true→(B.blk s.H).lies=true)∧
   ∀ {S n o},BlkR w F μ (below s.N) S n o (B.blk s.H)→BlkR w (frX s e F ft) (muX e μ) (fun j=>j < m) S n o b:=by
  intro j b hb
  obtain ⟨B',hl,hv,rfl⟩:=hpT_some hb
  obtain ⟨j2,id2,B,h1,h2,h3,h3v,_,_,h5,h6⟩:=hH _ (lookH_mem hl)
  simp only [id] at h1
  subst h1
  exact ⟨id2,B,B',h2,st_at h3 h3v,rfl,h5,fun {S n o} hB=>h6 rd hB⟩
 have live:∀ j,Hp.live (hpT H') j→∃ id',asgOf e.asc j=some id'∧s.st.H.live id':=by
  rintro j ⟨b,hb,hl⟩
  obtain ⟨id',B,B',h1,h2,h3,h4,_⟩:=lv j b hb
  exact ⟨id',h1,B.blk s.H,h2,h4 hl⟩
 have sub:∀ x,(∃ j id',asgOf e.asc j=some id'∧s.st.H.live id'∧ft id' x)→O x:=fun x ⟨j,id',_,h2,h3⟩=>hr.own id' h2 x h3
 refine ⟨{ lt:=fun j hj=>?_,known:=fun j b hb=>?_,blk:=fun j b hb hl=>?_,self:=fun j hl=>?_,own:=fun j hl x hx=>?_,dj:=fun j j' hl hl' x hx hx'=>?_,nof:=?_,wf:=?_,owf:=fun b h=>hr.owf b (sub b h),pos:=hr.pos.mono (Nat.le_refl _) (fun _ h=>.inl h) fun _ _=>rfl },sub⟩
 ·obtain ⟨id',h1,h2⟩:=hall j hj
  simp only [muX,h1,Option.getD_some]
  exact hr.lt id' h2
 ·obtain ⟨B',hl,_⟩:=hpT_some hb
  exact hlt _ (lookH_mem hl)
 ·obtain ⟨id',B,B',h1,h2,h3,h4,h5⟩:=lv j b hb
  obtain ⟨o,ho,hB⟩:=hr.blk id' (B.blk s.H) h2 (h4 hl)
  refine ⟨o,by simp only [muX,h1,Option.getD_some];exact ho,?_⟩
  simp only [muX,h1,Option.getD_some]
  exact h5 hB
 ·obtain ⟨id',h1,h2⟩:=live j hl
  simp only [muX,h1,Option.getD_some]
  exact hr.self id' h2
 ·obtain ⟨id',h1,h2⟩:=live j hl
  simp only [h1,Option.getD_some] at hx
  exact ⟨j,id',h1,h2,hx⟩
 ·obtain ⟨id',h1,h2⟩:=live j hl
  obtain ⟨id2,k1,k2⟩:=live j' hl'
  simp only [h1,k1,Option.getD_some] at hx hx'
  have:=hr.dj id' id2 h2 k2 x hx hx'
  subst this
  exact hi j j' id' h1 k1
 ·rintro b ⟨j,id',h1,h2,h3⟩ (h | ⟨id2,k1,k2,k3⟩)
  ·exact hr.nof b (hr.own id' h2 b h3) h
  ·have:=hr.dj id' id2 h2 k2 b h3 k3
   subst this
   simp only [Xs.good,Bool.and_eq_true] at hg
   have:=List.all_eq_true.1 hg.2 _ k1
   simp only [Bool.not_eq_true',List.any_eq_false] at this
   exact this _ (asgOf_mem h1) (by simp)
 ·rintro b (h | ⟨id2,k1,k2,k3⟩)
  ·exact hr.wf b h
  ·exact hr.owf b (hr.own id2 k2 b k3)
theorem canon_ok {s:TSt} {m0:Nat} {f:Frame'} {ds:List Dyn} (h:extF s m0 f=some ds) (hm0:m0≤s.N):
  ∃ s',instF s.nt f ds=some s'∧s'.ok∧s'.nt=s.nt∧m0≤s'.N∧∀ {w F O μ ft a},SR w F O μ (below s.N) s.st ft a→∃ F' O' μ' ft',SR w F' O' μ' (below s'.N) s'.st ft' a∧Fr w F O μ (below m0) w F' O' μ':=by
 unfold extF at h
 split at h
 ·rename_i e1 d1 h1
  split at h
  ·rename_i e2 d2 h2
   split at h
   ·rename_i hc
    simp only [Bool.and_eq_true] at hc
    cases h
    obtain ⟨hg,hl1,hl2⟩:=hc
    obtain ⟨bl,bi,ba,bq⟩:=extBs_ok (H':=[]) (ρ:=id) h2
    obtain ⟨q,q1,_⟩:=bq []
    rw [List.append_nil] at q1
    obtain ⟨bl,bi,ba,bq⟩:=extBs_ok (H':=q) (ρ:=id) h2
    obtain ⟨q',q1',q2⟩:=bq []
    rw [List.append_nil,q1] at q1'
    cases q1'
    obtain ⟨xl,xi,xb⟩:=extL_ok (H':=q) (ρ:=id) h1
    obtain ⟨as,a1,a2⟩:=xb d2
    have inj:=bi (xi (pin_inj m0))
    have pins:∀ j,j < m0→asgOf e2.asc j=some j:=fun j hj=>(xl.trans bl).asc j j (pin_asg hj)
    have hm:m0≤f.bps.length:=by
     rcases Nat.lt_or_ge f.bps.length m0 with h | h
     ·have h3:=pins f.bps.length h
      simp only [Xs.good,Bool.and_eq_true] at hg
      have h0:=List.all_eq_true.1 hg.1 _ (asgOf_mem h3)
      simp only [Bool.and_eq_true] at h0
      have:=Nat.le_of_ble_eq_true h0.1
      omega
     ·exact h
    refine ⟨⟨s.nt,f.bps.length,(f.tms.map (·.1)).zip as,q⟩,by simp only [instF,a1,q1],⟨fun t=>look_zip_wf (instL_wf (m:=f.bps.length) (fun j h=>h) a1 hl1) t,fun id l hl=>?_⟩,rfl,hm,fun {w F O μ ft a} hs=>?_⟩
    ·exact instBs_wf (m:=f.bps.length) (fun j h=>h) q1 hl2 _ (lookH_mem hl)
    ·have hH:∀ p,p∈q→BlkOk s.H q e2 id p:=fun p hp=>(q2 p hp).1
     have hall:∀ j,j < f.bps.length→∃ id',asgOf e2.asc j=some id'∧id' < s.N:=fun j hj=>by
      obtain ⟨id',h3⟩:=ba j hj
      rw [Nat.zero_add] at h3
      simp only [Xs.good,Bool.and_eq_true] at hg
      have h0:=List.all_eq_true.1 hg.1 _ (asgOf_mem h3)
      simp only [Bool.and_eq_true] at h0
      exact ⟨id',h3,Nat.le_of_ble_eq_true h0.2⟩
     obtain ⟨hr',sub⟩:=canon_HR (m:=f.bps.length) hs hg inj hH (fun p hp=>by
      obtain ⟨i,hi,e⟩:=(q2 p hp).2
      rw [e];simpa using hi) hall
     have rd:=reads_of (m:=f.bps.length) (H':=q) hs hg hH inj
     refine ⟨_,_,_,_,⟨hr',hs.nt,fun t=>?_,hs.df.sub sub fun b hb=>?_⟩,?_⟩
     ·have hv:VRs w F μ (below s.N) (avL s.H (f.tms.map fun p=>look s.tm p.1)) ((f.tms.map (·.1)).map fun t=>a.tmps.getD t undef):=by
       refine ⟨by rw [avL_length];simp,fun i hi=>?_⟩
       rw [avL_length] at hi
       rw [avL_getD _ _ _ hi]
       simp only [List.length_map] at hi
       have:=hs.tm (f.tms[i].1)
       simpa [List.getD,hi,TSt.st] using this
      exact look_zip (H':=q) (a2 (rd.of bl) hv) rfl t
     ·rcases hb with h | ⟨id2,k1,k2,k3⟩
      ·exact .inl h
      ·exact .inr (hs.hr.own id2 k2 b k3)
     ·refine { os:=rfl,tape:=rfl,output:=rfl,size:=Nat.le_refl _,mu:=fun j hj=>?_,froz:=fun b h=>.inl h,shape:=fun _ _=>rfl,same:=fun _ _ _=>rfl,onew:=fun x hx=>.inl (sub x hx),fnew:=?_ }
      ·simp only [muX,pins j hj,Option.getD_some]
      ·rintro b (h | ⟨id2,k1,k2,k3⟩)
       ·exact .inl h
       ·exact .inr (.inr (hs.hr.own id2 k2 b k3))
   ·cases h
  ·cases h
 ·cases h
end Go.Proofs.Ytljfmaaadnoggaa.Abs
