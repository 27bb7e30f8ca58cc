/- A region whose order Go leaves open: whatever the order, it comes to the state that the text's order gives, where no operation looks at what another one, apart from it, writes. No condition. -/
import Derived.Test.YtljfmaaadnoggaaVU
namespace Go.Proofs.Ytljfmaaadnoggaa.Abs
open Go Go.RowKit
variable {w w' w'':World} {F F' F'' O O' O'':Nat→Prop} {μ μ' μ'':Nat→Nat} {K K' K'':Nat→Prop} {H H' H'':Hp} {ft ft':Nat→Nat→Prop} {P:Program} {R:Type}
structure CertI (P:Program) (ops:List Oper) (B:Array Nat) (tch:List (Nat×List Nat)) (s:SSt) (q:List RE) (e:RE) (o:Oper):Prop where
 d:e.d=o.dst
 ok:(match o.dst with | some t=>t.blt s.nt | none=>true)=true
 tou:∀ id,id∈e.up.map (·.1)→id∈tchOf tch q.length
 run:∃ M:SSt,M.nt=s.nt∧(∀ t,M.tm t=.top∨(hidT B q.length t 0 ops=false∧M.tm t=ovT (bit B q.length) s.tm q t))∧(∀ id,M.H id=none∨(hidH B q.length id tch=false∧M.H id=ovH (bit B q.length) s.H q id))∧
  (((∀ {w F O μ K ft a},SR w F O μ K M ft a→Region.wanted o (yielded ⟨ops⟩ a.tmps)=false)∧e.v=.lit undef∧e.up=[]∧e.k=0)∨
   ((∀ {w F O μ K ft a},SR w F O μ K M ft a→Region.wanted o (yielded ⟨ops⟩ a.tmps)=true)∧∃ rv upA,OpOk P o M ⟨rv,upA,List.range' e.N e.k⟩∧Imp rv e.v∧(∀ id,id∈upA.map (·.1)→id∈e.up.map (·.1))∧
    (∀ id b',id∈e.up.map (·.1)→Hp.upd s.H e.up id=some b'→∃ b,(M.H.upd upA) id=some b∧BImp b b')∧∀ c,o.op≠.defer c))
theorem kD_low {N0:Nat} {D:Nat→Bool} {id:Nat} (h:id < N0):∀ {rs:List RE},kD D N0 rs id
 | []=>h
 | _::_=>.inl (kD_low h)
structure CertX (ops:List Oper) (B:Array Nat) (tch:List (Nat×List Nat)) (s:SSt) (q:List RE) (e:RE) (o:Oper) (Z:SSt→Prop):Prop where
 d:e.d=o.dst
 tou:∀ id,id∈e.up.map (·.1)→id∈tchOf tch q.length
 run:∃ M:SSt,M.nt=s.nt∧(∀ t,M.tm t=.top∨(hidT B q.length t 0 ops=false∧M.tm t=ovT (bit B q.length) s.tm q t))∧(∀ id,M.H id=none∨(hidH B q.length id tch=false∧M.H id=ovH (bit B q.length) s.H q id))∧Z M
theorem draw_any {ops:List Oper} {B:Array Nat} {tch:List (Nat×List Nat)} {s:SSt} {rs:List RE} {N m0:Nat} {Q:Exit→Act→World→Prop} (hst:statOk ops B tch=true) (hwf:wfN s.N rs N) (hm0:m0≤s.N) (hlen:rs.length=ops.length)
  {X:Nat→Bool} {Φ:(Nat→Bool)→Prop} {Z:Nat→SSt→Prop} (hΦ:∀ D i,Φ D→X i=false→Φ (more D i))
  (hcert:∀ i o,ops[i]?=some o→∃ e q,reAt rs i=some e∧q.length=i∧Suf q rs∧((X i=false∧CertI P ops B tch s q e o)∨(X i=true∧CertX ops B tch s q e o (Z i)))) {w0:World} {F0 O0:Nat→Prop} {μ0:Nat→Nat} {ds0:List Deferred} {ro:Option Nat}
  (hesc:∀ i o M,ops[i]?=some o→X i=true→Z i M→∀ (fuel:Nat) (listed:Array Bool) (a:Act) (w:World) (F O:Nat→Prop) (μ:Nat→Nat) (ft:Nat→Nat→Prop),listed.size=ops.length→unl listed=fuel+1→(∀ i,lst listed i=true→∀ j,bit B i j=true→lst listed j=true)→
   lst listed i=false→(∀ j,bit B i j=true→lst listed j=true)→Φ (lst listed)→Less M (Js s rs (lst listed))→SR w F O μ (kD (lst listed) s.N rs) (Js s rs (lst listed)) ft a→Fr w0 F0 O0 μ0 (below m0) w F O μ→a.defers=ds0→
   wpOpIn (Wr ro) 0 P ⟨ops⟩ Q i (wpAnyIn (Wr ro) 0 P .any ⟨ops⟩ Q fuel (listed.setIfInBounds i true)) a w)
  (hQ:∀ w F O μ ft a,(∃ D,Φ D∧∀ j,j < ops.length→D j=true)→a.defers=ds0→SR w F O μ (below N) ⟨s.nt,N,ovT (fun _=>true) s.tm rs,ovH (fun _=>true) s.H rs⟩ ft a→Fr w0 F0 O0 μ0 (below m0) w F O μ→Q .normal a w):
  ∀ (fuel:Nat) (listed:Array Bool) (a:Act) (w:World) (F O:Nat→Prop) (μ:Nat→Nat) (ft:Nat→Nat→Prop),listed.size=ops.length→unl listed=fuel→(∀ i,lst listed i=true→∀ j,bit B i j=true→lst listed j=true)→
   SR w F O μ (kD (lst listed) s.N rs) (Js s rs (lst listed)) ft a→Fr w0 F0 O0 μ0 (below m0) w F O μ→a.defers=ds0→Φ (lst listed)→wpAnyIn (Wr ro) 0 P .any ⟨ops⟩ Q fuel listed a w:=by
 simp only [statOk,Bool.and_eq_true] at hst
 obtain ⟨hst1,hst2⟩:=hst
 have st:=fun i o ho=>go1_spec hst1 i o ho
 simp only [Nat.zero_add] at st
 intro fuel
 induction fuel with
 | zero=>
  intro listed a w F O μ ft hsz hun hcl hs hf hds hph
  have hall:∀ j,j < ops.length→lst listed j=true:=by
   intro j hj
   cases h:lst listed j with
   | true=>rfl
   | false=>have:=unl_set (hsz▸hj) h;omega
  refine ⟨?_,?_⟩
  ·unfold Region.ready
   rw [List.filter_eq_nil_iff]
   intro j hj
   have hj:j < ops.length:=by simpa using hj
   have h1:listed.getD j true=true:=by
    have:=hall j hj
    simp only [lst] at this
    have hlt:j < listed.size:=hsz▸hj
    simp [hlt] at this ⊢
    exact this
   rw [h1];simp
  ·have hk:kD (lst listed) s.N rs=below N:=by
    funext id
    exact propext (wfN_all hwf (fun j hj=>hall j (hlen▸hj)) id)
   have hT:ovT (lst listed) s.tm rs=ovT (fun _=>true) s.tm rs:=funext fun t=>ovT_congr fun j e hj _=>hall j (by have:=reAt_lt hj;omega)
   have hH:ovH (lst listed) s.H rs=ovH (fun _=>true) s.H rs:=funext fun t=>ovH_congr fun j e hj _=>hall j (by have:=reAt_lt hj;omega)
   have hs2:SR w F O μ (below N) ⟨s.nt,N,ovT (fun _=>true) s.tm rs,ovH (fun _=>true) s.H rs⟩ ft a:=by
    rw [← hk,← hT,← hH]
    exact { hr:=hs.hr,nt:=hs.nt,tm:=hs.tm,df:=hs.df }
   exact hQ w F O μ ft a ⟨lst listed,hph,hall⟩ hds hs2 hf
 | succ fuel ih=>
  intro listed a w F O μ ft hsz hun hcl hs hf hds hph
  refine ⟨fun hnil=>?_,fun i hi=>?_⟩
  ·
   exfalso
   have key:∀ m,m≤ops.length→∀ j,j < m→lst listed j=true:=by
    intro m
    induction m with
    | zero=>intro _ j hj;omega
    | succ m ihm=>
     intro hm j hj
     rcases Nat.lt_or_ge j m with h | h
     ·exact ihm (by omega) j h
     ·have hjm:j=m:=by omega
      subst hjm
      cases hl:lst listed j with
      | true=>rfl
      | false=>
       exfalso
       have hjo:j < ops.length:=by omega
       have hmem:j∈Region.ready .any ⟨ops⟩ listed:=by
        rw [mem_ready]
        refine ⟨?_,ops[j],by simp [hjo],fun e he hb=>?_⟩
        ·have hlt:j < listed.size:=hsz▸hjo
         simp only [lst] at hl
         simp [hlt] at hl ⊢
         exact hl
        ·exact ihm (by omega) e.on ((st j ops[j] (by simp [hjo])).1 e he hb)
       rw [hnil] at hmem
       cases hmem
   have hz:unl listed=0:=by
    unfold unl
    rw [List.countP_eq_zero]
    intro b hb
    obtain ⟨j,hj,rfl⟩:=List.mem_iff_getElem.1 hb
    have hj':j < listed.size:=by simpa using hj
    have:=key ops.length (Nat.le_refl _) j (hsz▸hj')
    simp only [lst] at this
    simp [hj'] at this ⊢
    exact this
   omega
  ·obtain ⟨hiun,o,hoi,hdeps⟩:=mem_ready.1 hi
   have hoi':ops[i]?=some o:=by simpa using hoi
   have hio:i < ops.length:=(List.getElem?_eq_some_iff.1 hoi').1
   have hil:i < listed.size:=hsz▸hio
   have hDi:lst listed i=false:=by
    simp only [lst]
    simp [hil] at hiun ⊢
    exact hiun
   obtain ⟨e,q,hre,hql,⟨p,hp⟩,hc⟩:=hcert i o hoi'
   obtain ⟨s1,s2,s3,s4⟩:=st i o hoi'
   have hB:∀ j,bit B i j=true→lst listed j=true:=by
    intro j hb
    obtain ⟨ed,h1,h2,h3⟩:=go3_spec s3 j (bit_lt s2 hb) hb
    have h4:lst listed ed.on=true:=hdeps ed (by simpa using h1) h2
    rcases h3 with h3 | h3
    ·rw [← h3];exact h4
    ·exact hcl ed.on h4 j h3
   have hnB:∀ j,lst listed j=true→bit B j i=false:=by
    intro j hj
    cases h:bit B j i with
    | false=>rfl
    | true=>have:=hcl j hj i h;rw [hDi] at this;cases this
   have hsmall:∀ j,q.length≤j→bit B q.length j=false:=by
    intro j hj
    cases h:bit B q.length j with
    | false=>rfl
    | true=>rw [hql] at h hj;have:=bit_lt s2 h;omega
   have recOp:∀ j e',reAt rs j=some e'→∃ o',ops[j]?=some o'∧e'.d=o'.dst∧∀ id,id∈e'.up.map (·.1)→id∈tchOf tch j:=by
    intro j e' hj
    have hjo:j < ops.length:=hlen▸reAt_lt hj
    obtain ⟨e2,q2,k1,k2,_,k4⟩:=hcert j ops[j] (by simp [hjo])
    rw [hj] at k1
    cases k1
    rcases k4 with ⟨_,k4⟩ | ⟨_,k4⟩
    ·exact ⟨ops[j],by simp [hjo],k4.d,fun id hid=>k2▸k4.tou id hid⟩
    ·exact ⟨ops[j],by simp [hjo],k4.d,fun id hid=>k2▸k4.tou id hid⟩
   have eqD:∀ j,j≠i→inc B i j=false→(lst listed j=bit B i j):=by
    intro j hne hinc
    simp only [inc,Bool.and_eq_false_iff,Bool.not_eq_false'] at hinc
    cases hl:lst listed j with
    | true=>
     rcases hinc with (h | h) | h
     ·exact absurd (Nat.eq_of_beq_eq_true h).symm hne
     ·exact h.symm
     ·rw [hnB j hl] at h;cases h
    | false=>
     cases h:bit B i j with
     | false=>rfl
     | true=>rw [hB j h] at hl;cases hl
   have hless0:∀ M:SSt,M.nt=s.nt→(∀ t,M.tm t=.top∨(hidT B q.length t 0 ops=false∧M.tm t=ovT (bit B q.length) s.tm q t))→(∀ id,M.H id=none∨(hidH B q.length id tch=false∧M.H id=ovH (bit B q.length) s.H q id))→Less M (Js s rs (lst listed)):=by
    intro M hM1 hM2 hM3
    refine ⟨hM1,fun t=>?_,fun id=>?_⟩
    ·rcases hM2 t with hh | ⟨hh,hv⟩
     ·rw [hh];exact Imp.top _
     ·have:ovT (lst listed) s.tm rs t=M.tm t:=by
       rw [hv,← ovT_suf (p:=p) (s0:=s.tm) (t:=t) (D:=bit B q.length) hsmall,← hp]
       refine (ovT_congr fun j e' hj hd=>?_).symm
       obtain ⟨o',ho',hdo,_⟩:=recOp j e' hj
       have hinc:=hidT_false hh j o' ho' (hdo▸hd)
       rw [Nat.zero_add,hql] at hinc
       rw [hql]
       by_cases hji:j=i
       ·subst hji
        rw [hDi]
        cases h:bit B j j with
        | false=>rfl
        | true=>have:=bit_lt s2 h;omega
       ·exact (eqD j hji hinc).symm
      show Imp (ovT (lst listed) s.tm rs t) (M.tm t)
      rw [this]
      exact Imp.refl _
    ·rcases hM3 id with hh | ⟨hh,hv⟩
     ·exact .inl hh
     ·refine .inr ?_
      rw [hv]
      show _=ovH (lst listed) s.H rs id
      rw [← ovH_suf (p:=p) (H0:=s.H) (id:=id) (D:=bit B q.length) hsmall,← hp]
      refine ovH_congr fun j e' hj hd=>?_
      obtain ⟨o',ho',_,hto⟩:=recOp j e' hj
      obtain ⟨pp,hpp,hpj,hpid⟩:=tchOf_mem (hto id hd)
      have hinc:=hidH_false hh pp hpp hpid
      rw [hpj,hql] at hinc
      rw [hql]
      by_cases hji:j=i
      ·subst hji
       rw [hDi]
       cases h:bit B j j with
       | false=>rfl
       | true=>have:=bit_lt s2 h;omega
      ·exact (eqD j hji hinc).symm
   rcases hc with ⟨hXi,hc⟩ | ⟨hXi,hcx⟩
   case inr=>
    obtain ⟨M,hM1,hM2,hM3,hZ⟩:=hcx.run
    exact hesc i o M hoi' hXi hZ fuel listed a w F O μ ft hsz hun hcl hDi hB hph (hless0 M hM1 hM2 hM3) hs hf hds
   obtain ⟨M,hM1,hM2,hM3,hrun⟩:=hc.run
   have hless:=hless0 M hM1 hM2 hM3
   have hsm:=hs.less hless
   have nT:∀ j e',reAt rs j=some e'→i < j→lst listed j=true→e'.d=e.d→e.d=none:=by
    intro j e' hj hij hl hde
    cases hd:e.d with
    | none=>rfl
    | some t=>
     obtain ⟨o',ho',hdo,_⟩:=recOp j e' hj
     have hb:=go2_spec ((st j o' ho').2.2.2) i o hoi' (by omega) t (by rw [← hdo,hde,hd]) (by rw [← hc.d,hd])
     rw [Nat.zero_add,hnB j hl] at hb
     cases hb
   have nH:∀ j e' id,reAt rs j=some e'→i < j→lst listed j=true→id∈e'.up.map (·.1)→id ∉ e.up.map (·.1):=by
    intro j e' id hj hij hl hid hid'
    obtain ⟨o',ho',_,hto⟩:=recOp j e' hj
    obtain ⟨o2,ho2,_,hto2⟩:=recOp i e hre
    obtain ⟨p1,hp1,hpj,hpid⟩:=tchOf_mem (hto id hid)
    obtain ⟨p2,hp2,hpj2,hpid2⟩:=tchOf_mem (hto2 id hid')
    simp only [List.all_eq_true] at hst2
    have h1:=hst2 p1 hp1 p2 hp2
    rw [hpj,hpj2] at h1
    have h2:i.blt j=true:=Nat.ble_eq_true_of_le hij
    have h3:(p1.2.any fun x=>p2.2.any fun y=>Nat.beq x y)=true:=
     List.any_eq_true.2 ⟨id,hpid,List.any_eq_true.2 ⟨id,hpid2,by simp⟩⟩
    rw [h2,h3,hnB j hl] at h1
    cases h1
   have hun':unl (listed.setIfInBounds i true)=fuel:=by have:=unl_set hil hDi;omega
   have hcl':∀ k,lst (listed.setIfInBounds i true) k=true→∀ j,bit B k j=true→lst (listed.setIfInBounds i true) j=true:=by
    rw [lst_more hil]
    intro k hk j hb
    simp only [more] at hk ⊢
    split
    ·rfl
    ·split at hk
     ·rename_i hki;subst hki;exact hB j hb
     ·exact hcl k hk j hb
   have goOn:∀ (v:Value) (w':World) (F' O':Nat→Prop) (μ':Nat→Nat) (ft':Nat→Nat→Prop),VR w' F' μ' (kD (more (lst listed) i) s.N rs) e.v v→HR w' F' O' μ' (kD (more (lst listed) i) s.N rs) (ovH (more (lst listed) i) s.H rs) ft'→
     (∀ x u,VR w F μ (kD (lst listed) s.N rs) x u→VR w' F' μ' (kD (more (lst listed) i) s.N rs) x u)→Fr w0 F0 O0 μ0 (below m0) w' F' O' μ'→DfOk w' F' O' a.defers→
     wpAnyIn (Wr ro) 0 P .any ⟨ops⟩ Q fuel (listed.setIfInBounds i true) (a.put o.dst v) w':=by
    intro v w' F' O' μ' ft' hv hr hup hf' hdf
    have hpd:(a.put o.dst v).defers=a.defers:=by cases o.dst<;>rfl
    refine ih _ _ _ F' O' μ' ft' (by simp [hsz]) hun' hcl' ?_ hf' (hpd.trans hds) (by rw [lst_more hil];exact hΦ _ _ hph hXi)
    rw [lst_more hil]
    refine { hr:=hr,nt:=?_,tm:=fun t=>?_,df:=?_ }
    ·have:(a.put o.dst v).tmps.size=a.tmps.size:=by cases o.dst<;>simp [Act.put]
     exact this.trans hs.nt
    ·show VR w' F' μ' _ (ovT (more (lst listed) i) s.tm rs t) _
     rw [ovT_more hre nT hDi t]
     cases hd:isD e.d t with
     | true=>
      have h1:o.dst=some t:=hc.d▸isD_iff.1 hd
      have h2:t < a.tmps.size:=by
       have:=hc.ok
       rw [h1] at this
       have:=Nat.le_of_ble_eq_true this
       rw [hs.nt];exact this
      simpa [Act.put,h1,h2] using hv
     | false=>
      have h1:o.dst≠some t:=fun h=>by
       rw [← hc.d] at h
       rw [isD_iff.2 h] at hd;cases hd
      have h3:(a.put o.dst v).tmps.getD t undef=a.tmps.getD t undef:=by
       cases hdd:o.dst with
       | none=>rfl
       | some d=>
        have:d≠t:=fun h=>h1 (by rw [hdd,h])
        simp [Act.put,Array.getElem?_setIfInBounds_ne this]
      rw [h3]
      exact hup _ _ (hs.tm t)
    ·rw [hpd];exact hdf
   unfold wpOpIn
   rw [hoi]
   simp only
   rcases hrun with ⟨hw,hv0,hu0,hk0⟩ | ⟨hw,rv,upA,hok,hvv,hin,hblk,hnd⟩
   ·rw [hw hsm]
    simp only [Bool.false_eq_true,if_false]
    have eK:kD (more (lst listed) i) s.N rs=kD (lst listed) s.N rs:=by
     funext id
     refine propext ((kD_more hre id).trans ⟨fun h=>?_,fun h=>.inl h⟩)
     rcases h with h | ⟨h1,h2⟩
     ·exact h
     ·rw [hk0] at h2;omega
    have eH:ovH (more (lst listed) i) s.H rs=ovH (lst listed) s.H rs:=by
     funext id
     rw [ovH_more hre nH hDi id,hu0]
     rfl
    refine ⟨fun _ _=>trivial,goOn undef w F O μ ft ?_ ?_ ?_ hf hs.df⟩
    ·rw [hv0];exact .lit _
    ·rw [eK,eH];exact hs.hr
    ·rw [eK];exact fun _ _ h=>h
   ·rw [hw hsm]
    simp only [if_true]
    refine op_in hnd ?_
    have hok':OpOk P o (Js s rs (lst listed)) ⟨rv,upA,List.range' e.N e.k⟩:=OpOk.more hok hless
    have eK:plus (kD (lst listed) s.N rs) (List.range' e.N e.k)=kD (more (lst listed) i) s.N rs:=by
     funext id
     refine propext (Iff.trans ?_ (kD_more hre id).symm)
     simp only [plus,List.mem_range'_1]
    refine hok' w F O μ _ ft a hs (fun id hid hk=>?_) _ _ fun v w' F' O' μ' ft' hv hr hf'=>?_
    ·simp only [List.mem_range'_1] at hid
     exact wfN_fresh hDi hwf hre hk hid
    ·have hup:∀ x u,VR w F μ (kD (lst listed) s.N rs) x u→VR w' F' μ' (kD (more (lst listed) i) s.N rs) x u:=fun x u hx=>eK▸hx.step hs.hr hf' fun id h=>.inl h
     simp only [eK] at hv hr
     refine goOn v w' F' O' μ' ft' (hvv hv) (hr.imp fun id b' hb=>?_) hup (hf.trans (hf'.pin fun id (hid:id < m0)=>kD_low (show id < s.N by omega))) (hs.df.step hf')
     rw [ovH_more hre nH hDi id] at hb
     have same:∀ x,(s.H.upd x) id=(s.H.upd x) id:=fun _=>rfl
     rcases Hp.upd_mem s.H id upA with ⟨h1,h2⟩ | ⟨h1,h2⟩
     ·rw [hasId_iff.2 (hin id h1)] at hb
      obtain ⟨b,k1,k2⟩:=hblk id b' (hin id h1) hb
      refine ⟨b,?_,k2⟩
      have e1:=h2 M.H
      have e2:=h2 (Js s rs (lst listed)).H
      show (Js s rs (lst listed)).H.upd upA id=some b
      rw [e2,← e1];exact k1
     ·have e1:=h2 M.H
      have e2:=h2 (Js s rs (lst listed)).H
      cases hh:hasId e.up id with
      | false=>
       rw [hh] at hb
       refine ⟨b',?_,BImp.refl _⟩
       show (Js s rs (lst listed)).H.upd upA id=some b'
       rw [e2];exact hb
      | true=>
       rw [hh] at hb
       obtain ⟨b,k1,k2⟩:=hblk id b' (hasId_iff.1 hh) hb
       refine ⟨b,?_,k2⟩
       show (Js s rs (lst listed)).H.upd upA id=some b
       rw [e1] at k1
       rw [e2]
       rcases hless.H id with h3 | h3
       ·rw [h3] at k1;cases k1
       ·rw [← h3];exact k1
end Go.Proofs.Ytljfmaaadnoggaa.Abs
