/- A region whose order Go leaves open: whatever the order, it comes to the state that the text's order gives, where no operation looks at what another one, apart from it, writes. No condition. -/
import Derived.Test.YtljfmaaadnoggaaGreatDoorVU
namespace Go.Proofs.YtljfmaaadnoggaaGreatDoor.cU
open Go Go.RowKit
variable {w w' vP:World} {F F' Am O O' ux:Nat→Prop} {μ bB jV:Nat→Nat} {K K' DQ:Nat→Prop} {H H' H'':Hp} {ft b7:Nat→Nat→Prop} {P:Program} {R:Type}
structure P2 (P:Program) (ops:List Oper) (B:Array Nat) (eC:List (Nat×List Nat)) (s:fy) (q:List RE) (e:RE) (o:Oper):Prop where
 d:e.d=o.dst
 ok:(match o.dst with | some t=>t.blt s.nt | none=>true)=true
 tou:∀ id,id∈e.up.map (·.1)→id∈vU eC q.length
 run:∃ M:fy,M.nt=s.nt∧(∀ t,M.tm t=.top∨(Hv B q.length t 0 ops=false∧M.tm t=zy (bit B q.length) s.tm q t))∧(∀ id,M.H id=none∨(FG B q.length id eC=false∧M.H id=xU (bit B q.length) s.H q id))∧
  (((∀ {w F O μ K ft a},SR w F O μ K M ft a→Region.wanted o (yielded ⟨ops⟩ a.tmps)=false)∧e.v=.lit undef∧e.up=[]∧e.k=0)∨
   ((∀ {w F O μ K ft a},SR w F O μ K M ft a→Region.wanted o (yielded ⟨ops⟩ a.tmps)=true)∧∃ rv LO,db P o M ⟨rv,LO,List.range' e.N e.k⟩∧gZ rv e.v∧(∀ id,id∈LO.map (·.1)→id∈e.up.map (·.1))∧
    (∀ id b',id∈e.up.map (·.1)→Hp.c7 s.H e.up id=some b'→∃ b,(M.H.c7 LO) id=some b∧eD b b')∧∀ c,o.op≠.defer c))
theorem Vl {N0:Nat} {D:Nat→Bool} {id:Nat} (h:id < N0):∀ {rs:List RE},kD D N0 rs id
 | []=>h
 | _::_=>.inl (Vl h)
structure ach (ops:List Oper) (B:Array Nat) (eC:List (Nat×List Nat)) (s:fy) (q:List RE) (e:RE) (o:Oper) (Z:fy→Prop):Prop where
 d:e.d=o.dst
 tou:∀ id,id∈e.up.map (·.1)→id∈vU eC q.length
 run:∃ M:fy,M.nt=s.nt∧(∀ t,M.tm t=.top∨(Hv B q.length t 0 ops=false∧M.tm t=zy (bit B q.length) s.tm q t))∧(∀ id,M.H id=none∨(FG B q.length id eC=false∧M.H id=xU (bit B q.length) s.H q id))∧Z M
theorem NR {ops:List Oper} {B:Array Nat} {eC:List (Nat×List Nat)} {s:fy} {rs:List RE} {N m0:Nat} {Q:Exit→Act→World→Prop} (vQ:rL ops B eC=true) (hwf:Yo s.N rs N) (hm0:m0≤s.N) (hlen:rs.length=ops.length)
  {X:Nat→Bool} {Φ:(Nat→Bool)→Prop} {Z:Nat→fy→Prop} (XV:∀ D i,Φ D→X i=false→Φ (more D i))
  (P3:∀ i o,ops[i]?=some o→∃ e q,dU rs i=some e∧q.length=i∧XU q rs∧((X i=false∧P2 P ops B eC s q e o)∨(X i=true∧ach ops B eC s q e o (Z i)))) {w0:World} {F0 O0:Nat→Prop} {Zs:Nat→Nat} {ds0:List Deferred} {ro:Option Nat}
  (agq:∀ i o M,ops[i]?=some o→X i=true→Z i M→∀ (fuel:Nat) (listed:Array Bool) (a:Act) (w:World) (F O:Nat→Prop) (μ:Nat→Nat) (ft:Nat→Nat→Prop),listed.size=ops.length→unl listed=fuel+1→(∀ i,iQ listed i=true→∀ j,bit B i j=true→iQ listed j=true)→
   iQ listed i=false→(∀ j,bit B i j=true→iQ listed j=true)→Φ (iQ listed)→Xh M (Js s rs (iQ listed))→SR w F O μ (kD (iQ listed) s.N rs) (Js s rs (iQ listed)) ft a→Fr w0 F0 O0 Zs (below m0) w F O μ→a.defers=ds0→
   wpOpIn (Wr ro) 0 P ⟨ops⟩ Q i (wpAnyIn (Wr ro) 0 P .any ⟨ops⟩ Q fuel (listed.setIfInBounds i true)) a w)
  (hQ:∀ w F O μ ft a,(∃ D,Φ D∧∀ j,j < ops.length→D j=true)→a.defers=ds0→SR w F O μ (below N) ⟨s.nt,N,zy (fun _=>true) s.tm rs,xU (fun _=>true) s.H rs⟩ ft a→Fr w0 F0 O0 Zs (below m0) w F O μ→Q .normal a w):
  ∀ (fuel:Nat) (listed:Array Bool) (a:Act) (w:World) (F O:Nat→Prop) (μ:Nat→Nat) (ft:Nat→Nat→Prop),listed.size=ops.length→unl listed=fuel→(∀ i,iQ listed i=true→∀ j,bit B i j=true→iQ listed j=true)→
   SR w F O μ (kD (iQ listed) s.N rs) (Js s rs (iQ listed)) ft a→Fr w0 F0 O0 Zs (below m0) w F O μ→a.defers=ds0→Φ (iQ listed)→wpAnyIn (Wr ro) 0 P .any ⟨ops⟩ Q fuel listed a w:=by
 simp only [rL,Bool.and_eq_true] at vQ
 obtain ⟨abC,aeE⟩:=vQ
 have st:=fun i o ho=>I9 abC i o ho
 simp only [Nat.zero_add] at st
 intro fuel
 induction fuel with
 | zero=>
  intro listed a w F O μ ft fw hun Og hs hf rR hph
  have mC:∀ j,j < ops.length→iQ listed j=true:=by
   intro j hj
   cases h:iQ listed j with
   | true=>rfl
   | false=>have:=Rw (fw▸hj) h;omega
  refine ⟨?_,?_⟩
  ·unfold Region.ready
   rw [List.filter_eq_nil_iff]
   intro j hj
   have hj:j < ops.length:=by simpa using hj
   have h1:listed.getD j true=true:=by
    have:=mC j hj
    simp only [iQ] at this
    have dL:j < listed.size:=fw▸hj
    simp [dL] at this ⊢
    exact this
   rw [h1];simp
  ·have hk:kD (iQ listed) s.N rs=below N:=by
    funext id
    exact propext (Wn hwf (fun j hj=>mC j (hlen▸hj)) id)
   have hT:zy (iQ listed) s.tm rs=zy (fun _=>true) s.tm rs:=funext fun t=>sV fun j e hj _=>mC j (by have:=iP hj;omega)
   have hH:xU (iQ listed) s.H rs=xU (fun _=>true) s.H rs:=funext fun t=>Aw fun j e hj _=>mC j (by have:=iP hj;omega)
   have hs2:SR w F O μ (below N) ⟨s.nt,N,zy (fun _=>true) s.tm rs,xU (fun _=>true) s.H rs⟩ ft a:=by
    rw [← hk,← hT,← hH]
    exact { hr:=hs.hr,nt:=hs.nt,tm:=hs.tm,df:=hs.df }
   exact hQ w F O μ ft a ⟨iQ listed,hph,mC⟩ rR hs2 hf
 | succ fuel ih=>
  intro listed a w F O μ ft fw hun Og hs hf rR hph
  refine ⟨fun ady=>?_,fun i hi=>?_⟩
  ·
   exfalso
   have key:∀ m,m≤ops.length→∀ j,j < m→iQ listed j=true:=by
    intro m
    induction m with
    | zero=>intro _ j hj;omega
    | succ m ihm=>
     intro hm j hj
     rcases Nat.lt_or_ge j m with h | h
     ·exact ihm (by omega) j h
     ·have hjm:j=m:=by omega
      subst hjm
      cases hl:iQ listed j with
      | true=>rfl
      | false=>
       exfalso
       have hjo:j < ops.length:=by omega
       have Kw:j∈Region.ready .any ⟨ops⟩ listed:=by
        rw [mem_ready]
        refine ⟨?_,ops[j],by simp [hjo],fun e he hb=>?_⟩
        ·have dL:j < listed.size:=fw▸hjo
         simp only [iQ] at hl
         simp [dL] at hl ⊢
         exact hl
        ·exact ihm (by omega) e.on ((st j ops[j] (by simp [hjo])).1 e he hb)
       rw [ady] at Kw
       cases Kw
   have hz:unl listed=0:=by
    unfold unl
    rw [List.countP_eq_zero]
    intro b hb
    obtain ⟨j,hj,rfl⟩:=List.mem_iff_getElem.1 hb
    have lu:j < listed.size:=by simpa using hj
    have:=key ops.length (Nat.le_refl _) j (fw▸lu)
    simp only [iQ] at this
    simp [lu] at this ⊢
    exact this
   omega
  ·obtain ⟨aeF,o,Yg,aeG⟩:=mem_ready.1 hi
   have Z4:ops[i]?=some o:=by simpa using Yg
   have KB:i < ops.length:=(List.getElem?_eq_some_iff.1 Z4).1
   have hil:i < listed.size:=fw▸KB
   have Z5:iQ listed i=false:=by
    simp only [iQ]
    simp [hil] at aeF ⊢
    exact aeF
   obtain ⟨e,q,hre,HF,⟨p,hp⟩,hc⟩:=P3 i o Z4
   obtain ⟨s1,s2,s3,s4⟩:=st i o Z4
   have hB:∀ j,bit B i j=true→iQ listed j=true:=by
    intro j hb
    obtain ⟨ed,h1,h2,h3⟩:=TD s3 j (Bx s2 hb) hb
    have h4:iQ listed ed.on=true:=aeG ed (by simpa using h1) h2
    rcases h3 with h3 | h3
    ·rw [← h3];exact h4
    ·exact Og ed.on h4 j h3
   have hnB:∀ j,iQ listed j=true→bit B j i=false:=by
    intro j hj
    cases h:bit B j i with
    | false=>rfl
    | true=>have:=Og j hj i h;rw [Z5] at this;cases this
   have Z6:∀ j,q.length≤j→bit B q.length j=false:=by
    intro j hj
    cases h:bit B q.length j with
    | false=>rfl
    | true=>rw [HF] at h hj;have:=Bx s2 h;omega
   have TE:∀ j e',dU rs j=some e'→∃ o',ops[j]?=some o'∧e'.d=o'.dst∧∀ id,id∈e'.up.map (·.1)→id∈vU eC j:=by
    intro j e' hj
    have hjo:j < ops.length:=hlen▸iP hj
    obtain ⟨e2,q2,k1,k2,_,k4⟩:=P3 j ops[j] (by simp [hjo])
    rw [hj] at k1
    cases k1
    rcases k4 with ⟨_,k4⟩ | ⟨_,k4⟩
    ·exact ⟨ops[j],by simp [hjo],k4.d,fun id bY=>k2▸k4.tou id bY⟩
    ·exact ⟨ops[j],by simp [hjo],k4.d,fun id bY=>k2▸k4.tou id bY⟩
   have eqD:∀ j,j≠i→inc B i j=false→(iQ listed j=bit B i j):=by
    intro j o8 Bz
    simp only [inc,Bool.and_eq_false_iff,Bool.not_eq_false'] at Bz
    cases hl:iQ listed j with
    | true=>
     rcases Bz with (h | h) | h
     ·exact absurd (Nat.eq_of_beq_eq_true h).symm o8
     ·exact h.symm
     ·rw [hnB j hl] at h;cases h
    | false=>
     cases h:bit B i j with
     | false=>rfl
     | true=>rw [hB j h] at hl;cases hl
   have Z7:∀ M:fy,M.nt=s.nt→(∀ t,M.tm t=.top∨(Hv B q.length t 0 ops=false∧M.tm t=zy (bit B q.length) s.tm q t))→(∀ id,M.H id=none∨(FG B q.length id eC=false∧M.H id=xU (bit B q.length) s.H q id))→Xh M (Js s rs (iQ listed)):=by
    intro M hM1 hM2 hM3
    refine ⟨hM1,fun t=>?_,fun id=>?_⟩
    ·rcases hM2 t with hh | ⟨hh,hv⟩
     ·rw [hh];exact gZ.top _
     ·have:zy (iQ listed) s.tm rs t=M.tm t:=by
       rw [hv,← Wl (p:=p) (s0:=s.tm) (t:=t) (D:=bit B q.length) Z6,← hp]
       refine (sV fun j e' hj hd=>?_).symm
       obtain ⟨o',Jl,hdo,_⟩:=TE j e' hj
       have Bz:=Hw hh j o' Jl (hdo▸hd)
       rw [Nat.zero_add,HF] at Bz
       rw [HF]
       by_cases hji:j=i
       ·subst hji
        rw [Z5]
        cases h:bit B j j with
        | false=>rfl
        | true=>have:=Bx s2 h;omega
       ·exact (eqD j hji Bz).symm
      show gZ (zy (iQ listed) s.tm rs t) (M.tm t)
      rw [this]
      exact gZ.refl _
    ·rcases hM3 id with hh | ⟨hh,hv⟩
     ·exact .inl hh
     ·refine .inr ?_
      rw [hv]
      show _=xU (iQ listed) s.H rs id
      rw [← Wm (p:=p) (H0:=s.H) (id:=id) (D:=bit B q.length) Z6,← hp]
      refine Aw fun j e' hj hd=>?_
      obtain ⟨o',Jl,_,hto⟩:=TE j e' hj
      obtain ⟨pp,hpp,hpj,Z8⟩:=EE (hto id hd)
      have Bz:=Hy hh pp hpp Z8
      rw [hpj,HF] at Bz
      rw [HF]
      by_cases hji:j=i
      ·subst hji
       rw [Z5]
       cases h:bit B j j with
       | false=>rfl
       | true=>have:=Bx s2 h;omega
      ·exact (eqD j hji Bz).symm
   rcases hc with ⟨hXi,hc⟩ | ⟨hXi,hcx⟩
   case inr=>
    obtain ⟨M,hM1,hM2,hM3,hZ⟩:=hcx.run
    exact agq i o M Z4 hXi hZ fuel listed a w F O μ ft fw hun Og Z5 hB hph (Z7 M hM1 hM2 hM3) hs hf rR
   obtain ⟨M,hM1,hM2,hM3,lD⟩:=hc.run
   have P4:=Z7 M hM1 hM2 hM3
   have hsm:=hs.less P4
   have nT:∀ j e',dU rs j=some e'→i < j→iQ listed j=true→e'.d=e.d→e.d=none:=by
    intro j e' hj Lj hl hde
    cases hd:e.d with
    | none=>rfl
    | some t=>
     obtain ⟨o',Jl,hdo,_⟩:=TE j e' hj
     have hb:=TC ((st j o' Jl).2.2.2) i o Z4 (by omega) t (by rw [← hdo,hde,hd]) (by rw [← hc.d,hd])
     rw [Nat.zero_add,hnB j hl] at hb
     cases hb
   have nH:∀ j e' id,dU rs j=some e'→i < j→iQ listed j=true→id∈e'.up.map (·.1)→id ∉ e.up.map (·.1):=by
    intro j e' id hj Lj hl bY OQ
    obtain ⟨o',Jl,_,hto⟩:=TE j e' hj
    obtain ⟨o2,Yk,_,agr⟩:=TE i e hre
    obtain ⟨p1,hp1,hpj,Z8⟩:=EE (hto id bY)
    obtain ⟨p2,hp2,ags,aeH⟩:=EE (agr id OQ)
    simp only [List.all_eq_true] at aeE
    have h1:=aeE p1 hp1 p2 hp2
    rw [hpj,ags] at h1
    have h2:i.blt j=true:=Nat.ble_eq_true_of_le Lj
    have h3:(p1.2.any fun x=>p2.2.any fun y=>Nat.beq x y)=true:=
     List.any_eq_true.2 ⟨id,Z8,List.any_eq_true.2 ⟨id,aeH,by simp⟩⟩
    rw [h2,h3,hnB j hl] at h1
    cases h1
   have agt:unl (listed.setIfInBounds i true)=fuel:=by have:=Rw hil Z5;omega
   have agu:∀ k,iQ (listed.setIfInBounds i true) k=true→∀ j,bit B k j=true→iQ (listed.setIfInBounds i true) j=true:=by
    rw [I_ hil]
    intro k hk j hb
    simp only [more] at hk ⊢
    split
    ·rfl
    ·split at hk
     ·rename_i hki;subst hki;exact hB j hb
     ·exact Og k hk j hb
   have aeI:∀ (v:Value) (w':World) (F' O':Nat→Prop) (bB:Nat→Nat) (b7:Nat→Nat→Prop),VR w' F' bB (kD (more (iQ listed) i) s.N rs) e.v v→HR w' F' O' bB (kD (more (iQ listed) i) s.N rs) (xU (more (iQ listed) i) s.H rs) b7→
     (∀ x u,VR w F μ (kD (iQ listed) s.N rs) x u→VR w' F' bB (kD (more (iQ listed) i) s.N rs) x u)→Fr w0 F0 O0 Zs (below m0) w' F' O' bB→uO w' F' O' a.defers→
     wpAnyIn (Wr ro) 0 P .any ⟨ops⟩ Q fuel (listed.setIfInBounds i true) (a.put o.dst v) w':=by
    intro v w' F' O' bB b7 hv hr UP hf' hdf
    have hpd:(a.put o.dst v).defers=a.defers:=by cases o.dst<;>rfl
    refine ih _ _ _ F' O' bB b7 (by simp [fw]) agt agu ?_ hf' (hpd.trans rR) (by rw [I_ hil];exact XV _ _ hph hXi)
    rw [I_ hil]
    refine { hr:=hr,nt:=?_,tm:=fun t=>?_,df:=?_ }
    ·have:(a.put o.dst v).tmps.size=a.tmps.size:=by cases o.dst<;>simp [Act.put]
     exact this.trans hs.nt
    ·show VR w' F' bB _ (zy (more (iQ listed) i) s.tm rs t) _
     rw [TB hre nT Z5 t]
     cases hd:Ok e.d t with
     | true=>
      have h1:o.dst=some t:=hc.d▸y_.1 hd
      have h2:t < a.tmps.size:=by
       have:=hc.ok
       rw [h1] at this
       have:=Nat.le_of_ble_eq_true this
       rw [hs.nt];exact this
      simpa [Act.put,h1,h2] using hv
     | false=>
      have h1:o.dst≠some t:=fun h=>by
       rw [← hc.d] at h
       rw [y_.2 h] at hd;cases hd
      have h3:(a.put o.dst v).tmps.getD t undef=a.tmps.getD t undef:=by
       cases hdd:o.dst with
       | none=>rfl
       | some d=>
        have:d≠t:=fun h=>h1 (by rw [hdd,h])
        simp [Act.put,Array.getElem?_setIfInBounds_ne this]
      rw [h3]
      exact UP _ _ (hs.tm t)
    ·rw [hpd];exact hdf
   unfold wpOpIn
   rw [Yg]
   simp only
   rcases lD with ⟨hw,Yn,hu0,S_⟩ | ⟨hw,rv,LO,Du,hvv,Q2,UC,AL⟩
   ·rw [hw hsm]
    simp only [Bool.false_eq_true,if_false]
    have eK:kD (more (iQ listed) i) s.N rs=kD (iQ listed) s.N rs:=by
     funext id
     refine propext ((L8 hre id).trans ⟨fun h=>?_,fun h=>.inl h⟩)
     rcases h with h | ⟨h1,h2⟩
     ·exact h
     ·rw [S_] at h2;omega
    have eH:xU (more (iQ listed) i) s.H rs=xU (iQ listed) s.H rs:=by
     funext id
     rw [NQ hre nH Z5 id,hu0]
     rfl
    refine ⟨fun _ _=>trivial,aeI undef w F O μ ft ?_ ?_ ?_ hf hs.df⟩
    ·rw [Yn];exact .lit _
    ·rw [eK,eH];exact hs.hr
    ·rw [eK];exact fun _ _ h=>h
   ·rw [hw hsm]
    simp only [if_true]
    refine Tu AL ?_
    have agv:db P o (Js s rs (iQ listed)) ⟨rv,LO,List.range' e.N e.k⟩:=db.more Du P4
    have eK:plus (kD (iQ listed) s.N rs) (List.range' e.N e.k)=kD (more (iQ listed) i) s.N rs:=by
     funext id
     refine propext (Iff.trans ?_ (L8 hre id).symm)
     simp only [plus,List.mem_range'_1]
    refine agv w F O μ _ ft a hs (fun id bY hk=>?_) _ _ fun v w' F' O' bB b7 hv hr hf'=>?_
    ·simp only [List.mem_range'_1] at bY
     exact P0 Z5 hwf hre hk bY
    ·have UP:∀ x u,VR w F μ (kD (iQ listed) s.N rs) x u→VR w' F' bB (kD (more (iQ listed) i) s.N rs) x u:=fun x u hx=>eK▸hx.step hs.hr hf' fun id h=>.inl h
     simp only [eK] at hv hr
     refine aeI v w' F' O' bB b7 (hvv hv) (hr.imp fun id b' hb=>?_) UP (hf.trans (hf'.Of fun id (bY:id < m0)=>Vl (show id < s.N by omega))) (hs.df.step hf')
     rw [NQ hre nH Z5 id] at hb
     have same:∀ x,(s.H.c7 x) id=(s.H.c7 x) id:=fun _=>rfl
     rcases Hp.QU s.H id LO with ⟨h1,h2⟩ | ⟨h1,h2⟩
     ·rw [sU.2 (Q2 id h1)] at hb
      obtain ⟨b,k1,k2⟩:=UC id b' (Q2 id h1) hb
      refine ⟨b,?_,k2⟩
      have e1:=h2 M.H
      have e2:=h2 (Js s rs (iQ listed)).H
      show (Js s rs (iQ listed)).H.c7 LO id=some b
      rw [e2,← e1];exact k1
     ·have e1:=h2 M.H
      have e2:=h2 (Js s rs (iQ listed)).H
      cases hh:xT e.up id with
      | false=>
       rw [hh] at hb
       refine ⟨b',?_,eD.refl _⟩
       show (Js s rs (iQ listed)).H.c7 LO id=some b'
       rw [e2];exact hb
      | true=>
       rw [hh] at hb
       obtain ⟨b,k1,k2⟩:=UC id b' (sU.1 hh) hb
       refine ⟨b,?_,k2⟩
       show (Js s rs (iQ listed)).H.c7 LO id=some b
       rw [e1] at k1
       rw [e2]
       rcases P4.H id with h3 | h3
       ·rw [h3] at k1;cases k1
       ·rw [← h3];exact k1
end Go.Proofs.YtljfmaaadnoggaaGreatDoor.cU
