/- A region whose order Go leaves open: whatever the order, it comes to the state that the text's order gives, where no operation looks at what another one, apart from it, writes. No condition. -/
import Derived.Test.YtljfmaaadnoggaaGreatDoorVU
namespace Go.Proofs.YtljfmaaadnoggaaGreatDoor.cX
open Go Go.RowKit
variable {w w' xW:World} {F F' Cq O O' wx:Nat→Prop} {μ bC kZ:Nat→Nat} {K K' Gg:Nat→Prop} {H H' H'':Hp} {ft b8:Nat→Nat→Prop} {P:Program} {R:Type}
structure Sx (P:Program) (ops:List Oper) (B:Array Nat) (eY:List (Nat×List Nat)) (s:fU) (q:List RE) (e:RE) (o:Oper):Prop where
 d:e.d=o.dst
 ok:(match o.dst with | some t=>t.blt s.nt | none=>true)=true
 tou:∀ id,id∈e.up.map (·.1)→id∈x4 eY q.length
 run:∃ M:fU,M.nt=s.nt∧(∀ t,M.tm t=.top∨(JU B q.length t 0 ops=false∧M.tm t=BB (bit B q.length) s.tm q t))∧(∀ id,M.H id=none∨(Ig B q.length id eY=false∧M.H id=z6 (bit B q.length) s.H q id))∧
  (((∀ {w F O μ K ft a},SR w F O μ K M ft a→Region.wanted o (yielded ⟨ops⟩ a.tmps)=false)∧e.v=.lit undef∧e.up=[]∧e.k=0)∨
   ((∀ {w F O μ K ft a},SR w F O μ K M ft a→Region.wanted o (yielded ⟨ops⟩ a.tmps)=true)∧∃ rv N8,de P o M ⟨rv,N8,List.range' e.N e.k⟩∧iu rv e.v∧(∀ id,id∈N8.map (·.1)→id∈e.up.map (·.1))∧
    (∀ id b',id∈e.up.map (·.1)→Hp.c_ s.H e.up id=some b'→∃ b,(M.H.c_ N8) id=some b∧eV b b')∧∀ c,o.op≠.defer c))
theorem Ym {N0:Nat} {D:Nat→Bool} {id:Nat} (h:id < N0):∀ {rs:List RE},kD D N0 rs id
 | []=>h
 | _::_=>.inl (Ym h)
structure ae9 (ops:List Oper) (B:Array Nat) (eY:List (Nat×List Nat)) (s:fU) (q:List RE) (e:RE) (o:Oper) (Z:fU→Prop):Prop where
 d:e.d=o.dst
 tou:∀ id,id∈e.up.map (·.1)→id∈x4 eY q.length
 run:∃ M:fU,M.nt=s.nt∧(∀ t,M.tm t=.top∨(JU B q.length t 0 ops=false∧M.tm t=BB (bit B q.length) s.tm q t))∧(∀ id,M.H id=none∨(Ig B q.length id eY=false∧M.H id=z6 (bit B q.length) s.H q id))∧Z M
theorem Qt {ops:List Oper} {B:Array Nat} {eY:List (Nat×List Nat)} {s:fU} {rs:List RE} {N m0:Nat} {Q:Exit→Act→World→Prop} (wq:tw ops B eY=true) (hwf:wfN s.N rs N) (hm0:m0≤s.N) (hlen:rs.length=ops.length)
  {X:Nat→Bool} {Φ:(Nat→Bool)→Prop} {Z:Nat→fU→Prop} (hΦ:∀ D i,Φ D→X i=false→Φ (more D i))
  (Sy:∀ i o,ops[i]?=some o→∃ e q,er rs i=some e∧q.length=i∧Suf q rs∧((X i=false∧Sx P ops B eY s q e o)∨(X i=true∧ae9 ops B eY s q e o (Z i)))) {w0:World} {F0 O0:Nat→Prop} {μ0:Nat→Nat} {ds0:List Deferred} {ro:Option Nat}
  (ajn:∀ i o M,ops[i]?=some o→X i=true→Z i M→∀ (fuel:Nat) (listed:Array Bool) (a:Act) (w:World) (F O:Nat→Prop) (μ:Nat→Nat) (ft:Nat→Nat→Prop),listed.size=ops.length→unl listed=fuel+1→(∀ i,jG listed i=true→∀ j,bit B i j=true→jG listed j=true)→
   jG listed i=false→(∀ j,bit B i j=true→jG listed j=true)→Φ (jG listed)→aaw M (Js s rs (jG listed))→SR w F O μ (kD (jG listed) s.N rs) (Js s rs (jG listed)) ft a→Fr w0 F0 O0 μ0 (below m0) w F O μ→a.defers=ds0→
   wpOpIn (Wr ro) 0 P ⟨ops⟩ Q i (wpAnyIn (Wr ro) 0 P .any ⟨ops⟩ Q fuel (listed.setIfInBounds i true)) a w)
  (hQ:∀ w F O μ ft a,(∃ D,Φ D∧∀ j,j < ops.length→D j=true)→a.defers=ds0→SR w F O μ (below N) ⟨s.nt,N,BB (fun _=>true) s.tm rs,z6 (fun _=>true) s.H rs⟩ ft a→Fr w0 F0 O0 μ0 (below m0) w F O μ→Q .normal a w):
  ∀ (fuel:Nat) (listed:Array Bool) (a:Act) (w:World) (F O:Nat→Prop) (μ:Nat→Nat) (ft:Nat→Nat→Prop),listed.size=ops.length→unl listed=fuel→(∀ i,jG listed i=true→∀ j,bit B i j=true→jG listed j=true)→
   SR w F O μ (kD (jG listed) s.N rs) (Js s rs (jG listed)) ft a→Fr w0 F0 O0 μ0 (below m0) w F O μ→a.defers=ds0→Φ (jG listed)→wpAnyIn (Wr ro) 0 P .any ⟨ops⟩ Q fuel listed a w:=by
 simp only [tw,Bool.and_eq_true] at wq
 obtain ⟨aet,ahY⟩:=wq
 have st:=fun i o ho=>Ls aet i o ho
 simp only [Nat.zero_add] at st
 intro fuel
 induction fuel with
 | zero=>
  intro listed a w F O μ ft fL hun QR hs hf tC hph
  have n5:∀ j,j < ops.length→jG listed j=true:=by
   intro j hj
   cases h:jG listed j with
   | true=>rfl
   | false=>have:=Uo (fL▸hj) h;omega
  refine ⟨?_,?_⟩
  ·unfold Region.ready
   rw [List.filter_eq_nil_iff]
   intro j hj
   have hj:j < ops.length:=by simpa using hj
   have h1:listed.getD j true=true:=by
    have:=n5 j hj
    simp only [jG] at this
    have dQ:j < listed.size:=fL▸hj
    simp [dQ] at this ⊢
    exact this
   rw [h1];simp
  ·have hk:kD (jG listed) s.N rs=below N:=by
    funext id
    exact propext (Zy hwf (fun j hj=>n5 j (hlen▸hj)) id)
   have hT:BB (jG listed) s.tm rs=BB (fun _=>true) s.tm rs:=funext fun t=>uT fun j e hj _=>n5 j (by have:=jF hj;omega)
   have hH:z6 (jG listed) s.H rs=z6 (fun _=>true) s.H rs:=funext fun t=>CA fun j e hj _=>n5 j (by have:=jF hj;omega)
   have hs2:SR w F O μ (below N) ⟨s.nt,N,BB (fun _=>true) s.tm rs,z6 (fun _=>true) s.H rs⟩ ft a:=by
    rw [← hk,← hT,← hH]
    exact { hr:=hs.hr,nt:=hs.nt,tm:=hs.tm,df:=hs.df }
   exact hQ w F O μ ft a ⟨jG listed,hph,n5⟩ tC hs2 hf
 | succ fuel ih=>
  intro listed a w F O μ ft fL hun QR hs hf tC hph
  refine ⟨fun OS=>?_,fun i hi=>?_⟩
  ·
   exfalso
   have key:∀ m,m≤ops.length→∀ j,j < m→jG listed j=true:=by
    intro m
    induction m with
    | zero=>intro _ j hj;omega
    | succ m ihm=>
     intro hm j hj
     rcases Nat.lt_or_ge j m with h | h
     ·exact ihm (by omega) j h
     ·have hjm:j=m:=by omega
      subst hjm
      cases hl:jG listed j with
      | true=>rfl
      | false=>
       exfalso
       have hjo:j < ops.length:=by omega
       have MO:j∈Region.ready .any ⟨ops⟩ listed:=by
        rw [mem_ready]
        refine ⟨?_,ops[j],by simp [hjo],fun e he hb=>?_⟩
        ·have dQ:j < listed.size:=fL▸hjo
         simp only [jG] at hl
         simp [dQ] at hl ⊢
         exact hl
        ·exact ihm (by omega) e.on ((st j ops[j] (by simp [hjo])).1 e he hb)
       rw [OS] at MO
       cases MO
   have hz:unl listed=0:=by
    unfold unl
    rw [List.countP_eq_zero]
    intro b hb
    obtain ⟨j,hj,rfl⟩:=List.mem_iff_getElem.1 hb
    have ko:j < listed.size:=by simpa using hj
    have:=key ops.length (Nat.le_refl _) j (fL▸ko)
    simp only [jG] at this
    simp [ko] at this ⊢
    exact this
   omega
  ·obtain ⟨ahZ,o,hoi,ah0⟩:=mem_ready.1 hi
   have acU:ops[i]?=some o:=by simpa using hoi
   have MT:i < ops.length:=(List.getElem?_eq_some_iff.1 acU).1
   have hil:i < listed.size:=fL▸MT
   have hDi:jG listed i=false:=by
    simp only [jG]
    simp [hil] at ahZ ⊢
    exact ahZ
   obtain ⟨e,q,hre,J1,⟨p,hp⟩,hc⟩:=Sy i o acU
   obtain ⟨s1,s2,s3,s4⟩:=st i o acU
   have hB:∀ j,bit B i j=true→jG listed j=true:=by
    intro j hb
    obtain ⟨ed,h1,h2,h3⟩:=Wx s3 j (DE s2 hb) hb
    have h4:jG listed ed.on=true:=ah0 ed (by simpa using h1) h2
    rcases h3 with h3 | h3
    ·rw [← h3];exact h4
    ·exact QR ed.on h4 j h3
   have hnB:∀ j,jG listed j=true→bit B j i=false:=by
    intro j hj
    cases h:bit B j i with
    | false=>rfl
    | true=>have:=QR j hj i h;rw [hDi] at this;cases this
   have acV:∀ j,q.length≤j→bit B q.length j=false:=by
    intro j hj
    cases h:bit B q.length j with
    | false=>rfl
    | true=>rw [J1] at h hj;have:=DE s2 h;omega
   have Wy:∀ j e',er rs j=some e'→∃ o',ops[j]?=some o'∧e'.d=o'.dst∧∀ id,id∈e'.up.map (·.1)→id∈x4 eY j:=by
    intro j e' hj
    have hjo:j < ops.length:=hlen▸jF hj
    obtain ⟨e2,q2,k1,k2,_,k4⟩:=Sy j ops[j] (by simp [hjo])
    rw [hj] at k1
    cases k1
    rcases k4 with ⟨_,k4⟩ | ⟨_,k4⟩
    ·exact ⟨ops[j],by simp [hjo],k4.d,fun id cb=>k2▸k4.tou id cb⟩
    ·exact ⟨ops[j],by simp [hjo],k4.d,fun id cb=>k2▸k4.tou id cb⟩
   have eqD:∀ j,j≠i→inc B i j=false→(jG listed j=bit B i j):=by
    intro j pw DF
    simp only [inc,Bool.and_eq_false_iff,Bool.not_eq_false'] at DF
    cases hl:jG listed j with
    | true=>
     rcases DF with (h | h) | h
     ·exact absurd (Nat.eq_of_beq_eq_true h).symm pw
     ·exact h.symm
     ·rw [hnB j hl] at h;cases h
    | false=>
     cases h:bit B i j with
     | false=>rfl
     | true=>rw [hB j h] at hl;cases hl
   have acW:∀ M:fU,M.nt=s.nt→(∀ t,M.tm t=.top∨(JU B q.length t 0 ops=false∧M.tm t=BB (bit B q.length) s.tm q t))→(∀ id,M.H id=none∨(Ig B q.length id eY=false∧M.H id=z6 (bit B q.length) s.H q id))→aaw M (Js s rs (jG listed)):=by
    intro M hM1 hM2 hM3
    refine ⟨hM1,fun t=>?_,fun id=>?_⟩
    ·rcases hM2 t with hh | ⟨hh,hv⟩
     ·rw [hh];exact iu.top _
     ·have:BB (jG listed) s.tm rs t=M.tm t:=by
       rw [hv,← Zw (p:=p) (s0:=s.tm) (t:=t) (D:=bit B q.length) acV,← hp]
       refine (uT fun j e' hj hd=>?_).symm
       obtain ⟨o',LF,hdo,_⟩:=Wy j e' hj
       have DF:=JV hh j o' LF (hdo▸hd)
       rw [Nat.zero_add,J1] at DF
       rw [J1]
       by_cases hji:j=i
       ·subst hji
        rw [hDi]
        cases h:bit B j j with
        | false=>rfl
        | true=>have:=DE s2 h;omega
       ·exact (eqD j hji DF).symm
      show iu (BB (jG listed) s.tm rs t) (M.tm t)
      rw [this]
      exact iu.refl _
    ·rcases hM3 id with hh | ⟨hh,hv⟩
     ·exact .inl hh
     ·refine .inr ?_
      rw [hv]
      show _=z6 (jG listed) s.H rs id
      rw [← Zx (p:=p) (H0:=s.H) (id:=id) (D:=bit B q.length) acV,← hp]
      refine CA fun j e' hj hd=>?_
      obtain ⟨o',LF,_,hto⟩:=Wy j e' hj
      obtain ⟨pp,hpp,hpj,acX⟩:=Hd (hto id hd)
      have DF:=JW hh pp hpp acX
      rw [hpj,J1] at DF
      rw [J1]
      by_cases hji:j=i
      ·subst hji
       rw [hDi]
       cases h:bit B j j with
       | false=>rfl
       | true=>have:=DE s2 h;omega
      ·exact (eqD j hji DF).symm
   rcases hc with ⟨hXi,hc⟩ | ⟨hXi,hcx⟩
   case inr=>
    obtain ⟨M,hM1,hM2,hM3,hZ⟩:=hcx.run
    exact ajn i o M acU hXi hZ fuel listed a w F O μ ft fL hun QR hDi hB hph (acW M hM1 hM2 hM3) hs hf tC
   obtain ⟨M,hM1,hM2,hM3,mb⟩:=hc.run
   have Sz:=acW M hM1 hM2 hM3
   have hsm:=hs.less Sz
   have nT:∀ j e',er rs j=some e'→i < j→jG listed j=true→e'.d=e.d→e.d=none:=by
    intro j e' hj LH hl hde
    cases hd:e.d with
    | none=>rfl
    | some t=>
     obtain ⟨o',LF,hdo,_⟩:=Wy j e' hj
     have hb:=Ww ((st j o' LF).2.2.2) i o acU (by omega) t (by rw [← hdo,hde,hd]) (by rw [← hc.d,hd])
     rw [Nat.zero_add,hnB j hl] at hb
     cases hb
   have nH:∀ j e' id,er rs j=some e'→i < j→jG listed j=true→id∈e'.up.map (·.1)→id ∉ e.up.map (·.1):=by
    intro j e' id hj LH hl cb Ro
    obtain ⟨o',LF,_,hto⟩:=Wy j e' hj
    obtain ⟨o2,ho2,_,ajo⟩:=Wy i e hre
    obtain ⟨p1,hp1,hpj,acX⟩:=Hd (hto id cb)
    obtain ⟨p2,hp2,ajp,ah1⟩:=Hd (ajo id Ro)
    simp only [List.all_eq_true] at ahY
    have h1:=ahY p1 hp1 p2 hp2
    rw [hpj,ajp] at h1
    have h2:i.blt j=true:=Nat.ble_eq_true_of_le LH
    have h3:(p1.2.any fun x=>p2.2.any fun y=>Nat.beq x y)=true:=
     List.any_eq_true.2 ⟨id,acX,List.any_eq_true.2 ⟨id,ah1,by simp⟩⟩
    rw [h2,h3,hnB j hl] at h1
    cases h1
   have ajq:unl (listed.setIfInBounds i true)=fuel:=by have:=Uo hil hDi;omega
   have ajr:∀ k,jG (listed.setIfInBounds i true) k=true→∀ j,bit B k j=true→jG (listed.setIfInBounds i true) j=true:=by
    rw [Lt hil]
    intro k hk j hb
    simp only [more] at hk ⊢
    split
    ·rfl
    ·split at hk
     ·rename_i hki;subst hki;exact hB j hb
     ·exact QR k hk j hb
   have ah2:∀ (v:Value) (w':World) (F' O':Nat→Prop) (bC:Nat→Nat) (b8:Nat→Nat→Prop),VR w' F' bC (kD (more (jG listed) i) s.N rs) e.v v→HR w' F' O' bC (kD (more (jG listed) i) s.N rs) (z6 (more (jG listed) i) s.H rs) b8→
     (∀ x u,VR w F μ (kD (jG listed) s.N rs) x u→VR w' F' bC (kD (more (jG listed) i) s.N rs) x u)→Fr w0 F0 O0 μ0 (below m0) w' F' O' bC→wP w' F' O' a.defers→
     wpAnyIn (Wr ro) 0 P .any ⟨ops⟩ Q fuel (listed.setIfInBounds i true) (a.put o.dst v) w':=by
    intro v w' F' O' bC b8 hv hr XP hf' hdf
    have hpd:(a.put o.dst v).defers=a.defers:=by cases o.dst<;>rfl
    refine ih _ _ _ F' O' bC b8 (by simp [fL]) ajq ajr ?_ hf' (hpd.trans tC) (by rw [Lt hil];exact hΦ _ _ hph hXi)
    rw [Lt hil]
    refine { hr:=hr,nt:=?_,tm:=fun t=>?_,df:=?_ }
    ·have:(a.put o.dst v).tmps.size=a.tmps.size:=by cases o.dst<;>simp [Act.put]
     exact this.trans hs.nt
    ·show VR w' F' bC _ (BB (more (jG listed) i) s.tm rs t) _
     rw [Wv hre nT hDi t]
     cases hd:QU e.d t with
     | true=>
      have h1:o.dst=some t:=hc.d▸A_.1 hd
      have h2:t < a.tmps.size:=by
       have:=hc.ok
       rw [h1] at this
       have:=Nat.le_of_ble_eq_true this
       rw [hs.nt];exact this
      simpa [Act.put,h1,h2] using hv
     | false=>
      have h1:o.dst≠some t:=fun h=>by
       rw [← hc.d] at h
       rw [A_.2 h] at hd;cases hd
      have h3:(a.put o.dst v).tmps.getD t undef=a.tmps.getD t undef:=by
       cases hdd:o.dst with
       | none=>rfl
       | some d=>
        have:d≠t:=fun h=>h1 (by rw [hdd,h])
        simp [Act.put,Array.getElem?_setIfInBounds_ne this]
      rw [h3]
      exact XP _ _ (hs.tm t)
    ·rw [hpd];exact hdf
   unfold wpOpIn
   rw [hoi]
   simp only
   rcases mb with ⟨hw,hv0,hu0,Sq⟩ | ⟨hw,rv,N8,Eh,hvv,TT,XC,Ck⟩
   ·rw [hw hsm]
    simp only [Bool.false_eq_true,if_false]
    have eK:kD (more (jG listed) i) s.N rs=kD (jG listed) s.N rs:=by
     funext id
     refine propext ((Oy hre id).trans ⟨fun h=>?_,fun h=>.inl h⟩)
     rcases h with h | ⟨h1,h2⟩
     ·exact h
     ·rw [Sq] at h2;omega
    have eH:z6 (more (jG listed) i) s.H rs=z6 (jG listed) s.H rs:=by
     funext id
     rw [Qs hre nH hDi id,hu0]
     rfl
    refine ⟨fun _ _=>trivial,ah2 undef w F O μ ft ?_ ?_ ?_ hf hs.df⟩
    ·rw [hv0];exact .lit _
    ·rw [eK,eH];exact hs.hr
    ·rw [eK];exact fun _ _ h=>h
   ·rw [hw hsm]
    simp only [if_true]
    refine Wp Ck ?_
    have ajs:de P o (Js s rs (jG listed)) ⟨rv,N8,List.range' e.N e.k⟩:=de.more Eh Sz
    have eK:plus (kD (jG listed) s.N rs) (List.range' e.N e.k)=kD (more (jG listed) i) s.N rs:=by
     funext id
     refine propext (Iff.trans ?_ (Oy hre id).symm)
     simp only [plus,List.mem_range'_1]
    refine ajs w F O μ _ ft a hs (fun id cb hk=>?_) _ _ fun v w' F' O' bC b8 hv hr hf'=>?_
    ·simp only [List.mem_range'_1] at cb
     exact Sw hDi hwf hre hk cb
    ·have XP:∀ x u,VR w F μ (kD (jG listed) s.N rs) x u→VR w' F' bC (kD (more (jG listed) i) s.N rs) x u:=fun x u hx=>eK▸hx.step hs.hr hf' fun id h=>.inl h
     simp only [eK] at hv hr
     refine ah2 v w' F' O' bC b8 (hvv hv) (hr.imp fun id b' hb=>?_) XP (hf.trans (hf'.QQ fun id (cb:id < m0)=>Ym (show id < s.N by omega))) (hs.df.step hf')
     rw [Qs hre nH hDi id] at hb
     have same:∀ x,(s.H.c_ x) id=(s.H.c_ x) id:=fun _=>rfl
     rcases Hp.TM s.H id N8 with ⟨h1,h2⟩ | ⟨h1,h2⟩
     ·rw [uS.2 (TT id h1)] at hb
      obtain ⟨b,k1,k2⟩:=XC id b' (TT id h1) hb
      refine ⟨b,?_,k2⟩
      have e1:=h2 M.H
      have e2:=h2 (Js s rs (jG listed)).H
      show (Js s rs (jG listed)).H.c_ N8 id=some b
      rw [e2,← e1];exact k1
     ·have e1:=h2 M.H
      have e2:=h2 (Js s rs (jG listed)).H
      cases hh:z0 e.up id with
      | false=>
       rw [hh] at hb
       refine ⟨b',?_,eV.refl _⟩
       show (Js s rs (jG listed)).H.c_ N8 id=some b'
       rw [e2];exact hb
      | true=>
       rw [hh] at hb
       obtain ⟨b,k1,k2⟩:=XC id b' (uS.1 hh) hb
       refine ⟨b,?_,k2⟩
       show (Js s rs (jG listed)).H.c_ N8 id=some b
       rw [e1] at k1
       rw [e2]
       rcases Sz.H id with h3 | h3
       ·rw [h3] at k1;cases k1
       ·rw [← h3];exact k1
end Go.Proofs.YtljfmaaadnoggaaGreatDoor.cX
