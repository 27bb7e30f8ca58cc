/- A region whose order Go leaves open: whatever the order, it comes to the state that the text's order gives, where no operation looks at what another one, apart from it, writes. No condition. -/
import Derived.Test.YtjkbbdldmdajkaaGreatDoorVU
namespace Go.Proofs.YtjkbbdldmdajkaaGreatDoor.c_
open Go Go.RowKit
variable {w w' xk:World} {F F' Bs O O' v8:Nat→Prop} {μ bC lG:Nat→Nat} {K K' EF:Nat→Prop} {H H' H'':Hp} {ft bZ:Nat→Nat→Prop} {P:Program} {R:Type}
structure Qr (P:Program) (ops:List Oper) (B:Array Nat) (fj:List (Nat×List Nat)) (s:fT) (q:List RE) (e:RE) (o:Oper):Prop where
 d:e.d=o.dst
 ok:(match o.dst with | some t=>t.blt s.nt | none=>true)=true
 tou:∀ id,id∈e.up.map (·.1)→id∈xp fj q.length
 run:∃ M:fT,M.nt=s.nt∧(∀ t,M.tm t=.top∨(H7 B q.length t 0 ops=false∧M.tm t=AA (bit B q.length) s.tm q t))∧(∀ id,M.H id=none∨(Gs B q.length id fj=false∧M.H id=y9 (bit B q.length) s.H q id))∧
  (((∀ {w F O μ K ft a},SR w F O μ K M ft a→Region.wanted o (yielded ⟨ops⟩ a.tmps)=false)∧e.v=.lit undef∧e.up=[]∧e.k=0)∨
   ((∀ {w F O μ K ft a},SR w F O μ K M ft a→Region.wanted o (yielded ⟨ops⟩ a.tmps)=true)∧∃ rv L4,dr P o M ⟨rv,L4,List.range' e.N e.k⟩∧il rv e.v∧(∀ id,id∈L4.map (·.1)→id∈e.up.map (·.1))∧
    (∀ id b',id∈e.up.map (·.1)→Hp.dh s.H e.up id=some b'→∃ b,(M.H.dh L4) id=some b∧eQ b b')∧∀ c,o.op≠.defer c))
theorem VU {N0:Nat} {D:Nat→Bool} {id:Nat} (h:id < N0):∀ {rs:List RE},kD D N0 rs id
 | []=>h
 | _::_=>.inl (VU h)
structure adg (ops:List Oper) (B:Array Nat) (fj:List (Nat×List Nat)) (s:fT) (q:List RE) (e:RE) (o:Oper) (Z:fT→Prop):Prop where
 d:e.d=o.dst
 tou:∀ id,id∈e.up.map (·.1)→id∈xp fj q.length
 run:∃ M:fT,M.nt=s.nt∧(∀ t,M.tm t=.top∨(H7 B q.length t 0 ops=false∧M.tm t=AA (bit B q.length) s.tm q t))∧(∀ id,M.H id=none∨(Gs B q.length id fj=false∧M.H id=y9 (bit B q.length) s.H q id))∧Z M
theorem Ow {ops:List Oper} {B:Array Nat} {fj:List (Nat×List Nat)} {s:fT} {rs:List RE} {N m0:Nat} {Q:Exit→Act→World→Prop} (xm:tl ops B fj=true) (hwf:Y6 s.N rs N) (hm0:m0≤s.N) (hlen:rs.length=ops.length)
  {X:Nat→Bool} {Φ:(Nat→Bool)→Prop} {Z:Nat→fT→Prop} (YD:∀ D i,Φ D→X i=false→Φ (more D i))
  (Qs:∀ i o,ops[i]?=some o→∃ e q,eU rs i=some e∧q.length=i∧YC q rs∧((X i=false∧Qr P ops B fj s q e o)∨(X i=true∧adg ops B fj s q e o (Z i)))) {w0:World} {F0 O0:Nat→Prop} {μ0:Nat→Nat} {ds0:List Deferred} {ro:Option Nat}
  (ag1:∀ i o M,ops[i]?=some o→X i=true→Z i M→∀ (fuel:Nat) (listed:Array Bool) (a:Act) (w:World) (F O:Nat→Prop) (μ:Nat→Nat) (ft:Nat→Nat→Prop),listed.size=ops.length→unl listed=fuel+1→(∀ i,jI listed i=true→∀ j,bit B i j=true→jI listed j=true)→
   jI listed i=false→(∀ j,bit B i j=true→jI listed j=true)→Φ (jI listed)→XZ M (Js s rs (jI listed))→SR w F O μ (kD (jI listed) s.N rs) (Js s rs (jI listed)) ft a→Fr w0 F0 O0 μ0 (below m0) w F O μ→a.defers=ds0→
   wpOpIn (Wr ro) 0 P ⟨ops⟩ Q i (wpAnyIn (Wr ro) 0 P .any ⟨ops⟩ Q fuel (listed.setIfInBounds i true)) a w)
  (hQ:∀ w F O μ ft a,(∃ D,Φ D∧∀ j,j < ops.length→D j=true)→a.defers=ds0→SR w F O μ (below N) ⟨s.nt,N,AA (fun _=>true) s.tm rs,y9 (fun _=>true) s.H rs⟩ ft a→Fr w0 F0 O0 μ0 (below m0) w F O μ→Q .normal a w):
  ∀ (fuel:Nat) (listed:Array Bool) (a:Act) (w:World) (F O:Nat→Prop) (μ:Nat→Nat) (ft:Nat→Nat→Prop),listed.size=ops.length→unl listed=fuel→(∀ i,jI listed i=true→∀ j,bit B i j=true→jI listed j=true)→
   SR w F O μ (kD (jI listed) s.N rs) (Js s rs (jI listed)) ft a→Fr w0 F0 O0 μ0 (below m0) w F O μ→a.defers=ds0→Φ (jI listed)→wpAnyIn (Wr ro) 0 P .any ⟨ops⟩ Q fuel listed a w:=by
 simp only [tl,Bool.and_eq_true] at xm;obtain ⟨acC,afB⟩:=xm;have st:=fun i o ho=>Jv acC i o ho;simp only [Nat.zero_add] at st;intro fuel
 induction fuel with
 | zero=>
  intro listed a w F O μ ft fV hun OU hs hf tt hph;have oy:∀ j,j < ops.length→jI listed j=true:=by
   intro j hj;cases h:jI listed j with
   | true=>rfl
   | false=>have:=R6 (fV▸hj) h;omega
  refine ⟨?_,?_⟩
  ·unfold Region.ready;rw [List.filter_eq_nil_iff];intro j hj;have hj:j < ops.length:=by simpa using hj
   have h1:listed.getD j true=true:=by
    have:=oy j hj;simp only [jI] at this;have dQ:j < listed.size:=fV▸hj;simp [dQ] at this ⊢;exact this
   rw [h1];simp
  ·have hk:kD (jI listed) s.N rs=below N:=by
    funext id;exact propext (WY hwf (fun j hj=>oy j (hlen▸hj)) id)
   have hT:AA (jI listed) s.tm rs=AA (fun _=>true) s.tm rs:=funext fun t=>uR fun j e hj _=>oy j (by have:=jH hj;omega);have hH:y9 (jI listed) s.H rs=y9 (fun _=>true) s.H rs:=funext fun t=>BC fun j e hj _=>oy j (by have:=jH hj;omega);have hs2:SR w F O μ (below N) ⟨s.nt,N,AA (fun _=>true) s.tm rs,y9 (fun _=>true) s.H rs⟩ ft a:=by
    rw [← hk,← hT,← hH];exact { hr:=hs.hr,nt:=hs.nt,tm:=hs.tm,df:=hs.df }
   exact hQ w F O μ ft a ⟨jI listed,hph,oy⟩ tt hs2 hf
 | succ fuel ih=>
  intro listed a w F O μ ft fV hun OU hs hf tt hph;refine ⟨fun aev=>?_,fun i hi=>?_⟩
  ·
   exfalso;have key:∀ m,m≤ops.length→∀ j,j < m→jI listed j=true:=by
    intro m
    induction m with
    | zero=>intro _ j hj;omega
    | succ m ihm=>
     intro hm j hj;rcases Nat.lt_or_ge j m with h | h
     ·exact ihm (by omega) j h
     ·have hjm:j=m:=by omega
      subst hjm;cases hl:jI listed j with
      | true=>rfl
      | false=>
       exfalso;have hjo:j < ops.length:=by omega
       have KM:j∈Region.ready .any ⟨ops⟩ listed:=by
        rw [mem_ready];refine ⟨?_,ops[j],by simp [hjo],fun e he hb=>?_⟩
        ·have dQ:j < listed.size:=fV▸hjo;simp only [jI] at hl;simp [dQ] at hl ⊢;exact hl
        ·exact ihm (by omega) e.on ((st j ops[j] (by simp [hjo])).1 e he hb)
       rw [aev] at KM;cases KM
   have hz:unl listed=0:=by
    unfold unl;rw [List.countP_eq_zero];intro b hb;obtain ⟨j,hj,rfl⟩:=List.mem_iff_getElem.1 hb;have mR:j < listed.size:=by simpa using hj
    have:=key ops.length (Nat.le_refl _) j (fV▸mR);simp only [jI] at this;simp [mR] at this ⊢;exact this
   omega
  ·obtain ⟨afC,o,YX,afD⟩:=mem_ready.1 hi;have aaX:ops[i]?=some o:=by simpa using YX
   have KR:i < ops.length:=(List.getElem?_eq_some_iff.1 aaX).1;have hil:i < listed.size:=fV▸KR;have hDi:jI listed i=false:=by
    simp only [jI];simp [hil] at afC ⊢;exact afC
   obtain ⟨e,q,hre,Ie,⟨p,hp⟩,hc⟩:=Qs i o aaX;obtain ⟨s1,s2,s3,s4⟩:=st i o aaX;have hB:∀ j,bit B i j=true→jI listed j=true:=by
    intro j hb;obtain ⟨ed,h1,h2,h3⟩:=Ue s3 j (CI s2 hb) hb;have h4:jI listed ed.on=true:=afD ed (by simpa using h1) h2;rcases h3 with h3 | h3
    ·rw [← h3];exact h4
    ·exact OU ed.on h4 j h3
   have hnB:∀ j,jI listed j=true→bit B j i=false:=by
    intro j hj;cases h:bit B j i with
    | false=>rfl
    | true=>have:=OU j hj i h;rw [hDi] at this;cases this
   have aaY:∀ j,q.length≤j→bit B q.length j=false:=by
    intro j hj;cases h:bit B q.length j with
    | false=>rfl
    | true=>rw [Ie] at h hj;have:=CI s2 h;omega
   have Uf:∀ j e',eU rs j=some e'→∃ o',ops[j]?=some o'∧e'.d=o'.dst∧∀ id,id∈e'.up.map (·.1)→id∈xp fj j:=by
    intro j e' hj;have hjo:j < ops.length:=hlen▸jH hj;obtain ⟨e2,q2,k1,k2,_,k4⟩:=Qs j ops[j] (by simp [hjo]);rw [hj] at k1;cases k1;rcases k4 with ⟨_,k4⟩ | ⟨_,k4⟩
    ·exact ⟨ops[j],by simp [hjo],k4.d,fun id bY=>k2▸k4.tou id bY⟩
    ·exact ⟨ops[j],by simp [hjo],k4.d,fun id bY=>k2▸k4.tou id bY⟩
   have eqD:∀ j,j≠i→inc B i j=false→(jI listed j=bit B i j):=by
    intro j qL CJ;simp only [inc,Bool.and_eq_false_iff,Bool.not_eq_false'] at CJ;cases hl:jI listed j with
    | true=>
     rcases CJ with (h | h) | h
     ·exact absurd (Nat.eq_of_beq_eq_true h).symm qL
     ·exact h.symm
     ·rw [hnB j hl] at h;cases h
    | false=>
     cases h:bit B i j with
     | false=>rfl
     | true=>rw [hB j h] at hl;cases hl
   have aaZ:∀ M:fT,M.nt=s.nt→(∀ t,M.tm t=.top∨(H7 B q.length t 0 ops=false∧M.tm t=AA (bit B q.length) s.tm q t))→(∀ id,M.H id=none∨(Gs B q.length id fj=false∧M.H id=y9 (bit B q.length) s.H q id))→XZ M (Js s rs (jI listed)):=by
    intro M hM1 hM2 hM3;refine ⟨hM1,fun t=>?_,fun id=>?_⟩
    ·rcases hM2 t with hh | ⟨hh,hv⟩
     ·rw [hh];exact il.top _
     ·have:AA (jI listed) s.tm rs t=M.tm t:=by
       rw [hv,← WW (p:=p) (s0:=s.tm) (t:=t) (D:=bit B q.length) aaY,← hp];refine (uR fun j e' hj hd=>?_).symm;obtain ⟨o',JH,hdo,_⟩:=Uf j e' hj;have CJ:=H8 hh j o' JH (hdo▸hd);rw [Nat.zero_add,Ie] at CJ;rw [Ie];by_cases hji:j=i
       ·subst hji;rw [hDi];cases h:bit B j j with
        | false=>rfl
        | true=>have:=CI s2 h;omega
       ·exact (eqD j hji CJ).symm
      show il (AA (jI listed) s.tm rs t) (M.tm t);rw [this];exact il.refl _
    ·rcases hM3 id with hh | ⟨hh,hv⟩
     ·exact .inl hh
     ·refine .inr ?_;rw [hv];show _=y9 (jI listed) s.H rs id;rw [← WX (p:=p) (H0:=s.H) (id:=id) (D:=bit B q.length) aaY,← hp];refine BC fun j e' hj hd=>?_;obtain ⟨o',JH,_,hto⟩:=Uf j e' hj;obtain ⟨pp,hpp,hpj,aa0⟩:=Fx (hto id hd);have CJ:=H9 hh pp hpp aa0;rw [hpj,Ie] at CJ;rw [Ie];by_cases hji:j=i
      ·subst hji;rw [hDi];cases h:bit B j j with
       | false=>rfl
       | true=>have:=CI s2 h;omega
      ·exact (eqD j hji CJ).symm
   rcases hc with ⟨hXi,hc⟩ | ⟨hXi,hcx⟩
   case inr=>
    obtain ⟨M,hM1,hM2,hM3,hZ⟩:=hcx.run;exact ag1 i o M aaX hXi hZ fuel listed a w F O μ ft fV hun OU hDi hB hph (aaZ M hM1 hM2 hM3) hs hf tt
   obtain ⟨M,hM1,hM2,hM3,lH⟩:=hc.run;have Qt:=aaZ M hM1 hM2 hM3;have hsm:=hs.less Qt;have nT:∀ j e',eU rs j=some e'→i < j→jI listed j=true→e'.d=e.d→e.d=none:=by
    intro j e' hj JK hl hde;cases hd:e.d with
    | none=>rfl
    | some t=>
     obtain ⟨o',JH,hdo,_⟩:=Uf j e' hj;have hb:=Ud ((st j o' JH).2.2.2) i o aaX (by omega) t (by rw [← hdo,hde,hd]) (by rw [← hc.d,hd]);rw [Nat.zero_add,hnB j hl] at hb;cases hb
   have nH:∀ j e' id,eU rs j=some e'→i < j→jI listed j=true→id∈e'.up.map (·.1)→id ∉ e.up.map (·.1):=by
    intro j e' id hj JK hl bY Ps;obtain ⟨o',JH,_,hto⟩:=Uf j e' hj;obtain ⟨o2,Y0,_,ag2⟩:=Uf i e hre;obtain ⟨p1,hp1,hpj,aa0⟩:=Fx (hto id bY);obtain ⟨p2,hp2,ag3,afE⟩:=Fx (ag2 id Ps);simp only [List.all_eq_true] at afB;have h1:=afB p1 hp1 p2 hp2;rw [hpj,ag3] at h1;have h2:i.blt j=true:=Nat.ble_eq_true_of_le JK;have h3:(p1.2.any fun x=>p2.2.any fun y=>Nat.beq x y)=true:=
     List.any_eq_true.2 ⟨id,aa0,List.any_eq_true.2 ⟨id,afE,by simp⟩⟩
    rw [h2,h3,hnB j hl] at h1;cases h1
   have ag4:unl (listed.setIfInBounds i true)=fuel:=by have:=R6 hil hDi;omega
   have ag5:∀ k,jI (listed.setIfInBounds i true) k=true→∀ j,bit B k j=true→jI (listed.setIfInBounds i true) j=true:=by
    rw [Jw hil];intro k hk j hb;simp only [more] at hk ⊢;split
    ·rfl
    ·split at hk
     ·rename_i hki;subst hki;exact hB j hb
     ·exact OU k hk j hb
   have afF:∀ (v:Value) (w':World) (F' O':Nat→Prop) (bC:Nat→Nat) (bZ:Nat→Nat→Prop),VR w' F' bC (kD (more (jI listed) i) s.N rs) e.v v→HR w' F' O' bC (kD (more (jI listed) i) s.N rs) (y9 (more (jI listed) i) s.H rs) bZ→
     (∀ x u,VR w F μ (kD (jI listed) s.N rs) x u→VR w' F' bC (kD (more (jI listed) i) s.N rs) x u)→Fr w0 F0 O0 μ0 (below m0) w' F' O' bC→wx w' F' O' a.defers→
     wpAnyIn (Wr ro) 0 P .any ⟨ops⟩ Q fuel (listed.setIfInBounds i true) (a.put o.dst v) w':=by
    intro v w' F' O' bC bZ hv hr Vn hf' hdf;have hpd:(a.put o.dst v).defers=a.defers:=by cases o.dst<;>rfl
    refine ih _ _ _ F' O' bC bZ (by simp [fV]) ag4 ag5 ?_ hf' (hpd.trans tt) (by rw [Jw hil];exact YD _ _ hph hXi);rw [Jw hil];refine { hr:=hr,nt:=?_,tm:=fun t=>?_,df:=?_ }
    ·have:(a.put o.dst v).tmps.size=a.tmps.size:=by cases o.dst<;>simp [Act.put]
     exact this.trans hs.nt
    ·show VR w' F' bC _ (AA (more (jI listed) i) s.tm rs t) _;rw [Uc hre nT hDi t];cases hd:OX e.d t with
     | true=>
      have h1:o.dst=some t:=hc.d▸Ab.1 hd;have h2:t < a.tmps.size:=by
       have:=hc.ok;rw [h1] at this;have:=Nat.le_of_ble_eq_true this;rw [hs.nt];exact this
      simpa [Act.put,h1,h2] using hv
     | false=>
      have h1:o.dst≠some t:=fun h=>by
       rw [← hc.d] at h;rw [Ab.2 h] at hd;cases hd
      have h3:(a.put o.dst v).tmps.getD t undef=a.tmps.getD t undef:=by
       cases hdd:o.dst with
       | none=>rfl
       | some d=>
        have:d≠t:=fun h=>h1 (by rw [hdd,h]);simp [Act.put,Array.getElem?_setIfInBounds_ne this]
      rw [h3];exact Vn _ _ (hs.tm t)
    ·rw [hpd];exact hdf
   unfold wpOpIn;rw [YX];simp only;rcases lH with ⟨hw,Y5,hu0,Qk⟩ | ⟨hw,rv,L4,o_,hvv,Rx,Vb,AF⟩
   ·rw [hw hsm];simp only [Bool.false_eq_true,if_false];have eK:kD (more (jI listed) i) s.N rs=kD (jI listed) s.N rs:=by
     funext id;refine propext ((Mq hre id).trans ⟨fun h=>?_,fun h=>.inl h⟩);rcases h with h | ⟨h1,h2⟩
     ·exact h
     ·rw [Qk] at h2;omega
    have eH:y9 (more (jI listed) i) s.H rs=y9 (jI listed) s.H rs:=by
     funext id;rw [Ov hre nH hDi id,hu0];rfl
    refine ⟨fun _ _=>trivial,afF undef w F O μ ft ?_ ?_ ?_ hf hs.df⟩
    ·rw [Y5];exact .lit _
    ·rw [eK,eH];exact hs.hr
    ·rw [eK];exact fun _ _ h=>h
   ·rw [hw hsm];simp only [if_true];refine T8 AF ?_;have ag6:dr P o (Js s rs (jI listed)) ⟨rv,L4,List.range' e.N e.k⟩:=dr.more o_ Qt;have eK:plus (kD (jI listed) s.N rs) (List.range' e.N e.k)=kD (more (jI listed) i) s.N rs:=by
     funext id;refine propext (Iff.trans ?_ (Mq hre id).symm);simp only [plus,List.mem_range'_1]
    refine ag6 w F O μ _ ft a hs (fun id bY hk=>?_) _ _ fun v w' F' O' bC bZ hv hr hf'=>?_
    ·simp only [List.mem_range'_1] at bY;exact Qq hDi hwf hre hk bY
    ·have Vn:∀ x u,VR w F μ (kD (jI listed) s.N rs) x u→VR w' F' bC (kD (more (jI listed) i) s.N rs) x u:=fun x u hx=>eK▸hx.step hs.hr hf' fun id h=>.inl h;simp only [eK] at hv hr;refine afF v w' F' O' bC bZ (hvv hv) (hr.imp fun id b' hb=>?_) Vn (hf.trans (hf'.OT fun id (bY:id < m0)=>VU (show id < s.N by omega))) (hs.df.step hf');rw [Ov hre nH hDi id] at hb;have same:∀ x,(s.H.dh x) id=(s.H.dh x) id:=fun _=>rfl;rcases Hp.Rr s.H id L4 with ⟨h1,h2⟩ | ⟨h1,h2⟩
     ·rw [uQ.2 (Rx id h1)] at hb;obtain ⟨b,k1,k2⟩:=Vb id b' (Rx id h1) hb;refine ⟨b,?_,k2⟩;have e1:=h2 M.H;have e2:=h2 (Js s rs (jI listed)).H;show (Js s rs (jI listed)).H.dh L4 id=some b;rw [e2,← e1];exact k1
     ·have e1:=h2 M.H;have e2:=h2 (Js s rs (jI listed)).H;cases hh:y8 e.up id with
      | false=>
       rw [hh] at hb;refine ⟨b',?_,eQ.refl _⟩;show (Js s rs (jI listed)).H.dh L4 id=some b';rw [e2];exact hb
      | true=>
       rw [hh] at hb;obtain ⟨b,k1,k2⟩:=Vb id b' (uQ.1 hh) hb;refine ⟨b,?_,k2⟩;show (Js s rs (jI listed)).H.dh L4 id=some b;rw [e1] at k1;rw [e2];rcases Qt.H id with h3 | h3
       ·rw [h3] at k1;cases k1
       ·rw [← h3];exact k1
end Go.Proofs.YtjkbbdldmdajkaaGreatDoor.c_
