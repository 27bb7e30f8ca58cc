/- A region whose order Go leaves open: whatever the order, it comes to the state that the text's order gives, where no operation looks at what another one, apart from it, writes. No condition. -/
import Derived.Test.YtjkbbdldmdajkaaGreatDoorVU
namespace Go.Proofs.YtjkbbdldmdajkaaGreatDoor.c_
open Go Go.RowKit
variable {w w' xh:World} {F F' Bn O O' vW:Nat→Prop} {μ bD lF:Nat→Nat} {K K' EB:Nat→Prop} {H H' H'':Hp} {ft bY:Nat→Nat→Prop} {P:Program} {R:Type}
structure Qn (P:Program) (ops:List Oper) (B:Array Nat) (fj:List (Nat×List Nat)) (s:fU) (q:List RE) (e:RE) (o:Oper):Prop where
 d:e.d=o.dst
 ok:(match o.dst with | some t=>t.blt s.nt | none=>true)=true
 tou:∀ id,id∈e.up.map (·.1)→id∈xn fj q.length
 run:∃ M:fU,M.nt=s.nt∧(∀ t,M.tm t=.top∨(H4 B q.length t 0 ops=false∧M.tm t=Aw (bit B q.length) s.tm q t))∧(∀ id,M.H id=none∨(Gm B q.length id fj=false∧M.H id=y6 (bit B q.length) s.H q id))∧
  (((∀ {w F O μ K ft a},SR w F O μ K M ft a→Region.wanted o (yielded ⟨ops⟩ a.tmps)=false)∧e.v=.lit undef∧e.up=[]∧e.k=0)∨
   ((∀ {w F O μ K ft a},SR w F O μ K M ft a→Region.wanted o (yielded ⟨ops⟩ a.tmps)=true)∧∃ rv L3,dr P o M ⟨rv,L3,List.range' e.N e.k⟩∧ik rv e.v∧(∀ id,id∈L3.map (·.1)→id∈e.up.map (·.1))∧
    (∀ id b',id∈e.up.map (·.1)→Hp.dh s.H e.up id=some b'→∃ b,(M.H.dh L3) id=some b∧eQ b b')∧∀ c,o.op≠.defer c))
theorem VQ {N0:Nat} {D:Nat→Bool} {id:Nat} (h:id < N0):∀ {rs:List RE},kD D N0 rs id
 | []=>h
 | _::_=>.inl (VQ h)
structure adb (ops:List Oper) (B:Array Nat) (fj:List (Nat×List Nat)) (s:fU) (q:List RE) (e:RE) (o:Oper) (Z:fU→Prop):Prop where
 d:e.d=o.dst
 tou:∀ id,id∈e.up.map (·.1)→id∈xn fj q.length
 run:∃ M:fU,M.nt=s.nt∧(∀ t,M.tm t=.top∨(H4 B q.length t 0 ops=false∧M.tm t=Aw (bit B q.length) s.tm q t))∧(∀ id,M.H id=none∨(Gm B q.length id fj=false∧M.H id=y6 (bit B q.length) s.H q id))∧Z M
theorem Ou {ops:List Oper} {B:Array Nat} {fj:List (Nat×List Nat)} {s:fU} {rs:List RE} {N m0:Nat} {Q:Exit→Act→World→Prop} (xj:th ops B fj=true) (hwf:Y1 s.N rs N) (hm0:m0≤s.N) (hlen:rs.length=ops.length)
  {X:Nat→Bool} {Φ:(Nat→Bool)→Prop} {Z:Nat→fU→Prop} (YA:∀ D i,Φ D→X i=false→Φ (more D i))
  (Qo:∀ i o,ops[i]?=some o→∃ e q,eU rs i=some e∧q.length=i∧Yz q rs∧((X i=false∧Qn P ops B fj s q e o)∨(X i=true∧adb ops B fj s q e o (Z i)))) {w0:World} {F0 O0:Nat→Prop} {μ0:Nat→Nat} {ds0:List Deferred} {ro:Option Nat}
  (agX:∀ i o M,ops[i]?=some o→X i=true→Z i M→∀ (fuel:Nat) (listed:Array Bool) (a:Act) (w:World) (F O:Nat→Prop) (μ:Nat→Nat) (ft:Nat→Nat→Prop),listed.size=ops.length→unl listed=fuel+1→(∀ i,jI listed i=true→∀ j,bit B i j=true→jI listed j=true)→
   jI listed i=false→(∀ j,bit B i j=true→jI listed j=true)→Φ (jI listed)→XW M (Js s rs (jI listed))→SR w F O μ (kD (jI listed) s.N rs) (Js s rs (jI listed)) ft a→Fr w0 F0 O0 μ0 (below m0) w F O μ→a.defers=ds0→
   wpOpIn (Wr ro) 0 P ⟨ops⟩ Q i (wpAnyIn (Wr ro) 0 P .any ⟨ops⟩ Q fuel (listed.setIfInBounds i true)) a w)
  (hQ:∀ w F O μ ft a,(∃ D,Φ D∧∀ j,j < ops.length→D j=true)→a.defers=ds0→SR w F O μ (below N) ⟨s.nt,N,Aw (fun _=>true) s.tm rs,y6 (fun _=>true) s.H rs⟩ ft a→Fr w0 F0 O0 μ0 (below m0) w F O μ→Q .normal a w):
  ∀ (fuel:Nat) (listed:Array Bool) (a:Act) (w:World) (F O:Nat→Prop) (μ:Nat→Nat) (ft:Nat→Nat→Prop),listed.size=ops.length→unl listed=fuel→(∀ i,jI listed i=true→∀ j,bit B i j=true→jI listed j=true)→
   SR w F O μ (kD (jI listed) s.N rs) (Js s rs (jI listed)) ft a→Fr w0 F0 O0 μ0 (below m0) w F O μ→a.defers=ds0→Φ (jI listed)→wpAnyIn (Wr ro) 0 P .any ⟨ops⟩ Q fuel listed a w:=by
 simp only [th,Bool.and_eq_true] at xj;obtain ⟨acz,afx⟩:=xj;have st:=fun i o ho=>Ju acz i o ho;simp only [Nat.zero_add] at st;intro fuel
 induction fuel with
 | zero=>
  intro listed a w F O μ ft fT hun OS hs hf tq hph;have ox:∀ j,j < ops.length→jI listed j=true:=by
   intro j hj;cases h:jI listed j with
   | true=>rfl
   | false=>have:=R3 (fT▸hj) h;omega
  refine ⟨?_,?_⟩
  ·unfold Region.ready;rw [List.filter_eq_nil_iff];intro j hj;have hj:j < ops.length:=by simpa using hj
   have h1:listed.getD j true=true:=by
    have:=ox j hj;simp only [jI] at this;have dT:j < listed.size:=fT▸hj;simp [dT] at this ⊢;exact this
   rw [h1];simp
  ·have hk:kD (jI listed) s.N rs=below N:=by
    funext id;exact propext (WV hwf (fun j hj=>ox j (hlen▸hj)) id)
   have hT:Aw (jI listed) s.tm rs=Aw (fun _=>true) s.tm rs:=funext fun t=>uN fun j e hj _=>ox j (by have:=jH hj;omega);have hH:y6 (jI listed) s.H rs=y6 (fun _=>true) s.H rs:=funext fun t=>Bz fun j e hj _=>ox j (by have:=jH hj;omega);have hs2:SR w F O μ (below N) ⟨s.nt,N,Aw (fun _=>true) s.tm rs,y6 (fun _=>true) s.H rs⟩ ft a:=by
    rw [← hk,← hT,← hH];exact { hr:=hs.hr,nt:=hs.nt,tm:=hs.tm,df:=hs.df }
   exact hQ w F O μ ft a ⟨jI listed,hph,ox⟩ tq hs2 hf
 | succ fuel ih=>
  intro listed a w F O μ ft fT hun OS hs hf tq hph;refine ⟨fun aer=>?_,fun i hi=>?_⟩
  ·
   exfalso;have key:∀ m,m≤ops.length→∀ j,j < m→jI listed j=true:=by
    intro m
    induction m with
    | zero=>intro _ j hj;omega
    | succ m ihm=>
     intro hm j hj;rcases Nat.lt_or_ge j m with h | h
     ·exact ihm (by omega) j h
     ·have hjm:j=m:=by omega
      subst hjm;cases hl:jI listed j with
      | true=>rfl
      | false=>
       exfalso;have hjo:j < ops.length:=by omega
       have KL:j∈Region.ready .any ⟨ops⟩ listed:=by
        rw [mem_ready];refine ⟨?_,ops[j],by simp [hjo],fun e he hb=>?_⟩
        ·have dT:j < listed.size:=fT▸hjo;simp only [jI] at hl;simp [dT] at hl ⊢;exact hl
        ·exact ihm (by omega) e.on ((st j ops[j] (by simp [hjo])).1 e he hb)
       rw [aer] at KL;cases KL
   have hz:unl listed=0:=by
    unfold unl;rw [List.countP_eq_zero];intro b hb;obtain ⟨j,hj,rfl⟩:=List.mem_iff_getElem.1 hb;have mQ:j < listed.size:=by simpa using hj
    have:=key ops.length (Nat.le_refl _) j (fT▸mQ);simp only [jI] at this;simp [mQ] at this ⊢;exact this
   omega
  ·obtain ⟨afy,o,YU,afz⟩:=mem_ready.1 hi;have aaU:ops[i]?=some o:=by simpa using YU
   have KQ:i < ops.length:=(List.getElem?_eq_some_iff.1 aaU).1;have hil:i < listed.size:=fT▸KQ;have hDi:jI listed i=false:=by
    simp only [jI];simp [hil] at afy ⊢;exact afy
   obtain ⟨e,q,hre,Ib,⟨p,hp⟩,hc⟩:=Qo i o aaU;obtain ⟨s1,s2,s3,s4⟩:=st i o aaU;have hB:∀ j,bit B i j=true→jI listed j=true:=by
    intro j hb;obtain ⟨ed,h1,h2,h3⟩:=Ub s3 j (CD s2 hb) hb;have h4:jI listed ed.on=true:=afz ed (by simpa using h1) h2;rcases h3 with h3 | h3
    ·rw [← h3];exact h4
    ·exact OS ed.on h4 j h3
   have hnB:∀ j,jI listed j=true→bit B j i=false:=by
    intro j hj;cases h:bit B j i with
    | false=>rfl
    | true=>have:=OS j hj i h;rw [hDi] at this;cases this
   have aaV:∀ j,q.length≤j→bit B q.length j=false:=by
    intro j hj;cases h:bit B q.length j with
    | false=>rfl
    | true=>rw [Ib] at h hj;have:=CD s2 h;omega
   have Uc:∀ j e',eU rs j=some e'→∃ o',ops[j]?=some o'∧e'.d=o'.dst∧∀ id,id∈e'.up.map (·.1)→id∈xn fj j:=by
    intro j e' hj;have hjo:j < ops.length:=hlen▸jH hj;obtain ⟨e2,q2,k1,k2,_,k4⟩:=Qo j ops[j] (by simp [hjo]);rw [hj] at k1;cases k1;rcases k4 with ⟨_,k4⟩ | ⟨_,k4⟩
    ·exact ⟨ops[j],by simp [hjo],k4.d,fun id bZ=>k2▸k4.tou id bZ⟩
    ·exact ⟨ops[j],by simp [hjo],k4.d,fun id bZ=>k2▸k4.tou id bZ⟩
   have eqD:∀ j,j≠i→inc B i j=false→(jI listed j=bit B i j):=by
    intro j qJ CE;simp only [inc,Bool.and_eq_false_iff,Bool.not_eq_false'] at CE;cases hl:jI listed j with
    | true=>
     rcases CE with (h | h) | h
     ·exact absurd (Nat.eq_of_beq_eq_true h).symm qJ
     ·exact h.symm
     ·rw [hnB j hl] at h;cases h
    | false=>
     cases h:bit B i j with
     | false=>rfl
     | true=>rw [hB j h] at hl;cases hl
   have aaW:∀ M:fU,M.nt=s.nt→(∀ t,M.tm t=.top∨(H4 B q.length t 0 ops=false∧M.tm t=Aw (bit B q.length) s.tm q t))→(∀ id,M.H id=none∨(Gm B q.length id fj=false∧M.H id=y6 (bit B q.length) s.H q id))→XW M (Js s rs (jI listed)):=by
    intro M hM1 hM2 hM3;refine ⟨hM1,fun t=>?_,fun id=>?_⟩
    ·rcases hM2 t with hh | ⟨hh,hv⟩
     ·rw [hh];exact ik.top _
     ·have:Aw (jI listed) s.tm rs t=M.tm t:=by
       rw [hv,← WT (p:=p) (s0:=s.tm) (t:=t) (D:=bit B q.length) aaV,← hp];refine (uN fun j e' hj hd=>?_).symm;obtain ⟨o',JG,hdo,_⟩:=Uc j e' hj;have CE:=H5 hh j o' JG (hdo▸hd);rw [Nat.zero_add,Ib] at CE;rw [Ib];by_cases hji:j=i
       ·subst hji;rw [hDi];cases h:bit B j j with
        | false=>rfl
        | true=>have:=CD s2 h;omega
       ·exact (eqD j hji CE).symm
      show ik (Aw (jI listed) s.tm rs t) (M.tm t);rw [this];exact ik.refl _
    ·rcases hM3 id with hh | ⟨hh,hv⟩
     ·exact .inl hh
     ·refine .inr ?_;rw [hv];show _=y6 (jI listed) s.H rs id;rw [← WU (p:=p) (H0:=s.H) (id:=id) (D:=bit B q.length) aaV,← hp];refine Bz fun j e' hj hd=>?_;obtain ⟨o',JG,_,hto⟩:=Uc j e' hj;obtain ⟨pp,hpp,hpj,aaX⟩:=Fs (hto id hd);have CE:=H6 hh pp hpp aaX;rw [hpj,Ib] at CE;rw [Ib];by_cases hji:j=i
      ·subst hji;rw [hDi];cases h:bit B j j with
       | false=>rfl
       | true=>have:=CD s2 h;omega
      ·exact (eqD j hji CE).symm
   rcases hc with ⟨hXi,hc⟩ | ⟨hXi,hcx⟩
   case inr=>
    obtain ⟨M,hM1,hM2,hM3,hZ⟩:=hcx.run;exact agX i o M aaU hXi hZ fuel listed a w F O μ ft fT hun OS hDi hB hph (aaW M hM1 hM2 hM3) hs hf tq
   obtain ⟨M,hM1,hM2,hM3,lG⟩:=hc.run;have Qp:=aaW M hM1 hM2 hM3;have hsm:=hs.less Qp;have nT:∀ j e',eU rs j=some e'→i < j→jI listed j=true→e'.d=e.d→e.d=none:=by
    intro j e' hj JJ hl hde;cases hd:e.d with
    | none=>rfl
    | some t=>
     obtain ⟨o',JG,hdo,_⟩:=Uc j e' hj;have hb:=Ua ((st j o' JG).2.2.2) i o aaU (by omega) t (by rw [← hdo,hde,hd]) (by rw [← hc.d,hd]);rw [Nat.zero_add,hnB j hl] at hb;cases hb
   have nH:∀ j e' id,eU rs j=some e'→i < j→jI listed j=true→id∈e'.up.map (·.1)→id ∉ e.up.map (·.1):=by
    intro j e' id hj JJ hl bZ Pp;obtain ⟨o',JG,_,hto⟩:=Uc j e' hj;obtain ⟨o2,YX,_,agY⟩:=Uc i e hre;obtain ⟨p1,hp1,hpj,aaX⟩:=Fs (hto id bZ);obtain ⟨p2,hp2,agZ,afA⟩:=Fs (agY id Pp);simp only [List.all_eq_true] at afx;have h1:=afx p1 hp1 p2 hp2;rw [hpj,agZ] at h1;have h2:i.blt j=true:=Nat.ble_eq_true_of_le JJ;have h3:(p1.2.any fun x=>p2.2.any fun y=>Nat.beq x y)=true:=
     List.any_eq_true.2 ⟨id,aaX,List.any_eq_true.2 ⟨id,afA,by simp⟩⟩
    rw [h2,h3,hnB j hl] at h1;cases h1
   have ag0:unl (listed.setIfInBounds i true)=fuel:=by have:=R3 hil hDi;omega
   have ag1:∀ k,jI (listed.setIfInBounds i true) k=true→∀ j,bit B k j=true→jI (listed.setIfInBounds i true) j=true:=by
    rw [Jv hil];intro k hk j hb;simp only [more] at hk ⊢;split
    ·rfl
    ·split at hk
     ·rename_i hki;subst hki;exact hB j hb
     ·exact OS k hk j hb
   have afB:∀ (v:Value) (w':World) (F' O':Nat→Prop) (bD:Nat→Nat) (bY:Nat→Nat→Prop),VR w' F' bD (kD (more (jI listed) i) s.N rs) e.v v→HR w' F' O' bD (kD (more (jI listed) i) s.N rs) (y6 (more (jI listed) i) s.H rs) bY→
     (∀ x u,VR w F μ (kD (jI listed) s.N rs) x u→VR w' F' bD (kD (more (jI listed) i) s.N rs) x u)→Fr w0 F0 O0 μ0 (below m0) w' F' O' bD→wq w' F' O' a.defers→
     wpAnyIn (Wr ro) 0 P .any ⟨ops⟩ Q fuel (listed.setIfInBounds i true) (a.put o.dst v) w':=by
    intro v w' F' O' bD bY hv hr Vk hf' hdf;have hpd:(a.put o.dst v).defers=a.defers:=by cases o.dst<;>rfl
    refine ih _ _ _ F' O' bD bY (by simp [fT]) ag0 ag1 ?_ hf' (hpd.trans tq) (by rw [Jv hil];exact YA _ _ hph hXi);rw [Jv hil];refine { hr:=hr,nt:=?_,tm:=fun t=>?_,df:=?_ }
    ·have:(a.put o.dst v).tmps.size=a.tmps.size:=by cases o.dst<;>simp [Act.put]
     exact this.trans hs.nt
    ·show VR w' F' bD _ (Aw (more (jI listed) i) s.tm rs t) _;rw [T_ hre nT hDi t];cases hd:OV e.d t with
     | true=>
      have h1:o.dst=some t:=hc.d▸z8.1 hd;have h2:t < a.tmps.size:=by
       have:=hc.ok;rw [h1] at this;have:=Nat.le_of_ble_eq_true this;rw [hs.nt];exact this
      simpa [Act.put,h1,h2] using hv
     | false=>
      have h1:o.dst≠some t:=fun h=>by
       rw [← hc.d] at h;rw [z8.2 h] at hd;cases hd
      have h3:(a.put o.dst v).tmps.getD t undef=a.tmps.getD t undef:=by
       cases hdd:o.dst with
       | none=>rfl
       | some d=>
        have:d≠t:=fun h=>h1 (by rw [hdd,h]);simp [Act.put,Array.getElem?_setIfInBounds_ne this]
      rw [h3];exact Vk _ _ (hs.tm t)
    ·rw [hpd];exact hdf
   unfold wpOpIn;rw [YU];simp only;rcases lG with ⟨hw,Y0,hu0,Qg⟩ | ⟨hw,rv,L3,o9,hvv,Rv,U9,AA⟩
   ·rw [hw hsm];simp only [Bool.false_eq_true,if_false];have eK:kD (more (jI listed) i) s.N rs=kD (jI listed) s.N rs:=by
     funext id;refine propext ((Mp hre id).trans ⟨fun h=>?_,fun h=>.inl h⟩);rcases h with h | ⟨h1,h2⟩
     ·exact h
     ·rw [Qg] at h2;omega
    have eH:y6 (more (jI listed) i) s.H rs=y6 (jI listed) s.H rs:=by
     funext id;rw [Ot hre nH hDi id,hu0];rfl
    refine ⟨fun _ _=>trivial,afB undef w F O μ ft ?_ ?_ ?_ hf hs.df⟩
    ·rw [Y0];exact .lit _
    ·rw [eK,eH];exact hs.hr
    ·rw [eK];exact fun _ _ h=>h
   ·rw [hw hsm];simp only [if_true];refine T5 AA ?_;have ag2:dr P o (Js s rs (jI listed)) ⟨rv,L3,List.range' e.N e.k⟩:=dr.more o9 Qp;have eK:plus (kD (jI listed) s.N rs) (List.range' e.N e.k)=kD (more (jI listed) i) s.N rs:=by
     funext id;refine propext (Iff.trans ?_ (Mp hre id).symm);simp only [plus,List.mem_range'_1]
    refine ag2 w F O μ _ ft a hs (fun id bZ hk=>?_) _ _ fun v w' F' O' bD bY hv hr hf'=>?_
    ·simp only [List.mem_range'_1] at bZ;exact Qm hDi hwf hre hk bZ
    ·have Vk:∀ x u,VR w F μ (kD (jI listed) s.N rs) x u→VR w' F' bD (kD (more (jI listed) i) s.N rs) x u:=fun x u hx=>eK▸hx.step hs.hr hf' fun id h=>.inl h;simp only [eK] at hv hr;refine afB v w' F' O' bD bY (hvv hv) (hr.imp fun id b' hb=>?_) Vk (hf.trans (hf'.OR fun id (bZ:id < m0)=>VQ (show id < s.N by omega))) (hs.df.step hf');rw [Ot hre nH hDi id] at hb;have same:∀ x,(s.H.dh x) id=(s.H.dh x) id:=fun _=>rfl;rcases Hp.Ro s.H id L3 with ⟨h1,h2⟩ | ⟨h1,h2⟩
     ·rw [uM.2 (Rv id h1)] at hb;obtain ⟨b,k1,k2⟩:=U9 id b' (Rv id h1) hb;refine ⟨b,?_,k2⟩;have e1:=h2 M.H;have e2:=h2 (Js s rs (jI listed)).H;show (Js s rs (jI listed)).H.dh L3 id=some b;rw [e2,← e1];exact k1
     ·have e1:=h2 M.H;have e2:=h2 (Js s rs (jI listed)).H;cases hh:y5 e.up id with
      | false=>
       rw [hh] at hb;refine ⟨b',?_,eQ.refl _⟩;show (Js s rs (jI listed)).H.dh L3 id=some b';rw [e2];exact hb
      | true=>
       rw [hh] at hb;obtain ⟨b,k1,k2⟩:=U9 id b' (uM.1 hh) hb;refine ⟨b,?_,k2⟩;show (Js s rs (jI listed)).H.dh L3 id=some b;rw [e1] at k1;rw [e2];rcases Qp.H id with h3 | h3
       ·rw [h3] at k1;cases k1
       ·rw [← h3];exact k1
end Go.Proofs.YtjkbbdldmdajkaaGreatDoor.c_
