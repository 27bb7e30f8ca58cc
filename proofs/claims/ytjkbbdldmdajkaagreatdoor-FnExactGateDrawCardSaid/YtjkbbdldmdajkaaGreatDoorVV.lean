/- A region whose order Go leaves open: whatever the order, it comes to the state that the text's order gives, where no operation looks at what another one, apart from it, writes. No condition. -/
import Derived.Test.YtjkbbdldmdajkaaGreatDoorVU
namespace Go.Proofs.YtjkbbdldmdajkaaGreatDoor.c5
open Go Go.RowKit
variable {w w' ss:World} {F F' zT O O' uo:Nat→Prop} {μ aZ jE:Nat→Nat} {K K' C9:Nat→Prop} {H H' H'':Hp} {ft bX:Nat→Nat→Prop} {P:Program} {R:Type}
structure PZ (P:Program) (ops:List Oper) (B:Array Nat) (eX:List (Nat×List Nat)) (s:fG) (q:List RE) (e:RE) (o:Oper):Prop where
 d:e.d=o.dst
 ok:(match o.dst with | some t=>t.blt s.nt | none=>true)=true
 tou:∀ id,id∈e.up.map (·.1)→id∈wq eX q.length
 run:∃ M:fG,M.nt=s.nt∧(∀ t,M.tm t=.top∨(Hq B q.length t 0 ops=false∧M.tm t=zO (bit B q.length) s.tm q t))∧(∀ id,M.H id=none∨(FJ B q.length id eX=false∧M.H id=yi (bit B q.length) s.H q id))∧
  (((∀ {w F O μ K ft a},SR w F O μ K M ft a→Region.wanted o (yielded ⟨ops⟩ a.tmps)=false)∧e.v=.lit undef∧e.up=[]∧e.k=0)∨
   ((∀ {w F O μ K ft a},SR w F O μ K M ft a→Region.wanted o (yielded ⟨ops⟩ a.tmps)=true)∧∃ rv Lv,dg P o M ⟨rv,Lv,List.range' e.N e.k⟩∧g8 rv e.v∧(∀ id,id∈Lv.map (·.1)→id∈e.up.map (·.1))∧
    (∀ id b',id∈e.up.map (·.1)→Hp.c_ s.H e.up id=some b'→∃ b,(M.H.c_ Lv) id=some b∧eg b b')∧∀ c,o.op≠.defer c))
theorem Vp {N0:Nat} {D:Nat→Bool} {id:Nat} (h:id < N0):∀ {rs:List RE},kD D N0 rs id
 | []=>h
 | _::_=>.inl (Vp h)
structure acO (ops:List Oper) (B:Array Nat) (eX:List (Nat×List Nat)) (s:fG) (q:List RE) (e:RE) (o:Oper) (Z:fG→Prop):Prop where
 d:e.d=o.dst
 tou:∀ id,id∈e.up.map (·.1)→id∈wq eX q.length
 run:∃ M:fG,M.nt=s.nt∧(∀ t,M.tm t=.top∨(Hq B q.length t 0 ops=false∧M.tm t=zO (bit B q.length) s.tm q t))∧(∀ id,M.H id=none∨(FJ B q.length id eX=false∧M.H id=yi (bit B q.length) s.H q id))∧Z M
theorem NT {ops:List Oper} {B:Array Nat} {eX:List (Nat×List Nat)} {s:fG} {rs:List RE} {N m0:Nat} {Q:Exit→Act→World→Prop} (wo:sn ops B eX=true) (hwf:YM s.N rs N) (hm0:m0≤s.N) (hlen:rs.length=ops.length)
  {X:Nat→Bool} {Φ:(Nat→Bool)→Prop} {Z:Nat→fG→Prop} (Yg:∀ D i,Φ D→X i=false→Φ (more D i))
  (P0:∀ i o,ops[i]?=some o→∃ e q,eA rs i=some e∧q.length=i∧Yf q rs∧((X i=false∧PZ P ops B eX s q e o)∨(X i=true∧acO ops B eX s q e o (Z i)))) {w0:World} {F0 O0:Nat→Prop} {ZN:Nat→Nat} {ds0:List Deferred} {ro:Option Nat}
  (ahi:∀ i o M,ops[i]?=some o→X i=true→Z i M→∀ (fuel:Nat) (listed:Array Bool) (a:Act) (w:World) (F O:Nat→Prop) (μ:Nat→Nat) (ft:Nat→Nat→Prop),listed.size=ops.length→unl listed=fuel+1→(∀ i,jr listed i=true→∀ j,bit B i j=true→jr listed j=true)→
   jr listed i=false→(∀ j,bit B i j=true→jr listed j=true)→Φ (jr listed)→XC M (Js s rs (jr listed))→SR w F O μ (kD (jr listed) s.N rs) (Js s rs (jr listed)) ft a→Fr w0 F0 O0 ZN (below m0) w F O μ→a.defers=ds0→
   wpOpIn (Wr ro) 0 P ⟨ops⟩ Q i (wpAnyIn (Wr ro) 0 P .any ⟨ops⟩ Q fuel (listed.setIfInBounds i true)) a w)
  (hQ:∀ w F O μ ft a,(∃ D,Φ D∧∀ j,j < ops.length→D j=true)→a.defers=ds0→SR w F O μ (below N) ⟨s.nt,N,zO (fun _=>true) s.tm rs,yi (fun _=>true) s.H rs⟩ ft a→Fr w0 F0 O0 ZN (below m0) w F O μ→Q .normal a w):
  ∀ (fuel:Nat) (listed:Array Bool) (a:Act) (w:World) (F O:Nat→Prop) (μ:Nat→Nat) (ft:Nat→Nat→Prop),listed.size=ops.length→unl listed=fuel→(∀ i,jr listed i=true→∀ j,bit B i j=true→jr listed j=true)→
   SR w F O μ (kD (jr listed) s.N rs) (Js s rs (jr listed)) ft a→Fr w0 F0 O0 ZN (below m0) w F O μ→a.defers=ds0→Φ (jr listed)→wpAnyIn (Wr ro) 0 P .any ⟨ops⟩ Q fuel listed a w:=by
 simp only [sn,Bool.and_eq_true] at wo;obtain ⟨ab7,afu⟩:=wo;have st:=fun i o ho=>IW ab7 i o ho;simp only [Nat.zero_add] at st;intro fuel
 induction fuel with
 | zero=>
  intro listed a w F O μ ft fh hun LK hs hf sy hph;have nG:∀ j,j < ops.length→jr listed j=true:=by
   intro j hj;cases h:jr listed j with
   | true=>rfl
   | false=>have:=Ru (fh▸hj) h;omega
  refine ⟨?_,?_⟩
  ·unfold Region.ready;rw [List.filter_eq_nil_iff];intro j hj;have hj:j < ops.length:=by simpa using hj
   have h1:listed.getD j true=true:=by
    have:=nG j hj;simp only [jr] at this;have dY:j < listed.size:=fh▸hj;simp [dY] at this ⊢;exact this
   rw [h1];simp
  ·have hk:kD (jr listed) s.N rs=below N:=by
    funext id;exact propext (WC hwf (fun j hj=>nG j (hlen▸hj)) id)
   have hT:zO (jr listed) s.tm rs=zO (fun _=>true) s.tm rs:=funext fun t=>tN fun j e hj _=>nG j (by have:=jq hj;omega);have hH:yi (jr listed) s.H rs=yi (fun _=>true) s.H rs:=funext fun t=>AU fun j e hj _=>nG j (by have:=jq hj;omega);have hs2:SR w F O μ (below N) ⟨s.nt,N,zO (fun _=>true) s.tm rs,yi (fun _=>true) s.H rs⟩ ft a:=by
    rw [← hk,← hT,← hH];exact { hr:=hs.hr,nt:=hs.nt,tm:=hs.tm,df:=hs.df }
   exact hQ w F O μ ft a ⟨jr listed,hph,nG⟩ sy hs2 hf
 | succ fuel ih=>
  intro listed a w F O μ ft fh hun LK hs hf sy hph;refine ⟨fun aed=>?_,fun i hi=>?_⟩
  ·
   exfalso;have key:∀ m,m≤ops.length→∀ j,j < m→jr listed j=true:=by
    intro m
    induction m with
    | zero=>intro _ j hj;omega
    | succ m ihm=>
     intro hm j hj;rcases Nat.lt_or_ge j m with h | h
     ·exact ihm (by omega) j h
     ·have hjm:j=m:=by omega
      subst hjm;cases hl:jr listed j with
      | true=>rfl
      | false=>
       exfalso;have hjo:j < ops.length:=by omega
       have NI:j∈Region.ready .any ⟨ops⟩ listed:=by
        rw [mem_ready];refine ⟨?_,ops[j],by simp [hjo],fun e he hb=>?_⟩
        ·have dY:j < listed.size:=fh▸hjo;simp only [jr] at hl;simp [dY] at hl ⊢;exact hl
        ·exact ihm (by omega) e.on ((st j ops[j] (by simp [hjo])).1 e he hb)
       rw [aed] at NI;cases NI
   have hz:unl listed=0:=by
    unfold unl;rw [List.countP_eq_zero];intro b hb;obtain ⟨j,hj,rfl⟩:=List.mem_iff_getElem.1 hb;have mi:j < listed.size:=by simpa using hj
    have:=key ops.length (Nat.le_refl _) j (fh▸mi);simp only [jr] at this;simp [mi] at this ⊢;exact this
   omega
  ·obtain ⟨afv,o,YD,afw⟩:=mem_ready.1 hi;have aan:ops[i]?=some o:=by simpa using YD
   have Kg:i < ops.length:=(List.getElem?_eq_some_iff.1 aan).1;have hil:i < listed.size:=fh▸Kg;have hDi:jr listed i=false:=by
    simp only [jr];simp [hil] at afv ⊢;exact afv
   obtain ⟨e,q,hre,HA,⟨p,hp⟩,hc⟩:=P0 i o aan;obtain ⟨s1,s2,s3,s4⟩:=st i o aan;have hB:∀ j,bit B i j=true→jr listed j=true:=by
    intro j hb;obtain ⟨ed,h1,h2,h3⟩:=TH s3 j (B1 s2 hb) hb;have h4:jr listed ed.on=true:=afw ed (by simpa using h1) h2;rcases h3 with h3 | h3
    ·rw [← h3];exact h4
    ·exact LK ed.on h4 j h3
   have hnB:∀ j,jr listed j=true→bit B j i=false:=by
    intro j hj;cases h:bit B j i with
    | false=>rfl
    | true=>have:=LK j hj i h;rw [hDi] at this;cases this
   have aao:∀ j,q.length≤j→bit B q.length j=false:=by
    intro j hj;cases h:bit B q.length j with
    | false=>rfl
    | true=>rw [HA] at h hj;have:=B1 s2 h;omega
   have TI:∀ j e',eA rs j=some e'→∃ o',ops[j]?=some o'∧e'.d=o'.dst∧∀ id,id∈e'.up.map (·.1)→id∈wq eX j:=by
    intro j e' hj;have hjo:j < ops.length:=hlen▸jq hj;obtain ⟨e2,q2,k1,k2,_,k4⟩:=P0 j ops[j] (by simp [hjo]);rw [hj] at k1;cases k1;rcases k4 with ⟨_,k4⟩ | ⟨_,k4⟩
    ·exact ⟨ops[j],by simp [hjo],k4.d,fun id bZ=>k2▸k4.tou id bZ⟩
    ·exact ⟨ops[j],by simp [hjo],k4.d,fun id bZ=>k2▸k4.tou id bZ⟩
   have eqD:∀ j,j≠i→inc B i j=false→(jr listed j=bit B i j):=by
    intro j oV B2;simp only [inc,Bool.and_eq_false_iff,Bool.not_eq_false'] at B2;cases hl:jr listed j with
    | true=>
     rcases B2 with (h | h) | h
     ·exact absurd (Nat.eq_of_beq_eq_true h).symm oV
     ·exact h.symm
     ·rw [hnB j hl] at h;cases h
    | false=>
     cases h:bit B i j with
     | false=>rfl
     | true=>rw [hB j h] at hl;cases hl
   have aap:∀ M:fG,M.nt=s.nt→(∀ t,M.tm t=.top∨(Hq B q.length t 0 ops=false∧M.tm t=zO (bit B q.length) s.tm q t))→(∀ id,M.H id=none∨(FJ B q.length id eX=false∧M.H id=yi (bit B q.length) s.H q id))→XC M (Js s rs (jr listed)):=by
    intro M hM1 hM2 hM3;refine ⟨hM1,fun t=>?_,fun id=>?_⟩
    ·rcases hM2 t with hh | ⟨hh,hv⟩
     ·rw [hh];exact g8.top _
     ·have:zO (jr listed) s.tm rs t=M.tm t:=by
       rw [hv,← WA (p:=p) (s0:=s.tm) (t:=t) (D:=bit B q.length) aao,← hp];refine (tN fun j e' hj hd=>?_).symm;obtain ⟨o',I_,hdo,_⟩:=TI j e' hj;have B2:=Hr hh j o' I_ (hdo▸hd);rw [Nat.zero_add,HA] at B2;rw [HA];by_cases hji:j=i
       ·subst hji;rw [hDi];cases h:bit B j j with
        | false=>rfl
        | true=>have:=B1 s2 h;omega
       ·exact (eqD j hji B2).symm
      show g8 (zO (jr listed) s.tm rs t) (M.tm t);rw [this];exact g8.refl _
    ·rcases hM3 id with hh | ⟨hh,hv⟩
     ·exact .inl hh
     ·refine .inr ?_;rw [hv];show _=yi (jr listed) s.H rs id;rw [← WB (p:=p) (H0:=s.H) (id:=id) (D:=bit B q.length) aao,← hp];refine AU fun j e' hj hd=>?_;obtain ⟨o',I_,_,hto⟩:=TI j e' hj;obtain ⟨pp,hpp,hpj,aaq⟩:=ES (hto id hd);have B2:=Hs hh pp hpp aaq;rw [hpj,HA] at B2;rw [HA];by_cases hji:j=i
      ·subst hji;rw [hDi];cases h:bit B j j with
       | false=>rfl
       | true=>have:=B1 s2 h;omega
      ·exact (eqD j hji B2).symm
   rcases hc with ⟨hXi,hc⟩ | ⟨hXi,hcx⟩
   case inr=>
    obtain ⟨M,hM1,hM2,hM3,hZ⟩:=hcx.run;exact ahi i o M aan hXi hZ fuel listed a w F O μ ft fh hun LK hDi hB hph (aap M hM1 hM2 hM3) hs hf sy
   obtain ⟨M,hM1,hM2,hM3,kT⟩:=hc.run;have P2:=aap M hM1 hM2 hM3;have hsm:=hs.less P2;have nT:∀ j e',eA rs j=some e'→i < j→jr listed j=true→e'.d=e.d→e.d=none:=by
    intro j e' hj H_ hl hde;cases hd:e.d with
    | none=>rfl
    | some t=>
     obtain ⟨o',I_,hdo,_⟩:=TI j e' hj;have hb:=TG ((st j o' I_).2.2.2) i o aan (by omega) t (by rw [← hdo,hde,hd]) (by rw [← hc.d,hd]);rw [Nat.zero_add,hnB j hl] at hb;cases hb
   have nH:∀ j e' id,eA rs j=some e'→i < j→jr listed j=true→id∈e'.up.map (·.1)→id ∉ e.up.map (·.1):=by
    intro j e' id hj H_ hl bZ OQ;obtain ⟨o',I_,_,hto⟩:=TI j e' hj;obtain ⟨o2,YG,_,ahj⟩:=TI i e hre;obtain ⟨p1,hp1,hpj,aaq⟩:=ES (hto id bZ);obtain ⟨p2,hp2,ahk,afx⟩:=ES (ahj id OQ);simp only [List.all_eq_true] at afu;have h1:=afu p1 hp1 p2 hp2;rw [hpj,ahk] at h1;have h2:i.blt j=true:=Nat.ble_eq_true_of_le H_;have h3:(p1.2.any fun x=>p2.2.any fun y=>Nat.beq x y)=true:=
     List.any_eq_true.2 ⟨id,aaq,List.any_eq_true.2 ⟨id,afx,by simp⟩⟩
    rw [h2,h3,hnB j hl] at h1;cases h1
   have ahl:unl (listed.setIfInBounds i true)=fuel:=by have:=Ru hil hDi;omega
   have ahm:∀ k,jr (listed.setIfInBounds i true) k=true→∀ j,bit B k j=true→jr (listed.setIfInBounds i true) j=true:=by
    rw [IX hil];intro k hk j hb;simp only [more] at hk ⊢;split
    ·rfl
    ·split at hk
     ·rename_i hki;subst hki;exact hB j hb
     ·exact LK k hk j hb
   have afy:∀ (v:Value) (w':World) (F' O':Nat→Prop) (aZ:Nat→Nat) (bX:Nat→Nat→Prop),VR w' F' aZ (kD (more (jr listed) i) s.N rs) e.v v→HR w' F' O' aZ (kD (more (jr listed) i) s.N rs) (yi (more (jr listed) i) s.H rs) bX→
     (∀ x u,VR w F μ (kD (jr listed) s.N rs) x u→VR w' F' aZ (kD (more (jr listed) i) s.N rs) x u)→Fr w0 F0 O0 ZN (below m0) w' F' O' aZ→qj w' F' O' (SI a.defers)→
     wpAnyIn (Wr ro) 0 P .any ⟨ops⟩ Q fuel (listed.setIfInBounds i true) (a.put o.dst v) w':=by
    intro v w' F' O' aZ bX hv hr UU hf' RN;have hpd:(a.put o.dst v).defers=a.defers:=by cases o.dst<;>rfl
    refine ih _ _ _ F' O' aZ bX (by simp [fh]) ahl ahm ?_ hf' (hpd.trans sy) (by rw [IX hil];exact Yg _ _ hph hXi);rw [IX hil];refine { hr:=hr,nt:=?_,tm:=fun t=>?_,df:=?_ }
    ·have:(a.put o.dst v).tmps.size=a.tmps.size:=by cases o.dst<;>simp [Act.put]
     exact this.trans hs.nt
    ·show VR w' F' aZ _ (zO (more (jr listed) i) s.tm rs t) _;rw [TF hre nT hDi t];cases hd:Om e.d t with
     | true=>
      have h1:o.dst=some t:=hc.d▸zm.1 hd;have h2:t < a.tmps.size:=by
       have:=hc.ok;rw [h1] at this;have:=Nat.le_of_ble_eq_true this;rw [hs.nt];exact this
      simpa [Act.put,h1,h2] using hv
     | false=>
      have h1:o.dst≠some t:=fun h=>by
       rw [← hc.d] at h;rw [zm.2 h] at hd;cases hd
      have h3:(a.put o.dst v).tmps.getD t undef=a.tmps.getD t undef:=by
       cases hdd:o.dst with
       | none=>rfl
       | some d=>
        have:d≠t:=fun h=>h1 (by rw [hdd,h]);simp [Act.put,Array.getElem?_setIfInBounds_ne this]
      rw [h3];exact UU _ _ (hs.tm t)
    ·rw [hpd];exact RN
   unfold wpOpIn;rw [YD];simp only;rcases kT with ⟨hw,YL,hu0,PS⟩ | ⟨hw,rv,Lv,u9,hvv,PB,MX,zg⟩
   ·rw [hw hsm];simp only [Bool.false_eq_true,if_false];have eK:kD (more (jr listed) i) s.N rs=kD (jr listed) s.N rs:=by
     funext id;refine propext ((LY hre id).trans ⟨fun h=>?_,fun h=>.inl h⟩);rcases h with h | ⟨h1,h2⟩
     ·exact h
     ·rw [PS] at h2;omega
    have eH:yi (more (jr listed) i) s.H rs=yi (jr listed) s.H rs:=by
     funext id;rw [NS hre nH hDi id,hu0];rfl
    refine ⟨fun _ _=>trivial,afy undef w F O μ ft ?_ ?_ ?_ hf hs.df⟩
    ·rw [YL];exact .lit _
    ·rw [eK,eH];exact hs.hr
    ·rw [eK];exact fun _ _ h=>h
   ·rw [hw hsm];simp only [if_true];refine TB zg ?_;have ahn:dg P o (Js s rs (jr listed)) ⟨rv,Lv,List.range' e.N e.k⟩:=dg.more u9 P2;have eK:plus (kD (jr listed) s.N rs) (List.range' e.N e.k)=kD (more (jr listed) i) s.N rs:=by
     funext id;refine propext (Iff.trans ?_ (LY hre id).symm);simp only [plus,List.mem_range'_1]
    refine ahn w F O μ _ ft a hs (fun id bZ hk=>?_) _ _ fun v w' F' O' aZ bX hv hr hf'=>?_
    ·simp only [List.mem_range'_1] at bZ;exact PY hDi hwf hre hk bZ
    ·have UU:∀ x u,VR w F μ (kD (jr listed) s.N rs) x u→VR w' F' aZ (kD (more (jr listed) i) s.N rs) x u:=fun x u hx=>eK▸hx.step hs.hr hf' fun id h=>.inl h;simp only [eK] at hv hr;refine afy v w' F' O' aZ bX (hvv hv) (hr.imp fun id b' hb=>?_) UU (hf.trans (hf'.LH fun id (bZ:id < m0)=>Vp (show id < s.N by omega))) (hs.df.step hf');rw [NS hre nH hDi id] at hb;have same:∀ x,(s.H.c_ x) id=(s.H.c_ x) id:=fun _=>rfl;rcases Hp.QU s.H id Lv with ⟨h1,h2⟩ | ⟨h1,h2⟩
     ·rw [tM.2 (PB id h1)] at hb;obtain ⟨b,k1,k2⟩:=MX id b' (PB id h1) hb;refine ⟨b,?_,k2⟩;have e1:=h2 M.H;have e2:=h2 (Js s rs (jr listed)).H;show (Js s rs (jr listed)).H.c_ Lv id=some b;rw [e2,← e1];exact k1
     ·have e1:=h2 M.H;have e2:=h2 (Js s rs (jr listed)).H;cases hh:yh e.up id with
      | false=>
       rw [hh] at hb;refine ⟨b',?_,eg.refl _⟩;show (Js s rs (jr listed)).H.c_ Lv id=some b';rw [e2];exact hb
      | true=>
       rw [hh] at hb;obtain ⟨b,k1,k2⟩:=MX id b' (tM.1 hh) hb;refine ⟨b,?_,k2⟩;show (Js s rs (jr listed)).H.c_ Lv id=some b;rw [e1] at k1;rw [e2];rcases P2.H id with h3 | h3
       ·rw [h3] at k1;cases k1
       ·rw [← h3];exact k1
end Go.Proofs.YtjkbbdldmdajkaaGreatDoor.c5
