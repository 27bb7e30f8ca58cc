/- Calls in the evaluator are right. No condition. -/
import Derived.Test.YtjkbbdldmdajkaaGreatDoorVP
set_option linter.unusedSimpArgs false
set_option linter.unusedVariables false
namespace Go.Proofs.YtjkbbdldmdajkaaGreatDoor.c_
open Go Go.RowKit
variable {w w' xk:World} {F F' Bs O O' v8:Nat→Prop} {μ bC lG:Nat→Nat} {K K' EF:Nat→Prop} {ft bZ:Nat→Nat→Prop} {P:Program} {R:Type}
theorem Jp (e:Xs) (n:Nat):(ue e n).length=n:=by simp [ue]
theorem KK {e:Xs} {n j:Nat} (h:j < (ue e n).length):(ue e n)[j]=(ef e.uP j).getD 0:=by simp [ue]
theorem ago:xn []=fun _=>none:=rfl
theorem aco {ids:List Nat} {N m:Nat} (AF:ids.Nodup) (dQ:∀ id,id∈ids→id < N):∀ j j',j < m→j' < m→pb ids N j=pb ids N j'→j=j':=by
 intro j j' _ _ h;by_cases h1:j < ids.length<;>by_cases h2:j' < ids.length
 ·have e1:pb ids N j=ids[j]:=ri h1;have e2:pb ids N j'=ids[j']:=ri h2;exact Kz AF h1 h2 (by rw [← e1,← e2];exact h)
 ·have e1:pb ids N j=ids[j]:=ri h1;have e2:pb ids N j'=N+(j'-ids.length):=wz (by omega);have:=dQ _ (List.getElem_mem h1);omega
 ·have e1:pb ids N j'=ids[j']:=ri h2;have e2:pb ids N j=N+(j-ids.length):=wz (by omega);have:=dQ _ (List.getElem_mem h2);omega
 ·have e1:pb ids N j=N+(j-ids.length):=wz (by omega);have e2:pb ids N j'=N+(j'-ids.length):=wz (by omega);omega
theorem Yt {ids:List Nat} {N m:Nat} (dQ:∀ id,id∈ids→id < N) (hn:ids.length≤m) {j:Nat} (hj:j < m):pb ids N j < N+(m-ids.length):=by
 by_cases h:j < ids.length
 ·have e:pb ids N j=ids[j]:=ri h;have:=dQ _ (List.getElem_mem h);omega
 ·have e:pb ids N j=N+(j-ids.length):=wz (by omega);omega
theorem WR {ρ:Nat→Nat} {H q:List (Nat×aY)} {m:Nat} (id:Nat):(∃ j,j < m∧ρ j=id∧((∃ b,aT q id=some b∧aT (cD H ((List.range m).map fun j=>(ρ j,aT q (ρ j)))) id=some b)∨
   (aT q id=none∧∃ x,aT (cD H ((List.range m).map fun j=>(ρ j,aT q (ρ j)))) id=some (.bY x))))∨
  ((∀ j,j < m→ρ j≠id)∧aT (cD H ((List.range m).map fun j=>(ρ j,aT q (ρ j)))) id=aT H id):=by
 have key:∀ l:List Nat,(∃ j,j∈l∧ρ j=id∧(l.map fun j=>(ρ j,aT q (ρ j))).find? (fun p=>Nat.beq id p.1)=some (id,aT q id))∨((∀ j,j∈l→ρ j≠id)∧(l.map fun j=>(ρ j,aT q (ρ j))).find? (fun p=>Nat.beq id p.1)=none):=by
  intro l
  induction l with
  | nil=>exact .inr ⟨(fun j hj=>by cases hj),rfl⟩
  | cons x l ih=>
   simp only [List.map_cons,List.find?_cons];cases e:Nat.beq id (ρ x) with
   | true=>
    have e':=Nat.eq_of_beq_eq_true e;exact .inl ⟨x,by simp,e'.symm,by simp only [← e']⟩
   | false=>
    rcases ih with ⟨j,h1,h2,h3⟩ | ⟨h1,h2⟩
    ·exact .inl ⟨j,by simp [h1],h2,h3⟩
    ·refine .inr ⟨fun j hj=>?_,h2⟩;rcases List.mem_cons.1 hj with h | h
     ·subst h;exact fun h=>Nat.ne_of_beq_eq_false e h.symm
     ·exact h1 j h
 rcases Fq H id ((List.range m).map fun j=>(ρ j,aT q (ρ j))) with ⟨p,hp,hb⟩ | ⟨hp,hb⟩
 ·rcases key (List.range m) with ⟨j,h1,h2,h3⟩ | ⟨h1,h2⟩
  ·rw [h3] at hp;cases hp;refine .inl ⟨j,by simpa using h1,h2,?_⟩;rcases hb with ⟨b,k1,k2⟩ | ⟨k1,k2⟩
   ·exact .inl ⟨b,k1,k2⟩
   ·exact .inr ⟨k1,k2⟩
  ·rw [h2] at hp;cases hp
 ·rcases key (List.range m) with ⟨j,h1,h2,h3⟩ | ⟨h1,h2⟩
  ·rw [h3] at hp;cases hp
  ·exact .inr ⟨fun j hj=>h1 j (by simpa using hj),hb⟩
theorem VK {H:List (Nat×aY)} {N:Nat}:∀ {up:List (Nat×Option aY)},(∀ id b,(id,some b)∈up→id < N→fH (some b)=fH (aT H id))→Sub H (cD H up) N
 | [],_=>Sub.refl _ _
 | (i,some b)::r,h=>fun id bY=>by
  simp only [cD,aT];cases e:Nat.beq id i with
  | true=>
   have e:=Nat.eq_of_beq_eq_true e;subst e;exact h id b (by simp) bY
  | false=>exact VK (fun id b hm=>h id b (by simp [hm])) id bY
 | (i,none)::r,h=>fun id bY=>by
  simp only [cD,aT];have ih:=VK (H:=H) (N:=N) (up:=r) (fun id b hm=>h id b (by simp [hm])) id bY;cases e:Nat.beq id i with
  | true=>
   have e:=Nat.eq_of_beq_eq_true e;subst e;exact ih
  | false=>exact ih
theorem aaO {ids:List Nat} {N m:Nat} {H1 H:Hp} (hi:∀ j j',j < m→j' < m→pb ids N j=pb ids N j'→j=j') {j:Nat} (hj:j < m):H.dh (Wu ids N m H1) (pb ids N j)=(H1 j).map (jV.dI (pb ids N)):=by
 have key:∀ l:List Nat,(∀ x,x∈l→x < m)→j∈l→H.dh (l.map fun j=>(pb ids N j,(H1 j).map (jV.dI (pb ids N)))) (pb ids N j)=(H1 j).map (jV.dI (pb ids N)):=by
  intro l
  induction l with
  | nil=>intro _ h;cases h
  | cons x l ih=>
   intro hl hm;simp only [List.map_cons,Hp.dh];by_cases e:pb ids N j=pb ids N x
   ·rw [if_pos e,hi j x hj (hl x (by simp)) e]
   ·rw [if_neg e];exact ih (fun y hy=>hl y (by simp [hy])) ((List.mem_cons.1 hm).resolve_left fun h=>e (by rw [h]))
 exact key _ (fun x hx=>by simpa using hx) (by simpa using hj)
theorem Yu {ids:List Nat} {N m:Nat} {H1 H:Hp} {id:Nat} (h:∀ j,j < m→pb ids N j≠id):H.dh (Wu ids N m H1) id=H id:=by
 have key:∀ l:List Nat,(∀ x,x∈l→x < m)→H.dh (l.map fun j=>(pb ids N j,(H1 j).map (jV.dI (pb ids N)))) id=H id:=by
  intro l
  induction l with
  | nil=>intro _;rfl
  | cons x l ih=>
   intro hl;simp only [List.map_cons,Hp.dh];rw [if_neg fun e=>h x (hl x (by simp)) e.symm];exact ih fun y hy=>hl y (by simp [hy])
 exact key _ fun x hx=>by simpa using hx
theorem VL {s:bP} {act:Act} {e:Xs} {m:Nat} {H':List (Nat×aY)} (hs:SR w F O μ K s.st ft act) (hg:e.EY m s.N=true) (hH:∀ p,p∈H'→Od s.H H' e id p) (hi:e.inj):
  Reads w F μ K s.H e (frX s e F ft) (fun j=>μ (pb (ue e m) s.N j)) (below m) H' id:=by
 have h:=Jo (H':=H') hs hg hH hi;refine { h with num:=fun j b9 hj hk=>?_,fz:=fun b9 bY t v xs hb u hv K2=>KG hs hb hv (fun b h=>.inl h) fun hl b cl=>.inr ⟨b9,bY,hl,cl⟩,bx:=fun b9 bY l hl=>TU hs bY hl }
 ·obtain ⟨h1,_⟩:=h.num j b9 hj hk;refine ⟨h1,?_⟩;have hl:j < (ue e m).length:=by rw [Jp];exact h1
  have e1:pb (ue e m) s.N j=(ue e m)[j]:=ri hl;simp only [id];rw [e1,KK hl,hj];rfl
theorem WS {S:Nat→Prop} {n:Nat} {o:Obj} {l:List AV}:ik w F μ K S n o (.box l)↔∃ cs t,o=.cells cs t (0,0)∧(∀ x,S x↔x=n)∧l.length≤cs.size∧iL w F μ K l (cs.toList.take l.length):=by
 have get:∀ (cs:Array Value) i,i < l.length→(cs.toList.take l.length).getD i undef=cs.getD i undef:=fun cs i hi=>by
  rw [← jG];simp [List.getD,List.getElem?_take,hi]
 constructor
 ·rintro ⟨cs,t,q1,q2,q3,q4⟩
  exact ⟨cs,t,q1,q2,q3,by simp;omega,fun i hi=>by rw [get cs i hi];exact q4 i hi⟩
 ·rintro ⟨cs,t,q1,q2,q3,q4⟩
  exact ⟨cs,t,q1,q2,q3,fun i hi=>by rw [← get cs i hi];exact q4.2 i hi⟩
theorem KL {i:Nat} (h:Ty.flat (.st i)=true) {x:C i} {y:cN} (hy:y∈get i x):Wv (cR y):=by
 refine Oe ?_;have e3:(get i x).map (·.t)=AE i:=q8 i x;have hm:y.t∈AE i:=by rw [← e3];exact List.mem_map.2 ⟨_,hy,rfl⟩
 have:=List.all_eq_true.1 h _ hm;generalize y.t=u at this;cases u<;>first | rfl | cases this
theorem acp {i:Nat} (h:Ty.flat (.st i)=true) (x:C i):Wv (ua (get i x)).1∧Wv (ua (get i x)).2:=by
 have key:∀ y,y∈get i x→Wv (cR y):=fun y hy=>KL h hy;generalize get i x=l at key
 match l,key with
 | [],_=>exact ⟨fun _=>.top _,fun _=>.top _⟩
 | [a],key=>exact ⟨key a (by simp),fun hv=>by obtain ⟨vs,rfl,h⟩:=hv.fU;rw [h.iK];exact .rP .nil⟩
 | a::b::r,key=>exact ⟨key a (by simp),key b (by simp)⟩
theorem aep {l:List cN} (h:∀ y,y∈l→Wv (cR y)):Wv (.agg (l.map cR)):=by
 intro w F F' μ K v hv;obtain ⟨vs,rfl,zd⟩:=hv.fU;refine .rP ⟨zd.1,fun i hi=>?_⟩;have di:i < l.length:=by simpa using hi
 have e:(l.map cR).getD i .top=cR l[i]:=by simp [List.getD,di]
 have:=zd.2 i hi;rw [e] at this ⊢;exact h _ (List.getElem_mem di) this
theorem TY {i:Nat} (h:Ty.flat (.st i)=true) (n:Nat) (x:C i):Wv (dd n (get i x)).1∧Wv (dd n (get i x)).2:=by
 cases n with
 | zero=>exact acp h x
 | succ n=>
  have key:∀ y,y∈get i x→Wv (cR y):=fun y hy=>KL h hy;generalize get i x=l at key;refine ⟨aep fun y hy=>key y (List.mem_of_mem_take hy),?_⟩;simp only [dd];cases hd:l.drop (n+1) with
  | nil=>exact fun hv=>by obtain ⟨vs,rfl,h⟩:=hv.fU;rw [h.iK];exact .rP .nil
  | cons y r=>exact key y (List.mem_of_mem_drop (by rw [hd];simp))
theorem acq {i:Nat} (h:Ty.flat (.st i)=true) (l:List (C i)):NfB (.map (l.map fun x=>dd (JG i) (get i x))):=by
 intro w F F' μ K S n o hB hS;obtain ⟨es,clock,h1,h2,h3,h4,h5⟩:=hB;refine ⟨es,clock,h1,h2,h3,fun j hj=>?_,h5⟩;have mR:j < l.length:=by simpa using hj
 have e:(l.map fun x=>dd (JG i) (get i x)).getD j (.top,.top)=dd (JG i) (get i l[j]):=by simp [List.getD,mR]
 obtain ⟨k1,k2,k3⟩:=h4 j hj;rw [e] at k2 k3 ⊢;exact ⟨k1,(TY h _ l[j]).1 k2,(TY h _ l[j]).2 k3⟩
theorem acr {t:Ty} (h:t.flat=true) {x:t.dn} {y:cN} (hy:y∈ew t x):Wv (cR y):=by
 cases t with
 | st i=>exact KL h hy
 | sl=>cases h
 | _=>
  simp only [ew,List.mem_singleton] at hy;subst hy;exact Oe h
theorem acs {t:Ty} {H:List (Nat×aY)} (hf:t.flat=true) (x:t.dn):NfB (aY.dC H (.box ((ew t x).map .d))):=by
 simp only [aY.dC];intro w F F' μ K S n o hB hS;obtain ⟨cs,ty,h1,h2,h3,h4⟩:=hB;refine ⟨cs,ty,h1,h2,h3,fun j hj=>?_⟩;have h5:=h4 j hj;rw [bB] at hj;rw [dx _ _ _ hj] at h5 ⊢;simp only [List.length_map] at hj;have e2:(((ew t x).map TA.d).getD j .top)=TA.d ((ew t x)[j]'hj):=by simp [List.getD,hj]
 rw [e2] at h5 ⊢;simp only [TA.av] at h5 ⊢;exact acr hf (List.getElem_mem hj) h5
theorem instBs_nf {ρ:Nat→Nat} {H:List (Nat×aY)}:∀ {bs:List Bp} {j:Nat} {l l':List cN} {q:List (Nat×aY)},instBs ρ bs j l=some (q,l')→bs.all Bp.flat=true→∀ p,p∈q→NfB (p.2.dC H)
 | [],j,l,l',q,h,_,p,hp=>by simp only [instBs] at h;cases h;cases hp
 | b::r,j,l,l',q,h,hf,p,hp=>by
  simp only [List.all_cons,Bool.and_eq_true] at hf;by_cases hg:b=.gone
  ·subst hg;simp only [instBs] at h;exact instBs_nf h hf.2 p hp
  ·rw [instBs_cons hg] at h;split at h
   ·rename_i x l2 hb;split at h
    ·rename_i q2 l3 hr;cases h;rcases List.mem_cons.1 hp with e | e
     ·subst e;cases b with
      | gone=>exact absurd rfl hg
      | cQ t=>
       simp only [instB] at hb;split at hb
       ·split at hb
        ·rename_i e;subst e;cases hb;exact acs (by simpa only [Bp.flat] using hf.1) _
        ·cases hb
       ·cases hb
      | dmap i=>
       simp only [instB] at hb;split at hb
       ·split at hb
        ·rename_i e;subst e;cases hb;exact acq (by simpa only [Bp.flat] using hf.1) _
        ·cases hb
       ·cases hb
      | row t v=>
       simp only [instB] at hb;split at hb
       ·split at hb
        ·rename_i e;subst e;cases hb;exact aeo (by simpa only [Bp.flat] using hf.1) _
        ·cases hb
       ·cases hb
      | box ps=>
       simp only [instB] at hb;split at hb
       ·rename_i as l5 hi;cases hb;simp only [aY.dC];intro hB hS;obtain ⟨cs,t,q1,q2,q3,q4⟩:=WS.1 hB;exact WS.2 ⟨cs,t,q1,q2,q3,instL_nf hi hf.1 q4⟩
       ·cases hb
     ·exact instBs_nf hr hf.2 p e
    ·cases h
   ·cases h
theorem aeq {n:Nat}:ef [] n=none:=rfl
theorem acu:(⟨[],[]⟩:Xs).inj:=fun j j' id h=>by cases h
theorem Yv {c:CT} {o:Oper} {s:bP} {as:List TA} {κ Az:cx→Option R} {z:R} (hc:aU P c) (ho:R1 P o s c.f as) (hs:s.ok) (h:VJ c s as κ Az=some z):wg P o s κ z∨EvP P o s Az z:=by
 unfold VJ at h;split at h
 ·rename_i e1 d1 h1;split at h
  ·rename_i e2 d2 h2;split at h
   ·rename_i hgd;split at h
    ·rename_i x hx;simp only [Bool.and_eq_true] at hgd;obtain ⟨hg,YS,hfl⟩:=hgd;cases ha:yJ (CE c.args++RY c.dc) c.F x with
     | none=>rw [ha] at h;cases h
     | some out=>
      rw [ha] at h;simp only [Option.bind_some] at h;rw [TW] at h;have KM:=KJ (X:=Unit) c.outs out;have Of:=hc x out ha;generalize (oE c.outs out).1=a at h KM Of;generalize (oE c.outs out).2=ds at h Of;obtain ⟨bl,bi,ba,bq⟩:=wb (H':=[]) (ρ:=id) h2;obtain ⟨q0,q1,_⟩:=bq [];rw [List.append_nil] at q1;obtain ⟨bl,bi,ba,bq⟩:=wb (H':=q0) (ρ:=id) h2;obtain ⟨q',q1',q2⟩:=bq [];rw [List.append_nil,q1] at q1';cases q1';obtain ⟨xl,xi,xb⟩:=tj (H':=q0) (ρ:=id) h1;obtain ⟨as0,a1,a2⟩:=xb d2;have inj:=bi (xi acu);have hH:∀ p,p∈q0→Od s.H q0 e2 id p:=fun p hp=>(q2 p hp).1;rw [ml hx] at Of;have Of:=Of as0 d2 q0 a1 q1;have aaP:=hg;simp only [Xs.EY,Bool.and_eq_true] at aaP;have oy:∀ j,j < c.dc.length→∃ b9,ef e2.uP j=some b9∧b9 < s.N:=fun j hj=>by
       obtain ⟨b9,h3⟩:=ba j hj;rw [Nat.zero_add] at h3;have h0:=List.all_eq_true.1 aaP.1 _ (na h3);simp only [Bool.and_eq_true] at h0;exact ⟨b9,h3,Nat.le_of_ble_eq_true h0.2⟩
      have hlen:(ue e2 c.dc.length).length=c.dc.length:=Jp _ _;have aer:∀ j,j < c.dc.length→ef e2.uP j=some ((ef e2.uP j).getD 0):=fun j hj=>by
       obtain ⟨b9,h3,_⟩:=oy j hj;rw [h3];rfl
      have ade:∀ b9,b9∈ue e2 c.dc.length→b9 < s.N:=fun b9 hm=>by
       simp only [ue,List.mem_map,List.mem_range] at hm;obtain ⟨j,hj,rfl⟩:=hm;obtain ⟨b9,h3,h4⟩:=oy j hj;rw [h3];exact h4
      have AF:(ue e2 c.dc.length).Nodup:=by
       rw [List.nodup_iff_pairwise_ne,List.pairwise_iff_getElem];intro i j hi hj JK e;rw [KK hi,KK hj] at e;rw [hlen] at hi hj;have:=inj i j _ (aer i hi) (e▸aer j hj);omega
      unfold WQ at h;split at h
      ·rename_i xm;simp only [Bool.and_eq_true] at xm;obtain ⟨hmm,hrl,hbl⟩:=xm;have hmm:=Nat.le_of_ble_eq_true hmm;rw [hlen] at hmm;rw [instP_ren] at h;split at h
       ·rename_i v r hv;cases Y5:instP id a.res ds with
        | none=>rw [Y5] at hv;cases hv
        | some vr=>
         obtain ⟨v0,r0⟩:=vr;rw [Y5] at hv;simp only [Option.map_some,Option.some.injEq,Prod.mk.injEq] at hv;obtain ⟨rfl,rfl⟩:=hv;rw [instBs_ren] at h;split at h
         ·rename_i q hq;cases hq0:instBs id a.dc 0 r0 with
          | none=>rw [hq0] at hq;cases hq
          | some qr=>
           obtain ⟨qq,rr⟩:=qr;rw [hq0] at hq;simp only [Option.map_some,Option.some.injEq,Prod.mk.injEq] at hq;obtain ⟨rfl,rfl⟩:=hq;have Of:=Of v0 r0 qq Y5 hq0;split at h
           ·rename_i afw;simp only [Bool.and_eq_true] at afw;obtain ⟨hh1,hh2⟩:=afw;obtain ⟨h,PZ⟩:=TX h;rw [← hlen] at hmm Of;generalize acg:ue e2 c.dc.length=ids at *;have afx:=aco (m:=a.dc.length) AF ade;have afy:∀ p,p∈qq→p.1 < a.dc.length:=fun p hp=>by
             obtain ⟨i,hi,e⟩:=instBs_keys hq0 p hp;rw [e];simpa using hi
            have lk:∀ j,j < a.dc.length→aT (qq.map fun p=>(pb ids s.N p.1,p.2.dI (pb ids s.N))) (pb ids s.N j)=(aT qq j).map (aY.dI (pb ids s.N)):=fun j hj=>Qo afx afy hj;generalize hqr:(qq.map fun p=>(pb ids s.N p.1,p.2.dI (pb ids s.N)))=qr at *;have JI:instP (pb ids s.N) a.res ds=some (v0.dI (pb ids s.N),r0):=by rw [instP_ren,Y5];rfl
            have hq1:instBs (pb ids s.N) a.dc 0 r0=some (qr,[]):=by rw [instBs_ren,hq0,← hqr];rfl
            have bnd:∀ j,j < a.dc.length→pb ids s.N j < s.N+(a.dc.length-ids.length):=fun j hj=>Yt ade hmm hj
            let rr:cx:=⟨v0.dI (pb ids s.N),(List.range a.dc.length).map fun j=>(pb ids s.N j,aT qr (pb ids s.N j)),a.dc.length-ids.length⟩
            have EY:NN s rr:=by
             refine ⟨VK fun b9 b hm bY=>?_,inst_wf (m:=a.dc.length) bnd JI hrl,fun b9 l hm=>?_⟩
             ·simp only [rr,List.mem_map,Prod.mk.injEq] at hm;obtain ⟨j,hj,h4,h5⟩:=hm;subst h4;refine PZ _ ?_ b h5;by_cases hj:j < ids.length
              ·have e:pb ids s.N j=ids[j]:=ri hj;rw [e];exact List.getElem_mem hj
              ·have e:pb ids s.N j=s.N+(j-ids.length):=wz (by omega);omega
             ·simp only [rr,List.mem_map,Prod.mk.injEq] at hm;obtain ⟨j,_,h4,h5⟩:=hm;exact instBs_wf (m:=a.dc.length) bnd hq1 hbl _ (lI h5)
            have rel:∀ j,j < a.dc.length→∀ x,fH (aT qr (pb ids s.N j))=some x→fH (aT qq j)=some x∧fH (aT (s.next rr).H (pb ids s.N j))=some x:=fun j hj x hx=>by
             constructor
             ·rw [lk j hj] at hx;cases e:aT qq j with
              | none=>rw [e] at hx;cases hx
              | some b=>rw [e] at hx;cases b<;>exact hx
             ·rcases WR (H:=s.H) (q:=qr) (m:=a.dc.length) (ρ:=pb ids s.N) (pb ids s.N j) with ⟨j',_,_,⟨b,k1,k2⟩ | ⟨k1,_⟩⟩ | ⟨k1,_⟩
              ·rw [show aT (s.next rr).H (pb ids s.N j)=some b from k2,← k1];exact hx
              ·rw [k1] at hx;cases hx
              ·exact absurd rfl (k1 j hj)
            have wf0:∀ p,p∈qq→im qq a.dc.length p.2.refs:=instBs_wf (m:=a.dc.length) (fun j h=>h) hq0 hbl;have himp:il ((v0.av qq).dI (pb ids s.N)) (rr.v.av (s.next rr).H):=by
             rw [VI rel v0 (inst_wf (m:=a.dc.length) (fun j h=>h) Y5 hrl) hh1];exact il.refl _
            have afz:∀ b9,b9∈(Wu ids s.N a.dc.length (xn qq)).map (·.1)→b9∈rr.up.map (·.1):=fun b9 hm=>by
             simpa [Wu,rr] using hm
            have Vb:∀ b9 b',xn (s.next rr).H b9=some b'→∃ b,(s.st.H.dh (Wu ids s.N a.dc.length (xn qq))) b9=some b∧eQ b b':=fun b9 b' hb=>by
             obtain ⟨B',hl,hv,rfl⟩:=iA hb;rcases WR (H:=s.H) (q:=qr) (m:=a.dc.length) (ρ:=pb ids s.N) b9 with ⟨j,m1,m2,⟨b,k1,k2⟩ | ⟨_,x,k2⟩⟩ | ⟨m1,m2⟩
             ·have k2':aT (s.next rr).H b9=some b:=k2;rw [k2'] at hl;cases hl;subst m2;rw [aaO afx m1];have YV:=k1;rw [lk j m1] at k1;cases hj:aT qq j with
              | none=>rw [hj] at k1;cases k1
              | some B=>
               rw [hj] at k1;simp only [Option.map_some,Option.some.injEq] at k1;subst k1;have hBv:B.Uy=true:=by cases B<;>first | rfl | exact hv
               refine ⟨(B.dC qq).dI (pb ids s.N),by rw [KA hj hBv];rfl,?_⟩;rw [acn rel B (wf0 _ (lI hj)) (List.all_eq_true.1 hh2 _ (lI YV))];exact eQ.refl _
             ·have k2':aT (s.next rr).H b9=some (.bY x):=k2;rw [k2'] at hl;cases hl;cases hv
             ·rw [Yu m1];have m2':aT (s.next rr).H b9=aT s.H b9:=m2;rw [m2'] at hl;refine ⟨B'.dC s.H,dF hl hv,?_⟩;rw [qN EY.sub (hs.H b9 _ hl)];exact eQ.refl _
            have core:∀ {w:World} {F O K:Nat→Prop} {μ:Nat→Nat} {ft:Nat→Nat→Prop} {act:Act},SR w F O μ K s.st ft act→(∀ id,id∈List.range' s.N rr.k→¬ K id)→∀ s8,iL w F μ K (dD s.H as) s8→
              Calls P c.f ⟨s8⟩ w fun en w'=>∃ v F' O' bC bZ,en=(cond a.Ky (HO.Ky (v0.av qq)) (.ret (v0.av qq))).is v∧VR w' F' bC (plus K (List.range' s.N rr.k)) ((v0.av qq).dI (pb ids s.N)) v∧
               HR w' F' O' bC (plus K (List.range' s.N rr.k)) (s.st.H.dh (Wu ids s.N a.dc.length (xn qq))) bZ∧Fr w F O μ K w' F' O' bC:=by
             intro w F O K μ ft act gh ES s8 Bo;have rd:=VL gh hg hH inj;rw [acg] at rd;have hnf:e2.fz=[]∨(Wv (HO.av (cond a.Ky (HO.Ky (v0.av qq)) (.ret (v0.av qq))))∧∀ j b,xn qq j=some b→NfB b):=by
              simp only [Bool.or_eq_true] at hfl;rcases hfl with h | h
              ·left;cases hz:e2.fz with
               | nil=>rfl
               | cons=>rw [hz] at h;cases h
              ·right;have:=List.all_eq_true.1 h a KM;simp only [Bool.and_eq_true] at this;refine ⟨?_,fun j b hb=>?_⟩
               ·have e:HO.av (cond a.Ky (HO.Ky (v0.av qq)) (.ret (v0.av qq)))=v0.av qq:=by cases a.Ky<;>rfl
                rw [e];exact fun {w F F' μ K v} h=>inst_nf Y5 this.1 h
               ·obtain ⟨B,hl,hv,rfl⟩:=iA hb;exact instBs_nf hq0 this.2 _ (lI hl)
             have hld:∀ b9,b9∈e2.fz→b9 ∉ ids:=fun b9 hz hm=>by
              have h0:=List.all_eq_true.1 aaP.2 _ hz;simp only [Bool.not_eq_true',List.any_eq_false] at h0;rw [← acg] at hm;simp only [ue,List.mem_map,List.mem_range] at hm;obtain ⟨j,hj,rfl⟩:=hm;exact h0 _ (na (aer j hj)) (by simp)
             have hand:∀ j b',xn q0 j=some b'→∃ b9,ids[j]?=some b9∧∃ b,s.st.H b9=some b∧(b'.fc=true→b.fc=true)∧∀ {S n o},ik w F μ K S n o b→ik w (fun b=>F b∨∃ id,id∈e2.fz∧s.st.H.live id∧ft id b) (fun j=>μ (pb ids s.N j)) (below ids.length) S n o b':=by
              intro j b' hb;obtain ⟨B',hl,hv,rfl⟩:=iA hb;obtain ⟨j2,Cv,B,k1,k2,k3,k3v,_,_,k5,k6⟩:=hH _ (lI hl);simp only [id] at k1;subst k1;have hj:j < c.dc.length:=by
               obtain ⟨i,hi,e⟩:=instBs_keys q1 _ (lI hl);simp only [id,Nat.zero_add] at e;omega
              refine ⟨Cv,?_,B.dC s.H,dF k3 k3v,k5,fun {S n o} hB=>?_⟩
              ·rw [← acg];simp [ue,hj,k2]
              ·rw [hlen];exact k6 rd hB
             have hK:∀ b9,b9∈ids→K b9:=fun b9 hm=>by
              have:=List.all_eq_true.1 YS b9 hm;cases hl:aT s.H b9 with
              | none=>rw [hl] at this;cases this
              | some B=>rw [hl] at this;exact gh.hr.known b9 _ (dF hl this)
             have lH:=aaq (ids:=ids) (ld:=e2.fz) (N:=s.N) Of AF hand gh hK ES hld
              (by rw [hlen];exact a2 (rd.of bl) Bo) hnf
             refine lH.mono ?_
             rintro en w' ⟨v,F',O',bC,bZ,k1,k2,k3,k4⟩
             have e:HO.av (cond a.Ky (HO.Ky (v0.av qq)) (.ret (v0.av qq)))=v0.av qq:=by cases a.Ky<;>rfl
             rw [e] at k2;exact ⟨v,F',O',bC,bZ,k1,k2,k3,k4⟩
            cases hp:a.Ky with
            | false=>
             rw [hp] at h core;refine .inl ⟨rr,⟨_,_,fun w F O μ K ft act gh hn Kn Q hk=>?_,himp,afz,Vb⟩,EY,h⟩;obtain ⟨s8,hr1,hr2⟩:=ho Of.2.1 gh;unfold Oper.wp;rw [hr1,Oper.upon_enter];refine (core gh hn s8 hr2).mono ?_
             rintro en w' ⟨v,F',O',bC,bZ,rfl,k2,k3,k4⟩
             exact hk v w' F' O' bC bZ k2 k3 k4
            | true=>
             rw [hp] at h core;refine .inr ⟨rr,⟨_,_,fun w F O μ K ft act gh hn Kn Q hk=>?_,himp,afz,Vb⟩,EY,h⟩;obtain ⟨s8,hr1,hr2⟩:=ho Of.2.1 gh;unfold Oper.wp;rw [hr1,Oper.upon_enter];refine (core gh hn s8 hr2).mono ?_
             rintro en w' ⟨v,F',O',bC,bZ,rfl,k2,k3,k4⟩
             exact hk v w' F' O' bC bZ k2 k3 k4
           ·cases h
         ·cases h
       ·cases h
      ·cases h
    ·cases h
   ·cases h
  ·cases h
 ·cases h
end Go.Proofs.YtjkbbdldmdajkaaGreatDoor.c_
