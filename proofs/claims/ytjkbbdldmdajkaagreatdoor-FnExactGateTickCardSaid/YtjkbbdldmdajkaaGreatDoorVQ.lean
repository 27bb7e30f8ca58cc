/- Calls in the evaluator are right. No condition. -/
import Derived.Test.YtjkbbdldmdajkaaGreatDoorVP
set_option linter.unusedSimpArgs false
set_option linter.unusedVariables false
namespace Go.Proofs.YtjkbbdldmdajkaaGreatDoor.c_
open Go Go.RowKit
variable {w w' xh:World} {F F' Bn O O' vW:Nat→Prop} {μ bD lF:Nat→Nat} {K K' EB:Nat→Prop} {ft bY:Nat→Nat→Prop} {P:Program} {R:Type}
theorem Jn (e:Xs) (n:Nat):(ub e n).length=n:=by simp [ub]
theorem KJ {e:Xs} {n j:Nat} (h:j < (ub e n).length):(ub e n)[j]=(ec e.v7 j).getD 0:=by simp [ub]
theorem agk:xk []=fun _=>none:=rfl
theorem ack {ids:List Nat} {N m:Nat} (AA:ids.Nodup) (dT:∀ id,id∈ids→id < N):∀ j j',j < m→j' < m→pa ids N j=pa ids N j'→j=j':=by
 intro j j' _ _ h;by_cases h1:j < ids.length<;>by_cases h2:j' < ids.length
 ·have e1:pa ids N j=ids[j]:=rh h1;have e2:pa ids N j'=ids[j']:=rh h2;exact Ky AA h1 h2 (by rw [← e1,← e2];exact h)
 ·have e1:pa ids N j=ids[j]:=rh h1;have e2:pa ids N j'=N+(j'-ids.length):=wv (by omega);have:=dT _ (List.getElem_mem h1);omega
 ·have e1:pa ids N j'=ids[j']:=rh h2;have e2:pa ids N j=N+(j-ids.length):=wv (by omega);have:=dT _ (List.getElem_mem h2);omega
 ·have e1:pa ids N j=N+(j-ids.length):=wv (by omega);have e2:pa ids N j'=N+(j'-ids.length):=wv (by omega);omega
theorem Yq {ids:List Nat} {N m:Nat} (dT:∀ id,id∈ids→id < N) (hn:ids.length≤m) {j:Nat} (hj:j < m):pa ids N j < N+(m-ids.length):=by
 by_cases h:j < ids.length
 ·have e:pa ids N j=ids[j]:=rh h;have:=dT _ (List.getElem_mem h);omega
 ·have e:pa ids N j=N+(j-ids.length):=wv (by omega);omega
theorem WN {ρ:Nat→Nat} {H q:List (Nat×aY)} {m:Nat} (id:Nat):(∃ j,j < m∧ρ j=id∧((∃ b,aT q id=some b∧aT (cD H ((List.range m).map fun j=>(ρ j,aT q (ρ j)))) id=some b)∨
   (aT q id=none∧∃ x,aT (cD H ((List.range m).map fun j=>(ρ j,aT q (ρ j)))) id=some (.bZ x))))∨
  ((∀ j,j < m→ρ j≠id)∧aT (cD H ((List.range m).map fun j=>(ρ j,aT q (ρ j)))) id=aT H id):=by
 have key:∀ l:List Nat,(∃ j,j∈l∧ρ j=id∧(l.map fun j=>(ρ j,aT q (ρ j))).find? (fun p=>Nat.beq id p.1)=some (id,aT q id))∨((∀ j,j∈l→ρ j≠id)∧(l.map fun j=>(ρ j,aT q (ρ j))).find? (fun p=>Nat.beq id p.1)=none):=by
  intro l
  induction l with
  | nil=>exact .inr ⟨(fun j hj=>by cases hj),rfl⟩
  | cons x l ih=>
   simp only [List.map_cons,List.find?_cons];cases e:Nat.beq id (ρ x) with
   | true=>
    have e':=Nat.eq_of_beq_eq_true e;exact .inl ⟨x,by simp,e'.symm,by simp only [← e']⟩
   | false=>
    rcases ih with ⟨j,h1,h2,h3⟩ | ⟨h1,h2⟩
    ·exact .inl ⟨j,by simp [h1],h2,h3⟩
    ·refine .inr ⟨fun j hj=>?_,h2⟩;rcases List.mem_cons.1 hj with h | h
     ·subst h;exact fun h=>Nat.ne_of_beq_eq_false e h.symm
     ·exact h1 j h
 rcases Fh H id ((List.range m).map fun j=>(ρ j,aT q (ρ j))) with ⟨p,hp,hb⟩ | ⟨hp,hb⟩
 ·rcases key (List.range m) with ⟨j,h1,h2,h3⟩ | ⟨h1,h2⟩
  ·rw [h3] at hp;cases hp;refine .inl ⟨j,by simpa using h1,h2,?_⟩;rcases hb with ⟨b,k1,k2⟩ | ⟨k1,k2⟩
   ·exact .inl ⟨b,k1,k2⟩
   ·exact .inr ⟨k1,k2⟩
  ·rw [h2] at hp;cases hp
 ·rcases key (List.range m) with ⟨j,h1,h2,h3⟩ | ⟨h1,h2⟩
  ·rw [h3] at hp;cases hp
  ·exact .inr ⟨fun j hj=>h1 j (by simpa using hj),hb⟩
theorem VH {H:List (Nat×aY)} {N:Nat}:∀ {up:List (Nat×Option aY)},(∀ id b,(id,some b)∈up→id < N→fG (some b)=fG (aT H id))→Sub H (cD H up) N
 | [],_=>Sub.refl _ _
 | (i,some b)::r,h=>fun id bZ=>by
  simp only [cD,aT];cases e:Nat.beq id i with
  | true=>
   have e:=Nat.eq_of_beq_eq_true e;subst e;exact h id b (by simp) bZ
  | false=>exact VH (fun id b hm=>h id b (by simp [hm])) id bZ
 | (i,none)::r,h=>fun id bZ=>by
  simp only [cD,aT];have ih:=VH (H:=H) (N:=N) (up:=r) (fun id b hm=>h id b (by simp [hm])) id bZ;cases e:Nat.beq id i with
  | true=>
   have e:=Nat.eq_of_beq_eq_true e;subst e;exact ih
  | false=>exact ih
theorem aaL {ids:List Nat} {N m:Nat} {H1 H:Hp} (hi:∀ j j',j < m→j' < m→pa ids N j=pa ids N j'→j=j') {j:Nat} (hj:j < m):H.dh (Wq ids N m H1) (pa ids N j)=(H1 j).map (jV.dH (pa ids N)):=by
 have key:∀ l:List Nat,(∀ x,x∈l→x < m)→j∈l→H.dh (l.map fun j=>(pa ids N j,(H1 j).map (jV.dH (pa ids N)))) (pa ids N j)=(H1 j).map (jV.dH (pa ids N)):=by
  intro l
  induction l with
  | nil=>intro _ h;cases h
  | cons x l ih=>
   intro hl hm;simp only [List.map_cons,Hp.dh];by_cases e:pa ids N j=pa ids N x
   ·rw [if_pos e,hi j x hj (hl x (by simp)) e]
   ·rw [if_neg e];exact ih (fun y hy=>hl y (by simp [hy])) ((List.mem_cons.1 hm).resolve_left fun h=>e (by rw [h]))
 exact key _ (fun x hx=>by simpa using hx) (by simpa using hj)
theorem Yr {ids:List Nat} {N m:Nat} {H1 H:Hp} {id:Nat} (h:∀ j,j < m→pa ids N j≠id):H.dh (Wq ids N m H1) id=H id:=by
 have key:∀ l:List Nat,(∀ x,x∈l→x < m)→H.dh (l.map fun j=>(pa ids N j,(H1 j).map (jV.dH (pa ids N)))) id=H id:=by
  intro l
  induction l with
  | nil=>intro _;rfl
  | cons x l ih=>
   intro hl;simp only [List.map_cons,Hp.dh];rw [if_neg fun e=>h x (hl x (by simp)) e.symm];exact ih fun y hy=>hl y (by simp [hy])
 exact key _ fun x hx=>by simpa using hx
theorem VI {s:bP} {act:Act} {e:Xs} {m:Nat} {H':List (Nat×aY)} (hs:SR w F O μ K s.st ft act) (hg:e.EU m s.N=true) (hH:∀ p,p∈H'→Ob s.H H' e id p) (hi:e.inj):
  Reads w F μ K s.H e (frX s e F ft) (fun j=>μ (pa (ub e m) s.N j)) (below m) H' id:=by
 have h:=Jm (H':=H') hs hg hH hi;refine { h with num:=fun j b9 hj hk=>?_,fz:=fun b9 bZ t v xs hb u hv K2=>KF hs hb hv (fun b h=>.inl h) fun hl b cl=>.inr ⟨b9,bZ,hl,cl⟩ }
 ·obtain ⟨h1,_⟩:=h.num j b9 hj hk;refine ⟨h1,?_⟩;have hl:j < (ub e m).length:=by rw [Jn];exact h1
  have e1:pa (ub e m) s.N j=(ub e m)[j]:=rh hl;simp only [id];rw [e1,KJ hl,hj];rfl
theorem WO {S:Nat→Prop} {n:Nat} {o:Obj} {l:List AV}:ij w F μ K S n o (.box l)↔∃ cs t,o=.cells cs t (0,0)∧(∀ x,S x↔x=n)∧l.length≤cs.size∧iU w F μ K l (cs.toList.take l.length):=by
 have get:∀ (cs:Array Value) i,i < l.length→(cs.toList.take l.length).getD i undef=cs.getD i undef:=fun cs i hi=>by
  rw [← jG];simp [List.getD,List.getElem?_take,hi]
 constructor
 ·rintro ⟨cs,t,q1,q2,q3,q4⟩
  exact ⟨cs,t,q1,q2,q3,by simp;omega,fun i hi=>by rw [get cs i hi];exact q4 i hi⟩
 ·rintro ⟨cs,t,q1,q2,q3,q4⟩
  exact ⟨cs,t,q1,q2,q3,fun i hi=>by rw [← get cs i hi];exact q4.2 i hi⟩
theorem KK {i:Nat} (h:Ty.flat (.st i)=true) {x:C i} {y:cN} (hy:y∈get i x):Ws (cT y):=by
 refine Oc ?_;have e3:(get i x).map (·.t)=Az i:=qZ i x;have hm:y.t∈Az i:=by rw [← e3];exact List.mem_map.2 ⟨_,hy,rfl⟩
 have:=List.all_eq_true.1 h _ hm;generalize y.t=u at this;cases u<;>first | rfl | cases this
theorem acm {i:Nat} (h:Ty.flat (.st i)=true) (x:C i):Ws (tZ (get i x)).1∧Ws (tZ (get i x)).2:=by
 have key:∀ y,y∈get i x→Ws (cT y):=fun y hy=>KK h hy;generalize get i x=l at key
 match l,key with
 | [],_=>exact ⟨fun _=>.top _,fun _=>.top _⟩
 | [a],key=>exact ⟨key a (by simp),fun hv=>by obtain ⟨vs,rfl,h⟩:=hv.fS;rw [h.iJ];exact .rO .nil⟩
 | a::b::r,key=>exact ⟨key a (by simp),key b (by simp)⟩
theorem ael {l:List cN} (h:∀ y,y∈l→Ws (cT y)):Ws (.agg (l.map cT)):=by
 intro w F F' μ K v hv;obtain ⟨vs,rfl,BM⟩:=hv.fS;refine .rO ⟨BM.1,fun i hi=>?_⟩;have di:i < l.length:=by simpa using hi
 have e:(l.map cT).getD i .top=cT l[i]:=by simp [List.getD,di]
 have:=BM.2 i hi;rw [e] at this ⊢;exact h _ (List.getElem_mem di) this
theorem TV {i:Nat} (h:Ty.flat (.st i)=true) (n:Nat) (x:C i):Ws (dc n (get i x)).1∧Ws (dc n (get i x)).2:=by
 cases n with
 | zero=>exact acm h x
 | succ n=>
  have key:∀ y,y∈get i x→Ws (cT y):=fun y hy=>KK h hy;generalize get i x=l at key;refine ⟨ael fun y hy=>key y (List.mem_of_mem_take hy),?_⟩;simp only [dc];cases hd:l.drop (n+1) with
  | nil=>exact fun hv=>by obtain ⟨vs,rfl,h⟩:=hv.fS;rw [h.iJ];exact .rO .nil
  | cons y r=>exact key y (List.mem_of_mem_drop (by rw [hd];simp))
theorem acn {i:Nat} (h:Ty.flat (.st i)=true) (l:List (C i)):NfB (.map (l.map fun x=>dc (JF i) (get i x))):=by
 intro w F F' μ K S n o hB hS;obtain ⟨es,clock,h1,h2,h3,h4,h5⟩:=hB;refine ⟨es,clock,h1,h2,h3,fun j hj=>?_,h5⟩;have mQ:j < l.length:=by simpa using hj
 have e:(l.map fun x=>dc (JF i) (get i x)).getD j (.top,.top)=dc (JF i) (get i l[j]):=by simp [List.getD,mQ]
 obtain ⟨k1,k2,k3⟩:=h4 j hj;rw [e] at k2 k3 ⊢;exact ⟨k1,(TV h _ l[j]).1 k2,(TV h _ l[j]).2 k3⟩
theorem aco {t:Ty} (h:t.flat=true) {x:t.dn} {y:cN} (hy:y∈ew t x):Ws (cT y):=by
 cases t with
 | st i=>exact KK h hy
 | sl=>cases h
 | _=>
  simp only [ew,List.mem_singleton] at hy;subst hy;exact Oc h
theorem acp {t:Ty} {H:List (Nat×aY)} (hf:t.flat=true) (x:t.dn):NfB (aY.dC H (.box ((ew t x).map .d))):=by
 simp only [aY.dC];intro w F F' μ K S n o hB hS;obtain ⟨cs,ty,h1,h2,h3,h4⟩:=hB;refine ⟨cs,ty,h1,h2,h3,fun j hj=>?_⟩;have h5:=h4 j hj;rw [bG] at hj;rw [dO _ _ _ hj] at h5 ⊢;simp only [List.length_map] at hj;have e2:(((ew t x).map TA.d).getD j .top)=TA.d ((ew t x)[j]'hj):=by simp [List.getD,hj]
 rw [e2] at h5 ⊢;simp only [TA.av] at h5 ⊢;exact aco hf (List.getElem_mem hj) h5
theorem instBs_nf {ρ:Nat→Nat} {H:List (Nat×aY)}:∀ {bs:List Bp} {j:Nat} {l l':List cN} {q:List (Nat×aY)},instBs ρ bs j l=some (q,l')→bs.all Bp.flat=true→∀ p,p∈q→NfB (p.2.dC H)
 | [],j,l,l',q,h,_,p,hp=>by simp only [instBs] at h;cases h;cases hp
 | b::r,j,l,l',q,h,hf,p,hp=>by
  simp only [List.all_cons,Bool.and_eq_true] at hf;by_cases hg:b=.gone
  ·subst hg;simp only [instBs] at h;exact instBs_nf h hf.2 p hp
  ·rw [instBs_cons hg] at h;split at h
   ·rename_i x l2 hb;split at h
    ·rename_i q2 l3 hr;cases h;rcases List.mem_cons.1 hp with e | e
     ·subst e;cases b with
      | gone=>exact absurd rfl hg
      | cQ t=>
       simp only [instB] at hb;split at hb
       ·split at hb
        ·rename_i e;subst e;cases hb;exact acp (by simpa only [Bp.flat] using hf.1) _
        ·cases hb
       ·cases hb
      | dmap i=>
       simp only [instB] at hb;split at hb
       ·split at hb
        ·rename_i e;subst e;cases hb;exact acn (by simpa only [Bp.flat] using hf.1) _
        ·cases hb
       ·cases hb
      | row t v=>
       simp only [instB] at hb;split at hb
       ·split at hb
        ·rename_i e;subst e;cases hb;exact aek (by simpa only [Bp.flat] using hf.1) _
        ·cases hb
       ·cases hb
      | box ps=>
       simp only [instB] at hb;split at hb
       ·rename_i as l5 hi;cases hb;simp only [aY.dC];intro hB hS;obtain ⟨cs,t,q1,q2,q3,q4⟩:=WO.1 hB;exact WO.2 ⟨cs,t,q1,q2,q3,instL_nf hi hf.1 q4⟩
       ·cases hb
     ·exact instBs_nf hr hf.2 p e
    ·cases h
   ·cases h
theorem aem {n:Nat}:ec [] n=none:=rfl
theorem acq:(⟨[],[]⟩:Xs).inj:=fun j j' id h=>by cases h
theorem Ys {c:CT} {o:Oper} {s:bP} {as:List TA} {κ Av:cx→Option R} {z:R} (hc:aU P c) (ho:RY P o s c.f as) (hs:s.ok) (h:VG c s as κ Av=some z):wa P o s κ z∨EvP P o s Av z:=by
 unfold VG at h;split at h
 ·rename_i e1 d1 h1;split at h
  ·rename_i e2 d2 h2;split at h
   ·rename_i hgd;split at h
    ·rename_i x hx;simp only [Bool.and_eq_true] at hgd;obtain ⟨hg,YP,hfl⟩:=hgd;cases ha:yG (DE c.args++RW c.db) c.F x with
     | none=>rw [ha] at h;cases h
     | some out=>
      rw [ha] at h;simp only [Option.bind_some] at h;rw [TS] at h;have KL:=KI (X:=Unit) c.outs out;have Od:=hc x out ha;generalize (oD c.outs out).1=a at h KL Od;generalize (oD c.outs out).2=ds at h Od;obtain ⟨bl,bi,ba,bq⟩:=v8 (H':=[]) (ρ:=id) h2;obtain ⟨q0,q1,_⟩:=bq [];rw [List.append_nil] at q1;obtain ⟨bl,bi,ba,bq⟩:=v8 (H':=q0) (ρ:=id) h2;obtain ⟨q',q1',q2⟩:=bq [];rw [List.append_nil,q1] at q1';cases q1';obtain ⟨xl,xi,xb⟩:=xF (H':=q0) (ρ:=id) h1;obtain ⟨as0,a1,a2⟩:=xb d2;have inj:=bi (xi acq);have hH:∀ p,p∈q0→Ob s.H q0 e2 id p:=fun p hp=>(q2 p hp).1;rw [mj hx] at Od;have Od:=Od as0 d2 q0 a1 q1;have aaM:=hg;simp only [Xs.EU,Bool.and_eq_true] at aaM;have ox:∀ j,j < c.db.length→∃ b9,ec e2.v7 j=some b9∧b9 < s.N:=fun j hj=>by
       obtain ⟨b9,h3⟩:=ba j hj;rw [Nat.zero_add] at h3;have h0:=List.all_eq_true.1 aaM.1 _ (m_ h3);simp only [Bool.and_eq_true] at h0;exact ⟨b9,h3,Nat.le_of_ble_eq_true h0.2⟩
      have hlen:(ub e2 c.db.length).length=c.db.length:=Jn _ _;have aen:∀ j,j < c.db.length→ec e2.v7 j=some ((ec e2.v7 j).getD 0):=fun j hj=>by
       obtain ⟨b9,h3,_⟩:=ox j hj;rw [h3];rfl
      have ac_:∀ b9,b9∈ub e2 c.db.length→b9 < s.N:=fun b9 hm=>by
       simp only [ub,List.mem_map,List.mem_range] at hm;obtain ⟨j,hj,rfl⟩:=hm;obtain ⟨b9,h3,h4⟩:=ox j hj;rw [h3];exact h4
      have AA:(ub e2 c.db.length).Nodup:=by
       rw [List.nodup_iff_pairwise_ne,List.pairwise_iff_getElem];intro i j hi hj JJ e;rw [KJ hi,KJ hj] at e;rw [hlen] at hi hj;have:=inj i j _ (aen i hi) (e▸aen j hj);omega
      unfold WM at h;split at h
      ·rename_i xj;simp only [Bool.and_eq_true] at xj;obtain ⟨hmm,hrl,hbl⟩:=xj;have hmm:=Nat.le_of_ble_eq_true hmm;rw [hlen] at hmm;rw [instP_ren] at h;split at h
       ·rename_i v r hv;cases Y0:instP id a.res ds with
        | none=>rw [Y0] at hv;cases hv
        | some vr=>
         obtain ⟨v0,r0⟩:=vr;rw [Y0] at hv;simp only [Option.map_some,Option.some.injEq,Prod.mk.injEq] at hv;obtain ⟨rfl,rfl⟩:=hv;rw [instBs_ren] at h;split at h
         ·rename_i q hq;cases hq0:instBs id a.db 0 r0 with
          | none=>rw [hq0] at hq;cases hq
          | some qr=>
           obtain ⟨qq,rr⟩:=qr;rw [hq0] at hq;simp only [Option.map_some,Option.some.injEq,Prod.mk.injEq] at hq;obtain ⟨rfl,rfl⟩:=hq;have Od:=Od v0 r0 qq Y0 hq0;split at h
           ·rename_i afs;simp only [Bool.and_eq_true] at afs;obtain ⟨hh1,hh2⟩:=afs;obtain ⟨h,PW⟩:=TU h;rw [← hlen] at hmm Od;generalize acd:ub e2 c.db.length=ids at *;have aft:=ack (m:=a.db.length) AA ac_;have afu:∀ p,p∈qq→p.1 < a.db.length:=fun p hp=>by
             obtain ⟨i,hi,e⟩:=instBs_keys hq0 p hp;rw [e];simpa using hi
            have lk:∀ j,j < a.db.length→aT (qq.map fun p=>(pa ids s.N p.1,p.2.dH (pa ids s.N))) (pa ids s.N j)=(aT qq j).map (aY.dH (pa ids s.N)):=fun j hj=>Qk aft afu hj;generalize hqr:(qq.map fun p=>(pa ids s.N p.1,p.2.dH (pa ids s.N)))=qr at *;have JH:instP (pa ids s.N) a.res ds=some (v0.dH (pa ids s.N),r0):=by rw [instP_ren,Y0];rfl
            have hq1:instBs (pa ids s.N) a.db 0 r0=some (qr,[]):=by rw [instBs_ren,hq0,← hqr];rfl
            have bnd:∀ j,j < a.db.length→pa ids s.N j < s.N+(a.db.length-ids.length):=fun j hj=>Yq ac_ hmm hj
            let rr:cx:=⟨v0.dH (pa ids s.N),(List.range a.db.length).map fun j=>(pa ids s.N j,aT qr (pa ids s.N j)),a.db.length-ids.length⟩
            have EU:NM s rr:=by
             refine ⟨VH fun b9 b hm bZ=>?_,inst_wf (m:=a.db.length) bnd JH hrl,fun b9 l hm=>?_⟩
             ·simp only [rr,List.mem_map,Prod.mk.injEq] at hm;obtain ⟨j,hj,h4,h5⟩:=hm;subst h4;refine PW _ ?_ b h5;by_cases hj:j < ids.length
              ·have e:pa ids s.N j=ids[j]:=rh hj;rw [e];exact List.getElem_mem hj
              ·have e:pa ids s.N j=s.N+(j-ids.length):=wv (by omega);omega
             ·simp only [rr,List.mem_map,Prod.mk.injEq] at hm;obtain ⟨j,_,h4,h5⟩:=hm;exact instBs_wf (m:=a.db.length) bnd hq1 hbl _ (lH h5)
            have rel:∀ j,j < a.db.length→∀ x,fG (aT qr (pa ids s.N j))=some x→fG (aT qq j)=some x∧fG (aT (s.next rr).H (pa ids s.N j))=some x:=fun j hj x hx=>by
             constructor
             ·rw [lk j hj] at hx;cases e:aT qq j with
              | none=>rw [e] at hx;cases hx
              | some b=>rw [e] at hx;cases b<;>exact hx
             ·rcases WN (H:=s.H) (q:=qr) (m:=a.db.length) (ρ:=pa ids s.N) (pa ids s.N j) with ⟨j',_,_,⟨b,k1,k2⟩ | ⟨k1,_⟩⟩ | ⟨k1,_⟩
              ·rw [show aT (s.next rr).H (pa ids s.N j)=some b from k2,← k1];exact hx
              ·rw [k1] at hx;cases hx
              ·exact absurd rfl (k1 j hj)
            have wf0:∀ p,p∈qq→iz qq a.db.length p.2.refs:=instBs_wf (m:=a.db.length) (fun j h=>h) hq0 hbl;have himp:ik ((v0.av qq).dH (pa ids s.N)) (rr.v.av (s.next rr).H):=by
             rw [VF rel v0 (inst_wf (m:=a.db.length) (fun j h=>h) Y0 hrl) hh1];exact ik.refl _
            have afv:∀ b9,b9∈(Wq ids s.N a.db.length (xk qq)).map (·.1)→b9∈rr.up.map (·.1):=fun b9 hm=>by
             simpa [Wq,rr] using hm
            have U9:∀ b9 b',xk (s.next rr).H b9=some b'→∃ b,(s.st.H.dh (Wq ids s.N a.db.length (xk qq))) b9=some b∧eQ b b':=fun b9 b' hb=>by
             obtain ⟨B',hl,hv,rfl⟩:=iy hb;rcases WN (H:=s.H) (q:=qr) (m:=a.db.length) (ρ:=pa ids s.N) b9 with ⟨j,m1,m2,⟨b,k1,k2⟩ | ⟨_,x,k2⟩⟩ | ⟨m1,m2⟩
             ·have k2':aT (s.next rr).H b9=some b:=k2;rw [k2'] at hl;cases hl;subst m2;rw [aaL aft m1];have YS:=k1;rw [lk j m1] at k1;cases hj:aT qq j with
              | none=>rw [hj] at k1;cases k1
              | some B=>
               rw [hj] at k1;simp only [Option.map_some,Option.some.injEq] at k1;subst k1;have hBv:B.Uv=true:=by cases B<;>first | rfl | exact hv
               refine ⟨(B.dC qq).dH (pa ids s.N),by rw [Kz hj hBv];rfl,?_⟩;rw [acj rel B (wf0 _ (lH hj)) (List.all_eq_true.1 hh2 _ (lH YS))];exact eQ.refl _
             ·have k2':aT (s.next rr).H b9=some (.bZ x):=k2;rw [k2'] at hl;cases hl;cases hv
             ·rw [Yr m1];have m2':aT (s.next rr).H b9=aT s.H b9:=m2;rw [m2'] at hl;refine ⟨B'.dC s.H,dG hl hv,?_⟩;rw [qL EU.sub (hs.H b9 _ hl)];exact eQ.refl _
            have core:∀ {w:World} {F O K:Nat→Prop} {μ:Nat→Nat} {ft:Nat→Nat→Prop} {act:Act},SR w F O μ K s.st ft act→(∀ id,id∈List.range' s.N rr.k→¬ K id)→∀ s7,iU w F μ K (er s.H as) s7→
              Calls P c.f ⟨s7⟩ w fun en w'=>∃ v F' O' bD bY,en=(cond a.Kx (HK.Kx (v0.av qq)) (.ret (v0.av qq))).is v∧VR w' F' bD (plus K (List.range' s.N rr.k)) ((v0.av qq).dH (pa ids s.N)) v∧
               HR w' F' O' bD (plus K (List.range' s.N rr.k)) (s.st.H.dh (Wq ids s.N a.db.length (xk qq))) bY∧Fr w F O μ K w' F' O' bD:=by
             intro w F O K μ ft act gf EM s7 Bk;have rd:=VI gf hg hH inj;rw [acd] at rd;have hnf:e2.fz=[]∨(Ws (HK.av (cond a.Kx (HK.Kx (v0.av qq)) (.ret (v0.av qq))))∧∀ j b,xk qq j=some b→NfB b):=by
              simp only [Bool.or_eq_true] at hfl;rcases hfl with h | h
              ·left;cases hz:e2.fz with
               | nil=>rfl
               | cons=>rw [hz] at h;cases h
              ·right;have:=List.all_eq_true.1 h a KL;simp only [Bool.and_eq_true] at this;refine ⟨?_,fun j b hb=>?_⟩
               ·have e:HK.av (cond a.Kx (HK.Kx (v0.av qq)) (.ret (v0.av qq)))=v0.av qq:=by cases a.Kx<;>rfl
                rw [e];exact fun {w F F' μ K v} h=>inst_nf Y0 this.1 h
               ·obtain ⟨B,hl,hv,rfl⟩:=iy hb;exact instBs_nf hq0 this.2 _ (lH hl)
             have hld:∀ b9,b9∈e2.fz→b9 ∉ ids:=fun b9 hz hm=>by
              have h0:=List.all_eq_true.1 aaM.2 _ hz;simp only [Bool.not_eq_true',List.any_eq_false] at h0;rw [← acd] at hm;simp only [ub,List.mem_map,List.mem_range] at hm;obtain ⟨j,hj,rfl⟩:=hm;exact h0 _ (m_ (aen j hj)) (by simp)
             have hand:∀ j b',xk q0 j=some b'→∃ b9,ids[j]?=some b9∧∃ b,s.st.H b9=some b∧(b'.fc=true→b.fc=true)∧∀ {S n o},ij w F μ K S n o b→ij w (fun b=>F b∨∃ id,id∈e2.fz∧s.st.H.live id∧ft id b) (fun j=>μ (pa ids s.N j)) (below ids.length) S n o b':=by
              intro j b' hb;obtain ⟨B',hl,hv,rfl⟩:=iy hb;obtain ⟨j2,Cu,B,k1,k2,k3,k3v,_,_,k5,k6⟩:=hH _ (lH hl);simp only [id] at k1;subst k1;have hj:j < c.db.length:=by
               obtain ⟨i,hi,e⟩:=instBs_keys q1 _ (lH hl);simp only [id,Nat.zero_add] at e;omega
              refine ⟨Cu,?_,B.dC s.H,dG k3 k3v,k5,fun {S n o} hB=>?_⟩
              ·rw [← acd];simp [ub,hj,k2]
              ·rw [hlen];exact k6 rd hB
             have hK:∀ b9,b9∈ids→K b9:=fun b9 hm=>by
              have:=List.all_eq_true.1 YP b9 hm;cases hl:aT s.H b9 with
              | none=>rw [hl] at this;cases this
              | some B=>rw [hl] at this;exact gf.hr.known b9 _ (dG hl this)
             have lG:=aam (ids:=ids) (ld:=e2.fz) (N:=s.N) Od AA hand gf hK EM hld
              (by rw [hlen];exact a2 (rd.of bl) Bk) hnf
             refine lG.mono ?_
             rintro en w' ⟨v,F',O',bD,bY,k1,k2,k3,k4⟩
             have e:HK.av (cond a.Kx (HK.Kx (v0.av qq)) (.ret (v0.av qq)))=v0.av qq:=by cases a.Kx<;>rfl
             rw [e] at k2;exact ⟨v,F',O',bD,bY,k1,k2,k3,k4⟩
            cases hp:a.Kx with
            | false=>
             rw [hp] at h core;refine .inl ⟨rr,⟨_,_,fun w F O μ K ft act gf hn Kn Q hk=>?_,himp,afv,U9⟩,EU,h⟩;obtain ⟨s7,hr1,hr2⟩:=ho Od.2.1 gf;unfold Oper.wp;rw [hr1,Oper.upon_enter];refine (core gf hn s7 hr2).mono ?_
             rintro en w' ⟨v,F',O',bD,bY,rfl,k2,k3,k4⟩
             exact hk v w' F' O' bD bY k2 k3 k4
            | true=>
             rw [hp] at h core;refine .inr ⟨rr,⟨_,_,fun w F O μ K ft act gf hn Kn Q hk=>?_,himp,afv,U9⟩,EU,h⟩;obtain ⟨s7,hr1,hr2⟩:=ho Od.2.1 gf;unfold Oper.wp;rw [hr1,Oper.upon_enter];refine (core gf hn s7 hr2).mono ?_
             rintro en w' ⟨v,F',O',bD,bY,rfl,k2,k3,k4⟩
             exact hk v w' F' O' bD bY k2 k3 k4
           ·cases h
         ·cases h
       ·cases h
      ·cases h
    ·cases h
   ·cases h
  ·cases h
 ·cases h
end Go.Proofs.YtjkbbdldmdajkaaGreatDoor.c_
