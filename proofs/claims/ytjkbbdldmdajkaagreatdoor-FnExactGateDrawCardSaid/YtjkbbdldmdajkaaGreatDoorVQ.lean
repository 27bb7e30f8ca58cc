/- Calls in the evaluator are right. No condition. -/
import Derived.Test.YtjkbbdldmdajkaaGreatDoorVP
set_option linter.unusedSimpArgs false
set_option linter.unusedVariables false
namespace Go.Proofs.YtjkbbdldmdajkaaGreatDoor.c5
open Go Go.RowKit
variable {w w' ss:World} {F F' zT O O' uo:Nat→Prop} {μ aZ jE:Nat→Nat} {K K' C9:Nat→Prop} {ft bX:Nat→Nat→Prop} {P:Program} {R:Type}
theorem IQ (e:Xs) (n:Nat):(tf e n).length=n:=by simp [tf]
theorem J_ {e:Xs} {n j:Nat} (h:j < (tf e n).length):(tf e n)[j]=(dU e.tK j).getD 0:=by simp [tf]
theorem agi:sx []=fun _=>none:=rfl
theorem abU {ids:List Nat} {N m:Nat} (zg:ids.Nodup) (dY:∀ id,id∈ids→id < N):∀ j j',j < m→j' < m→oq ids N j=oq ids N j'→j=j':=by
 intro j j' _ _ h;by_cases h1:j < ids.length<;>by_cases h2:j' < ids.length
 ·have e1:oq ids N j=ids[j]:=ql h1;have e2:oq ids N j'=ids[j']:=ql h2;exact J1 zg h1 h2 (by rw [← e1,← e2];exact h)
 ·have e1:oq ids N j=ids[j]:=ql h1;have e2:oq ids N j'=N+(j'-ids.length):=vp (by omega);have:=dY _ (List.getElem_mem h1);omega
 ·have e1:oq ids N j'=ids[j']:=ql h2;have e2:oq ids N j=N+(j-ids.length):=vp (by omega);have:=dY _ (List.getElem_mem h2);omega
 ·have e1:oq ids N j=N+(j-ids.length):=vp (by omega);have e2:oq ids N j'=N+(j'-ids.length):=vp (by omega);omega
theorem X6 {ids:List Nat} {N m:Nat} (dY:∀ id,id∈ids→id < N) (hn:ids.length≤m) {j:Nat} (hj:j < m):oq ids N j < N+(m-ids.length):=by
 by_cases h:j < ids.length
 ·have e:oq ids N j=ids[j]:=ql h;have:=dY _ (List.getElem_mem h);omega
 ·have e:oq ids N j=N+(j-ids.length):=vp (by omega);omega
theorem Wv {ρ:Nat→Nat} {H q:List (Nat×aX)} {m:Nat} (id:Nat):(∃ j,j < m∧ρ j=id∧((∃ b,aS q id=some b∧aS (cA H ((List.range m).map fun j=>(ρ j,aS q (ρ j)))) id=some b)∨
   (aS q id=none∧∃ x,aS (cA H ((List.range m).map fun j=>(ρ j,aS q (ρ j)))) id=some (.bZ x))))∨
  ((∀ j,j < m→ρ j≠id)∧aS (cA H ((List.range m).map fun j=>(ρ j,aS q (ρ j)))) id=aS H id):=by
 have key:∀ l:List Nat,(∃ j,j∈l∧ρ j=id∧(l.map fun j=>(ρ j,aS q (ρ j))).find? (fun p=>Nat.beq id p.1)=some (id,aS q id))∨((∀ j,j∈l→ρ j≠id)∧(l.map fun j=>(ρ j,aS q (ρ j))).find? (fun p=>Nat.beq id p.1)=none):=by
  intro l
  induction l with
  | nil=>exact .inr ⟨(fun j hj=>by cases hj),rfl⟩
  | cons x l ih=>
   simp only [List.map_cons,List.find?_cons];cases e:Nat.beq id (ρ x) with
   | true=>
    have e':=Nat.eq_of_beq_eq_true e;exact .inl ⟨x,by simp,e'.symm,by simp only [← e']⟩
   | false=>
    rcases ih with ⟨j,h1,h2,h3⟩ | ⟨h1,h2⟩
    ·exact .inl ⟨j,by simp [h1],h2,h3⟩
    ·refine .inr ⟨fun j hj=>?_,h2⟩;rcases List.mem_cons.1 hj with h | h
     ·subst h;exact fun h=>Nat.ne_of_beq_eq_false e h.symm
     ·exact h1 j h
 rcases EK H id ((List.range m).map fun j=>(ρ j,aS q (ρ j))) with ⟨p,hp,hb⟩ | ⟨hp,hb⟩
 ·rcases key (List.range m) with ⟨j,h1,h2,h3⟩ | ⟨h1,h2⟩
  ·rw [h3] at hp;cases hp;refine .inl ⟨j,by simpa using h1,h2,?_⟩;rcases hb with ⟨b,k1,k2⟩ | ⟨k1,k2⟩
   ·exact .inl ⟨b,k1,k2⟩
   ·exact .inr ⟨k1,k2⟩
  ·rw [h2] at hp;cases hp
 ·rcases key (List.range m) with ⟨j,h1,h2,h3⟩ | ⟨h1,h2⟩
  ·rw [h3] at hp;cases hp
  ·exact .inr ⟨fun j hj=>h1 j (by simpa using hj),hb⟩
theorem Vg {H:List (Nat×aX)} {N:Nat}:∀ {up:List (Nat×Option aX)},(∀ id b,(id,some b)∈up→id < N→fv (some b)=fv (aS H id))→Sub H (cA H up) N
 | [],_=>Sub.refl _ _
 | (i,some b)::r,h=>fun id bZ=>by
  simp only [cA,aS];cases e:Nat.beq id i with
  | true=>
   have e:=Nat.eq_of_beq_eq_true e;subst e;exact h id b (by simp) bZ
  | false=>exact Vg (fun id b hm=>h id b (by simp [hm])) id bZ
 | (i,none)::r,h=>fun id bZ=>by
  simp only [cA,aS];have ih:=Vg (H:=H) (N:=N) (up:=r) (fun id b hm=>h id b (by simp [hm])) id bZ;cases e:Nat.beq id i with
  | true=>
   have e:=Nat.eq_of_beq_eq_true e;subst e;exact ih
  | false=>exact ih
theorem aac {ids:List Nat} {N m:Nat} {H1 H:Hp} (hi:∀ j j',j < m→j' < m→oq ids N j=oq ids N j'→j=j') {j:Nat} (hj:j < m):H.c_ (V_ ids N m H1) (oq ids N j)=(H1 j).map (jz.dA (oq ids N)):=by
 have key:∀ l:List Nat,(∀ x,x∈l→x < m)→j∈l→H.c_ (l.map fun j=>(oq ids N j,(H1 j).map (jz.dA (oq ids N)))) (oq ids N j)=(H1 j).map (jz.dA (oq ids N)):=by
  intro l
  induction l with
  | nil=>intro _ h;cases h
  | cons x l ih=>
   intro hl hm;simp only [List.map_cons,Hp.c_];by_cases e:oq ids N j=oq ids N x
   ·rw [if_pos e,hi j x hj (hl x (by simp)) e]
   ·rw [if_neg e];exact ih (fun y hy=>hl y (by simp [hy])) ((List.mem_cons.1 hm).resolve_left fun h=>e (by rw [h]))
 exact key _ (fun x hx=>by simpa using hx) (by simpa using hj)
theorem X7 {ids:List Nat} {N m:Nat} {H1 H:Hp} {id:Nat} (h:∀ j,j < m→oq ids N j≠id):H.c_ (V_ ids N m H1) id=H id:=by
 have key:∀ l:List Nat,(∀ x,x∈l→x < m)→H.c_ (l.map fun j=>(oq ids N j,(H1 j).map (jz.dA (oq ids N)))) id=H id:=by
  intro l
  induction l with
  | nil=>intro _;rfl
  | cons x l ih=>
   intro hl;simp only [List.map_cons,Hp.c_];rw [if_neg fun e=>h x (hl x (by simp)) e.symm];exact ih fun y hy=>hl y (by simp [hy])
 exact key _ fun x hx=>by simpa using hx
theorem Vh {s:bL} {act:Act} {e:Xs} {m:Nat} {H':List (Nat×aX)} (hs:SR w F O μ K s.st ft act) (hg:e.vq m s.N=true) (hH:∀ p,p∈H'→NF s.H H' e id p) (hi:e.inj):
  Reads w F μ K s.H e (frX s e F ft) (fun j=>μ (oq (tf e m) s.N j)) (below m) H' id:=by
 have h:=IP (H':=H') hs hg hH hi;refine { h with num:=fun j b9 hj hk=>?_,fz:=fun b9 bZ t v xs hb u hv K2=>J7 hs hb hv (fun b h=>.inl h) fun hl b ck=>.inr ⟨b9,bZ,hl,ck⟩,bx:=fun b9 bZ l hl=>Tm hs bZ hl }
 ·obtain ⟨h1,_⟩:=h.num j b9 hj hk;refine ⟨h1,?_⟩;have hl:j < (tf e m).length:=by rw [IQ];exact h1
  have e1:oq (tf e m) s.N j=(tf e m)[j]:=ql hl;simp only [id];rw [e1,J_ hl,hj];rfl
theorem Ww {S:Nat→Prop} {n:Nat} {o:Obj} {l:List AV}:hP w F μ K S n o (.box l)↔∃ cs t,o=.cells cs t (0,0)∧(∀ x,S x↔x=n)∧l.length≤cs.size∧gZ w F μ K l (cs.toList.take l.length):=by
 have get:∀ (cs:Array Value) i,i < l.length→(cs.toList.take l.length).getD i undef=cs.getD i undef:=fun cs i hi=>by
  rw [← jo];simp [List.getD,List.getElem?_take,hi]
 constructor
 ·rintro ⟨cs,t,q1,q2,q3,q4⟩
  exact ⟨cs,t,q1,q2,q3,by simp;omega,fun i hi=>by rw [get cs i hi];exact q4 i hi⟩
 ·rintro ⟨cs,t,q1,q2,q3,q4⟩
  exact ⟨cs,t,q1,q2,q3,fun i hi=>by rw [← get cs i hi];exact q4.2 i hi⟩
theorem Ka {i:Nat} (h:Ty.flat (.st i)=true) {x:C i} {y:cG} (hy:y∈get i x):Wa (cL y):=by
 refine NG ?_;have e3:(get i x).map (·.t)=zS i:=qd i x;have hm:y.t∈zS i:=by rw [← e3];exact List.mem_map.2 ⟨_,hy,rfl⟩
 have:=List.all_eq_true.1 h _ hm;generalize y.t=u at this;cases u<;>first | rfl | cases this
theorem abV {i:Nat} (h:Ty.flat (.st i)=true) (x:C i):Wa (s_ (get i x)).1∧Wa (s_ (get i x)).2:=by
 have key:∀ y,y∈get i x→Wa (cL y):=fun y hy=>Ka h hy;generalize get i x=l at key
 match l,key with
 | [],_=>exact ⟨fun _=>.top _,fun _=>.top _⟩
 | [a],key=>exact ⟨key a (by simp),fun hv=>by obtain ⟨vs,rfl,h⟩:=hv.fH;rw [h.gY];exact .qO .nil⟩
 | a::b::r,key=>exact ⟨key a (by simp),key b (by simp)⟩
theorem ad8 {l:List cG} (h:∀ y,y∈l→Wa (cL y)):Wa (.agg (l.map cL)):=by
 intro w F F' μ K v hv;obtain ⟨vs,rfl,wJ⟩:=hv.fH;refine .qO ⟨wJ.1,fun i hi=>?_⟩;have da:i < l.length:=by simpa using hi
 have e:(l.map cL).getD i .top=cL l[i]:=by simp [List.getD,da]
 have:=wJ.2 i hi;rw [e] at this ⊢;exact h _ (List.getElem_mem da) this
theorem Tr {i:Nat} (h:Ty.flat (.st i)=true) (n:Nat) (x:C i):Wa (c6 n (get i x)).1∧Wa (c6 n (get i x)).2:=by
 cases n with
 | zero=>exact abV h x
 | succ n=>
  have key:∀ y,y∈get i x→Wa (cL y):=fun y hy=>Ka h hy;generalize get i x=l at key;refine ⟨ad8 fun y hy=>key y (List.mem_of_mem_take hy),?_⟩;simp only [c6];cases hd:l.drop (n+1) with
  | nil=>exact fun hv=>by obtain ⟨vs,rfl,h⟩:=hv.fH;rw [h.gY];exact .qO .nil
  | cons y r=>exact key y (List.mem_of_mem_drop (by rw [hd];simp))
theorem abW {i:Nat} (h:Ty.flat (.st i)=true) (l:List (C i)):NfB (.map (l.map fun x=>c6 (I9 i) (get i x))):=by
 intro w F F' μ K S n o hB hS;obtain ⟨es,clock,h1,h2,h3,h4,h5⟩:=hB;refine ⟨es,clock,h1,h2,h3,fun j hj=>?_,h5⟩;have mi:j < l.length:=by simpa using hj
 have e:(l.map fun x=>c6 (I9 i) (get i x)).getD j (.top,.top)=c6 (I9 i) (get i l[j]):=by simp [List.getD,mi]
 obtain ⟨k1,k2,k3⟩:=h4 j hj;rw [e] at k2 k3 ⊢;exact ⟨k1,(Tr h _ l[j]).1 k2,(Tr h _ l[j]).2 k3⟩
theorem abX {t:Ty} (h:t.flat=true) {x:t.dn} {y:cG} (hy:y∈dZ t x):Wa (cL y):=by
 cases t with
 | st i=>exact Ka h hy
 | sl=>cases h
 | _=>
  simp only [dZ,List.mem_singleton] at hy;subst hy;exact NG h
theorem abY {t:Ty} {H:List (Nat×aX)} (hf:t.flat=true) (x:t.dn):NfB (aX.du H (.box ((dZ t x).map .d))):=by
 simp only [aX.du];intro w F F' μ K S n o hB hS;obtain ⟨cs,ty,h1,h2,h3,h4⟩:=hB;refine ⟨cs,ty,h1,h2,h3,fun j hj=>?_⟩;have h5:=h4 j hj;rw [bC] at hj;rw [dq _ _ _ hj] at h5 ⊢;simp only [List.length_map] at hj;have e2:(((dZ t x).map TA.d).getD j .top)=TA.d ((dZ t x)[j]'hj):=by simp [List.getD,hj]
 rw [e2] at h5 ⊢;simp only [TA.av] at h5 ⊢;exact abX hf (List.getElem_mem hj) h5
theorem instBs_nf {ρ:Nat→Nat} {H:List (Nat×aX)}:∀ {bs:List Bp} {j:Nat} {l l':List cG} {q:List (Nat×aX)},instBs ρ bs j l=some (q,l')→bs.all Bp.flat=true→∀ p,p∈q→NfB (p.2.du H)
 | [],j,l,l',q,h,_,p,hp=>by simp only [instBs] at h;cases h;cases hp
 | b::r,j,l,l',q,h,hf,p,hp=>by
  simp only [List.all_cons,Bool.and_eq_true] at hf;by_cases hg:b=.gone
  ·subst hg;simp only [instBs] at h;exact instBs_nf h hf.2 p hp
  ·rw [instBs_cons hg] at h;split at h
   ·rename_i x l2 hb;split at h
    ·rename_i q2 l3 hr;cases h;rcases List.mem_cons.1 hp with e | e
     ·subst e;cases b with
      | gone=>exact absurd rfl hg
      | c7 t=>
       simp only [instB] at hb;split at hb
       ·split at hb
        ·rename_i e;subst e;cases hb;exact abY (by simpa only [Bp.flat] using hf.1) _
        ·cases hb
       ·cases hb
      | dmap i=>
       simp only [instB] at hb;split at hb
       ·split at hb
        ·rename_i e;subst e;cases hb;exact abW (by simpa only [Bp.flat] using hf.1) _
        ·cases hb
       ·cases hb
      | row t v=>
       simp only [instB] at hb;split at hb
       ·split at hb
        ·rename_i e;subst e;cases hb;exact ad7 (by simpa only [Bp.flat] using hf.1) _
        ·cases hb
       ·cases hb
      | box ps=>
       simp only [instB] at hb;split at hb
       ·rename_i as l5 hi;cases hb;simp only [aX.du];intro hB hS;obtain ⟨cs,t,q1,q2,q3,q4⟩:=Ww.1 hB;exact Ww.2 ⟨cs,t,q1,q2,q3,instL_nf hi hf.1 q4⟩
       ·cases hb
     ·exact instBs_nf hr hf.2 p e
    ·cases h
   ·cases h
theorem ad9 {n:Nat}:dU [] n=none:=rfl
theorem abZ:(⟨[],[]⟩:Xs).inj:=fun j j' id h=>by cases h
theorem NH {C:Nc} (hC:C.up) {c:CT} {s:bL} {as:List TA} {κ wL:cu→Option R} {z:R} (hc:ad6 C P c) (hs:s.ok) (h:J9 c s as κ wL=some z):
  ∃ (zU:Bool) (r:cu) (v0:AV) (up0:List (Nat×Option jz)),KU s r∧cond zU (wL r) (κ r)=some z∧(∀ (xs:Array Value) (w:World),(callFunc c.f xs).run P w=.ok (.enter c.f xs) w)∧g8 v0 (r.v.av (s.next r).H)∧
   (∀ b9,b9∈up0.map (·.1)→b9∈r.up.map (·.1))∧(∀ b9 b',sx (s.next r).H b9=some b'→∃ b,(s.st.H.c_ up0) b9=some b∧eg b b')∧
   ∀ {w:World} {F O K:Nat→Prop} {μ:Nat→Nat} {ft:Nat→Nat→Prop} {act:Act},SR w F O μ K s.st ft act→(∀ id,id∈List.range' s.N r.k→¬ K id)→∀ gp,gZ w F μ K (di s.H as) gp→
    C c.f ⟨gp⟩ w fun en w'=>∃ v F' O' aZ bX,en=(cond zU (Ending.panicked [{ v:=v,recovered:=false }]) (Ending.returned v))∧VR w' F' aZ (plus K (List.range' s.N r.k)) v0 v∧
     HR w' F' O' aZ (plus K (List.range' s.N r.k)) (s.st.H.c_ up0) bX∧Fr w F O μ K w' F' O' aZ:=by
 unfold J9 at h;split at h
 ·rename_i e1 d1 h1;split at h
  ·rename_i e2 d2 h2;split at h
   ·rename_i hgd;split at h
    ·rename_i x hx;simp only [Bool.and_eq_true] at hgd;obtain ⟨hg,Yy,hfl⟩:=hgd;cases ha:xQ (zN c.args++NB c.cE) c.F x with
     | none=>rw [ha] at h;cases h
     | some out=>
      rw [ha] at h;simp only [Option.bind_some] at h;rw [Tp] at h;have NI:=AT (X:=Unit) c.outs out;have OV:=hc x out ha;generalize (fU c.outs out).1=a at h NI OV;generalize (fU c.outs out).2=ds at h OV;obtain ⟨bl,bi,ba,bq⟩:=vf (H':=[]) (ρ:=id) h2;obtain ⟨q0,q1,_⟩:=bq [];rw [List.append_nil] at q1;obtain ⟨bl,bi,ba,bq⟩:=vf (H':=q0) (ρ:=id) h2;obtain ⟨q',q1',q2⟩:=bq [];rw [List.append_nil,q1] at q1';cases q1';obtain ⟨xl,xi,xb⟩:=sm (H':=q0) (ρ:=id) h1;obtain ⟨as0,a1,a2⟩:=xb d2;have inj:=bi (xi abZ);have hH:∀ p,p∈q0→NF s.H q0 e2 id p:=fun p hp=>(q2 p hp).1;rw [lO hx] at OV;have OV:=OV as0 d2 q0 a1 q1;have aad:=hg;simp only [Xs.vq,Bool.and_eq_true] at aad;have nG:∀ j,j < c.cE.length→∃ b9,dU e2.tK j=some b9∧b9 < s.N:=fun j hj=>by
       obtain ⟨b9,h3⟩:=ba j hj;rw [Nat.zero_add] at h3;have h0:=List.all_eq_true.1 aad.1 _ (mv h3);simp only [Bool.and_eq_true] at h0;exact ⟨b9,h3,Nat.le_of_ble_eq_true h0.2⟩
      have hlen:(tf e2 c.cE.length).length=c.cE.length:=IQ _ _;have ad_:∀ j,j < c.cE.length→dU e2.tK j=some ((dU e2.tK j).getD 0):=fun j hj=>by
       obtain ⟨b9,h3,_⟩:=nG j hj;rw [h3];rfl
      have acM:∀ b9,b9∈tf e2 c.cE.length→b9 < s.N:=fun b9 hm=>by
       simp only [tf,List.mem_map,List.mem_range] at hm;obtain ⟨j,hj,rfl⟩:=hm;obtain ⟨b9,h3,h4⟩:=nG j hj;rw [h3];exact h4
      have zg:(tf e2 c.cE.length).Nodup:=by
       rw [List.nodup_iff_pairwise_ne,List.pairwise_iff_getElem];intro i j hi hj H_ e;rw [J_ hi,J_ hj] at e;rw [hlen] at hi hj;have:=inj i j _ (ad_ i hi) (e▸ad_ j hj);omega
      unfold Wu at h;split at h
      ·rename_i wo;simp only [Bool.and_eq_true] at wo;obtain ⟨hmm,hrl,hbl⟩:=wo;have hmm:=Nat.le_of_ble_eq_true hmm;rw [hlen] at hmm;rw [instP_ren] at h;split at h
       ·rename_i v r hv;cases YL:instP id a.res ds with
        | none=>rw [YL] at hv;cases hv
        | some vr=>
         obtain ⟨v0,r0⟩:=vr;rw [YL] at hv;simp only [Option.map_some,Option.some.injEq,Prod.mk.injEq] at hv;obtain ⟨rfl,rfl⟩:=hv;rw [instBs_ren] at h;split at h
         ·rename_i q hq;cases hq0:instBs id a.cE 0 r0 with
          | none=>rw [hq0] at hq;cases hq
          | some qr=>
           obtain ⟨qq,rr⟩:=qr;rw [hq0] at hq;simp only [Option.map_some,Option.some.injEq,Prod.mk.injEq] at hq;obtain ⟨rfl,rfl⟩:=hq;have OV:=OV v0 r0 qq YL hq0;split at h
           ·rename_i afq;simp only [Bool.and_eq_true] at afq;obtain ⟨hh1,YJ⟩:=afq;obtain ⟨h,Pq⟩:=Tq h;rw [← hlen] at hmm OV;generalize abN:tf e2 c.cE.length=ids at *;have afr:=abU (m:=a.cE.length) zg acM;have afs:∀ p,p∈qq→p.1 < a.cE.length:=fun p hp=>by
             obtain ⟨i,hi,e⟩:=instBs_keys hq0 p hp;rw [e];simpa using hi
            have lk:∀ j,j < a.cE.length→aS (qq.map fun p=>(oq ids s.N p.1,p.2.dA (oq ids s.N))) (oq ids s.N j)=(aS qq j).map (aX.dA (oq ids s.N)):=fun j hj=>PW afr afs hj;generalize hqr:(qq.map fun p=>(oq ids s.N p.1,p.2.dA (oq ids s.N)))=qr at *;have Ja:instP (oq ids s.N) a.res ds=some (v0.dA (oq ids s.N),r0):=by rw [instP_ren,YL];rfl
            have hq1:instBs (oq ids s.N) a.cE 0 r0=some (qr,[]):=by rw [instBs_ren,hq0,← hqr];rfl
            have bnd:∀ j,j < a.cE.length→oq ids s.N j < s.N+(a.cE.length-ids.length):=fun j hj=>X6 acM hmm hj
            let rr:cu:=⟨v0.dA (oq ids s.N),(List.range a.cE.length).map fun j=>(oq ids s.N j,aS qr (oq ids s.N j)),a.cE.length-ids.length⟩
            have vq:KU s rr:=by
             refine ⟨Vg fun b9 b hm bZ=>?_,inst_wf (m:=a.cE.length) bnd Ja hrl,fun b9 l hm=>?_⟩
             ·simp only [rr,List.mem_map,Prod.mk.injEq] at hm;obtain ⟨j,hj,h4,h5⟩:=hm;subst h4;refine Pq _ ?_ b h5;by_cases hj:j < ids.length
              ·have e:oq ids s.N j=ids[j]:=ql hj;rw [e];exact List.getElem_mem hj
              ·have e:oq ids s.N j=s.N+(j-ids.length):=vp (by omega);omega
             ·simp only [rr,List.mem_map,Prod.mk.injEq] at hm;obtain ⟨j,_,h4,h5⟩:=hm;exact instBs_wf (m:=a.cE.length) bnd hq1 hbl _ (kU h5)
            have rel:∀ j,j < a.cE.length→∀ x,fv (aS qr (oq ids s.N j))=some x→fv (aS qq j)=some x∧fv (aS (s.next rr).H (oq ids s.N j))=some x:=fun j hj x hx=>by
             constructor
             ·rw [lk j hj] at hx;cases e:aS qq j with
              | none=>rw [e] at hx;cases hx
              | some b=>rw [e] at hx;cases b<;>exact hx
             ·rcases Wv (H:=s.H) (q:=qr) (m:=a.cE.length) (ρ:=oq ids s.N) (oq ids s.N j) with ⟨j',_,_,⟨b,k1,k2⟩ | ⟨k1,_⟩⟩ | ⟨k1,_⟩
              ·rw [show aS (s.next rr).H (oq ids s.N j)=some b from k2,← k1];exact hx
              ·rw [k1] at hx;cases hx
              ·exact absurd rfl (k1 j hj)
            have wf0:∀ p,p∈qq→hU qq a.cE.length p.2.refs:=instBs_wf (m:=a.cE.length) (fun j h=>h) hq0 hbl;have himp:g8 ((v0.av qq).dA (oq ids s.N)) (rr.v.av (s.next rr).H):=by
             rw [Vf rel v0 (inst_wf (m:=a.cE.length) (fun j h=>h) YL hrl) hh1];exact g8.refl _
            have aae:∀ b9,b9∈(V_ ids s.N a.cE.length (sx qq)).map (·.1)→b9∈rr.up.map (·.1):=fun b9 hm=>by
             simpa [V_,rr] using hm
            have MX:∀ b9 b',sx (s.next rr).H b9=some b'→∃ b,(s.st.H.c_ (V_ ids s.N a.cE.length (sx qq))) b9=some b∧eg b b':=fun b9 b' hb=>by
             obtain ⟨B',hl,hv,rfl⟩:=ij hb;rcases Wv (H:=s.H) (q:=qr) (m:=a.cE.length) (ρ:=oq ids s.N) b9 with ⟨j,m1,m2,⟨b,k1,k2⟩ | ⟨_,x,k2⟩⟩ | ⟨m1,m2⟩
             ·have k2':aS (s.next rr).H b9=some b:=k2;rw [k2'] at hl;cases hl;subst m2;rw [aac afr m1];have YB:=k1;rw [lk j m1] at k1;cases hj:aS qq j with
              | none=>rw [hj] at k1;cases k1
              | some B=>
               rw [hj] at k1;simp only [Option.map_some,Option.some.injEq] at k1;subst k1;have hBv:B.T5=true:=by cases B<;>first | rfl | exact hv
               refine ⟨(B.du qq).dA (oq ids s.N),by rw [J2 hj hBv];rfl,?_⟩;rw [abT rel B (wf0 _ (kU hj)) (List.all_eq_true.1 YJ _ (kU YB))];exact eg.refl _
             ·have k2':aS (s.next rr).H b9=some (.bZ x):=k2;rw [k2'] at hl;cases hl;cases hv
             ·rw [X7 m1];have m2':aS (s.next rr).H b9=aS s.H b9:=m2;rw [m2'] at hl;refine ⟨B'.du s.H,dx hl hv,?_⟩;rw [p4 vq.sub (hs.H b9 _ hl)];exact eg.refl _
            have core:∀ {w:World} {F O K:Nat→Prop} {μ:Nat→Nat} {ft:Nat→Nat→Prop} {act:Act},SR w F O μ K s.st ft act→(∀ id,id∈List.range' s.N rr.k→¬ K id)→∀ gp,gZ w F μ K (di s.H as) gp→
              C c.f ⟨gp⟩ w fun en w'=>∃ v F' O' aZ bX,en=(cond a.zU (C3.zU (v0.av qq)) (.ret (v0.av qq))).is v∧VR w' F' aZ (plus K (List.range' s.N rr.k)) ((v0.av qq).dA (oq ids s.N)) v∧
               HR w' F' O' aZ (plus K (List.range' s.N rr.k)) (s.st.H.c_ (V_ ids s.N a.cE.length (sx qq))) bX∧Fr w F O μ K w' F' O' aZ:=by
             intro w F O K μ ft act fJ BQ gp x7;have rd:=Vh fJ hg hH inj;rw [abN] at rd;have YH:e2.fz=[]∨(Wa (C3.av (cond a.zU (C3.zU (v0.av qq)) (.ret (v0.av qq))))∧∀ j b,sx qq j=some b→NfB b):=by
              simp only [Bool.or_eq_true] at hfl;rcases hfl with h | h
              ·left;cases hz:e2.fz with
               | nil=>rfl
               | cons=>rw [hz] at h;cases h
              ·right;have:=List.all_eq_true.1 h a NI;simp only [Bool.and_eq_true] at this;refine ⟨?_,fun j b hb=>?_⟩
               ·have e:C3.av (cond a.zU (C3.zU (v0.av qq)) (.ret (v0.av qq)))=v0.av qq:=by cases a.zU<;>rfl
                rw [e];exact fun {w F F' μ K v} h=>inst_nf YL this.1 h
               ·obtain ⟨B,hl,hv,rfl⟩:=ij hb;exact instBs_nf hq0 this.2 _ (kU hl)
             have hld:∀ b9,b9∈e2.fz→b9 ∉ ids:=fun b9 hz hm=>by
              have h0:=List.all_eq_true.1 aad.2 _ hz;simp only [Bool.not_eq_true',List.any_eq_false] at h0;rw [← abN] at hm;simp only [tf,List.mem_map,List.mem_range] at hm;obtain ⟨j,hj,rfl⟩:=hm;exact h0 _ (mv (ad_ j hj)) (by simp)
             have hand:∀ j b',sx q0 j=some b'→∃ b9,ids[j]?=some b9∧∃ b,s.st.H b9=some b∧(b'.eQ=true→b.eQ=true)∧∀ {S n o},hP w F μ K S n o b→hP w (fun b=>F b∨∃ id,id∈e2.fz∧s.st.H.live id∧ft id b) (fun j=>μ (oq ids s.N j)) (below ids.length) S n o b':=by
              intro j b' hb;obtain ⟨B',hl,hv,rfl⟩:=ij hb;obtain ⟨j2,BP,B,k1,k2,k3,k3v,_,_,k5,k6⟩:=hH _ (kU hl);simp only [id] at k1;subst k1;have hj:j < c.cE.length:=by
               obtain ⟨i,hi,e⟩:=instBs_keys q1 _ (kU hl);simp only [id,Nat.zero_add] at e;omega
              refine ⟨BP,?_,B.du s.H,dx k3 k3v,k5,fun {S n o} hB=>?_⟩
              ·rw [← abN];simp [tf,hj,k2]
              ·rw [hlen];exact k6 rd hB
             have hK:∀ b9,b9∈ids→K b9:=fun b9 hm=>by
              have:=List.all_eq_true.1 Yy b9 hm;cases hl:aS s.H b9 with
              | none=>rw [hl] at this;cases this
              | some B=>rw [hl] at this;exact fJ.hr.known b9 _ (dx hl this)
             have kT:=ZM hC (ids:=ids) (ld:=e2.fz) (N:=s.N) OV zg hand fJ hK BQ hld
              (by rw [hlen];exact a2 (rd.of bl) x7) YH
             refine hC _ _ _ _ _ kT ?_
             rintro en w' ⟨v,F',O',aZ,bX,k1,k2,k3,k4⟩
             have e:C3.av (cond a.zU (C3.zU (v0.av qq)) (.ret (v0.av qq)))=v0.av qq:=by cases a.zU<;>rfl
             rw [e] at k2;exact ⟨v,F',O',aZ,bX,k1,k2,k3,k4⟩
            refine ⟨a.zU,rr,_,_,vq,?_,OV.2.1,himp,aae,MX,fun {w F O K μ ft act} fJ BQ gp x7=>hC _ _ _ _ _ (core fJ BQ gp x7) ?_⟩
            ·cases hp:a.zU<;>rw [hp] at h<;>exact h
            ·rintro en w' ⟨v,F',O',aZ,bX,k1,k2⟩
             exact ⟨v,F',O',aZ,bX,by rw [k1];cases a.zU<;>rfl,k2⟩
           ·cases h
         ·cases h
       ·cases h
      ·cases h
    ·cases h
   ·cases h
  ·cases h
 ·cases h
theorem X8 {c:CT} {o:Oper} {s:bL} {as:List TA} {κ wL:cu→Option R} {z:R} (hc:aV P c) (ho:Rp P o s c.f as) (hs:s.ok) (h:J9 c s as κ wL=some z):vh P o s κ z∨EvP P o s wL z:=by
 obtain ⟨zU,r,v0,up0,vq,h,Cx,himp,aae,MX,core⟩:=NH (C:=Calls P) (fun _ _ _ _ _ h k=>h.mono k) hc hs h;cases zU with
 | false=>
  refine .inl ⟨r,⟨v0,up0,fun w F O μ K ft act fJ hn Kn Q hk=>?_,himp,aae,MX⟩,vq,h⟩;obtain ⟨gp,hr1,ZL⟩:=ho Cx fJ;unfold Oper.wp;rw [hr1,Oper.upon_enter];refine (core fJ hn gp ZL).mono ?_
  rintro en w' ⟨v,F',O',aZ,bX,rfl,k2,k3,k4⟩
  exact hk v w' F' O' aZ bX k2 k3 k4
 | true=>
  refine .inr ⟨r,⟨v0,up0,fun w F O μ K ft act fJ hn Kn Q hk=>?_,himp,aae,MX⟩,vq,h⟩;obtain ⟨gp,hr1,ZL⟩:=ho Cx fJ;unfold Oper.wp;rw [hr1,Oper.upon_enter];refine (core fJ hn gp ZL).mono ?_
  rintro en w' ⟨v,F',O',aZ,bX,rfl,k2,k3,k4⟩
  exact hk v w' F' O' aZ bX k2 k3 k4
end Go.Proofs.YtjkbbdldmdajkaaGreatDoor.c5
