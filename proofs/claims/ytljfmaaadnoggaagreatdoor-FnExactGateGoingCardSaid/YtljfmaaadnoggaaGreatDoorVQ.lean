/- Calls in the evaluator are right. No condition. -/
import Derived.Test.YtljfmaaadnoggaaGreatDoorVP
set_option linter.unusedSimpArgs false
set_option linter.unusedVariables false
namespace Go.Proofs.YtljfmaaadnoggaaGreatDoor.cX
open Go Go.RowKit
variable {w w' xW:World} {F F' Cq O O' wx:Nat→Prop} {μ bC kZ:Nat→Nat} {K K' Gg:Nat→Prop} {ft b8:Nat→Nat→Prop} {P:Program} {R:Type}
theorem Ll (e:Xs) (n:Nat):(uj e n).length=n:=by simp [uj]
theorem MM {e:Xs} {n j:Nat} (h:j < (uj e n).length):(uj e n)[j]=(dR e.wB j).getD 0:=by simp [uj]
theorem aiM:xX []=fun _=>none:=rfl
theorem aeg {ids:List Nat} {N m:Nat} (Ck:ids.Nodup) (dQ:∀ id,id∈ids→id < N):∀ j j',j < m→j' < m→oS ids N j=oS ids N j'→j=j':=by
 intro j j' _ _ h
 by_cases h1:j < ids.length<;>by_cases h2:j' < ids.length
 ·have e1:oS ids N j=ids[j]:=qV h1
  have e2:oS ids N j'=ids[j']:=qV h2
  exact MB Ck h1 h2 (by rw [← e1,← e2];exact h)
 ·have e1:oS ids N j=ids[j]:=qV h1
  have e2:oS ids N j'=N+(j'-ids.length):=wQ (by omega)
  have:=dQ _ (List.getElem_mem h1)
  omega
 ·have e1:oS ids N j'=ids[j']:=qV h2
  have e2:oS ids N j=N+(j-ids.length):=wQ (by omega)
  have:=dQ _ (List.getElem_mem h2)
  omega
 ·have e1:oS ids N j=N+(j-ids.length):=wQ (by omega)
  have e2:oS ids N j'=N+(j'-ids.length):=wQ (by omega)
  omega
theorem aaW {ids:List Nat} {N m:Nat} (dQ:∀ id,id∈ids→id < N) (hn:ids.length≤m) {j:Nat} (hj:j < m):oS ids N j < N+(m-ids.length):=by
 by_cases h:j < ids.length
 ·have e:oS ids N j=ids[j]:=qV h
  have:=dQ _ (List.getElem_mem h)
  omega
 ·have e:oS ids N j=N+(j-ids.length):=wQ (by omega)
  omega
theorem Zs {ρ:Nat→Nat} {H q:List (Nat×aY)} {m:Nat} (id:Nat):(∃ j,j < m∧ρ j=id∧((∃ b,aR q id=some b∧aR (cD H ((List.range m).map fun j=>(ρ j,aR q (ρ j)))) id=some b)∨
   (aR q id=none∧∃ x,aR (cD H ((List.range m).map fun j=>(ρ j,aR q (ρ j)))) id=some (.cb x))))∨
  ((∀ j,j < m→ρ j≠id)∧aR (cD H ((List.range m).map fun j=>(ρ j,aR q (ρ j)))) id=aR H id):=by
 have key:∀ l:List Nat,(∃ j,j∈l∧ρ j=id∧(l.map fun j=>(ρ j,aR q (ρ j))).find? (fun p=>Nat.beq id p.1)=some (id,aR q id))∨((∀ j,j∈l→ρ j≠id)∧(l.map fun j=>(ρ j,aR q (ρ j))).find? (fun p=>Nat.beq id p.1)=none):=by
  intro l
  induction l with
  | nil=>exact .inr ⟨(fun j hj=>by cases hj),rfl⟩
  | cons x l ih=>
   simp only [List.map_cons,List.find?_cons]
   cases e:Nat.beq id (ρ x) with
   | true=>
    have e':=Nat.eq_of_beq_eq_true e
    exact .inl ⟨x,by simp,e'.symm,by simp only [← e']⟩
   | false=>
    rcases ih with ⟨j,h1,h2,h3⟩ | ⟨h1,h2⟩
    ·exact .inl ⟨j,by simp [h1],h2,h3⟩
    ·refine .inr ⟨fun j hj=>?_,h2⟩
     rcases List.mem_cons.1 hj with h | h
     ·subst h;exact fun h=>Nat.ne_of_beq_eq_false e h.symm
     ·exact h1 j h
 rcases G6 H id ((List.range m).map fun j=>(ρ j,aR q (ρ j))) with ⟨p,hp,hb⟩ | ⟨hp,hb⟩
 ·rcases key (List.range m) with ⟨j,h1,h2,h3⟩ | ⟨h1,h2⟩
  ·rw [h3] at hp
   cases hp
   refine .inl ⟨j,by simpa using h1,h2,?_⟩
   rcases hb with ⟨b,k1,k2⟩ | ⟨k1,k2⟩
   ·exact .inl ⟨b,k1,k2⟩
   ·exact .inr ⟨k1,k2⟩
  ·rw [h2] at hp;cases hp
 ·rcases key (List.range m) with ⟨j,h1,h2,h3⟩ | ⟨h1,h2⟩
  ·rw [h3] at hp;cases hp
  ·exact .inr ⟨fun j hj=>h1 j (by simpa using hj),hb⟩
theorem Yc {H:List (Nat×aY)} {N:Nat}:∀ {up:List (Nat×Option aY)},(∀ id b,(id,some b)∈up→id < N→fM (some b)=fM (aR H id))→Sub H (cD H up) N
 | [],_=>Sub.refl _ _
 | (i,some b)::r,h=>fun id cb=>by
  simp only [cD,aR]
  cases e:Nat.beq id i with
  | true=>
   have e:=Nat.eq_of_beq_eq_true e
   subst e
   exact h id b (by simp) cb
  | false=>exact Yc (fun id b hm=>h id b (by simp [hm])) id cb
 | (i,none)::r,h=>fun id cb=>by
  simp only [cD,aR]
  have ih:=Yc (H:=H) (N:=N) (up:=r) (fun id b hm=>h id b (by simp [hm])) id cb
  cases e:Nat.beq id i with
  | true=>
   have e:=Nat.eq_of_beq_eq_true e
   subst e
   exact ih
  | false=>exact ih
theorem acL {ids:List Nat} {N m:Nat} {H1 H:Hp} (hi:∀ j j',j < m→j' < m→oS ids N j=oS ids N j'→j=j') {j:Nat} (hj:j < m):H.c_ (Y8 ids N m H1) (oS ids N j)=(H1 j).map (kq.dD (oS ids N)):=by
 have key:∀ l:List Nat,(∀ x,x∈l→x < m)→j∈l→H.c_ (l.map fun j=>(oS ids N j,(H1 j).map (kq.dD (oS ids N)))) (oS ids N j)=(H1 j).map (kq.dD (oS ids N)):=by
  intro l
  induction l with
  | nil=>intro _ h;cases h
  | cons x l ih=>
   intro hl hm
   simp only [List.map_cons,Hp.c_]
   by_cases e:oS ids N j=oS ids N x
   ·rw [if_pos e,hi j x hj (hl x (by simp)) e]
   ·rw [if_neg e]
    exact ih (fun y hy=>hl y (by simp [hy])) ((List.mem_cons.1 hm).resolve_left fun h=>e (by rw [h]))
 exact key _ (fun x hx=>by simpa using hx) (by simpa using hj)
theorem aaX {ids:List Nat} {N m:Nat} {H1 H:Hp} {id:Nat} (h:∀ j,j < m→oS ids N j≠id):H.c_ (Y8 ids N m H1) id=H id:=by
 have key:∀ l:List Nat,(∀ x,x∈l→x < m)→H.c_ (l.map fun j=>(oS ids N j,(H1 j).map (kq.dD (oS ids N)))) id=H id:=by
  intro l
  induction l with
  | nil=>intro _;rfl
  | cons x l ih=>
   intro hl
   simp only [List.map_cons,Hp.c_]
   rw [if_neg fun e=>h x (hl x (by simp)) e.symm]
   exact ih fun y hy=>hl y (by simp [hy])
 exact key _ fun x hx=>by simpa using hx
theorem Ye {s:bQ} {act:Act} {e:Xs} {m:Nat} {H':List (Nat×aY)} (hs:SR w F O μ K s.st ft act) (hg:e.Bt m s.N=true) (hH:∀ p,p∈H'→Qg s.H H' e id p) (hi:e.inj):
  Reads w F μ K s.H e (frX s e F ft) (fun j=>μ (oS (uj e m) s.N j)) (below m) H' id:=by
 have h:=Lk (H':=H') hs hg hH hi
 refine { h with num:=fun j cg hj hk=>?_,fz:=fun cg cb t v xs hb u hv K2=>MI hs hb hv (fun b h=>.inl h) fun hl b cu=>.inr ⟨cg,cb,hl,cu⟩ }
 ·obtain ⟨h1,_⟩:=h.num j cg hj hk
  refine ⟨h1,?_⟩
  have hl:j < (uj e m).length:=by rw [Ll];exact h1
  have e1:oS (uj e m) s.N j=(uj e m)[j]:=qV hl
  simp only [id]
  rw [e1,MM hl,hj]
  rfl
theorem Zt {S:Nat→Prop} {n:Nat} {o:Obj} {l:List AV}:h_ w F μ K S n o (.box l)↔∃ cs t,o=.cells cs t (0,0)∧(∀ x,S x↔x=n)∧l.length≤cs.size∧iR w F μ K l (cs.toList.take l.length):=by
 have get:∀ (cs:Array Value) i,i < l.length→(cs.toList.take l.length).getD i undef=cs.getD i undef:=fun cs i hi=>by
  rw [← jE]
  simp [List.getD,List.getElem?_take,hi]
 constructor
 ·rintro ⟨cs,t,q1,q2,q3,q4⟩
  exact ⟨cs,t,q1,q2,q3,by simp;omega,fun i hi=>by rw [get cs i hi];exact q4 i hi⟩
 ·rintro ⟨cs,t,q1,q2,q3,q4⟩
  exact ⟨cs,t,q1,q2,q3,fun i hi=>by rw [← get cs i hi];exact q4.2 i hi⟩
theorem MN {i:Nat} (h:Ty.flat (.st i)=true) {x:C i} {y:cI} (hy:y∈get i x):Y9 (cN y):=by
 refine Qh ?_
 have e3:(get i x).map (·.t)=BE i:=qO i x
 have hm:y.t∈BE i:=by rw [← e3];exact List.mem_map.2 ⟨_,hy,rfl⟩
 have:=List.all_eq_true.1 h _ hm
 generalize y.t=u at this
 cases u<;>first | rfl | cases this
theorem aeh {i:Nat} (h:Ty.flat (.st i)=true) (x:C i):Y9 (ug (get i x)).1∧Y9 (ug (get i x)).2:=by
 have key:∀ y,y∈get i x→Y9 (cN y):=fun y hy=>MN h hy
 generalize get i x=l at key
 match l,key with
 | [],_=>exact ⟨fun _=>.top _,fun _=>.top _⟩
 | [a],key=>exact ⟨key a (by simp),fun hv=>by obtain ⟨vs,rfl,h⟩:=hv.fK;rw [h.iH];exact .rE .nil⟩
 | a::b::r,key=>exact ⟨key a (by simp),key b (by simp)⟩
theorem agD {l:List cI} (h:∀ y,y∈l→Y9 (cN y)):Y9 (.agg (l.map cN)):=by
 intro w F F' μ K v hv
 obtain ⟨vs,rfl,CN⟩:=hv.fK
 refine .rE ⟨CN.1,fun i hi=>?_⟩
 have c9:i < l.length:=by simpa using hi
 have e:(l.map cN).getD i .top=cN l[i]:=by simp [List.getD,c9]
 have:=CN.2 i hi
 rw [e] at this ⊢
 exact h _ (List.getElem_mem c9) this
theorem Wj {i:Nat} (h:Ty.flat (.st i)=true) (n:Nat) (x:C i):Y9 (c5 n (get i x)).1∧Y9 (c5 n (get i x)).2:=by
 cases n with
 | zero=>exact aeh h x
 | succ n=>
  have key:∀ y,y∈get i x→Y9 (cN y):=fun y hy=>MN h hy
  generalize get i x=l at key
  refine ⟨agD fun y hy=>key y (List.mem_of_mem_take hy),?_⟩
  simp only [c5]
  cases hd:l.drop (n+1) with
  | nil=>exact fun hv=>by obtain ⟨vs,rfl,h⟩:=hv.fK;rw [h.iH];exact .rE .nil
  | cons y r=>exact key y (List.mem_of_mem_drop (by rw [hd];simp))
theorem aei {i:Nat} (h:Ty.flat (.st i)=true) (l:List (C i)):NfB (.map (l.map fun x=>c5 (LD i) (get i x))):=by
 intro w F F' μ K S n o hB hS
 obtain ⟨es,clock,h1,h2,h3,h4,h5⟩:=hB
 refine ⟨es,clock,h1,h2,h3,fun j hj=>?_,h5⟩
 have ko:j < l.length:=by simpa using hj
 have e:(l.map fun x=>c5 (LD i) (get i x)).getD j (.top,.top)=c5 (LD i) (get i l[j]):=by simp [List.getD,ko]
 obtain ⟨k1,k2,k3⟩:=h4 j hj
 rw [e] at k2 k3 ⊢
 exact ⟨k1,(Wj h _ l[j]).1 k2,(Wj h _ l[j]).2 k3⟩
theorem aej {t:Ty} (h:t.flat=true) {x:t.dn} {y:cI} (hy:y∈dV t x):Y9 (cN y):=by
 cases t with
 | st i=>exact MN h hy
 | sl=>cases h
 | _=>
  simp only [dV,List.mem_singleton] at hy
  subst hy
  exact Qh h
theorem aek {t:Ty} {H:List (Nat×aY)} (hf:t.flat=true) (x:t.dn):NfB (aY.dw H (.box ((dV t x).map .d))):=by
 simp only [aY.dw]
 intro w F F' μ K S n o hB hS
 obtain ⟨cs,ty,h1,h2,h3,h4⟩:=hB
 refine ⟨cs,ty,h1,h2,h3,fun j hj=>?_⟩
 have h5:=h4 j hj
 rw [bI] at hj
 rw [dH _ _ _ hj] at h5 ⊢
 simp only [List.length_map] at hj
 have e2:(((dV t x).map TA.d).getD j .top)=TA.d ((dV t x)[j]'hj):=by simp [List.getD,hj]
 rw [e2] at h5 ⊢
 simp only [TA.av] at h5 ⊢
 exact aej hf (List.getElem_mem hj) h5
theorem instBs_nf {ρ:Nat→Nat} {H:List (Nat×aY)}:∀ {bs:List Bp} {j:Nat} {l l':List cI} {q:List (Nat×aY)},instBs ρ bs j l=some (q,l')→bs.all Bp.flat=true→∀ p,p∈q→NfB (p.2.dw H)
 | [],j,l,l',q,h,_,p,hp=>by simp only [instBs] at h;cases h;cases hp
 | b::r,j,l,l',q,h,hf,p,hp=>by
  simp only [List.all_cons,Bool.and_eq_true] at hf
  by_cases hg:b=.gone
  ·subst hg
   simp only [instBs] at h
   exact instBs_nf h hf.2 p hp
  ·rw [instBs_cons hg] at h
   split at h
   ·rename_i x l2 hb
    split at h
    ·rename_i q2 l3 hr
     cases h
     rcases List.mem_cons.1 hp with e | e
     ·subst e
      cases b with
      | gone=>exact absurd rfl hg
      | b_ t=>
       simp only [instB] at hb
       split at hb
       ·split at hb
        ·rename_i e
         subst e
         cases hb
         exact aek (by simpa only [Bp.flat] using hf.1) _
        ·cases hb
       ·cases hb
      | dmap i=>
       simp only [instB] at hb
       split at hb
       ·split at hb
        ·rename_i e
         subst e
         cases hb
         exact aei (by simpa only [Bp.flat] using hf.1) _
        ·cases hb
       ·cases hb
      | row t v=>
       simp only [instB] at hb
       split at hb
       ·split at hb
        ·rename_i e
         subst e
         cases hb
         exact agC (by simpa only [Bp.flat] using hf.1) _
        ·cases hb
       ·cases hb
      | box ps=>
       simp only [instB] at hb
       split at hb
       ·rename_i as l5 hi
        cases hb
        simp only [aY.dw]
        intro hB hS
        obtain ⟨cs,t,q1,q2,q3,q4⟩:=Zt.1 hB
        exact Zt.2 ⟨cs,t,q1,q2,q3,instL_nf hi hf.1 q4⟩
       ·cases hb
     ·exact instBs_nf hr hf.2 p e
    ·cases h
   ·cases h
theorem agE {n:Nat}:dR [] n=none:=rfl
theorem ael:(⟨[],[]⟩:Xs).inj:=fun j j' id h=>by cases h
theorem aaY {c:CT} {o:Oper} {s:bQ} {as:List TA} {κ BA:cE→Option R} {z:R} (hc:aV P c) (ho:Uj P o s c.f as) (hs:s.ok) (h:Yb c s as κ BA=some z):xY P o s κ z∨EvP P o s BA z:=by
 unfold Yb at h
 split at h
 ·rename_i e1 d1 h1
  split at h
  ·rename_i e2 d2 h2
   split at h
   ·rename_i hgd
    split at h
    ·rename_i x hx
     simp only [Bool.and_eq_true] at hgd
     obtain ⟨hg,hkn,hfl⟩:=hgd
     cases ha:zA (ES c.args++Uh c.c6) c.F x with
     | none=>rw [ha] at h;cases h
     | some out=>
      rw [ha] at h
      simp only [Option.bind_some] at h
      rw [Wg] at h
      have MO:=ML (X:=Unit) c.outs out
      have Qi:=hc x out ha
      generalize (oc c.outs out).1=a at h MO Qi
      generalize (oc c.outs out).2=ds at h Qi
      obtain ⟨bl,bi,ba,bq⟩:=wC (H':=[]) (ρ:=id) h2
      obtain ⟨q0,q1,_⟩:=bq []
      rw [List.append_nil] at q1
      obtain ⟨bl,bi,ba,bq⟩:=wC (H':=q0) (ρ:=id) h2
      obtain ⟨q',q1',q2⟩:=bq []
      rw [List.append_nil,q1] at q1'
      cases q1'
      obtain ⟨xl,xi,xb⟩:=yj (H':=q0) (ρ:=id) h1
      obtain ⟨as0,a1,a2⟩:=xb d2
      have inj:=bi (xi ael)
      have hH:∀ p,p∈q0→Qg s.H q0 e2 id p:=fun p hp=>(q2 p hp).1
      rw [l8 hx] at Qi
      have Qi:=Qi as0 d2 q0 a1 q1
      have acM:=hg
      simp only [Xs.Bt,Bool.and_eq_true] at acM
      have n5:∀ j,j < c.c6.length→∃ cg,dR e2.wB j=some cg∧cg < s.N:=fun j hj=>by
       obtain ⟨cg,h3⟩:=ba j hj
       rw [Nat.zero_add] at h3
       have h0:=List.all_eq_true.1 acM.1 _ (mM h3)
       simp only [Bool.and_eq_true] at h0
       exact ⟨cg,h3,Nat.le_of_ble_eq_true h0.2⟩
      have hlen:(uj e2 c.c6.length).length=c.c6.length:=Ll _ _
      have agF:∀ j,j < c.c6.length→dR e2.wB j=some ((dR e2.wB j).getD 0):=fun j hj=>by
       obtain ⟨cg,h3,_⟩:=n5 j hj
       rw [h3];rfl
      have ae7:∀ cg,cg∈uj e2 c.c6.length→cg < s.N:=fun cg hm=>by
       simp only [uj,List.mem_map,List.mem_range] at hm
       obtain ⟨j,hj,rfl⟩:=hm
       obtain ⟨cg,h3,h4⟩:=n5 j hj
       rw [h3];exact h4
      have Ck:(uj e2 c.c6.length).Nodup:=by
       rw [List.nodup_iff_pairwise_ne,List.pairwise_iff_getElem]
       intro i j hi hj LH e
       rw [MM hi,MM hj] at e
       rw [hlen] at hi hj
       have:=inj i j _ (agF i hi) (e▸agF j hj)
       omega
      unfold Zr at h
      split at h
      ·rename_i wq
       simp only [Bool.and_eq_true] at wq
       obtain ⟨hmm,hrl,hbl⟩:=wq
       have hmm:=Nat.le_of_ble_eq_true hmm
       rw [hlen] at hmm
       rw [instP_ren] at h
       split at h
       ·rename_i v r hv
        cases hv0:instP id a.res ds with
        | none=>rw [hv0] at hv;cases hv
        | some vr=>
         obtain ⟨v0,r0⟩:=vr
         rw [hv0] at hv
         simp only [Option.map_some,Option.some.injEq,Prod.mk.injEq] at hv
         obtain ⟨rfl,rfl⟩:=hv
         rw [instBs_ren] at h
         split at h
         ·rename_i q hq
          cases hq0:instBs id a.c6 0 r0 with
          | none=>rw [hq0] at hq;cases hq
          | some qr=>
           obtain ⟨qq,rr⟩:=qr
           rw [hq0] at hq
           simp only [Option.map_some,Option.some.injEq,Prod.mk.injEq] at hq
           obtain ⟨rfl,rfl⟩:=hq
           have Qi:=Qi v0 r0 qq hv0 hq0
           split at h
           ·rename_i ahT
            simp only [Bool.and_eq_true] at ahT
            obtain ⟨hh1,hh2⟩:=ahT
            obtain ⟨h,RX⟩:=Wi h
            rw [← hlen] at hmm Qi
            generalize ad_:uj e2 c.c6.length=ids at *
            have ahU:=aeg (m:=a.c6.length) Ck ae7
            have ahV:∀ p,p∈qq→p.1 < a.c6.length:=fun p hp=>by
             obtain ⟨i,hi,e⟩:=instBs_keys hq0 p hp
             rw [e];simpa using hi
            have lk:∀ j,j < a.c6.length→aR (qq.map fun p=>(oS ids s.N p.1,p.2.dD (oS ids s.N))) (oS ids s.N j)=(aR qq j).map (aY.dD (oS ids s.N)):=fun j hj=>Su ahU ahV hj
            generalize hqr:(qq.map fun p=>(oS ids s.N p.1,p.2.dD (oS ids s.N)))=qr at *
            have LG:instP (oS ids s.N) a.res ds=some (v0.dD (oS ids s.N),r0):=by rw [instP_ren,hv0];rfl
            have hq1:instBs (oS ids s.N) a.c6 0 r0=some (qr,[]):=by rw [instBs_ren,hq0,← hqr];rfl
            have bnd:∀ j,j < a.c6.length→oS ids s.N j < s.N+(a.c6.length-ids.length):=fun j hj=>aaW ae7 hmm hj
            let rr:cE:=⟨v0.dD (oS ids s.N),(List.range a.c6.length).map fun j=>(oS ids s.N j,aR qr (oS ids s.N j)),a.c6.length-ids.length⟩
            have Bt:PT s rr:=by
             refine ⟨Yc fun cg b hm cb=>?_,inst_wf (m:=a.c6.length) bnd LG hrl,fun cg l hm=>?_⟩
             ·simp only [rr,List.mem_map,Prod.mk.injEq] at hm
              obtain ⟨j,hj,h4,h5⟩:=hm
              subst h4
              refine RX _ ?_ b h5
              by_cases hj:j < ids.length
              ·have e:oS ids s.N j=ids[j]:=qV hj
               rw [e];exact List.getElem_mem hj
              ·have e:oS ids s.N j=s.N+(j-ids.length):=wQ (by omega)
               omega
             ·simp only [rr,List.mem_map,Prod.mk.injEq] at hm
              obtain ⟨j,_,h4,h5⟩:=hm
              exact instBs_wf (m:=a.c6.length) bnd hq1 hbl _ (k_ h5)
            have rel:∀ j,j < a.c6.length→∀ x,fM (aR qr (oS ids s.N j))=some x→fM (aR qq j)=some x∧fM (aR (s.next rr).H (oS ids s.N j))=some x:=fun j hj x hx=>by
             constructor
             ·rw [lk j hj] at hx
              cases e:aR qq j with
              | none=>rw [e] at hx;cases hx
              | some b=>rw [e] at hx;cases b<;>exact hx
             ·rcases Zs (H:=s.H) (q:=qr) (m:=a.c6.length) (ρ:=oS ids s.N) (oS ids s.N j) with ⟨j',_,_,⟨b,k1,k2⟩ | ⟨k1,_⟩⟩ | ⟨k1,_⟩
              ·rw [show aR (s.next rr).H (oS ids s.N j)=some b from k2,← k1];exact hx
              ·rw [k1] at hx;cases hx
              ·exact absurd rfl (k1 j hj)
            have wf0:∀ p,p∈qq→iw qq a.c6.length p.2.refs:=instBs_wf (m:=a.c6.length) (fun j h=>h) hq0 hbl
            have himp:iu ((v0.av qq).dD (oS ids s.N)) (rr.v.av (s.next rr).H):=by
             rw [Ya rel v0 (inst_wf (m:=a.c6.length) (fun j h=>h) hv0 hrl) hh1]
             exact iu.refl _
            have ahW:∀ cg,cg∈(Y8 ids s.N a.c6.length (xX qq)).map (·.1)→cg∈rr.up.map (·.1):=fun cg hm=>by
             simpa [Y8,rr] using hm
            have XC:∀ cg b',xX (s.next rr).H cg=some b'→∃ b,(s.st.H.c_ (Y8 ids s.N a.c6.length (xX qq))) cg=some b∧eV b b':=fun cg b' hb=>by
             obtain ⟨B',hl,hv,rfl⟩:=iv hb
             rcases Zs (H:=s.H) (q:=qr) (m:=a.c6.length) (ρ:=oS ids s.N) cg with ⟨j,m1,m2,⟨b,k1,k2⟩ | ⟨_,x,k2⟩⟩ | ⟨m1,m2⟩
             ·have k2':aR (s.next rr).H cg=some b:=k2
              rw [k2'] at hl
              cases hl
              subst m2
              rw [acL ahU m1]
              have k1':=k1
              rw [lk j m1] at k1
              cases hj:aR qq j with
              | none=>rw [hj] at k1;cases k1
              | some B=>
               rw [hj] at k1
               simp only [Option.map_some,Option.some.injEq] at k1
               subst k1
               have hBv:B.WT=true:=by cases B<;>first | rfl | exact hv
               refine ⟨(B.dw qq).dD (oS ids s.N),by rw [MC hj hBv];rfl,?_⟩
               rw [aef rel B (wf0 _ (k_ hj)) (List.all_eq_true.1 hh2 _ (k_ k1'))]
               exact eV.refl _
             ·have k2':aR (s.next rr).H cg=some (.cb x):=k2
              rw [k2'] at hl
              cases hl
              cases hv
             ·rw [aaX m1]
              have m2':aR (s.next rr).H cg=aR s.H cg:=m2
              rw [m2'] at hl
              refine ⟨B'.dw s.H,dz hl hv,?_⟩
              rw [qy Bt.sub (hs.H cg _ hl)]
              exact eV.refl _
            have core:∀ {w:World} {F O K:Nat→Prop} {μ:Nat→Nat} {ft:Nat→Nat→Prop} {act:Act},SR w F O μ K s.st ft act→(∀ id,id∈List.range' s.N rr.k→¬ K id)→∀ td,iR w F μ K (dU s.H as) td→
              Calls P c.f ⟨td⟩ w fun en w'=>∃ v F' O' bC b8,en=(cond a.MA (JG.MA (v0.av qq)) (.ret (v0.av qq))).is v∧VR w' F' bC (plus K (List.range' s.N rr.k)) ((v0.av qq).dD (oS ids s.N)) v∧
               HR w' F' O' bC (plus K (List.range' s.N rr.k)) (s.st.H.c_ (Y8 ids s.N a.c6.length (xX qq))) b8∧Fr w F O μ K w' F' O' bC:=by
             intro w F O K μ ft act iJ Gr td Gd
             have rd:=Ye iJ hg hH inj
             rw [ad_] at rd
             have hnf:e2.fz=[]∨(Y9 (JG.av (cond a.MA (JG.MA (v0.av qq)) (.ret (v0.av qq))))∧∀ j b,xX qq j=some b→NfB b):=by
              simp only [Bool.or_eq_true] at hfl
              rcases hfl with h | h
              ·left
               cases hz:e2.fz with
               | nil=>rfl
               | cons=>rw [hz] at h;cases h
              ·right
               have:=List.all_eq_true.1 h a MO
               simp only [Bool.and_eq_true] at this
               refine ⟨?_,fun j b hb=>?_⟩
               ·have e:JG.av (cond a.MA (JG.MA (v0.av qq)) (.ret (v0.av qq)))=v0.av qq:=by cases a.MA<;>rfl
                rw [e]
                exact fun {w F F' μ K v} h=>inst_nf hv0 this.1 h
               ·obtain ⟨B,hl,hv,rfl⟩:=iv hb
                exact instBs_nf hq0 this.2 _ (k_ hl)
             have hld:∀ cg,cg∈e2.fz→cg ∉ ids:=fun cg hz hm=>by
              have h0:=List.all_eq_true.1 acM.2 _ hz
              simp only [Bool.not_eq_true',List.any_eq_false] at h0
              rw [← ad_] at hm
              simp only [uj,List.mem_map,List.mem_range] at hm
              obtain ⟨j,hj,rfl⟩:=hm
              exact h0 _ (mM (agF j hj)) (by simp)
             have hand:∀ j b',xX q0 j=some b'→∃ cg,ids[j]?=some cg∧∃ b,s.st.H cg=some b∧(b'.fa=true→b.fa=true)∧∀ {S n o},h_ w F μ K S n o b→h_ w (fun b=>F b∨∃ id,id∈e2.fz∧s.st.H.live id∧ft id b) (fun j=>μ (oS ids s.N j)) (below ids.length) S n o b':=by
              intro j b' hb
              obtain ⟨B',hl,hv,rfl⟩:=iv hb
              obtain ⟨j2,Dv,B,k1,k2,k3,k3v,_,_,k5,k6⟩:=hH _ (k_ hl)
              simp only [id] at k1
              subst k1
              have hj:j < c.c6.length:=by
               obtain ⟨i,hi,e⟩:=instBs_keys q1 _ (k_ hl)
               simp only [id,Nat.zero_add] at e
               omega
              refine ⟨Dv,?_,B.dw s.H,dz k3 k3v,k5,fun {S n o} hB=>?_⟩
              ·rw [← ad_]
               simp [uj,hj,k2]
              ·rw [hlen]
               exact k6 rd hB
             have hK:∀ cg,cg∈ids→K cg:=fun cg hm=>by
              have:=List.all_eq_true.1 hkn cg hm
              cases hl:aR s.H cg with
              | none=>rw [hl] at this;cases this
              | some B=>rw [hl] at this;exact iJ.hr.known cg _ (dz hl this)
             have mb:=ack (ids:=ids) (ld:=e2.fz) (N:=s.N) Qi Ck hand iJ hK Gr hld
              (by rw [hlen];exact a2 (rd.of bl) Gd) hnf
             refine mb.mono ?_
             rintro en w' ⟨v,F',O',bC,b8,k1,k2,k3,k4⟩
             have e:JG.av (cond a.MA (JG.MA (v0.av qq)) (.ret (v0.av qq)))=v0.av qq:=by cases a.MA<;>rfl
             rw [e] at k2
             exact ⟨v,F',O',bC,b8,k1,k2,k3,k4⟩
            cases hp:a.MA with
            | false=>
             rw [hp] at h core
             refine .inl ⟨rr,⟨_,_,fun w F O μ K ft act iJ hn Kn Q hk=>?_,himp,ahW,XC⟩,Bt,h⟩
             obtain ⟨td,hr1,hr2⟩:=ho Qi.2.1 iJ
             unfold Oper.wp
             rw [hr1,Oper.upon_enter]
             refine (core iJ hn td hr2).mono ?_
             rintro en w' ⟨v,F',O',bC,b8,rfl,k2,k3,k4⟩
             exact hk v w' F' O' bC b8 k2 k3 k4
            | true=>
             rw [hp] at h core
             refine .inr ⟨rr,⟨_,_,fun w F O μ K ft act iJ hn Kn Q hk=>?_,himp,ahW,XC⟩,Bt,h⟩
             obtain ⟨td,hr1,hr2⟩:=ho Qi.2.1 iJ
             unfold Oper.wp
             rw [hr1,Oper.upon_enter]
             refine (core iJ hn td hr2).mono ?_
             rintro en w' ⟨v,F',O',bC,b8,rfl,k2,k3,k4⟩
             exact hk v w' F' O' bC b8 k2 k3 k4
           ·cases h
         ·cases h
       ·cases h
      ·cases h
    ·cases h
   ·cases h
  ·cases h
 ·cases h
end Go.Proofs.YtljfmaaadnoggaaGreatDoor.cX
