/- Calls in the evaluator are right. No condition. -/
import Derived.Test.YtljfmaaadnoggaaGreatDoorVP
set_option linter.unusedSimpArgs false
set_option linter.unusedVariables false
namespace Go.Proofs.YtljfmaaadnoggaaGreatDoor.cU
open Go Go.RowKit
variable {w w' vP:World} {F F' Am O O' ux:Nat→Prop} {μ bB jV:Nat→Nat} {K K' DQ:Nat→Prop} {ft b7:Nat→Nat→Prop} {P:Program} {R:Type}
theorem I3 (e:Xs) (n:Nat):(sw e n).length=n:=by simp [sw]
theorem Ku {e:Xs} {n j:Nat} (h:j < (sw e n).length):(sw e n)[j]=(dH e.uB j).getD 0:=by simp [sw]
theorem afr:vS []=fun _=>none:=rfl
theorem abo {ids:List Nat} {N m:Nat} (AL:ids.Nodup) (dL:∀ id,id∈ids→id < N):∀ j j',j < m→j' < m→nB ids N j=nB ids N j'→j=j':=by
 intro j j' _ _ h
 by_cases h1:j < ids.length<;>by_cases h2:j' < ids.length
 ·have e1:nB ids N j=ids[j]:=pA h1
  have e2:nB ids N j'=ids[j']:=pA h2
  exact Kf AL h1 h2 (by rw [← e1,← e2];exact h)
 ·have e1:nB ids N j=ids[j]:=pA h1
  have e2:nB ids N j'=N+(j'-ids.length):=uP (by omega)
  have:=dL _ (List.getElem_mem h1)
  omega
 ·have e1:nB ids N j'=ids[j']:=pA h2
  have e2:nB ids N j=N+(j-ids.length):=uP (by omega)
  have:=dL _ (List.getElem_mem h2)
  omega
 ·have e1:nB ids N j=N+(j-ids.length):=uP (by omega)
  have e2:nB ids N j'=N+(j'-ids.length):=uP (by omega)
  omega
theorem XL {ids:List Nat} {N m:Nat} (dL:∀ id,id∈ids→id < N) (hn:ids.length≤m) {j:Nat} (hj:j < m):nB ids N j < N+(m-ids.length):=by
 by_cases h:j < ids.length
 ·have e:nB ids N j=ids[j]:=pA h
  have:=dL _ (List.getElem_mem h)
  omega
 ·have e:nB ids N j=N+(j-ids.length):=uP (by omega)
  omega
theorem Wh {ρ:Nat→Nat} {H q:List (Nat×aW)} {m:Nat} (id:Nat):(∃ j,j < m∧ρ j=id∧((∃ b,aR q id=some b∧aR (cz H ((List.range m).map fun j=>(ρ j,aR q (ρ j)))) id=some b)∨
   (aR q id=none∧∃ x,aR (cz H ((List.range m).map fun j=>(ρ j,aR q (ρ j)))) id=some (.bY x))))∨
  ((∀ j,j < m→ρ j≠id)∧aR (cz H ((List.range m).map fun j=>(ρ j,aR q (ρ j)))) id=aR H id):=by
 have key:∀ l:List Nat,(∃ j,j∈l∧ρ j=id∧(l.map fun j=>(ρ j,aR q (ρ j))).find? (fun p=>Nat.beq id p.1)=some (id,aR q id))∨((∀ j,j∈l→ρ j≠id)∧(l.map fun j=>(ρ j,aR q (ρ j))).find? (fun p=>Nat.beq id p.1)=none):=by
  intro l
  induction l with
  | nil=>exact .inr ⟨(fun j hj=>by cases hj),rfl⟩
  | cons x l ih=>
   simp only [List.map_cons,List.find?_cons]
   cases e:Nat.beq id (ρ x) with
   | true=>
    have e':=Nat.eq_of_beq_eq_true e
    exact .inl ⟨x,by simp,e'.symm,by simp only [← e']⟩
   | false=>
    rcases ih with ⟨j,h1,h2,h3⟩ | ⟨h1,h2⟩
    ·exact .inl ⟨j,by simp [h1],h2,h3⟩
    ·refine .inr ⟨fun j hj=>?_,h2⟩
     rcases List.mem_cons.1 hj with h | h
     ·subst h;exact fun h=>Nat.ne_of_beq_eq_false e h.symm
     ·exact h1 j h
 rcases Ex H id ((List.range m).map fun j=>(ρ j,aR q (ρ j))) with ⟨p,hp,hb⟩ | ⟨hp,hb⟩
 ·rcases key (List.range m) with ⟨j,h1,h2,h3⟩ | ⟨h1,h2⟩
  ·rw [h3] at hp
   cases hp
   refine .inl ⟨j,by simpa using h1,h2,?_⟩
   rcases hb with ⟨b,k1,k2⟩ | ⟨k1,k2⟩
   ·exact .inl ⟨b,k1,k2⟩
   ·exact .inr ⟨k1,k2⟩
  ·rw [h2] at hp;cases hp
 ·rcases key (List.range m) with ⟨j,h1,h2,h3⟩ | ⟨h1,h2⟩
  ·rw [h3] at hp;cases hp
  ·exact .inr ⟨fun j hj=>h1 j (by simpa using hj),hb⟩
theorem Vc {H:List (Nat×aW)} {N:Nat}:∀ {up:List (Nat×Option aW)},(∀ id b,(id,some b)∈up→id < N→fj (some b)=fj (aR H id))→Sub H (cz H up) N
 | [],_=>Sub.refl _ _
 | (i,some b)::r,h=>fun id bY=>by
  simp only [cz,aR]
  cases e:Nat.beq id i with
  | true=>
   have e:=Nat.eq_of_beq_eq_true e
   subst e
   exact h id b (by simp) bY
  | false=>exact Vc (fun id b hm=>h id b (by simp [hm])) id bY
 | (i,none)::r,h=>fun id bY=>by
  simp only [cz,aR]
  have ih:=Vc (H:=H) (N:=N) (up:=r) (fun id b hm=>h id b (by simp [hm])) id bY
  cases e:Nat.beq id i with
  | true=>
   have e:=Nat.eq_of_beq_eq_true e
   subst e
   exact ih
  | false=>exact ih
theorem ZU {ids:List Nat} {N m:Nat} {H1 H:Hp} (hi:∀ j j',j < m→j' < m→nB ids N j=nB ids N j'→j=j') {j:Nat} (hj:j < m):H.c7 (VX ids N m H1) (nB ids N j)=(H1 j).map (ju.du (nB ids N)):=by
 have key:∀ l:List Nat,(∀ x,x∈l→x < m)→j∈l→H.c7 (l.map fun j=>(nB ids N j,(H1 j).map (ju.du (nB ids N)))) (nB ids N j)=(H1 j).map (ju.du (nB ids N)):=by
  intro l
  induction l with
  | nil=>intro _ h;cases h
  | cons x l ih=>
   intro hl hm
   simp only [List.map_cons,Hp.c7]
   by_cases e:nB ids N j=nB ids N x
   ·rw [if_pos e,hi j x hj (hl x (by simp)) e]
   ·rw [if_neg e]
    exact ih (fun y hy=>hl y (by simp [hy])) ((List.mem_cons.1 hm).resolve_left fun h=>e (by rw [h]))
 exact key _ (fun x hx=>by simpa using hx) (by simpa using hj)
theorem XM {ids:List Nat} {N m:Nat} {H1 H:Hp} {id:Nat} (h:∀ j,j < m→nB ids N j≠id):H.c7 (VX ids N m H1) id=H id:=by
 have key:∀ l:List Nat,(∀ x,x∈l→x < m)→H.c7 (l.map fun j=>(nB ids N j,(H1 j).map (ju.du (nB ids N)))) id=H id:=by
  intro l
  induction l with
  | nil=>intro _;rfl
  | cons x l ih=>
   intro hl
   simp only [List.map_cons,Hp.c7]
   rw [if_neg fun e=>h x (hl x (by simp)) e.symm]
   exact ih fun y hy=>hl y (by simp [hy])
 exact key _ fun x hx=>by simpa using hx
theorem Vd {s:bK} {act:Act} {e:Xs} {m:Nat} {H':List (Nat×aW)} (hs:SR w F O μ K s.st ft act) (hg:e.D9 m s.N=true) (hH:∀ p,p∈H'→NF s.H H' e id p) (hi:e.inj):
  Reads w F μ K s.H e (frX s e F ft) (fun j=>μ (nB (sw e m) s.N j)) (below m) H' id:=by
 have h:=I2 (H':=H') hs hg hH hi
 refine { h with num:=fun j b9 hj hk=>?_,fz:=fun b9 bY t v xs hb u hv K2=>Ko hs hb hv (fun b h=>.inl h) fun hl b cd=>.inr ⟨b9,bY,hl,cd⟩ }
 ·obtain ⟨h1,_⟩:=h.num j b9 hj hk
  refine ⟨h1,?_⟩
  have hl:j < (sw e m).length:=by rw [I3];exact h1
  have e1:nB (sw e m) s.N j=(sw e m)[j]:=pA hl
  simp only [id]
  rw [e1,Ku hl,hj]
  rfl
theorem Wi {S:Nat→Prop} {n:Nat} {o:Obj} {l:List AV}:gO w F μ K S n o (.box l)↔∃ cs t,o=.cells cs t (0,0)∧(∀ x,S x↔x=n)∧l.length≤cs.size∧hP w F μ K l (cs.toList.take l.length):=by
 have get:∀ (cs:Array Value) i,i < l.length→(cs.toList.take l.length).getD i undef=cs.getD i undef:=fun cs i hi=>by
  rw [← iN]
  simp [List.getD,List.getElem?_take,hi]
 constructor
 ·rintro ⟨cs,t,q1,q2,q3,q4⟩
  exact ⟨cs,t,q1,q2,q3,by simp;omega,fun i hi=>by rw [get cs i hi];exact q4 i hi⟩
 ·rintro ⟨cs,t,q1,q2,q3,q4⟩
  exact ⟨cs,t,q1,q2,q3,fun i hi=>by rw [← get cs i hi];exact q4.2 i hi⟩
theorem Kv {i:Nat} (h:Ty.flat (.st i)=true) {x:C i} {y:cE} (hy:y∈get i x):VY (cK y):=by
 refine NG ?_
 have e3:(get i x).map (·.t)=Ag i:=pr i x
 have hm:y.t∈Ag i:=by rw [← e3];exact List.mem_map.2 ⟨_,hy,rfl⟩
 have:=List.all_eq_true.1 h _ hm
 generalize y.t=u at this
 cases u<;>first | rfl | cases this
theorem abp {i:Nat} (h:Ty.flat (.st i)=true) (x:C i):VY (vR (get i x)).1∧VY (vR (get i x)).2:=by
 have key:∀ y,y∈get i x→VY (cK y):=fun y hy=>Kv h hy
 generalize get i x=l at key
 match l,key with
 | [],_=>exact ⟨fun _=>.top _,fun _=>.top _⟩
 | [a],key=>exact ⟨key a (by simp),fun hv=>by obtain ⟨vs,rfl,h⟩:=hv.fh;rw [h.gY];exact .pY .nil⟩
 | a::b::r,key=>exact ⟨key a (by simp),key b (by simp)⟩
theorem ads {l:List cE} (h:∀ y,y∈l→VY (cK y)):VY (.agg (l.map cK)):=by
 intro w F F' μ K v hv
 obtain ⟨vs,rfl,AM⟩:=hv.fh
 refine .pY ⟨AM.1,fun i hi=>?_⟩
 have c8:i < l.length:=by simpa using hi
 have e:(l.map cK).getD i .top=cK l[i]:=by simp [List.getD,c8]
 have:=AM.2 i hi
 rw [e] at this ⊢
 exact h _ (List.getElem_mem c8) this
theorem Tp {i:Nat} (h:Ty.flat (.st i)=true) (n:Nat) (x:C i):VY (cY n (get i x)).1∧VY (cY n (get i x)).2:=by
 cases n with
 | zero=>exact abp h x
 | succ n=>
  have key:∀ y,y∈get i x→VY (cK y):=fun y hy=>Kv h hy
  generalize get i x=l at key
  refine ⟨ads fun y hy=>key y (List.mem_of_mem_take hy),?_⟩
  simp only [cY]
  cases hd:l.drop (n+1) with
  | nil=>exact fun hv=>by obtain ⟨vs,rfl,h⟩:=hv.fh;rw [h.gY];exact .pY .nil
  | cons y r=>exact key y (List.mem_of_mem_drop (by rw [hd];simp))
theorem abq {i:Nat} (h:Ty.flat (.st i)=true) (l:List (C i)):NfB (.map (l.map fun x=>cY (KR i) (get i x))):=by
 intro w F F' μ K S n o hB hS
 obtain ⟨es,clock,h1,h2,h3,h4,h5⟩:=hB
 refine ⟨es,clock,h1,h2,h3,fun j hj=>?_,h5⟩
 have lu:j < l.length:=by simpa using hj
 have e:(l.map fun x=>cY (KR i) (get i x)).getD j (.top,.top)=cY (KR i) (get i l[j]):=by simp [List.getD,lu]
 obtain ⟨k1,k2,k3⟩:=h4 j hj
 rw [e] at k2 k3 ⊢
 exact ⟨k1,(Tp h _ l[j]).1 k2,(Tp h _ l[j]).2 k3⟩
theorem abr {t:Ty} (h:t.flat=true) {x:t.dn} {y:cE} (hy:y∈dK t x):VY (cK y):=by
 cases t with
 | st i=>exact Kv h hy
 | sl=>cases h
 | _=>
  simp only [dK,List.mem_singleton] at hy
  subst hy
  exact NG h
theorem abt {t:Ty} {H:List (Nat×aW)} (hf:t.flat=true) (x:t.dn):NfB (aW.di H (.box ((dK t x).map .d))):=by
 simp only [aW.di]
 intro w F F' μ K S n o hB hS
 obtain ⟨cs,ty,h1,h2,h3,h4⟩:=hB
 refine ⟨cs,ty,h1,h2,h3,fun j hj=>?_⟩
 have h5:=h4 j hj
 rw [bE] at hj
 rw [dy _ _ _ hj] at h5 ⊢
 simp only [List.length_map] at hj
 have e2:(((dK t x).map TA.d).getD j .top)=TA.d ((dK t x)[j]'hj):=by simp [List.getD,hj]
 rw [e2] at h5 ⊢
 simp only [TA.av] at h5 ⊢
 exact abr hf (List.getElem_mem hj) h5
theorem instBs_nf {ρ:Nat→Nat} {H:List (Nat×aW)}:∀ {bs:List Bp} {j:Nat} {l l':List cE} {q:List (Nat×aW)},instBs ρ bs j l=some (q,l')→bs.all Bp.flat=true→∀ p,p∈q→NfB (p.2.di H)
 | [],j,l,l',q,h,_,p,hp=>by simp only [instBs] at h;cases h;cases hp
 | b::r,j,l,l',q,h,hf,p,hp=>by
  simp only [List.all_cons,Bool.and_eq_true] at hf
  by_cases hg:b=.gone
  ·subst hg
   simp only [instBs] at h
   exact instBs_nf h hf.2 p hp
  ·rw [instBs_cons hg] at h
   split at h
   ·rename_i x l2 hb
    split at h
    ·rename_i q2 l3 hr
     cases h
     rcases List.mem_cons.1 hp with e | e
     ·subst e
      cases b with
      | gone=>exact absurd rfl hg
      | cq t=>
       simp only [instB] at hb
       split at hb
       ·split at hb
        ·rename_i e
         subst e
         cases hb
         exact abt (by simpa only [Bp.flat] using hf.1) _
        ·cases hb
       ·cases hb
      | dmap i=>
       simp only [instB] at hb
       split at hb
       ·split at hb
        ·rename_i e
         subst e
         cases hb
         exact abq (by simpa only [Bp.flat] using hf.1) _
        ·cases hb
       ·cases hb
      | row t v=>
       simp only [instB] at hb
       split at hb
       ·split at hb
        ·rename_i e
         subst e
         cases hb
         exact adr (by simpa only [Bp.flat] using hf.1) _
        ·cases hb
       ·cases hb
      | box ps=>
       simp only [instB] at hb
       split at hb
       ·rename_i as l5 hi
        cases hb
        simp only [aW.di]
        intro hB hS
        obtain ⟨cs,t,q1,q2,q3,q4⟩:=Wi.1 hB
        exact Wi.2 ⟨cs,t,q1,q2,q3,instL_nf hi hf.1 q4⟩
       ·cases hb
     ·exact instBs_nf hr hf.2 p e
    ·cases h
   ·cases h
theorem adt {n:Nat}:dH [] n=none:=rfl
theorem abu:(⟨[],[]⟩:Xs).inj:=fun j j' id h=>by cases h
theorem XN {c:CT} {o:Oper} {s:bK} {as:List TA} {κ zx:cC→Option R} {z:R} (hc:aU P c) (ho:Rr P o s c.f as) (hs:s.ok) (h:Vb c s as κ zx=some z):we P o s κ z∨EvP P o s zx z:=by
 unfold Vb at h
 split at h
 ·rename_i e1 d1 h1
  split at h
  ·rename_i e2 d2 h2
   split at h
   ·rename_i hgd
    split at h
    ·rename_i x hx
     simp only [Bool.and_eq_true] at hgd
     obtain ⟨hg,Ya,hfl⟩:=hgd
     cases ha:xy (CG c.args++Rp c.cW) c.F x with
     | none=>rw [ha] at h;cases h
     | some out=>
      rw [ha] at h
      simp only [Option.bind_some] at h
      rw [Tl] at h
      have Kw:=Kt (X:=Unit) c.outs out
      have NH:=hc x out ha
      generalize (mN c.outs out).1=a at h Kw NH
      generalize (mN c.outs out).2=ds at h NH
      obtain ⟨bl,bi,ba,bq⟩:=uC (H':=[]) (ρ:=id) h2
      obtain ⟨q0,q1,_⟩:=bq []
      rw [List.append_nil] at q1
      obtain ⟨bl,bi,ba,bq⟩:=uC (H':=q0) (ρ:=id) h2
      obtain ⟨q',q1',q2⟩:=bq []
      rw [List.append_nil,q1] at q1'
      cases q1'
      obtain ⟨xl,xi,xb⟩:=wg (H':=q0) (ρ:=id) h1
      obtain ⟨as0,a1,a2⟩:=xb d2
      have inj:=bi (xi abu)
      have hH:∀ p,p∈q0→NF s.H q0 e2 id p:=fun p hp=>(q2 p hp).1
      rw [kK hx] at NH
      have NH:=NH as0 d2 q0 a1 q1
      have ZV:=hg
      simp only [Xs.D9,Bool.and_eq_true] at ZV
      have mC:∀ j,j < c.cW.length→∃ b9,dH e2.uB j=some b9∧b9 < s.N:=fun j hj=>by
       obtain ⟨b9,h3⟩:=ba j hj
       rw [Nat.zero_add] at h3
       have h0:=List.all_eq_true.1 ZV.1 _ (lx h3)
       simp only [Bool.and_eq_true] at h0
       exact ⟨b9,h3,Nat.le_of_ble_eq_true h0.2⟩
      have hlen:(sw e2 c.cW.length).length=c.cW.length:=I3 _ _
      have adu:∀ j,j < c.cW.length→dH e2.uB j=some ((dH e2.uB j).getD 0):=fun j hj=>by
       obtain ⟨b9,h3,_⟩:=mC j hj
       rw [h3];rfl
      have acf:∀ b9,b9∈sw e2 c.cW.length→b9 < s.N:=fun b9 hm=>by
       simp only [sw,List.mem_map,List.mem_range] at hm
       obtain ⟨j,hj,rfl⟩:=hm
       obtain ⟨b9,h3,h4⟩:=mC j hj
       rw [h3];exact h4
      have AL:(sw e2 c.cW.length).Nodup:=by
       rw [List.nodup_iff_pairwise_ne,List.pairwise_iff_getElem]
       intro i j hi hj Lj e
       rw [Ku hi,Ku hj] at e
       rw [hlen] at hi hj
       have:=inj i j _ (adu i hi) (e▸adu j hj)
       omega
      unfold Wg at h
      split at h
      ·rename_i vQ
       simp only [Bool.and_eq_true] at vQ
       obtain ⟨hmm,hrl,hbl⟩:=vQ
       have hmm:=Nat.le_of_ble_eq_true hmm
       rw [hlen] at hmm
       rw [instP_ren] at h
       split at h
       ·rename_i v r hv
        cases Yn:instP id a.res ds with
        | none=>rw [Yn] at hv;cases hv
        | some vr=>
         obtain ⟨v0,r0⟩:=vr
         rw [Yn] at hv
         simp only [Option.map_some,Option.some.injEq,Prod.mk.injEq] at hv
         obtain ⟨rfl,rfl⟩:=hv
         rw [instBs_ren] at h
         split at h
         ·rename_i q hq
          cases hq0:instBs id a.cW 0 r0 with
          | none=>rw [hq0] at hq;cases hq
          | some qr=>
           obtain ⟨qq,rr⟩:=qr
           rw [hq0] at hq
           simp only [Option.map_some,Option.some.injEq,Prod.mk.injEq] at hq
           obtain ⟨rfl,rfl⟩:=hq
           have NH:=NH v0 r0 qq Yn hq0
           split at h
           ·rename_i aez
            simp only [Bool.and_eq_true] at aez
            obtain ⟨hh1,hh2⟩:=aez
            obtain ⟨h,Pv⟩:=Tn h
            rw [← hlen] at hmm NH
            generalize abh:sw e2 c.cW.length=ids at *
            have aeA:=abo (m:=a.cW.length) AL acf
            have aeB:∀ p,p∈qq→p.1 < a.cW.length:=fun p hp=>by
             obtain ⟨i,hi,e⟩:=instBs_keys hq0 p hp
             rw [e];simpa using hi
            have lk:∀ j,j < a.cW.length→aR (qq.map fun p=>(nB ids s.N p.1,p.2.du (nB ids s.N))) (nB ids s.N j)=(aR qq j).map (aW.du (nB ids s.N)):=fun j hj=>PY aeA aeB hj
            generalize hqr:(qq.map fun p=>(nB ids s.N p.1,p.2.du (nB ids s.N)))=qr at *
            have Jm:instP (nB ids s.N) a.res ds=some (v0.du (nB ids s.N),r0):=by rw [instP_ren,Yn];rfl
            have hq1:instBs (nB ids s.N) a.cW 0 r0=some (qr,[]):=by rw [instBs_ren,hq0,← hqr];rfl
            have bnd:∀ j,j < a.cW.length→nB ids s.N j < s.N+(a.cW.length-ids.length):=fun j hj=>XL acf hmm hj
            let rr:cC:=⟨v0.du (nB ids s.N),(List.range a.cW.length).map fun j=>(nB ids s.N j,aR qr (nB ids s.N j)),a.cW.length-ids.length⟩
            have D9:Ng s rr:=by
             refine ⟨Vc fun b9 b hm bY=>?_,inst_wf (m:=a.cW.length) bnd Jm hrl,fun b9 l hm=>?_⟩
             ·simp only [rr,List.mem_map,Prod.mk.injEq] at hm
              obtain ⟨j,hj,h4,h5⟩:=hm
              subst h4
              refine Pv _ ?_ b h5
              by_cases hj:j < ids.length
              ·have e:nB ids s.N j=ids[j]:=pA hj
               rw [e];exact List.getElem_mem hj
              ·have e:nB ids s.N j=s.N+(j-ids.length):=uP (by omega)
               omega
             ·simp only [rr,List.mem_map,Prod.mk.injEq] at hm
              obtain ⟨j,_,h4,h5⟩:=hm
              exact instBs_wf (m:=a.cW.length) bnd hq1 hbl _ (jW h5)
            have rel:∀ j,j < a.cW.length→∀ x,fj (aR qr (nB ids s.N j))=some x→fj (aR qq j)=some x∧fj (aR (s.next rr).H (nB ids s.N j))=some x:=fun j hj x hx=>by
             constructor
             ·rw [lk j hj] at hx
              cases e:aR qq j with
              | none=>rw [e] at hx;cases hx
              | some b=>rw [e] at hx;cases b<;>exact hx
             ·rcases Wh (H:=s.H) (q:=qr) (m:=a.cW.length) (ρ:=nB ids s.N) (nB ids s.N j) with ⟨j',_,_,⟨b,k1,k2⟩ | ⟨k1,_⟩⟩ | ⟨k1,_⟩
              ·rw [show aR (s.next rr).H (nB ids s.N j)=some b from k2,← k1];exact hx
              ·rw [k1] at hx;cases hx
              ·exact absurd rfl (k1 j hj)
            have wf0:∀ p,p∈qq→gQ qq a.cW.length p.2.refs:=instBs_wf (m:=a.cW.length) (fun j h=>h) hq0 hbl
            have himp:gZ ((v0.av qq).du (nB ids s.N)) (rr.v.av (s.next rr).H):=by
             rw [Va rel v0 (inst_wf (m:=a.cW.length) (fun j h=>h) Yn hrl) hh1]
             exact gZ.refl _
            have aeC:∀ b9,b9∈(VX ids s.N a.cW.length (vS qq)).map (·.1)→b9∈rr.up.map (·.1):=fun b9 hm=>by
             simpa [VX,rr] using hm
            have UC:∀ b9 b',vS (s.next rr).H b9=some b'→∃ b,(s.st.H.c7 (VX ids s.N a.cW.length (vS qq))) b9=some b∧eD b b':=fun b9 b' hb=>by
             obtain ⟨B',hl,hv,rfl⟩:=gP hb
             rcases Wh (H:=s.H) (q:=qr) (m:=a.cW.length) (ρ:=nB ids s.N) b9 with ⟨j,m1,m2,⟨b,k1,k2⟩ | ⟨_,x,k2⟩⟩ | ⟨m1,m2⟩
             ·have k2':aR (s.next rr).H b9=some b:=k2
              rw [k2'] at hl
              cases hl
              subst m2
              rw [ZU aeA m1]
              have Ye:=k1
              rw [lk j m1] at k1
              cases hj:aR qq j with
              | none=>rw [hj] at k1;cases k1
              | some B=>
               rw [hj] at k1
               simp only [Option.map_some,Option.some.injEq] at k1
               subst k1
               have hBv:B.TW=true:=by cases B<;>first | rfl | exact hv
               refine ⟨(B.di qq).du (nB ids s.N),by rw [Kg hj hBv];rfl,?_⟩
               rw [abn rel B (wf0 _ (jW hj)) (List.all_eq_true.1 hh2 _ (jW Ye))]
               exact eD.refl _
             ·have k2':aR (s.next rr).H b9=some (.bY x):=k2
              rw [k2'] at hl
              cases hl
              cases hv
             ·rw [XM m1]
              have m2':aR (s.next rr).H b9=aR s.H b9:=m2
              rw [m2'] at hl
              refine ⟨B'.di s.H,dz hl hv,?_⟩
              rw [o_ D9.sub (hs.H b9 _ hl)]
              exact eD.refl _
            have core:∀ {w:World} {F O K:Nat→Prop} {μ:Nat→Nat} {ft:Nat→Nat→Prop} {act:Act},SR w F O μ K s.st ft act→(∀ id,id∈List.range' s.N rr.k→¬ K id)→∀ ru,hP w F μ K (dJ s.H as) ru→
              Calls P c.f ⟨ru⟩ w fun en w'=>∃ v F' O' bB b7,en=(cond a.Ke (Hg.Ke (v0.av qq)) (.ret (v0.av qq))).is v∧VR w' F' bB (plus K (List.range' s.N rr.k)) ((v0.av qq).du (nB ids s.N)) v∧
               HR w' F' O' bB (plus K (List.range' s.N rr.k)) (s.st.H.c7 (VX ids s.N a.cW.length (vS qq))) b7∧Fr w F O μ K w' F' O' bB:=by
             intro w F O K μ ft act g6 DZ ru Ix
             have rd:=Vd g6 hg hH inj
             rw [abh] at rd
             have hnf:e2.fz=[]∨(VY (Hg.av (cond a.Ke (Hg.Ke (v0.av qq)) (.ret (v0.av qq))))∧∀ j b,vS qq j=some b→NfB b):=by
              simp only [Bool.or_eq_true] at hfl
              rcases hfl with h | h
              ·left
               cases hz:e2.fz with
               | nil=>rfl
               | cons=>rw [hz] at h;cases h
              ·right
               have:=List.all_eq_true.1 h a Kw
               simp only [Bool.and_eq_true] at this
               refine ⟨?_,fun j b hb=>?_⟩
               ·have e:Hg.av (cond a.Ke (Hg.Ke (v0.av qq)) (.ret (v0.av qq)))=v0.av qq:=by cases a.Ke<;>rfl
                rw [e]
                exact fun {w F F' μ K v} h=>inst_nf Yn this.1 h
               ·obtain ⟨B,hl,hv,rfl⟩:=gP hb
                exact instBs_nf hq0 this.2 _ (jW hl)
             have hld:∀ b9,b9∈e2.fz→b9 ∉ ids:=fun b9 hz hm=>by
              have h0:=List.all_eq_true.1 ZV.2 _ hz
              simp only [Bool.not_eq_true',List.any_eq_false] at h0
              rw [← abh] at hm
              simp only [sw,List.mem_map,List.mem_range] at hm
              obtain ⟨j,hj,rfl⟩:=hm
              exact h0 _ (lx (adu j hj)) (by simp)
             have hand:∀ j b',vS q0 j=some b'→∃ b9,ids[j]?=some b9∧∃ b,s.st.H b9=some b∧(b'.eI=true→b.eI=true)∧∀ {S n o},gO w F μ K S n o b→gO w (fun b=>F b∨∃ id,id∈e2.fz∧s.st.H.live id∧ft id b) (fun j=>μ (nB ids s.N j)) (below ids.length) S n o b':=by
              intro j b' hb
              obtain ⟨B',hl,hv,rfl⟩:=gP hb
              obtain ⟨j2,Bn,B,k1,k2,k3,k3v,_,_,k5,k6⟩:=hH _ (jW hl)
              simp only [id] at k1
              subst k1
              have hj:j < c.cW.length:=by
               obtain ⟨i,hi,e⟩:=instBs_keys q1 _ (jW hl)
               simp only [id,Nat.zero_add] at e
               omega
              refine ⟨Bn,?_,B.di s.H,dz k3 k3v,k5,fun {S n o} hB=>?_⟩
              ·rw [← abh]
               simp [sw,hj,k2]
              ·rw [hlen]
               exact k6 rd hB
             have hK:∀ b9,b9∈ids→K b9:=fun b9 hm=>by
              have:=List.all_eq_true.1 Ya b9 hm
              cases hl:aR s.H b9 with
              | none=>rw [hl] at this;cases this
              | some B=>rw [hl] at this;exact g6.hr.known b9 _ (dz hl this)
             have lD:=Zr (ids:=ids) (ld:=e2.fz) (N:=s.N) NH AL hand g6 hK DZ hld
              (by rw [hlen];exact a2 (rd.of bl) Ix) hnf
             refine lD.mono ?_
             rintro en w' ⟨v,F',O',bB,b7,k1,k2,k3,k4⟩
             have e:Hg.av (cond a.Ke (Hg.Ke (v0.av qq)) (.ret (v0.av qq)))=v0.av qq:=by cases a.Ke<;>rfl
             rw [e] at k2
             exact ⟨v,F',O',bB,b7,k1,k2,k3,k4⟩
            cases hp:a.Ke with
            | false=>
             rw [hp] at h core
             refine .inl ⟨rr,⟨_,_,fun w F O μ K ft act g6 hn Kn Q hk=>?_,himp,aeC,UC⟩,D9,h⟩
             obtain ⟨ru,hr1,Zq⟩:=ho NH.2.1 g6
             unfold Oper.wp
             rw [hr1,Oper.upon_enter]
             refine (core g6 hn ru Zq).mono ?_
             rintro en w' ⟨v,F',O',bB,b7,rfl,k2,k3,k4⟩
             exact hk v w' F' O' bB b7 k2 k3 k4
            | true=>
             rw [hp] at h core
             refine .inr ⟨rr,⟨_,_,fun w F O μ K ft act g6 hn Kn Q hk=>?_,himp,aeC,UC⟩,D9,h⟩
             obtain ⟨ru,hr1,Zq⟩:=ho NH.2.1 g6
             unfold Oper.wp
             rw [hr1,Oper.upon_enter]
             refine (core g6 hn ru Zq).mono ?_
             rintro en w' ⟨v,F',O',bB,b7,rfl,k2,k3,k4⟩
             exact hk v w' F' O' bB b7 k2 k3 k4
           ·cases h
         ·cases h
       ·cases h
      ·cases h
    ·cases h
   ·cases h
  ·cases h
 ·cases h
end Go.Proofs.YtljfmaaadnoggaaGreatDoor.cU
