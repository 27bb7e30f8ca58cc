/- Calls in the evaluator are right. No condition. -/
import Derived.Test.YtljfmaaadnoggaaVP
set_option linter.unusedSimpArgs false
set_option linter.unusedVariables false
namespace Go.Proofs.Ytljfmaaadnoggaa.Abs
open Go Go.RowKit
variable {w w' w'':World} {F F' F'' O O' O'':Nat→Prop} {μ μ' μ'':Nat→Nat} {K K' K'':Nat→Prop} {ft ft':Nat→Nat→Prop} {P:Program} {R:Type}
theorem idsOf_length (e:Xs) (n:Nat):(idsOf e n).length=n:=by simp [idsOf]
theorem idsOf_get {e:Xs} {n j:Nat} (h:j < (idsOf e n).length):(idsOf e n)[j]=(asgOf e.asc j).getD 0:=by simp [idsOf]
theorem hpT_nil:hpT []=fun _=>none:=rfl
theorem rho_inj {ids:List Nat} {N m:Nat} (hnd:ids.Nodup) (hlt:∀ id,id∈ids→id < N):∀ j j',j < m→j' < m→rho ids N j=rho ids N j'→j=j':=by
 intro j j' _ _ h
 by_cases h1:j < ids.length<;>by_cases h2:j' < ids.length
 ·have e1:rho ids N j=ids[j]:=rho_lt h1
  have e2:rho ids N j'=ids[j']:=rho_lt h2
  exact nodup_idx hnd h1 h2 (by rw [← e1,← e2];exact h)
 ·have e1:rho ids N j=ids[j]:=rho_lt h1
  have e2:rho ids N j'=N+(j'-ids.length):=rho_ge (by omega)
  have:=hlt _ (List.getElem_mem h1)
  omega
 ·have e1:rho ids N j'=ids[j']:=rho_lt h2
  have e2:rho ids N j=N+(j-ids.length):=rho_ge (by omega)
  have:=hlt _ (List.getElem_mem h2)
  omega
 ·have e1:rho ids N j=N+(j-ids.length):=rho_ge (by omega)
  have e2:rho ids N j'=N+(j'-ids.length):=rho_ge (by omega)
  omega
theorem rho_bound {ids:List Nat} {N m:Nat} (hlt:∀ id,id∈ids→id < N) (hn:ids.length≤m) {j:Nat} (hj:j < m):rho ids N j < N+(m-ids.length):=by
 by_cases h:j < ids.length
 ·have e:rho ids N j=ids[j]:=rho_lt h
  have:=hlt _ (List.getElem_mem h)
  omega
 ·have e:rho ids N j=N+(j-ids.length):=rho_ge (by omega)
  omega
theorem look_up {ρ:Nat→Nat} {H q:List (Nat×TBlk)} {m:Nat} (id:Nat):(∃ j,j < m∧ρ j=id∧((∃ b,lookH q id=some b∧lookH (updH H ((List.range m).map fun j=>(ρ j,lookH q (ρ j)))) id=some b)∨
   (lookH q id=none∧∃ x,lookH (updH H ((List.range m).map fun j=>(ρ j,lookH q (ρ j)))) id=some (.hid x))))∨
  ((∀ j,j < m→ρ j≠id)∧lookH (updH H ((List.range m).map fun j=>(ρ j,lookH q (ρ j)))) id=lookH H id):=by
 have key:∀ l:List Nat,(∃ j,j∈l∧ρ j=id∧(l.map fun j=>(ρ j,lookH q (ρ j))).find? (fun p=>Nat.beq id p.1)=some (id,lookH q id))∨((∀ j,j∈l→ρ j≠id)∧(l.map fun j=>(ρ j,lookH q (ρ j))).find? (fun p=>Nat.beq id p.1)=none):=by
  intro l
  induction l with
  | nil=>exact .inr ⟨(fun j hj=>by cases hj),rfl⟩
  | cons x l ih=>
   simp only [List.map_cons,List.find?_cons]
   cases e:Nat.beq id (ρ x) with
   | true=>
    have e':=Nat.eq_of_beq_eq_true e
    exact .inl ⟨x,by simp,e'.symm,by simp only [← e']⟩
   | false=>
    rcases ih with ⟨j,h1,h2,h3⟩ | ⟨h1,h2⟩
    ·exact .inl ⟨j,by simp [h1],h2,h3⟩
    ·refine .inr ⟨fun j hj=>?_,h2⟩
     rcases List.mem_cons.1 hj with h | h
     ·subst h;exact fun h=>Nat.ne_of_beq_eq_false e h.symm
     ·exact h1 j h
 rcases lookH_upd H id ((List.range m).map fun j=>(ρ j,lookH q (ρ j))) with ⟨p,hp,hb⟩ | ⟨hp,hb⟩
 ·rcases key (List.range m) with ⟨j,h1,h2,h3⟩ | ⟨h1,h2⟩
  ·rw [h3] at hp
   cases hp
   refine .inl ⟨j,by simpa using h1,h2,?_⟩
   rcases hb with ⟨b,k1,k2⟩ | ⟨k1,k2⟩
   ·exact .inl ⟨b,k1,k2⟩
   ·exact .inr ⟨k1,k2⟩
  ·rw [h2] at hp;cases hp
 ·rcases key (List.range m) with ⟨j,h1,h2,h3⟩ | ⟨h1,h2⟩
  ·rw [h3] at hp;cases hp
  ·exact .inr ⟨fun j hj=>h1 j (by simpa using hj),hb⟩
theorem sub_up {H:List (Nat×TBlk)} {N:Nat}:∀ {up:List (Nat×Option TBlk)},(∀ id b,(id,some b)∈up→id < N→shp (some b)=shp (lookH H id))→Sub H (updH H up) N
 | [],_=>Sub.refl _ _
 | (i,some b)::r,h=>fun id hid=>by
  simp only [updH,lookH]
  cases e:Nat.beq id i with
  | true=>
   have e:=Nat.eq_of_beq_eq_true e
   subst e
   exact h id b (by simp) hid
  | false=>exact sub_up (fun id b hm=>h id b (by simp [hm])) id hid
 | (i,none)::r,h=>fun id hid=>by
  simp only [updH,lookH]
  have ih:=sub_up (H:=H) (N:=N) (up:=r) (fun id b hm=>h id b (by simp [hm])) id hid
  cases e:Nat.beq id i with
  | true=>
   have e:=Nat.eq_of_beq_eq_true e
   subst e
   exact ih
  | false=>exact ih
theorem ups_look {ids:List Nat} {N m:Nat} {H1 H:Hp} (hi:∀ j j',j < m→j' < m→rho ids N j=rho ids N j'→j=j') {j:Nat} (hj:j < m):H.upd (ups ids N m H1) (rho ids N j)=(H1 j).map (Blk.ren (rho ids N)):=by
 have key:∀ l:List Nat,(∀ x,x∈l→x < m)→j∈l→H.upd (l.map fun j=>(rho ids N j,(H1 j).map (Blk.ren (rho ids N)))) (rho ids N j)=(H1 j).map (Blk.ren (rho ids N)):=by
  intro l
  induction l with
  | nil=>intro _ h;cases h
  | cons x l ih=>
   intro hl hm
   simp only [List.map_cons,Hp.upd]
   by_cases e:rho ids N j=rho ids N x
   ·rw [if_pos e,hi j x hj (hl x (by simp)) e]
   ·rw [if_neg e]
    exact ih (fun y hy=>hl y (by simp [hy])) ((List.mem_cons.1 hm).resolve_left fun h=>e (by rw [h]))
 exact key _ (fun x hx=>by simpa using hx) (by simpa using hj)
theorem ups_other {ids:List Nat} {N m:Nat} {H1 H:Hp} {id:Nat} (h:∀ j,j < m→rho ids N j≠id):H.upd (ups ids N m H1) id=H id:=by
 have key:∀ l:List Nat,(∀ x,x∈l→x < m)→H.upd (l.map fun j=>(rho ids N j,(H1 j).map (Blk.ren (rho ids N)))) id=H id:=by
  intro l
  induction l with
  | nil=>intro _;rfl
  | cons x l ih=>
   intro hl
   simp only [List.map_cons,Hp.upd]
   rw [if_neg fun e=>h x (hl x (by simp)) e.symm]
   exact ih fun y hy=>hl y (by simp [hy])
 exact key _ fun x hx=>by simpa using hx
theorem reads_call {s:TSt} {act:Act} {e:Xs} {m:Nat} {H':List (Nat×TBlk)} (hs:SR w F O μ K s.st ft act) (hg:e.good m s.N=true) (hH:∀ p,p∈H'→BlkOk s.H H' e id p) (hi:e.inj):
  Reads w F μ K s.H e (frX s e F ft) (fun j=>μ (rho (idsOf e m) s.N j)) (below m) H' id:=by
 have h:=reads_of (H':=H') hs hg hH hi
 refine { h with num:=fun j id' hj hk=>?_,fz:=fun id' hid t v xs hb u hv K2=>freeze_ok hs hb hv (fun b h=>.inl h) fun hl b hb'=>.inr ⟨id',hid,hl,hb'⟩ }
 ·obtain ⟨h1,_⟩:=h.num j id' hj hk
  refine ⟨h1,?_⟩
  have hl:j < (idsOf e m).length:=by rw [idsOf_length];exact h1
  have e1:rho (idsOf e m) s.N j=(idsOf e m)[j]:=rho_lt hl
  simp only [id]
  rw [e1,idsOf_get hl,hj]
  rfl
theorem box_vrs {S:Nat→Prop} {n:Nat} {o:Obj} {l:List AV}:BlkR w F μ K S n o (.box l)↔∃ cs t,o=.cells cs t (0,0)∧(∀ x,S x↔x=n)∧l.length≤cs.size∧VRs w F μ K l (cs.toList.take l.length):=by
 have get:∀ (cs:Array Value) i,i < l.length→(cs.toList.take l.length).getD i undef=cs.getD i undef:=fun cs i hi=>by
  rw [← getD_toList]
  simp [List.getD,List.getElem?_take,hi]
 constructor
 ·rintro ⟨cs,t,q1,q2,q3,q4⟩
  exact ⟨cs,t,q1,q2,q3,by simp;omega,fun i hi=>by rw [get cs i hi];exact q4 i hi⟩
 ·rintro ⟨cs,t,q1,q2,q3,q4⟩
  exact ⟨cs,t,q1,q2,q3,fun i hi=>by rw [← get cs i hi];exact q4.2 i hi⟩
theorem flat_leaf {i:Nat} (h:Ty.flat (.st i)=true) {x:C i} {y:Dyn} (hy:y∈get i x):NfV (dav y):=by
 refine dav_flat ?_
 have e3:(get i x).map (·.t)=lts i:=get_ts i x
 have hm:y.t∈lts i:=by rw [← e3];exact List.mem_map.2 ⟨_,hy,rfl⟩
 have:=List.all_eq_true.1 h _ hm
 generalize y.t=u at this
 cases u<;>first | rfl | cases this
theorem pair_nf {i:Nat} (h:Ty.flat (.st i)=true) (x:C i):NfV (pairA (get i x)).1∧NfV (pairA (get i x)).2:=by
 have key:∀ y,y∈get i x→NfV (dav y):=fun y hy=>flat_leaf h hy
 generalize get i x=l at key
 match l,key with
 | [],_=>exact ⟨fun _=>.top _,fun _=>.top _⟩
 | [a],key=>exact ⟨key a (by simp),fun hv=>by obtain ⟨vs,rfl,h⟩:=hv.agg_inv;rw [h.nil_inv];exact .mkAgg .nil⟩
 | a::b::r,key=>exact ⟨key a (by simp),key b (by simp)⟩
theorem nf_agg {l:List Dyn} (h:∀ y,y∈l→NfV (dav y)):NfV (.agg (l.map dav)):=by
 intro w F F' μ K v hv
 obtain ⟨vs,rfl,hvs⟩:=hv.agg_inv
 refine .mkAgg ⟨hvs.1,fun i hi=>?_⟩
 have hi':i < l.length:=by simpa using hi
 have e:(l.map dav).getD i .top=dav l[i]:=by simp [List.getD,hi']
 have:=hvs.2 i hi
 rw [e] at this ⊢
 exact h _ (List.getElem_mem hi') this
theorem pairK_nf {i:Nat} (h:Ty.flat (.st i)=true) (n:Nat) (x:C i):NfV (pairK n (get i x)).1∧NfV (pairK n (get i x)).2:=by
 cases n with
 | zero=>exact pair_nf h x
 | succ n=>
  have key:∀ y,y∈get i x→NfV (dav y):=fun y hy=>flat_leaf h hy
  generalize get i x=l at key
  refine ⟨nf_agg fun y hy=>key y (List.mem_of_mem_take hy),?_⟩
  simp only [pairK]
  cases hd:l.drop (n+1) with
  | nil=>exact fun hv=>by obtain ⟨vs,rfl,h⟩:=hv.agg_inv;rw [h.nil_inv];exact .mkAgg .nil
  | cons y r=>exact key y (List.mem_of_mem_drop (by rw [hd];simp))
theorem dmap_nf {i:Nat} (h:Ty.flat (.st i)=true) (l:List (C i)):NfB (.map (l.map fun x=>pairK (kar i) (get i x))):=by
 intro w F F' μ K S n o hB hS
 obtain ⟨es,clock,h1,h2,h3,h4,h5⟩:=hB
 refine ⟨es,clock,h1,h2,h3,fun j hj=>?_,h5⟩
 have hj':j < l.length:=by simpa using hj
 have e:(l.map fun x=>pairK (kar i) (get i x)).getD j (.top,.top)=pairK (kar i) (get i l[j]):=by simp [List.getD,hj']
 obtain ⟨k1,k2,k3⟩:=h4 j hj
 rw [e] at k2 k3 ⊢
 exact ⟨k1,(pairK_nf h _ l[j]).1 k2,(pairK_nf h _ l[j]).2 k3⟩
theorem tget_nf {t:Ty} (h:t.flat=true) {x:t.dn} {y:Dyn} (hy:y∈tget t x):NfV (dav y):=by
 cases t with
 | st i=>exact flat_leaf h hy
 | sl=>cases h
 | _=>
  simp only [tget,List.mem_singleton] at hy
  subst hy
  exact dav_flat h
theorem boxd_nf {t:Ty} {H:List (Nat×TBlk)} (hf:t.flat=true) (x:t.dn):NfB (TBlk.blk H (.box ((tget t x).map .d))):=by
 simp only [TBlk.blk]
 intro w F F' μ K S n o hB hS
 obtain ⟨cs,ty,h1,h2,h3,h4⟩:=hB
 refine ⟨cs,ty,h1,h2,h3,fun j hj=>?_⟩
 have h5:=h4 j hj
 rw [avL_length] at hj
 rw [avL_getD _ _ _ hj] at h5 ⊢
 simp only [List.length_map] at hj
 have e2:(((tget t x).map TA.d).getD j .top)=TA.d ((tget t x)[j]'hj):=by simp [List.getD,hj]
 rw [e2] at h5 ⊢
 simp only [TA.av] at h5 ⊢
 exact tget_nf hf (List.getElem_mem hj) h5
theorem instBs_nf {ρ:Nat→Nat} {H:List (Nat×TBlk)}:∀ {bs:List Bp} {j:Nat} {l l':List Dyn} {q:List (Nat×TBlk)},instBs ρ bs j l=some (q,l')→bs.all Bp.flat=true→∀ p,p∈q→NfB (p.2.blk H)
 | [],j,l,l',q,h,_,p,hp=>by simp only [instBs] at h;cases h;cases hp
 | b::r,j,l,l',q,h,hf,p,hp=>by
  simp only [List.all_cons,Bool.and_eq_true] at hf
  by_cases hg:b=.gone
  ·subst hg
   simp only [instBs] at h
   exact instBs_nf h hf.2 p hp
  ·rw [instBs_cons hg] at h
   split at h
   ·rename_i x l2 hb
    split at h
    ·rename_i q2 l3 hr
     cases h
     rcases List.mem_cons.1 hp with e | e
     ·subst e
      cases b with
      | gone=>exact absurd rfl hg
      | boxd t=>
       simp only [instB] at hb
       split at hb
       ·split at hb
        ·rename_i e
         subst e
         cases hb
         exact boxd_nf (by simpa only [Bp.flat] using hf.1) _
        ·cases hb
       ·cases hb
      | dmap i=>
       simp only [instB] at hb
       split at hb
       ·split at hb
        ·rename_i e
         subst e
         cases hb
         exact dmap_nf (by simpa only [Bp.flat] using hf.1) _
        ·cases hb
       ·cases hb
      | row t v=>
       simp only [instB] at hb
       split at hb
       ·split at hb
        ·rename_i e
         subst e
         cases hb
         exact row_nf (by simpa only [Bp.flat] using hf.1) _
        ·cases hb
       ·cases hb
      | box ps=>
       simp only [instB] at hb
       split at hb
       ·rename_i as l5 hi
        cases hb
        simp only [TBlk.blk]
        intro hB hS
        obtain ⟨cs,t,q1,q2,q3,q4⟩:=box_vrs.1 hB
        exact box_vrs.2 ⟨cs,t,q1,q2,q3,instL_nf hi hf.1 q4⟩
       ·cases hb
     ·exact instBs_nf hr hf.2 p e
    ·cases h
   ·cases h
theorem asgOf_none {n:Nat}:asgOf [] n=none:=rfl
theorem xs_inj0:(⟨[],[]⟩:Xs).inj:=fun j j' id h=>by cases h
theorem evCall_ok {c:CT} {o:Oper} {s:TSt} {as:List TA} {κ κp:TRes→Option R} {z:R} (hc:ConOk P c) (ho:CallOp P o s c.f as) (hs:s.ok) (h:evCall c s as κ κp=some z):EvR P o s κ z∨EvP P o s κp z:=by
 unfold evCall at h
 split at h
 ·rename_i e1 d1 h1
  split at h
  ·rename_i e2 d2 h2
   split at h
   ·rename_i hgd
    split at h
    ·rename_i x hx
     simp only [Bool.and_eq_true] at hgd
     obtain ⟨hg,hkn,hfl⟩:=hgd
     cases ha:appT (tysL c.args++tysB c.bps) c.F x with
     | none=>rw [ha] at h;cases h
     | some out=>
      rw [ha] at h
      simp only [Option.bind_some] at h
      rw [caseO_eq] at h
      have hmem:=caseO_mem (X:=Unit) c.outs out
      have hcon:=hc x out ha
      generalize (outOf c.outs out).1=a at h hmem hcon
      generalize (outOf c.outs out).2=ds at h hcon
      obtain ⟨bl,bi,ba,bq⟩:=extBs_ok (H':=[]) (ρ:=id) h2
      obtain ⟨q0,q1,_⟩:=bq []
      rw [List.append_nil] at q1
      obtain ⟨bl,bi,ba,bq⟩:=extBs_ok (H':=q0) (ρ:=id) h2
      obtain ⟨q',q1',q2⟩:=bq []
      rw [List.append_nil,q1] at q1'
      cases q1'
      obtain ⟨xl,xi,xb⟩:=extL_ok (H':=q0) (ρ:=id) h1
      obtain ⟨as0,a1,a2⟩:=xb d2
      have inj:=bi (xi xs_inj0)
      have hH:∀ p,p∈q0→BlkOk s.H q0 e2 id p:=fun p hp=>(q2 p hp).1
      rw [castTup_some hx] at hcon
      have hcon:=hcon as0 d2 q0 a1 q1
      have hgood:=hg
      simp only [Xs.good,Bool.and_eq_true] at hgood
      have hall:∀ j,j < c.bps.length→∃ id',asgOf e2.asc j=some id'∧id' < s.N:=fun j hj=>by
       obtain ⟨id',h3⟩:=ba j hj
       rw [Nat.zero_add] at h3
       have h0:=List.all_eq_true.1 hgood.1 _ (asgOf_mem h3)
       simp only [Bool.and_eq_true] at h0
       exact ⟨id',h3,Nat.le_of_ble_eq_true h0.2⟩
      have hlen:(idsOf e2 c.bps.length).length=c.bps.length:=idsOf_length _ _
      have hget:∀ j,j < c.bps.length→asgOf e2.asc j=some ((asgOf e2.asc j).getD 0):=fun j hj=>by
       obtain ⟨id',h3,_⟩:=hall j hj
       rw [h3];rfl
      have hidlt:∀ id',id'∈idsOf e2 c.bps.length→id' < s.N:=fun id' hm=>by
       simp only [idsOf,List.mem_map,List.mem_range] at hm
       obtain ⟨j,hj,rfl⟩:=hm
       obtain ⟨id',h3,h4⟩:=hall j hj
       rw [h3];exact h4
      have hnd:(idsOf e2 c.bps.length).Nodup:=by
       rw [List.nodup_iff_pairwise_ne,List.pairwise_iff_getElem]
       intro i j hi hj hij e
       rw [idsOf_get hi,idsOf_get hj] at e
       rw [hlen] at hi hj
       have:=inj i j _ (hget i hi) (e▸hget j hj)
       omega
      unfold evAfter at h
      split at h
      ·rename_i hst
       simp only [Bool.and_eq_true] at hst
       obtain ⟨hmm,hrl,hbl⟩:=hst
       have hmm:=Nat.le_of_ble_eq_true hmm
       rw [hlen] at hmm
       rw [instP_ren] at h
       split at h
       ·rename_i v r hv
        cases hv0:instP id a.res ds with
        | none=>rw [hv0] at hv;cases hv
        | some vr=>
         obtain ⟨v0,r0⟩:=vr
         rw [hv0] at hv
         simp only [Option.map_some,Option.some.injEq,Prod.mk.injEq] at hv
         obtain ⟨rfl,rfl⟩:=hv
         rw [instBs_ren] at h
         split at h
         ·rename_i q hq
          cases hq0:instBs id a.bps 0 r0 with
          | none=>rw [hq0] at hq;cases hq
          | some qr=>
           obtain ⟨qq,rr⟩:=qr
           rw [hq0] at hq
           simp only [Option.map_some,Option.some.injEq,Prod.mk.injEq] at hq
           obtain ⟨rfl,rfl⟩:=hq
           have hcon:=hcon v0 r0 qq hv0 hq0
           split at h
           ·rename_i hhas
            simp only [Bool.and_eq_true] at hhas
            obtain ⟨hh1,hh2⟩:=hhas
            obtain ⟨h,hsame⟩:=sameL_ok h
            rw [← hlen] at hmm hcon
            generalize hids:idsOf e2 c.bps.length=ids at *
            have hinj:=rho_inj (m:=a.bps.length) hnd hidlt
            have keys0:∀ p,p∈qq→p.1 < a.bps.length:=fun p hp=>by
             obtain ⟨i,hi,e⟩:=instBs_keys hq0 p hp
             rw [e];simpa using hi
            have lk:∀ j,j < a.bps.length→lookH (qq.map fun p=>(rho ids s.N p.1,p.2.ren (rho ids s.N))) (rho ids s.N j)=(lookH qq j).map (TBlk.ren (rho ids s.N)):=fun j hj=>lookH_ren hinj keys0 hj
            generalize hqr:(qq.map fun p=>(rho ids s.N p.1,p.2.ren (rho ids s.N)))=qr at *
            have hv1:instP (rho ids s.N) a.res ds=some (v0.ren (rho ids s.N),r0):=by rw [instP_ren,hv0];rfl
            have hq1:instBs (rho ids s.N) a.bps 0 r0=some (qr,[]):=by rw [instBs_ren,hq0,← hqr];rfl
            have bnd:∀ j,j < a.bps.length→rho ids s.N j < s.N+(a.bps.length-ids.length):=fun j hj=>rho_bound hidlt hmm hj
            let rr:TRes:=⟨v0.ren (rho ids s.N),(List.range a.bps.length).map fun j=>(rho ids s.N j,lookH qr (rho ids s.N j)),a.bps.length-ids.length⟩
            have good:TGood s rr:=by
             refine ⟨sub_up fun id' b hm hid=>?_,inst_wf (m:=a.bps.length) bnd hv1 hrl,fun id' l hm=>?_⟩
             ·simp only [rr,List.mem_map,Prod.mk.injEq] at hm
              obtain ⟨j,hj,h4,h5⟩:=hm
              subst h4
              refine hsame _ ?_ b h5
              by_cases hj:j < ids.length
              ·have e:rho ids s.N j=ids[j]:=rho_lt hj
               rw [e];exact List.getElem_mem hj
              ·have e:rho ids s.N j=s.N+(j-ids.length):=rho_ge (by omega)
               omega
             ·simp only [rr,List.mem_map,Prod.mk.injEq] at hm
              obtain ⟨j,_,h4,h5⟩:=hm
              exact instBs_wf (m:=a.bps.length) bnd hq1 hbl _ (lookH_mem h5)
            have rel:∀ j,j < a.bps.length→∀ x,shp (lookH qr (rho ids s.N j))=some x→shp (lookH qq j)=some x∧shp (lookH (s.next rr).H (rho ids s.N j))=some x:=fun j hj x hx=>by
             constructor
             ·rw [lk j hj] at hx
              cases e:lookH qq j with
              | none=>rw [e] at hx;cases hx
              | some b=>rw [e] at hx;cases b<;>exact hx
             ·rcases look_up (H:=s.H) (q:=qr) (m:=a.bps.length) (ρ:=rho ids s.N) (rho ids s.N j) with ⟨j',_,_,⟨b,k1,k2⟩ | ⟨k1,_⟩⟩ | ⟨k1,_⟩
              ·rw [show lookH (s.next rr).H (rho ids s.N j)=some b from k2,← k1];exact hx
              ·rw [k1] at hx;cases hx
              ·exact absurd rfl (k1 j hj)
            have wf0:∀ p,p∈qq→wfL qq a.bps.length p.2.refs:=instBs_wf (m:=a.bps.length) (fun j h=>h) hq0 hbl
            have himp:Imp ((v0.av qq).ren (rho ids s.N)) (rr.v.av (s.next rr).H):=by
             rw [av_ren rel v0 (inst_wf (m:=a.bps.length) (fun j h=>h) hv0 hrl) hh1]
             exact Imp.refl _
            have hfst:∀ id',id'∈(ups ids s.N a.bps.length (hpT qq)).map (·.1)→id'∈rr.up.map (·.1):=fun id' hm=>by
             simpa [ups,rr] using hm
            have hblk:∀ id' b',hpT (s.next rr).H id'=some b'→∃ b,(s.st.H.upd (ups ids s.N a.bps.length (hpT qq))) id'=some b∧BImp b b':=fun id' b' hb=>by
             obtain ⟨B',hl,hv,rfl⟩:=hpT_some hb
             rcases look_up (H:=s.H) (q:=qr) (m:=a.bps.length) (ρ:=rho ids s.N) id' with ⟨j,m1,m2,⟨b,k1,k2⟩ | ⟨_,x,k2⟩⟩ | ⟨m1,m2⟩
             ·have k2':lookH (s.next rr).H id'=some b:=k2
              rw [k2'] at hl
              cases hl
              subst m2
              rw [ups_look hinj m1]
              have k1':=k1
              rw [lk j m1] at k1
              cases hj:lookH qq j with
              | none=>rw [hj] at k1;cases k1
              | some B=>
               rw [hj] at k1
               simp only [Option.map_some,Option.some.injEq] at k1
               subst k1
               have hBv:B.vis=true:=by cases B<;>first | rfl | exact hv
               refine ⟨(B.blk qq).ren (rho ids s.N),by rw [hpT_of hj hBv];rfl,?_⟩
               rw [blk_ren rel B (wf0 _ (lookH_mem hj)) (List.all_eq_true.1 hh2 _ (lookH_mem k1'))]
               exact BImp.refl _
             ·have k2':lookH (s.next rr).H id'=some (.hid x):=k2
              rw [k2'] at hl
              cases hl
              cases hv
             ·rw [ups_other m1]
              have m2':lookH (s.next rr).H id'=lookH s.H id':=m2
              rw [m2'] at hl
              refine ⟨B'.blk s.H,st_at hl hv,?_⟩
              rw [blk_sub good.sub (hs.H id' _ hl)]
              exact BImp.refl _
            have core:∀ {w:World} {F O K:Nat→Prop} {μ:Nat→Nat} {ft:Nat→Nat→Prop} {act:Act},SR w F O μ K s.st ft act→(∀ id,id∈List.range' s.N rr.k→¬ K id)→∀ cargs,VRs w F μ K (avL s.H as) cargs→
              Calls P c.f ⟨cargs⟩ w fun en w'=>∃ v F' O' μ' ft',en=(cond a.pan (GEnd.pan (v0.av qq)) (.ret (v0.av qq))).is v∧VR w' F' μ' (plus K (List.range' s.N rr.k)) ((v0.av qq).ren (rho ids s.N)) v∧
               HR w' F' O' μ' (plus K (List.range' s.N rr.k)) (s.st.H.upd (ups ids s.N a.bps.length (hpT qq))) ft'∧Fr w F O μ K w' F' O' μ':=by
             intro w F O K μ ft act hsr hnew cargs hargs
             have rd:=reads_call hsr hg hH inj
             rw [hids] at rd
             have hnf:e2.fz=[]∨(NfV (GEnd.av (cond a.pan (GEnd.pan (v0.av qq)) (.ret (v0.av qq))))∧∀ j b,hpT qq j=some b→NfB b):=by
              simp only [Bool.or_eq_true] at hfl
              rcases hfl with h | h
              ·left
               cases hz:e2.fz with
               | nil=>rfl
               | cons=>rw [hz] at h;cases h
              ·right
               have:=List.all_eq_true.1 h a hmem
               simp only [Bool.and_eq_true] at this
               refine ⟨?_,fun j b hb=>?_⟩
               ·have e:GEnd.av (cond a.pan (GEnd.pan (v0.av qq)) (.ret (v0.av qq)))=v0.av qq:=by cases a.pan<;>rfl
                rw [e]
                exact fun {w F F' μ K v} h=>inst_nf hv0 this.1 h
               ·obtain ⟨B,hl,hv,rfl⟩:=hpT_some hb
                exact instBs_nf hq0 this.2 _ (lookH_mem hl)
             have hld:∀ id',id'∈e2.fz→id' ∉ ids:=fun id' hz hm=>by
              have h0:=List.all_eq_true.1 hgood.2 _ hz
              simp only [Bool.not_eq_true',List.any_eq_false] at h0
              rw [← hids] at hm
              simp only [idsOf,List.mem_map,List.mem_range] at hm
              obtain ⟨j,hj,rfl⟩:=hm
              exact h0 _ (asgOf_mem (hget j hj)) (by simp)
             have hand:∀ j b',hpT q0 j=some b'→∃ id',ids[j]?=some id'∧∃ b,s.st.H id'=some b∧(b'.lies=true→b.lies=true)∧∀ {S n o},BlkR w F μ K S n o b→BlkR w (fun b=>F b∨∃ id,id∈e2.fz∧s.st.H.live id∧ft id b) (fun j=>μ (rho ids s.N j)) (below ids.length) S n o b':=by
              intro j b' hb
              obtain ⟨B',hl,hv,rfl⟩:=hpT_some hb
              obtain ⟨j2,id2,B,k1,k2,k3,k3v,_,_,k5,k6⟩:=hH _ (lookH_mem hl)
              simp only [id] at k1
              subst k1
              have hj:j < c.bps.length:=by
               obtain ⟨i,hi,e⟩:=instBs_keys q1 _ (lookH_mem hl)
               simp only [id,Nat.zero_add] at e
               omega
              refine ⟨id2,?_,B.blk s.H,st_at k3 k3v,k5,fun {S n o} hB=>?_⟩
              ·rw [← hids]
               simp [idsOf,hj,k2]
              ·rw [hlen]
               exact k6 rd hB
             have hK:∀ id',id'∈ids→K id':=fun id' hm=>by
              have:=List.all_eq_true.1 hkn id' hm
              cases hl:lookH s.H id' with
              | none=>rw [hl] at this;cases this
              | some B=>rw [hl] at this;exact hsr.hr.known id' _ (st_at hl this)
             have hrun:=enter_ok (ids:=ids) (ld:=e2.fz) (N:=s.N) hcon hnd hand hsr hK hnew hld
              (by rw [hlen];exact a2 (rd.of bl) hargs) hnf
             refine hrun.mono ?_
             rintro en w' ⟨v,F',O',μ',ft',k1,k2,k3,k4⟩
             have e:GEnd.av (cond a.pan (GEnd.pan (v0.av qq)) (.ret (v0.av qq)))=v0.av qq:=by cases a.pan<;>rfl
             rw [e] at k2
             exact ⟨v,F',O',μ',ft',k1,k2,k3,k4⟩
            cases hp:a.pan with
            | false=>
             rw [hp] at h core
             refine .inl ⟨rr,⟨_,_,fun w F O μ K ft act hsr hn Kn Q hk=>?_,himp,hfst,hblk⟩,good,h⟩
             obtain ⟨cargs,hr1,hr2⟩:=ho hcon.2.1 hsr
             unfold Oper.wp
             rw [hr1,Oper.upon_enter]
             refine (core hsr hn cargs hr2).mono ?_
             rintro en w' ⟨v,F',O',μ',ft',rfl,k2,k3,k4⟩
             exact hk v w' F' O' μ' ft' k2 k3 k4
            | true=>
             rw [hp] at h core
             refine .inr ⟨rr,⟨_,_,fun w F O μ K ft act hsr hn Kn Q hk=>?_,himp,hfst,hblk⟩,good,h⟩
             obtain ⟨cargs,hr1,hr2⟩:=ho hcon.2.1 hsr
             unfold Oper.wp
             rw [hr1,Oper.upon_enter]
             refine (core hsr hn cargs hr2).mono ?_
             rintro en w' ⟨v,F',O',μ',ft',rfl,k2,k3,k4⟩
             exact hk v w' F' O' μ' ft' k2 k3 k4
           ·cases h
         ·cases h
       ·cases h
      ·cases h
    ·cases h
   ·cases h
  ·cases h
 ·cases h
end Go.Proofs.Ytljfmaaadnoggaa.Abs
