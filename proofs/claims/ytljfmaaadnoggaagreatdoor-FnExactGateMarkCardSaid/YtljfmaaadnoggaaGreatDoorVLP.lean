/- Rows whose parts are rows of the call's own, in the evaluator: told whole again; stores, rows that are made, literals. No condition. -/
import Derived.Test.YtljfmaaadnoggaaGreatDoorVLO
namespace Go.Proofs.YtljfmaaadnoggaaGreatDoor.cU
open Go Go.RowKit
variable {w w' vP:World} {F F' Am O O' ux:Nat→Prop} {μ bB jV:Nat→Nat} {K K' DQ:Nat→Prop} {ft b7:Nat→Nat→Prop} {P:Program} {R:Type}
def Hl:List Nat→Bool
 | []=>true
 | i::r=>!(r.any fun j=>Nat.beq i j)&&Hl r
theorem Au:∀ {l:List Nat},Hl l=true→l.Nodup
 | [],_=>List.nodup_nil
 | i::r,h=>by
  simp only [Hl,Bool.and_eq_true,Bool.not_eq_true',List.any_eq_false] at h
  exact List.nodup_cons.2 ⟨fun hm=>h.1 i hm (by simp),Au h.2⟩
def Av (H:List (Nat×aW)) (t:Ty) (M:Nat):Option cE:=match t with
 | .sl u=>match aR H M with
  | some (.row u' v ys)=>match v.b&&(v.d||u.flat) with
   | true=>if h:u'=u then some ⟨.sl u,h▸ys⟩ else none
   | false=>none
  | _=>none
 | _=>none
def Ta (H:List (Nat×aW)) (os:List (Nat×Nat)):Nat→List cE→Option (List cE)
 | _,[]=>some []
 | off,y::r=>match Ta H os (off+1) r with
  | some r'=>match su os off with
   | some M=>match Av H y.t M with
    | some y'=>some (y'::r')
    | none=>none
   | none=>some (y::r')
  | none=>none
def Wc (H:List (Nat×aW)) (os:List (Nat×Nat)) (t:Ty) (x:t.dn):t.dn:=match Ta H os 0 (dK t x) with
 | some ds=>match LY t ds with
  | some y=>y
  | none=>x
 | none=>x
def Ny (s:bK) (id:Nat):bK:=match aR s.H id with
 | some (.c5 t v xs i os)=>match v.d&&(Hl (os.map (·.1))&&(Hl (os.map (·.2))&&(os.all fun p=>p.1.blt (eR t)))) with
  | true=>match Ta s.H os 0 (dK t (nth t.df xs i)) with
   | some ds=>match LY t ds with
    | some _=>⟨s.nt,s.N,s.tm,cz s.H ((id,some (.row t v (bF xs i (Wc s.H os t))))::(os.map (·.2)).map fun i=>(i,none))⟩
    | none=>s
   | none=>s
  | false=>s
 | _=>s
def rK (s:bK):List Nat→bK
 | []=>s
 | i::r=>rK (Ny s i) r
theorem Lk {H:List (Nat×aW)} {t:Ty} {M:Nat} {y:cE} (h:Av H t M=some y):∃ (u:Ty) (v:RV) (ys:List u.dn),t=.sl u∧aR H M=some (.row u v ys)∧v.b=true∧(v.d||u.flat)=true∧y=⟨.sl u,ys⟩:=by
 unfold Av at h
 split at h
 ·rename_i u
  split at h
  ·rename_i u' v ys hM
   split at h
   ·rename_i hc
    simp only [Bool.and_eq_true] at hc
    split at h
    ·rename_i e
     subst e
     cases h
     exact ⟨_,v,ys,rfl,hM,hc.1,hc.2,rfl⟩
    ·cases h
   ·cases h
  ·cases h
 ·cases h
theorem Tb {H:List (Nat×aW)} {os:List (Nat×Nat)}:∀ {l:List cE} {off:Nat} {ds:List cE},Ta H os off l=some ds→ds.length=l.length∧∀ k (h:k < l.length) (h':k < ds.length),match su os (off+k) with
  | some M=>Av H l[k].t M=some ds[k]
  | none=>ds[k]=l[k]
 | [],off,ds,h=>by cases h;exact ⟨rfl,fun k h=>by cases h⟩
 | y::r,off,ds,h=>by
  simp only [Ta] at h
  split at h
  ·rename_i r' hr
   obtain ⟨h1,h2⟩:=Tb hr
   have tail:∀ (y':cE) k (hk:k+1 < (y::r).length) (FC:k+1 < (y'::r').length),match su os (off+(k+1)) with
     | some M=>Av H (y::r)[k+1].t M=some (y'::r')[k+1]
     | none=>(y'::r')[k+1]=(y::r)[k+1]:=fun y' k hk FC=>by
    have:=h2 k (by simpa using hk) (by simpa using FC)
    rw [show off+(k+1)=off+1+k by omega]
    simpa only [List.getElem_cons_succ] using this
   split at h
   ·rename_i M hM
    split at h
    ·rename_i y' hy
     cases h
     refine ⟨by simp [h1],fun k hk FC=>?_⟩
     cases k with
     | zero=>rw [Nat.add_zero,hM];exact hy
     | succ k=>exact tail y' k hk FC
    ·cases h
   ·rename_i hM
    cases h
    refine ⟨by simp [h1],fun k hk FC=>?_⟩
    cases k with
    | zero=>rw [Nat.add_zero,hM];rfl
    | succ k=>exact tail y k hk FC
  ·cases h
theorem L4 {i:Nat} {i' j':Nat}:∀ {L:List Hol} {e:Nat→Nat→AV},¬ (i'=i∧∃ p,p∈L∧p.j=j')→clE i L e i' j'=e i' j'
 | [],e,_=>rfl
 | p::r,e,h=>by
  simp only [clE]
  rw [L4 (L:=r) fun ⟨h1,q,h2,h3⟩=>h ⟨h1,q,by simp [h2],h3⟩]
  exact if_neg fun ⟨h1,h2⟩=>h ⟨h1,p,by simp,h2.symm⟩
theorem ZL {i:Nat}:∀ {L:List Hol} {e:Nat→Nat→AV} {p:Hol},p∈L→(L.map (·.j)).Nodup→clE i L e i p.j=.os p.aZ p.n p.e
 | [],e,p,h,_=>by cases h
 | q::r,e,p,h,hd=>by
  simp only [List.map_cons,List.nodup_cons] at hd
  simp only [clE]
  rcases List.mem_cons.1 h with rfl | h
  ·rw [L4 fun ⟨_,p',h2,h3⟩=>hd.1 (h3▸List.mem_map.2 ⟨p',h2,rfl⟩)]
   simp
  ·exact ZL h hd.2
theorem Nz {os:List (Nat×Nat)}:∀ {p:Nat×Nat},p∈os→(os.map (·.1)).Nodup→su os p.1=some p.2:=by
 induction os with
 | nil=>intro p h;cases h
 | cons q r ih=>
  intro p h hd
  simp only [List.map_cons,List.nodup_cons] at hd
  simp only [su]
  rcases List.mem_cons.1 h with rfl | h
  ·rw [Nat.beq_refl]
  ·have o8:¬ p.1=q.1:=fun e=>hd.1 (e▸List.mem_map.2 ⟨p,h,rfl⟩)
   rw [ca o8]
   exact ih h hd.2
theorem ZM {s:bK} {a:Act} (id:Nat) (ho:s.ok) (hs:SR w F O μ (below s.N) s.st ft a):(Ny s id).ok∧(Ny s id).N=s.N∧(Ny s id).nt=s.nt∧Sub s.H (Ny s id).H s.N∧∃ b7,SR w F O μ (below s.N) (Ny s id).st b7 a:=by
 have same:s.ok∧s.N=s.N∧s.nt=s.nt∧Sub s.H s.H s.N∧∃ b7,SR w F O μ (below s.N) s.st b7 a:=⟨ho,rfl,rfl,Sub.refl _ _,ft,hs⟩
 unfold Ny
 split
 ·rename_i t v xs i os hb
  split
  ·rename_i hc
   simp only [Bool.and_eq_true] at hc
   obtain ⟨hv,hn1,hn2,dL⟩:=hc
   have hn1:=Au hn1
   have hn2:=Au hn2
   split
   ·rename_i ds rR
    split
    ·rename_i e he
     obtain ⟨d1,d2⟩:=Tb rR
     have OS:Sto t.df xs i e (bF xs i (Wc s.H os t)):=Re (by simp only [Wc,rR,he])
     generalize bF xs i (Wc s.H os t)=ys at OS
     have htg:=eE t (nth t.df xs i)
     have part:∀ p,p∈os→∃ (u:Ty) (v':RV) (ys:List u.dn) (hk:p.1 < ds.length),aR s.H p.2=some (.row u v' ys)∧v'.b=true∧(v'.d||u.flat)=true∧ds[p.1]=⟨.sl u,ys⟩:=fun p hp=>by
      have h1:p.1 < eR t:=Nat.le_of_ble_eq_true (List.all_eq_true.1 dL p hp)
      have hk:p.1 < ds.length:=by omega
      have h2:=d2 p.1 (by omega) hk
      rw [Nat.zero_add,Nz hp hn1] at h2
      obtain ⟨u,v',ys,_,q2,q3,q4,q5⟩:=Lk h2
      exact ⟨u,v',ys,hk,q2,q3,q4,q5⟩
     let H2:List (Nat×aW):=cz s.H ((id,some (.row t v ys))::(os.map (·.2)).map fun i=>(i,none))
     have Tc:ys.length=xs.length:=OS.1
     have iV:Sub s.H H2 s.N:=y8 fun _=>by rw [hb];simp only [fj,Tc]
     have S4:=OS.2
     have abh:∀ p,p∈os→p.2≠id:=fun p hp h=>by
      obtain ⟨u,v',ys,_,q2,_⟩:=part p hp
      rw [h,hb] at q2;cases q2
     have Td:∀ i' j,i' < xs.length→i'≠i.toNat→bU v t ys i' j=bU v t xs i' j:=fun i' j c8 o8=>by
      simp only [bU,cy,S4 i' c8,if_neg o8]
     have cellsIn:∀ j,i.toNat < xs.length→j < eR t→∃ hj:j < ds.length,bU v t ys i.toNat j=(cK ds[j]).deep:=fun j hi hj=>by
      refine ⟨by omega,?_⟩
      simp only [bU,hv]
      rw [nC,S4 _ hi,if_pos rfl,ez he,List.getElem?_eq_getElem (show j < ds.length by omega)]
     have fin:∀ {bB:Nat→Nat} {b7:Nat→Nat→Prop},HR w F O μ (below s.N) (vS H2) b7→bK.ok ⟨s.nt,s.N,s.tm,H2⟩∧s.N=s.N∧s.nt=s.nt∧Sub s.H H2 s.N∧∃ b7,SR w F O μ (below s.N) (bK.st ⟨s.nt,s.N,s.tm,H2⟩) b7 a:=fun {bB b7} hr=>by
      refine ⟨⟨fun k=>(iX iV (Nat.le_refl _) _ (ho.tm k)).2,fun b9 b cd=>?_⟩,rfl,rfl,iV,b7,hr,hs.nt,fun k=>?_,hs.df⟩
      ·have cd:aR H2 b9=some b:=cd
       simp only [H2,cz,aR] at cd
       cases q:Nat.beq b9 id with
       | true=>rw [q] at cd;cases cd;simp only [aW.refs,gQ]
       | false=>
        rw [q] at cd
        rcases mL s.H b9 (os.map (·.2)) with ⟨_,x,k2⟩ | ⟨_,k2⟩
        ·rw [k2] at cd;cases cd;simp only [aW.refs,gQ]
        ·rw [k2] at cd;exact (g7 iV (Nat.le_refl _) _ (ho.H b9 _ cd)).2
      ·show VR w F μ _ ((look s.tm k).av H2) _
       rw [(iX iV (Nat.le_refl _) _ (ho.tm k)).1]
       exact hs.tm k
     have rest:∀ b9 b',vS H2 b9=some b'→b9≠id→b9 ∉ os.map (·.2)∧s.st.H b9=some b':=fun b9 b' cd o8=>by
      obtain ⟨B,hB,hBv,rfl⟩:=gP cd
      simp only [H2,cz,aR,ca o8] at hB
      rcases mL s.H b9 (os.map (·.2)) with ⟨_,x,k2⟩ | ⟨k1,k2⟩
      ·rw [k2] at hB;cases hB;cases hBv
      ·rw [k2] at hB
       refine ⟨k1,?_⟩
       rw [o_ iV (ho.H b9 _ hB)]
       exact dz hB hBv
     have ace:vS H2 id=some (.row v.b (eR t) xs.length (bU v t ys)):=by
      have:aR H2 id=some (.row t v ys):=by simp only [H2,cz,aR,Nat.beq_refl]
      rw [Kg this rfl];simp only [aW.di,Tc]
     by_cases hi:i.toNat < xs.length
     ·let L:List Hol:=os.map fun p=>match aR s.H p.2 with
       | some (.row u v' ys)=>⟨⟨p.1,eR u,ys.length,bU v' u ys⟩,p.2⟩
       | _=>⟨⟨p.1,0,0,fun _ _=>.top⟩,p.2⟩
      have hLj:L.map (·.j)=os.map (·.1):=by
       simp only [L,List.map_map]
       exact List.map_congr_left fun p hp=>by
        obtain ⟨u,v',ys,_,q2,_⟩:=part p hp
        simp only [Function.comp,q2]
      have hLM:L.map (·.M)=os.map (·.2):=by
       simp only [L,List.map_map]
       exact List.map_congr_left fun p hp=>by
        obtain ⟨u,v',ys,_,q2,_⟩:=part p hp
        simp only [Function.comp,q2]
      have hLp:∀ q,q∈L→∃ p,p∈os∧∃ (u:Ty) (v':RV) (ys:List u.dn) (hk:p.1 < ds.length),aR s.H p.2=some (.row u v' ys)∧v'.b=true∧(v'.d||u.flat)=true∧ds[p.1]=⟨.sl u,ys⟩∧q=⟨⟨p.1,eR u,ys.length,bU v' u ys⟩,p.2⟩:=fun q hq=>by
       obtain ⟨p,hp,rfl⟩:=List.mem_map.1 hq
       obtain ⟨u,v',ys,hk,q2,q3,q4,q5⟩:=part p hp
       exact ⟨p,hp,u,v',ys,hk,q2,q3,q4,q5,by rw [q2]⟩
      obtain ⟨b7,h1⟩:=Ni (i:=i.toNat) L hs.hr (dz hb) hi (fun q hq=>by
       obtain ⟨p,hp,u,v',ys,hk,q2,q3,q4,q5,rfl⟩:=hLp q hq
       refine ⟨Nat.le_of_ble_eq_true (List.all_eq_true.1 dL p hp),?_,?_⟩
       ·simp only [rF,if_true,Nz hp hn1,TA.av,q2,fj,q3]
       ·rw [dz q2];simp only [aW.di,q3]) (by rw [hLj];exact hn1) (by rw [hLM];exact hn2)
      rw [hLM] at h1
      refine fin (bB:=μ) (h1.imp fun b9 b' cd=>?_)
      by_cases q:b9=id
      ·subst q
       rw [ace] at cd
       cases cd
       refine ⟨_,if_pos rfl,SW fun i' j c8 hj=>?_⟩
       have key:clE i.toNat L (rF s.H v t xs i os) i' j=bU v t ys i' j:=by
        by_cases q:i'=i.toNat
        ·subst q
         obtain ⟨hjd,hc2⟩:=cellsIn j hi hj
         rw [hc2]
         have h2:=d2 j (by omega) hjd
         rw [Nat.zero_add] at h2
         cases hM:su os j with
         | none=>
          rw [hM] at h2
          rw [L4 fun ⟨_,q,hq,hqj⟩=>by
           obtain ⟨p,hp,u,v',ys,hk,q2,q3,q4,q5,rfl⟩:=hLp q hq
           have h7:=Nz hp hn1
           simp only at hqj
           rw [hqj,hM] at h7;cases h7]
          simp only [rF,if_true,hM]
          rw [h2]
          simp only [bU,hv]
          rw [nC,List.getElem?_eq_getElem (show j < (dK t (xs.getD i.toNat t.df)).length by rw [eE];exact hj)]
          rfl
         | some M=>
          have hp:=Kh hM
          obtain ⟨u,v',ys,hk,q2,q3,q4,q5⟩:=part (j,M) hp
          have Q2:(⟨⟨j,eR u,ys.length,bU v' u ys⟩,M⟩:Hol)∈L:=List.mem_map.2 ⟨(j,M),hp,by simp only [q2]⟩
          rw [show clE i.toNat L (rF s.H v t xs i os) i.toNat j=.os (eR u) ys.length (bU v' u ys) from ZL Q2 (by rw [hLj];exact hn1),q5]
          show AV.os _ _ _=AV.os _ _ fun i j=>(cy u ys i j).deep
          congr 1
          funext i' j'
          exact uA q4 ys i' j'
        ·rw [L4 fun h=>q h.1]
         simp only [rF,if_neg q]
         exact (Td i' j c8 q).symm
       exact ⟨key,cy t ys i' j,Br _ _ _ _,by rw [key];simp only [bU,hv]⟩
      ·obtain ⟨k1,k2⟩:=rest b9 b' cd q
       refine ⟨b',?_,eD.refl _⟩
       simp only [Hp.c7,if_neg q]
       rw [xM,if_neg k1]
       exact k2
     ·refine fin (bB:=μ) (hs.hr.imp fun b9 b' cd=>?_)
      by_cases q:b9=id
      ·subst q
       rw [ace] at cd
       cases cd
       refine ⟨_,dz hb,SW fun i' j c8 hj=>?_⟩
       have o8:i'≠i.toNat:=by omega
       have key:rF s.H v t xs i os i' j=bU v t ys i' j:=by
        simp only [rF,if_neg o8]
        exact (Td i' j c8 o8).symm
       exact ⟨key,cy t ys i' j,Br _ _ _ _,by rw [key];simp only [bU,hv]⟩
      ·obtain ⟨_,k2⟩:=rest b9 b' cd q
       exact ⟨b',k2,eD.refl _⟩
    ·exact same
   ·exact same
  ·exact same
 ·exact same
theorem IY {a:Act}:∀ (L:List Nat) {s:bK} {ft:Nat→Nat→Prop},s.ok→SR w F O μ (below s.N) s.st ft a→(rK s L).ok∧(rK s L).N=s.N∧(rK s L).nt=s.nt∧Sub s.H (rK s L).H s.N∧∃ b7,SR w F O μ (below s.N) (rK s L).st b7 a
 | [],s,ft,ho,hs=>⟨ho,rfl,rfl,Sub.refl _ _,ft,hs⟩
 | i::r,s,ft,ho,hs=>by
  obtain ⟨h1,h2,h3,h4,V2,h5⟩:=ZM i ho hs
  obtain ⟨k1,k2,k3,k4,Lg,k5⟩:=IY r h1 (by rw [h2];exact h5)
  refine ⟨k1,k2.trans h2,k3.trans h3,fun id bY=>(k4 id (by rw [h2];exact bY)).trans (h4 id bY),Lg,?_⟩
  rw [h2] at k5;exact k5
def y9:List (Nat×aW)→List Nat
 | []=>[]
 | (i,.c5 _ _ _ _ _)::r=>i::y9 r
 | _::r=>y9 r
def IZ (H:List (Nat×aW)) (t:Ty) (a:TA):Option (cE×List Nat):=match t with
 | .sl u=>match a with
  | .eQ=>some (⟨.sl u,[]⟩,[])
  | .ow M=>match Av H (.sl u) M with
   | some y=>some (y,[M])
   | none=>none
  | _=>none
 | t=>match sv t a with
  | some y=>some (y,[])
  | none=>none
def Ll (H:List (Nat×aW)):List Ty→List TA→Option (List cE×List Nat)
 | [],[]=>some ([],[])
 | t::ts,a::l=>match IZ H t a,Ll H ts l with
  | some (y,g),some (r,gs)=>some (y::r,g++gs)
  | _,_=>none
 | _,_=>none
theorem Hm {H:List (Nat×aW)} {t:Ty} {a:TA} (ht:t.LJ=false):IZ H t a=match sv t a with
  | some y=>some (y,[])
  | none=>none:=by
 cases t<;>first | rfl | cases ht
theorem ZN {s:bK} {t:Ty} {a:TA} {y:cE} {g:List Nat} (h:IZ s.H t a=some (y,g)):y.t=t∧UR s.st (a.av s.H) (cK y).deep g:=by
 cases ht:t.LJ with
 | false=>
  rw [Hm ht] at h
  split at h
  ·rename_i y' hy
   cases h
   obtain ⟨h1,h2,h3⟩:=gR hy
   refine ⟨h1,?_⟩
   rw [D0 (by rw [h1];exact ht)]
   exact .Iy _ _ (fun hv=>xS (Bv hy) hv) (fun hv=>IP h2 (h3 _ hv)) fun hv=>h3 _ hv
  ·cases h
 | true=>
  cases t with
  | sl u=>
   simp only [IZ] at h
   split at h
   ·cases h
    exact ⟨rfl,.eQ _ _⟩
   ·rename_i M
    split at h
    ·rename_i y' hy
     cases h
     obtain ⟨u',v,ys,q1,q2,q3,q4,rfl⟩:=Lk hy
     cases q1
     refine ⟨rfl,?_⟩
     have h1:(TA.ow M).av s.H=dd true M ys.length (eR u):=by simp only [TA.av,q2,fj,q3]
     rw [h1]
     refine .own M ys.length (eR u) _ ?_
     rw [dz q2]
     simp only [aW.di,q3]
     congr 2
     funext i j
     exact uA q4 ys i j
    ·cases h
   ·cases h
  | _=>cases ht
theorem NA {s:bK}:∀ {ts:List Ty} {l:List TA} {r:List cE} {gs:List Nat},Ll s.H ts l=some (r,gs)→r.length=l.length∧r.map (·.t)=ts∧(gs.Nodup→∃ g:Nat→List Nat,SX s.st (dJ s.H l) (fun k=>((r.map cK).getD k .top).deep) g∧∀ k,k < l.length→∀ id,id∈g k→id∈gs)
 | [],[],r,gs,h=>by cases h;exact ⟨rfl,rfl,fun _=>⟨fun _=>[],⟨fun k hk=>by simp [dJ] at hk,fun k k' id hk=>by simp [dJ] at hk⟩,fun k hk=>by cases hk⟩⟩
 | [],_::_,r,gs,h=>by cases h
 | _::_,[],r,gs,h=>by cases h
 | t::ts,a::l,r,gs,h=>by
  simp only [Ll] at h
  split at h
  ·rename_i y g r' gs' hy hr
   cases h
   obtain ⟨h1,h2⟩:=ZN hy
   obtain ⟨k1,k2,k3⟩:=NA hr
   refine ⟨by simp [k1],by simp [h1,k2],fun hd=>?_⟩
   obtain ⟨d1,d2,d3⟩:=List.nodup_append.1 hd
   obtain ⟨G,q1,q2⟩:=k3 d2
   have hlen:(dJ s.H l).length=l.length:=bE _ _
   refine ⟨fun k=>match k with | 0=>g | k+1=>G k,⟨fun k hk=>?_,fun k k' id hk FC hm Xy=>?_⟩,fun k hk id hm=>?_⟩
   ·cases k with
    | zero=>simpa only [dJ,List.getD_cons_zero,List.map_cons] using h2
    | succ k=>simpa only [dJ,List.getD_cons_succ,List.map_cons] using q1.aa2 k (by simpa [dJ] using hk)
   ·cases k with
    | zero=>
     cases k' with
     | zero=>rfl
     | succ k'=>exact absurd rfl (d3 id hm id (q2 k' (by simp [dJ,hlen] at FC;exact FC) id Xy))
    | succ k=>
     cases k' with
     | zero=>exact absurd rfl (d3 id Xy id (q2 k (by simp [dJ,hlen] at hk;exact hk) id hm))
     | succ k'=>rw [q1.dj k k' id (by simpa [dJ] using hk) (by simpa [dJ] using FC) hm Xy]
   ·cases k with
    | zero=>exact List.mem_append.2 (.inl hm)
    | succ k=>exact List.mem_append.2 (.inr (q2 k (by simpa using hk) id hm))
  ·cases h
theorem Te {o:Oper} {s:bK} {κ:cC→Option R} {z:R} {rv:AV} {v:TA} {p4 k:Nat} {b:aW} {B:ju} {L:List Nat} (hs:s.ok) (hk:κ ⟨v,(p4,some b)::L.map fun i=>(i,none),k⟩=some z) (h:db P o s.st ⟨rv,(p4,some B)::gx L,List.range' s.N k⟩)
  (iV:Sub s.H (cz s.H ((p4,some b)::L.map fun i=>(i,none))) s.N) (hv:gZ rv (v.av (cz s.H ((p4,some b)::L.map fun i=>(i,none))))) (hw:v.wf (cz s.H ((p4,some b)::L.map fun i=>(i,none))) (s.N+k))
  (hB:eD B (b.di (cz s.H ((p4,some b)::L.map fun i=>(i,none))))) (hr:b.refs=[]:=by rfl):we P o s κ z:=by
 refine ⟨⟨v,(p4,some b)::L.map fun i=>(i,none),k⟩,Q6 hs h iV hv hB,⟨iV,hw,fun id l hl=>?_⟩,hk⟩
 simp only [List.mem_cons,Prod.mk.injEq,Option.some.injEq,List.mem_map] at hl
 rcases hl with ⟨_,h⟩ | ⟨_,_,_,h⟩
 ·rw [h,hr];simp only [gQ]
 ·cases h
def NB (P:Program) (H:List (Nat×aW)) (t:TypeId) (x y:TA) (κ:cC→Option R):Option R:=
 match P.info? t,Bu H y,x with
 | some ti,some l,.rp id i off=>match aR H id with
  | some (.row u v xs)=>if Nat.beq l.length ti.size&&((off+l.length).ble (eR u)&&v.d) then (match Ll H (((FF u).drop off).take l.length) l with
   | some (ds,gs)=>if Hl gs&&!(gs.any fun j=>Nat.beq id j) then (match LY u (((dK u (nth u.df xs i)).take off)++(ds++(dK u (nth u.df xs i)).drop (off+l.length))) with
    | some e=>match Nat.beq l.length (eR u) with
     | true=>κ ⟨.lit undef,(id,some (.row u v (g8 xs i e)))::gs.map fun i=>(i,none),0⟩
     | false=>κ ⟨.lit undef,(id,some (.row u v (bF xs i (aa_ u off l.length ds))))::gs.map fun i=>(i,none),0⟩
    | none=>none) else none
   | none=>none) else none
  | _=>none
 | _,_,_=>none
theorem Tg {o:Oper} {s:bK} {κ:cC→Option R} {z:R} {x y:Operand} {t:TypeId} (ho:o.op=.store t x y) (hs:s.ok) (h:NB P s.H t (s.val x) (s.val y) κ=some z):we P o s κ z:=by
 unfold NB at h
 split at h
 ·rename_i ti l id i off hi hl hx
  obtain ⟨hc,_⟩:=xR hl (fX hs y)
  split at h
  ·rename_i u v xs hb
   split at h
   ·rename_i hcc
    simp only [Bool.and_eq_true] at hcc
    have fw:=Nat.eq_of_beq_eq_true hcc.1
    have hle:=Nat.le_of_ble_eq_true hcc.2.1
    have hv:=hcc.2.2
    split at h
    ·rename_i ds gs hg
     split at h
     ·rename_i AL
      simp only [Bool.and_eq_true,Bool.not_eq_true',List.any_eq_false] at AL
      split at h
      ·rename_i e he
       obtain ⟨ys,OS,h⟩:∃ ys,Sto u.df xs i e ys∧κ ⟨.lit undef,(id,some (.row u v ys))::gs.map fun i=>(i,none),0⟩=some z:=by
        split at h
        ·exact ⟨_,V9,h⟩
        ·exact ⟨_,Re (by simp only [aa_,he]),h⟩
       obtain ⟨d1,d2,d3⟩:=NA hg
       obtain ⟨g,g1,g2⟩:=d3 (Au AL.1)
       have hwx:=fX hs x
       rw [hx] at hwx
       simp only [TA.wf] at hwx
       have dL:=hwx.2 u v xs.length (by rw [hb];rfl)
       have h1:=@b8 s x _ hx
       simp only [TA.av,hb] at h1
       have hlen:=eE u (nth u.df xs i)
       have Tc:ys.length=xs.length:=OS.1
       have S4:=OS.2
       have hce:∀ j,cy u ys i.toNat j=((((dK u (nth u.df xs i)).take off)++(ds++(dK u (nth u.df xs i)).drop (off+l.length))).map cK).getD j .top:=fun j=>by
        simp only [cy]
        rw [S4 _ dL,if_pos rfl,← e_,ez he]
       have h7:((dK u (nth u.df xs i)).take off).length=off:=by simp [hlen];omega
       have mO:=OP (P:=P) (v:=v.b) (m:=xs.length) (e:=bU v u xs) (e':=bU v u ys) (g:=g) (L:=gs) ho hi h1 (fQ s y) hc (by rw [bE];exact fw) (dz hb) dL (by rw [bE];exact hle)
        (by
         have e5:(fun k=>bU v u ys i.toNat (off+k))=fun k=>(cy u ys i.toNat (off+k)).deep:=by funext k;simp only [bU,hv]
         rw [e5]
         refine ⟨fun k hk=>?_,g1.dj⟩
         have:=g1.aa2 k hk
         rw [hce]
         have FC:k < l.length:=by rw [bE] at hk;exact hk
         have h6:((((dK u (nth u.df xs i)).take off)++(ds++(dK u (nth u.df xs i)).drop (off+l.length))).map cK).getD (off+k) .top=(ds.map cK).getD k .top:=by
          simp only [List.getD,List.map_append]
          rw [List.getElem?_append_right (by simp only [List.length_map,h7];omega)]
          simp only [List.length_map,h7]
          rw [show off+k-off=k by omega,List.getElem?_append_left (by simp only [List.length_map];omega)]
         rw [h6]
         exact this)
        (fun k hk b9 OQ=>g2 k (by rw [bE] at hk;exact hk) b9 OQ) (fun hm=>AL.2 id hm (by simp))
        (fun i' j' c8 lu hn=>by
         rw [bE] at hn
         simp only [bU,hv]
         congr 1
         by_cases e1:i'=i.toNat
         ·subst e1
          rw [hce]
          have hxe:xs.getD i.toNat u.df=nth u.df xs i:=rfl
          simp only [cy]
          rw [hxe,← e_]
          simp only [List.getD,List.map_append]
          by_cases h8:j' < off
          ·rw [List.getElem?_append_left (by simp only [List.length_map,h7];exact h8)]
           simp [h8]
          ·have h9:off+l.length≤j':=by omega
           rw [List.getElem?_append_right (by simp only [List.length_map,h7];omega)]
           simp only [List.length_map,h7]
           rw [List.getElem?_append_right (by simp only [List.length_map];omega)]
           simp only [List.length_map,List.getElem?_map,List.getElem?_drop]
           congr 3;omega
         ·simp only [cy]
          rw [S4 _ c8,if_neg e1])
       refine Te (k:=0) hs h mO (y8 fun _=>by rw [hb];simp only [fj,Tc]) (by simp only [TA.av];exact gZ.refl _) (by simp only [TA.wf]) ?_
       simp only [aW.di,Tc]
       exact eD.refl _
      ·cases h
     ·cases h
    ·cases h
   ·cases h
  ·cases h
 ·cases h
theorem Th {H:List (Nat×aW)} {t:Ty} {a:TA} {y:cE} (h:IZ H t a=some (y,[])) {S:Nat→Prop} {u:Value} (hv:iW w F μ S (a.av H) u):iW w F μ S (cK y).deep u:=by
 cases ht:t.LJ with
 | false=>
  rw [Hm ht] at h
  split at h
  ·rename_i y' hy
   cases h
   obtain ⟨h1,h2,h3⟩:=gR hy
   rw [D0 (by rw [h1];exact ht)]
   have hno:(a.av H).Kc=false:=by
    unfold sv at hy
    split at hy
    ·simp only [TA.av];exact IQ
    ·simp only [TA.av];rfl
    ·cases hy
   obtain ⟨k1,k2⟩:=hv.closed hno
   exact .Iy _ _ _ (h3 H k1) k2
  ·cases h
 | true=>
  cases t with
  | sl u=>
   simp only [IZ] at h
   split at h
   ·cases h
    simp only [TA.av] at hv
    obtain ⟨k1,k2⟩:=hv.closed rfl
    rw [k1.oD]
    exact .Al _ _ _ _ k2
   ·split at h<;>cases h
   ·cases h
  | _=>cases ht
def NC:Operand→Operand→Bool
 | .tmp i,.tmp j=>Nat.beq i j
 | _,_=>false
theorem XI {x y:Operand} (h:NC x y=true):x=y:=by
 unfold NC at h
 split at h
 ·rw [Nat.eq_of_beq_eq_true h]
 ·cases h
def madeOf (c:Bool) (u:Ty):RV:=match c,u.flat with
 | true,true=>.vs
 | true,false=>.dv
 | false,true=>.ms
 | false,false=>.dm
theorem I0 (c:Bool) (u:Ty):(madeOf c u).b=c:=by unfold madeOf;cases c<;>cases u.flat<;>rfl
theorem Ti (c:Bool) (u:Ty):((madeOf c u).d||u.flat)=true:=by unfold madeOf;cases c<;>cases u.flat<;>rfl
def Ro (E:Env) (s:bK) (t:TypeId) (c0:Bool) (x y:TA) (κ:cC→Option R):Option R:=
 match x,y,E.P.underlying t with
 | .d ⟨.int .i64,l⟩,.d ⟨.int .i64,c⟩,some (.slice et)=>match E.P.info? et,D5 E.P et,Nk E.tc et with
  | some ti,some zs,some u=>if Nat.beq zs.length ti.size&&Nat.beq ti.size (eR u) then (match Ll s.H (FF u) zs with
   | some (ds,[])=>match LY u ds with
    | some e=>bC (Ej l c ti.bytes) (κ ⟨.ow s.N,[(s.N,some (.row u (madeOf c0 u) (List.replicate (Int.toNat l) e)))],1⟩)
    | none=>none
   | _=>none) else none
  | _,_,_=>none
 | _,_,_=>none
theorem PV {H:List (Nat×aW)}:∀ {ts:List Ty} {l:List TA} {r:List cE},Ll H ts l=some (r,[])→∀ k,k < l.length→∃ t y,IZ H t (l.getD k .top)=some (y,[])∧r[k]?=some y
 | [],[],r,h,k,hk=>by cases hk
 | [],_::_,r,h,_,_=>by cases h
 | _::_,[],r,h,_,_=>by cases h
 | t::ts,a::l,r,h,k,hk=>by
  simp only [Ll] at h
  split at h
  ·rename_i y g r' gs' hy hr
   simp only [Option.some.injEq,Prod.mk.injEq,List.append_eq_nil_iff] at h
   obtain ⟨rfl,rfl,rfl⟩:=h
   cases k with
   | zero=>exact ⟨t,y,hy,rfl⟩
   | succ k=>exact PV hr k (by simpa using hk)
  ·cases h
theorem ZO {H:List (Nat×aW)} {t:Ty} {a:TA} {y:cE} (h:IZ H t a=some (y,[])):PL (a.av H)∧One (a.av H):=by
 cases ht:t.LJ with
 | false=>
  rw [Hm ht] at h
  split at h
  ·rename_i y' hy
   obtain ⟨h1,h2,h3⟩:=gR hy
   exact ⟨xS (Bv hy),fun hv=>IP h2 (h3 H hv)⟩
  ·cases h
 | true=>
  cases t with
  | sl u=>
   simp only [IZ] at h
   split at h
   ·simp only [TA.av];exact ⟨fun hv=>by rw [hv.oD];exact .eQ,fun hv=>by rw [hv.oD];rfl⟩
   ·split at h<;>cases h
   ·cases h
  | _=>cases ht
theorem U7 {E:Env} {o:Oper} {s:bK} {κ:cC→Option R} {z:R} {x y:Operand} {t:TypeId} (ho:o.op=.makeSlice t x y) (hs:s.ok) (h:Ro E s t (NC x y) (s.val x) (s.val y) κ=some z):we E.P o s κ z:=by
 unfold Ro at h
 split at h
 ·rename_i l c et hx hy ht
  have h1:dT s.st x (.int .i64 l):=b8 hx
  have h2:dT s.st y (.int .i64 c):=b8 hy
  split at h
  ·rename_i ti zs u hi hz _
   split at h
   ·rename_i hc
    simp only [Bool.and_eq_true] at hc
    have e1:=Nat.eq_of_beq_eq_true hc.1
    have e2:=Nat.eq_of_beq_eq_true hc.2
    split at h
    ·rename_i ds rR
     split at h
     ·rename_i e he
      obtain ⟨q,h⟩:=gh h
      obtain ⟨q1,q2,q3,q4⟩:=UT q
      obtain ⟨z1,z2⟩:=rJ hz s.H s.N
      have hg:=PV rR
      have mC:∀ a,a∈dJ s.H zs→PL a∧One a:=fun a ha=>by
       rw [cR] at ha
       obtain ⟨b,hb,rfl⟩:=List.mem_map.1 ha
       obtain ⟨k,hk,rfl⟩:=List.getElem_of_mem hb
       obtain ⟨t',y',k1,_⟩:=hg k hk
       rw [getD_eq _ _ hk] at k1
       exact ZO k1
      have mO:=Q4 (NC x y) (fun hxy=>by
       have:=XI hxy
       subst this
       rw [hx] at hy
       simp only [TA.d.injEq,cE.mk.injEq,heq_eq_eq,true_and] at hy
       exact hy) (P:=E.P) (N:=s.N) (e:=fun _ j=>(dJ s.H zs).getD j .top) ho h1 h2 ht hi z1 (by rw [bE];exact e1) (fun a ha=>(mC a ha).1) (fun a ha=>(mC a ha).2) q1 q2 q3 q4 (fun i j c8 lu=>gZ.refl _)
      refine iO (k:=1) hs h mO nD ?_ (by simp only [TA.wf];omega) ?_ (fun l' e=>by cases e)
      ·simp only [TA.av,fj,rI,if_true,List.length_replicate,I0]
       rw [e2]
       exact gZ.refl _
      ·simp only [aW.di,List.length_replicate,I0]
       rw [e2]
       refine SV fun i j c8 lu {w F μ S u'} hv=>?_
       rw [uA (Ti _ u),nC]
       have:(List.replicate (Int.toNat l) e).getD i u.df=e:=by simp [List.getD,c8]
       rw [this,ez he]
       obtain ⟨t',y',k1,k2⟩:=hg j (by omega)
       rw [k2]
       rw [dy _ _ _ (by omega)] at hv
       exact Th k1 hv
     ·cases h
    ·cases h
   ·cases h
  ·cases h
 ·cases h
def Hn (E:Env) (s:bK) (t:TypeId) (n:Nat) (ps:List (Nat×Operand)) (κ:cC→Option R):Option R:=
 match E.P.underlying t with
 | some (.slice et)=>match E.P.info? et,D5 E.P et,Hk s ps,Nk E.tc et with
  | some ti,some zs,some q,some u=>match nS (fun i=>some (i*ti.size,ti.size)) ((List.range n).flatMap fun _=>zs) q with
   | some r=>if (((Nat.beq zs.length ti.size&&!Nat.beq ti.size 0)&&(n*ti.size).ble 16777216)&&Nat.beq r.length (n*ti.size))&&(Nat.beq n 1&&Nat.beq (eR u) ti.size) then (match Ll s.H (FF u) r with
    | some (ds,gs)=>match Hl gs,LY u ds with
     | true,some e=>κ ⟨.ow s.N,(s.N,some (.row u (madeOf false u) [e]))::gs.map fun i=>(i,none),1⟩
     | _,_=>none
    | none=>none) else none
   | none=>none
  | _,_,_,_=>none
 | _=>none
theorem OT {E:Env} {o:Oper} {s:bK} {κ:cC→Option R} {z:R} {t:TypeId} {n:Nat} {ps:List (Nat×Operand)} (ho:o.op=.buildSlice t n ⟨ps⟩) (hs:s.ok) (h:Hn E s t n ps κ=some z):we E.P o s κ z:=by
 unfold Hn at h
 split at h
 ·rename_i et ht
  split at h
  ·rename_i ti zs q u hi hz hq _
   split at h
   ·rename_i r hr
    split at h
    ·rename_i hb
     simp only [Bool.and_eq_true,Bool.not_eq_true'] at hb
     have e1:=Nat.eq_of_beq_eq_true hb.1.1.1.1
     have e2:=Nat.ne_of_beq_eq_false hb.1.1.1.2
     have e3:=Nat.le_of_ble_eq_true hb.1.1.2
     have e4:=Nat.eq_of_beq_eq_true hb.1.2
     have en:=Nat.eq_of_beq_eq_true hb.2.1
     have e6:=Nat.eq_of_beq_eq_true hb.2.2
     subst en
     split at h
     ·rename_i ds gs hg
      split at h
      ·rename_i e AL he
       obtain ⟨z1,z2⟩:=rJ hz s.H s.N
       obtain ⟨p1,p2⟩:=Ar hs hq
       have hf:=As (TA.av s.H) hr
       have e7:(q.map fun p=>(p.1,p.2.map (TA.av s.H)))=q.map fun p=>(p.1,dJ s.H p.2):=List.map_congr_left fun p _=>by rw [cR]
       have e5:((List.range 1).flatMap fun _=>zs).map (TA.av s.H)=(List.range 1).flatMap fun _=>dJ s.H zs:=by rw [List.map_flatMap,cR]
       rw [e7,e5,← cR] at hf
       obtain ⟨d1,d2,d3⟩:=NA hg
       obtain ⟨g,g1,g2⟩:=d3 (Au AL)
       rw [Nat.one_mul] at e4
       have mO:=Nj (P:=E.P) (N:=s.N) (e:=bU (madeOf false u) u [e]) (g:=g) (L:=gs) ho ht hi z1 (by rw [bE];exact e1) e2 e3 p1 hf (by
        refine ⟨fun k hk=>?_,g1.dj⟩
        have FC:k < ti.size:=by rw [bE] at hk;omega
        have:=g1.aa2 k hk
        rw [Nat.div_eq_of_lt FC,Nat.mod_eq_of_lt FC,uA (Ti _ u)]
        have h8:cy u [e] 0 k=(ds.map cK).getD k .top:=by
         simp only [cy,List.getD_cons_zero]
         rw [← e_,ez he]
        rw [h8];exact this) (fun k hk b9 OQ=>g2 k (by rw [bE] at hk;exact hk) b9 OQ)
       refine Te (k:=1) hs h mO (y8 fun h=>absurd h (by omega)) ?_ (by simp only [TA.wf];omega) ?_
       ·simp only [TA.av,cz,aR,Nat.beq_refl,fj,List.length_singleton,I0]
        rw [e6]
        exact gZ.refl _
       ·simp only [aW.di,List.length_singleton,I0]
        rw [e6]
        exact eD.refl _
      ·cases h
     ·cases h
    ·cases h
   ·cases h
  ·cases h
 ·cases h
end Go.Proofs.YtljfmaaadnoggaaGreatDoor.cU
