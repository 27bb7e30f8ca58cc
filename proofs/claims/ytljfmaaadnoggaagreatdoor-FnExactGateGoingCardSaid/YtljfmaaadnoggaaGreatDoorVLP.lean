/- Rows whose parts are rows of the call's own, in the evaluator: told whole again; stores, rows that are made, literals. No condition. -/
import Derived.Test.YtljfmaaadnoggaaGreatDoorVLO
namespace Go.Proofs.YtljfmaaadnoggaaGreatDoor.cX
open Go Go.RowKit
variable {w w' xW:World} {F F' Cq O O' wx:Nat→Prop} {μ bC kZ:Nat→Nat} {K K' Gg:Nat→Prop} {ft b8:Nat→Nat→Prop} {P:Program} {R:Type}
def JL:List Nat→Bool
 | []=>true
 | i::r=>!(r.any fun j=>Nat.beq i j)&&JL r
theorem Cy:∀ {l:List Nat},JL l=true→l.Nodup
 | [],_=>List.nodup_nil
 | i::r,h=>by
  simp only [JL,Bool.and_eq_true,Bool.not_eq_true',List.any_eq_false] at h
  exact List.nodup_cons.2 ⟨fun hm=>h.1 i hm (by simp),Cy h.2⟩
def Cz (H:List (Nat×aY)) (t:Ty) (M:Nat):Option cI:=match t with
 | .sl u=>match aR H M with
  | some (.row u' v ys)=>match v.b&&(v.d||u.flat) with
   | true=>if h:u'=u then some ⟨.sl u,h▸ys⟩ else none
   | false=>none
  | _=>none
 | _=>none
def V7 (H:List (Nat×aY)) (os:List (Nat×Nat)):Nat→List cI→Option (List cI)
 | _,[]=>some []
 | off,y::r=>match V7 H os (off+1) r with
  | some r'=>match uh os off with
   | some M=>match Cz H y.t M with
    | some y'=>some (y'::r')
    | none=>none
   | none=>some (y::r')
  | none=>none
def Zn (H:List (Nat×aY)) (os:List (Nat×Nat)) (t:Ty) (x:t.dn):t.dn:=match V7 H os 0 (dV t x) with
 | some ds=>match Ok t ds with
  | some y=>y
  | none=>x
 | none=>x
def Qa (s:bQ) (id:Nat):bQ:=match aR s.H id with
 | some (.da t v xs i os)=>match v.d&&(JL (os.map (·.1))&&(JL (os.map (·.2))&&(os.all fun p=>p.1.blt (fg t)))) with
  | true=>match V7 s.H os 0 (dV t (nth t.df xs i)) with
   | some ds=>match Ok t ds with
    | some _=>⟨s.nt,s.N,s.tm,cD s.H ((id,some (.row t v (bJ xs i (Zn s.H os t))))::(os.map (·.2)).map fun i=>(i,none))⟩
    | none=>s
   | none=>s
  | false=>s
 | _=>s
def tv (s:bQ):List Nat→bQ
 | []=>s
 | i::r=>tv (Qa s i) r
theorem NC {H:List (Nat×aY)} {t:Ty} {M:Nat} {y:cI} (h:Cz H t M=some y):∃ (u:Ty) (v:RV) (ys:List u.dn),t=.sl u∧aR H M=some (.row u v ys)∧v.b=true∧(v.d||u.flat)=true∧y=⟨.sl u,ys⟩:=by
 unfold Cz at h
 split at h
 ·rename_i u
  split at h
  ·rename_i u' v ys hM
   split at h
   ·rename_i hc
    simp only [Bool.and_eq_true] at hc
    split at h
    ·rename_i e
     subst e
     cases h
     exact ⟨_,v,ys,rfl,hM,hc.1,hc.2,rfl⟩
    ·cases h
   ·cases h
  ·cases h
 ·cases h
theorem V8 {H:List (Nat×aY)} {os:List (Nat×Nat)}:∀ {l:List cI} {off:Nat} {ds:List cI},V7 H os off l=some ds→ds.length=l.length∧∀ k (h:k < l.length) (h':k < ds.length),match uh os (off+k) with
  | some M=>Cz H l[k].t M=some ds[k]
  | none=>ds[k]=l[k]
 | [],off,ds,h=>by cases h;exact ⟨rfl,fun k h=>by cases h⟩
 | y::r,off,ds,h=>by
  simp only [V7] at h
  split at h
  ·rename_i r' hr
   obtain ⟨h1,h2⟩:=V8 hr
   have tail:∀ (y':cI) k (hk:k+1 < (y::r).length) (Ia:k+1 < (y'::r').length),match uh os (off+(k+1)) with
     | some M=>Cz H (y::r)[k+1].t M=some (y'::r')[k+1]
     | none=>(y'::r')[k+1]=(y::r)[k+1]:=fun y' k hk Ia=>by
    have:=h2 k (by simpa using hk) (by simpa using Ia)
    rw [show off+(k+1)=off+1+k by omega]
    simpa only [List.getElem_cons_succ] using this
   split at h
   ·rename_i M hM
    split at h
    ·rename_i y' hy
     cases h
     refine ⟨by simp [h1],fun k hk Ia=>?_⟩
     cases k with
     | zero=>rw [Nat.add_zero,hM];exact hy
     | succ k=>exact tail y' k hk Ia
    ·cases h
   ·rename_i hM
    cases h
    refine ⟨by simp [h1],fun k hk Ia=>?_⟩
    cases k with
    | zero=>rw [Nat.add_zero,hM];rfl
    | succ k=>exact tail y k hk Ia
  ·cases h
theorem Ou {i:Nat} {i' j':Nat}:∀ {L:List Hol} {e:Nat→Nat→AV},¬ (i'=i∧∃ p,p∈L∧p.j=j')→clE i L e i' j'=e i' j'
 | [],e,_=>rfl
 | p::r,e,h=>by
  simp only [clE]
  rw [Ou (L:=r) fun ⟨h1,q,h2,h3⟩=>h ⟨h1,q,by simp [h2],h3⟩]
  exact if_neg fun ⟨h1,h2⟩=>h ⟨h1,p,by simp,h2.symm⟩
theorem acE {i:Nat}:∀ {L:List Hol} {e:Nat→Nat→AV} {p:Hol},p∈L→(L.map (·.j)).Nodup→clE i L e i p.j=.os p.bB p.n p.e
 | [],e,p,h,_=>by cases h
 | q::r,e,p,h,hd=>by
  simp only [List.map_cons,List.nodup_cons] at hd
  simp only [clE]
  rcases List.mem_cons.1 h with rfl | h
  ·rw [Ou fun ⟨_,p',h2,h3⟩=>hd.1 (h3▸List.mem_map.2 ⟨p',h2,rfl⟩)]
   simp
  ·exact acE h hd.2
theorem Qb {os:List (Nat×Nat)}:∀ {p:Nat×Nat},p∈os→(os.map (·.1)).Nodup→uh os p.1=some p.2:=by
 induction os with
 | nil=>intro p h;cases h
 | cons q r ih=>
  intro p h hd
  simp only [List.map_cons,List.nodup_cons] at hd
  simp only [uh]
  rcases List.mem_cons.1 h with rfl | h
  ·rw [Nat.beq_refl]
  ·have pw:¬ p.1=q.1:=fun e=>hd.1 (e▸List.mem_map.2 ⟨p,h,rfl⟩)
   rw [cl pw]
   exact ih h hd.2
theorem acF {s:bQ} {a:Act} (id:Nat) (ho:s.ok) (hs:SR w F O μ (below s.N) s.st ft a):(Qa s id).ok∧(Qa s id).N=s.N∧(Qa s id).nt=s.nt∧Sub s.H (Qa s id).H s.N∧∃ b8,SR w F O μ (below s.N) (Qa s id).st b8 a:=by
 have same:s.ok∧s.N=s.N∧s.nt=s.nt∧Sub s.H s.H s.N∧∃ b8,SR w F O μ (below s.N) s.st b8 a:=⟨ho,rfl,rfl,Sub.refl _ _,ft,hs⟩
 unfold Qa
 split
 ·rename_i t v xs i os hb
  split
  ·rename_i hc
   simp only [Bool.and_eq_true] at hc
   obtain ⟨hv,hn1,hn2,dQ⟩:=hc
   have hn1:=Cy hn1
   have hn2:=Cy hn2
   split
   ·rename_i ds tC
    split
    ·rename_i e he
     obtain ⟨d1,d2⟩:=V8 tC
     have Rq:Sto t.df xs i e (bJ xs i (Zn s.H os t)):=T7 (by simp only [Zn,tC,he])
     generalize bJ xs i (Zn s.H os t)=ys at Rq
     have htg:=e9 t (nth t.df xs i)
     have part:∀ p,p∈os→∃ (u:Ty) (v':RV) (ys:List u.dn) (hk:p.1 < ds.length),aR s.H p.2=some (.row u v' ys)∧v'.b=true∧(v'.d||u.flat)=true∧ds[p.1]=⟨.sl u,ys⟩:=fun p hp=>by
      have h1:p.1 < fg t:=Nat.le_of_ble_eq_true (List.all_eq_true.1 dQ p hp)
      have hk:p.1 < ds.length:=by omega
      have h2:=d2 p.1 (by omega) hk
      rw [Nat.zero_add,Qb hp hn1] at h2
      obtain ⟨u,v',ys,_,q2,q3,q4,q5⟩:=NC h2
      exact ⟨u,v',ys,hk,q2,q3,q4,q5⟩
     let H2:List (Nat×aY):=cD s.H ((id,some (.row t v ys))::(os.map (·.2)).map fun i=>(i,none))
     have V9:ys.length=xs.length:=Rq.1
     have jM:Sub s.H H2 s.N:=A8 fun _=>by rw [hb];simp only [fM,V9]
     have V2:=Rq.2
     have ad_:∀ p,p∈os→p.2≠id:=fun p hp h=>by
      obtain ⟨u,v',ys,_,q2,_⟩:=part p hp
      rw [h,hb] at q2;cases q2
     have V_:∀ i' j,i' < xs.length→i'≠i.toNat→bY v t ys i' j=bY v t xs i' j:=fun i' j c9 pw=>by
      simp only [bY,cC,V2 i' c9,if_neg pw]
     have cellsIn:∀ j,i.toNat < xs.length→j < fg t→∃ hj:j < ds.length,bY v t ys i.toNat j=(cN ds[j]).deep:=fun j hi hj=>by
      refine ⟨by omega,?_⟩
      simp only [bY,hv]
      rw [oT,V2 _ hi,if_pos rfl,eU he,List.getElem?_eq_getElem (show j < ds.length by omega)]
     have fin:∀ {bC:Nat→Nat} {b8:Nat→Nat→Prop},HR w F O μ (below s.N) (xX H2) b8→bQ.ok ⟨s.nt,s.N,s.tm,H2⟩∧s.N=s.N∧s.nt=s.nt∧Sub s.H H2 s.N∧∃ b8,SR w F O μ (below s.N) (bQ.st ⟨s.nt,s.N,s.tm,H2⟩) b8 a:=fun {bC b8} hr=>by
      refine ⟨⟨fun k=>(jQ jM (Nat.le_refl _) _ (ho.tm k)).2,fun cg b cu=>?_⟩,rfl,rfl,jM,b8,hr,hs.nt,fun k=>?_,hs.df⟩
      ·have cu:aR H2 cg=some b:=cu
       simp only [H2,cD,aR] at cu
       cases q:Nat.beq cg id with
       | true=>rw [q] at cu;cases cu;simp only [aY.refs,iw]
       | false=>
        rw [q] at cu
        rcases n_ s.H cg (os.map (·.2)) with ⟨_,x,k2⟩ | ⟨_,k2⟩
        ·rw [k2] at cu;cases cu;simp only [aY.refs,iw]
        ·rw [k2] at cu;exact (iK jM (Nat.le_refl _) _ (ho.H cg _ cu)).2
      ·show VR w F μ _ ((look s.tm k).av H2) _
       rw [(jQ jM (Nat.le_refl _) _ (ho.tm k)).1]
       exact hs.tm k
     have rest:∀ cg b',xX H2 cg=some b'→cg≠id→cg ∉ os.map (·.2)∧s.st.H cg=some b':=fun cg b' cu pw=>by
      obtain ⟨B,hB,hBv,rfl⟩:=iv cu
      simp only [H2,cD,aR,cl pw] at hB
      rcases n_ s.H cg (os.map (·.2)) with ⟨_,x,k2⟩ | ⟨k1,k2⟩
      ·rw [k2] at hB;cases hB;cases hBv
      ·rw [k2] at hB
       refine ⟨k1,?_⟩
       rw [qy jM (ho.H cg _ hB)]
       exact dz hB hBv
     have ae6:xX H2 id=some (.row v.b (fg t) xs.length (bY v t ys)):=by
      have:aR H2 id=some (.row t v ys):=by simp only [H2,cD,aR,Nat.beq_refl]
      rw [MC this rfl];simp only [aY.dw,V9]
     by_cases hi:i.toNat < xs.length
     ·let L:List Hol:=os.map fun p=>match aR s.H p.2 with
       | some (.row u v' ys)=>⟨⟨p.1,fg u,ys.length,bY v' u ys⟩,p.2⟩
       | _=>⟨⟨p.1,0,0,fun _ _=>.top⟩,p.2⟩
      have hLj:L.map (·.j)=os.map (·.1):=by
       simp only [L,List.map_map]
       exact List.map_congr_left fun p hp=>by
        obtain ⟨u,v',ys,_,q2,_⟩:=part p hp
        simp only [Function.comp,q2]
      have hLM:L.map (·.M)=os.map (·.2):=by
       simp only [L,List.map_map]
       exact List.map_congr_left fun p hp=>by
        obtain ⟨u,v',ys,_,q2,_⟩:=part p hp
        simp only [Function.comp,q2]
      have hLp:∀ q,q∈L→∃ p,p∈os∧∃ (u:Ty) (v':RV) (ys:List u.dn) (hk:p.1 < ds.length),aR s.H p.2=some (.row u v' ys)∧v'.b=true∧(v'.d||u.flat)=true∧ds[p.1]=⟨.sl u,ys⟩∧q=⟨⟨p.1,fg u,ys.length,bY v' u ys⟩,p.2⟩:=fun q hq=>by
       obtain ⟨p,hp,rfl⟩:=List.mem_map.1 hq
       obtain ⟨u,v',ys,hk,q2,q3,q4,q5⟩:=part p hp
       exact ⟨p,hp,u,v',ys,hk,q2,q3,q4,q5,by rw [q2]⟩
      obtain ⟨b8,h1⟩:=PV (i:=i.toNat) L hs.hr (dz hb) hi (fun q hq=>by
       obtain ⟨p,hp,u,v',ys,hk,q2,q3,q4,q5,rfl⟩:=hLp q hq
       refine ⟨Nat.le_of_ble_eq_true (List.all_eq_true.1 dQ p hp),?_,?_⟩
       ·simp only [tp,if_true,Qb hp hn1,TA.av,q2,fM,q3]
       ·rw [dz q2];simp only [aY.dw,q3]) (by rw [hLj];exact hn1) (by rw [hLM];exact hn2)
      rw [hLM] at h1
      refine fin (bC:=μ) (h1.imp fun cg b' cu=>?_)
      by_cases q:cg=id
      ·subst q
       rw [ae6] at cu
       cases cu
       refine ⟨_,if_pos rfl,VW fun i' j c9 hj=>?_⟩
       have key:clE i.toNat L (tp s.H v t xs i os) i' j=bY v t ys i' j:=by
        by_cases q:i'=i.toNat
        ·subst q
         obtain ⟨hjd,hc2⟩:=cellsIn j hi hj
         rw [hc2]
         have h2:=d2 j (by omega) hjd
         rw [Nat.zero_add] at h2
         cases hM:uh os j with
         | none=>
          rw [hM] at h2
          rw [Ou fun ⟨_,q,hq,hqj⟩=>by
           obtain ⟨p,hp,u,v',ys,hk,q2,q3,q4,q5,rfl⟩:=hLp q hq
           have h7:=Qb hp hn1
           simp only at hqj
           rw [hqj,hM] at h7;cases h7]
          simp only [tp,if_true,hM]
          rw [h2]
          simp only [bY,hv]
          rw [oT,List.getElem?_eq_getElem (show j < (dV t (xs.getD i.toNat t.df)).length by rw [e9];exact hj)]
          rfl
         | some M=>
          have hp:=MD hM
          obtain ⟨u,v',ys,hk,q2,q3,q4,q5⟩:=part (j,M) hp
          have TT:(⟨⟨j,fg u,ys.length,bY v' u ys⟩,M⟩:Hol)∈L:=List.mem_map.2 ⟨(j,M),hp,by simp only [q2]⟩
          rw [show clE i.toNat L (tp s.H v t xs i os) i.toNat j=.os (fg u) ys.length (bY v' u ys) from acE TT (by rw [hLj];exact hn1),q5]
          show AV.os _ _ _=AV.os _ _ fun i j=>(cC u ys i j).deep
          congr 1
          funext i' j'
          exact wA q4 ys i' j'
        ·rw [Ou fun h=>q h.1]
         simp only [tp,if_neg q]
         exact (V_ i' j c9 q).symm
       exact ⟨key,cC t ys i' j,Dy _ _ _ _,by rw [key];simp only [bY,hv]⟩
      ·obtain ⟨k1,k2⟩:=rest cg b' cu q
       refine ⟨b',?_,eV.refl _⟩
       simp only [Hp.c_,if_neg q]
       rw [zT,if_neg k1]
       exact k2
     ·refine fin (bC:=μ) (hs.hr.imp fun cg b' cu=>?_)
      by_cases q:cg=id
      ·subst q
       rw [ae6] at cu
       cases cu
       refine ⟨_,dz hb,VW fun i' j c9 hj=>?_⟩
       have pw:i'≠i.toNat:=by omega
       have key:tp s.H v t xs i os i' j=bY v t ys i' j:=by
        simp only [tp,if_neg pw]
        exact (V_ i' j c9 pw).symm
       exact ⟨key,cC t ys i' j,Dy _ _ _ _,by rw [key];simp only [bY,hv]⟩
      ·obtain ⟨_,k2⟩:=rest cg b' cu q
       exact ⟨b',k2,eV.refl _⟩
    ·exact same
   ·exact same
  ·exact same
 ·exact same
theorem Lg {a:Act}:∀ (L:List Nat) {s:bQ} {ft:Nat→Nat→Prop},s.ok→SR w F O μ (below s.N) s.st ft a→(tv s L).ok∧(tv s L).N=s.N∧(tv s L).nt=s.nt∧Sub s.H (tv s L).H s.N∧∃ b8,SR w F O μ (below s.N) (tv s L).st b8 a
 | [],s,ft,ho,hs=>⟨ho,rfl,rfl,Sub.refl _ _,ft,hs⟩
 | i::r,s,ft,ho,hs=>by
  obtain ⟨h1,h2,h3,h4,Zc,h5⟩:=acF i ho hs
  obtain ⟨k1,k2,k3,k4,Nz,k5⟩:=Lg r h1 (by rw [h2];exact h5)
  refine ⟨k1,k2.trans h2,k3.trans h3,fun id cb=>(k4 id (by rw [h2];exact cb)).trans (h4 id cb),Nz,?_⟩
  rw [h2] at k5;exact k5
def A9:List (Nat×aY)→List Nat
 | []=>[]
 | (i,.da _ _ _ _ _)::r=>i::A9 r
 | _::r=>A9 r
def Lh (H:List (Nat×aY)) (t:Ty) (a:TA):Option (cI×List Nat):=match t with
 | .sl u=>match a with
  | .ff=>some (⟨.sl u,[]⟩,[])
  | .ow M=>match Cz H (.sl u) M with
   | some y=>some (y,[M])
   | none=>none
  | _=>none
 | t=>match ui t a with
  | some y=>some (y,[])
  | none=>none
def ND (H:List (Nat×aY)):List Ty→List TA→Option (List cI×List Nat)
 | [],[]=>some ([],[])
 | t::ts,a::l=>match Lh H t a,ND H ts l with
  | some (y,g),some (r,gs)=>some (y::r,g++gs)
  | _,_=>none
 | _,_=>none
theorem JM {H:List (Nat×aY)} {t:Ty} {a:TA} (ht:t.N3=false):Lh H t a=match ui t a with
  | some y=>some (y,[])
  | none=>none:=by
 cases t<;>first | rfl | cases ht
theorem acG {s:bQ} {t:Ty} {a:TA} {y:cI} {g:List Nat} (h:Lh s.H t a=some (y,g)):y.t=t∧XR s.st (a.av s.H) (cN y).deep g:=by
 cases ht:t.N3 with
 | false=>
  rw [JM ht] at h
  split at h
  ·rename_i y' hy
   cases h
   obtain ⟨h1,h2,h3⟩:=ix hy
   refine ⟨h1,?_⟩
   rw [Gs (by rw [h1];exact ht)]
   exact .KR _ _ (fun hv=>zZ (DC hy) hv) (fun hv=>K_ h2 (h3 _ hv)) fun hv=>h3 _ hv
  ·cases h
 | true=>
  cases t with
  | sl u=>
   simp only [Lh] at h
   split at h
   ·cases h
    exact ⟨rfl,.ff _ _⟩
   ·rename_i M
    split at h
    ·rename_i y' hy
     cases h
     obtain ⟨u',v,ys,q1,q2,q3,q4,rfl⟩:=NC hy
     cases q1
     refine ⟨rfl,?_⟩
     have h1:(TA.ow M).av s.H=dr true M ys.length (fg u):=by simp only [TA.av,q2,fM,q3]
     rw [h1]
     refine .own M ys.length (fg u) _ ?_
     rw [dz q2]
     simp only [aY.dw,q3]
     congr 2
     funext i j
     exact wA q4 ys i j
    ·cases h
   ·cases h
  | _=>cases ht
theorem Qc {s:bQ}:∀ {ts:List Ty} {l:List TA} {r:List cI} {gs:List Nat},ND s.H ts l=some (r,gs)→r.length=l.length∧r.map (·.t)=ts∧(gs.Nodup→∃ g:Nat→List Nat,VX s.st (dU s.H l) (fun k=>((r.map cN).getD k .top).deep) g∧∀ k,k < l.length→∀ id,id∈g k→id∈gs)
 | [],[],r,gs,h=>by cases h;exact ⟨rfl,rfl,fun _=>⟨fun _=>[],⟨fun k hk=>by simp [dU] at hk,fun k k' id hk=>by simp [dU] at hk⟩,fun k hk=>by cases hk⟩⟩
 | [],_::_,r,gs,h=>by cases h
 | _::_,[],r,gs,h=>by cases h
 | t::ts,a::l,r,gs,h=>by
  simp only [ND] at h
  split at h
  ·rename_i y g r' gs' hy hr
   cases h
   obtain ⟨h1,h2⟩:=acG hy
   obtain ⟨k1,k2,k3⟩:=Qc hr
   refine ⟨by simp [k1],by simp [h1,k2],fun hd=>?_⟩
   obtain ⟨d1,d2,d3⟩:=List.nodup_append.1 hd
   obtain ⟨G,q1,q2⟩:=k3 d2
   have hlen:(dU s.H l).length=l.length:=bI _ _
   refine ⟨fun k=>match k with | 0=>g | k+1=>G k,⟨fun k hk=>?_,fun k k' id hk Ia hm hm'=>?_⟩,fun k hk id hm=>?_⟩
   ·cases k with
    | zero=>simpa only [dU,List.getD_cons_zero,List.map_cons] using h2
    | succ k=>simpa only [dU,List.getD_cons_succ,List.map_cons] using q1.adU k (by simpa [dU] using hk)
   ·cases k with
    | zero=>
     cases k' with
     | zero=>rfl
     | succ k'=>exact absurd rfl (d3 id hm id (q2 k' (by simp [dU,hlen] at Ia;exact Ia) id hm'))
    | succ k=>
     cases k' with
     | zero=>exact absurd rfl (d3 id hm' id (q2 k (by simp [dU,hlen] at hk;exact hk) id hm))
     | succ k'=>rw [q1.dj k k' id (by simpa [dU] using hk) (by simpa [dU] using Ia) hm hm']
   ·cases k with
    | zero=>exact List.mem_append.2 (.inl hm)
    | succ k=>exact List.mem_append.2 (.inr (q2 k (by simpa using hk) id hm))
  ·cases h
theorem Wa {o:Oper} {s:bQ} {κ:cE→Option R} {z:R} {rv:AV} {v:TA} {rJ k:Nat} {b:aY} {B:kq} {L:List Nat} (hs:s.ok) (hk:κ ⟨v,(rJ,some b)::L.map fun i=>(i,none),k⟩=some z) (h:de P o s.st ⟨rv,(rJ,some B)::gX L,List.range' s.N k⟩)
  (jM:Sub s.H (cD s.H ((rJ,some b)::L.map fun i=>(i,none))) s.N) (hv:iu rv (v.av (cD s.H ((rJ,some b)::L.map fun i=>(i,none))))) (hw:v.wf (cD s.H ((rJ,some b)::L.map fun i=>(i,none))) (s.N+k))
  (hB:eV B (b.dw (cD s.H ((rJ,some b)::L.map fun i=>(i,none))))) (hr:b.refs=[]:=by rfl):xY P o s κ z:=by
 refine ⟨⟨v,(rJ,some b)::L.map fun i=>(i,none),k⟩,TX hs h jM hv hB,⟨jM,hw,fun id l hl=>?_⟩,hk⟩
 simp only [List.mem_cons,Prod.mk.injEq,Option.some.injEq,List.mem_map] at hl
 rcases hl with ⟨_,h⟩ | ⟨_,_,_,h⟩
 ·rw [h,hr];simp only [iw]
 ·cases h
def Qd (P:Program) (H:List (Nat×aY)) (t:TypeId) (x y:TA) (κ:cE→Option R):Option R:=
 match P.info? t,DB H y,x with
 | some ti,some l,.rp id i off=>match aR H id with
  | some (.row u v xs)=>if Nat.beq l.length ti.size&&((off+l.length).ble (fg u)&&v.d) then (match ND H (((Ie u).drop off).take l.length) l with
   | some (ds,gs)=>if JL gs&&!(gs.any fun j=>Nat.beq id j) then (match Ok u (((dV u (nth u.df xs i)).take off)++(ds++(dV u (nth u.df xs i)).drop (off+l.length))) with
    | some e=>match Nat.beq l.length (fg u) with
     | true=>κ ⟨.lit undef,(id,some (.row u v (gK xs i e)))::gs.map fun i=>(i,none),0⟩
     | false=>κ ⟨.lit undef,(id,some (.row u v (bJ xs i (ad2 u off l.length ds))))::gs.map fun i=>(i,none),0⟩
    | none=>none) else none
   | none=>none) else none
  | _=>none
 | _,_,_=>none
theorem Wb {o:Oper} {s:bQ} {κ:cE→Option R} {z:R} {x y:Operand} {t:TypeId} (ho:o.op=.store t x y) (hs:s.ok) (h:Qd P s.H t (s.val x) (s.val y) κ=some z):xY P o s κ z:=by
 unfold Qd at h
 split at h
 ·rename_i ti l id i off hi hl hx
  obtain ⟨hc,_⟩:=zY hl (gy hs y)
  split at h
  ·rename_i u v xs hb
   split at h
   ·rename_i hcc
    simp only [Bool.and_eq_true] at hcc
    have fL:=Nat.eq_of_beq_eq_true hcc.1
    have hle:=Nat.le_of_ble_eq_true hcc.2.1
    have hv:=hcc.2.2
    split at h
    ·rename_i ds gs hg
     split at h
     ·rename_i Ck
      simp only [Bool.and_eq_true,Bool.not_eq_true',List.any_eq_false] at Ck
      split at h
      ·rename_i e he
       obtain ⟨ys,Rq,h⟩:∃ ys,Sto u.df xs i e ys∧κ ⟨.lit undef,(id,some (.row u v ys))::gs.map fun i=>(i,none),0⟩=some z:=by
        split at h
        ·exact ⟨_,Zj,h⟩
        ·exact ⟨_,T7 (by simp only [ad2,he]),h⟩
       obtain ⟨d1,d2,d3⟩:=Qc hg
       obtain ⟨g,g1,g2⟩:=d3 (Cy Ck.1)
       have hwx:=gy hs x
       rw [hx] at hwx
       simp only [TA.wf] at hwx
       have dQ:=hwx.2 u v xs.length (by rw [hb];rfl)
       have h1:=@b9 s x _ hx
       simp only [TA.av,hb] at h1
       have hlen:=e9 u (nth u.df xs i)
       have V9:ys.length=xs.length:=Rq.1
       have V2:=Rq.2
       have hce:∀ j,cC u ys i.toNat j=((((dV u (nth u.df xs i)).take off)++(ds++(dV u (nth u.df xs i)).drop (off+l.length))).map cN).getD j .top:=fun j=>by
        simp only [cC]
        rw [V2 _ dQ,if_pos rfl,← fx,eU he]
       have h7:((dV u (nth u.df xs i)).take off).length=off:=by simp [hlen];omega
       have nA:=Rn (P:=P) (v:=v.b) (m:=xs.length) (e:=bY v u xs) (e':=bY v u ys) (g:=g) (L:=gs) ho hi h1 (gj s y) hc (by rw [bI];exact fL) (dz hb) dQ (by rw [bI];exact hle)
        (by
         have e5:(fun k=>bY v u ys i.toNat (off+k))=fun k=>(cC u ys i.toNat (off+k)).deep:=by funext k;simp only [bY,hv]
         rw [e5]
         refine ⟨fun k hk=>?_,g1.dj⟩
         have:=g1.adU k hk
         rw [hce]
         have Ia:k < l.length:=by rw [bI] at hk;exact hk
         have h6:((((dV u (nth u.df xs i)).take off)++(ds++(dV u (nth u.df xs i)).drop (off+l.length))).map cN).getD (off+k) .top=(ds.map cN).getD k .top:=by
          simp only [List.getD,List.map_append]
          rw [List.getElem?_append_right (by simp only [List.length_map,h7];omega)]
          simp only [List.length_map,h7]
          rw [show off+k-off=k by omega,List.getElem?_append_left (by simp only [List.length_map];omega)]
         rw [h6]
         exact this)
        (fun k hk cg Ro=>g2 k (by rw [bI] at hk;exact hk) cg Ro) (fun hm=>Ck.2 id hm (by simp))
        (fun i' j' c9 ko hn=>by
         rw [bI] at hn
         simp only [bY,hv]
         congr 1
         by_cases e1:i'=i.toNat
         ·subst e1
          rw [hce]
          have hxe:xs.getD i.toNat u.df=nth u.df xs i:=rfl
          simp only [cC]
          rw [hxe,← fx]
          simp only [List.getD,List.map_append]
          by_cases h8:j' < off
          ·rw [List.getElem?_append_left (by simp only [List.length_map,h7];exact h8)]
           simp [h8]
          ·have h9:off+l.length≤j':=by omega
           rw [List.getElem?_append_right (by simp only [List.length_map,h7];omega)]
           simp only [List.length_map,h7]
           rw [List.getElem?_append_right (by simp only [List.length_map];omega)]
           simp only [List.length_map,List.getElem?_map,List.getElem?_drop]
           congr 3;omega
         ·simp only [cC]
          rw [V2 _ c9,if_neg e1])
       refine Wa (k:=0) hs h nA (A8 fun _=>by rw [hb];simp only [fM,V9]) (by simp only [TA.av];exact iu.refl _) (by simp only [TA.wf]) ?_
       simp only [aY.dw,V9]
       exact eV.refl _
      ·cases h
     ·cases h
    ·cases h
   ·cases h
  ·cases h
 ·cases h
theorem Wc {H:List (Nat×aY)} {t:Ty} {a:TA} {y:cI} (h:Lh H t a=some (y,[])) {S:Nat→Prop} {u:Value} (hv:jO w F μ S (a.av H) u):jO w F μ S (cN y).deep u:=by
 cases ht:t.N3 with
 | false=>
  rw [JM ht] at h
  split at h
  ·rename_i y' hy
   cases h
   obtain ⟨h1,h2,h3⟩:=ix hy
   rw [Gs (by rw [h1];exact ht)]
   have hno:(a.av H).My=false:=by
    unfold ui at hy
    split at hy
    ·simp only [TA.av];exact La
    ·simp only [TA.av];rfl
    ·cases hy
   obtain ⟨k1,k2⟩:=hv.closed hno
   exact .KR _ _ _ (h3 H k1) k2
  ·cases h
 | true=>
  cases t with
  | sl u=>
   simp only [Lh] at h
   split at h
   ·cases h
    simp only [TA.av] at hv
    obtain ⟨k1,k2⟩:=hv.closed rfl
    rw [k1.pY]
    exact .Cp _ _ _ _ k2
   ·split at h<;>cases h
   ·cases h
  | _=>cases ht
def Qe:Operand→Operand→Bool
 | .tmp i,.tmp j=>Nat.beq i j
 | _,_=>false
theorem aaT {x y:Operand} (h:Qe x y=true):x=y:=by
 unfold Qe at h
 split at h
 ·rw [Nat.eq_of_beq_eq_true h]
 ·cases h
def madeOf (c:Bool) (u:Ty):RV:=match c,u.flat with
 | true,true=>.vs
 | true,false=>.dv
 | false,true=>.ms
 | false,false=>.dm
theorem Li (c:Bool) (u:Ty):(madeOf c u).b=c:=by unfold madeOf;cases c<;>cases u.flat<;>rfl
theorem Wd (c:Bool) (u:Ty):((madeOf c u).d||u.flat)=true:=by unfold madeOf;cases c<;>cases u.flat<;>rfl
def Ug (E:Env) (s:bQ) (t:TypeId) (c0:Bool) (x y:TA) (κ:cE→Option R):Option R:=
 match x,y,E.P.underlying t with
 | .d ⟨.int .i64,l⟩,.d ⟨.int .i64,c⟩,some (.slice et)=>match E.P.info? et,Gv E.P et,PX E.tc et with
  | some ti,some zs,some u=>if Nat.beq zs.length ti.size&&Nat.beq ti.size (fg u) then (match ND s.H (Ie u) zs with
   | some (ds,[])=>match Ok u ds with
    | some e=>bE (GM l c ti.bytes) (κ ⟨.ow s.N,[(s.N,some (.row u (madeOf c0 u) (List.replicate (Int.toNat l) e)))],1⟩)
    | none=>none
   | _=>none) else none
  | _,_,_=>none
 | _,_,_=>none
theorem Sr {H:List (Nat×aY)}:∀ {ts:List Ty} {l:List TA} {r:List cI},ND H ts l=some (r,[])→∀ k,k < l.length→∃ t y,Lh H t (l.getD k .top)=some (y,[])∧r[k]?=some y
 | [],[],r,h,k,hk=>by cases hk
 | [],_::_,r,h,_,_=>by cases h
 | _::_,[],r,h,_,_=>by cases h
 | t::ts,a::l,r,h,k,hk=>by
  simp only [ND] at h
  split at h
  ·rename_i y g r' gs' hy hr
   simp only [Option.some.injEq,Prod.mk.injEq,List.append_eq_nil_iff] at h
   obtain ⟨rfl,rfl,rfl⟩:=h
   cases k with
   | zero=>exact ⟨t,y,hy,rfl⟩
   | succ k=>exact Sr hr k (by simpa using hk)
  ·cases h
theorem acH {H:List (Nat×aY)} {t:Ty} {a:TA} {y:cI} (h:Lh H t a=some (y,[])):Sh (a.av H)∧One (a.av H):=by
 cases ht:t.N3 with
 | false=>
  rw [JM ht] at h
  split at h
  ·rename_i y' hy
   obtain ⟨h1,h2,h3⟩:=ix hy
   exact ⟨zZ (DC hy),fun hv=>K_ h2 (h3 H hv)⟩
  ·cases h
 | true=>
  cases t with
  | sl u=>
   simp only [Lh] at h
   split at h
   ·simp only [TA.av];exact ⟨fun hv=>by rw [hv.pY];exact .ff,fun hv=>by rw [hv.pY];rfl⟩
   ·split at h<;>cases h
   ·cases h
  | _=>cases ht
theorem X7 {E:Env} {o:Oper} {s:bQ} {κ:cE→Option R} {z:R} {x y:Operand} {t:TypeId} (ho:o.op=.makeSlice t x y) (hs:s.ok) (h:Ug E s t (Qe x y) (s.val x) (s.val y) κ=some z):xY E.P o s κ z:=by
 unfold Ug at h
 split at h
 ·rename_i l c et hx hy ht
  have h1:ec s.st x (.int .i64 l):=b9 hx
  have h2:ec s.st y (.int .i64 c):=b9 hy
  split at h
  ·rename_i ti zs u hi hz _
   split at h
   ·rename_i hc
    simp only [Bool.and_eq_true] at hc
    have e1:=Nat.eq_of_beq_eq_true hc.1
    have e2:=Nat.eq_of_beq_eq_true hc.2
    split at h
    ·rename_i ds tC
     split at h
     ·rename_i e he
      obtain ⟨q,h⟩:=gH h
      obtain ⟨q1,q2,q3,q4⟩:=XT q
      obtain ⟨z1,z2⟩:=tu hz s.H s.N
      have hg:=Sr tC
      have n5:∀ a,a∈dU s.H zs→Sh a∧One a:=fun a ha=>by
       rw [cV] at ha
       obtain ⟨b,hb,rfl⟩:=List.mem_map.1 ha
       obtain ⟨k,hk,rfl⟩:=List.getElem_of_mem hb
       obtain ⟨t',y',k1,_⟩:=hg k hk
       rw [getD_eq _ _ hk] at k1
       exact acH k1
      have nA:=TV (Qe x y) (fun hxy=>by
       have:=aaT hxy
       subst this
       rw [hx] at hy
       simp only [TA.d.injEq,cI.mk.injEq,heq_eq_eq,true_and] at hy
       exact hy) (P:=E.P) (N:=s.N) (e:=fun _ j=>(dU s.H zs).getD j .top) ho h1 h2 ht hi z1 (by rw [bI];exact e1) (fun a ha=>(n5 a ha).1) (fun a ha=>(n5 a ha).2) q1 q2 q3 q4 (fun i j c9 ko=>iu.refl _)
      refine iL (k:=1) hs h nA oU ?_ (by simp only [TA.wf];omega) ?_ (fun l' e=>by cases e)
      ·simp only [TA.av,fM,tt,if_true,List.length_replicate,Li]
       rw [e2]
       exact iu.refl _
      ·simp only [aY.dw,List.length_replicate,Li]
       rw [e2]
       refine VV fun i j c9 ko {w F μ S u'} hv=>?_
       rw [wA (Wd _ u),oT]
       have:(List.replicate (Int.toNat l) e).getD i u.df=e:=by simp [List.getD,c9]
       rw [this,eU he]
       obtain ⟨t',y',k1,k2⟩:=hg j (by omega)
       rw [k2]
       rw [dH _ _ _ (by omega)] at hv
       exact Wc k1 hv
     ·cases h
    ·cases h
   ·cases h
  ·cases h
 ·cases h
def JN (E:Env) (s:bQ) (t:TypeId) (n:Nat) (ps:List (Nat×Operand)) (κ:cE→Option R):Option R:=
 match E.P.underlying t with
 | some (.slice et)=>match E.P.info? et,Gv E.P et,JK s ps,PX E.tc et with
  | some ti,some zs,some q,some u=>match pb (fun i=>some (i*ti.size,ti.size)) ((List.range n).flatMap fun _=>zs) q with
   | some r=>if (((Nat.beq zs.length ti.size&&!Nat.beq ti.size 0)&&(n*ti.size).ble 16777216)&&Nat.beq r.length (n*ti.size))&&(Nat.beq n 1&&Nat.beq (fg u) ti.size) then (match ND s.H (Ie u) r with
    | some (ds,gs)=>match JL gs,Ok u ds with
     | true,some e=>κ ⟨.ow s.N,(s.N,some (.row u (madeOf false u) [e]))::gs.map fun i=>(i,none),1⟩
     | _,_=>none
    | none=>none) else none
   | none=>none
  | _,_,_,_=>none
 | _=>none
theorem Rr {E:Env} {o:Oper} {s:bQ} {κ:cE→Option R} {z:R} {t:TypeId} {n:Nat} {ps:List (Nat×Operand)} (ho:o.op=.buildSlice t n ⟨ps⟩) (hs:s.ok) (h:JN E s t n ps κ=some z):xY E.P o s κ z:=by
 unfold JN at h
 split at h
 ·rename_i et ht
  split at h
  ·rename_i ti zs q u hi hz hq _
   split at h
   ·rename_i r hr
    split at h
    ·rename_i hb
     simp only [Bool.and_eq_true,Bool.not_eq_true'] at hb
     have e1:=Nat.eq_of_beq_eq_true hb.1.1.1.1
     have e2:=Nat.ne_of_beq_eq_false hb.1.1.1.2
     have e3:=Nat.le_of_ble_eq_true hb.1.1.2
     have e4:=Nat.eq_of_beq_eq_true hb.1.2
     have en:=Nat.eq_of_beq_eq_true hb.2.1
     have e6:=Nat.eq_of_beq_eq_true hb.2.2
     subst en
     split at h
     ·rename_i ds gs hg
      split at h
      ·rename_i e Ck he
       obtain ⟨z1,z2⟩:=tu hz s.H s.N
       obtain ⟨p1,p2⟩:=Cv hs hq
       have hf:=Cw (TA.av s.H) hr
       have e7:(q.map fun p=>(p.1,p.2.map (TA.av s.H)))=q.map fun p=>(p.1,dU s.H p.2):=List.map_congr_left fun p _=>by rw [cV]
       have e5:((List.range 1).flatMap fun _=>zs).map (TA.av s.H)=(List.range 1).flatMap fun _=>dU s.H zs:=by rw [List.map_flatMap,cV]
       rw [e7,e5,← cV] at hf
       obtain ⟨d1,d2,d3⟩:=Qc hg
       obtain ⟨g,g1,g2⟩:=d3 (Cy Ck)
       rw [Nat.one_mul] at e4
       have nA:=PW (P:=E.P) (N:=s.N) (e:=bY (madeOf false u) u [e]) (g:=g) (L:=gs) ho ht hi z1 (by rw [bI];exact e1) e2 e3 p1 hf (by
        refine ⟨fun k hk=>?_,g1.dj⟩
        have Ia:k < ti.size:=by rw [bI] at hk;omega
        have:=g1.adU k hk
        rw [Nat.div_eq_of_lt Ia,Nat.mod_eq_of_lt Ia,wA (Wd _ u)]
        have h8:cC u [e] 0 k=(ds.map cN).getD k .top:=by
         simp only [cC,List.getD_cons_zero]
         rw [← fx,eU he]
        rw [h8];exact this) (fun k hk cg Ro=>g2 k (by rw [bI] at hk;exact hk) cg Ro)
       refine Wa (k:=1) hs h nA (A8 fun h=>absurd h (by omega)) ?_ (by simp only [TA.wf];omega) ?_
       ·simp only [TA.av,cD,aR,Nat.beq_refl,fM,List.length_singleton,Li]
        rw [e6]
        exact iu.refl _
       ·simp only [aY.dw,List.length_singleton,Li]
        rw [e6]
        exact eV.refl _
      ·cases h
     ·cases h
    ·cases h
   ·cases h
  ·cases h
 ·cases h
end Go.Proofs.YtljfmaaadnoggaaGreatDoor.cX
