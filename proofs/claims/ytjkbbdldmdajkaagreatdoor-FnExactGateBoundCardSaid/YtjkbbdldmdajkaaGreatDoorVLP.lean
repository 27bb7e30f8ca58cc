/- Rows whose parts are rows of the call's own, in the evaluator: told whole again; stores, rows that are made, literals. No condition. -/
import Derived.Test.YtjkbbdldmdajkaaGreatDoorVLO
namespace Go.Proofs.YtjkbbdldmdajkaaGreatDoor.c_
open Go Go.RowKit
variable {w w' xk:World} {F F' Bs O O' v8:Nat→Prop} {μ bC lG:Nat→Nat} {K K' EF:Nat→Prop} {ft bZ:Nat→Nat→Prop} {P:Program} {R:Type}
def HU:List Nat→Bool
 | []=>true
 | i::r=>!(r.any fun j=>Nat.beq i j)&&HU r
theorem Bz:∀ {l:List Nat},HU l=true→l.Nodup
 | [],_=>List.nodup_nil
 | i::r,h=>by
  simp only [HU,Bool.and_eq_true,Bool.not_eq_true',List.any_eq_false] at h;exact List.nodup_cons.2 ⟨fun hm=>h.1 i hm (by simp),Bz h.2⟩
def BA (H:List (Nat×aY)) (t:Ty) (M:Nat):Option cN:=match t with
 | .sl u=>match aT H M with
  | some (.row u' v ys)=>match v.b&&(v.d||u.flat) with
   | true=>if h:u'=u then some ⟨.sl u,h▸ys⟩ else none
   | false=>none
  | _=>none
 | _=>none
def TM (H:List (Nat×aY)) (os:List (Nat×Nat)):Nat→List cN→Option (List cN)
 | _,[]=>some []
 | off,y::r=>match TM H os (off+1) r with
  | some r'=>match ub os off with
   | some M=>match BA H y.t M with
    | some y'=>some (y'::r')
    | none=>none
   | none=>some (y::r')
  | none=>none
def WL (H:List (Nat×aY)) (os:List (Nat×Nat)) (t:Ty) (x:t.dn):t.dn:=match TM H os 0 (ew t x) with
 | some ds=>match Mg t ds with
  | some y=>y
  | none=>x
 | none=>x
def N6 (s:bP) (id:Nat):bP:=match aT s.H id with
 | some (.dq t v xs i os)=>match v.d&&(HU (os.map (·.1))&&(HU (os.map (·.2))&&(os.all fun p=>p.1.blt (fy t)))) with
  | true=>match TM s.H os 0 (ew t (nth t.df xs i)) with
   | some ds=>match Mg t ds with
    | some _=>⟨s.nt,s.N,s.tm,cD s.H ((id,some (.row t v (bD xs i (WL s.H os t))))::(os.map (·.2)).map fun i=>(i,none))⟩
    | none=>s
   | none=>s
  | false=>s
 | _=>s
def th (s:bP):List Nat→bP
 | []=>s
 | i::r=>th (N6 s i) r
theorem Lx {H:List (Nat×aY)} {t:Ty} {M:Nat} {y:cN} (h:BA H t M=some y):∃ (u:Ty) (v:RV) (ys:List u.dn),t=.sl u∧aT H M=some (.row u v ys)∧v.b=true∧(v.d||u.flat)=true∧y=⟨.sl u,ys⟩:=by
 unfold BA at h;split at h
 ·rename_i u;split at h
  ·rename_i u' v ys hM;split at h
   ·rename_i hc;simp only [Bool.and_eq_true] at hc;split at h
    ·rename_i e;subst e;cases h;exact ⟨_,v,ys,rfl,hM,hc.1,hc.2,rfl⟩
    ·cases h
   ·cases h
  ·cases h
 ·cases h
theorem TN {H:List (Nat×aY)} {os:List (Nat×Nat)}:∀ {l:List cN} {off:Nat} {ds:List cN},TM H os off l=some ds→ds.length=l.length∧∀ k (h:k < l.length) (h':k < ds.length),match ub os (off+k) with
  | some M=>BA H l[k].t M=some ds[k]
  | none=>ds[k]=l[k]
 | [],off,ds,h=>by cases h;exact ⟨rfl,fun k h=>by cases h⟩
 | y::r,off,ds,h=>by
  simp only [TM] at h;split at h
  ·rename_i r' hr;obtain ⟨h1,h2⟩:=TN hr;have tail:∀ (y':cN) k (hk:k+1 < (y::r).length) (Gn:k+1 < (y'::r').length),match ub os (off+(k+1)) with
     | some M=>BA H (y::r)[k+1].t M=some (y'::r')[k+1]
     | none=>(y'::r')[k+1]=(y::r)[k+1]:=fun y' k hk Gn=>by
    have:=h2 k (by simpa using hk) (by simpa using Gn);rw [show off+(k+1)=off+1+k by omega];simpa only [List.getElem_cons_succ] using this
   split at h
   ·rename_i M hM;split at h
    ·rename_i y' hy;cases h;refine ⟨by simp [h1],fun k hk Gn=>?_⟩;cases k with
     | zero=>rw [Nat.add_zero,hM];exact hy
     | succ k=>exact tail y' k hk Gn
    ·cases h
   ·rename_i hM;cases h;refine ⟨by simp [h1],fun k hk Gn=>?_⟩;cases k with
    | zero=>rw [Nat.add_zero,hM];rfl
    | succ k=>exact tail y k hk Gn
  ·cases h
theorem Mm {i:Nat} {i' j':Nat}:∀ {L:List Hol} {e:Nat→Nat→AV},¬ (i'=i∧∃ p,p∈L∧p.j=j')→clE i L e i' j'=e i' j'
 | [],e,_=>rfl
 | p::r,e,h=>by
  simp only [clE];rw [Mm (L:=r) fun ⟨h1,q,h2,h3⟩=>h ⟨h1,q,by simp [h2],h3⟩];exact if_neg fun ⟨h1,h2⟩=>h ⟨h1,p,by simp,h2.symm⟩
theorem aaI {i:Nat}:∀ {L:List Hol} {e:Nat→Nat→AV} {p:Hol},p∈L→(L.map (·.j)).Nodup→clE i L e i p.j=.os p.bA p.n p.e
 | [],e,p,h,_=>by cases h
 | q::r,e,p,h,hd=>by
  simp only [List.map_cons,List.nodup_cons] at hd;simp only [clE];rcases List.mem_cons.1 h with rfl | h
  ·rw [Mm fun ⟨_,p',h2,h3⟩=>hd.1 (h3▸List.mem_map.2 ⟨p',h2,rfl⟩)];simp
  ·exact aaI h hd.2
theorem N7 {os:List (Nat×Nat)}:∀ {p:Nat×Nat},p∈os→(os.map (·.1)).Nodup→ub os p.1=some p.2:=by
 induction os with
 | nil=>intro p h;cases h
 | cons q r ih=>
  intro p h hd;simp only [List.map_cons,List.nodup_cons] at hd;simp only [ub];rcases List.mem_cons.1 h with rfl | h
  ·rw [Nat.beq_refl]
  ·have qL:¬ p.1=q.1:=fun e=>hd.1 (e▸List.mem_map.2 ⟨p,h,rfl⟩);rw [cd qL];exact ih h hd.2
theorem aaJ {s:bP} {a:Act} (id:Nat) (ho:s.ok) (hs:SR w F O μ (below s.N) s.st ft a):(N6 s id).ok∧(N6 s id).N=s.N∧(N6 s id).nt=s.nt∧Sub s.H (N6 s id).H s.N∧∃ bZ,SR w F O μ (below s.N) (N6 s id).st bZ a:=by
 have same:s.ok∧s.N=s.N∧s.nt=s.nt∧Sub s.H s.H s.N∧∃ bZ,SR w F O μ (below s.N) s.st bZ a:=⟨ho,rfl,rfl,Sub.refl _ _,ft,hs⟩;unfold N6;split
 ·rename_i t v xs i os hb;split
  ·rename_i hc;simp only [Bool.and_eq_true] at hc;obtain ⟨hv,hn1,hn2,dQ⟩:=hc;have hn1:=Bz hn1;have hn2:=Bz hn2;split
   ·rename_i ds tt;split
    ·rename_i e he;obtain ⟨d1,d2⟩:=TN tt;have Pv:Sto t.df xs i e (bD xs i (WL s.H os t)):=RM (by simp only [WL,tt,he]);generalize bD xs i (WL s.H os t)=ys at Pv;have htg:=fo t (nth t.df xs i);have part:∀ p,p∈os→∃ (u:Ty) (v':RV) (ys:List u.dn) (hk:p.1 < ds.length),aT s.H p.2=some (.row u v' ys)∧v'.b=true∧(v'.d||u.flat)=true∧ds[p.1]=⟨.sl u,ys⟩:=fun p hp=>by
      have h1:p.1 < fy t:=Nat.le_of_ble_eq_true (List.all_eq_true.1 dQ p hp);have hk:p.1 < ds.length:=by omega
      have h2:=d2 p.1 (by omega) hk;rw [Nat.zero_add,N7 hp hn1] at h2;obtain ⟨u,v',ys,_,q2,q3,q4,q5⟩:=Lx h2;exact ⟨u,v',ys,hk,q2,q3,q4,q5⟩
     let H2:List (Nat×aY):=cD s.H ((id,some (.row t v ys))::(os.map (·.2)).map fun i=>(i,none))
     have TO:ys.length=xs.length:=Pv.1;have jO:Sub s.H H2 s.N:=xG fun _=>by rw [hb];simp only [fH,TO]
     have TG:=Pv.2;have acg:∀ p,p∈os→p.2≠id:=fun p hp h=>by
      obtain ⟨u,v',ys,_,q2,_⟩:=part p hp;rw [h,hb] at q2;cases q2
     have TP:∀ i' j,i' < xs.length→i'≠i.toNat→bV v t ys i' j=bV v t xs i' j:=fun i' j di qL=>by
      simp only [bV,cC,TG i' di,if_neg qL]
     have cellsIn:∀ j,i.toNat < xs.length→j < fy t→∃ hj:j < ds.length,bV v t ys i.toNat j=(cR ds[j]).deep:=fun j hi hj=>by
      refine ⟨by omega,?_⟩;simp only [bV,hv];rw [pc,TG _ hi,if_pos rfl,ff he,List.getElem?_eq_getElem (show j < ds.length by omega)]
     have fin:∀ {bC:Nat→Nat} {bZ:Nat→Nat→Prop},HR w F O μ (below s.N) (xn H2) bZ→bP.ok ⟨s.nt,s.N,s.tm,H2⟩∧s.N=s.N∧s.nt=s.nt∧Sub s.H H2 s.N∧∃ bZ,SR w F O μ (below s.N) (bP.st ⟨s.nt,s.N,s.tm,H2⟩) bZ a:=fun {bC bZ} hr=>by
      refine ⟨⟨fun k=>(jR jO (Nat.le_refl _) _ (ho.tm k)).2,fun b9 b cl=>?_⟩,rfl,rfl,jO,bZ,hr,hs.nt,fun k=>?_,hs.df⟩
      ·have cl:aT H2 b9=some b:=cl;simp only [H2,cD,aT] at cl;cases q:Nat.beq b9 id with
       | true=>rw [q] at cl;cases cl;simp only [aY.refs,im]
       | false=>
        rw [q] at cl;rcases oC s.H b9 (os.map (·.2)) with ⟨_,x,k2⟩ | ⟨_,k2⟩
        ·rw [k2] at cl;cases cl;simp only [aY.refs,im]
        ·rw [k2] at cl;exact (hG jO (Nat.le_refl _) _ (ho.H b9 _ cl)).2
      ·show VR w F μ _ ((look s.tm k).av H2) _;rw [(jR jO (Nat.le_refl _) _ (ho.tm k)).1];exact hs.tm k
     have rest:∀ b9 b',xn H2 b9=some b'→b9≠id→b9 ∉ os.map (·.2)∧s.st.H b9=some b':=fun b9 b' cl qL=>by
      obtain ⟨B,hB,hBv,rfl⟩:=iA cl;simp only [H2,cD,aT,cd qL] at hB;rcases oC s.H b9 (os.map (·.2)) with ⟨_,x,k2⟩ | ⟨k1,k2⟩
      ·rw [k2] at hB;cases hB;cases hBv
      ·rw [k2] at hB;refine ⟨k1,?_⟩;rw [qN jO (ho.H b9 _ hB)];exact dF hB hBv
     have adb:xn H2 id=some (.row v.b (fy t) xs.length (bV v t ys)):=by
      have:aT H2 id=some (.row t v ys):=by simp only [H2,cD,aT,Nat.beq_refl]
      rw [KA this rfl];simp only [aY.dC,TO]
     by_cases hi:i.toNat < xs.length
     ·let L:List Hol:=os.map fun p=>match aT s.H p.2 with
       | some (.row u v' ys)=>⟨⟨p.1,fy u,ys.length,bV v' u ys⟩,p.2⟩
       | _=>⟨⟨p.1,0,0,fun _ _=>.top⟩,p.2⟩
      have hLj:L.map (·.j)=os.map (·.1):=by
       simp only [L,List.map_map];exact List.map_congr_left fun p hp=>by
        obtain ⟨u,v',ys,_,q2,_⟩:=part p hp;simp only [Function.comp,q2]
      have hLM:L.map (·.M)=os.map (·.2):=by
       simp only [L,List.map_map];exact List.map_congr_left fun p hp=>by
        obtain ⟨u,v',ys,_,q2,_⟩:=part p hp;simp only [Function.comp,q2]
      have hLp:∀ q,q∈L→∃ p,p∈os∧∃ (u:Ty) (v':RV) (ys:List u.dn) (hk:p.1 < ds.length),aT s.H p.2=some (.row u v' ys)∧v'.b=true∧(v'.d||u.flat)=true∧ds[p.1]=⟨.sl u,ys⟩∧q=⟨⟨p.1,fy u,ys.length,bV v' u ys⟩,p.2⟩:=fun q hq=>by
       obtain ⟨p,hp,rfl⟩:=List.mem_map.1 hq;obtain ⟨u,v',ys,hk,q2,q3,q4,q5⟩:=part p hp;exact ⟨p,hp,u,v',ys,hk,q2,q3,q4,q5,by rw [q2]⟩
      obtain ⟨bZ,h1⟩:=NP (i:=i.toNat) L hs.hr (dF hb) hi (fun q hq=>by
       obtain ⟨p,hp,u,v',ys,hk,q2,q3,q4,q5,rfl⟩:=hLp q hq;refine ⟨Nat.le_of_ble_eq_true (List.all_eq_true.1 dQ p hp),?_,?_⟩
       ·simp only [te,if_true,N7 hp hn1,TA.av,q2,fH,q3]
       ·rw [dF q2];simp only [aY.dC,q3]) (by rw [hLj];exact hn1) (by rw [hLM];exact hn2)
      rw [hLM] at h1;refine fin (bC:=μ) (h1.imp fun b9 b' cl=>?_);by_cases q:b9=id
      ·subst q;rw [adb] at cl;cases cl;refine ⟨_,if_pos rfl,Tz fun i' j di hj=>?_⟩;have key:clE i.toNat L (te s.H v t xs i os) i' j=bV v t ys i' j:=by
        by_cases q:i'=i.toNat
        ·subst q;obtain ⟨hjd,hc2⟩:=cellsIn j hi hj;rw [hc2];have h2:=d2 j (by omega) hjd;rw [Nat.zero_add] at h2;cases hM:ub os j with
         | none=>
          rw [hM] at h2;rw [Mm fun ⟨_,q,hq,hqj⟩=>by
           obtain ⟨p,hp,u,v',ys,hk,q2,q3,q4,q5,rfl⟩:=hLp q hq;have h7:=N7 hp hn1;simp only at hqj;rw [hqj,hM] at h7;cases h7]
          simp only [te,if_true,hM];rw [h2];simp only [bV,hv];rw [pc,List.getElem?_eq_getElem (show j < (ew t (xs.getD i.toNat t.df)).length by rw [fo];exact hj)];rfl
         | some M=>
          have hp:=KB hM;obtain ⟨u,v',ys,hk,q2,q3,q4,q5⟩:=part (j,M) hp;have Rx:(⟨⟨j,fy u,ys.length,bV v' u ys⟩,M⟩:Hol)∈L:=List.mem_map.2 ⟨(j,M),hp,by simp only [q2]⟩;rw [show clE i.toNat L (te s.H v t xs i os) i.toNat j=.os (fy u) ys.length (bV v' u ys) from aaI Rx (by rw [hLj];exact hn1),q5];show AV.os _ _ _=AV.os _ _ fun i j=>(cC u ys i j).deep
          congr 1
          funext i' j';exact wa q4 ys i' j'
        ·rw [Mm fun h=>q h.1];simp only [te,if_neg q];exact (TP i' j di q).symm
       exact ⟨key,cC t ys i' j,Cy _ _ _ _,by rw [key];simp only [bV,hv]⟩
      ·obtain ⟨k1,k2⟩:=rest b9 b' cl q;refine ⟨b',?_,eQ.refl _⟩;simp only [Hp.dh,if_neg q];rw [yX,if_neg k1];exact k2
     ·refine fin (bC:=μ) (hs.hr.imp fun b9 b' cl=>?_);by_cases q:b9=id
      ·subst q;rw [adb] at cl;cases cl;refine ⟨_,dF hb,Tz fun i' j di hj=>?_⟩;have qL:i'≠i.toNat:=by omega
       have key:te s.H v t xs i os i' j=bV v t ys i' j:=by
        simp only [te,if_neg qL];exact (TP i' j di qL).symm
       exact ⟨key,cC t ys i' j,Cy _ _ _ _,by rw [key];simp only [bV,hv]⟩
      ·obtain ⟨_,k2⟩:=rest b9 b' cl q;exact ⟨b',k2,eQ.refl _⟩
    ·exact same
   ·exact same
  ·exact same
 ·exact same
theorem Jl {a:Act}:∀ (L:List Nat) {s:bP} {ft:Nat→Nat→Prop},s.ok→SR w F O μ (below s.N) s.st ft a→(th s L).ok∧(th s L).N=s.N∧(th s L).nt=s.nt∧Sub s.H (th s L).H s.N∧∃ bZ,SR w F O μ (below s.N) (th s L).st bZ a
 | [],s,ft,ho,hs=>⟨ho,rfl,rfl,Sub.refl _ _,ft,hs⟩
 | i::r,s,ft,ho,hs=>by
  obtain ⟨h1,h2,h3,h4,Wz,h5⟩:=aaJ i ho hs;obtain ⟨k1,k2,k3,k4,Lu,k5⟩:=Jl r h1 (by rw [h2];exact h5);refine ⟨k1,k2.trans h2,k3.trans h3,fun id bY=>(k4 id (by rw [h2];exact bY)).trans (h4 id bY),Lu,?_⟩;rw [h2] at k5;exact k5
def Aa:List (Nat×aY)→List Nat
 | []=>[]
 | (i,.dq _ _ _ _ _)::r=>i::Aa r
 | _::r=>Aa r
def Jm (H:List (Nat×aY)) (t:Ty) (a:TA):Option (cN×List Nat):=match t with
 | .sl u=>match a with
  | .fB=>some (⟨.sl u,[]⟩,[])
  | .ow M=>match BA H (.sl u) M with
   | some y=>some (y,[M])
   | none=>none
  | _=>none
 | t=>match uc t a with
  | some y=>some (y,[])
  | none=>none
def Ly (H:List (Nat×aY)):List Ty→List TA→Option (List cN×List Nat)
 | [],[]=>some ([],[])
 | t::ts,a::l=>match Jm H t a,Ly H ts l with
  | some (y,g),some (r,gs)=>some (y::r,g++gs)
  | _,_=>none
 | _,_=>none
theorem HV {H:List (Nat×aY)} {t:Ty} {a:TA} (ht:t.LZ=false):Jm H t a=match uc t a with
  | some y=>some (y,[])
  | none=>none:=by
 cases t<;>first | rfl | cases ht
theorem aaK {s:bP} {t:Ty} {a:TA} {y:cN} {g:List Nat} (h:Jm s.H t a=some (y,g)):y.t=t∧Vp s.st (a.av s.H) (cR y).deep g:=by
 cases ht:t.LZ with
 | false=>
  rw [HV ht] at h;split at h
  ·rename_i y' hy;cases h;obtain ⟨h1,h2,h3⟩:=iB hy;refine ⟨h1,?_⟩;rw [ET (by rw [h1];exact ht)];exact .IY _ _ (fun hv=>y7 (CC hy) hv) (fun hv=>Jd h2 (h3 _ hv)) fun hv=>h3 _ hv
  ·cases h
 | true=>
  cases t with
  | sl u=>
   simp only [Jm] at h;split at h
   ·cases h;exact ⟨rfl,.fB _ _⟩
   ·rename_i M;split at h
    ·rename_i y' hy;cases h;obtain ⟨u',v,ys,q1,q2,q3,q4,rfl⟩:=Lx hy;cases q1;refine ⟨rfl,?_⟩;have h1:(TA.ow M).av s.H=du true M ys.length (fy u):=by simp only [TA.av,q2,fH,q3]
     rw [h1];refine .own M ys.length (fy u) _ ?_;rw [dF q2];simp only [aY.dC,q3]
     congr 2
     funext i j;exact wa q4 ys i j
    ·cases h
   ·cases h
  | _=>cases ht
theorem N8 {s:bP}:∀ {ts:List Ty} {l:List TA} {r:List cN} {gs:List Nat},Ly s.H ts l=some (r,gs)→r.length=l.length∧r.map (·.t)=ts∧(gs.Nodup→∃ g:Nat→List Nat,TB s.st (dD s.H l) (fun k=>((r.map cR).getD k .top).deep) g∧∀ k,k < l.length→∀ id,id∈g k→id∈gs)
 | [],[],r,gs,h=>by cases h;exact ⟨rfl,rfl,fun _=>⟨fun _=>[],⟨fun k hk=>by simp [dD] at hk,fun k k' id hk=>by simp [dD] at hk⟩,fun k hk=>by cases hk⟩⟩
 | [],_::_,r,gs,h=>by cases h
 | _::_,[],r,gs,h=>by cases h
 | t::ts,a::l,r,gs,h=>by
  simp only [Ly] at h;split at h
  ·rename_i y g r' gs' hy hr;cases h;obtain ⟨h1,h2⟩:=aaK hy;obtain ⟨k1,k2,k3⟩:=N8 hr;refine ⟨by simp [k1],by simp [h1,k2],fun hd=>?_⟩;obtain ⟨d1,d2,d3⟩:=List.nodup_append.1 hd;obtain ⟨G,q1,q2⟩:=k3 d2;have hlen:(dD s.H l).length=l.length:=bB _ _;refine ⟨fun k=>match k with | 0=>g | k+1=>G k,⟨fun k hk=>?_,fun k k' id hk Gn hm Yg=>?_⟩,fun k hk id hm=>?_⟩
   ·cases k with
    | zero=>simpa only [dD,List.getD_cons_zero,List.map_cons] using h2
    | succ k=>simpa only [dD,List.getD_cons_succ,List.map_cons] using q1.ab1 k (by simpa [dD] using hk)
   ·cases k with
    | zero=>
     cases k' with
     | zero=>rfl
     | succ k'=>exact absurd rfl (d3 id hm id (q2 k' (by simp [dD,hlen] at Gn;exact Gn) id Yg))
    | succ k=>
     cases k' with
     | zero=>exact absurd rfl (d3 id Yg id (q2 k (by simp [dD,hlen] at hk;exact hk) id hm))
     | succ k'=>rw [q1.dj k k' id (by simpa [dD] using hk) (by simpa [dD] using Gn) hm Yg]
   ·cases k with
    | zero=>exact List.mem_append.2 (.inl hm)
    | succ k=>exact List.mem_append.2 (.inr (q2 k (by simpa using hk) id hm))
  ·cases h
theorem N9 {o:Oper} {s:bP} {κ:cx→Option R} {z:R} {rv:AV} {v:TA} {rU k:Nat} {b:aY} {B:jV} {L:List Nat} (hs:s.ok) (hk:κ ⟨v,(rU,some b)::L.map fun i=>(i,none),k⟩=some z) (h:dr P o s.st ⟨rv,(rU,some B)::gH L,List.range' s.N k⟩)
  (jO:Sub s.H (cD s.H ((rU,some b)::L.map fun i=>(i,none))) s.N) (hv:il rv (v.av (cD s.H ((rU,some b)::L.map fun i=>(i,none))))) (hw:v.wf (cD s.H ((rU,some b)::L.map fun i=>(i,none))) (s.N+k))
  (hB:eQ B (b.dC (cD s.H ((rU,some b)::L.map fun i=>(i,none))))) (hr:b.refs=[]:=by rfl):wg P o s κ z:=by
 refine ⟨⟨v,(rU,some b)::L.map fun i=>(i,none),k⟩,RD hs h jO hv hB,⟨jO,hw,fun id l hl=>?_⟩,hk⟩;simp only [List.mem_cons,Prod.mk.injEq,Option.some.injEq,List.mem_map] at hl;rcases hl with ⟨_,h⟩ | ⟨_,_,_,h⟩
 ·rw [h,hr];simp only [im]
 ·cases h
def N_ (P:Program) (H:List (Nat×aY)) (t:TypeId) (x y:TA) (κ:cx→Option R):Option R:=
 match P.info? t,CB H y,x with
 | some ti,some l,.rp id i off=>match aT H id with
  | some (.row u v xs)=>if Nat.beq l.length ti.size&&((off+l.length).ble (fy u)&&v.d) then (match Ly H (((Gr u).drop off).take l.length) l with
   | some (ds,gs)=>if HU gs&&!(gs.any fun j=>Nat.beq id j) then (match Mg u (((ew u (nth u.df xs i)).take off)++(ds++(ew u (nth u.df xs i)).drop (off+l.length))) with
    | some e=>match Nat.beq l.length (fy u) with
     | true=>κ ⟨.lit undef,(id,some (.row u v (oJ xs i e)))::gs.map fun i=>(i,none),0⟩
     | false=>κ ⟨.lit undef,(id,some (.row u v (bD xs i (ab8 u off l.length ds))))::gs.map fun i=>(i,none),0⟩
    | none=>none) else none
   | none=>none) else none
  | _=>none
 | _,_,_=>none
theorem TQ {o:Oper} {s:bP} {κ:cx→Option R} {z:R} {x y:Operand} {t:TypeId} (ho:o.op=.store t x y) (hs:s.ok) (h:N_ P s.H t (s.val x) (s.val y) κ=some z):wg P o s κ z:=by
 unfold N_ at h;split at h
 ·rename_i ti l id i off hi hl hx;obtain ⟨hc,_⟩:=y6 hl (gf hs y);split at h
  ·rename_i u v xs hb;split at h
   ·rename_i hcc;simp only [Bool.and_eq_true] at hcc;have fV:=Nat.eq_of_beq_eq_true hcc.1;have hle:=Nat.le_of_ble_eq_true hcc.2.1;have hv:=hcc.2.2;split at h
    ·rename_i ds gs hg;split at h
     ·rename_i AF;simp only [Bool.and_eq_true,Bool.not_eq_true',List.any_eq_false] at AF;split at h
      ·rename_i e he;obtain ⟨ys,Pv,h⟩:∃ ys,Sto u.df xs i e ys∧κ ⟨.lit undef,(id,some (.row u v ys))::gs.map fun i=>(i,none),0⟩=some z:=by
        split at h
        ·exact ⟨_,WH,h⟩
        ·exact ⟨_,RM (by simp only [ab8,he]),h⟩
       obtain ⟨d1,d2,d3⟩:=N8 hg;obtain ⟨g,g1,g2⟩:=d3 (Bz AF.1);have hwx:=gf hs x;rw [hx] at hwx;simp only [TA.wf] at hwx;have dQ:=hwx.2 u v xs.length (by rw [hb];rfl);have h1:=@bX s x _ hx;simp only [TA.av,hb] at h1;have hlen:=fo u (nth u.df xs i);have TO:ys.length=xs.length:=Pv.1;have TG:=Pv.2;have hce:∀ j,cC u ys i.toNat j=((((ew u (nth u.df xs i)).take off)++(ds++(ew u (nth u.df xs i)).drop (off+l.length))).map cR).getD j .top:=fun j=>by
        simp only [cC];rw [TG _ dQ,if_pos rfl,← fJ,ff he]
       have h7:((ew u (nth u.df xs i)).take off).length=off:=by simp [hlen];omega
       have m_:=Pr (P:=P) (v:=v.b) (m:=xs.length) (e:=bV v u xs) (e':=bV v u ys) (g:=g) (L:=gs) ho hi h1 (gE s y) hc (by rw [bB];exact fV) (dF hb) dQ (by rw [bB];exact hle)
        (by
         have e5:(fun k=>bV v u ys i.toNat (off+k))=fun k=>(cC u ys i.toNat (off+k)).deep:=by funext k;simp only [bV,hv]
         rw [e5];refine ⟨fun k hk=>?_,g1.dj⟩;have:=g1.ab1 k hk;rw [hce];have Gn:k < l.length:=by rw [bB] at hk;exact hk
         have h6:((((ew u (nth u.df xs i)).take off)++(ds++(ew u (nth u.df xs i)).drop (off+l.length))).map cR).getD (off+k) .top=(ds.map cR).getD k .top:=by
          simp only [List.getD,List.map_append];rw [List.getElem?_append_right (by simp only [List.length_map,h7];omega)];simp only [List.length_map,h7];rw [show off+k-off=k by omega,List.getElem?_append_left (by simp only [List.length_map];omega)]
         rw [h6];exact this)
        (fun k hk b9 Ps=>g2 k (by rw [bB] at hk;exact hk) b9 Ps) (fun hm=>AF.2 id hm (by simp))
        (fun i' j' di mR hn=>by
         rw [bB] at hn;simp only [bV,hv]
         congr 1
         by_cases e1:i'=i.toNat
         ·subst e1;rw [hce];have hxe:xs.getD i.toNat u.df=nth u.df xs i:=rfl;simp only [cC];rw [hxe,← fJ];simp only [List.getD,List.map_append];by_cases h8:j' < off
          ·rw [List.getElem?_append_left (by simp only [List.length_map,h7];exact h8)];simp [h8]
          ·have h9:off+l.length≤j':=by omega
           rw [List.getElem?_append_right (by simp only [List.length_map,h7];omega)];simp only [List.length_map,h7];rw [List.getElem?_append_right (by simp only [List.length_map];omega)];simp only [List.length_map,List.getElem?_map,List.getElem?_drop]
           congr 3;omega
         ·simp only [cC];rw [TG _ di,if_neg e1])
       refine N9 (k:=0) hs h m_ (xG fun _=>by rw [hb];simp only [fH,TO]) (by simp only [TA.av];exact il.refl _) (by simp only [TA.wf]) ?_;simp only [aY.dC,TO];exact eQ.refl _
      ·cases h
     ·cases h
    ·cases h
   ·cases h
  ·cases h
 ·cases h
theorem TR {H:List (Nat×aY)} {t:Ty} {a:TA} {y:cN} (h:Jm H t a=some (y,[])) {S:Nat→Prop} {u:Value} (hv:jP w F μ S (a.av H) u):jP w F μ S (cR y).deep u:=by
 cases ht:t.LZ with
 | false=>
  rw [HV ht] at h;split at h
  ·rename_i y' hy;cases h;obtain ⟨h1,h2,h3⟩:=iB hy;rw [ET (by rw [h1];exact ht)];have hno:(a.av H).Kw=false:=by
    unfold uc at hy;split at hy
    ·simp only [TA.av];exact Je
    ·simp only [TA.av];rfl
    ·cases hy
   obtain ⟨k1,k2⟩:=hv.closed hno;exact .IY _ _ _ (h3 H k1) k2
  ·cases h
 | true=>
  cases t with
  | sl u=>
   simp only [Jm] at h;split at h
   ·cases h;simp only [TA.av] at hv;obtain ⟨k1,k2⟩:=hv.closed rfl;rw [k1.qd];exact .Br _ _ _ _ k2
   ·split at h<;>cases h
   ·cases h
  | _=>cases ht
def Oa:Operand→Operand→Bool
 | .tmp i,.tmp j=>Nat.beq i j
 | _,_=>false
theorem Yq {x y:Operand} (h:Oa x y=true):x=y:=by
 unfold Oa at h;split at h
 ·rw [Nat.eq_of_beq_eq_true h]
 ·cases h
def madeOf (c:Bool) (u:Ty):RV:=match c,u.flat with
 | true,true=>.vs
 | true,false=>.dv
 | false,true=>.ms
 | false,false=>.dm
theorem BB (c:Bool) (u:Ty):(madeOf c u).b=c:=by unfold madeOf;cases c<;>cases u.flat<;>rfl
theorem TS (c:Bool) (u:Ty):((madeOf c u).d||u.flat)=true:=by unfold madeOf;cases c<;>cases u.flat<;>rfl
def RX (E:Env) (s:bP) (t:TypeId) (c0:Bool) (x y:TA) (κ:cx→Option R):Option R:=
 match x,y,E.P.underlying t with
 | .d ⟨.int .i64,l⟩,.d ⟨.int .i64,c⟩,some (.slice et)=>match E.P.info? et,Dd E.P et,L5 E.tc et with
  | some ti,some zs,some u=>if Nat.beq zs.length ti.size&&Nat.beq ti.size (fy u) then (match Ly s.H (Gr u) zs with
   | some (ds,[])=>match Mg u ds with
    | some e=>aZ (GV l c ti.bytes) (κ ⟨.ow s.N,[(s.N,some (.row u (madeOf c0 u) (List.replicate (Int.toNat l) e)))],1⟩)
    | none=>none
   | _=>none) else none
  | _,_,_=>none
 | _,_,_=>none
theorem Ql {H:List (Nat×aY)}:∀ {ts:List Ty} {l:List TA} {r:List cN},Ly H ts l=some (r,[])→∀ k,k < l.length→∃ t y,Jm H t (l.getD k .top)=some (y,[])∧r[k]?=some y
 | [],[],r,h,k,hk=>by cases hk
 | [],_::_,r,h,_,_=>by cases h
 | _::_,[],r,h,_,_=>by cases h
 | t::ts,a::l,r,h,k,hk=>by
  simp only [Ly] at h;split at h
  ·rename_i y g r' gs' hy hr;simp only [Option.some.injEq,Prod.mk.injEq,List.append_eq_nil_iff] at h;obtain ⟨rfl,rfl,rfl⟩:=h;cases k with
   | zero=>exact ⟨t,y,hy,rfl⟩
   | succ k=>exact Ql hr k (by simpa using hk)
  ·cases h
theorem aaL {H:List (Nat×aY)} {t:Ty} {a:TA} {y:cN} (h:Jm H t a=some (y,[])):Qb (a.av H)∧One (a.av H):=by
 cases ht:t.LZ with
 | false=>
  rw [HV ht] at h;split at h
  ·rename_i y' hy;obtain ⟨h1,h2,h3⟩:=iB hy;exact ⟨y7 (CC hy),fun hv=>Jd h2 (h3 H hv)⟩
  ·cases h
 | true=>
  cases t with
  | sl u=>
   simp only [Jm] at h;split at h
   ·simp only [TA.av];exact ⟨fun hv=>by rw [hv.qd];exact .fB,fun hv=>by rw [hv.qd];rfl⟩
   ·split at h<;>cases h
   ·cases h
  | _=>cases ht
theorem VE {E:Env} {o:Oper} {s:bP} {κ:cx→Option R} {z:R} {x y:Operand} {t:TypeId} (ho:o.op=.makeSlice t x y) (hs:s.ok) (h:RX E s t (Oa x y) (s.val x) (s.val y) κ=some z):wg E.P o s κ z:=by
 unfold RX at h;split at h
 ·rename_i l c et hx hy ht;have h1:ee s.st x (.int .i64 l):=bX hx;have h2:ee s.st y (.int .i64 c):=bX hy;split at h
  ·rename_i ti zs u hi hz _;split at h
   ·rename_i hc;simp only [Bool.and_eq_true] at hc;have e1:=Nat.eq_of_beq_eq_true hc.1;have e2:=Nat.eq_of_beq_eq_true hc.2;split at h
    ·rename_i ds tt;split at h
     ·rename_i e he;obtain ⟨q,h⟩:=gg h;obtain ⟨q1,q2,q3,q4⟩:=Vr q;obtain ⟨z1,z2⟩:=qf hz s.H s.N;have hg:=Ql tt;have oy:∀ a,a∈dD s.H zs→Qb a∧One a:=fun a ha=>by
       rw [c7] at ha;obtain ⟨b,hb,rfl⟩:=List.mem_map.1 ha;obtain ⟨k,hk,rfl⟩:=List.getElem_of_mem hb;obtain ⟨t',y',k1,_⟩:=hg k hk;rw [getD_eq _ _ hk] at k1;exact aaL k1
      have m_:=RA (Oa x y) (fun hxy=>by
       have:=Yq hxy;subst this;rw [hx] at hy;simp only [TA.d.injEq,cN.mk.injEq,heq_eq_eq,true_and] at hy;exact hy) (P:=E.P) (N:=s.N) (e:=fun _ j=>(dD s.H zs).getD j .top) ho h1 h2 ht hi z1 (by rw [bB];exact e1) (fun a ha=>(oy a ha).1) (fun a ha=>(oy a ha).2) q1 q2 q3 q4 (fun i j di mR=>il.refl _)
      refine hJ (k:=1) hs h m_ nL ?_ (by simp only [TA.wf];omega) ?_ (fun l' e=>by cases e)
      ·simp only [TA.av,fH,qe,if_true,List.length_replicate,BB];rw [e2];exact il.refl _
      ·simp only [aY.dC,List.length_replicate,BB];rw [e2];refine Tx fun i j di mR {w F μ S u'} hv=>?_;rw [wa (TS _ u),pc];have:(List.replicate (Int.toNat l) e).getD i u.df=e:=by simp [List.getD,di]
       rw [this,ff he];obtain ⟨t',y',k1,k2⟩:=hg j (by omega);rw [k2];rw [dx _ _ _ (by omega)] at hv;exact TR k1 hv
     ·cases h
    ·cases h
   ·cases h
  ·cases h
 ·cases h
def HW (E:Env) (s:bP) (t:TypeId) (n:Nat) (ps:List (Nat×Operand)) (κ:cx→Option R):Option R:=
 match E.P.underlying t with
 | some (.slice et)=>match E.P.info? et,Dd E.P et,HT s ps,L5 E.tc et with
  | some ti,some zs,some q,some u=>match oA (fun i=>some (i*ti.size,ti.size)) ((List.range n).flatMap fun _=>zs) q with
   | some r=>if (((Nat.beq zs.length ti.size&&!Nat.beq ti.size 0)&&(n*ti.size).ble 16777216)&&Nat.beq r.length (n*ti.size))&&(Nat.beq n 1&&Nat.beq (fy u) ti.size) then (match Ly s.H (Gr u) r with
    | some (ds,gs)=>match HU gs,Mg u ds with
     | true,some e=>κ ⟨.ow s.N,(s.N,some (.row u (madeOf false u) [e]))::gs.map fun i=>(i,none),1⟩
     | _,_=>none
    | none=>none) else none
   | none=>none
  | _,_,_,_=>none
 | _=>none
theorem Pw {E:Env} {o:Oper} {s:bP} {κ:cx→Option R} {z:R} {t:TypeId} {n:Nat} {ps:List (Nat×Operand)} (ho:o.op=.buildSlice t n ⟨ps⟩) (hs:s.ok) (h:HW E s t n ps κ=some z):wg E.P o s κ z:=by
 unfold HW at h;split at h
 ·rename_i et ht;split at h
  ·rename_i ti zs q u hi hz hq _;split at h
   ·rename_i r hr;split at h
    ·rename_i hb;simp only [Bool.and_eq_true,Bool.not_eq_true'] at hb;have e1:=Nat.eq_of_beq_eq_true hb.1.1.1.1;have e2:=Nat.ne_of_beq_eq_false hb.1.1.1.2;have e3:=Nat.le_of_ble_eq_true hb.1.1.2;have e4:=Nat.eq_of_beq_eq_true hb.1.2;have en:=Nat.eq_of_beq_eq_true hb.2.1;have e6:=Nat.eq_of_beq_eq_true hb.2.2;subst en;split at h
     ·rename_i ds gs hg;split at h
      ·rename_i e AF he;obtain ⟨z1,z2⟩:=qf hz s.H s.N;obtain ⟨p1,p2⟩:=Bv hs hq;have hf:=Bw (TA.av s.H) hr;have e7:(q.map fun p=>(p.1,p.2.map (TA.av s.H)))=q.map fun p=>(p.1,dD s.H p.2):=List.map_congr_left fun p _=>by rw [c7]
       have e5:((List.range 1).flatMap fun _=>zs).map (TA.av s.H)=(List.range 1).flatMap fun _=>dD s.H zs:=by rw [List.map_flatMap,c7]
       rw [e7,e5,← c7] at hf;obtain ⟨d1,d2,d3⟩:=N8 hg;obtain ⟨g,g1,g2⟩:=d3 (Bz AF);rw [Nat.one_mul] at e4;have m_:=NQ (P:=E.P) (N:=s.N) (e:=bV (madeOf false u) u [e]) (g:=g) (L:=gs) ho ht hi z1 (by rw [bB];exact e1) e2 e3 p1 hf (by
        refine ⟨fun k hk=>?_,g1.dj⟩;have Gn:k < ti.size:=by rw [bB] at hk;omega
        have:=g1.ab1 k hk;rw [Nat.div_eq_of_lt Gn,Nat.mod_eq_of_lt Gn,wa (TS _ u)];have h8:cC u [e] 0 k=(ds.map cR).getD k .top:=by
         simp only [cC,List.getD_cons_zero];rw [← fJ,ff he]
        rw [h8];exact this) (fun k hk b9 Ps=>g2 k (by rw [bB] at hk;exact hk) b9 Ps)
       refine N9 (k:=1) hs h m_ (xG fun h=>absurd h (by omega)) ?_ (by simp only [TA.wf];omega) ?_
       ·simp only [TA.av,cD,aT,Nat.beq_refl,fH,List.length_singleton,BB];rw [e6];exact il.refl _
       ·simp only [aY.dC,List.length_singleton,BB];rw [e6];exact eQ.refl _
      ·cases h
     ·cases h
    ·cases h
   ·cases h
  ·cases h
 ·cases h
def HX (E:Env) (s:bP) (t:TypeId) (κ:cx→Option R):Option R:=
 match E.P.underlying t with
 | some (.slice et)=>match E.P.info? et,Dd E.P et,L5 E.tc et with
  | some ti,some zs,some u=>if Nat.beq zs.length ti.size&&(!Nat.beq ti.size 0&&Nat.beq (fy u) ti.size) then κ ⟨.ow s.N,[(s.N,some (.row u (madeOf true u) []))],1⟩ else none
  | _,_,_=>none
 | _=>none
theorem Px {E:Env} {o:Oper} {s:bP} {κ:cx→Option R} {z:R} {t:TypeId} (ho:o.op=.buildSlice t 0 ⟨[]⟩) (hs:s.ok) (h:HX E s t κ=some z):wg E.P o s κ z:=by
 unfold HX at h;split at h
 ·rename_i et ht;split at h
  ·rename_i ti zs u hi hz _;split at h
   ·rename_i hb;simp only [Bool.and_eq_true,Bool.not_eq_true'] at hb;have e1:=Nat.eq_of_beq_eq_true hb.1;have e2:=Nat.ne_of_beq_eq_false hb.2.1;have e3:=Nat.eq_of_beq_eq_true hb.2.2;obtain ⟨z1,z2⟩:=qf hz s.H s.N;have m_:=NI (P:=E.P) (s:=s.st) (N:=s.N) (e:=bV (madeOf true u) u []) ho ht hi z1 (by rw [bB];exact e1) e2;refine hJ (k:=1) hs h m_ nL ?_ (by simp only [TA.wf];omega) ?_ (fun l' e=>by cases e)
    ·simp only [TA.av,fH,qe,if_true,List.length_nil,BB,e3];exact il.refl _
    ·simp only [aY.dC,List.length_nil,BB,e3];exact eQ.refl _
   ·cases h
  ·cases h
 ·cases h
end Go.Proofs.YtjkbbdldmdajkaaGreatDoor.c_
