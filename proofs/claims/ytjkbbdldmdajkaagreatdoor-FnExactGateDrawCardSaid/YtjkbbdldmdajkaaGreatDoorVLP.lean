/- Rows whose parts are rows of the call's own, in the evaluator: told whole again; stores, rows that are made, literals. No condition. -/
import Derived.Test.YtjkbbdldmdajkaaGreatDoorVLO
namespace Go.Proofs.YtjkbbdldmdajkaaGreatDoor.c5
open Go Go.RowKit
variable {w w' ss:World} {F F' zT O O' uo:Nat→Prop} {μ aZ jE:Nat→Nat} {K K' C9:Nat→Prop} {ft bX:Nat→Nat→Prop} {P:Program} {R:Type}
def Hf:List Nat→Bool
 | []=>true
 | i::r=>!(r.any fun j=>Nat.beq i j)&&Hf r
theorem AQ:∀ {l:List Nat},Hf l=true→l.Nodup
 | [],_=>List.nodup_nil
 | i::r,h=>by
  simp only [Hf,Bool.and_eq_true,Bool.not_eq_true',List.any_eq_false] at h;exact List.nodup_cons.2 ⟨fun hm=>h.1 i hm (by simp),AQ h.2⟩
def AR (H:List (Nat×aX)) (t:Ty) (M:Nat):Option cG:=match t with
 | .sl u=>match aS H M with
  | some (.row u' v ys)=>match v.b&&(v.d||u.flat) with
   | true=>if h:u'=u then some ⟨.sl u,h▸ys⟩ else none
   | false=>none
  | _=>none
 | _=>none
def Td (H:List (Nat×aX)) (os:List (Nat×Nat)):Nat→List cG→Option (List cG)
 | _,[]=>some []
 | off,y::r=>match Td H os (off+1) r with
  | some r'=>match tb os off with
   | some M=>match AR H y.t M with
    | some y'=>some (y'::r')
    | none=>none
   | none=>some (y::r')
  | none=>none
def Wo (H:List (Nat×aX)) (os:List (Nat×Nat)) (t:Ty) (x:t.dn):t.dn:=match Td H os 0 (dZ t x) with
 | some ds=>match LL t ds with
  | some y=>y
  | none=>x
 | none=>x
def Nv (s:bL) (id:Nat):bL:=match aS s.H id with
 | some (.de t v xs i os)=>match v.d&&(Hf (os.map (·.1))&&(Hf (os.map (·.2))&&(os.all fun p=>p.1.blt (ff t)))) with
  | true=>match Td s.H os 0 (dZ t (nth t.df xs i)) with
   | some ds=>match LL t ds with
    | some _=>⟨s.nt,s.N,s.tm,cA s.H ((id,some (.row t v (bA xs i (Wo s.H os t))))::(os.map (·.2)).map fun i=>(i,none))⟩
    | none=>s
   | none=>s
  | false=>s
 | _=>s
def pw (s:bL):List Nat→bL
 | []=>s
 | i::r=>pw (Nv s i) r
theorem KW {H:List (Nat×aX)} {t:Ty} {M:Nat} {y:cG} (h:AR H t M=some y):∃ (u:Ty) (v:RV) (ys:List u.dn),t=.sl u∧aS H M=some (.row u v ys)∧v.b=true∧(v.d||u.flat)=true∧y=⟨.sl u,ys⟩:=by
 unfold AR at h;split at h
 ·rename_i u;split at h
  ·rename_i u' v ys hM;split at h
   ·rename_i hc;simp only [Bool.and_eq_true] at hc;split at h
    ·rename_i e;subst e;cases h;exact ⟨_,v,ys,rfl,hM,hc.1,hc.2,rfl⟩
    ·cases h
   ·cases h
  ·cases h
 ·cases h
theorem Te {H:List (Nat×aX)} {os:List (Nat×Nat)}:∀ {l:List cG} {off:Nat} {ds:List cG},Td H os off l=some ds→ds.length=l.length∧∀ k (h:k < l.length) (h':k < ds.length),match tb os (off+k) with
  | some M=>AR H l[k].t M=some ds[k]
  | none=>ds[k]=l[k]
 | [],off,ds,h=>by cases h;exact ⟨rfl,fun k h=>by cases h⟩
 | y::r,off,ds,h=>by
  simp only [Td] at h;split at h
  ·rename_i r' hr;obtain ⟨h1,h2⟩:=Te hr;have tail:∀ (y':cG) k (hk:k+1 < (y::r).length) (FG:k+1 < (y'::r').length),match tb os (off+(k+1)) with
     | some M=>AR H (y::r)[k+1].t M=some (y'::r')[k+1]
     | none=>(y'::r')[k+1]=(y::r)[k+1]:=fun y' k hk FG=>by
    have:=h2 k (by simpa using hk) (by simpa using FG);rw [show off+(k+1)=off+1+k by omega];simpa only [List.getElem_cons_succ] using this
   split at h
   ·rename_i M hM;split at h
    ·rename_i y' hy;cases h;refine ⟨by simp [h1],fun k hk FG=>?_⟩;cases k with
     | zero=>rw [Nat.add_zero,hM];exact hy
     | succ k=>exact tail y' k hk FG
    ·cases h
   ·rename_i hM;cases h;refine ⟨by simp [h1],fun k hk FG=>?_⟩;cases k with
    | zero=>rw [Nat.add_zero,hM];rfl
    | succ k=>exact tail y k hk FG
  ·cases h
theorem LS {i:Nat} {i' j':Nat}:∀ {L:List Hol} {e:Nat→Nat→AV},¬ (i'=i∧∃ p,p∈L∧p.j=j')→clE i L e i' j'=e i' j'
 | [],e,_=>rfl
 | p::r,e,h=>by
  simp only [clE];rw [LS (L:=r) fun ⟨h1,q,h2,h3⟩=>h ⟨h1,q,by simp [h2],h3⟩];exact if_neg fun ⟨h1,h2⟩=>h ⟨h1,p,by simp,h2.symm⟩
theorem Z6 {i:Nat}:∀ {L:List Hol} {e:Nat→Nat→AV} {p:Hol},p∈L→(L.map (·.j)).Nodup→clE i L e i p.j=.os p.bB p.n p.e
 | [],e,p,h,_=>by cases h
 | q::r,e,p,h,hd=>by
  simp only [List.map_cons,List.nodup_cons] at hd;simp only [clE];rcases List.mem_cons.1 h with rfl | h
  ·rw [LS fun ⟨_,p',h2,h3⟩=>hd.1 (h3▸List.mem_map.2 ⟨p',h2,rfl⟩)];simp
  ·exact Z6 h hd.2
theorem Nw {os:List (Nat×Nat)}:∀ {p:Nat×Nat},p∈os→(os.map (·.1)).Nodup→tb os p.1=some p.2:=by
 induction os with
 | nil=>intro p h;cases h
 | cons q r ih=>
  intro p h hd;simp only [List.map_cons,List.nodup_cons] at hd;simp only [tb];rcases List.mem_cons.1 h with rfl | h
  ·rw [Nat.beq_refl]
  ·have oV:¬ p.1=q.1:=fun e=>hd.1 (e▸List.mem_map.2 ⟨p,h,rfl⟩);rw [cb oV];exact ih h hd.2
theorem Z7 {s:bL} {a:Act} (id:Nat) (ho:s.ok) (hs:SR w F O μ (below s.N) s.st ft a):(Nv s id).ok∧(Nv s id).N=s.N∧(Nv s id).nt=s.nt∧Sub s.H (Nv s id).H s.N∧∃ bX,SR w F O μ (below s.N) (Nv s id).st bX a:=by
 have same:s.ok∧s.N=s.N∧s.nt=s.nt∧Sub s.H s.H s.N∧∃ bX,SR w F O μ (below s.N) s.st bX a:=⟨ho,rfl,rfl,Sub.refl _ _,ft,hs⟩;unfold Nv;split
 ·rename_i t v xs i os hb;split
  ·rename_i hc;simp only [Bool.and_eq_true] at hc;obtain ⟨hv,hn1,hn2,dY⟩:=hc;have hn1:=AQ hn1;have hn2:=AQ hn2;split
   ·rename_i ds sy;split
    ·rename_i e he;obtain ⟨d1,d2⟩:=Te sy;have OS:Sto t.df xs i e (bA xs i (Wo s.H os t)):=Rb (by simp only [Wo,sy,he]);generalize bA xs i (Wo s.H os t)=ys at OS;have htg:=fa t (nth t.df xs i);have part:∀ p,p∈os→∃ (u:Ty) (v':RV) (ys:List u.dn) (hk:p.1 < ds.length),aS s.H p.2=some (.row u v' ys)∧v'.b=true∧(v'.d||u.flat)=true∧ds[p.1]=⟨.sl u,ys⟩:=fun p hp=>by
      have h1:p.1 < ff t:=Nat.le_of_ble_eq_true (List.all_eq_true.1 dY p hp);have hk:p.1 < ds.length:=by omega
      have h2:=d2 p.1 (by omega) hk;rw [Nat.zero_add,Nw hp hn1] at h2;obtain ⟨u,v',ys,_,q2,q3,q4,q5⟩:=KW h2;exact ⟨u,v',ys,hk,q2,q3,q4,q5⟩
     let H2:List (Nat×aX):=cA s.H ((id,some (.row t v ys))::(os.map (·.2)).map fun i=>(i,none))
     have Tg:ys.length=xs.length:=OS.1;have jx:Sub s.H H2 s.N:=wK fun _=>by rw [hb];simp only [fv,Tg]
     have S9:=OS.2;have abN:∀ p,p∈os→p.2≠id:=fun p hp h=>by
      obtain ⟨u,v',ys,_,q2,_⟩:=part p hp;rw [h,hb] at q2;cases q2
     have Th:∀ i' j,i' < xs.length→i'≠i.toNat→bV v t ys i' j=bV v t xs i' j:=fun i' j da oV=>by
      simp only [bV,cz,S9 i' da,if_neg oV]
     have cellsIn:∀ j,i.toNat < xs.length→j < ff t→∃ hj:j < ds.length,bV v t ys i.toNat j=(cL ds[j]).deep:=fun j hi hj=>by
      refine ⟨by omega,?_⟩;simp only [bV,hv];rw [ot,S9 _ hi,if_pos rfl,eU he,List.getElem?_eq_getElem (show j < ds.length by omega)]
     have fin:∀ {aZ:Nat→Nat} {bX:Nat→Nat→Prop},HR w F O μ (below s.N) (sx H2) bX→bL.ok ⟨s.nt,s.N,s.tm,H2⟩∧s.N=s.N∧s.nt=s.nt∧Sub s.H H2 s.N∧∃ bX,SR w F O μ (below s.N) (bL.st ⟨s.nt,s.N,s.tm,H2⟩) bX a:=fun {aZ bX} hr=>by
      refine ⟨⟨fun k=>(jB jx (Nat.le_refl _) _ (ho.tm k)).2,fun b9 b ck=>?_⟩,rfl,rfl,jx,bX,hr,hs.nt,fun k=>?_,hs.df⟩
      ·have ck:aS H2 b9=some b:=ck;simp only [H2,cA,aS] at ck;cases q:Nat.beq b9 id with
       | true=>rw [q] at ck;cases ck;simp only [aX.refs,hU]
       | false=>
        rw [q] at ck;rcases nL s.H b9 (os.map (·.2)) with ⟨_,x,k2⟩ | ⟨_,k2⟩
        ·rw [k2] at ck;cases ck;simp only [aX.refs,hU]
        ·rw [k2] at ck;exact (g0 jx (Nat.le_refl _) _ (ho.H b9 _ ck)).2
      ·show VR w F μ _ ((look s.tm k).av H2) _;rw [(jB jx (Nat.le_refl _) _ (ho.tm k)).1];exact hs.tm k
     have rest:∀ b9 b',sx H2 b9=some b'→b9≠id→b9 ∉ os.map (·.2)∧s.st.H b9=some b':=fun b9 b' ck oV=>by
      obtain ⟨B,hB,hBv,rfl⟩:=ij ck;simp only [H2,cA,aS,cb oV] at hB;rcases nL s.H b9 (os.map (·.2)) with ⟨_,x,k2⟩ | ⟨k1,k2⟩
      ·rw [k2] at hB;cases hB;cases hBv
      ·rw [k2] at hB;refine ⟨k1,?_⟩;rw [p4 jx (ho.H b9 _ hB)];exact dx hB hBv
     have acL:sx H2 id=some (.row v.b (ff t) xs.length (bV v t ys)):=by
      have:aS H2 id=some (.row t v ys):=by simp only [H2,cA,aS,Nat.beq_refl]
      rw [J2 this rfl];simp only [aX.du,Tg]
     by_cases hi:i.toNat < xs.length
     ·let L:List Hol:=os.map fun p=>match aS s.H p.2 with
       | some (.row u v' ys)=>⟨⟨p.1,ff u,ys.length,bV v' u ys⟩,p.2⟩
       | _=>⟨⟨p.1,0,0,fun _ _=>.top⟩,p.2⟩
      have hLj:L.map (·.j)=os.map (·.1):=by
       simp only [L,List.map_map];exact List.map_congr_left fun p hp=>by
        obtain ⟨u,v',ys,_,q2,_⟩:=part p hp;simp only [Function.comp,q2]
      have hLM:L.map (·.M)=os.map (·.2):=by
       simp only [L,List.map_map];exact List.map_congr_left fun p hp=>by
        obtain ⟨u,v',ys,_,q2,_⟩:=part p hp;simp only [Function.comp,q2]
      have hLp:∀ q,q∈L→∃ p,p∈os∧∃ (u:Ty) (v':RV) (ys:List u.dn) (hk:p.1 < ds.length),aS s.H p.2=some (.row u v' ys)∧v'.b=true∧(v'.d||u.flat)=true∧ds[p.1]=⟨.sl u,ys⟩∧q=⟨⟨p.1,ff u,ys.length,bV v' u ys⟩,p.2⟩:=fun q hq=>by
       obtain ⟨p,hp,rfl⟩:=List.mem_map.1 hq;obtain ⟨u,v',ys,hk,q2,q3,q4,q5⟩:=part p hp;exact ⟨p,hp,u,v',ys,hk,q2,q3,q4,q5,by rw [q2]⟩
      obtain ⟨bX,h1⟩:=Ng (i:=i.toNat) L hs.hr (dx hb) hi (fun q hq=>by
       obtain ⟨p,hp,u,v',ys,hk,q2,q3,q4,q5,rfl⟩:=hLp q hq;refine ⟨Nat.le_of_ble_eq_true (List.all_eq_true.1 dY p hp),?_,?_⟩
       ·simp only [sg,if_true,Nw hp hn1,TA.av,q2,fv,q3]
       ·rw [dx q2];simp only [aX.du,q3]) (by rw [hLj];exact hn1) (by rw [hLM];exact hn2)
      rw [hLM] at h1;refine fin (aZ:=μ) (h1.imp fun b9 b' ck=>?_);by_cases q:b9=id
      ·subst q;rw [acL] at ck;cases ck;refine ⟨_,if_pos rfl,S0 fun i' j da hj=>?_⟩;have key:clE i.toNat L (sg s.H v t xs i os) i' j=bV v t ys i' j:=by
        by_cases q:i'=i.toNat
        ·subst q;obtain ⟨hjd,hc2⟩:=cellsIn j hi hj;rw [hc2];have h2:=d2 j (by omega) hjd;rw [Nat.zero_add] at h2;cases hM:tb os j with
         | none=>
          rw [hM] at h2;rw [LS fun ⟨_,q,hq,hqj⟩=>by
           obtain ⟨p,hp,u,v',ys,hk,q2,q3,q4,q5,rfl⟩:=hLp q hq;have h7:=Nw hp hn1;simp only at hqj;rw [hqj,hM] at h7;cases h7]
          simp only [sg,if_true,hM];rw [h2];simp only [bV,hv];rw [ot,List.getElem?_eq_getElem (show j < (dZ t (xs.getD i.toNat t.df)).length by rw [fa];exact hj)];rfl
         | some M=>
          have hp:=J3 hM;obtain ⟨u,v',ys,hk,q2,q3,q4,q5⟩:=part (j,M) hp;have PB:(⟨⟨j,ff u,ys.length,bV v' u ys⟩,M⟩:Hol)∈L:=List.mem_map.2 ⟨(j,M),hp,by simp only [q2]⟩;rw [show clE i.toNat L (sg s.H v t xs i os) i.toNat j=.os (ff u) ys.length (bV v' u ys) from Z6 PB (by rw [hLj];exact hn1),q5];show AV.os _ _ _=AV.os _ _ fun i j=>(cz u ys i j).deep
          congr 1
          funext i' j';exact ve q4 ys i' j'
        ·rw [LS fun h=>q h.1];simp only [sg,if_neg q];exact (Th i' j da q).symm
       exact ⟨key,cz t ys i' j,BS _ _ _ _,by rw [key];simp only [bV,hv]⟩
      ·obtain ⟨k1,k2⟩:=rest b9 b' ck q;refine ⟨b',?_,eg.refl _⟩;simp only [Hp.c_,if_neg q];rw [x9,if_neg k1];exact k2
     ·refine fin (aZ:=μ) (hs.hr.imp fun b9 b' ck=>?_);by_cases q:b9=id
      ·subst q;rw [acL] at ck;cases ck;refine ⟨_,dx hb,S0 fun i' j da hj=>?_⟩;have oV:i'≠i.toNat:=by omega
       have key:sg s.H v t xs i os i' j=bV v t ys i' j:=by
        simp only [sg,if_neg oV];exact (Th i' j da oV).symm
       exact ⟨key,cz t ys i' j,BS _ _ _ _,by rw [key];simp only [bV,hv]⟩
      ·obtain ⟨_,k2⟩:=rest b9 b' ck q;exact ⟨b',k2,eg.refl _⟩
    ·exact same
   ·exact same
  ·exact same
 ·exact same
theorem Eh {a:Act}:∀ (L:List Nat) {s:bL} {ft:Nat→Nat→Prop},s.ok→SR w F O μ (below s.N) s.st ft a→(pw s L).ok∧(pw s L).N=s.N∧(pw s L).nt=s.nt∧Sub s.H (pw s L).H s.N∧∃ bX,SR w F O μ (below s.N) (pw s L).st bX a
 | [],s,ft,ho,hs=>⟨ho,rfl,rfl,Sub.refl _ _,ft,hs⟩
 | i::r,s,ft,ho,hs=>by
  obtain ⟨h1,h2,h3,h4,S3,h5⟩:=Z7 i ho hs;obtain ⟨k1,k2,k3,k4,EJ,k5⟩:=Eh r h1 (by rw [h2];exact h5);refine ⟨k1,k2.trans h2,k3.trans h3,fun id bZ=>(k4 id (by rw [h2];exact bZ)).trans (h4 id bZ),EJ,?_⟩;rw [h2] at k5;exact k5
def sk:List (Nat×aX)→List Nat
 | []=>[]
 | (i,.de _ _ _ _ _)::r=>i::sk r
 | _::r=>sk r
def IM (H:List (Nat×aX)) (t:Ty) (a:TA):Option (cG×List Nat):=match t with
 | .sl u=>match a with
  | .fb=>some (⟨.sl u,[]⟩,[])
  | .ow M=>match AR H (.sl u) M with
   | some y=>some (y,[M])
   | none=>none
  | _=>none
 | t=>match td t a with
  | some y=>some (y,[])
  | none=>none
def KX (H:List (Nat×aX)):List Ty→List TA→Option (List cG×List Nat)
 | [],[]=>some ([],[])
 | t::ts,a::l=>match IM H t a,KX H ts l with
  | some (y,g),some (r,gs)=>some (y::r,g++gs)
  | _,_=>none
 | _,_=>none
theorem Hg {H:List (Nat×aX)} {t:Ty} {a:TA} (ht:t.Lq=false):IM H t a=match td t a with
  | some y=>some (y,[])
  | none=>none:=by
 cases t<;>first | rfl | cases ht
theorem Z8 {s:bL} {t:Ty} {a:TA} {y:cG} {g:List Nat} (h:IM s.H t a=some (y,g)):y.t=t∧UX s.st (a.av s.H) (cL y).deep g:=by
 cases ht:t.Lq with
 | false=>
  rw [Hg ht] at h;split at h
  ·rename_i y' hy;cases h;obtain ⟨h1,h2,h3⟩:=ik hy;refine ⟨h1,?_⟩;rw [Ed (by rw [h1];exact ht)];exact .Ip _ _ (fun hv=>yg (BW hy) hv) (fun hv=>IG h2 (h3 _ hv)) fun hv=>h3 _ hv
  ·cases h
 | true=>
  cases t with
  | sl u=>
   simp only [IM] at h;split at h
   ·cases h;exact ⟨rfl,.fb _ _⟩
   ·rename_i M;split at h
    ·rename_i y' hy;cases h;obtain ⟨u',v,ys,q1,q2,q3,q4,rfl⟩:=KW hy;cases q1;refine ⟨rfl,?_⟩;have h1:(TA.ow M).av s.H=dh true M ys.length (ff u):=by simp only [TA.av,q2,fv,q3]
     rw [h1];refine .own M ys.length (ff u) _ ?_;rw [dx q2];simp only [aX.du,q3]
     congr 2
     funext i j;exact ve q4 ys i j
    ·cases h
   ·cases h
  | _=>cases ht
theorem Nx {s:bL}:∀ {ts:List Ty} {l:List TA} {r:List cG} {gs:List Nat},KX s.H ts l=some (r,gs)→r.length=l.length∧r.map (·.t)=ts∧(gs.Nodup→∃ g:Nat→List Nat,S4 s.st (di s.H l) (fun k=>((r.map cL).getD k .top).deep) g∧∀ k,k < l.length→∀ id,id∈g k→id∈gs)
 | [],[],r,gs,h=>by cases h;exact ⟨rfl,rfl,fun _=>⟨fun _=>[],⟨fun k hk=>by simp [di] at hk,fun k k' id hk=>by simp [di] at hk⟩,fun k hk=>by cases hk⟩⟩
 | [],_::_,r,gs,h=>by cases h
 | _::_,[],r,gs,h=>by cases h
 | t::ts,a::l,r,gs,h=>by
  simp only [KX] at h;split at h
  ·rename_i y g r' gs' hy hr;cases h;obtain ⟨h1,h2⟩:=Z8 hy;obtain ⟨k1,k2,k3⟩:=Nx hr;refine ⟨by simp [k1],by simp [h1,k2],fun hd=>?_⟩;obtain ⟨d1,d2,d3⟩:=List.nodup_append.1 hd;obtain ⟨G,q1,q2⟩:=k3 d2;have hlen:(di s.H l).length=l.length:=bC _ _;refine ⟨fun k=>match k with | 0=>g | k+1=>G k,⟨fun k hk=>?_,fun k k' id hk FG hm XS=>?_⟩,fun k hk id hm=>?_⟩
   ·cases k with
    | zero=>simpa only [di,List.getD_cons_zero,List.map_cons] using h2
    | succ k=>simpa only [di,List.getD_cons_succ,List.map_cons] using q1.abx k (by simpa [di] using hk)
   ·cases k with
    | zero=>
     cases k' with
     | zero=>rfl
     | succ k'=>exact absurd rfl (d3 id hm id (q2 k' (by simp [di,hlen] at FG;exact FG) id XS))
    | succ k=>
     cases k' with
     | zero=>exact absurd rfl (d3 id XS id (q2 k (by simp [di,hlen] at hk;exact hk) id hm))
     | succ k'=>rw [q1.dj k k' id (by simpa [di] using hk) (by simpa [di] using FG) hm XS]
   ·cases k with
    | zero=>exact List.mem_append.2 (.inl hm)
    | succ k=>exact List.mem_append.2 (.inr (q2 k (by simpa using hk) id hm))
  ·cases h
theorem Ny {o:Oper} {s:bL} {κ:cu→Option R} {z:R} {rv:AV} {v:TA} {qT k:Nat} {b:aX} {B:jz} {L:List Nat} (hs:s.ok) (hk:κ ⟨v,(qT,some b)::L.map fun i=>(i,none),k⟩=some z) (h:dg P o s.st ⟨rv,(qT,some B)::gA L,List.range' s.N k⟩)
  (jx:Sub s.H (cA s.H ((qT,some b)::L.map fun i=>(i,none))) s.N) (hv:g8 rv (v.av (cA s.H ((qT,some b)::L.map fun i=>(i,none))))) (hw:v.wf (cA s.H ((qT,some b)::L.map fun i=>(i,none))) (s.N+k))
  (hB:eg B (b.du (cA s.H ((qT,some b)::L.map fun i=>(i,none))))) (hr:b.refs=[]:=by rfl):vh P o s κ z:=by
 refine ⟨⟨v,(qT,some b)::L.map fun i=>(i,none),k⟩,Q5 hs h jx hv hB,⟨jx,hw,fun id l hl=>?_⟩,hk⟩;simp only [List.mem_cons,Prod.mk.injEq,Option.some.injEq,List.mem_map] at hl;rcases hl with ⟨_,h⟩ | ⟨_,_,_,h⟩
 ·rw [h,hr];simp only [hU]
 ·cases h
def Nz (P:Program) (H:List (Nat×aX)) (t:TypeId) (x y:TA) (κ:cu→Option R):Option R:=
 match P.info? t,BV H y,x with
 | some ti,some l,.rp id i off=>match aS H id with
  | some (.row u v xs)=>if Nat.beq l.length ti.size&&((off+l.length).ble (ff u)&&v.d) then (match KX H (((FI u).drop off).take l.length) l with
   | some (ds,gs)=>if Hf gs&&!(gs.any fun j=>Nat.beq id j) then (match LL u (((dZ u (nth u.df xs i)).take off)++(ds++(dZ u (nth u.df xs i)).drop (off+l.length))) with
    | some e=>match Nat.beq l.length (ff u) with
     | true=>κ ⟨.lit undef,(id,some (.row u v (nQ xs i e)))::gs.map fun i=>(i,none),0⟩
     | false=>κ ⟨.lit undef,(id,some (.row u v (bA xs i (abF u off l.length ds))))::gs.map fun i=>(i,none),0⟩
    | none=>none) else none
   | none=>none) else none
  | _=>none
 | _,_,_=>none
theorem Ti {o:Oper} {s:bL} {κ:cu→Option R} {z:R} {x y:Operand} {t:TypeId} (ho:o.op=.store t x y) (hs:s.ok) (h:Nz P s.H t (s.val x) (s.val y) κ=some z):vh P o s κ z:=by
 unfold Nz at h;split at h
 ·rename_i ti l id i off hi hl hx;obtain ⟨hc,_⟩:=yf hl (fS hs y);split at h
  ·rename_i u v xs hb;split at h
   ·rename_i hcc;simp only [Bool.and_eq_true] at hcc;have fh:=Nat.eq_of_beq_eq_true hcc.1;have hle:=Nat.le_of_ble_eq_true hcc.2.1;have hv:=hcc.2.2;split at h
    ·rename_i ds gs hg;split at h
     ·rename_i zg;simp only [Bool.and_eq_true,Bool.not_eq_true',List.any_eq_false] at zg;split at h
      ·rename_i e he;obtain ⟨ys,OS,h⟩:∃ ys,Sto u.df xs i e ys∧κ ⟨.lit undef,(id,some (.row u v ys))::gs.map fun i=>(i,none),0⟩=some z:=by
        split at h
        ·exact ⟨_,Wk,h⟩
        ·exact ⟨_,Rb (by simp only [abF,he]),h⟩
       obtain ⟨d1,d2,d3⟩:=Nx hg;obtain ⟨g,g1,g2⟩:=d3 (AQ zg.1);have hwx:=fS hs x;rw [hx] at hwx;simp only [TA.wf] at hwx;have dY:=hwx.2 u v xs.length (by rw [hb];rfl);have h1:=@bY s x _ hx;simp only [TA.av,hb] at h1;have hlen:=fa u (nth u.df xs i);have Tg:ys.length=xs.length:=OS.1;have S9:=OS.2;have hce:∀ j,cz u ys i.toNat j=((((dZ u (nth u.df xs i)).take off)++(ds++(dZ u (nth u.df xs i)).drop (off+l.length))).map cL).getD j .top:=fun j=>by
        simp only [cz];rw [S9 _ dY,if_pos rfl,← fw,eU he]
       have h7:((dZ u (nth u.df xs i)).take off).length=off:=by simp [hlen];omega
       have lX:=OP (P:=P) (v:=v.b) (m:=xs.length) (e:=bV v u xs) (e':=bV v u ys) (g:=g) (L:=gs) ho hi h1 (gu s y) hc (by rw [bC];exact fh) (dx hb) dY (by rw [bC];exact hle)
        (by
         have e5:(fun k=>bV v u ys i.toNat (off+k))=fun k=>(cz u ys i.toNat (off+k)).deep:=by funext k;simp only [bV,hv]
         rw [e5];refine ⟨fun k hk=>?_,g1.dj⟩;have:=g1.abx k hk;rw [hce];have FG:k < l.length:=by rw [bC] at hk;exact hk
         have h6:((((dZ u (nth u.df xs i)).take off)++(ds++(dZ u (nth u.df xs i)).drop (off+l.length))).map cL).getD (off+k) .top=(ds.map cL).getD k .top:=by
          simp only [List.getD,List.map_append];rw [List.getElem?_append_right (by simp only [List.length_map,h7];omega)];simp only [List.length_map,h7];rw [show off+k-off=k by omega,List.getElem?_append_left (by simp only [List.length_map];omega)]
         rw [h6];exact this)
        (fun k hk b9 OQ=>g2 k (by rw [bC] at hk;exact hk) b9 OQ) (fun hm=>zg.2 id hm (by simp))
        (fun i' j' da mi hn=>by
         rw [bC] at hn;simp only [bV,hv]
         congr 1
         by_cases e1:i'=i.toNat
         ·subst e1;rw [hce];have hxe:xs.getD i.toNat u.df=nth u.df xs i:=rfl;simp only [cz];rw [hxe,← fw];simp only [List.getD,List.map_append];by_cases h8:j' < off
          ·rw [List.getElem?_append_left (by simp only [List.length_map,h7];exact h8)];simp [h8]
          ·have h9:off+l.length≤j':=by omega
           rw [List.getElem?_append_right (by simp only [List.length_map,h7];omega)];simp only [List.length_map,h7];rw [List.getElem?_append_right (by simp only [List.length_map];omega)];simp only [List.length_map,List.getElem?_map,List.getElem?_drop]
           congr 3;omega
         ·simp only [cz];rw [S9 _ da,if_neg e1])
       refine Ny (k:=0) hs h lX (wK fun _=>by rw [hb];simp only [fv,Tg]) (by simp only [TA.av];exact g8.refl _) (by simp only [TA.wf]) ?_;simp only [aX.du,Tg];exact eg.refl _
      ·cases h
     ·cases h
    ·cases h
   ·cases h
  ·cases h
 ·cases h
theorem Tj {H:List (Nat×aX)} {t:Ty} {a:TA} {y:cG} (h:IM H t a=some (y,[])) {S:Nat→Prop} {u:Value} (hv:jy w F μ S (a.av H) u):jy w F μ S (cL y).deep u:=by
 cases ht:t.Lq with
 | false=>
  rw [Hg ht] at h;split at h
  ·rename_i y' hy;cases h;obtain ⟨h1,h2,h3⟩:=ik hy;rw [Ed (by rw [h1];exact ht)];have hno:(a.av H).JZ=false:=by
    unfold td at hy;split at hy
    ·simp only [TA.av];exact IH
    ·simp only [TA.av];rfl
    ·cases hy
   obtain ⟨k1,k2⟩:=hv.closed hno;exact .Ip _ _ _ (h3 H k1) k2
  ·cases h
 | true=>
  cases t with
  | sl u=>
   simp only [IM] at h;split at h
   ·cases h;simp only [TA.av] at hv;obtain ⟨k1,k2⟩:=hv.closed rfl;rw [k1.pr];exact .AK _ _ _ _ k2
   ·split at h<;>cases h
   ·cases h
  | _=>cases ht
def NA:Operand→Operand→Bool
 | .tmp i,.tmp j=>Nat.beq i j
 | _,_=>false
theorem X3 {x y:Operand} (h:NA x y=true):x=y:=by
 unfold NA at h;split at h
 ·rw [Nat.eq_of_beq_eq_true h]
 ·cases h
def madeOf (c:Bool) (u:Ty):RV:=match c,u.flat with
 | true,true=>.vs
 | true,false=>.dv
 | false,true=>.ms
 | false,false=>.dm
theorem AS (c:Bool) (u:Ty):(madeOf c u).b=c:=by unfold madeOf;cases c<;>cases u.flat<;>rfl
theorem Tk (c:Bool) (u:Ty):((madeOf c u).d||u.flat)=true:=by unfold madeOf;cases c<;>cases u.flat<;>rfl
def Rm (E:Env) (s:bL) (t:TypeId) (c0:Bool) (x y:TA) (κ:cu→Option R):Option R:=
 match x,y,E.P.underlying t with
 | .d ⟨.int .i64,l⟩,.d ⟨.int .i64,c⟩,some (.slice et)=>match E.P.info? et,Cw E.P et,Lw E.tc et with
  | some ti,some zs,some u=>if Nat.beq zs.length ti.size&&Nat.beq ti.size (ff u) then (match KX s.H (FI u) zs with
   | some (ds,[])=>match LL u ds with
    | some e=>bE (Gf l c ti.bytes) (κ ⟨.ow s.N,[(s.N,some (.row u (madeOf c0 u) (List.replicate (Int.toNat l) e)))],1⟩)
    | none=>none
   | _=>none) else none
  | _,_,_=>none
 | _,_,_=>none
theorem PT {H:List (Nat×aX)}:∀ {ts:List Ty} {l:List TA} {r:List cG},KX H ts l=some (r,[])→∀ k,k < l.length→∃ t y,IM H t (l.getD k .top)=some (y,[])∧r[k]?=some y
 | [],[],r,h,k,hk=>by cases hk
 | [],_::_,r,h,_,_=>by cases h
 | _::_,[],r,h,_,_=>by cases h
 | t::ts,a::l,r,h,k,hk=>by
  simp only [KX] at h;split at h
  ·rename_i y g r' gs' hy hr;simp only [Option.some.injEq,Prod.mk.injEq,List.append_eq_nil_iff] at h;obtain ⟨rfl,rfl,rfl⟩:=h;cases k with
   | zero=>exact ⟨t,y,hy,rfl⟩
   | succ k=>exact PT hr k (by simpa using hk)
  ·cases h
theorem Z9 {H:List (Nat×aX)} {t:Ty} {a:TA} {y:cG} (h:IM H t a=some (y,[])):PI (a.av H)∧One (a.av H):=by
 cases ht:t.Lq with
 | false=>
  rw [Hg ht] at h;split at h
  ·rename_i y' hy;obtain ⟨h1,h2,h3⟩:=ik hy;exact ⟨yg (BW hy),fun hv=>IG h2 (h3 H hv)⟩
  ·cases h
 | true=>
  cases t with
  | sl u=>
   simp only [IM] at h;split at h
   ·simp only [TA.av];exact ⟨fun hv=>by rw [hv.pr];exact .fb,fun hv=>by rw [hv.pr];rfl⟩
   ·split at h<;>cases h
   ·cases h
  | _=>cases ht
theorem Vb {E:Env} {o:Oper} {s:bL} {κ:cu→Option R} {z:R} {x y:Operand} {t:TypeId} (ho:o.op=.makeSlice t x y) (hs:s.ok) (h:Rm E s t (NA x y) (s.val x) (s.val y) κ=some z):vh E.P o s κ z:=by
 unfold Rm at h;split at h
 ·rename_i l c et hx hy ht;have h1:dT s.st x (.int .i64 l):=bY hx;have h2:dT s.st y (.int .i64 c):=bY hy;split at h
  ·rename_i ti zs u hi hz _;split at h
   ·rename_i hc;simp only [Bool.and_eq_true] at hc;have e1:=Nat.eq_of_beq_eq_true hc.1;have e2:=Nat.eq_of_beq_eq_true hc.2;split at h
    ·rename_i ds sy;split at h
     ·rename_i e he;obtain ⟨q,h⟩:=fT h;obtain ⟨q1,q2,q3,q4⟩:=UZ q;obtain ⟨z1,z2⟩:=pv hz s.H s.N;have hg:=PT sy;have nG:∀ a,a∈di s.H zs→PI a∧One a:=fun a ha=>by
       rw [cW] at ha;obtain ⟨b,hb,rfl⟩:=List.mem_map.1 ha;obtain ⟨k,hk,rfl⟩:=List.getElem_of_mem hb;obtain ⟨t',y',k1,_⟩:=hg k hk;rw [getD_eq _ _ hk] at k1;exact Z9 k1
      have lX:=Q2 (NA x y) (fun hxy=>by
       have:=X3 hxy;subst this;rw [hx] at hy;simp only [TA.d.injEq,cG.mk.injEq,heq_eq_eq,true_and] at hy;exact hy) (P:=E.P) (N:=s.N) (e:=fun _ j=>(di s.H zs).getD j .top) ho h1 h2 ht hi z1 (by rw [bC];exact e1) (fun a ha=>(nG a ha).1) (fun a ha=>(nG a ha).2) q1 q2 q3 q4 (fun i j da mi=>g8.refl _)
      refine g6 (k:=1) hs h lX mZ ?_ (by simp only [TA.wf];omega) ?_ (fun l' e=>by cases e)
      ·simp only [TA.av,fv,pt,if_true,List.length_replicate,AS];rw [e2];exact g8.refl _
      ·simp only [aX.du,List.length_replicate,AS];rw [e2];refine SZ fun i j da mi {w F μ S u'} hv=>?_;rw [ve (Tk _ u),ot];have:(List.replicate (Int.toNat l) e).getD i u.df=e:=by simp [List.getD,da]
       rw [this,eU he];obtain ⟨t',y',k1,k2⟩:=hg j (by omega);rw [k2];rw [dq _ _ _ (by omega)] at hv;exact Tj k1 hv
     ·cases h
    ·cases h
   ·cases h
  ·cases h
 ·cases h
def Hh (E:Env) (s:bL) (t:TypeId) (n:Nat) (ps:List (Nat×Operand)) (κ:cu→Option R):Option R:=
 match E.P.underlying t with
 | some (.slice et)=>match E.P.info? et,Cw E.P et,He s ps,Lw E.tc et with
  | some ti,some zs,some q,some u=>match nJ (fun i=>some (i*ti.size,ti.size)) ((List.range n).flatMap fun _=>zs) q with
   | some r=>if (((Nat.beq zs.length ti.size&&!Nat.beq ti.size 0)&&(n*ti.size).ble 16777216)&&Nat.beq r.length (n*ti.size))&&(Nat.beq n 1&&Nat.beq (ff u) ti.size) then (match KX s.H (FI u) r with
    | some (ds,gs)=>match Hf gs,LL u ds with
     | true,some e=>κ ⟨.ow s.N,(s.N,some (.row u (madeOf false u) [e]))::gs.map fun i=>(i,none),1⟩
     | _,_=>none
    | none=>none) else none
   | none=>none
  | _,_,_,_=>none
 | _=>none
theorem OT {E:Env} {o:Oper} {s:bL} {κ:cu→Option R} {z:R} {t:TypeId} {n:Nat} {ps:List (Nat×Operand)} (ho:o.op=.buildSlice t n ⟨ps⟩) (hs:s.ok) (h:Hh E s t n ps κ=some z):vh E.P o s κ z:=by
 unfold Hh at h;split at h
 ·rename_i et ht;split at h
  ·rename_i ti zs q u hi hz hq _;split at h
   ·rename_i r hr;split at h
    ·rename_i hb;simp only [Bool.and_eq_true,Bool.not_eq_true'] at hb;have e1:=Nat.eq_of_beq_eq_true hb.1.1.1.1;have e2:=Nat.ne_of_beq_eq_false hb.1.1.1.2;have e3:=Nat.le_of_ble_eq_true hb.1.1.2;have e4:=Nat.eq_of_beq_eq_true hb.1.2;have en:=Nat.eq_of_beq_eq_true hb.2.1;have e6:=Nat.eq_of_beq_eq_true hb.2.2;subst en;split at h
     ·rename_i ds gs hg;split at h
      ·rename_i e zg he;obtain ⟨z1,z2⟩:=pv hz s.H s.N;obtain ⟨p1,p2⟩:=AN hs hq;have hf:=AO (TA.av s.H) hr;have e7:(q.map fun p=>(p.1,p.2.map (TA.av s.H)))=q.map fun p=>(p.1,di s.H p.2):=List.map_congr_left fun p _=>by rw [cW]
       have e5:((List.range 1).flatMap fun _=>zs).map (TA.av s.H)=(List.range 1).flatMap fun _=>di s.H zs:=by rw [List.map_flatMap,cW]
       rw [e7,e5,← cW] at hf;obtain ⟨d1,d2,d3⟩:=Nx hg;obtain ⟨g,g1,g2⟩:=d3 (AQ zg);rw [Nat.one_mul] at e4;have lX:=Nh (P:=E.P) (N:=s.N) (e:=bV (madeOf false u) u [e]) (g:=g) (L:=gs) ho ht hi z1 (by rw [bC];exact e1) e2 e3 p1 hf (by
        refine ⟨fun k hk=>?_,g1.dj⟩;have FG:k < ti.size:=by rw [bC] at hk;omega
        have:=g1.abx k hk;rw [Nat.div_eq_of_lt FG,Nat.mod_eq_of_lt FG,ve (Tk _ u)];have h8:cz u [e] 0 k=(ds.map cL).getD k .top:=by
         simp only [cz,List.getD_cons_zero];rw [← fw,eU he]
        rw [h8];exact this) (fun k hk b9 OQ=>g2 k (by rw [bC] at hk;exact hk) b9 OQ)
       refine Ny (k:=1) hs h lX (wK fun h=>absurd h (by omega)) ?_ (by simp only [TA.wf];omega) ?_
       ·simp only [TA.av,cA,aS,Nat.beq_refl,fv,List.length_singleton,AS];rw [e6];exact g8.refl _
       ·simp only [aX.du,List.length_singleton,AS];rw [e6];exact eg.refl _
      ·cases h
     ·cases h
    ·cases h
   ·cases h
  ·cases h
 ·cases h
def Hi (E:Env) (s:bL) (t:TypeId) (κ:cu→Option R):Option R:=
 match E.P.underlying t with
 | some (.slice et)=>match E.P.info? et,Cw E.P et,Lw E.tc et with
  | some ti,some zs,some u=>if Nat.beq zs.length ti.size&&(!Nat.beq ti.size 0&&Nat.beq (ff u) ti.size) then κ ⟨.ow s.N,[(s.N,some (.row u (madeOf true u) []))],1⟩ else none
  | _,_,_=>none
 | _=>none
theorem OU {E:Env} {o:Oper} {s:bL} {κ:cu→Option R} {z:R} {t:TypeId} (ho:o.op=.buildSlice t 0 ⟨[]⟩) (hs:s.ok) (h:Hi E s t κ=some z):vh E.P o s κ z:=by
 unfold Hi at h;split at h
 ·rename_i et ht;split at h
  ·rename_i ti zs u hi hz _;split at h
   ·rename_i hb;simp only [Bool.and_eq_true,Bool.not_eq_true'] at hb;have e1:=Nat.eq_of_beq_eq_true hb.1;have e2:=Nat.ne_of_beq_eq_false hb.2.1;have e3:=Nat.eq_of_beq_eq_true hb.2.2;obtain ⟨z1,z2⟩:=pv hz s.H s.N;have lX:=M9 (P:=E.P) (s:=s.st) (N:=s.N) (e:=bV (madeOf true u) u []) ho ht hi z1 (by rw [bC];exact e1) e2;refine g6 (k:=1) hs h lX mZ ?_ (by simp only [TA.wf];omega) ?_ (fun l' e=>by cases e)
    ·simp only [TA.av,fv,pt,if_true,List.length_nil,AS,e3];exact g8.refl _
    ·simp only [aX.du,List.length_nil,AS,e3];exact eg.refl _
   ·cases h
  ·cases h
 ·cases h
end Go.Proofs.YtjkbbdldmdajkaaGreatDoor.c5
