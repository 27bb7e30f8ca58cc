/- Rows whose parts are rows of the call's own, in the evaluator: told whole again; stores, rows that are made, literals. No condition. -/
import Derived.Test.YtljfmaaadnoggaaVLO
namespace Go.Proofs.Ytljfmaaadnoggaa.Abs
open Go Go.RowKit
variable {w w' w'':World} {F F' F'' O O' O'':Nat→Prop} {μ μ' μ'':Nat→Nat} {K K' K'':Nat→Prop} {ft ft':Nat→Nat→Prop} {P:Program} {R:Type}
def nodupB:List Nat→Bool
 | []=>true
 | i::r=>!(r.any fun j=>Nat.beq i j)&&nodupB r
theorem nodupB_ok:∀ {l:List Nat},nodupB l=true→l.Nodup
 | [],_=>List.nodup_nil
 | i::r,h=>by
  simp only [nodupB,Bool.and_eq_true,Bool.not_eq_true',List.any_eq_false] at h
  exact List.nodup_cons.2 ⟨fun hm=>h.1 i hm (by simp),nodupB_ok h.2⟩
def shutLeaf (H:List (Nat×TBlk)) (t:Ty) (M:Nat):Option Dyn:=match t with
 | .sl u=>match lookH H M with
  | some (.row u' v ys)=>match v.b&&(v.d||u.flat) with
   | true=>if h:u'=u then some ⟨.sl u,h▸ys⟩ else none
   | false=>none
  | _=>none
 | _=>none
def shutD (H:List (Nat×TBlk)) (os:List (Nat×Nat)):Nat→List Dyn→Option (List Dyn)
 | _,[]=>some []
 | off,y::r=>match shutD H os (off+1) r with
  | some r'=>match holOf os off with
   | some M=>match shutLeaf H y.t M with
    | some y'=>some (y'::r')
    | none=>none
   | none=>some (y::r')
  | none=>none
def shutE (H:List (Nat×TBlk)) (os:List (Nat×Nat)) (t:Ty) (x:t.dn):t.dn:=match shutD H os 0 (tget t x) with
 | some ds=>match bld t ds with
  | some y=>y
  | none=>x
 | none=>x
def shut1 (s:TSt) (id:Nat):TSt:=match lookH s.H id with
 | some (.hrow t v xs i os)=>match v.d&&(nodupB (os.map (·.1))&&(nodupB (os.map (·.2))&&(os.all fun p=>p.1.blt (tsz t)))) with
  | true=>match shutD s.H os 0 (tget t (nth t.df xs i)) with
   | some ds=>match bld t ds with
    | some _=>⟨s.nt,s.N,s.tm,updH s.H ((id,some (.row t v (mod' xs i (shutE s.H os t))))::(os.map (·.2)).map fun i=>(i,none))⟩
    | none=>s
   | none=>s
  | false=>s
 | _=>s
def shuts (s:TSt):List Nat→TSt
 | []=>s
 | i::r=>shuts (shut1 s i) r
theorem shutLeaf_ok {H:List (Nat×TBlk)} {t:Ty} {M:Nat} {y:Dyn} (h:shutLeaf H t M=some y):∃ (u:Ty) (v:RV) (ys:List u.dn),t=.sl u∧lookH H M=some (.row u v ys)∧v.b=true∧(v.d||u.flat)=true∧y=⟨.sl u,ys⟩:=by
 unfold shutLeaf at h
 split at h
 ·rename_i u
  split at h
  ·rename_i u' v ys hM
   split at h
   ·rename_i hc
    simp only [Bool.and_eq_true] at hc
    split at h
    ·rename_i e
     subst e
     cases h
     exact ⟨_,v,ys,rfl,hM,hc.1,hc.2,rfl⟩
    ·cases h
   ·cases h
  ·cases h
 ·cases h
theorem shutD_ok {H:List (Nat×TBlk)} {os:List (Nat×Nat)}:∀ {l:List Dyn} {off:Nat} {ds:List Dyn},shutD H os off l=some ds→ds.length=l.length∧∀ k (h:k < l.length) (h':k < ds.length),match holOf os (off+k) with
  | some M=>shutLeaf H l[k].t M=some ds[k]
  | none=>ds[k]=l[k]
 | [],off,ds,h=>by cases h;exact ⟨rfl,fun k h=>by cases h⟩
 | y::r,off,ds,h=>by
  simp only [shutD] at h
  split at h
  ·rename_i r' hr
   obtain ⟨h1,h2⟩:=shutD_ok hr
   have tail:∀ (y':Dyn) k (hk:k+1 < (y::r).length) (hk':k+1 < (y'::r').length),match holOf os (off+(k+1)) with
     | some M=>shutLeaf H (y::r)[k+1].t M=some (y'::r')[k+1]
     | none=>(y'::r')[k+1]=(y::r)[k+1]:=fun y' k hk hk'=>by
    have:=h2 k (by simpa using hk) (by simpa using hk')
    rw [show off+(k+1)=off+1+k by omega]
    simpa only [List.getElem_cons_succ] using this
   split at h
   ·rename_i M hM
    split at h
    ·rename_i y' hy
     cases h
     refine ⟨by simp [h1],fun k hk hk'=>?_⟩
     cases k with
     | zero=>rw [Nat.add_zero,hM];exact hy
     | succ k=>exact tail y' k hk hk'
    ·cases h
   ·rename_i hM
    cases h
    refine ⟨by simp [h1],fun k hk hk'=>?_⟩
    cases k with
    | zero=>rw [Nat.add_zero,hM];rfl
    | succ k=>exact tail y k hk hk'
  ·cases h
theorem clE_out {i:Nat} {i' j':Nat}:∀ {L:List Hol} {e:Nat→Nat→AV},¬ (i'=i∧∃ p,p∈L∧p.j=j')→clE i L e i' j'=e i' j'
 | [],e,_=>rfl
 | p::r,e,h=>by
  simp only [clE]
  rw [clE_out (L:=r) fun ⟨h1,q,h2,h3⟩=>h ⟨h1,q,by simp [h2],h3⟩]
  exact if_neg fun ⟨h1,h2⟩=>h ⟨h1,p,by simp,h2.symm⟩
theorem clE_in {i:Nat}:∀ {L:List Hol} {e:Nat→Nat→AV} {p:Hol},p∈L→(L.map (·.j)).Nodup→clE i L e i p.j=.os p.esz p.n p.e
 | [],e,p,h,_=>by cases h
 | q::r,e,p,h,hd=>by
  simp only [List.map_cons,List.nodup_cons] at hd
  simp only [clE]
  rcases List.mem_cons.1 h with rfl | h
  ·rw [clE_out fun ⟨_,p',h2,h3⟩=>hd.1 (h3▸List.mem_map.2 ⟨p',h2,rfl⟩)]
   simp
  ·exact clE_in h hd.2
theorem holOf_of {os:List (Nat×Nat)}:∀ {p:Nat×Nat},p∈os→(os.map (·.1)).Nodup→holOf os p.1=some p.2:=by
 induction os with
 | nil=>intro p h;cases h
 | cons q r ih=>
  intro p h hd
  simp only [List.map_cons,List.nodup_cons] at hd
  simp only [holOf]
  rcases List.mem_cons.1 h with rfl | h
  ·rw [Nat.beq_refl]
  ·have hne:¬ p.1=q.1:=fun e=>hd.1 (e▸List.mem_map.2 ⟨p,h,rfl⟩)
   rw [nbeq_ne hne]
   exact ih h hd.2
theorem shut1_ok {s:TSt} {a:Act} (id:Nat) (ho:s.ok) (hs:SR w F O μ (below s.N) s.st ft a):(shut1 s id).ok∧(shut1 s id).N=s.N∧(shut1 s id).nt=s.nt∧Sub s.H (shut1 s id).H s.N∧∃ ft',SR w F O μ (below s.N) (shut1 s id).st ft' a:=by
 have same:s.ok∧s.N=s.N∧s.nt=s.nt∧Sub s.H s.H s.N∧∃ ft',SR w F O μ (below s.N) s.st ft' a:=⟨ho,rfl,rfl,Sub.refl _ _,ft,hs⟩
 unfold shut1
 split
 ·rename_i t v xs i os hb
  split
  ·rename_i hc
   simp only [Bool.and_eq_true] at hc
   obtain ⟨hv,hn1,hn2,hlt⟩:=hc
   have hn1:=nodupB_ok hn1
   have hn2:=nodupB_ok hn2
   split
   ·rename_i ds hds
    split
    ·rename_i e he
     obtain ⟨d1,d2⟩:=shutD_ok hds
     have hsto:Sto t.df xs i e (mod' xs i (shutE s.H os t)):=sto_mod (by simp only [shutE,hds,he])
     generalize mod' xs i (shutE s.H os t)=ys at hsto
     have htg:=tget_length t (nth t.df xs i)
     have part:∀ p,p∈os→∃ (u:Ty) (v':RV) (ys:List u.dn) (hk:p.1 < ds.length),lookH s.H p.2=some (.row u v' ys)∧v'.b=true∧(v'.d||u.flat)=true∧ds[p.1]=⟨.sl u,ys⟩:=fun p hp=>by
      have h1:p.1 < tsz t:=Nat.le_of_ble_eq_true (List.all_eq_true.1 hlt p hp)
      have hk:p.1 < ds.length:=by omega
      have h2:=d2 p.1 (by omega) hk
      rw [Nat.zero_add,holOf_of hp hn1] at h2
      obtain ⟨u,v',ys,_,q2,q3,q4,q5⟩:=shutLeaf_ok h2
      exact ⟨u,v',ys,hk,q2,q3,q4,q5⟩
     let H2:List (Nat×TBlk):=updH s.H ((id,some (.row t v ys))::(os.map (·.2)).map fun i=>(i,none))
     have hplen:ys.length=xs.length:=hsto.1
     have hsub:Sub s.H H2 s.N:=sub_put fun _=>by rw [hb];simp only [shp,hplen]
     have hput:=hsto.2
     have hids:∀ p,p∈os→p.2≠id:=fun p hp h=>by
      obtain ⟨u,v',ys,_,q2,_⟩:=part p hp
      rw [h,hb] at q2;cases q2
     have cellsOut:∀ i' j,i' < xs.length→i'≠i.toNat→vcells v t ys i' j=vcells v t xs i' j:=fun i' j hi' hne=>by
      simp only [vcells,rcells,hput i' hi',if_neg hne]
     have cellsIn:∀ j,i.toNat < xs.length→j < tsz t→∃ hj:j < ds.length,vcells v t ys i.toNat j=(dav ds[j]).deep:=fun j hi hj=>by
      refine ⟨by omega,?_⟩
      simp only [vcells,hv]
      rw [rcells_at,hput _ hi,if_pos rfl,bld_some he,List.getElem?_eq_getElem (show j < ds.length by omega)]
     have fin:∀ {μ':Nat→Nat} {ft':Nat→Nat→Prop},HR w F O μ (below s.N) (hpT H2) ft'→TSt.ok ⟨s.nt,s.N,s.tm,H2⟩∧s.N=s.N∧s.nt=s.nt∧Sub s.H H2 s.N∧∃ ft',SR w F O μ (below s.N) (TSt.st ⟨s.nt,s.N,s.tm,H2⟩) ft' a:=fun {μ' ft'} hr=>by
      refine ⟨⟨fun k=>(av_sub hsub (Nat.le_refl _) _ (ho.tm k)).2,fun id' b hb'=>?_⟩,rfl,rfl,hsub,ft',hr,hs.nt,fun k=>?_,hs.df⟩
      ·have hb':lookH H2 id'=some b:=hb'
       simp only [H2,updH,lookH] at hb'
       cases q:Nat.beq id' id with
       | true=>rw [q] at hb';cases hb';simp only [TBlk.refs,wfL]
       | false=>
        rw [q] at hb'
        rcases look_strike s.H id' (os.map (·.2)) with ⟨_,x,k2⟩ | ⟨_,k2⟩
        ·rw [k2] at hb';cases hb';simp only [TBlk.refs,wfL]
        ·rw [k2] at hb';exact (avL_sub hsub (Nat.le_refl _) _ (ho.H id' _ hb')).2
      ·show VR w F μ _ ((look s.tm k).av H2) _
       rw [(av_sub hsub (Nat.le_refl _) _ (ho.tm k)).1]
       exact hs.tm k
     have rest:∀ id' b',hpT H2 id'=some b'→id'≠id→id' ∉ os.map (·.2)∧s.st.H id'=some b':=fun id' b' hb' hne=>by
      obtain ⟨B,hB,hBv,rfl⟩:=hpT_some hb'
      simp only [H2,updH,lookH,nbeq_ne hne] at hB
      rcases look_strike s.H id' (os.map (·.2)) with ⟨_,x,k2⟩ | ⟨k1,k2⟩
      ·rw [k2] at hB;cases hB;cases hBv
      ·rw [k2] at hB
       refine ⟨k1,?_⟩
       rw [blk_sub hsub (ho.H id' _ hB)]
       exact st_at hB hBv
     have at_id:hpT H2 id=some (.row v.b (tsz t) xs.length (vcells v t ys)):=by
      have:lookH H2 id=some (.row t v ys):=by simp only [H2,updH,lookH,Nat.beq_refl]
      rw [hpT_of this rfl];simp only [TBlk.blk,hplen]
     by_cases hi:i.toNat < xs.length
     ·let L:List Hol:=os.map fun p=>match lookH s.H p.2 with
       | some (.row u v' ys)=>⟨⟨p.1,tsz u,ys.length,vcells v' u ys⟩,p.2⟩
       | _=>⟨⟨p.1,0,0,fun _ _=>.top⟩,p.2⟩
      have hLj:L.map (·.j)=os.map (·.1):=by
       simp only [L,List.map_map]
       exact List.map_congr_left fun p hp=>by
        obtain ⟨u,v',ys,_,q2,_⟩:=part p hp
        simp only [Function.comp,q2]
      have hLM:L.map (·.M)=os.map (·.2):=by
       simp only [L,List.map_map]
       exact List.map_congr_left fun p hp=>by
        obtain ⟨u,v',ys,_,q2,_⟩:=part p hp
        simp only [Function.comp,q2]
      have hLp:∀ q,q∈L→∃ p,p∈os∧∃ (u:Ty) (v':RV) (ys:List u.dn) (hk:p.1 < ds.length),lookH s.H p.2=some (.row u v' ys)∧v'.b=true∧(v'.d||u.flat)=true∧ds[p.1]=⟨.sl u,ys⟩∧q=⟨⟨p.1,tsz u,ys.length,vcells v' u ys⟩,p.2⟩:=fun q hq=>by
       obtain ⟨p,hp,rfl⟩:=List.mem_map.1 hq
       obtain ⟨u,v',ys,hk,q2,q3,q4,q5⟩:=part p hp
       exact ⟨p,hp,u,v',ys,hk,q2,q3,q4,q5,by rw [q2]⟩
      obtain ⟨ft',h1⟩:=close_list (i:=i.toNat) L hs.hr (st_at hb) hi (fun q hq=>by
       obtain ⟨p,hp,u,v',ys,hk,q2,q3,q4,q5,rfl⟩:=hLp q hq
       refine ⟨Nat.le_of_ble_eq_true (List.all_eq_true.1 hlt p hp),?_,?_⟩
       ·simp only [hcells,if_true,holOf_of hp hn1,TA.av,q2,shp,q3]
       ·rw [st_at q2];simp only [TBlk.blk,q3]) (by rw [hLj];exact hn1) (by rw [hLM];exact hn2)
      rw [hLM] at h1
      refine fin (μ':=μ) (h1.imp fun id' b' hb'=>?_)
      by_cases q:id'=id
      ·subst q
       rw [at_id] at hb'
       cases hb'
       refine ⟨_,if_pos rfl,bimp_unh fun i' j hi' hj=>?_⟩
       have key:clE i.toNat L (hcells s.H v t xs i os) i' j=vcells v t ys i' j:=by
        by_cases q:i'=i.toNat
        ·subst q
         obtain ⟨hjd,hc2⟩:=cellsIn j hi hj
         rw [hc2]
         have h2:=d2 j (by omega) hjd
         rw [Nat.zero_add] at h2
         cases hM:holOf os j with
         | none=>
          rw [hM] at h2
          rw [clE_out fun ⟨_,q,hq,hqj⟩=>by
           obtain ⟨p,hp,u,v',ys,hk,q2,q3,q4,q5,rfl⟩:=hLp q hq
           have h7:=holOf_of hp hn1
           simp only at hqj
           rw [hqj,hM] at h7;cases h7]
          simp only [hcells,if_true,hM]
          rw [h2]
          simp only [vcells,hv]
          rw [rcells_at,List.getElem?_eq_getElem (show j < (tget t (xs.getD i.toNat t.df)).length by rw [tget_length];exact hj)]
          rfl
         | some M=>
          have hp:=holOf_mem hM
          obtain ⟨u,v',ys,hk,q2,q3,q4,q5⟩:=part (j,M) hp
          have hin:(⟨⟨j,tsz u,ys.length,vcells v' u ys⟩,M⟩:Hol)∈L:=List.mem_map.2 ⟨(j,M),hp,by simp only [q2]⟩
          rw [show clE i.toNat L (hcells s.H v t xs i os) i.toNat j=.os (tsz u) ys.length (vcells v' u ys) from clE_in hin (by rw [hLj];exact hn1),q5]
          show AV.os _ _ _=AV.os _ _ fun i j=>(rcells u ys i j).deep
          congr 1
          funext i' j'
          exact vcells_kind q4 ys i' j'
        ·rw [clE_out fun h=>q h.1]
         simp only [hcells,if_neg q]
         exact (cellsOut i' j hi' q).symm
       exact ⟨key,rcells t ys i' j,rcells_dat _ _ _ _,by rw [key];simp only [vcells,hv]⟩
      ·obtain ⟨k1,k2⟩:=rest id' b' hb' q
       refine ⟨b',?_,BImp.refl _⟩
       simp only [Hp.upd,if_neg q]
       rw [strike_upd,if_neg k1]
       exact k2
     ·refine fin (μ':=μ) (hs.hr.imp fun id' b' hb'=>?_)
      by_cases q:id'=id
      ·subst q
       rw [at_id] at hb'
       cases hb'
       refine ⟨_,st_at hb,bimp_unh fun i' j hi' hj=>?_⟩
       have hne:i'≠i.toNat:=by omega
       have key:hcells s.H v t xs i os i' j=vcells v t ys i' j:=by
        simp only [hcells,if_neg hne]
        exact (cellsOut i' j hi' hne).symm
       exact ⟨key,rcells t ys i' j,rcells_dat _ _ _ _,by rw [key];simp only [vcells,hv]⟩
      ·obtain ⟨_,k2⟩:=rest id' b' hb' q
       exact ⟨b',k2,BImp.refl _⟩
    ·exact same
   ·exact same
  ·exact same
 ·exact same
theorem shuts_ok {a:Act}:∀ (L:List Nat) {s:TSt} {ft:Nat→Nat→Prop},s.ok→SR w F O μ (below s.N) s.st ft a→(shuts s L).ok∧(shuts s L).N=s.N∧(shuts s L).nt=s.nt∧Sub s.H (shuts s L).H s.N∧∃ ft',SR w F O μ (below s.N) (shuts s L).st ft' a
 | [],s,ft,ho,hs=>⟨ho,rfl,rfl,Sub.refl _ _,ft,hs⟩
 | i::r,s,ft,ho,hs=>by
  obtain ⟨h1,h2,h3,h4,ft1,h5⟩:=shut1_ok i ho hs
  obtain ⟨k1,k2,k3,k4,ft2,k5⟩:=shuts_ok r h1 (by rw [h2];exact h5)
  refine ⟨k1,k2.trans h2,k3.trans h3,fun id hid=>(k4 id (by rw [h2];exact hid)).trans (h4 id hid),ft2,?_⟩
  rw [h2] at k5;exact k5
def hrowsOf:List (Nat×TBlk)→List Nat
 | []=>[]
 | (i,.hrow _ _ _ _ _)::r=>i::hrowsOf r
 | _::r=>hrowsOf r
def giveT (H:List (Nat×TBlk)) (t:Ty) (a:TA):Option (Dyn×List Nat):=match t with
 | .sl u=>match a with
  | .nils=>some (⟨.sl u,[]⟩,[])
  | .ow M=>match shutLeaf H (.sl u) M with
   | some y=>some (y,[M])
   | none=>none
  | _=>none
 | t=>match leafD t a with
  | some y=>some (y,[])
  | none=>none
def giveL (H:List (Nat×TBlk)):List Ty→List TA→Option (List Dyn×List Nat)
 | [],[]=>some ([],[])
 | t::ts,a::l=>match giveT H t a,giveL H ts l with
  | some (y,g),some (r,gs)=>some (y::r,g++gs)
  | _,_=>none
 | _,_=>none
theorem giveT_leaf {H:List (Nat×TBlk)} {t:Ty} {a:TA} (ht:t.isSl=false):giveT H t a=match leafD t a with
  | some y=>some (y,[])
  | none=>none:=by
 cases t<;>first | rfl | cases ht
theorem giveT_ok {s:TSt} {t:Ty} {a:TA} {y:Dyn} {g:List Nat} (h:giveT s.H t a=some (y,g)):y.t=t∧Give s.st (a.av s.H) (dav y).deep g:=by
 cases ht:t.isSl with
 | false=>
  rw [giveT_leaf ht] at h
  split at h
  ·rename_i y' hy
   cases h
   obtain ⟨h1,h2,h3⟩:=leafD_some hy
   refine ⟨h1,?_⟩
   rw [dav_deep (by rw [h1];exact ht)]
   exact .clo _ _ (fun hv=>clo_leafOf (leafD_leafOf hy) hv) (fun hv=>dav_one h2 (h3 _ hv)) fun hv=>h3 _ hv
  ·cases h
 | true=>
  cases t with
  | sl u=>
   simp only [giveT] at h
   split at h
   ·cases h
    exact ⟨rfl,.nils _ _⟩
   ·rename_i M
    split at h
    ·rename_i y' hy
     cases h
     obtain ⟨u',v,ys,q1,q2,q3,q4,rfl⟩:=shutLeaf_ok hy
     cases q1
     refine ⟨rfl,?_⟩
     have h1:(TA.ow M).av s.H=rowAV true M ys.length (tsz u):=by simp only [TA.av,q2,shp,q3]
     rw [h1]
     refine .own M ys.length (tsz u) _ ?_
     rw [st_at q2]
     simp only [TBlk.blk,q3]
     congr 2
     funext i j
     exact vcells_kind q4 ys i j
    ·cases h
   ·cases h
  | _=>cases ht
theorem giveL_ok {s:TSt}:∀ {ts:List Ty} {l:List TA} {r:List Dyn} {gs:List Nat},giveL s.H ts l=some (r,gs)→r.length=l.length∧r.map (·.t)=ts∧(gs.Nodup→∃ g:Nat→List Nat,Gives s.st (avL s.H l) (fun k=>((r.map dav).getD k .top).deep) g∧∀ k,k < l.length→∀ id,id∈g k→id∈gs)
 | [],[],r,gs,h=>by cases h;exact ⟨rfl,rfl,fun _=>⟨fun _=>[],⟨fun k hk=>by simp [avL] at hk,fun k k' id hk=>by simp [avL] at hk⟩,fun k hk=>by cases hk⟩⟩
 | [],_::_,r,gs,h=>by cases h
 | _::_,[],r,gs,h=>by cases h
 | t::ts,a::l,r,gs,h=>by
  simp only [giveL] at h
  split at h
  ·rename_i y g r' gs' hy hr
   cases h
   obtain ⟨h1,h2⟩:=giveT_ok hy
   obtain ⟨k1,k2,k3⟩:=giveL_ok hr
   refine ⟨by simp [k1],by simp [h1,k2],fun hd=>?_⟩
   obtain ⟨d1,d2,d3⟩:=List.nodup_append.1 hd
   obtain ⟨G,q1,q2⟩:=k3 d2
   have hlen:(avL s.H l).length=l.length:=avL_length _ _
   refine ⟨fun k=>match k with | 0=>g | k+1=>G k,⟨fun k hk=>?_,fun k k' id hk hk' hm hm'=>?_⟩,fun k hk id hm=>?_⟩
   ·cases k with
    | zero=>simpa only [avL,List.getD_cons_zero,List.map_cons] using h2
    | succ k=>simpa only [avL,List.getD_cons_succ,List.map_cons] using q1.give k (by simpa [avL] using hk)
   ·cases k with
    | zero=>
     cases k' with
     | zero=>rfl
     | succ k'=>exact absurd rfl (d3 id hm id (q2 k' (by simp [avL,hlen] at hk';exact hk') id hm'))
    | succ k=>
     cases k' with
     | zero=>exact absurd rfl (d3 id hm' id (q2 k (by simp [avL,hlen] at hk;exact hk) id hm))
     | succ k'=>rw [q1.dj k k' id (by simpa [avL] using hk) (by simpa [avL] using hk') hm hm']
   ·cases k with
    | zero=>exact List.mem_append.2 (.inl hm)
    | succ k=>exact List.mem_append.2 (.inr (q2 k (by simpa using hk) id hm))
  ·cases h
theorem evr_putS {o:Oper} {s:TSt} {κ:TRes→Option R} {z:R} {rv:AV} {v:TA} {id0 k:Nat} {b:TBlk} {B:Blk} {L:List Nat} (hs:s.ok) (hk:κ ⟨v,(id0,some b)::L.map fun i=>(i,none),k⟩=some z) (h:OpOk P o s.st ⟨rv,(id0,some B)::strike L,List.range' s.N k⟩)
  (hsub:Sub s.H (updH s.H ((id0,some b)::L.map fun i=>(i,none))) s.N) (hv:Imp rv (v.av (updH s.H ((id0,some b)::L.map fun i=>(i,none))))) (hw:v.wf (updH s.H ((id0,some b)::L.map fun i=>(i,none))) (s.N+k))
  (hB:BImp B (b.blk (updH s.H ((id0,some b)::L.map fun i=>(i,none))))) (hr:b.refs=[]:=by rfl):EvR P o s κ z:=by
 refine ⟨⟨v,(id0,some b)::L.map fun i=>(i,none),k⟩,tok_put hs h hsub hv hB,⟨hsub,hw,fun id l hl=>?_⟩,hk⟩
 simp only [List.mem_cons,Prod.mk.injEq,Option.some.injEq,List.mem_map] at hl
 rcases hl with ⟨_,h⟩ | ⟨_,_,_,h⟩
 ·rw [h,hr];simp only [wfL]
 ·cases h
def evStoreO (P:Program) (H:List (Nat×TBlk)) (t:TypeId) (x y:TA) (κ:TRes→Option R):Option R:=
 match P.info? t,cellsTA H y,x with
 | some ti,some l,.rp id i off=>match lookH H id with
  | some (.row u v xs)=>if Nat.beq l.length ti.size&&((off+l.length).ble (tsz u)&&v.d) then (match giveL H (((tlts u).drop off).take l.length) l with
   | some (ds,gs)=>if nodupB gs&&!(gs.any fun j=>Nat.beq id j) then (match bld u (((tget u (nth u.df xs i)).take off)++(ds++(tget u (nth u.df xs i)).drop (off+l.length))) with
    | some e=>match Nat.beq l.length (tsz u) with
     | true=>κ ⟨.lit undef,(id,some (.row u v (put' xs i e)))::gs.map fun i=>(i,none),0⟩
     | false=>κ ⟨.lit undef,(id,some (.row u v (mod' xs i (layE u off l.length ds))))::gs.map fun i=>(i,none),0⟩
    | none=>none) else none
   | none=>none) else none
  | _=>none
 | _,_,_=>none
theorem evStoreO_ok {o:Oper} {s:TSt} {κ:TRes→Option R} {z:R} {x y:Operand} {t:TypeId} (ho:o.op=.store t x y) (hs:s.ok) (h:evStoreO P s.H t (s.val x) (s.val y) κ=some z):EvR P o s κ z:=by
 unfold evStoreO at h
 split at h
 ·rename_i ti l id i off hi hl hx
  obtain ⟨hc,_⟩:=cellsTA_ok hl (val_wf hs y)
  split at h
  ·rename_i u v xs hb
   split at h
   ·rename_i hcc
    simp only [Bool.and_eq_true] at hcc
    have hsz:=Nat.eq_of_beq_eq_true hcc.1
    have hle:=Nat.le_of_ble_eq_true hcc.2.1
    have hv:=hcc.2.2
    split at h
    ·rename_i ds gs hg
     split at h
     ·rename_i hnd
      simp only [Bool.and_eq_true,Bool.not_eq_true',List.any_eq_false] at hnd
      split at h
      ·rename_i e he
       obtain ⟨ys,hsto,h⟩:∃ ys,Sto u.df xs i e ys∧κ ⟨.lit undef,(id,some (.row u v ys))::gs.map fun i=>(i,none),0⟩=some z:=by
        split at h
        ·exact ⟨_,sto_put,h⟩
        ·exact ⟨_,sto_mod (by simp only [layE,he]),h⟩
       obtain ⟨d1,d2,d3⟩:=giveL_ok hg
       obtain ⟨g,g1,g2⟩:=d3 (nodupB_ok hnd.1)
       have hwx:=val_wf hs x
       rw [hx] at hwx
       simp only [TA.wf] at hwx
       have hlt:=hwx.2 u v xs.length (by rw [hb];rfl)
       have h1:=@opd_at s x _ hx
       simp only [TA.av,hb] at h1
       have hlen:=tget_length u (nth u.df xs i)
       have hplen:ys.length=xs.length:=hsto.1
       have hput:=hsto.2
       have hce:∀ j,rcells u ys i.toNat j=((((tget u (nth u.df xs i)).take off)++(ds++(tget u (nth u.df xs i)).drop (off+l.length))).map dav).getD j .top:=fun j=>by
        simp only [rcells]
        rw [hput _ hlt,if_pos rfl,← tget_cells,bld_some he]
       have h7:((tget u (nth u.df xs i)).take off).length=off:=by simp [hlen];omega
       have hop:=op_store_rowO (P:=P) (v:=v.b) (m:=xs.length) (e:=vcells v u xs) (e':=vcells v u ys) (g:=g) (L:=gs) ho hi h1 (opd_val s y) hc (by rw [avL_length];exact hsz) (st_at hb) hlt (by rw [avL_length];exact hle)
        (by
         have e5:(fun k=>vcells v u ys i.toNat (off+k))=fun k=>(rcells u ys i.toNat (off+k)).deep:=by funext k;simp only [vcells,hv]
         rw [e5]
         refine ⟨fun k hk=>?_,g1.dj⟩
         have:=g1.give k hk
         rw [hce]
         have hk':k < l.length:=by rw [avL_length] at hk;exact hk
         have h6:((((tget u (nth u.df xs i)).take off)++(ds++(tget u (nth u.df xs i)).drop (off+l.length))).map dav).getD (off+k) .top=(ds.map dav).getD k .top:=by
          simp only [List.getD,List.map_append]
          rw [List.getElem?_append_right (by simp only [List.length_map,h7];omega)]
          simp only [List.length_map,h7]
          rw [show off+k-off=k by omega,List.getElem?_append_left (by simp only [List.length_map];omega)]
         rw [h6]
         exact this)
        (fun k hk id' hid'=>g2 k (by rw [avL_length] at hk;exact hk) id' hid') (fun hm=>hnd.2 id hm (by simp))
        (fun i' j' hi' hj' hn=>by
         rw [avL_length] at hn
         simp only [vcells,hv]
         congr 1
         by_cases e1:i'=i.toNat
         ·subst e1
          rw [hce]
          have hxe:xs.getD i.toNat u.df=nth u.df xs i:=rfl
          simp only [rcells]
          rw [hxe,← tget_cells]
          simp only [List.getD,List.map_append]
          by_cases h8:j' < off
          ·rw [List.getElem?_append_left (by simp only [List.length_map,h7];exact h8)]
           simp [h8]
          ·have h9:off+l.length≤j':=by omega
           rw [List.getElem?_append_right (by simp only [List.length_map,h7];omega)]
           simp only [List.length_map,h7]
           rw [List.getElem?_append_right (by simp only [List.length_map];omega)]
           simp only [List.length_map,List.getElem?_map,List.getElem?_drop]
           congr 3;omega
         ·simp only [rcells]
          rw [hput _ hi',if_neg e1])
       refine evr_putS (k:=0) hs h hop (sub_put fun _=>by rw [hb];simp only [shp,hplen]) (by simp only [TA.av];exact Imp.refl _) (by simp only [TA.wf]) ?_
       simp only [TBlk.blk,hplen]
       exact BImp.refl _
      ·cases h
     ·cases h
    ·cases h
   ·cases h
  ·cases h
 ·cases h
theorem own_of_give {H:List (Nat×TBlk)} {t:Ty} {a:TA} {y:Dyn} (h:giveT H t a=some (y,[])) {S:Nat→Prop} {u:Value} (hv:OwnR w F μ S (a.av H) u):OwnR w F μ S (dav y).deep u:=by
 cases ht:t.isSl with
 | false=>
  rw [giveT_leaf ht] at h
  split at h
  ·rename_i y' hy
   cases h
   obtain ⟨h1,h2,h3⟩:=leafD_some hy
   rw [dav_deep (by rw [h1];exact ht)]
   have hno:(a.av H).isOs=false:=by
    unfold leafD at hy
    split at hy
    ·simp only [TA.av];exact dav_noos
    ·simp only [TA.av];rfl
    ·cases hy
   obtain ⟨k1,k2⟩:=hv.closed hno
   exact .clo _ _ _ (h3 H k1) k2
  ·cases h
 | true=>
  cases t with
  | sl u=>
   simp only [giveT] at h
   split at h
   ·cases h
    simp only [TA.av] at hv
    obtain ⟨k1,k2⟩:=hv.closed rfl
    rw [k1.nils_inv]
    exact .osnil _ _ _ _ k2
   ·split at h<;>cases h
   ·cases h
  | _=>cases ht
def sameOp:Operand→Operand→Bool
 | .tmp i,.tmp j=>Nat.beq i j
 | _,_=>false
theorem sameOp_ok {x y:Operand} (h:sameOp x y=true):x=y:=by
 unfold sameOp at h
 split at h
 ·rw [Nat.eq_of_beq_eq_true h]
 ·cases h
def madeOf (c:Bool) (u:Ty):RV:=match c,u.flat with
 | true,true=>.vs
 | true,false=>.dv
 | false,true=>.ms
 | false,false=>.dm
theorem madeOf_b (c:Bool) (u:Ty):(madeOf c u).b=c:=by unfold madeOf;cases c<;>cases u.flat<;>rfl
theorem madeOf_d (c:Bool) (u:Ty):((madeOf c u).d||u.flat)=true:=by unfold madeOf;cases c<;>cases u.flat<;>rfl
def evMakeO (E:Env) (s:TSt) (t:TypeId) (c0:Bool) (x y:TA) (κ:TRes→Option R):Option R:=
 match x,y,E.P.underlying t with
 | .d ⟨.int .i64,l⟩,.d ⟨.int .i64,c⟩,some (.slice et)=>match E.P.info? et,zeroT E.P et,tyOf E.tc et with
  | some ti,some zs,some u=>if Nat.beq zs.length ti.size&&Nat.beq ti.size (tsz u) then (match giveL s.H (tlts u) zs with
   | some (ds,[])=>match bld u ds with
    | some e=>req (mkB l c ti.bytes) (κ ⟨.ow s.N,[(s.N,some (.row u (madeOf c0 u) (List.replicate (Int.toNat l) e)))],1⟩)
    | none=>none
   | _=>none) else none
  | _,_,_=>none
 | _,_,_=>none
theorem giveL_nil {H:List (Nat×TBlk)}:∀ {ts:List Ty} {l:List TA} {r:List Dyn},giveL H ts l=some (r,[])→∀ k,k < l.length→∃ t y,giveT H t (l.getD k .top)=some (y,[])∧r[k]?=some y
 | [],[],r,h,k,hk=>by cases hk
 | [],_::_,r,h,_,_=>by cases h
 | _::_,[],r,h,_,_=>by cases h
 | t::ts,a::l,r,h,k,hk=>by
  simp only [giveL] at h
  split at h
  ·rename_i y g r' gs' hy hr
   simp only [Option.some.injEq,Prod.mk.injEq,List.append_eq_nil_iff] at h
   obtain ⟨rfl,rfl,rfl⟩:=h
   cases k with
   | zero=>exact ⟨t,y,hy,rfl⟩
   | succ k=>exact giveL_nil hr k (by simpa using hk)
  ·cases h
theorem give_clo {H:List (Nat×TBlk)} {t:Ty} {a:TA} {y:Dyn} (h:giveT H t a=some (y,[])):Clo (a.av H)∧One (a.av H):=by
 cases ht:t.isSl with
 | false=>
  rw [giveT_leaf ht] at h
  split at h
  ·rename_i y' hy
   obtain ⟨h1,h2,h3⟩:=leafD_some hy
   exact ⟨clo_leafOf (leafD_leafOf hy),fun hv=>dav_one h2 (h3 H hv)⟩
  ·cases h
 | true=>
  cases t with
  | sl u=>
   simp only [giveT] at h
   split at h
   ·simp only [TA.av];exact ⟨fun hv=>by rw [hv.nils_inv];exact .nils,fun hv=>by rw [hv.nils_inv];rfl⟩
   ·split at h<;>cases h
   ·cases h
  | _=>cases ht
theorem evMakeO_ok {E:Env} {o:Oper} {s:TSt} {κ:TRes→Option R} {z:R} {x y:Operand} {t:TypeId} (ho:o.op=.makeSlice t x y) (hs:s.ok) (h:evMakeO E s t (sameOp x y) (s.val x) (s.val y) κ=some z):EvR E.P o s κ z:=by
 unfold evMakeO at h
 split at h
 ·rename_i l c et hx hy ht
  have h1:Opd s.st x (.int .i64 l):=opd_at hx
  have h2:Opd s.st y (.int .i64 c):=opd_at hy
  split at h
  ·rename_i ti zs u hi hz _
   split at h
   ·rename_i hc
    simp only [Bool.and_eq_true] at hc
    have e1:=Nat.eq_of_beq_eq_true hc.1
    have e2:=Nat.eq_of_beq_eq_true hc.2
    split at h
    ·rename_i ds hds
     split at h
     ·rename_i e he
      obtain ⟨q,h⟩:=req_some h
      obtain ⟨q1,q2,q3,q4⟩:=mkB_ok q
      obtain ⟨z1,z2⟩:=zeroT_ok hz s.H s.N
      have hg:=giveL_nil hds
      have hall:∀ a,a∈avL s.H zs→Clo a∧One a:=fun a ha=>by
       rw [avL_map] at ha
       obtain ⟨b,hb,rfl⟩:=List.mem_map.1 ha
       obtain ⟨k,hk,rfl⟩:=List.getElem_of_mem hb
       obtain ⟨t',y',k1,_⟩:=hg k hk
       rw [getD_eq _ _ hk] at k1
       exact give_clo k1
      have hop:=op_make (sameOp x y) (fun hxy=>by
       have:=sameOp_ok hxy
       subst this
       rw [hx] at hy
       simp only [TA.d.injEq,Dyn.mk.injEq,heq_eq_eq,true_and] at hy
       exact hy) (P:=E.P) (N:=s.N) (e:=fun _ j=>(avL s.H zs).getD j .top) ho h1 h2 ht hi z1 (by rw [avL_length];exact e1) (fun a ha=>(hall a ha).1) (fun a ha=>(hall a ha).2) q1 q2 q3 q4 (fun i j hi' hj'=>Imp.refl _)
      refine evr_put (k:=1) hs h hop sub_new ?_ (by simp only [TA.wf];omega) ?_ (fun l' e=>by cases e)
      ·simp only [TA.av,shp,updH_one,if_true,List.length_replicate,madeOf_b]
       rw [e2]
       exact Imp.refl _
      ·simp only [TBlk.blk,List.length_replicate,madeOf_b]
       rw [e2]
       refine bimp_row fun i j hi' hj' {w F μ S u'} hv=>?_
       rw [vcells_kind (madeOf_d _ u),rcells_at]
       have:(List.replicate (Int.toNat l) e).getD i u.df=e:=by simp [List.getD,hi']
       rw [this,bld_some he]
       obtain ⟨t',y',k1,k2⟩:=hg j (by omega)
       rw [k2]
       rw [avL_getD _ _ _ (by omega)] at hv
       exact own_of_give k1 hv
     ·cases h
    ·cases h
   ·cases h
  ·cases h
 ·cases h
def evBuildSlO (E:Env) (s:TSt) (t:TypeId) (n:Nat) (ps:List (Nat×Operand)) (κ:TRes→Option R):Option R:=
 match E.P.underlying t with
 | some (.slice et)=>match E.P.info? et,zeroT E.P et,partsT s ps,tyOf E.tc et with
  | some ti,some zs,some q,some u=>match fillA (fun i=>some (i*ti.size,ti.size)) ((List.range n).flatMap fun _=>zs) q with
   | some r=>if (((Nat.beq zs.length ti.size&&!Nat.beq ti.size 0)&&(n*ti.size).ble 16777216)&&Nat.beq r.length (n*ti.size))&&(Nat.beq n 1&&Nat.beq (tsz u) ti.size) then (match giveL s.H (tlts u) r with
    | some (ds,gs)=>match nodupB gs,bld u ds with
     | true,some e=>κ ⟨.ow s.N,(s.N,some (.row u (madeOf false u) [e]))::gs.map fun i=>(i,none),1⟩
     | _,_=>none
    | none=>none) else none
   | none=>none
  | _,_,_,_=>none
 | _=>none
theorem evBuildSlO_ok {E:Env} {o:Oper} {s:TSt} {κ:TRes→Option R} {z:R} {t:TypeId} {n:Nat} {ps:List (Nat×Operand)} (ho:o.op=.buildSlice t n ⟨ps⟩) (hs:s.ok) (h:evBuildSlO E s t n ps κ=some z):EvR E.P o s κ z:=by
 unfold evBuildSlO at h
 split at h
 ·rename_i et ht
  split at h
  ·rename_i ti zs q u hi hz hq _
   split at h
   ·rename_i r hr
    split at h
    ·rename_i hb
     simp only [Bool.and_eq_true,Bool.not_eq_true'] at hb
     have e1:=Nat.eq_of_beq_eq_true hb.1.1.1.1
     have e2:=Nat.ne_of_beq_eq_false hb.1.1.1.2
     have e3:=Nat.le_of_ble_eq_true hb.1.1.2
     have e4:=Nat.eq_of_beq_eq_true hb.1.2
     have en:=Nat.eq_of_beq_eq_true hb.2.1
     have e6:=Nat.eq_of_beq_eq_true hb.2.2
     subst en
     split at h
     ·rename_i ds gs hg
      split at h
      ·rename_i e hnd he
       obtain ⟨z1,z2⟩:=zeroT_ok hz s.H s.N
       obtain ⟨p1,p2⟩:=partsT_ok hs hq
       have hf:=fillA_map (TA.av s.H) hr
       have e7:(q.map fun p=>(p.1,p.2.map (TA.av s.H)))=q.map fun p=>(p.1,avL s.H p.2):=List.map_congr_left fun p _=>by rw [avL_map]
       have e5:((List.range 1).flatMap fun _=>zs).map (TA.av s.H)=(List.range 1).flatMap fun _=>avL s.H zs:=by rw [List.map_flatMap,avL_map]
       rw [e7,e5,← avL_map] at hf
       obtain ⟨d1,d2,d3⟩:=giveL_ok hg
       obtain ⟨g,g1,g2⟩:=d3 (nodupB_ok hnd)
       rw [Nat.one_mul] at e4
       have hop:=op_buildSliceO (P:=E.P) (N:=s.N) (e:=vcells (madeOf false u) u [e]) (g:=g) (L:=gs) ho ht hi z1 (by rw [avL_length];exact e1) e2 e3 p1 hf (by
        refine ⟨fun k hk=>?_,g1.dj⟩
        have hk':k < ti.size:=by rw [avL_length] at hk;omega
        have:=g1.give k hk
        rw [Nat.div_eq_of_lt hk',Nat.mod_eq_of_lt hk',vcells_kind (madeOf_d _ u)]
        have h8:rcells u [e] 0 k=(ds.map dav).getD k .top:=by
         simp only [rcells,List.getD_cons_zero]
         rw [← tget_cells,bld_some he]
        rw [h8];exact this) (fun k hk id' hid'=>g2 k (by rw [avL_length] at hk;exact hk) id' hid')
       refine evr_putS (k:=1) hs h hop (sub_put fun h=>absurd h (by omega)) ?_ (by simp only [TA.wf];omega) ?_
       ·simp only [TA.av,updH,lookH,Nat.beq_refl,shp,List.length_singleton,madeOf_b]
        rw [e6]
        exact Imp.refl _
       ·simp only [TBlk.blk,List.length_singleton,madeOf_b]
        rw [e6]
        exact BImp.refl _
      ·cases h
     ·cases h
    ·cases h
   ·cases h
  ·cases h
 ·cases h
end Go.Proofs.Ytljfmaaadnoggaa.Abs
