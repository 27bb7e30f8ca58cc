/- The evaluator of operations: rows that are made, literals, append, copy, parts; all operations but calls. No condition. -/
import Derived.Test.YtljfmaaadnoggaaVK
set_option linter.unusedSimpArgs false
set_option linter.unusedVariables false
namespace Go.Proofs.Ytljfmaaadnoggaa.Abs
open Go Go.RowKit
variable {w w' w'':World} {F F' F'' O O' O'':Nat→Prop} {μ μ' μ'':Nat→Nat} {K K' K'':Nat→Prop} {ft ft':Nat→Nat→Prop} {P:Program} {R:Type}
theorem ds_rcells {t:Ty} {e:t.dn} {cs:List TA} {ds:List Dyn} {H:List (Nat×TBlk)} (hd:leafDs (tlts t) cs=some ds) (he:bld t ds=some e) (j:Nat) (hj:j < cs.length):Imp ((cs.getD j .top).av H) ((tcells t e).getD j .top):=by
 obtain ⟨d1,d2,d3,d4⟩:=leafDs_some hd
 rw [← tget_cells,bld_some he]
 intro w F μ K v hv
 exact d4 H j hj hv
def evMake (E:Env) (s:TSt) (t:TypeId) (x y:TA) (κ:TRes→Option R):Option R:=
 match x,y,E.P.underlying t with
 | .d ⟨.int .i64,l⟩,.d ⟨.int .i64,c⟩,some (.slice et)=>match E.P.info? et,zeroT E.P et,tyOf E.tc et with
  | some ti,some zs,some u=>if Nat.beq zs.length ti.size&&Nat.beq ti.size (tsz u) then (match leafDs (tlts u) zs with
   | some ds=>match bld u ds with
    | some e=>req (mkB l c ti.bytes) (κ ⟨.ow s.N,[(s.N,some (.row u .ms (List.replicate (Int.toNat l) e)))],1⟩)
    | none=>none
   | none=>none) else none
  | _,_,_=>none
 | _,_,_=>none
theorem leafDs_clo {ts:List Ty} {l:List TA} {r:List Dyn} (h:leafDs ts l=some r) (H:List (Nat×TBlk)):(∀ a,a∈avL H l→Clo a)∧∀ a,a∈avL H l→One a:=by
 refine ⟨fun b hb=>?_,fun b hb=>?_⟩
 ·rw [avL_map] at hb
  obtain ⟨a,ha,rfl⟩:=List.mem_map.1 hb
  cases cloT:leafOf a with
  | true=>exact clo_leafOf cloT
  | false=>exact absurd cloT (leafDs_leafOf h a ha)
 ·rw [avL_map] at hb
  obtain ⟨a,ha,rfl⟩:=List.mem_map.1 hb
  obtain ⟨k,hk,rfl⟩:=List.getElem_of_mem ha
  obtain ⟨d1,d2,d3,d4⟩:=leafDs_some h
  intro w F μ K v' hv'
  have hv2:VR w F μ K ((l.getD k .top).av H) v':=by rw [getD_eq _ _ hk];exact hv'
  have hk2:k < r.length:=by omega
  have h5:(r.map dav).getD k .top=dav r[k]:=by simp [List.getD,hk2]
  exact dav_one (d3 _ (List.getElem_mem hk2)) (h5▸d4 H k hk hv2)
theorem blk_plain (H:List (Nat×TBlk)) {t:Ty} {v:RV} {xs:List t.dn} (h:v.d=false):(TBlk.row t v xs).blk H=.row v.b (tsz t) xs.length (rcells t xs):=by
 simp only [TBlk.blk]
 congr 1
 funext i j
 simp only [vcells,h]
theorem evMake_ok {E:Env} {o:Oper} {s:TSt} {κ:TRes→Option R} {z:R} {x y:Operand} {t:TypeId} (ho:o.op=.makeSlice t x y) (hs:s.ok) (h:evMake E s t (s.val x) (s.val y) κ=some z):EvR E.P o s κ z:=by
 unfold evMake at h
 split at h
 ·rename_i l c et hx hy ht
  have h1:Opd s.st x (.int .i64 l):=opd_at hx
  have h2:Opd s.st y (.int .i64 c):=opd_at hy
  split at h
  ·rename_i ti zs u hi hz _
   split at h
   ·rename_i hc
    simp only [Bool.and_eq_true] at hc
    have e1:=Nat.eq_of_beq_eq_true hc.1
    have e2:=Nat.eq_of_beq_eq_true hc.2
    split at h
    ·rename_i ds hds
     split at h
     ·rename_i e he
      obtain ⟨q,h⟩:=req_some h
      obtain ⟨q1,q2,q3,q4⟩:=mkB_ok q
      obtain ⟨z1,z2⟩:=zeroT_ok hz s.H s.N
      obtain ⟨c1,c2⟩:=leafDs_clo hds s.H
      have hop:=op_make false (fun h=>by cases h) (P:=E.P) (N:=s.N) (e:=rcells u (List.replicate (Int.toNat l) e)) ho h1 h2 ht hi z1 (by rw [avL_length];exact e1) c1 c2 q1 q2 q3 q4 (fun i j hi' hj'=>by
       rw [avL_getD _ _ _ (by omega)]
       simp only [rcells]
       have:(List.replicate (Int.toNat l) e).getD i u.df=e:=by simp [List.getD,hi']
       rw [this]
       intro w1 F1 μ1 K1 v1 hv1
       exact ds_rcells hds he j (by omega) hv1)
      refine evr_put (k:=1) hs h hop sub_new ?_ (by simp only [TA.wf];omega) ?_ (fun l' e=>by cases e)
      ·simp only [TA.av,shp,updH_one,if_true,List.length_replicate]
       rw [e2]
       exact Imp.refl _
      ·rw [blk_plain _ rfl]
       simp only [List.length_replicate]
       rw [e2]
       exact BImp.refl _
     ·cases h
    ·cases h
   ·cases h
  ·cases h
 ·cases h
def evMakeZ (E:Env) (s:TSt) (t:TypeId) (x y:TA) (κ:TRes→Option R):Option R:=
 match x,y,E.P.underlying t with
 | .d ⟨.int .i64,l⟩,.d ⟨.int .i64,c⟩,some (.slice et)=>match E.P.info? et,zeroT E.P et,tyOf E.tc et with
  | some ti,some zs,some u=>if Nat.beq zs.length ti.size&&Nat.beq ti.size (tsz u) then (match leafDs (tlts u) zs with
   | some ds=>match bld u ds with
    | some e=>req (mkB l c ti.bytes) (req (ilt 0 l) (κ ⟨.ow s.N,[(s.N,some (.row u .vs (List.replicate (Int.toNat l) e)))],1⟩))
    | none=>none
   | none=>none) else none
  | _,_,_=>none
 | _,_,_=>none
theorem evMakeZ_ok {E:Env} {o:Oper} {s:TSt} {κ:TRes→Option R} {z:R} {x y:Operand} {t:TypeId} (ho:o.op=.makeSlice t x y) (hs:s.ok) (h:evMakeZ E s t (s.val x) (s.val y) κ=some z):EvR E.P o s κ z:=by
 unfold evMakeZ at h
 split at h
 ·rename_i l c et hx hy ht
  have h1:Opd s.st x (.int .i64 l):=opd_at hx
  have h2:Opd s.st y (.int .i64 c):=opd_at hy
  split at h
  ·rename_i ti zs u hi hz _
   split at h
   ·rename_i hc
    simp only [Bool.and_eq_true] at hc
    have e1:=Nat.eq_of_beq_eq_true hc.1
    have e2:=Nat.eq_of_beq_eq_true hc.2
    split at h
    ·rename_i ds hds
     split at h
     ·rename_i e he
      obtain ⟨q,h⟩:=req_some h
      obtain ⟨q0,h⟩:=req_some h
      have hlt:@LT.lt Int _ 0 l:=by simpa only [ilt,decide_eq_true_eq] using q0
      have hn0:∀ {m:Nat},m=Int.toNat l→m≠0:=fun {m} e h0=>by
       have h2:Int.toNat l=0:=e▸h0
       have h3:=Int.toNat_eq_zero.1 h2
       exact absurd hlt (Int.not_lt.2 h3)
      obtain ⟨q1,q2,q3,q4⟩:=mkB_ok q
      obtain ⟨z1,z2⟩:=zeroT_ok hz s.H s.N
      obtain ⟨c1,c2⟩:=leafDs_clo hds s.H
      have hop:=op_make false (fun h=>by cases h) (P:=E.P) (N:=s.N) (e:=rcells u (List.replicate (Int.toNat l) e)) ho h1 h2 ht hi z1 (by rw [avL_length];exact e1) c1 c2 q1 q2 q3 q4 (fun i j hi' hj'=>by
       rw [avL_getD _ _ _ (by omega)]
       simp only [rcells]
       have:(List.replicate (Int.toNat l) e).getD i u.df=e:=by simp [List.getD,hi']
       rw [this]
       intro w1 F1 μ1 K1 v1 hv1
       exact ds_rcells hds he j (by omega) hv1)
      refine evr_put (k:=1) hs h hop sub_new ?_ (by simp only [TA.wf];omega) ?_ (fun l' e=>by cases e)
      ·simp only [TA.av,shp,updH_one,if_true,List.length_replicate]
       rw [e2]
       intro w1 F1 μ1 K1 v1 hv1
       have hv1:VR w1 F1 μ1 K1 (.ms s.N 0 l.toNat (tsz u)) v1:=hv1
       show VR w1 F1 μ1 K1 (.vs s.N l.toNat (tsz u)) v1
       cases hv1 with
       | ms _ _ _ _ cap sz t' hid hc2 hs2 hsz=>
        rw [Nat.zero_mul,Nat.zero_add] at *
        exact .vs _ _ _ cap sz t' (hn0 rfl) hid hc2 hs2 hsz
      ·rw [blk_plain _ rfl]
       simp only [List.length_replicate]
       rw [e2]
       exact ⟨fun _=>rfl,fun hB=>hB⟩
     ·cases h
    ·cases h
   ·cases h
  ·cases h
 ·cases h
def partsT (s:TSt):List (Nat×Operand)→Option (List (Nat×List TA))
 | []=>some []
 | (i,x)::r=>match cellsTA s.H (s.val x),partsT s r with
  | some l,some q=>some ((i,l)::q)
  | _,_=>none
theorem partsT_ok {s:TSt} (hs:s.ok):∀ {ps:List (Nat×Operand)} {q:List (Nat×List TA)},partsT s ps=some q→Parts s.st ps (q.map fun p=>(p.1,avL s.H p.2))∧∀ p,p∈q→wfL s.H s.N p.2
 | [],q,h=>by cases h;exact ⟨.nil,fun p hp=>by cases hp⟩
 | (i,x)::r,q,h=>by
  simp only [partsT] at h
  split at h
  ·rename_i l q' hl hq
   cases h
   obtain ⟨h1,h2⟩:=partsT_ok hs hq
   obtain ⟨k1,k2⟩:=cellsTA_ok hl (val_wf hs x)
   refine ⟨.cons (opd_val s x) k1 h1,fun p hp=>?_⟩
   rcases List.mem_cons.1 hp with e | e
   ·rw [e];exact k2
   ·exact h2 p e
  ·cases h
theorem fillA_map {α β:Type} (f:α→β) {place:Nat→Option (Nat×Nat)}:∀ {q:List (Nat×List α)} {cs r:List α},fillA place cs q=some r→fillA place (cs.map f) (q.map fun p=>(p.1,p.2.map f))=some (r.map f)
 | [],cs,r,h=>by cases h;rfl
 | (i,l)::q,cs,r,h=>by
  simp only [fillA] at h
  simp only [List.map_cons,fillA]
  split at h
  ·cases h
  ·rename_i off size hp
   split at h
   ·rename_i hb
    simp only [List.length_map,hb,if_true]
    rw [← setL_map]
    exact fillA_map f h
   ·cases h
theorem fillA_mem {α:Type} {place:Nat→Option (Nat×Nat)}:∀ {q:List (Nat×List α)} {cs r:List α},fillA place cs q=some r→∀ a,a∈r→a∈cs∨∃ p,p∈q∧a∈p.2
 | [],cs,r,h,a,ha=>by cases h;exact .inl ha
 | (i,l)::q,cs,r,h,a,ha=>by
  simp only [fillA] at h
  split at h
  ·cases h
  ·split at h
   ·rcases fillA_mem h a ha with k | ⟨p,k1,k2⟩
    ·rcases setL_mem k with k | k
     ·exact .inl k
     ·exact .inr ⟨(i,l),by simp,k⟩
    ·exact .inr ⟨p,by simp [k1],k2⟩
   ·cases h
theorem fillA_length {α:Type} {place:Nat→Option (Nat×Nat)}:∀ {q:List (Nat×List α)} {cs r:List α},fillA place cs q=some r→r.length=cs.length
 | [],cs,r,h=>by cases h;rfl
 | (i,l)::q,cs,r,h=>by
  simp only [fillA] at h
  split at h
  ·cases h
  ·split at h
   ·rw [fillA_length h,setL_length]
   ·cases h
def evBuild (P:Program) (s:TSt) (t:TypeId) (ps:List (Nat×Operand)) (κ:TRes→Option R):Option R:=
 match P.underlying t with
 | some (.struct fs)=>match zeroT P t,fieldsP P fs.toList,partsT s ps with
  | some zs,some pl,some q=>match fillA (fun i=>pl[i]?) zs q with
   | some r=>κ ⟨.agg r,[],0⟩
   | none=>none
  | _,_,_=>none
 | _=>none
theorem evBuild_ok {o:Oper} {s:TSt} {κ:TRes→Option R} {z:R} {t:TypeId} {ps:List (Nat×Operand)} (ho:o.op=.build t ⟨ps⟩) (hs:s.ok) (h:evBuild P s t ps κ=some z):EvR P o s κ z:=by
 unfold evBuild at h
 split at h
 ·rename_i fs ht
  split at h
  ·rename_i zs pl q hz hp hq
   split at h
   ·rename_i r hr
    obtain ⟨z1,z2⟩:=zeroT_ok hz s.H s.N
    obtain ⟨p1,p2⟩:=partsT_ok hs hq
    have hf:=fillA_map (TA.av s.H) hr
    have e:(q.map fun p=>(p.1,p.2.map (TA.av s.H)))=q.map fun p=>(p.1,avL s.H p.2):=List.map_congr_left fun p _=>by rw [avL_map]
    rw [e] at hf
    have hop:=op_build (P:=P) ho ht z1 hp p1 (r:=avL s.H r) (by rw [avL_map,avL_map];exact hf)
    refine evr_eq h (by simpa only [TA.av] using hop) ?_
    simp only [TA.wf]
    refine wfL_iff.2 fun a ha=>?_
    rcases fillA_mem hr a ha with k | ⟨p,k1,k2⟩
    ·exact wfL_iff.1 z2 a k
    ·exact wfL_iff.1 (p2 p k1) a k2
   ·cases h
  ·cases h
 ·cases h
def bldN (t:Ty):Nat→List TA→Option (List t.dn)
 | 0,_=>some []
 | n+1,cs=>match leafDs (tlts t) (cs.take (tsz t)) with
  | some ds=>match bld t ds,bldN t n (cs.drop (tsz t)) with
   | some e,some r=>some (e::r)
   | _,_=>none
  | none=>none
theorem bldN_ok {t:Ty}:∀ {n:Nat} {cs:List TA} {xs:List t.dn},bldN t n cs=some xs→n*tsz t≤cs.length→xs.length=n∧(∀ a,a∈cs.take (n*tsz t)→leafOf a≠false)∧(∀ H a,a∈avL H (cs.take (n*tsz t))→One a)∧
  ∀ H i j,i < n→j < tsz t→Imp ((cs.getD (i*tsz t+j) .top).av H) (rcells t xs i j)
 | 0,cs,xs,h,_=>by
  cases h
  exact ⟨rfl,by simp,by simp [avL],fun H i j hi=>by omega⟩
 | n+1,cs,xs,h,hl=>by
  simp only [bldN] at h
  split at h
  ·rename_i ds hds
   split at h
   ·rename_i e r he hr
    cases h
    rw [Nat.add_mul,Nat.one_mul] at hl ⊢
    obtain ⟨h1,h2,h3,h4⟩:=bldN_ok hr (by simp;omega)
    have hsp:cs.take (n*tsz t+tsz t)=cs.take (tsz t)++(cs.drop (tsz t)).take (n*tsz t):=by
     rw [Nat.add_comm,List.take_add]
    refine ⟨by simp [h1],fun a ha=>?_,fun H a ha=>?_,fun H i j hi hj=>?_⟩
    ·rw [hsp] at ha
     rcases List.mem_append.1 ha with k | k
     ·exact leafDs_leafOf hds a k
     ·exact h2 a k
    ·rw [hsp,avL_map,List.map_append,← avL_map,← avL_map] at ha
     rcases List.mem_append.1 ha with k | k
     ·exact (leafDs_clo hds H).2 a k
     ·exact h3 H a k
    ·cases i with
     | zero=>
      simp only [Nat.zero_mul,Nat.zero_add,rcells]
      have hj2:j < (cs.take (tsz t)).length:=by simp;omega
      have e2:(cs.take (tsz t)).getD j .top=cs.getD j .top:=by simp [List.getD,List.getElem?_take,hj]
      rw [← e2]
      intro w1 F1 μ1 K1 v1 hv1
      exact ds_rcells hds he j hj2 hv1
     | succ i=>
      have e2:(cs.drop (tsz t)).getD (i*tsz t+j) .top=cs.getD ((i+1)*tsz t+j) .top:=by
       simp only [List.getD,List.getElem?_drop]
       congr 2
       rw [Nat.add_mul,Nat.one_mul];omega
      rw [← e2]
      intro w1 F1 μ1 K1 v1 hv1
      exact h4 H i j (by omega) hj hv1
   ·cases h
  ·cases h
def evBuildSl (E:Env) (s:TSt) (t:TypeId) (n:Nat) (ps:List (Nat×Operand)) (κ:TRes→Option R):Option R:=
 match E.P.underlying t with
 | some (.slice et)=>match E.P.info? et,zeroT E.P et,partsT s ps with
  | some ti,some zs,some q=>match fillA (fun i=>some (i*ti.size,ti.size)) ((List.range n).flatMap fun _=>zs) q with
   | some r=>if ((Nat.beq zs.length ti.size&&!Nat.beq ti.size 0)&&(n*ti.size).ble 16777216)&&Nat.beq r.length (n*ti.size) then
     (match tyOf E.tc et with
     | some u=>if Nat.beq (tsz u) ti.size then (match bldN u n r with
      | some xs=>κ ⟨.ow s.N,[(s.N,some (.row u .ms xs))],1⟩
      | none=>none) else none
     | none=>κ ⟨.bs s.N n ti.size,[(s.N,some (.box r))],1⟩) else none
   | none=>none
  | _,_,_=>none
 | _=>none
theorem evBuildSl_ok {E:Env} {o:Oper} {s:TSt} {κ:TRes→Option R} {z:R} {t:TypeId} {n:Nat} {ps:List (Nat×Operand)} (ho:o.op=.buildSlice t n ⟨ps⟩) (hs:s.ok) (h:evBuildSl E s t n ps κ=some z):EvR E.P o s κ z:=by
 unfold evBuildSl at h
 split at h
 ·rename_i et ht
  split at h
  ·rename_i ti zs q hi hz hq
   split at h
   ·rename_i r hr
    split at h
    ·rename_i hb
     simp only [Bool.and_eq_true,Bool.not_eq_true'] at hb
     have e1:=Nat.eq_of_beq_eq_true hb.1.1.1
     have e2:=Nat.ne_of_beq_eq_false hb.1.1.2
     have e3:=Nat.le_of_ble_eq_true hb.1.2
     have e4:=Nat.eq_of_beq_eq_true hb.2
     obtain ⟨z1,z2⟩:=zeroT_ok hz s.H s.N
     obtain ⟨p1,p2⟩:=partsT_ok hs hq
     have hf:=fillA_map (TA.av s.H) hr
     have e:(q.map fun p=>(p.1,p.2.map (TA.av s.H)))=q.map fun p=>(p.1,avL s.H p.2):=List.map_congr_left fun p _=>by rw [avL_map]
     have e5:((List.range n).flatMap fun _=>zs).map (TA.av s.H)=(List.range n).flatMap fun _=>avL s.H zs:=by rw [List.map_flatMap,avL_map]
     rw [e,e5,← avL_map] at hf
     have hwr:wfL s.H s.N r:=wfL_iff.2 fun a ha=>by
      rcases fillA_mem hr a ha with k | ⟨p,k1,k2⟩
      ·obtain ⟨_,_,k⟩:=List.mem_flatMap.1 k
       exact wfL_iff.1 z2 a k
      ·exact wfL_iff.1 (p2 p k1) a k2
     split at h
     ·rename_i u _
      split at h
      ·rename_i e6
       have e6:=Nat.eq_of_beq_eq_true e6
       split at h
       ·rename_i xs hxs
        obtain ⟨b1,b2,b3,b4⟩:=bldN_ok hxs (by rw [e6];omega)
        have etk:r.take (n*tsz u)=r:=List.take_of_length_le (by rw [e6];omega)
        rw [etk] at b2 b3
        have hop:=op_buildSlice (P:=E.P) (N:=s.N) (e:=rcells u xs) ho ht hi z1 (by rw [avL_length];exact e1) e2 e3 p1 hf
         (fun b hb'=>by
          rw [avL_map] at hb'
          obtain ⟨a,ha,rfl⟩:=List.mem_map.1 hb'
          cases cloT:leafOf a with
          | true=>exact clo_leafOf cloT
          | false=>exact absurd cloT (b2 a ha)) (b3 s.H)
         (fun i j hi' hj'=>by
          have h4:(i+1)*ti.size≤n*ti.size:=Nat.mul_le_mul_right _ hi'
          rw [Nat.add_mul,Nat.one_mul] at h4
          rw [avL_getD _ _ _ (by omega)]
          rw [← e6]
          intro w1 F1 μ1 K1 v1 hv1
          exact b4 s.H i j hi' (by omega) hv1)
        refine evr_put (k:=1) hs h hop sub_new ?_ (by simp only [TA.wf];omega) ?_ (fun l' e=>by cases e)
        ·simp only [TA.av,shp,updH_one,if_true,b1,e6]
         exact Imp.refl _
        ·rw [blk_plain _ rfl]
         simp only [b1,e6]
         exact BImp.refl _
       ·cases h
      ·cases h
     ·have hop:=op_buildSlice_box (P:=E.P) (N:=s.N) ho ht hi z1 (by rw [avL_length];exact e1) e2 e3 p1 hf
      exact evr_put (k:=1) hs h hop sub_new (by simp only [TA.av];exact Imp.refl _) (by simp only [TA.wf]) (bimp_sub (N:=s.N) sub_new hwr) (fun l' e=>by cases e;exact hwr)
    ·cases h
   ·cases h
  ·cases h
 ·cases h
theorem rcells_app {t:Ty} (xs ys:List t.dn) (i j:Nat):rcells t (xs++ys) i j=if i < xs.length then rcells t xs i j else rcells t ys (i-xs.length) j:=by
 simp only [rcells,List.getD]
 split
 ·rename_i h;rw [List.getElem?_append_left h]
 ·rename_i h;rw [List.getElem?_append_right (Nat.le_of_not_lt h)]
def srcT (H:List (Nat×TBlk)) (t:Ty):TA→Option (List t.dn)
 | .d ⟨.sl u,ys⟩=>if h:u=t then some (h▸(ys:List u.dn)) else none
 | .nils=>some []
 | .ow id=>match lookH H id with
  | some (.row u v ys)=>match v.d with
   | true=>none
   | false=>if h:u=t then some (h▸ys) else none
  | _=>none
 | _=>none
theorem srcT_ok {s:TSt} {t:Ty} {y:Operand} {ys:List t.dn} (h:srcT s.H t (s.val y)=some ys) (h0:tsz t≠0):Src P s.st y (tsz t) ys.length (rcells t ys) []:=by
 unfold srcT at h
 split at h
 ·rename_i u zs hy
  split at h
  ·rename_i e
   subst e
   cases h
   exact src_fs h0 (@opd_at s y _ hy)
  ·cases h
 ·rename_i hy
  cases h
  have h1:=@opd_at s y _ hy
  simp only [TA.av] at h1
  exact src_nils h0 h1 _
 ·rename_i id hy
  split at h
  ·rename_i u v zs hb
   split at h
   ·cases h
   ·rename_i hv
    split at h
    ·rename_i e
     subst e
     cases h
     have h1:=@opd_at s y _ hy
     simp only [TA.av,shp,hb] at h1
     exact src_row h0 h1 (by rw [st_at hb,blk_plain _ hv]) fun i j _ _=>tcells_noos _ _ _
    ·cases h
  ·cases h
 ·cases h
def deepT (H:List (Nat×TBlk)):TA→Bool
 | .ow id=>match lookH H id with
  | some (.row _ v _)=>v.d
  | _=>false
 | _=>false
def srcX (H:List (Nat×TBlk)) (t:Ty) (a:TA):Option (List t.dn×List Nat):=
 match deepT H a with
 | true=>match a with
  | .ow id=>match lookH H id with
   | some (.row u _ ys)=>if h:u=t then some (h▸ys,[id]) else none
   | _=>none
  | _=>none
 | false=>match srcT H t a with
  | some ys=>some (ys,[])
  | none=>none
theorem srcX_ok {s:TSt} {t:Ty} {y:Operand} {ys:List t.dn} {L:List Nat} (h:srcX s.H t (s.val y)=some (ys,L)) (h0:tsz t≠0) {v:RV} (hv:v.d=deepT s.H (s.val y)):Src P s.st y (tsz t) ys.length (vcells v t ys) L:=by
 unfold srcX at h
 split at h
 ·rename_i hd
  split at h
  ·rename_i id hy
   split at h
   ·rename_i u v' zs hb
    split at h
    ·rename_i e
     subst e
     cases h
     have h1:=@opd_at s y _ hy
     simp only [TA.av,shp,hb] at h1
     have hv':v'.d=true:=by rw [hy] at hd;simpa only [deepT,hb] using hd
     have e:vcells v u zs=vcells v' u zs:=by funext i j;simp only [vcells,hv,hd,hv']
     rw [e]
     exact src_own h0 h1 (st_at hb)
    ·cases h
   ·cases h
  ·cases h
 ·rename_i hd
  split at h
  ·rename_i zs hz
   cases h
   have e:vcells v t ys=rcells t ys:=by funext i j;simp only [vcells,hv,hd]
   rw [e]
   exact srcT_ok hz h0
  ·cases h
def dstT (H:List (Nat×TBlk)) (d:Bool) (t:Ty):TA→Option (RV×List t.dn×List Nat)
 | .nils=>match d with
  | true=>some (.dv,[],[])
  | false=>some (.vs,[],[])
 | .ow id=>match lookH H id with
  | some (.row u v xs)=>match v.d,d with
   | true,true=>if h:u=t then some (v,h▸xs,[id]) else none
   | false,false=>if h:u=t then some (v,h▸xs,[id]) else none
   | _,_=>none
  | _=>none
 | _=>none
theorem dstT_ok {s:TSt} {d:Bool} {t:Ty} {x:Operand} {v:RV} {xs:List t.dn} {D:List Nat} (h:dstT s.H d t (s.val x)=some (v,xs,D)):Dst s.st x (tsz t) v.b xs.length (vcells v t xs) D∧v.d=d:=by
 unfold dstT at h
 split at h
 ·rename_i hx
  have h1:=@opd_at s x _ hx
  simp only [TA.av] at h1
  cases d<;>cases h<;>exact ⟨.nils _ h1,rfl⟩
 ·rename_i id hx
  split at h
  ·rename_i u v' zs hb
   have h1:=@opd_at s x _ hx
   simp only [TA.av,shp,hb] at h1
   split at h
   ·rename_i hv
    split at h
    ·rename_i e
     subst e
     cases h
     exact ⟨.own _ _ _ _ h1 (st_at hb),hv⟩
    ·cases h
   ·rename_i hv
    split at h
    ·rename_i e
     subst e
     cases h
     exact ⟨.own _ _ _ _ h1 (st_at hb),hv⟩
    ·cases h
   ·cases h
  ·cases h
 ·cases h
theorem vcells_app {v:RV} {t:Ty} (xs ys:List t.dn) (i j:Nat):vcells v t (xs++ys) i j=if i < xs.length then vcells v t xs i j else vcells v t ys (i-xs.length) j:=by
 simp only [vcells,rcells_app]
 split<;>split<;>rfl
def evAppend (E:Env) (s:TSt) (x y:TA) (t u:TypeId) (κ:TRes→Option R):Option R:=
 match E.P.underlying t,E.P.underlying u with
 | some (.slice et),some (.slice _)=>match E.P.info? et,tyOf E.tc et with
  | some ti,some q=>match ti.zero with
   | some z=>if ((!Nat.beq ti.size 0&&Nat.beq z.cells.size ti.size)&&ti.bytes.ble 4294967296)&&Nat.beq ti.size (tsz q) then (match dstT s.H (deepT s.H y) q x,srcX s.H q y with
    | some (v,xs,D),some (ys,L)=>if D.all fun i=>!(L.any fun j=>Nat.beq i j) then req (appB (xs.length+ys.length) ti.bytes) (κ ⟨.ow s.N,(s.N,some (.row q v (xs++ys)))::(D++L).map fun i=>(i,none),1⟩) else none
    | _,_=>none) else none
   | none=>none
  | _,_=>none
 | _,_=>none
theorem evAppend_ok {E:Env} {o:Oper} {s:TSt} {κ:TRes→Option R} {z:R} {x y:Operand} {t u:TypeId} (ho:o.op=.call ⟨.builtin .append,#[x,y],#[t,u]⟩) (hs:s.ok) (h:evAppend E s (s.val x) (s.val y) t u κ=some z):EvR E.P o s κ z:=by
 unfold evAppend at h
 split at h
 ·rename_i et eu ht hu
  split at h
  ·rename_i ti q hi _
   split at h
   ·rename_i z' hz
    split at h
    ·rename_i hc
     simp only [Bool.and_eq_true,Bool.not_eq_true'] at hc
     have e0:=Nat.ne_of_beq_eq_false hc.1.1.1
     have e1:=Nat.eq_of_beq_eq_true hc.1.1.2
     have e2:=Nat.le_of_ble_eq_true hc.1.2
     have e3:=Nat.eq_of_beq_eq_true hc.2
     split at h
     ·rename_i v xs D ys L hd hsr
      split at h
      ·rename_i hdis
       obtain ⟨qb,h⟩:=req_some h
       obtain ⟨b1,b2⟩:=appB_ok qb
       obtain ⟨hd',hdv⟩:=dstT_ok hd
       have hs':=srcX_ok (P:=E.P) hsr (by omega) hdv
       rw [← e3] at hd' hs'
       have hop:=op_append (P:=E.P) (N:=s.N) (e':=vcells v q (xs++ys)) ho ht hu hi hz e0 e1 hd' hs' (fun id h1 h2=>by
        have:=List.all_eq_true.1 hdis id h1
        simp only [Bool.not_eq_true',List.any_eq_false] at this
        exact this id h2 (by simp)) b1 b2 e2 (fun i j _ _=>vcells_app xs ys i j)
       have sub:Sub s.H (updH s.H ((s.N,some (.row q v (xs++ys)))::(D++L).map fun i=>(i,none))) s.N:=sub_put fun h=>absurd h (by omega)
       refine ⟨⟨.ow s.N,(s.N,some (.row q v (xs++ys)))::(D++L).map fun i=>(i,none),1⟩,tok_put (k:=1) hs hop sub ?_ ?_,⟨sub,by simp only [TA.wf];omega,fun id l hl=>?_⟩,h⟩
       ·simp only [TA.av,shp,updH,lookH,Nat.beq_refl,List.length_append]
        rw [e3]
        exact Imp.refl _
       ·simp only [TBlk.blk,List.length_append]
        rw [e3]
        exact BImp.refl _
       ·simp only [List.mem_cons,Prod.mk.injEq,Option.some.injEq,List.mem_map] at hl
        rcases hl with ⟨_,h⟩ | ⟨_,_,_,h⟩
        ·rw [h];simp only [TBlk.refs,wfL]
        ·cases h
      ·cases h
     ·cases h
    ·cases h
   ·cases h
  ·cases h
 ·cases h
def leq (m n:Nat):Bool:=Nat.beq m n
def evCopy (E:Env) (s:TSt) (x y:TA) (t:TypeId) (κ:TRes→Option R):Option R:=
 match E.P.underlying t,x with
 | some (.slice et),.ow id=>match E.P.info? et,lookH s.H id with
  | some ti,some (.row q v xs)=>if (!Nat.beq ti.size 0&&Nat.beq ti.size (tsz q))&&!v.d then (match srcT s.H q y with
   | some ys=>req (leq ys.length xs.length) (κ ⟨.d ⟨.int .i64,(xs.length:Int)⟩,[(id,some (.row q v ys))],0⟩)
   | none=>none) else none
  | _,_=>none
 | _,_=>none
theorem evCopy_ok {E:Env} {o:Oper} {s:TSt} {κ:TRes→Option R} {z:R} {x y:Operand} {t u:TypeId} (ho:o.op=.call ⟨.builtin .copy,#[x,y],#[t,u]⟩) (hs:s.ok) (h:evCopy E s (s.val x) (s.val y) t κ=some z):EvR E.P o s κ z:=by
 unfold evCopy at h
 split at h
 ·rename_i et id ht hx
  split at h
  ·rename_i ti q v xs hi hb
   split at h
   ·rename_i hc
    simp only [Bool.and_eq_true,Bool.not_eq_true'] at hc
    have hvd:=hc.2
    have hc:=hc.1
    have e0:=Nat.ne_of_beq_eq_false hc.1
    have e1:=Nat.eq_of_beq_eq_true hc.2
    split at h
    ·rename_i ys hsr
     obtain ⟨qb,h⟩:=req_some h
     have el:ys.length=xs.length:=Nat.eq_of_beq_eq_true qb
     have hs':=srcT_ok (P:=E.P) hsr (by omega)
     have h1:=@opd_at s x _ hx
     simp only [TA.av,shp,hb] at h1
     rw [← e1] at h1 hs'
     rw [el] at hs'
     have hop:=op_copy (P:=E.P) (v:=v.b) (id:=id) (e:=rcells q xs) ho ht hi e0 h1 (by rw [st_at hb,blk_plain _ hvd];simp only [e1]) hs' (fun i j _ _=>tcells_noos _ _ _)
     refine evr_put (k:=0) hs h hop (sub_row hb el.symm) (by simp only [TA.av,dav];exact Imp.refl _) (by simp only [TA.wf]) ?_ (fun l' e=>by cases e)
     rw [blk_plain _ hvd]
     simp only [el,e1]
     exact BImp.refl _
    ·cases h
   ·cases h
  ·cases h
 ·cases h
def evLen (P:Program) (H:List (Nat×TBlk)) (x:TA) (t:TypeId) (κ:TRes→Option R):Option R:=
 match P.underlying t with
 | some d=>match x with
  | .d ⟨.str,m⟩=>if stringD d then κ ⟨.d ⟨.int .i64,((List.length (α:=UInt8) m:Nat):Int)⟩,[],0⟩ else none
  | .d ⟨.sl u,xs⟩=>if sliceD d then κ ⟨.d ⟨.int .i64,((List.length (α:=u.dn) xs:Nat):Int)⟩,[],0⟩ else none
  | .nils=>if sliceD d then κ ⟨.d ⟨.int .i64,(0:Int)⟩,[],0⟩ else none
  | .ow id=>match lookH H id with
   | some (.row _ _ xs)=>if sliceD d then κ ⟨.d ⟨.int .i64,((xs.length:Nat):Int)⟩,[],0⟩ else none
   | some (.hrow _ _ xs _ _)=>if sliceD d then κ ⟨.d ⟨.int .i64,((xs.length:Nat):Int)⟩,[],0⟩ else none
   | _=>none
  | .bs _ n _=>if sliceD d then κ ⟨.d ⟨.int .i64,((n:Nat):Int)⟩,[],0⟩ else none
  | _=>none
 | none=>none
theorem evLen_ok {o:Oper} {s:TSt} {κ:TRes→Option R} {z:R} {x:Operand} {t:TypeId} (ho:o.op=.call ⟨.builtin .len,#[x],#[t]⟩) (h:evLen P s.H (s.val x) t κ=some z):EvR P o s κ z:=by
 unfold evLen at h
 split at h
 ·rename_i d ht
  split at h
  ·rename_i m hx
   split at h
   ·rename_i hd
    have h1:Opd s.st x (.str m):=opd_at hx
    exact evr_d h (op_len_str ho h1 ht hd)
   ·cases h
  ·rename_i u xs hx
   split at h
   ·rename_i hd
    have h1:=@opd_at s x _ hx
    exact evr_d h (op_len ho h1 rfl ht hd)
   ·cases h
  ·rename_i hx
   split at h
   ·rename_i hd
    have h1:=@opd_at s x _ hx
    simp only [TA.av] at h1
    exact evr_d h (op_len (n:=0) ho h1 rfl ht hd)
   ·cases h
  ·rename_i id hx
   split at h
   ·rename_i u v xs hb
    split at h
    ·rename_i hd
     have h1:=@opd_at s x _ hx
     simp only [TA.av,shp,hb] at h1
     exact evr_d h (op_len (n:=xs.length) ho h1 (by cases v<;>rfl) ht hd)
    ·cases h
   ·rename_i u v xs _ _ hb
    split at h
    ·rename_i hd
     have h1:=@opd_at s x _ hx
     simp only [TA.av,shp,hb] at h1
     exact evr_d h (op_len (n:=xs.length) ho h1 (by cases v<;>rfl) ht hd)
    ·cases h
   ·cases h
  ·rename_i id n esz hx
   split at h
   ·rename_i hd
    have h1:=@opd_at s x _ hx
    simp only [TA.av] at h1
    exact evr_d h (op_len (n:=n) ho h1 rfl ht hd)
   ·cases h
  ·cases h
 ·cases h
def bndT (s:TSt) (d:Int):Option Operand→Option Int
 | none=>some d
 | some x=>match s.val x with
  | .d ⟨.int _,i⟩=>some i
  | _=>none
theorem bndT_ok {s:TSt} {d i:Int} {x:Option Operand} (h:bndT s d x=some i):Bnd s.st d x i:=by
 unfold bndT at h
 split at h
 ·cases h;exact .inl ⟨rfl,rfl⟩
 ·rename_i y
  split at h
  ·rename_i k j hy
   cases h
   exact .inr ⟨y,k,rfl,opd_at hy⟩
  ·cases h
theorem fs_congr {esz n m:Nat} {e f:Nat→Nat→AV} (hn:n=m) (h:∀ i j,i < n→e i j=f i j):Imp (.fs esz n e) (.fs esz m f):=by
 subst hn
 intro w F μ K v hv
 cases hv with
 | fs _ _ _ b o cap uu hF hc' hu hv=>exact .fs _ _ _ b o cap uu hF hc' hu fun i j hi hj=>h i j hi▸hv i j hi hj
 | fsnil=>exact .fsnil _ _ _ _
theorem sub_imp (u:Ty) (xs:List u.dn) (l h:Int) (e3:h≤xs.length):Imp (.fs (tsz u) (h.toNat-l.toNat) fun i j=>rcells u xs (l.toNat+i) j) (dav ⟨.sl u,subl xs l h⟩):=by
 refine fs_congr ?_ fun i j hi=>?_
 ·show _=(subl xs l h).length
  simp only [subl,List.length_drop,List.length_take];omega
 ·show rcells u xs (l.toNat+i) j=rcells u (subl xs l h) i j
  simp only [rcells,subl,List.getD,List.getElem?_drop,List.getElem?_take]
  rw [if_pos (by omega)]
def evSlice (P:Program) (s:TSt) (t:TypeId) (x:TA) (lo hi:Option Operand) (κ:TRes→Option R):Option R:=
 match x,P.underlying t with
 | .d ⟨.str,m⟩,some .string=>match bndT s 0 lo,bndT s (List.length (α:=UInt8) m:Nat) hi with
  | some l,some h=>req (subB l h (List.length (α:=UInt8) m)) (κ ⟨.d ⟨.str,subl (α:=UInt8) m l h⟩,[],0⟩)
  | _,_=>none
 | .d ⟨.sl u,xs⟩,some (.slice et)=>match P.info? et,bndT s 0 lo,bndT s (List.length (α:=u.dn) xs:Nat) hi with
  | some ti,some l,some h=>if Nat.beq ti.size (tsz u) then req (subB l h (List.length (α:=u.dn) xs)) (κ ⟨.d ⟨.sl u,subl (α:=u.dn) xs l h⟩,[],0⟩) else none
  | _,_,_=>none
 | _,_=>none
theorem evSlice_ok {o:Oper} {s:TSt} {κ:TRes→Option R} {z:R} {x:Operand} {t:TypeId} {lo hi:Option Operand} (ho:o.op=.slice t x lo hi none) (h:evSlice P s t (s.val x) lo hi κ=some z):EvR P o s κ z:=by
 unfold evSlice at h
 split at h
 ·rename_i m hx ht
  split at h
  ·rename_i l h' hl hh
   obtain ⟨e,h⟩:=req_some h
   obtain ⟨e1,e2,e3⟩:=subB_ok e
   have h1:Opd s.st x (.str m):=opd_at hx
   exact evr_d h (op_sliceStr ho h1 ht (bndT_ok hl) (bndT_ok hh) e1 e2 e3)
  ·cases h
 ·rename_i u xs et hx ht
  split at h
  ·rename_i ti l h' hi' hl hh
   split at h
   ·rename_i he
    have he:=Nat.eq_of_beq_eq_true he
    obtain ⟨e,h⟩:=req_some h
    obtain ⟨e1,e2,e3⟩:=subB_ok e
    have h1:Opd s.st x (.fs (tsz u) (List.length (α:=u.dn) xs) (rcells u xs)):=@opd_at s x _ hx
    have hop:=op_sliceFs (P:=P) ho h1 ht hi' he (bndT_ok hl) (bndT_ok hh) e1 e2 e3
    refine evr_val h hop ?_ (by simp only [TA.wf])
    simp only [TA.av]
    exact sub_imp u xs l h' e3
   ·cases h
  ·cases h
 ·cases h
def evFunc (s:TSt) (fn:Fn) (xs ys:List Operand) (κ:TRes→Option R):Option R:=κ ⟨.fn fn (xs.map s.val) (ys.map s.val),[],0⟩
theorem opds_val (s:TSt):∀ xs:List Operand,Opds s.st xs (avL s.H (xs.map s.val))
 | []=>by simp only [List.map_nil,avL];exact Opds.nil
 | x::r=>by simp only [List.map_cons,avL];exact Opds.cons (opd_val s x) (opds_val s r)
theorem vals_wf {s:TSt} (hs:s.ok) (xs:List Operand):wfL s.H s.N (xs.map s.val):=wfL_iff.2 fun a ha=>by
 obtain ⟨x,_,rfl⟩:=List.mem_map.1 ha
 exact val_wf hs x
theorem evFunc_ok {o:Oper} {s:TSt} {κ:TRes→Option R} {z:R} {fn:Fn} {xs ys:List Operand} (ho:o.op=.makeFunc fn ⟨xs⟩ ⟨ys⟩) (hs:s.ok) (h:evFunc s fn xs ys κ=some z):EvR P o s κ z:=
 evr_eq h (by simp only [TA.av];exact op_makeFunc ho (opds_val s xs) (opds_val s ys)) (by simp only [TA.wf];exact ⟨vals_wf hs xs,vals_wf hs ys⟩)
def evIface (P:Program) (t:TypeId) (x:TA) (κ:TRes→Option R):Option R:=
 match P.underlying t with
 | some d=>if ifaceD d then none else κ ⟨.ifc t x,[],0⟩
 | none=>none
theorem evIface_ok {o:Oper} {s:TSt} {κ:TRes→Option R} {z:R} {x:Operand} {t:TypeId} (ho:o.op=.makeInterface t x) (hs:s.ok) (h:evIface P t (s.val x) κ=some z):EvR P o s κ z:=by
 unfold evIface at h
 split at h
 ·rename_i d hd
  split at h
  ·cases h
  ·rename_i hi
   exact evr_eq h (by simp only [TA.av];exact op_makeInterface ho (opd_val s x) hd (by simpa using hi)) (by simp only [TA.wf];exact val_wf hs x)
 ·cases h
def ev0 (E:Env) (o:Oper) (s:TSt) (κ:TRes→Option R):Option R:=
 match o.op with
 | .move x | .assign x=>κ ⟨s.val x,[],0⟩
 | .pick c x y=>evPick (s.val c) (s.val x) (s.val y) κ
 | .extract x i=>evExtract (s.val x) i κ
 | .unOp op _ x=>evUn op (s.val x) κ
 | .binOp op t x y _=>evBin E.P op t (s.val x) (s.val y) κ
 | .convert t u x=>evConv E.P t u (s.val x) κ
 | .index t x y=>evIndex E.P t (s.val x) (s.val y) κ
 | .fieldAddr t x k=>evFieldAddr E.P s.H t (s.val x) k κ
 | .nilCheck x=>evNilCheck s.H (s.val x) κ
 | .indexAddr t x y=>evIdxA E.P s.H t (s.val x) (s.val y) κ
 | .load t x=>evLoad E.P s.H t (s.val x) κ
 | .field t x k=>evField E.P t (s.val x) k κ
 | .box _ x=>evBox s (s.val x) κ
 | .alloc t=>evAlloc E.P s t κ
 | .store t x y=>evStore E.P s.H t (s.val x) (s.val y) κ
 | .makeSlice t x y=>evMake E s t (s.val x) (s.val y) κ
 | .build t ⟨ps⟩=>evBuild E.P s t ps κ
 | .buildSlice t n ⟨ps⟩=>evBuildSl E s t n ps κ
 | .makeFunc fn ⟨xs⟩ ⟨ys⟩=>evFunc s fn xs ys κ
 | .makeInterface t x=>evIface E.P t (s.val x) κ
 | .slice t x lo hi none=>evSlice E.P s t (s.val x) lo hi κ
 | .call ⟨.builtin .len,⟨[x]⟩,⟨[t]⟩⟩=>evLen E.P s.H (s.val x) t κ
 | .call ⟨.builtin .append,⟨[x,y]⟩,⟨[t,u]⟩⟩=>evAppend E s (s.val x) (s.val y) t u κ
 | .call ⟨.builtin .copy,⟨[x,y]⟩,⟨[t,_]⟩⟩=>evCopy E s (s.val x) (s.val y) t κ
 | _=>none
theorem ev0_ok {E:Env} {o:Oper} {s:TSt} {κ:TRes→Option R} {z:R} (hs:s.ok) (h:ev0 E o s κ=some z):EvR E.P o s κ z:=by
 unfold ev0 at h
 split at h
 ·rename_i x ho;exact evr_eq h (op_move (.inl ho) (opd_val s x)) (val_wf hs x)
 ·rename_i x ho;exact evr_eq h (op_move (.inr ho) (opd_val s x)) (val_wf hs x)
 ·rename_i ho;exact evPick_ok ho hs h
 ·rename_i ho;exact evExtract_ok ho hs h
 ·rename_i ho;exact evUn_ok ho h
 ·rename_i ho;exact evBin_ok ho h
 ·rename_i ho;exact evConv_ok ho h
 ·rename_i ho;exact evIndex_ok ho h
 ·rename_i ho;exact evFieldAddr_ok ho hs h
 ·rename_i ho;exact evNilCheck_ok ho hs h
 ·rename_i ho;exact evIdxA_ok ho hs h
 ·rename_i ho;exact evLoad_ok ho hs h
 ·rename_i ho;exact evField_ok ho hs h
 ·rename_i ho;exact evBox_ok ho hs h
 ·rename_i ho;exact evAlloc_ok ho hs h
 ·rename_i ho;exact evStore_ok ho hs h
 ·rename_i ho;exact evMake_ok ho hs h
 ·rename_i ho;exact evBuild_ok ho hs h
 ·rename_i ho;exact evBuildSl_ok ho hs h
 ·rename_i ho;exact evFunc_ok ho hs h
 ·rename_i ho;exact evIface_ok ho hs h
 ·rename_i ho;exact evSlice_ok ho h
 ·rename_i ho;exact evLen_ok ho h
 ·rename_i ho;exact evAppend_ok ho hs h
 ·rename_i ho;exact evCopy_ok ho hs h
 ·cases h
end Go.Proofs.Ytljfmaaadnoggaa.Abs
