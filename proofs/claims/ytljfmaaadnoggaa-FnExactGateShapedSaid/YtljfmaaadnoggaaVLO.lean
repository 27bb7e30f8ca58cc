/- Rows whose parts are rows of the call's own, in the evaluator: loads that open a part, parts told whole again. No condition. -/
import Derived.Test.YtljfmaaadnoggaaVL
namespace Go.Proofs.Ytljfmaaadnoggaa.Abs
open Go Go.RowKit
variable {w w' w'':World} {F F' F'' O O' O'':Nat→Prop} {μ μ' μ'':Nat→Nat} {K K' K'':Nat→Prop} {ft ft':Nat→Nat→Prop} {P:Program} {R:Type}
theorem kindOf_b (u:Ty):(kindOf u).b=true:=by unfold kindOf;cases u.flat<;>rfl
theorem vcells_kind {v:RV} {u:Ty} (h:(v.d||u.flat)=true) (ys:List u.dn) (i j:Nat):vcells v u ys i j=(rcells u ys i j).deep:=by
 simp only [vcells]
 cases hv:v.d with
 | true=>rfl
 | false=>rw [hv,Bool.false_or] at h;exact (flat_deep h ys i j).symm
theorem kindOf_d (u:Ty):((kindOf u).d||u.flat)=true:=by unfold kindOf;cases u.flat<;>rfl
def openA:Nat→List Dyn→List TA
 | _,[]=>[]
 | N,⟨.sl _,_⟩::r=>.ow N::openA (N+1) r
 | N,y::r=>.d y::openA N r
def openU:Nat→List Dyn→List (Nat×Option TBlk)
 | _,[]=>[]
 | N,⟨.sl u,ys⟩::r=>(N,some (.row u (kindOf u) ys))::openU (N+1) r
 | N,_::r=>openU N r
def openO:Nat→Nat→List Dyn→List (Nat×Nat)
 | _,_,[]=>[]
 | off,N,⟨.sl _,_⟩::r=>(off,N)::openO (off+1) (N+1) r
 | off,N,_::r=>openO (off+1) N r
def prts:Nat→List Dyn→List Prt
 | _,[]=>[]
 | off,⟨.sl u,ys⟩::r=>⟨off,tsz u,List.length (α:=u.dn) ys,fun i j=>(rcells u ys i j).deep⟩::prts (off+1) r
 | off,_::r=>prts (off+1) r
theorem dyns_cases {M:List Dyn→Prop} (h0:M []) (h1:∀ (u:Ty) (ys:List u.dn) (r:List Dyn),M r→M (⟨.sl u,ys⟩::r))
  (h2:∀ (y:Dyn) (r:List Dyn),y.t.isSl=false→(∀ N,openA N (y::r)=.d y::openA N r)→(∀ N,openU N (y::r)=openU N r)→(∀ off N,openO off N (y::r)=openO (off+1) N r)→(∀ off,prts off (y::r)=prts (off+1) r)→M r→M (y::r)):∀ ds,M ds
 | []=>h0
 | y::r=>by
  obtain ⟨t,x⟩:=y
  have ih:=dyns_cases h0 h1 h2 r
  cases t with
  | sl u=>exact h1 u x r ih
  | int=>exact h2 _ r rfl (fun _=>by simp only [openA]) (fun _=>by simp only [openU]) (fun _ _=>by simp only [openO]) (fun _=>by simp only [prts]) ih
  | str=>exact h2 _ r rfl (fun _=>by simp only [openA]) (fun _=>by simp only [openU]) (fun _ _=>by simp only [openO]) (fun _=>by simp only [prts]) ih
  | bool=>exact h2 _ r rfl (fun _=>by simp only [openA]) (fun _=>by simp only [openU]) (fun _ _=>by simp only [openO]) (fun _=>by simp only [prts]) ih
  | st=>exact h2 _ r rfl (fun _=>by simp only [openA]) (fun _=>by simp only [openU]) (fun _ _=>by simp only [openO]) (fun _=>by simp only [prts]) ih
theorem openA_length (ds:List Dyn):∀ N,(openA N ds).length=ds.length:=by
 induction ds using dyns_cases with
 | h0=>intro N;rfl
 | h1 u ys r ih=>intro N;simp only [openA,List.length_cons,ih]
 | h2 y r hy a b c d ih=>intro N;simp only [a,List.length_cons,ih]
theorem prts_length (ds:List Dyn):∀ off N,(prts off ds).length=(openU N ds).length:=by
 induction ds using dyns_cases with
 | h0=>intro off N;rfl
 | h1 u ys r ih=>intro off N;simp only [prts,openU,List.length_cons,ih (off+1) (N+1)]
 | h2 y r hy a b c d ih=>intro off N;rw [b,d];exact ih _ _
theorem openA_wf {H:List (Nat×TBlk)} (ds:List Dyn):∀ N,wfL H (N+(openU N ds).length) (openA N ds):=by
 induction ds using dyns_cases with
 | h0=>intro N;simp only [openA,wfL]
 | h1 u ys r ih=>
  intro N
  simp only [openA,openU,List.length_cons,wfL,TA.wf]
  refine ⟨by omega,?_⟩
  have:=ih (N+1)
  rwa [show N+1+(openU (N+1) r).length=N+((openU (N+1) r).length+1) by omega] at this
 | h2 y r hy a b c d ih=>intro N;rw [a,b];simp only [wfL,TA.wf];exact ⟨trivial,ih N⟩
theorem openO_wf {H:List (Nat×TBlk)} (ds:List Dyn):∀ off N,wfL H (N+(openU N ds).length) ((openO off N ds).map fun p=>.ow p.2):=by
 induction ds using dyns_cases with
 | h0=>intro off N;simp only [openO,List.map_nil,wfL]
 | h1 u ys r ih=>
  intro off N
  simp only [openO,openU,List.length_cons,List.map_cons,wfL,TA.wf]
  refine ⟨by omega,?_⟩
  have:=ih (off+1) (N+1)
  rwa [show N+1+(openU (N+1) r).length=N+((openU (N+1) r).length+1) by omega] at this
 | h2 y r hy a b c d ih=>intro off N;rw [b,c];exact ih (off+1) N
theorem openO_low (ds:List Dyn):∀ off N j,j < off→holOf (openO off N ds) j=none:=by
 induction ds using dyns_cases with
 | h0=>intro off N j _;rfl
 | h1 u ys r ih=>intro off N j h;simp only [openO,holOf,nbeq_ne (show ¬ j=off by omega)];exact ih _ _ j (by omega)
 | h2 y r hy a b c d ih=>intro off N j h;rw [c];exact ih _ _ j (by omega)
theorem prts_low (ds:List Dyn):∀ off p,p∈prts off ds→off≤p.j:=by
 induction ds using dyns_cases with
 | h0=>intro off p h;cases h
 | h1 u ys r ih=>
  intro off p h
  simp only [prts,List.mem_cons] at h
  rcases h with h | h
  ·rw [h];exact Nat.le_refl _
  ·have:=ih _ p h;omega
 | h2 y r hy a b c d ih=>intro off p h;rw [d] at h;have:=ih _ p h;omega
theorem prts_nodup (ds:List Dyn):∀ off,((prts off ds).map (·.j)).Nodup:=by
 induction ds using dyns_cases with
 | h0=>intro off;exact List.nodup_nil
 | h1 u ys r ih=>
  intro off
  simp only [prts,List.map_cons,List.nodup_cons]
  refine ⟨fun h=>?_,ih _⟩
  obtain ⟨p,h1,h2⟩:=List.mem_map.1 h
  have:=prts_low r _ p h1
  omega
 | h2 y r hy a b c d ih=>intro off;rw [d];exact ih _
theorem prts_at {e:Nat→AV} (ds:List Dyn):∀ off,(∀ k (h:k < ds.length),e (off+k)=(dav ds[k]).deep)→∀ p,p∈prts off ds→p.j < off+ds.length∧e p.j=.os p.esz p.n p.e:=by
 induction ds using dyns_cases with
 | h0=>intro off _ p h;cases h
 | h1 u ys r ih=>
  intro off he p h
  simp only [prts,List.mem_cons] at h
  rcases h with h | h
  ·subst h
   have:=he 0 (by simp)
   simp only [Nat.add_zero,List.getElem_cons_zero] at this
   exact ⟨by simp,this⟩
  ·have:=ih (off+1) (fun k hk=>by
    have:=he (k+1) (by simpa using hk)
    simp only [List.getElem_cons_succ] at this
    rw [← this];congr 1;omega) p h
   simp only [List.length_cons]
   exact ⟨by omega,this.2⟩
 | h2 y r hy a b c d ih=>
  intro off he p h
  rw [d] at h
  have:=ih (off+1) (fun k hk=>by
   have:=he (k+1) (by simpa using hk)
   simp only [List.getElem_cons_succ] at this
   rw [← this];congr 1;omega) p h
  simp only [List.length_cons]
  exact ⟨by omega,this.2⟩
theorem opE_eq {H2:List (Nat×TBlk)} {i0:Nat} (ds:List Dyn):∀ (off N:Nat) (e:Nat→Nat→AV),(∀ p,p∈openU N ds→lookH H2 p.1=p.2)→(∀ k (h:k < ds.length),e i0 (off+k)=(dav ds[k]).deep)→
  (∀ i' j,opE i0 N (prts off ds) e i' j=if i'=i0 then (match holOf (openO off N ds) j with | some M=>(TA.ow M).av H2 | none=>e i' j) else e i' j)∧
  ∀ k,k < ds.length→opE i0 N (prts off ds) e i0 (off+k)=((openA N ds).getD k .top).av H2:=by
 induction ds using dyns_cases with
 | h0=>
  intro off N e _ _
  refine ⟨fun i' j=>?_,fun k hk=>by cases hk⟩
  simp only [prts,opE,openO,holOf,ite_self]
 | h1 u ys r ih=>
  intro off N e hl he
  let e1:Nat→Nat→AV:=fun i' j'=>if i'=i0∧j'=off then rowAV true N ys.length (tsz u) else e i' j'
  have hN:(TA.ow N).av H2=rowAV true N ys.length (tsz u):=by
   have:=hl (N,some (.row u (kindOf u) ys)) (by simp [openU])
   simp only at this
   simp only [TA.av,this,shp,kindOf_b]
  obtain ⟨q1,q2⟩:=ih (off+1) (N+1) e1 (fun p hp=>hl p (by simp only [openU,List.mem_cons];exact .inr hp)) (fun k hk=>by
   have:=he (k+1) (by simpa using hk)
   simp only [List.getElem_cons_succ] at this
   simp only [e1]
   rw [if_neg (by omega),← this];congr 1;omega)
  have ho:∀ i' j,opE i0 N (prts off (⟨.sl u,ys⟩::r)) e i' j=opE i0 (N+1) (prts (off+1) r) e1 i' j:=fun i' j=>rfl
  refine ⟨fun i' j=>?_,fun k hk=>?_⟩
  ·rw [ho,q1]
   by_cases h:i'=i0
   ·rw [if_pos h,if_pos h]
    simp only [openO,holOf]
    cases hb:Nat.beq j off with
    | true=>
     have hb:=Nat.eq_of_beq_eq_true hb
     subst hb
     rw [openO_low r _ _ j (by omega)]
     simp only [e1,h,and_self,if_true]
     exact hN.symm
    | false=>
     have hne:=Nat.ne_of_beq_eq_false hb
     have:e1 i' j=e i' j:=if_neg fun h=>hne h.2
     rw [this]
   ·rw [if_neg h,if_neg h]
    exact if_neg fun h'=>h h'.1
  ·rw [ho]
   cases k with
   | zero=>
    rw [q1,if_pos rfl,openO_low r (off+1) (N+1) (off+0) (by omega)]
    simp only [e1,Nat.add_zero,and_self,if_true,openA]
    exact hN.symm
   | succ k=>
    have:=q2 k (by simpa using hk)
    rw [show off+(k+1)=off+1+k by omega,this]
    simp only [openA,List.getD_cons_succ]
 | h2 y r hy a b c d ih=>
  intro off N e hl he
  rw [b] at hl
  have hk0:=he 0 (by simp)
  simp only [Nat.add_zero,List.getElem_cons_zero] at hk0
  obtain ⟨q1,q2⟩:=ih (off+1) N e hl (fun k hk=>by
   have:=he (k+1) (by simpa using hk)
   simp only [List.getElem_cons_succ] at this
   rw [← this];congr 1;omega)
  rw [d,c,a]
  refine ⟨q1,fun k hk=>?_⟩
  cases k with
  | zero=>
   rw [q1,if_pos rfl,openO_low r (off+1) N (off+0) (by omega)]
   simp only [List.getD_cons_zero,TA.av,Nat.add_zero]
   rw [hk0,dav_deep hy]
  | succ k=>
   have:=q2 k (by simpa using hk)
   rw [show off+(k+1)=off+1+k by omega,this]
   simp only [List.getD_cons_succ]
theorem opens_look (H:Hp) (T:List (Nat×TBlk)) (id':Nat) (ds:List Dyn):∀ off N,(∃ (u:Ty) (ys:List u.dn),lookH (updH T (openU N ds)) id'=some (.row u (kindOf u) ys)∧N≤id'∧H.upd (opU N (prts off ds)) id'=some (.row true (tsz u) ys.length fun i j=>(rcells u ys i j).deep))∨
  (lookH (updH T (openU N ds)) id'=lookH T id'∧H.upd (opU N (prts off ds)) id'=H id'∧(id' < N∨N+(openU N ds).length≤id')):=by
 induction ds using dyns_cases with
 | h0=>intro off N;exact .inr ⟨rfl,rfl,by simp only [openU,List.length_nil];omega⟩
 | h1 u ys r ih=>
  intro off N
  simp only [openU,prts,updH,opU,lookH,Hp.upd]
  cases hb:Nat.beq id' N with
  | true=>
   have hb:=Nat.eq_of_beq_eq_true hb
   exact .inl ⟨u,ys,rfl,by omega,by rw [if_pos hb]⟩
  | false=>
   have hne:=Nat.ne_of_beq_eq_false hb
   rw [if_neg hne]
   rcases ih (off+1) (N+1) with ⟨u',ys',k1,k2,k3⟩ | ⟨k1,k2,k3⟩
   ·exact .inl ⟨u',ys',k1,by omega,k3⟩
   ·exact .inr ⟨k1,k2,by simp only [List.length_cons];omega⟩
 | h2 y r hy a b c d ih=>intro off N;rw [b,d];exact ih _ _
theorem openU_look (T:List (Nat×TBlk)) (ds:List Dyn):∀ N p,p∈openU N ds→N≤p.1∧lookH (updH T (openU N ds)) p.1=p.2:=by
 induction ds using dyns_cases with
 | h0=>intro N p h;cases h
 | h1 u ys r ih=>
  intro N p h
  simp only [openU,List.mem_cons] at h
  simp only [openU,updH,lookH]
  rcases h with h | h
  ·subst h;exact ⟨Nat.le_refl _,by simp only [Nat.beq_refl]⟩
  ·have:=ih (N+1) p h
   exact ⟨by omega,by simp only [nbeq_ne (show ¬ p.1=N by omega)];exact this.2⟩
 | h2 y r hy a b c d ih=>intro N p h;rw [b] at h ⊢;exact ih N p h
theorem openU_row (ds:List Dyn):∀ N p,p∈openU N ds→∃ (u:Ty) (ys:List u.dn),p.2=some (.row u (kindOf u) ys):=by
 induction ds using dyns_cases with
 | h0=>intro N p h;cases h
 | h1 u ys r ih=>
  intro N p h
  simp only [openU,List.mem_cons] at h
  rcases h with h | h
  ·subst h;exact ⟨u,ys,rfl⟩
  ·exact ih _ p h
 | h2 y r hy a b c d ih=>intro N p h;rw [b] at h;exact ih N p h
theorem load_run_agg {o:Oper} {act:Act} {x:Operand} {t:TypeId} {d:TypeDesc} {i:TypeInfo} {c:Nat→AV} (ho:o.op=.load t x) (ht:P.underlying t=some d) (hi:P.info? t=some i) (ha:aggD d=true) (hc:CellsAt w F μ K i.size c (act.eval x)):
  ∃ v,(execOp act.eval o).run P w=.ok (.value v) w∧VR w F μ K (.agg ((List.range i.size).map c)) v:=by
 obtain ⟨b,o',u,hv,hu⟩:=hc
 exact ⟨_,by simp only [execOp,ho,hv,Sem.run_bind,loadVar_agg ht hi ha b o' u (fun j hj=>(hu j hj).1),Result.andThen_ok,Sem.run_pure],.mkAgg (range_map_VRs fun j hj=>(hu j hj).2)⟩
theorem load_run_one {o:Oper} {act:Act} {x:Operand} {t:TypeId} {d:TypeDesc} {c:Nat→AV} (ho:o.op=.load t x) (ht:P.underlying t=some d) (ha:aggD d=false) (hc:CellsAt w F μ K 1 c (act.eval x)):
  ∃ v,(execOp act.eval o).run P w=.ok (.value v) w∧VR w F μ K (c 0) v:=by
 obtain ⟨b,o',u,hv,hu⟩:=hc
 exact ⟨_,by simp only [execOp,ho,hv,Sem.run_bind,loadVar_one ht ha b o' (u 0) (hu 0 (by omega)).1,Result.andThen_ok,Sem.run_pure],(hu 0 (by omega)).2⟩
theorem cells_hrp {H:Hp} {n id esz i j m:Nat} {v:Bool} {e:Nat→Nat→AV} {u:Value} (hr:HR w F O μ K H ft) (hx:VR w F μ K (.rp id esz i j) u) (hb:H id=some (.hrow v esz m e)) (hi:i < m) (hle:j+n≤esz)
  (hc:∀ k,k < n→(e i (j+k)).isOs=false):CellsAt w F μ K n (fun k=>e i (j+k)) u:=by
 obtain ⟨ob,hob,cs,t,S',rfl,hB⟩:=hr.blk id _ hb (hrow_lies (by omega))
 cases hx with
 | rp _ _ _ _ hid=>
  refine ⟨_,_,fun k=>cs.getD (i*esz+j+k) undef,rfl,fun k hk=>?_⟩
  have h2:(i+1)*esz≤m*esz:=Nat.mul_le_mul_right _ hi
  rw [Nat.add_mul,Nat.one_mul] at h2
  have hsz:=hB.size
  have hlt:i*esz+j+k < cs.size:=by omega
  refine ⟨by simp [World.cell?,hob,hlt],?_⟩
  have h5:=(hB.cell i (j+k) hi (by omega)).1
  rw [← Nat.add_assoc] at h5
  rcases h5 with h5 | h5
  ·exact (h5.closed (hc k hk)).1.up
  ·exact h5.1
theorem open_SR {s:TSt} {id off:Nat} {u:Ty} {v:RV} {xs:List u.dn} {i:Int} {ds:List Dyn} {a:Act} (hs:SR w F O μ K s.st ft a) (hb:lookH s.H id=some (.row u v xs)) (hv:v.d=true) (hi:i.toNat < xs.length) (hds:∀ k (h:k < ds.length),(tget u (nth u.df xs i))[off+k]?=some ds[k])
  (hn:∀ k,k∈List.range' s.N (openU s.N ds).length→¬ K k):
  ∃ μ' ft',HR w F O μ' (plus K (List.range' s.N (openU s.N ds).length)) (s.st.H.upd ((id,some (.hrow v.b (tsz u) xs.length (opE i.toNat s.N (prts off ds) (vcells v u xs))))::opU s.N (prts off ds))) ft'∧Fr w F O μ K w F O μ':=by
 have hlen:∀ k,k < ds.length→off+k < tsz u:=fun k hk=>by
  rw [← tget_length u (nth u.df xs i)]
  exact (List.getElem?_eq_some_iff.1 (hds k hk)).1
 have he:∀ k (h:k < ds.length),vcells v u xs i.toNat (off+k)=(dav ds[k]).deep:=fun k hk=>by
  simp only [vcells,hv]
  rw [rcells_at]
  have:=hds k hk
  simp only [nth] at this
  rw [this]
 have hr1:HR w F O μ K (fun k=>if k=id then some (.hrow v.b (tsz u) xs.length (vcells v u xs)) else s.st.H k) ft:=hs.hr.imp fun k b' hb'=>by
  by_cases q:k=id
  ·rw [if_pos q] at hb'
   cases hb'
   exact ⟨_,q▸st_at hb,bimp_hrow fun _ _ _ _=>rfl⟩
  ·rw [if_neg q] at hb'
   exact ⟨_,hb',BImp.refl _⟩
 have hpl:=prts_length ds off s.N
 obtain ⟨μ',ft',h1,h2⟩:=open_list (id:=id) (esz:=tsz u) (n:=xs.length) (i:=i.toNat) (v:=v.b) (prts off ds) (N:=s.N) (e:=vcells v u xs) hr1 (by rw [hpl];exact hn) (if_pos rfl) hi (fun p hp=>by
  obtain ⟨k1,k2⟩:=prts_at (e:=vcells v u xs i.toNat) ds off he p hp
  refine ⟨?_,k2⟩
  cases hd:ds with
  | nil=>rw [hd] at hp;cases hp
  | cons y r=>
   have:=hlen (ds.length-1) (by rw [hd];simp)
   have:0 < ds.length:=by rw [hd];simp
   omega) (prts_nodup ds off)
 rw [hpl] at h1
 refine ⟨μ',ft',h1.imp fun k b' hb'=>⟨b',?_,BImp.refl _⟩,h2⟩
 simp only [Hp.upd] at hb' ⊢
 by_cases q:k=id
 ·rw [if_pos q] at hb' ⊢;exact hb'
 ·rw [if_neg q] at hb' ⊢
  have key:∀ (L:List Prt) (N:Nat),s.st.H.upd (opU N L) k=some b'→Hp.upd (fun k=>if k=id then some (.hrow v.b (tsz u) xs.length (vcells v u xs)) else s.st.H k) (opU N L) k=some b':=by
   intro L
   induction L with
   | nil=>intro N h;simp only [opU,Hp.upd,if_neg q] at h ⊢;exact h
   | cons p L ih=>
    intro N h
    simp only [opU,Hp.upd] at h ⊢
    by_cases q3:k=N
    ·rw [if_pos q3] at h ⊢;exact h
    ·rw [if_neg q3] at h ⊢;exact ih _ h
  exact key _ _ hb'
def evLoadO (P:Program) (s:TSt) (t:TypeId) (x:TA) (κ:TRes→Option R):Option R:=
 match x with
 | .rp id i off=>match lookH s.H id with
  | some (.row u v xs)=>match v.d,P.underlying t,P.info? t with
   | true,some d,some ti=>match aggD d with
    | true=>if (off+ti.size).ble (tsz u) then κ ⟨.agg (openA s.N (((tget u (nth u.df xs i)).drop off).take ti.size)),(id,some (.hrow u v xs i (openO off s.N (((tget u (nth u.df xs i)).drop off).take ti.size))))::openU s.N (((tget u (nth u.df xs i)).drop off).take ti.size),(openU s.N (((tget u (nth u.df xs i)).drop off).take ti.size)).length⟩ else none
    | false=>match openA s.N (((tget u (nth u.df xs i)).drop off).take 1) with
     | [a]=>κ ⟨a,(id,some (.hrow u v xs i (openO off s.N (((tget u (nth u.df xs i)).drop off).take 1))))::openU s.N (((tget u (nth u.df xs i)).drop off).take 1),(openU s.N (((tget u (nth u.df xs i)).drop off).take 1)).length⟩
     | _=>none
   | _,_,_=>none
  | _=>none
 | _=>none
theorem take_drop_get {α:Type} {l:List α} {off n k:Nat} (h:k < ((l.drop off).take n).length):l[off+k]?=some ((l.drop off).take n)[k]:=by
 have h2:k < n∧off+k < l.length:=by simp only [List.length_take,List.length_drop] at h;omega
 simp [List.getElem_take,List.getElem_drop,h2.2]
theorem evLoadO_core {o:Oper} {s:TSt} {κ:TRes→Option R} {z:R} {id off:Nat} {i:Int} {u:Ty} {v:RV} {xs:List u.dn} {ds:List Dyn} {va:TA} {rv:AV} (hs:s.ok) (hb:lookH s.H id=some (.row u v xs)) (hid:id < s.N)
  (hds:∀ k (h:k < ds.length),(tget u (nth u.df xs i))[off+k]?=some ds[k])
  (hop:OpOk P o s.st ⟨rv,(id,some (.hrow v.b (tsz u) xs.length (opE i.toNat s.N (prts off ds) (vcells v u xs))))::opU s.N (prts off ds),List.range' s.N (openU s.N ds).length⟩)
  (hv:v.d=true) (hrv:(∀ k,k < ds.length→opE i.toNat s.N (prts off ds) (vcells v u xs) i.toNat (off+k)=((openA s.N ds).getD k .top).av (updH s.H ((id,some (.hrow u v xs i (openO off s.N ds)))::openU s.N ds)))→Imp rv (va.av (updH s.H ((id,some (.hrow u v xs i (openO off s.N ds)))::openU s.N ds))))
  (hva:va.wf (updH s.H ((id,some (.hrow u v xs i (openO off s.N ds)))::openU s.N ds)) (s.N+(openU s.N ds).length))
  (hk:κ ⟨va,(id,some (.hrow u v xs i (openO off s.N ds)))::openU s.N ds,(openU s.N ds).length⟩=some z):EvR P o s κ z:=by
 let H2:List (Nat×TBlk):=updH s.H ((id,some (.hrow u v xs i (openO off s.N ds)))::openU s.N ds)
 have he:∀ k (h:k < ds.length),vcells v u xs i.toNat (off+k)=(dav ds[k]).deep:=fun k hk=>by
  simp only [vcells,hv]
  rw [rcells_at]
  have:=hds k hk
  simp only [nth] at this
  rw [this]
 have look2:∀ p,p∈openU s.N ds→lookH H2 p.1=p.2:=fun p hp=>by
  obtain ⟨k1,k2⟩:=openU_look s.H ds s.N p hp
  simp only [H2,updH,lookH,nbeq_ne (show ¬ p.1=id by omega)]
  exact k2
 obtain ⟨q1,q2⟩:=opE_eq (H2:=H2) (i0:=i.toNat) ds off s.N (vcells v u xs) look2 he
 have hsub:Sub s.H H2 s.N:=fun id' hid'=>by
  simp only [H2,updH,lookH]
  cases e:Nat.beq id' id with
  | true=>rw [Nat.eq_of_beq_eq_true e,hb];rfl
  | false=>
   rcases opens_look s.st.H s.H id' ds off s.N with ⟨_,_,_,k2,_⟩ | ⟨k1,_⟩
   ·omega
   ·exact congrArg shp k1
 refine ⟨⟨va,(id,some (.hrow u v xs i (openO off s.N ds)))::openU s.N ds,(openU s.N ds).length⟩,⟨rv,_,hop,hrv q2,?_,?_⟩,⟨hsub,hva,?_⟩,hk⟩
 ·intro id' hm
  simp only [List.map_cons,List.mem_cons] at hm ⊢
  rcases hm with h | h
  ·exact .inl h
  ·refine .inr ?_
   have key:∀ (ds:List Dyn) (off N:Nat),(opU N (prts off ds)).map (·.1)=(openU N ds).map (·.1):=by
    intro ds
    induction ds using dyns_cases with
    | h0=>intro off N;rfl
    | h1 u ys r ih=>intro off N;simp only [prts,opU,openU,List.map_cons,ih (off+1) (N+1)]
    | h2 y r hy a b c d ih=>intro off N;rw [b,d];exact ih _ _
   rwa [key] at h
 ·intro id' b' hb'
  obtain ⟨B,hB,hBv,rfl⟩:=hpT_some hb'
  have hB:lookH H2 id'=some B:=hB
  show ∃ b,Hp.upd s.st.H _ id'=some b∧BImp b (B.blk H2)
  by_cases q:id'=id
  ·subst q
   simp only [H2,updH,lookH,Nat.beq_refl] at hB
   cases hB
   refine ⟨_,if_pos rfl,?_⟩
   exact bimp_hh fun i' j _ _=>(q1 i' j).trans rfl
  ·simp only [Hp.upd,if_neg q]
   have hB':lookH (updH s.H (openU s.N ds)) id'=some B:=by simpa only [H2,updH,lookH,nbeq_ne q] using hB
   rcases opens_look s.st.H s.H id' ds off s.N with ⟨u',ys',k1,k2,k3⟩ | ⟨k1,k2,_⟩
   ·rw [k1] at hB'
    cases hB'
    refine ⟨_,k3,?_⟩
    simp only [TBlk.blk,kindOf_b]
    exact bimp_row (by intro i' j _ _ w F μ S u h;rw [vcells_kind (kindOf_d u')];exact h)
   ·rw [k1] at hB'
    rw [k2]
    refine ⟨_,st_at hB' hBv,?_⟩
    rw [blk_sub hsub (hs.H id' _ hB')]
    exact BImp.refl _
 ·intro id' b hm
  simp only [List.mem_cons,Prod.mk.injEq,Option.some.injEq] at hm
  rcases hm with ⟨_,h⟩ | h
  ·rw [h];exact openO_wf ds off s.N
  ·obtain ⟨u',ys',h3⟩:=openU_row ds s.N _ h
   simp only [Option.some.injEq] at h3
   rw [h3];simp only [TBlk.refs,wfL]
theorem evLoadO_ok {o:Oper} {s:TSt} {κ:TRes→Option R} {z:R} {x:Operand} {t:TypeId} (ho:o.op=.load t x) (hs:s.ok) (h:evLoadO P s t (s.val x) κ=some z):EvR P o s κ z:=by
 unfold evLoadO at h
 split at h
 ·rename_i id i off hx
  have hw:=val_wf hs x
  rw [hx] at hw
  simp only [TA.wf] at hw
  split at h
  ·rename_i u v xs hb
   have hi:=hw.2 u v xs.length (by rw [hb];rfl)
   have h1:=@opd_at s x _ hx
   simp only [TA.av,hb,shp] at h1
   have core:∀ (ds:List Dyn) (n:Nat),ds.length=n→off+n≤tsz u→v.d=true→(∀ k (h:k < ds.length),(tget u (nth u.df xs i))[off+k]?=some ds[k])→
     ∀ {w F O μ K ft a},SR w F O μ K s.st ft a→(∀ id,id∈List.range' s.N (openU s.N ds).length→¬ K id)→∃ μ' ft',HR w F O μ' (plus K (List.range' s.N (openU s.N ds).length)) (s.st.H.upd ((id,some (.hrow v.b (tsz u) xs.length (opE i.toNat s.N (prts off ds) (vcells v u xs))))::opU s.N (prts off ds))) ft'∧Fr w F O μ K w F O μ'∧
      CellsAt w F μ' (plus K (List.range' s.N (openU s.N ds).length)) n (fun k=>opE i.toNat s.N (prts off ds) (vcells v u xs) i.toNat (off+k)) (a.eval x):=by
    intro ds n hn hle hv hds w F O μ K ft a hsr hnew
    obtain ⟨μ',ft',k1,k2⟩:=open_SR hsr hb hv hi hds hnew
    refine ⟨μ',ft',k1,k2,?_⟩
    have he:∀ k (h:k < ds.length),vcells v u xs i.toNat (off+k)=(dav ds[k]).deep:=fun k hk=>by
     simp only [vcells,hv]
     rw [rcells_at]
     have:=hds k hk
     simp only [nth] at this
     rw [this]
    obtain ⟨q1,q2⟩:=opE_eq (H2:=updH s.H (openU s.N ds)) (i0:=i.toNat) ds off s.N (vcells v u xs) (fun p hp=>(openU_look s.H ds s.N p hp).2) he
    refine cells_hrp k1 ((h1 hsr).step hsr.hr k2 fun _ h=>.inl h) (if_pos rfl) hi hle fun k hk=>?_
    rw [q2 k (by omega)]
    have hA:∀ (ds:List Dyn) (N k:Nat),(((openA N ds).getD k .top).av (updH s.H (openU s.N ds))).isOs=false∨True:=fun _ _ _=>.inr trivial
    have key:∀ (r:List Dyn) (N:Nat) (k:Nat) (Hx:List (Nat×TBlk)),(∀ y,y∈r→y.t.leaf=true)→(((openA N r).getD k .top).av Hx).isOs=false:=by
     intro r
     induction r using dyns_cases with
     | h0=>intro N k Hx _;simp [openA,TA.av,AV.isOs]
     | h1 u' ys r ih=>
      intro N k Hx hl
      cases k with
      | zero=>
       simp only [openA,List.getD_cons_zero,TA.av]
       split
       ·rename_i t' v' n' _;cases v'.b<;>rfl
       ·rfl
      | succ k=>simp only [openA,List.getD_cons_succ];exact ih _ k Hx fun y hy=>hl y (by simp [hy])
     | h2 y r hy a b c d ih=>
      intro N k Hx hl
      rw [a]
      cases k with
      | zero=>simp only [List.getD_cons_zero,TA.av];exact dav_noos
      | succ k=>simp only [List.getD_cons_succ];exact ih _ k Hx fun y hy=>hl y (by simp [hy])
    refine key ds s.N k _ fun y hy=>?_
    obtain ⟨k',hk',rfl⟩:=List.getElem_of_mem hy
    exact tget_leaf u _ _ (List.mem_of_getElem? (hds k' hk'))
   have tk:∀ n,off+n≤tsz u→(((tget u (nth u.df xs i)).drop off).take n).length=n:=fun n h=>by
    have:=tget_length u (nth u.df xs i)
    simp only [List.length_take,List.length_drop];omega
   split at h
   ·rename_i d ti hv ht hti
    split at h
    ·rename_i ha
     split at h
     ·rename_i hle
      have hle:=Nat.le_of_ble_eq_true hle
      generalize hds0:((tget u (nth u.df xs i)).drop off).take ti.size=ds at h
      have hds:∀ k (h:k < ds.length),(tget u (nth u.df xs i))[off+k]?=some ds[k]:=by subst hds0;exact fun k h=>take_drop_get h
      have hlen:ds.length=ti.size:=by rw [← hds0];exact tk _ hle
      refine evLoadO_core (rv:=.agg ((List.range ti.size).map fun k=>opE i.toNat s.N (prts off ds) (vcells v u xs) i.toNat (off+k))) (off:=off) (ds:=ds) hs hb hw.1 hds (fun w F O μ K ft a hsr hnew Kn Q hk=>?_) hv (fun q=>?_) ?_ h
      ·obtain ⟨μ',ft',k1,k2,k3⟩:=core ds ti.size hlen hle hv hds hsr hnew
       obtain ⟨vv,k4,k5⟩:=load_run_agg ho ht hti ha k3
       unfold Oper.wp
       rw [k4,Oper.upon_value]
       exact hk vv w F O μ' ft' k5 k1 k2
      ·simp only [TA.av]
       rw [range_map_eq (l:=openA s.N ds) (by rw [openA_length];exact hlen) fun k hk=>q k (by omega)]
       exact Imp.refl _
      ·simp only [TA.wf];exact openA_wf ds s.N
     ·cases h
    ·rename_i ha
     split at h
     ·rename_i a ha2
      generalize hds0:((tget u (nth u.df xs i)).drop off).take 1=ds at h ha2
      have hds:∀ k (h:k < ds.length),(tget u (nth u.df xs i))[off+k]?=some ds[k]:=by subst hds0;exact fun k h=>take_drop_get h
      have hlen:ds.length=1:=by rw [← openA_length ds s.N,ha2];rfl
      have hle:off+1≤tsz u:=by
       have:=(List.getElem?_eq_some_iff.1 (hds 0 (by omega))).1
       rw [tget_length] at this;omega
      refine evLoadO_core (rv:=opE i.toNat s.N (prts off ds) (vcells v u xs) i.toNat (off+0)) (off:=off) (ds:=ds) hs hb hw.1 hds (fun w F O μ K ft act hsr hnew Kn Q hk=>?_) hv (fun q=>?_) ?_ h
      ·obtain ⟨μ',ft',k1,k2,k3⟩:=core ds 1 hlen hle hv hds hsr hnew
       obtain ⟨vv,k4,k5⟩:=load_run_one ho ht ha k3
       unfold Oper.wp
       rw [k4,Oper.upon_value]
       exact hk vv w F O μ' ft' k5 k1 k2
      ·rw [q 0 (by omega),ha2]
       exact Imp.refl _
      ·have:=openA_wf (H:=updH s.H ((id,some (.hrow u v xs i (openO off s.N ds)))::openU s.N ds)) ds s.N
       rw [ha2] at this
       exact this.1
     ·cases h
   ·cases h
  ·cases h
 ·cases h
end Go.Proofs.Ytljfmaaadnoggaa.Abs
