/- Rows whose parts are rows of the call's own, in the evaluator: loads that open a part, parts told whole again. No condition. -/
import Derived.Test.YtljfmaaadnoggaaGreatDoorVL
namespace Go.Proofs.YtljfmaaadnoggaaGreatDoor.cX
open Go Go.RowKit
variable {w w' xW:World} {F F' Cq O O' wx:Nat→Prop} {μ bC kZ:Nat→Nat} {K K' Gg:Nat→Prop} {ft b8:Nat→Nat→Prop} {P:Program} {R:Type}
theorem P8 (u:Ty):(kindOf u).b=true:=by unfold kindOf;cases u.flat<;>rfl
theorem wA {v:RV} {u:Ty} (h:(v.d||u.flat)=true) (ys:List u.dn) (i j:Nat):bY v u ys i j=(cC u ys i j).deep:=by
 simp only [bY]
 cases hv:v.d with
 | true=>rfl
 | false=>rw [hv,Bool.false_or] at h;exact (Sl h ys i j).symm
theorem acA (u:Ty):((kindOf u).d||u.flat)=true:=by unfold kindOf;cases u.flat<;>rfl
def mC:Nat→List cI→List TA
 | _,[]=>[]
 | N,⟨.sl _,_⟩::r=>.ow N::mC (N+1) r
 | N,y::r=>.d y::mC N r
def cW:Nat→List cI→List (Nat×Option aY)
 | _,[]=>[]
 | N,⟨.sl u,ys⟩::r=>(N,some (.row u (kindOf u) ys))::cW (N+1) r
 | N,_::r=>cW N r
def mD:Nat→Nat→List cI→List (Nat×Nat)
 | _,_,[]=>[]
 | off,N,⟨.sl _,_⟩::r=>(off,N)::mD (off+1) (N+1) r
 | off,N,_::r=>mD (off+1) N r
def mZ:Nat→List cI→List Prt
 | _,[]=>[]
 | off,⟨.sl u,ys⟩::r=>⟨off,fg u,List.length (α:=u.dn) ys,fun i j=>(cC u ys i j).deep⟩::mZ (off+1) r
 | off,_::r=>mZ (off+1) r
theorem dX {M:List cI→Prop} (h0:M []) (h1:∀ (u:Ty) (ys:List u.dn) (r:List cI),M r→M (⟨.sl u,ys⟩::r))
  (h2:∀ (y:cI) (r:List cI),y.t.N3=false→(∀ N,mC N (y::r)=.d y::mC N r)→(∀ N,cW N (y::r)=cW N r)→(∀ off N,mD off N (y::r)=mD (off+1) N r)→(∀ off,mZ off (y::r)=mZ (off+1) r)→M r→M (y::r)):∀ ds,M ds
 | []=>h0
 | y::r=>by
  obtain ⟨t,x⟩:=y
  have ih:=dX h0 h1 h2 r
  cases t with
  | sl u=>exact h1 u x r ih
  | int=>exact h2 _ r rfl (fun _=>by simp only [mC]) (fun _=>by simp only [cW]) (fun _ _=>by simp only [mD]) (fun _=>by simp only [mZ]) ih
  | str=>exact h2 _ r rfl (fun _=>by simp only [mC]) (fun _=>by simp only [cW]) (fun _ _=>by simp only [mD]) (fun _=>by simp only [mZ]) ih
  | bool=>exact h2 _ r rfl (fun _=>by simp only [mC]) (fun _=>by simp only [cW]) (fun _ _=>by simp only [mD]) (fun _=>by simp only [mZ]) ih
  | st=>exact h2 _ r rfl (fun _=>by simp only [mC]) (fun _=>by simp only [cW]) (fun _ _=>by simp only [mD]) (fun _=>by simp only [mZ]) ih
theorem Le (ds:List cI):∀ N,(mC N ds).length=ds.length:=by
 induction ds using dX with
 | h0=>intro N;rfl
 | h1 u ys r ih=>intro N;simp only [mC,List.length_cons,ih]
 | h2 y r hy a b c d ih=>intro N;simp only [a,List.length_cons,ih]
theorem V5 (ds:List cI):∀ off N,(mZ off ds).length=(cW N ds).length:=by
 induction ds using dX with
 | h0=>intro off N;rfl
 | h1 u ys r ih=>intro off N;simp only [mZ,cW,List.length_cons,ih (off+1) (N+1)]
 | h2 y r hy a b c d ih=>intro off N;rw [b,d];exact ih _ _
theorem V6 {H:List (Nat×aY)} (ds:List cI):∀ N,iw H (N+(cW N ds).length) (mC N ds):=by
 induction ds using dX with
 | h0=>intro N;simp only [mC,iw]
 | h1 u ys r ih=>
  intro N
  simp only [mC,cW,List.length_cons,iw,TA.wf]
  refine ⟨by omega,?_⟩
  have:=ih (N+1)
  rwa [show N+1+(cW (N+1) r).length=N+((cW (N+1) r).length+1) by omega] at this
 | h2 y r hy a b c d ih=>intro N;rw [a,b];simp only [iw,TA.wf];exact ⟨trivial,ih N⟩
theorem acB {H:List (Nat×aY)} (ds:List cI):∀ off N,iw H (N+(cW N ds).length) ((mD off N ds).map fun p=>.ow p.2):=by
 induction ds using dX with
 | h0=>intro off N;simp only [mD,List.map_nil,iw]
 | h1 u ys r ih=>
  intro off N
  simp only [mD,cW,List.length_cons,List.map_cons,iw,TA.wf]
  refine ⟨by omega,?_⟩
  have:=ih (off+1) (N+1)
  rwa [show N+1+(cW (N+1) r).length=N+((cW (N+1) r).length+1) by omega] at this
 | h2 y r hy a b c d ih=>intro off N;rw [b,c];exact ih (off+1) N
theorem MH (ds:List cI):∀ off N j,j < off→uh (mD off N ds) j=none:=by
 induction ds using dX with
 | h0=>intro off N j _;rfl
 | h1 u ys r ih=>intro off N j h;simp only [mD,uh,cl (show ¬ j=off by omega)];exact ih _ _ j (by omega)
 | h2 y r hy a b c d ih=>intro off N j h;rw [c];exact ih _ _ j (by omega)
theorem acC (ds:List cI):∀ off p,p∈mZ off ds→off≤p.j:=by
 induction ds using dX with
 | h0=>intro off p h;cases h
 | h1 u ys r ih=>
  intro off p h
  simp only [mZ,List.mem_cons] at h
  rcases h with h | h
  ·rw [h];exact Nat.le_refl _
  ·have:=ih _ p h;omega
 | h2 y r hy a b c d ih=>intro off p h;rw [d] at h;have:=ih _ p h;omega
theorem X5 (ds:List cI):∀ off,((mZ off ds).map (·.j)).Nodup:=by
 induction ds using dX with
 | h0=>intro off;exact List.nodup_nil
 | h1 u ys r ih=>
  intro off
  simp only [mZ,List.map_cons,List.nodup_cons]
  refine ⟨fun h=>?_,ih _⟩
  obtain ⟨p,h1,h2⟩:=List.mem_map.1 h
  have:=acC r _ p h1
  omega
 | h2 y r hy a b c d ih=>intro off;rw [d];exact ih _
theorem ad7 {e:Nat→AV} (ds:List cI):∀ off,(∀ k (h:k < ds.length),e (off+k)=(cN ds[k]).deep)→∀ p,p∈mZ off ds→p.j < off+ds.length∧e p.j=.os p.bB p.n p.e:=by
 induction ds using dX with
 | h0=>intro off _ p h;cases h
 | h1 u ys r ih=>
  intro off he p h
  simp only [mZ,List.mem_cons] at h
  rcases h with h | h
  ·subst h
   have:=he 0 (by simp)
   simp only [Nat.add_zero,List.getElem_cons_zero] at this
   exact ⟨by simp,this⟩
  ·have:=ih (off+1) (fun k hk=>by
    have:=he (k+1) (by simpa using hk)
    simp only [List.getElem_cons_succ] at this
    rw [← this];congr 1;omega) p h
   simp only [List.length_cons]
   exact ⟨by omega,this.2⟩
 | h2 y r hy a b c d ih=>
  intro off he p h
  rw [d] at h
  have:=ih (off+1) (fun k hk=>by
   have:=he (k+1) (by simpa using hk)
   simp only [List.getElem_cons_succ] at this
   rw [← this];congr 1;omega) p h
  simp only [List.length_cons]
  exact ⟨by omega,this.2⟩
theorem acD {H2:List (Nat×aY)} {i0:Nat} (ds:List cI):∀ (off N:Nat) (e:Nat→Nat→AV),(∀ p,p∈cW N ds→aR H2 p.1=p.2)→(∀ k (h:k < ds.length),e i0 (off+k)=(cN ds[k]).deep)→
  (∀ i' j,WU i0 N (mZ off ds) e i' j=if i'=i0 then (match uh (mD off N ds) j with | some M=>(TA.ow M).av H2 | none=>e i' j) else e i' j)∧
  ∀ k,k < ds.length→WU i0 N (mZ off ds) e i0 (off+k)=((mC N ds).getD k .top).av H2:=by
 induction ds using dX with
 | h0=>
  intro off N e _ _
  refine ⟨fun i' j=>?_,fun k hk=>by cases hk⟩
  simp only [mZ,WU,mD,uh,ite_self]
 | h1 u ys r ih=>
  intro off N e hl he
  let e1:Nat→Nat→AV:=fun i' j'=>if i'=i0∧j'=off then dr true N ys.length (fg u) else e i' j'
  have hN:(TA.ow N).av H2=dr true N ys.length (fg u):=by
   have:=hl (N,some (.row u (kindOf u) ys)) (by simp [cW])
   simp only at this
   simp only [TA.av,this,fM,P8]
  obtain ⟨q1,q2⟩:=ih (off+1) (N+1) e1 (fun p hp=>hl p (by simp only [cW,List.mem_cons];exact .inr hp)) (fun k hk=>by
   have:=he (k+1) (by simpa using hk)
   simp only [List.getElem_cons_succ] at this
   simp only [e1]
   rw [if_neg (by omega),← this];congr 1;omega)
  have ho:∀ i' j,WU i0 N (mZ off (⟨.sl u,ys⟩::r)) e i' j=WU i0 (N+1) (mZ (off+1) r) e1 i' j:=fun i' j=>rfl
  refine ⟨fun i' j=>?_,fun k hk=>?_⟩
  ·rw [ho,q1]
   by_cases h:i'=i0
   ·rw [if_pos h,if_pos h]
    simp only [mD,uh]
    cases hb:Nat.beq j off with
    | true=>
     have hb:=Nat.eq_of_beq_eq_true hb
     subst hb
     rw [MH r _ _ j (by omega)]
     simp only [e1,h,and_self,if_true]
     exact hN.symm
    | false=>
     have pw:=Nat.ne_of_beq_eq_false hb
     have:e1 i' j=e i' j:=if_neg fun h=>pw h.2
     rw [this]
   ·rw [if_neg h,if_neg h]
    exact if_neg fun h'=>h h'.1
  ·rw [ho]
   cases k with
   | zero=>
    rw [q1,if_pos rfl,MH r (off+1) (N+1) (off+0) (by omega)]
    simp only [e1,Nat.add_zero,and_self,if_true,mC]
    exact hN.symm
   | succ k=>
    have:=q2 k (by simpa using hk)
    rw [show off+(k+1)=off+1+k by omega,this]
    simp only [mC,List.getD_cons_succ]
 | h2 y r hy a b c d ih=>
  intro off N e hl he
  rw [b] at hl
  have Sq:=he 0 (by simp)
  simp only [Nat.add_zero,List.getElem_cons_zero] at Sq
  obtain ⟨q1,q2⟩:=ih (off+1) N e hl (fun k hk=>by
   have:=he (k+1) (by simpa using hk)
   simp only [List.getElem_cons_succ] at this
   rw [← this];congr 1;omega)
  rw [d,c,a]
  refine ⟨q1,fun k hk=>?_⟩
  cases k with
  | zero=>
   rw [q1,if_pos rfl,MH r (off+1) N (off+0) (by omega)]
   simp only [List.getD_cons_zero,TA.av,Nat.add_zero]
   rw [Sq,Gs hy]
  | succ k=>
   have:=q2 k (by simpa using hk)
   rw [show off+(k+1)=off+1+k by omega,this]
   simp only [List.getD_cons_succ]
theorem P9 (H:Hp) (T:List (Nat×aY)) (cg:Nat) (ds:List cI):∀ off N,(∃ (u:Ty) (ys:List u.dn),aR (cD T (cW N ds)) cg=some (.row u (kindOf u) ys)∧N≤cg∧H.c_ (QS N (mZ off ds)) cg=some (.row true (fg u) ys.length fun i j=>(cC u ys i j).deep))∨
  (aR (cD T (cW N ds)) cg=aR T cg∧H.c_ (QS N (mZ off ds)) cg=H cg∧(cg < N∨N+(cW N ds).length≤cg)):=by
 induction ds using dX with
 | h0=>intro off N;exact .inr ⟨rfl,rfl,by simp only [cW,List.length_nil];omega⟩
 | h1 u ys r ih=>
  intro off N
  simp only [cW,mZ,cD,QS,aR,Hp.c_]
  cases hb:Nat.beq cg N with
  | true=>
   have hb:=Nat.eq_of_beq_eq_true hb
   exact .inl ⟨u,ys,rfl,by omega,by rw [if_pos hb]⟩
  | false=>
   have pw:=Nat.ne_of_beq_eq_false hb
   rw [if_neg pw]
   rcases ih (off+1) (N+1) with ⟨u',ys',k1,k2,k3⟩ | ⟨k1,k2,k3⟩
   ·exact .inl ⟨u',ys',k1,by omega,k3⟩
   ·exact .inr ⟨k1,k2,by simp only [List.length_cons];omega⟩
 | h2 y r hy a b c d ih=>intro off N;rw [b,d];exact ih _ _
theorem P_ (T:List (Nat×aY)) (ds:List cI):∀ N p,p∈cW N ds→N≤p.1∧aR (cD T (cW N ds)) p.1=p.2:=by
 induction ds using dX with
 | h0=>intro N p h;cases h
 | h1 u ys r ih=>
  intro N p h
  simp only [cW,List.mem_cons] at h
  simp only [cW,cD,aR]
  rcases h with h | h
  ·subst h;exact ⟨Nat.le_refl _,by simp only [Nat.beq_refl]⟩
  ·have:=ih (N+1) p h
   exact ⟨by omega,by simp only [cl (show ¬ p.1=N by omega)];exact this.2⟩
 | h2 y r hy a b c d ih=>intro N p h;rw [b] at h ⊢;exact ih N p h
theorem aaR (ds:List cI):∀ N p,p∈cW N ds→∃ (u:Ty) (ys:List u.dn),p.2=some (.row u (kindOf u) ys):=by
 induction ds using dX with
 | h0=>intro N p h;cases h
 | h1 u ys r ih=>
  intro N p h
  simp only [cW,List.mem_cons] at h
  rcases h with h | h
  ·subst h;exact ⟨u,ys,rfl⟩
  ·exact ih _ p h
 | h2 y r hy a b c d ih=>intro N p h;rw [b] at h;exact ih N p h
theorem Ud {o:Oper} {act:Act} {x:Operand} {t:TypeId} {d:TypeDesc} {i:TypeInfo} {c:Nat→AV} (ho:o.op=.load t x) (ht:P.underlying t=some d) (hi:P.info? t=some i) (ha:KY d=true) (hc:K3 w F μ K i.size c (act.eval x)):
  ∃ v,(execOp act.eval o).run P w=.ok (.value v) w∧VR w F μ K (.agg ((List.range i.size).map c)) v:=by
 obtain ⟨b,o',u,hv,hu⟩:=hc
 exact ⟨_,by simp only [execOp,ho,hv,Sem.run_bind,Gi ht hi ha b o' u (fun j hj=>(hu j hj).1),Result.andThen_ok,Sem.run_pure],.rE (Bx fun j hj=>(hu j hj).2)⟩
theorem Ue {o:Oper} {act:Act} {x:Operand} {t:TypeId} {d:TypeDesc} {c:Nat→AV} (ho:o.op=.load t x) (ht:P.underlying t=some d) (ha:KY d=false) (hc:K3 w F μ K 1 c (act.eval x)):
  ∃ v,(execOp act.eval o).run P w=.ok (.value v) w∧VR w F μ K (c 0) v:=by
 obtain ⟨b,o',u,hv,hu⟩:=hc
 exact ⟨_,by simp only [execOp,ho,hv,Sem.run_bind,Gj ht ha b o' (u 0) (hu 0 (by omega)).1,Result.andThen_ok,Sem.run_pure],(hu 0 (by omega)).2⟩
theorem aaS {H:Hp} {n id bB i j m:Nat} {v:Bool} {e:Nat→Nat→AV} {u:Value} (hr:HR w F O μ K H ft) (hx:VR w F μ K (.rp id bB i j) u) (hb:H id=some (.da v bB m e)) (hi:i < m) (hle:j+n≤bB)
  (hc:∀ k,k < n→(e i (j+k)).My=false):K3 w F μ K n (fun k=>e i (j+k)) u:=by
 obtain ⟨ob,qR,cs,t,S',rfl,hB⟩:=hr.dw id _ hb (G7 (by omega))
 cases hx with
 | rp _ _ _ _ cb=>
  refine ⟨_,_,fun k=>cs.getD (i*bB+j+k) undef,rfl,fun k hk=>?_⟩
  have h2:(i+1)*bB≤m*bB:=Nat.mul_le_mul_right _ hi
  rw [Nat.add_mul,Nat.one_mul] at h2
  have fL:=hB.size
  have dQ:i*bB+j+k < cs.size:=by omega
  refine ⟨by simp [World.cell?,qR,dQ],?_⟩
  have h5:=(hB.cell i (j+k) hi (by omega)).1
  rw [← Nat.add_assoc] at h5
  rcases h5 with h5 | h5
  ·exact (h5.closed (hc k hk)).1.up
  ·exact h5.1
theorem ad8 {s:bQ} {id off:Nat} {u:Ty} {v:RV} {xs:List u.dn} {i:Int} {ds:List cI} {a:Act} (hs:SR w F O μ K s.st ft a) (hb:aR s.H id=some (.row u v xs)) (hv:v.d=true) (hi:i.toNat < xs.length) (tC:∀ k (h:k < ds.length),(dV u (nth u.df xs i))[off+k]?=some ds[k])
  (hn:∀ k,k∈List.range' s.N (cW s.N ds).length→¬ K k):
  ∃ bC b8,HR w F O bC (plus K (List.range' s.N (cW s.N ds).length)) (s.st.H.c_ ((id,some (.da v.b (fg u) xs.length (WU i.toNat s.N (mZ off ds) (bY v u xs))))::QS s.N (mZ off ds))) b8∧Fr w F O μ K w F O bC:=by
 have hlen:∀ k,k < ds.length→off+k < fg u:=fun k hk=>by
  rw [← e9 u (nth u.df xs i)]
  exact (List.getElem?_eq_some_iff.1 (tC k hk)).1
 have he:∀ k (h:k < ds.length),bY v u xs i.toNat (off+k)=(cN ds[k]).deep:=fun k hk=>by
  simp only [bY,hv]
  rw [oT]
  have:=tC k hk
  simp only [nth] at this
  rw [this]
 have hr1:HR w F O μ K (fun k=>if k=id then some (.da v.b (fg u) xs.length (bY v u xs)) else s.st.H k) ft:=hs.hr.imp fun k b' cu=>by
  by_cases q:k=id
  ·rw [if_pos q] at cu
   cases cu
   exact ⟨_,q▸dz hb,aaH fun _ _ _ _=>rfl⟩
  ·rw [if_neg q] at cu
   exact ⟨_,cu,eV.refl _⟩
 have hpl:=V5 ds off s.N
 obtain ⟨bC,b8,h1,h2⟩:=Sm (id:=id) (bB:=fg u) (n:=xs.length) (i:=i.toNat) (v:=v.b) (mZ off ds) (N:=s.N) (e:=bY v u xs) hr1 (by rw [hpl];exact hn) (if_pos rfl) hi (fun p hp=>by
  obtain ⟨k1,k2⟩:=ad7 (e:=bY v u xs i.toNat) ds off he p hp
  refine ⟨?_,k2⟩
  cases hd:ds with
  | nil=>rw [hd] at hp;cases hp
  | cons y r=>
   have:=hlen (ds.length-1) (by rw [hd];simp)
   have:0 < ds.length:=by rw [hd];simp
   omega) (X5 ds off)
 rw [hpl] at h1
 refine ⟨bC,b8,h1.imp fun k b' cu=>⟨b',?_,eV.refl _⟩,h2⟩
 simp only [Hp.c_] at cu ⊢
 by_cases q:k=id
 ·rw [if_pos q] at cu ⊢;exact cu
 ·rw [if_neg q] at cu ⊢
  have key:∀ (L:List Prt) (N:Nat),s.st.H.c_ (QS N L) k=some b'→Hp.c_ (fun k=>if k=id then some (.da v.b (fg u) xs.length (bY v u xs)) else s.st.H k) (QS N L) k=some b':=by
   intro L
   induction L with
   | nil=>intro N h;simp only [QS,Hp.c_,if_neg q] at h ⊢;exact h
   | cons p L ih=>
    intro N h
    simp only [QS,Hp.c_] at h ⊢
    by_cases q3:k=N
    ·rw [if_pos q3] at h ⊢;exact h
    ·rw [if_neg q3] at h ⊢;exact ih _ h
  exact key _ _ cu
def Uf (P:Program) (s:bQ) (t:TypeId) (x:TA) (κ:cE→Option R):Option R:=
 match x with
 | .rp id i off=>match aR s.H id with
  | some (.row u v xs)=>match v.d,P.underlying t,P.info? t with
   | true,some d,some ti=>match KY d with
    | true=>if (off+ti.size).ble (fg u) then κ ⟨.agg (mC s.N (((dV u (nth u.df xs i)).drop off).take ti.size)),(id,some (.da u v xs i (mD off s.N (((dV u (nth u.df xs i)).drop off).take ti.size))))::cW s.N (((dV u (nth u.df xs i)).drop off).take ti.size),(cW s.N (((dV u (nth u.df xs i)).drop off).take ti.size)).length⟩ else none
    | false=>match mC s.N (((dV u (nth u.df xs i)).drop off).take 1) with
     | [a]=>κ ⟨a,(id,some (.da u v xs i (mD off s.N (((dV u (nth u.df xs i)).drop off).take 1))))::cW s.N (((dV u (nth u.df xs i)).drop off).take 1),(cW s.N (((dV u (nth u.df xs i)).drop off).take 1)).length⟩
     | _=>none
   | _,_,_=>none
  | _=>none
 | _=>none
theorem IE {α:Type} {l:List α} {off n k:Nat} (h:k < ((l.drop off).take n).length):l[off+k]?=some ((l.drop off).take n)[k]:=by
 have h2:k < n∧off+k < l.length:=by simp only [List.length_take,List.length_drop] at h;omega
 simp [List.getElem_take,List.getElem_drop,h2.2]
theorem Lf {o:Oper} {s:bQ} {κ:cE→Option R} {z:R} {id off:Nat} {i:Int} {u:Ty} {v:RV} {xs:List u.dn} {ds:List cI} {va:TA} {rv:AV} (hs:s.ok) (hb:aR s.H id=some (.row u v xs)) (cb:id < s.N)
  (tC:∀ k (h:k < ds.length),(dV u (nth u.df xs i))[off+k]?=some ds[k])
  (nA:de P o s.st ⟨rv,(id,some (.da v.b (fg u) xs.length (WU i.toNat s.N (mZ off ds) (bY v u xs))))::QS s.N (mZ off ds),List.range' s.N (cW s.N ds).length⟩)
  (hv:v.d=true) (hrv:(∀ k,k < ds.length→WU i.toNat s.N (mZ off ds) (bY v u xs) i.toNat (off+k)=((mC s.N ds).getD k .top).av (cD s.H ((id,some (.da u v xs i (mD off s.N ds)))::cW s.N ds)))→iu rv (va.av (cD s.H ((id,some (.da u v xs i (mD off s.N ds)))::cW s.N ds))))
  (hva:va.wf (cD s.H ((id,some (.da u v xs i (mD off s.N ds)))::cW s.N ds)) (s.N+(cW s.N ds).length))
  (hk:κ ⟨va,(id,some (.da u v xs i (mD off s.N ds)))::cW s.N ds,(cW s.N ds).length⟩=some z):xY P o s κ z:=by
 let H2:List (Nat×aY):=cD s.H ((id,some (.da u v xs i (mD off s.N ds)))::cW s.N ds)
 have he:∀ k (h:k < ds.length),bY v u xs i.toNat (off+k)=(cN ds[k]).deep:=fun k hk=>by
  simp only [bY,hv]
  rw [oT]
  have:=tC k hk
  simp only [nth] at this
  rw [this]
 have ahS:∀ p,p∈cW s.N ds→aR H2 p.1=p.2:=fun p hp=>by
  obtain ⟨k1,k2⟩:=P_ s.H ds s.N p hp
  simp only [H2,cD,aR,cl (show ¬ p.1=id by omega)]
  exact k2
 obtain ⟨q1,q2⟩:=acD (H2:=H2) (i0:=i.toNat) ds off s.N (bY v u xs) ahS he
 have jM:Sub s.H H2 s.N:=fun cg Ro=>by
  simp only [H2,cD,aR]
  cases e:Nat.beq cg id with
  | true=>rw [Nat.eq_of_beq_eq_true e,hb];rfl
  | false=>
   rcases P9 s.st.H s.H cg ds off s.N with ⟨_,_,_,k2,_⟩ | ⟨k1,_⟩
   ·omega
   ·exact congrArg fM k1
 refine ⟨⟨va,(id,some (.da u v xs i (mD off s.N ds)))::cW s.N ds,(cW s.N ds).length⟩,⟨rv,_,nA,hrv q2,?_,?_⟩,⟨jM,hva,?_⟩,hk⟩
 ·intro cg hm
  simp only [List.map_cons,List.mem_cons] at hm ⊢
  rcases hm with h | h
  ·exact .inl h
  ·refine .inr ?_
   have key:∀ (ds:List cI) (off N:Nat),(QS N (mZ off ds)).map (·.1)=(cW N ds).map (·.1):=by
    intro ds
    induction ds using dX with
    | h0=>intro off N;rfl
    | h1 u ys r ih=>intro off N;simp only [mZ,QS,cW,List.map_cons,ih (off+1) (N+1)]
    | h2 y r hy a b c d ih=>intro off N;rw [b,d];exact ih _ _
   rwa [key] at h
 ·intro cg b' cu
  obtain ⟨B,hB,hBv,rfl⟩:=iv cu
  have hB:aR H2 cg=some B:=hB
  show ∃ b,Hp.c_ s.st.H _ cg=some b∧eV b (B.dw H2)
  by_cases q:cg=id
  ·subst q
   simp only [H2,cD,aR,Nat.beq_refl] at hB
   cases hB
   refine ⟨_,if_pos rfl,?_⟩
   exact adS fun i' j _ _=>(q1 i' j).trans rfl
  ·simp only [Hp.c_,if_neg q]
   have hB':aR (cD s.H (cW s.N ds)) cg=some B:=by simpa only [H2,cD,aR,cl q] using hB
   rcases P9 s.st.H s.H cg ds off s.N with ⟨u',ys',k1,k2,k3⟩ | ⟨k1,k2,_⟩
   ·rw [k1] at hB'
    cases hB'
    refine ⟨_,k3,?_⟩
    simp only [aY.dw,P8]
    exact VV (by intro i' j _ _ w F μ S u h;rw [wA (acA u')];exact h)
   ·rw [k1] at hB'
    rw [k2]
    refine ⟨_,dz hB' hBv,?_⟩
    rw [qy jM (hs.H cg _ hB')]
    exact eV.refl _
 ·intro cg b hm
  simp only [List.mem_cons,Prod.mk.injEq,Option.some.injEq] at hm
  rcases hm with ⟨_,h⟩ | h
  ·rw [h];exact acB ds off s.N
  ·obtain ⟨u',ys',h3⟩:=aaR ds s.N _ h
   simp only [Option.some.injEq] at h3
   rw [h3];simp only [aY.refs,iw]
theorem X6 {o:Oper} {s:bQ} {κ:cE→Option R} {z:R} {x:Operand} {t:TypeId} (ho:o.op=.load t x) (hs:s.ok) (h:Uf P s t (s.val x) κ=some z):xY P o s κ z:=by
 unfold Uf at h
 split at h
 ·rename_i id i off hx
  have hw:=gy hs x
  rw [hx] at hw
  simp only [TA.wf] at hw
  split at h
  ·rename_i u v xs hb
   have hi:=hw.2 u v xs.length (by rw [hb];rfl)
   have h1:=@b9 s x _ hx
   simp only [TA.av,hb,fM] at h1
   have core:∀ (ds:List cI) (n:Nat),ds.length=n→off+n≤fg u→v.d=true→(∀ k (h:k < ds.length),(dV u (nth u.df xs i))[off+k]?=some ds[k])→
     ∀ {w F O μ K ft a},SR w F O μ K s.st ft a→(∀ id,id∈List.range' s.N (cW s.N ds).length→¬ K id)→∃ bC b8,HR w F O bC (plus K (List.range' s.N (cW s.N ds).length)) (s.st.H.c_ ((id,some (.da v.b (fg u) xs.length (WU i.toNat s.N (mZ off ds) (bY v u xs))))::QS s.N (mZ off ds))) b8∧Fr w F O μ K w F O bC∧
      K3 w F bC (plus K (List.range' s.N (cW s.N ds).length)) n (fun k=>WU i.toNat s.N (mZ off ds) (bY v u xs) i.toNat (off+k)) (a.eval x):=by
    intro ds n hn hle hv tC w F O μ K ft a iJ Gr
    obtain ⟨bC,b8,k1,k2⟩:=ad8 iJ hb hv hi tC Gr
    refine ⟨bC,b8,k1,k2,?_⟩
    have he:∀ k (h:k < ds.length),bY v u xs i.toNat (off+k)=(cN ds[k]).deep:=fun k hk=>by
     simp only [bY,hv]
     rw [oT]
     have:=tC k hk
     simp only [nth] at this
     rw [this]
    obtain ⟨q1,q2⟩:=acD (H2:=cD s.H (cW s.N ds)) (i0:=i.toNat) ds off s.N (bY v u xs) (fun p hp=>(P_ s.H ds s.N p hp).2) he
    refine aaS k1 ((h1 iJ).step iJ.hr k2 fun _ h=>.inl h) (if_pos rfl) hi hle fun k hk=>?_
    rw [q2 k (by omega)]
    have hA:∀ (ds:List cI) (N k:Nat),(((mC N ds).getD k .top).av (cD s.H (cW s.N ds))).My=false∨True:=fun _ _ _=>.inr trivial
    have key:∀ (r:List cI) (N:Nat) (k:Nat) (Hx:List (Nat×aY)),(∀ y,y∈r→y.t.leaf=true)→(((mC N r).getD k .top).av Hx).My=false:=by
     intro r
     induction r using dX with
     | h0=>intro N k Hx _;simp [mC,TA.av,AV.My]
     | h1 u' ys r ih=>
      intro N k Hx hl
      cases k with
      | zero=>
       simp only [mC,List.getD_cons_zero,TA.av]
       split
       ·rename_i t' v' n' _;cases v'.b<;>rfl
       ·rfl
      | succ k=>simp only [mC,List.getD_cons_succ];exact ih _ k Hx fun y hy=>hl y (by simp [hy])
     | h2 y r hy a b c d ih=>
      intro N k Hx hl
      rw [a]
      cases k with
      | zero=>simp only [List.getD_cons_zero,TA.av];exact La
      | succ k=>simp only [List.getD_cons_succ];exact ih _ k Hx fun y hy=>hl y (by simp [hy])
    refine key ds s.N k _ fun y hy=>?_
    obtain ⟨k',Ia,rfl⟩:=List.getElem_of_mem hy
    exact Cu u _ _ (List.mem_of_getElem? (tC k' Ia))
   have tk:∀ n,off+n≤fg u→(((dV u (nth u.df xs i)).drop off).take n).length=n:=fun n h=>by
    have:=e9 u (nth u.df xs i)
    simp only [List.length_take,List.length_drop];omega
   split at h
   ·rename_i d ti hv ht hti
    split at h
    ·rename_i ha
     split at h
     ·rename_i hle
      have hle:=Nat.le_of_ble_eq_true hle
      generalize ad9:((dV u (nth u.df xs i)).drop off).take ti.size=ds at h
      have tC:∀ k (h:k < ds.length),(dV u (nth u.df xs i))[off+k]?=some ds[k]:=by subst ad9;exact fun k h=>IE h
      have hlen:ds.length=ti.size:=by rw [← ad9];exact tk _ hle
      refine Lf (rv:=.agg ((List.range ti.size).map fun k=>WU i.toNat s.N (mZ off ds) (bY v u xs) i.toNat (off+k))) (off:=off) (ds:=ds) hs hb hw.1 tC (fun w F O μ K ft a iJ Gr Kn Q hk=>?_) hv (fun q=>?_) ?_ h
      ·obtain ⟨bC,b8,k1,k2,k3⟩:=core ds ti.size hlen hle hv tC iJ Gr
       obtain ⟨vv,k4,k5⟩:=Ud ho ht hti ha k3
       unfold Oper.wp
       rw [k4,Oper.upon_value]
       exact hk vv w F O bC b8 k5 k1 k2
      ·simp only [TA.av]
       rw [DA (l:=mC s.N ds) (by rw [Le];exact hlen) fun k hk=>q k (by omega)]
       exact iu.refl _
      ·simp only [TA.wf];exact V6 ds s.N
     ·cases h
    ·rename_i ha
     split at h
     ·rename_i a ha2
      generalize ad9:((dV u (nth u.df xs i)).drop off).take 1=ds at h ha2
      have tC:∀ k (h:k < ds.length),(dV u (nth u.df xs i))[off+k]?=some ds[k]:=by subst ad9;exact fun k h=>IE h
      have hlen:ds.length=1:=by rw [← Le ds s.N,ha2];rfl
      have hle:off+1≤fg u:=by
       have:=(List.getElem?_eq_some_iff.1 (tC 0 (by omega))).1
       rw [e9] at this;omega
      refine Lf (rv:=WU i.toNat s.N (mZ off ds) (bY v u xs) i.toNat (off+0)) (off:=off) (ds:=ds) hs hb hw.1 tC (fun w F O μ K ft act iJ Gr Kn Q hk=>?_) hv (fun q=>?_) ?_ h
      ·obtain ⟨bC,b8,k1,k2,k3⟩:=core ds 1 hlen hle hv tC iJ Gr
       obtain ⟨vv,k4,k5⟩:=Ue ho ht ha k3
       unfold Oper.wp
       rw [k4,Oper.upon_value]
       exact hk vv w F O bC b8 k5 k1 k2
      ·rw [q 0 (by omega),ha2]
       exact iu.refl _
      ·have:=V6 (H:=cD s.H ((id,some (.da u v xs i (mD off s.N ds)))::cW s.N ds)) ds s.N
       rw [ha2] at this
       exact this.1
     ·cases h
   ·cases h
  ·cases h
 ·cases h
end Go.Proofs.YtljfmaaadnoggaaGreatDoor.cX
