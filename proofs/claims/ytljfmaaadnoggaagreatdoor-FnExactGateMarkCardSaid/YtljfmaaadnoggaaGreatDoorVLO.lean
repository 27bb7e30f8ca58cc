/- Rows whose parts are rows of the call's own, in the evaluator: loads that open a part, parts told whole again. No condition. -/
import Derived.Test.YtljfmaaadnoggaaGreatDoorVL
namespace Go.Proofs.YtljfmaaadnoggaaGreatDoor.cU
open Go Go.RowKit
variable {w w' vP:World} {F F' Am O O' ux:Nat→Prop} {μ bB jV:Nat→Nat} {K K' DQ:Nat→Prop} {ft b7:Nat→Nat→Prop} {P:Program} {R:Type}
theorem Nv (u:Ty):(kindOf u).b=true:=by unfold kindOf;cases u.flat<;>rfl
theorem uA {v:RV} {u:Ty} (h:(v.d||u.flat)=true) (ys:List u.dn) (i j:Nat):bU v u ys i j=(cy u ys i j).deep:=by
 simp only [bU]
 cases hv:v.d with
 | true=>rfl
 | false=>rw [hv,Bool.false_or] at h;exact (PQ h ys i j).symm
theorem ZH (u:Ty):((kindOf u).d||u.flat)=true:=by unfold kindOf;cases u.flat<;>rfl
def lb:Nat→List cE→List TA
 | _,[]=>[]
 | N,⟨.sl _,_⟩::r=>.ow N::lb (N+1) r
 | N,y::r=>.d y::lb N r
def cS:Nat→List cE→List (Nat×Option aW)
 | _,[]=>[]
 | N,⟨.sl u,ys⟩::r=>(N,some (.row u (kindOf u) ys))::cS (N+1) r
 | N,_::r=>cS N r
def lg:Nat→Nat→List cE→List (Nat×Nat)
 | _,_,[]=>[]
 | off,N,⟨.sl _,_⟩::r=>(off,N)::lg (off+1) (N+1) r
 | off,N,_::r=>lg (off+1) N r
def lE:Nat→List cE→List Prt
 | _,[]=>[]
 | off,⟨.sl u,ys⟩::r=>⟨off,eR u,List.length (α:=u.dn) ys,fun i j=>(cy u ys i j).deep⟩::lE (off+1) r
 | off,_::r=>lE (off+1) r
theorem dM {M:List cE→Prop} (h0:M []) (h1:∀ (u:Ty) (ys:List u.dn) (r:List cE),M r→M (⟨.sl u,ys⟩::r))
  (h2:∀ (y:cE) (r:List cE),y.t.LJ=false→(∀ N,lb N (y::r)=.d y::lb N r)→(∀ N,cS N (y::r)=cS N r)→(∀ off N,lg off N (y::r)=lg (off+1) N r)→(∀ off,lE off (y::r)=lE (off+1) r)→M r→M (y::r)):∀ ds,M ds
 | []=>h0
 | y::r=>by
  obtain ⟨t,x⟩:=y
  have ih:=dM h0 h1 h2 r
  cases t with
  | sl u=>exact h1 u x r ih
  | int=>exact h2 _ r rfl (fun _=>by simp only [lb]) (fun _=>by simp only [cS]) (fun _ _=>by simp only [lg]) (fun _=>by simp only [lE]) ih
  | str=>exact h2 _ r rfl (fun _=>by simp only [lb]) (fun _=>by simp only [cS]) (fun _ _=>by simp only [lg]) (fun _=>by simp only [lE]) ih
  | bool=>exact h2 _ r rfl (fun _=>by simp only [lb]) (fun _=>by simp only [cS]) (fun _ _=>by simp only [lg]) (fun _=>by simp only [lE]) ih
  | st=>exact h2 _ r rfl (fun _=>by simp only [lb]) (fun _=>by simp only [cS]) (fun _ _=>by simp only [lg]) (fun _=>by simp only [lE]) ih
theorem IW (ds:List cE):∀ N,(lb N ds).length=ds.length:=by
 induction ds using dM with
 | h0=>intro N;rfl
 | h1 u ys r ih=>intro N;simp only [lb,List.length_cons,ih]
 | h2 y r hy a b c d ih=>intro N;simp only [a,List.length_cons,ih]
theorem S8 (ds:List cE):∀ off N,(lE off ds).length=(cS N ds).length:=by
 induction ds using dM with
 | h0=>intro off N;rfl
 | h1 u ys r ih=>intro off N;simp only [lE,cS,List.length_cons,ih (off+1) (N+1)]
 | h2 y r hy a b c d ih=>intro off N;rw [b,d];exact ih _ _
theorem S9 {H:List (Nat×aW)} (ds:List cE):∀ N,gQ H (N+(cS N ds).length) (lb N ds):=by
 induction ds using dM with
 | h0=>intro N;simp only [lb,gQ]
 | h1 u ys r ih=>
  intro N
  simp only [lb,cS,List.length_cons,gQ,TA.wf]
  refine ⟨by omega,?_⟩
  have:=ih (N+1)
  rwa [show N+1+(cS (N+1) r).length=N+((cS (N+1) r).length+1) by omega] at this
 | h2 y r hy a b c d ih=>intro N;rw [a,b];simp only [gQ,TA.wf];exact ⟨trivial,ih N⟩
theorem ZI {H:List (Nat×aW)} (ds:List cE):∀ off N,gQ H (N+(cS N ds).length) ((lg off N ds).map fun p=>.ow p.2):=by
 induction ds using dM with
 | h0=>intro off N;simp only [lg,List.map_nil,gQ]
 | h1 u ys r ih=>
  intro off N
  simp only [lg,cS,List.length_cons,List.map_cons,gQ,TA.wf]
  refine ⟨by omega,?_⟩
  have:=ih (off+1) (N+1)
  rwa [show N+1+(cS (N+1) r).length=N+((cS (N+1) r).length+1) by omega] at this
 | h2 y r hy a b c d ih=>intro off N;rw [b,c];exact ih (off+1) N
theorem Km (ds:List cE):∀ off N j,j < off→su (lg off N ds) j=none:=by
 induction ds using dM with
 | h0=>intro off N j _;rfl
 | h1 u ys r ih=>intro off N j h;simp only [lg,su,ca (show ¬ j=off by omega)];exact ih _ _ j (by omega)
 | h2 y r hy a b c d ih=>intro off N j h;rw [c];exact ih _ _ j (by omega)
theorem ZJ (ds:List cE):∀ off p,p∈lE off ds→off≤p.j:=by
 induction ds using dM with
 | h0=>intro off p h;cases h
 | h1 u ys r ih=>
  intro off p h
  simp only [lE,List.mem_cons] at h
  rcases h with h | h
  ·rw [h];exact Nat.le_refl _
  ·have:=ih _ p h;omega
 | h2 y r hy a b c d ih=>intro off p h;rw [d] at h;have:=ih _ p h;omega
theorem U5 (ds:List cE):∀ off,((lE off ds).map (·.j)).Nodup:=by
 induction ds using dM with
 | h0=>intro off;exact List.nodup_nil
 | h1 u ys r ih=>
  intro off
  simp only [lE,List.map_cons,List.nodup_cons]
  refine ⟨fun h=>?_,ih _⟩
  obtain ⟨p,h1,h2⟩:=List.mem_map.1 h
  have:=ZJ r _ p h1
  omega
 | h2 y r hy a b c d ih=>intro off;rw [d];exact ih _
theorem abe {e:Nat→AV} (ds:List cE):∀ off,(∀ k (h:k < ds.length),e (off+k)=(cK ds[k]).deep)→∀ p,p∈lE off ds→p.j < off+ds.length∧e p.j=.os p.aZ p.n p.e:=by
 induction ds using dM with
 | h0=>intro off _ p h;cases h
 | h1 u ys r ih=>
  intro off he p h
  simp only [lE,List.mem_cons] at h
  rcases h with h | h
  ·subst h
   have:=he 0 (by simp)
   simp only [Nat.add_zero,List.getElem_cons_zero] at this
   exact ⟨by simp,this⟩
  ·have:=ih (off+1) (fun k hk=>by
    have:=he (k+1) (by simpa using hk)
    simp only [List.getElem_cons_succ] at this
    rw [← this];congr 1;omega) p h
   simp only [List.length_cons]
   exact ⟨by omega,this.2⟩
 | h2 y r hy a b c d ih=>
  intro off he p h
  rw [d] at h
  have:=ih (off+1) (fun k hk=>by
   have:=he (k+1) (by simpa using hk)
   simp only [List.getElem_cons_succ] at this
   rw [← this];congr 1;omega) p h
  simp only [List.length_cons]
  exact ⟨by omega,this.2⟩
theorem ZK {H2:List (Nat×aW)} {i0:Nat} (ds:List cE):∀ (off N:Nat) (e:Nat→Nat→AV),(∀ p,p∈cS N ds→aR H2 p.1=p.2)→(∀ k (h:k < ds.length),e i0 (off+k)=(cK ds[k]).deep)→
  (∀ i' j,TX i0 N (lE off ds) e i' j=if i'=i0 then (match su (lg off N ds) j with | some M=>(TA.ow M).av H2 | none=>e i' j) else e i' j)∧
  ∀ k,k < ds.length→TX i0 N (lE off ds) e i0 (off+k)=((lb N ds).getD k .top).av H2:=by
 induction ds using dM with
 | h0=>
  intro off N e _ _
  refine ⟨fun i' j=>?_,fun k hk=>by cases hk⟩
  simp only [lE,TX,lg,su,ite_self]
 | h1 u ys r ih=>
  intro off N e hl he
  let e1:Nat→Nat→AV:=fun i' j'=>if i'=i0∧j'=off then dd true N ys.length (eR u) else e i' j'
  have hN:(TA.ow N).av H2=dd true N ys.length (eR u):=by
   have:=hl (N,some (.row u (kindOf u) ys)) (by simp [cS])
   simp only at this
   simp only [TA.av,this,fj,Nv]
  obtain ⟨q1,q2⟩:=ih (off+1) (N+1) e1 (fun p hp=>hl p (by simp only [cS,List.mem_cons];exact .inr hp)) (fun k hk=>by
   have:=he (k+1) (by simpa using hk)
   simp only [List.getElem_cons_succ] at this
   simp only [e1]
   rw [if_neg (by omega),← this];congr 1;omega)
  have ho:∀ i' j,TX i0 N (lE off (⟨.sl u,ys⟩::r)) e i' j=TX i0 (N+1) (lE (off+1) r) e1 i' j:=fun i' j=>rfl
  refine ⟨fun i' j=>?_,fun k hk=>?_⟩
  ·rw [ho,q1]
   by_cases h:i'=i0
   ·rw [if_pos h,if_pos h]
    simp only [lg,su]
    cases hb:Nat.beq j off with
    | true=>
     have hb:=Nat.eq_of_beq_eq_true hb
     subst hb
     rw [Km r _ _ j (by omega)]
     simp only [e1,h,and_self,if_true]
     exact hN.symm
    | false=>
     have o8:=Nat.ne_of_beq_eq_false hb
     have:e1 i' j=e i' j:=if_neg fun h=>o8 h.2
     rw [this]
   ·rw [if_neg h,if_neg h]
    exact if_neg fun h'=>h h'.1
  ·rw [ho]
   cases k with
   | zero=>
    rw [q1,if_pos rfl,Km r (off+1) (N+1) (off+0) (by omega)]
    simp only [e1,Nat.add_zero,and_self,if_true,lb]
    exact hN.symm
   | succ k=>
    have:=q2 k (by simpa using hk)
    rw [show off+(k+1)=off+1+k by omega,this]
    simp only [lb,List.getD_cons_succ]
 | h2 y r hy a b c d ih=>
  intro off N e hl he
  rw [b] at hl
  have S_:=he 0 (by simp)
  simp only [Nat.add_zero,List.getElem_cons_zero] at S_
  obtain ⟨q1,q2⟩:=ih (off+1) N e hl (fun k hk=>by
   have:=he (k+1) (by simpa using hk)
   simp only [List.getElem_cons_succ] at this
   rw [← this];congr 1;omega)
  rw [d,c,a]
  refine ⟨q1,fun k hk=>?_⟩
  cases k with
  | zero=>
   rw [q1,if_pos rfl,Km r (off+1) N (off+0) (by omega)]
   simp only [List.getD_cons_zero,TA.av,Nat.add_zero]
   rw [S_,D0 hy]
  | succ k=>
   have:=q2 k (by simpa using hk)
   rw [show off+(k+1)=off+1+k by omega,this]
   simp only [List.getD_cons_succ]
theorem Nw (H:Hp) (T:List (Nat×aW)) (b9:Nat) (ds:List cE):∀ off N,(∃ (u:Ty) (ys:List u.dn),aR (cz T (cS N ds)) b9=some (.row u (kindOf u) ys)∧N≤b9∧H.c7 (Oh N (lE off ds)) b9=some (.row true (eR u) ys.length fun i j=>(cy u ys i j).deep))∨
  (aR (cz T (cS N ds)) b9=aR T b9∧H.c7 (Oh N (lE off ds)) b9=H b9∧(b9 < N∨N+(cS N ds).length≤b9)):=by
 induction ds using dM with
 | h0=>intro off N;exact .inr ⟨rfl,rfl,by simp only [cS,List.length_nil];omega⟩
 | h1 u ys r ih=>
  intro off N
  simp only [cS,lE,cz,Oh,aR,Hp.c7]
  cases hb:Nat.beq b9 N with
  | true=>
   have hb:=Nat.eq_of_beq_eq_true hb
   exact .inl ⟨u,ys,rfl,by omega,by rw [if_pos hb]⟩
  | false=>
   have o8:=Nat.ne_of_beq_eq_false hb
   rw [if_neg o8]
   rcases ih (off+1) (N+1) with ⟨u',ys',k1,k2,k3⟩ | ⟨k1,k2,k3⟩
   ·exact .inl ⟨u',ys',k1,by omega,k3⟩
   ·exact .inr ⟨k1,k2,by simp only [List.length_cons];omega⟩
 | h2 y r hy a b c d ih=>intro off N;rw [b,d];exact ih _ _
theorem Nx (T:List (Nat×aW)) (ds:List cE):∀ N p,p∈cS N ds→N≤p.1∧aR (cz T (cS N ds)) p.1=p.2:=by
 induction ds using dM with
 | h0=>intro N p h;cases h
 | h1 u ys r ih=>
  intro N p h
  simp only [cS,List.mem_cons] at h
  simp only [cS,cz,aR]
  rcases h with h | h
  ·subst h;exact ⟨Nat.le_refl _,by simp only [Nat.beq_refl]⟩
  ·have:=ih (N+1) p h
   exact ⟨by omega,by simp only [ca (show ¬ p.1=N by omega)];exact this.2⟩
 | h2 y r hy a b c d ih=>intro N p h;rw [b] at h ⊢;exact ih N p h
theorem XG (ds:List cE):∀ N p,p∈cS N ds→∃ (u:Ty) (ys:List u.dn),p.2=some (.row u (kindOf u) ys):=by
 induction ds using dM with
 | h0=>intro N p h;cases h
 | h1 u ys r ih=>
  intro N p h
  simp only [cS,List.mem_cons] at h
  rcases h with h | h
  ·subst h;exact ⟨u,ys,rfl⟩
  ·exact ih _ p h
 | h2 y r hy a b c d ih=>intro N p h;rw [b] at h;exact ih N p h
theorem Rl {o:Oper} {act:Act} {x:Operand} {t:TypeId} {d:TypeDesc} {i:TypeInfo} {c:Nat→AV} (ho:o.op=.load t x) (ht:P.underlying t=some d) (hi:P.info? t=some i) (ha:IF d=true) (hc:IH w F μ K i.size c (act.eval x)):
  ∃ v,(execOp act.eval o).run P w=.ok (.value v) w∧VR w F μ K (.agg ((List.range i.size).map c)) v:=by
 obtain ⟨b,o',u,hv,hu⟩:=hc
 exact ⟨_,by simp only [execOp,ho,hv,Sem.run_bind,DS ht hi ha b o' u (fun j hj=>(hu j hj).1),Result.andThen_ok,Sem.run_pure],.pY (zu fun j hj=>(hu j hj).2)⟩
theorem Rm {o:Oper} {act:Act} {x:Operand} {t:TypeId} {d:TypeDesc} {c:Nat→AV} (ho:o.op=.load t x) (ht:P.underlying t=some d) (ha:IF d=false) (hc:IH w F μ K 1 c (act.eval x)):
  ∃ v,(execOp act.eval o).run P w=.ok (.value v) w∧VR w F μ K (c 0) v:=by
 obtain ⟨b,o',u,hv,hu⟩:=hc
 exact ⟨_,by simp only [execOp,ho,hv,Sem.run_bind,DT ht ha b o' (u 0) (hu 0 (by omega)).1,Result.andThen_ok,Sem.run_pure],(hu 0 (by omega)).2⟩
theorem XH {H:Hp} {n id aZ i j m:Nat} {v:Bool} {e:Nat→Nat→AV} {u:Value} (hr:HR w F O μ K H ft) (hx:VR w F μ K (.rp id aZ i j) u) (hb:H id=some (.c5 v aZ m e)) (hi:i < m) (hle:j+n≤aZ)
  (hc:∀ k,k < n→(e i (j+k)).Kc=false):IH w F μ K n (fun k=>e i (j+k)) u:=by
 obtain ⟨ob,rQ,cs,t,S',rfl,hB⟩:=hr.di id _ hb (Ey (by omega))
 cases hx with
 | rp _ _ _ _ bY=>
  refine ⟨_,_,fun k=>cs.getD (i*aZ+j+k) undef,rfl,fun k hk=>?_⟩
  have h2:(i+1)*aZ≤m*aZ:=Nat.mul_le_mul_right _ hi
  rw [Nat.add_mul,Nat.one_mul] at h2
  have fw:=hB.size
  have dL:i*aZ+j+k < cs.size:=by omega
  refine ⟨by simp [World.cell?,rQ,dL],?_⟩
  have h5:=(hB.cell i (j+k) hi (by omega)).1
  rw [← Nat.add_assoc] at h5
  rcases h5 with h5 | h5
  ·exact (h5.closed (hc k hk)).1.up
  ·exact h5.1
theorem abf {s:bK} {id off:Nat} {u:Ty} {v:RV} {xs:List u.dn} {i:Int} {ds:List cE} {a:Act} (hs:SR w F O μ K s.st ft a) (hb:aR s.H id=some (.row u v xs)) (hv:v.d=true) (hi:i.toNat < xs.length) (rR:∀ k (h:k < ds.length),(dK u (nth u.df xs i))[off+k]?=some ds[k])
  (hn:∀ k,k∈List.range' s.N (cS s.N ds).length→¬ K k):
  ∃ bB b7,HR w F O bB (plus K (List.range' s.N (cS s.N ds).length)) (s.st.H.c7 ((id,some (.c5 v.b (eR u) xs.length (TX i.toNat s.N (lE off ds) (bU v u xs))))::Oh s.N (lE off ds))) b7∧Fr w F O μ K w F O bB:=by
 have hlen:∀ k,k < ds.length→off+k < eR u:=fun k hk=>by
  rw [← eE u (nth u.df xs i)]
  exact (List.getElem?_eq_some_iff.1 (rR k hk)).1
 have he:∀ k (h:k < ds.length),bU v u xs i.toNat (off+k)=(cK ds[k]).deep:=fun k hk=>by
  simp only [bU,hv]
  rw [nC]
  have:=rR k hk
  simp only [nth] at this
  rw [this]
 have hr1:HR w F O μ K (fun k=>if k=id then some (.c5 v.b (eR u) xs.length (bU v u xs)) else s.st.H k) ft:=hs.hr.imp fun k b' cd=>by
  by_cases q:k=id
  ·rw [if_pos q] at cd
   cases cd
   exact ⟨_,q▸dz hb,Xv fun _ _ _ _=>rfl⟩
  ·rw [if_neg q] at cd
   exact ⟨_,cd,eD.refl _⟩
 have hpl:=S8 ds off s.N
 obtain ⟨bB,b7,h1,h2⟩:=PR (id:=id) (aZ:=eR u) (n:=xs.length) (i:=i.toNat) (v:=v.b) (lE off ds) (N:=s.N) (e:=bU v u xs) hr1 (by rw [hpl];exact hn) (if_pos rfl) hi (fun p hp=>by
  obtain ⟨k1,k2⟩:=abe (e:=bU v u xs i.toNat) ds off he p hp
  refine ⟨?_,k2⟩
  cases hd:ds with
  | nil=>rw [hd] at hp;cases hp
  | cons y r=>
   have:=hlen (ds.length-1) (by rw [hd];simp)
   have:0 < ds.length:=by rw [hd];simp
   omega) (U5 ds off)
 rw [hpl] at h1
 refine ⟨bB,b7,h1.imp fun k b' cd=>⟨b',?_,eD.refl _⟩,h2⟩
 simp only [Hp.c7] at cd ⊢
 by_cases q:k=id
 ·rw [if_pos q] at cd ⊢;exact cd
 ·rw [if_neg q] at cd ⊢
  have key:∀ (L:List Prt) (N:Nat),s.st.H.c7 (Oh N L) k=some b'→Hp.c7 (fun k=>if k=id then some (.c5 v.b (eR u) xs.length (bU v u xs)) else s.st.H k) (Oh N L) k=some b':=by
   intro L
   induction L with
   | nil=>intro N h;simp only [Oh,Hp.c7,if_neg q] at h ⊢;exact h
   | cons p L ih=>
    intro N h
    simp only [Oh,Hp.c7] at h ⊢
    by_cases q3:k=N
    ·rw [if_pos q3] at h ⊢;exact h
    ·rw [if_neg q3] at h ⊢;exact ih _ h
  exact key _ _ cd
def Rn (P:Program) (s:bK) (t:TypeId) (x:TA) (κ:cC→Option R):Option R:=
 match x with
 | .rp id i off=>match aR s.H id with
  | some (.row u v xs)=>match v.d,P.underlying t,P.info? t with
   | true,some d,some ti=>match IF d with
    | true=>if (off+ti.size).ble (eR u) then κ ⟨.agg (lb s.N (((dK u (nth u.df xs i)).drop off).take ti.size)),(id,some (.c5 u v xs i (lg off s.N (((dK u (nth u.df xs i)).drop off).take ti.size))))::cS s.N (((dK u (nth u.df xs i)).drop off).take ti.size),(cS s.N (((dK u (nth u.df xs i)).drop off).take ti.size)).length⟩ else none
    | false=>match lb s.N (((dK u (nth u.df xs i)).drop off).take 1) with
     | [a]=>κ ⟨a,(id,some (.c5 u v xs i (lg off s.N (((dK u (nth u.df xs i)).drop off).take 1))))::cS s.N (((dK u (nth u.df xs i)).drop off).take 1),(cS s.N (((dK u (nth u.df xs i)).drop off).take 1)).length⟩
     | _=>none
   | _,_,_=>none
  | _=>none
 | _=>none
theorem Ga {α:Type} {l:List α} {off n k:Nat} (h:k < ((l.drop off).take n).length):l[off+k]?=some ((l.drop off).take n)[k]:=by
 have h2:k < n∧off+k < l.length:=by simp only [List.length_take,List.length_drop] at h;omega
 simp [List.getElem_take,List.getElem_drop,h2.2]
theorem IX {o:Oper} {s:bK} {κ:cC→Option R} {z:R} {id off:Nat} {i:Int} {u:Ty} {v:RV} {xs:List u.dn} {ds:List cE} {va:TA} {rv:AV} (hs:s.ok) (hb:aR s.H id=some (.row u v xs)) (bY:id < s.N)
  (rR:∀ k (h:k < ds.length),(dK u (nth u.df xs i))[off+k]?=some ds[k])
  (mO:db P o s.st ⟨rv,(id,some (.c5 v.b (eR u) xs.length (TX i.toNat s.N (lE off ds) (bU v u xs))))::Oh s.N (lE off ds),List.range' s.N (cS s.N ds).length⟩)
  (hv:v.d=true) (hrv:(∀ k,k < ds.length→TX i.toNat s.N (lE off ds) (bU v u xs) i.toNat (off+k)=((lb s.N ds).getD k .top).av (cz s.H ((id,some (.c5 u v xs i (lg off s.N ds)))::cS s.N ds)))→gZ rv (va.av (cz s.H ((id,some (.c5 u v xs i (lg off s.N ds)))::cS s.N ds))))
  (hva:va.wf (cz s.H ((id,some (.c5 u v xs i (lg off s.N ds)))::cS s.N ds)) (s.N+(cS s.N ds).length))
  (hk:κ ⟨va,(id,some (.c5 u v xs i (lg off s.N ds)))::cS s.N ds,(cS s.N ds).length⟩=some z):we P o s κ z:=by
 let H2:List (Nat×aW):=cz s.H ((id,some (.c5 u v xs i (lg off s.N ds)))::cS s.N ds)
 have he:∀ k (h:k < ds.length),bU v u xs i.toNat (off+k)=(cK ds[k]).deep:=fun k hk=>by
  simp only [bU,hv]
  rw [nC]
  have:=rR k hk
  simp only [nth] at this
  rw [this]
 have aey:∀ p,p∈cS s.N ds→aR H2 p.1=p.2:=fun p hp=>by
  obtain ⟨k1,k2⟩:=Nx s.H ds s.N p hp
  simp only [H2,cz,aR,ca (show ¬ p.1=id by omega)]
  exact k2
 obtain ⟨q1,q2⟩:=ZK (H2:=H2) (i0:=i.toNat) ds off s.N (bU v u xs) aey he
 have iV:Sub s.H H2 s.N:=fun b9 OQ=>by
  simp only [H2,cz,aR]
  cases e:Nat.beq b9 id with
  | true=>rw [Nat.eq_of_beq_eq_true e,hb];rfl
  | false=>
   rcases Nw s.st.H s.H b9 ds off s.N with ⟨_,_,_,k2,_⟩ | ⟨k1,_⟩
   ·omega
   ·exact congrArg fj k1
 refine ⟨⟨va,(id,some (.c5 u v xs i (lg off s.N ds)))::cS s.N ds,(cS s.N ds).length⟩,⟨rv,_,mO,hrv q2,?_,?_⟩,⟨iV,hva,?_⟩,hk⟩
 ·intro b9 hm
  simp only [List.map_cons,List.mem_cons] at hm ⊢
  rcases hm with h | h
  ·exact .inl h
  ·refine .inr ?_
   have key:∀ (ds:List cE) (off N:Nat),(Oh N (lE off ds)).map (·.1)=(cS N ds).map (·.1):=by
    intro ds
    induction ds using dM with
    | h0=>intro off N;rfl
    | h1 u ys r ih=>intro off N;simp only [lE,Oh,cS,List.map_cons,ih (off+1) (N+1)]
    | h2 y r hy a b c d ih=>intro off N;rw [b,d];exact ih _ _
   rwa [key] at h
 ·intro b9 b' cd
  obtain ⟨B,hB,hBv,rfl⟩:=gP cd
  have hB:aR H2 b9=some B:=hB
  show ∃ b,Hp.c7 s.st.H _ b9=some b∧eD b (B.di H2)
  by_cases q:b9=id
  ·subst q
   simp only [H2,cz,aR,Nat.beq_refl] at hB
   cases hB
   refine ⟨_,if_pos rfl,?_⟩
   exact aa0 fun i' j _ _=>(q1 i' j).trans rfl
  ·simp only [Hp.c7,if_neg q]
   have Yl:aR (cz s.H (cS s.N ds)) b9=some B:=by simpa only [H2,cz,aR,ca q] using hB
   rcases Nw s.st.H s.H b9 ds off s.N with ⟨u',ys',k1,k2,k3⟩ | ⟨k1,k2,_⟩
   ·rw [k1] at Yl
    cases Yl
    refine ⟨_,k3,?_⟩
    simp only [aW.di,Nv]
    exact SV (by intro i' j _ _ w F μ S u h;rw [uA (ZH u')];exact h)
   ·rw [k1] at Yl
    rw [k2]
    refine ⟨_,dz Yl hBv,?_⟩
    rw [o_ iV (hs.H b9 _ Yl)]
    exact eD.refl _
 ·intro b9 b hm
  simp only [List.mem_cons,Prod.mk.injEq,Option.some.injEq] at hm
  rcases hm with ⟨_,h⟩ | h
  ·rw [h];exact ZI ds off s.N
  ·obtain ⟨u',ys',h3⟩:=XG ds s.N _ h
   simp only [Option.some.injEq] at h3
   rw [h3];simp only [aW.refs,gQ]
theorem U6 {o:Oper} {s:bK} {κ:cC→Option R} {z:R} {x:Operand} {t:TypeId} (ho:o.op=.load t x) (hs:s.ok) (h:Rn P s t (s.val x) κ=some z):we P o s κ z:=by
 unfold Rn at h
 split at h
 ·rename_i id i off hx
  have hw:=fX hs x
  rw [hx] at hw
  simp only [TA.wf] at hw
  split at h
  ·rename_i u v xs hb
   have hi:=hw.2 u v xs.length (by rw [hb];rfl)
   have h1:=@b8 s x _ hx
   simp only [TA.av,hb,fj] at h1
   have core:∀ (ds:List cE) (n:Nat),ds.length=n→off+n≤eR u→v.d=true→(∀ k (h:k < ds.length),(dK u (nth u.df xs i))[off+k]?=some ds[k])→
     ∀ {w F O μ K ft a},SR w F O μ K s.st ft a→(∀ id,id∈List.range' s.N (cS s.N ds).length→¬ K id)→∃ bB b7,HR w F O bB (plus K (List.range' s.N (cS s.N ds).length)) (s.st.H.c7 ((id,some (.c5 v.b (eR u) xs.length (TX i.toNat s.N (lE off ds) (bU v u xs))))::Oh s.N (lE off ds))) b7∧Fr w F O μ K w F O bB∧
      IH w F bB (plus K (List.range' s.N (cS s.N ds).length)) n (fun k=>TX i.toNat s.N (lE off ds) (bU v u xs) i.toNat (off+k)) (a.eval x):=by
    intro ds n hn hle hv rR w F O μ K ft a g6 DZ
    obtain ⟨bB,b7,k1,k2⟩:=abf g6 hb hv hi rR DZ
    refine ⟨bB,b7,k1,k2,?_⟩
    have he:∀ k (h:k < ds.length),bU v u xs i.toNat (off+k)=(cK ds[k]).deep:=fun k hk=>by
     simp only [bU,hv]
     rw [nC]
     have:=rR k hk
     simp only [nth] at this
     rw [this]
    obtain ⟨q1,q2⟩:=ZK (H2:=cz s.H (cS s.N ds)) (i0:=i.toNat) ds off s.N (bU v u xs) (fun p hp=>(Nx s.H ds s.N p hp).2) he
    refine XH k1 ((h1 g6).step g6.hr k2 fun _ h=>.inl h) (if_pos rfl) hi hle fun k hk=>?_
    rw [q2 k (by omega)]
    have hA:∀ (ds:List cE) (N k:Nat),(((lb N ds).getD k .top).av (cz s.H (cS s.N ds))).Kc=false∨True:=fun _ _ _=>.inr trivial
    have key:∀ (r:List cE) (N:Nat) (k:Nat) (Hx:List (Nat×aW)),(∀ y,y∈r→y.t.leaf=true)→(((lb N r).getD k .top).av Hx).Kc=false:=by
     intro r
     induction r using dM with
     | h0=>intro N k Hx _;simp [lb,TA.av,AV.Kc]
     | h1 u' ys r ih=>
      intro N k Hx hl
      cases k with
      | zero=>
       simp only [lb,List.getD_cons_zero,TA.av]
       split
       ·rename_i t' v' n' _;cases v'.b<;>rfl
       ·rfl
      | succ k=>simp only [lb,List.getD_cons_succ];exact ih _ k Hx fun y hy=>hl y (by simp [hy])
     | h2 y r hy a b c d ih=>
      intro N k Hx hl
      rw [a]
      cases k with
      | zero=>simp only [List.getD_cons_zero,TA.av];exact IQ
      | succ k=>simp only [List.getD_cons_succ];exact ih _ k Hx fun y hy=>hl y (by simp [hy])
    refine key ds s.N k _ fun y hy=>?_
    obtain ⟨k',FC,rfl⟩:=List.getElem_of_mem hy
    exact Aq u _ _ (List.mem_of_getElem? (rR k' FC))
   have tk:∀ n,off+n≤eR u→(((dK u (nth u.df xs i)).drop off).take n).length=n:=fun n h=>by
    have:=eE u (nth u.df xs i)
    simp only [List.length_take,List.length_drop];omega
   split at h
   ·rename_i d ti hv ht hti
    split at h
    ·rename_i ha
     split at h
     ·rename_i hle
      have hle:=Nat.le_of_ble_eq_true hle
      generalize abg:((dK u (nth u.df xs i)).drop off).take ti.size=ds at h
      have rR:∀ k (h:k < ds.length),(dK u (nth u.df xs i))[off+k]?=some ds[k]:=by subst abg;exact fun k h=>Ga h
      have hlen:ds.length=ti.size:=by rw [← abg];exact tk _ hle
      refine IX (rv:=.agg ((List.range ti.size).map fun k=>TX i.toNat s.N (lE off ds) (bU v u xs) i.toNat (off+k))) (off:=off) (ds:=ds) hs hb hw.1 rR (fun w F O μ K ft a g6 DZ Kn Q hk=>?_) hv (fun q=>?_) ?_ h
      ·obtain ⟨bB,b7,k1,k2,k3⟩:=core ds ti.size hlen hle hv rR g6 DZ
       obtain ⟨vv,k4,k5⟩:=Rl ho ht hti ha k3
       unfold Oper.wp
       rw [k4,Oper.upon_value]
       exact hk vv w F O bB b7 k5 k1 k2
      ·simp only [TA.av]
       rw [Bt (l:=lb s.N ds) (by rw [IW];exact hlen) fun k hk=>q k (by omega)]
       exact gZ.refl _
      ·simp only [TA.wf];exact S9 ds s.N
     ·cases h
    ·rename_i ha
     split at h
     ·rename_i a ha2
      generalize abg:((dK u (nth u.df xs i)).drop off).take 1=ds at h ha2
      have rR:∀ k (h:k < ds.length),(dK u (nth u.df xs i))[off+k]?=some ds[k]:=by subst abg;exact fun k h=>Ga h
      have hlen:ds.length=1:=by rw [← IW ds s.N,ha2];rfl
      have hle:off+1≤eR u:=by
       have:=(List.getElem?_eq_some_iff.1 (rR 0 (by omega))).1
       rw [eE] at this;omega
      refine IX (rv:=TX i.toNat s.N (lE off ds) (bU v u xs) i.toNat (off+0)) (off:=off) (ds:=ds) hs hb hw.1 rR (fun w F O μ K ft act g6 DZ Kn Q hk=>?_) hv (fun q=>?_) ?_ h
      ·obtain ⟨bB,b7,k1,k2,k3⟩:=core ds 1 hlen hle hv rR g6 DZ
       obtain ⟨vv,k4,k5⟩:=Rm ho ht ha k3
       unfold Oper.wp
       rw [k4,Oper.upon_value]
       exact hk vv w F O bB b7 k5 k1 k2
      ·rw [q 0 (by omega),ha2]
       exact gZ.refl _
      ·have:=S9 (H:=cz s.H ((id,some (.c5 u v xs i (lg off s.N ds)))::cS s.N ds)) ds s.N
       rw [ha2] at this
       exact this.1
     ·cases h
   ·cases h
  ·cases h
 ·cases h
end Go.Proofs.YtljfmaaadnoggaaGreatDoor.cU
