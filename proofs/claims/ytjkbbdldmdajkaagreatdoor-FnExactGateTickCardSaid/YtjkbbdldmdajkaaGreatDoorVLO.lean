/- Rows whose parts are rows of the call's own, in the evaluator: loads that open a part, parts told whole again. No condition. -/
import Derived.Test.YtjkbbdldmdajkaaGreatDoorVL
namespace Go.Proofs.YtjkbbdldmdajkaaGreatDoor.c_
open Go Go.RowKit
variable {w w' xk:World} {F F' Bs O O' v8:Nat→Prop} {μ bC lG:Nat→Nat} {K K' EF:Nat→Prop} {ft bZ:Nat→Nat→Prop} {P:Program} {R:Type}
theorem N3 (u:Ty):(kindOf u).b=true:=by unfold kindOf;cases u.flat<;>rfl
theorem wa {v:RV} {u:Ty} (h:(v.d||u.flat)=true) (ys:List u.dn) (i j:Nat):bV v u ys i j=(cC u ys i j).deep:=by
 simp only [bV];cases hv:v.d with
 | true=>rfl
 | false=>rw [hv,Bool.false_or] at h;exact (Qf h ys i j).symm
theorem aaE (u:Ty):((kindOf u).d||u.flat)=true:=by unfold kindOf;cases u.flat<;>rfl
def mU:Nat→List cN→List TA
 | _,[]=>[]
 | N,⟨.sl _,_⟩::r=>.ow N::mU (N+1) r
 | N,y::r=>.d y::mU N r
def c8:Nat→List cN→List (Nat×Option aY)
 | _,[]=>[]
 | N,⟨.sl u,ys⟩::r=>(N,some (.row u (kindOf u) ys))::c8 (N+1) r
 | N,_::r=>c8 N r
def mV:Nat→Nat→List cN→List (Nat×Nat)
 | _,_,[]=>[]
 | off,N,⟨.sl _,_⟩::r=>(off,N)::mV (off+1) (N+1) r
 | off,N,_::r=>mV (off+1) N r
def nj:Nat→List cN→List Prt
 | _,[]=>[]
 | off,⟨.sl u,ys⟩::r=>⟨off,fy u,List.length (α:=u.dn) ys,fun i j=>(cC u ys i j).deep⟩::nj (off+1) r
 | off,_::r=>nj (off+1) r
theorem eB {M:List cN→Prop} (h0:M []) (h1:∀ (u:Ty) (ys:List u.dn) (r:List cN),M r→M (⟨.sl u,ys⟩::r))
  (h2:∀ (y:cN) (r:List cN),y.t.LZ=false→(∀ N,mU N (y::r)=.d y::mU N r)→(∀ N,c8 N (y::r)=c8 N r)→(∀ off N,mV off N (y::r)=mV (off+1) N r)→(∀ off,nj off (y::r)=nj (off+1) r)→M r→M (y::r)):∀ ds,M ds
 | []=>h0
 | y::r=>by
  obtain ⟨t,x⟩:=y;have ih:=eB h0 h1 h2 r;cases t with
  | sl u=>exact h1 u x r ih
  | int=>exact h2 _ r rfl (fun _=>by simp only [mU]) (fun _=>by simp only [c8]) (fun _ _=>by simp only [mV]) (fun _=>by simp only [nj]) ih
  | str=>exact h2 _ r rfl (fun _=>by simp only [mU]) (fun _=>by simp only [c8]) (fun _ _=>by simp only [mV]) (fun _=>by simp only [nj]) ih
  | bool=>exact h2 _ r rfl (fun _=>by simp only [mU]) (fun _=>by simp only [c8]) (fun _ _=>by simp only [mV]) (fun _=>by simp only [nj]) ih
  | st=>exact h2 _ r rfl (fun _=>by simp only [mU]) (fun _=>by simp only [c8]) (fun _ _=>by simp only [mV]) (fun _=>by simp only [nj]) ih
theorem Jj (ds:List cN):∀ N,(mU N ds).length=ds.length:=by
 induction ds using eB with
 | h0=>intro N;rfl
 | h1 u ys r ih=>intro N;simp only [mU,List.length_cons,ih]
 | h2 y r hy a b c d ih=>intro N;simp only [a,List.length_cons,ih]
theorem TK (ds:List cN):∀ off N,(nj off ds).length=(c8 N ds).length:=by
 induction ds using eB with
 | h0=>intro off N;rfl
 | h1 u ys r ih=>intro off N;simp only [nj,c8,List.length_cons,ih (off+1) (N+1)]
 | h2 y r hy a b c d ih=>intro off N;rw [b,d];exact ih _ _
theorem TL {H:List (Nat×aY)} (ds:List cN):∀ N,im H (N+(c8 N ds).length) (mU N ds):=by
 induction ds using eB with
 | h0=>intro N;simp only [mU,im]
 | h1 u ys r ih=>
  intro N;simp only [mU,c8,List.length_cons,im,TA.wf];refine ⟨by omega,?_⟩;have:=ih (N+1);rwa [show N+1+(c8 (N+1) r).length=N+((c8 (N+1) r).length+1) by omega] at this
 | h2 y r hy a b c d ih=>intro N;rw [a,b];simp only [im,TA.wf];exact ⟨trivial,ih N⟩
theorem aaF {H:List (Nat×aY)} (ds:List cN):∀ off N,im H (N+(c8 N ds).length) ((mV off N ds).map fun p=>.ow p.2):=by
 induction ds using eB with
 | h0=>intro off N;simp only [mV,List.map_nil,im]
 | h1 u ys r ih=>
  intro off N;simp only [mV,c8,List.length_cons,List.map_cons,im,TA.wf];refine ⟨by omega,?_⟩;have:=ih (off+1) (N+1);rwa [show N+1+(c8 (N+1) r).length=N+((c8 (N+1) r).length+1) by omega] at this
 | h2 y r hy a b c d ih=>intro off N;rw [b,c];exact ih (off+1) N
theorem KF (ds:List cN):∀ off N j,j < off→ub (mV off N ds) j=none:=by
 induction ds using eB with
 | h0=>intro off N j _;rfl
 | h1 u ys r ih=>intro off N j h;simp only [mV,ub,cd (show ¬ j=off by omega)];exact ih _ _ j (by omega)
 | h2 y r hy a b c d ih=>intro off N j h;rw [c];exact ih _ _ j (by omega)
theorem aaG (ds:List cN):∀ off p,p∈nj off ds→off≤p.j:=by
 induction ds using eB with
 | h0=>intro off p h;cases h
 | h1 u ys r ih=>
  intro off p h;simp only [nj,List.mem_cons] at h;rcases h with h | h
  ·rw [h];exact Nat.le_refl _
  ·have:=ih _ p h;omega
 | h2 y r hy a b c d ih=>intro off p h;rw [d] at h;have:=ih _ p h;omega
theorem VC (ds:List cN):∀ off,((nj off ds).map (·.j)).Nodup:=by
 induction ds using eB with
 | h0=>intro off;exact List.nodup_nil
 | h1 u ys r ih=>
  intro off;simp only [nj,List.map_cons,List.nodup_cons];refine ⟨fun h=>?_,ih _⟩;obtain ⟨p,h1,h2⟩:=List.mem_map.1 h;have:=aaG r _ p h1;omega
 | h2 y r hy a b c d ih=>intro off;rw [d];exact ih _
theorem acd {e:Nat→AV} (ds:List cN):∀ off,(∀ k (h:k < ds.length),e (off+k)=(cR ds[k]).deep)→∀ p,p∈nj off ds→p.j < off+ds.length∧e p.j=.os p.bA p.n p.e:=by
 induction ds using eB with
 | h0=>intro off _ p h;cases h
 | h1 u ys r ih=>
  intro off he p h;simp only [nj,List.mem_cons] at h;rcases h with h | h
  ·subst h;have:=he 0 (by simp);simp only [Nat.add_zero,List.getElem_cons_zero] at this;exact ⟨by simp,this⟩
  ·have:=ih (off+1) (fun k hk=>by
    have:=he (k+1) (by simpa using hk);simp only [List.getElem_cons_succ] at this;rw [← this];congr 1;omega) p h
   simp only [List.length_cons];exact ⟨by omega,this.2⟩
 | h2 y r hy a b c d ih=>
  intro off he p h;rw [d] at h;have:=ih (off+1) (fun k hk=>by
   have:=he (k+1) (by simpa using hk);simp only [List.getElem_cons_succ] at this;rw [← this];congr 1;omega) p h
  simp only [List.length_cons];exact ⟨by omega,this.2⟩
theorem aaH {H2:List (Nat×aY)} {i0:Nat} (ds:List cN):∀ (off N:Nat) (e:Nat→Nat→AV),(∀ p,p∈c8 N ds→aT H2 p.1=p.2)→(∀ k (h:k < ds.length),e i0 (off+k)=(cR ds[k]).deep)→
  (∀ i' j,Uz i0 N (nj off ds) e i' j=if i'=i0 then (match ub (mV off N ds) j with | some M=>(TA.ow M).av H2 | none=>e i' j) else e i' j)∧
  ∀ k,k < ds.length→Uz i0 N (nj off ds) e i0 (off+k)=((mU N ds).getD k .top).av H2:=by
 induction ds using eB with
 | h0=>
  intro off N e _ _;refine ⟨fun i' j=>?_,fun k hk=>by cases hk⟩;simp only [nj,Uz,mV,ub,ite_self]
 | h1 u ys r ih=>
  intro off N e hl he
  let e1:Nat→Nat→AV:=fun i' j'=>if i'=i0∧j'=off then du true N ys.length (fy u) else e i' j'
  have hN:(TA.ow N).av H2=du true N ys.length (fy u):=by
   have:=hl (N,some (.row u (kindOf u) ys)) (by simp [c8]);simp only at this;simp only [TA.av,this,fH,N3]
  obtain ⟨q1,q2⟩:=ih (off+1) (N+1) e1 (fun p hp=>hl p (by simp only [c8,List.mem_cons];exact .inr hp)) (fun k hk=>by
   have:=he (k+1) (by simpa using hk);simp only [List.getElem_cons_succ] at this;simp only [e1];rw [if_neg (by omega),← this];congr 1;omega)
  have ho:∀ i' j,Uz i0 N (nj off (⟨.sl u,ys⟩::r)) e i' j=Uz i0 (N+1) (nj (off+1) r) e1 i' j:=fun i' j=>rfl;refine ⟨fun i' j=>?_,fun k hk=>?_⟩
  ·rw [ho,q1];by_cases h:i'=i0
   ·rw [if_pos h,if_pos h];simp only [mV,ub];cases hb:Nat.beq j off with
    | true=>
     have hb:=Nat.eq_of_beq_eq_true hb;subst hb;rw [KF r _ _ j (by omega)];simp only [e1,h,and_self,if_true];exact hN.symm
    | false=>
     have qL:=Nat.ne_of_beq_eq_false hb;have:e1 i' j=e i' j:=if_neg fun h=>qL h.2;rw [this]
   ·rw [if_neg h,if_neg h];exact if_neg fun h'=>h h'.1
  ·rw [ho];cases k with
   | zero=>
    rw [q1,if_pos rfl,KF r (off+1) (N+1) (off+0) (by omega)];simp only [e1,Nat.add_zero,and_self,if_true,mU];exact hN.symm
   | succ k=>
    have:=q2 k (by simpa using hk);rw [show off+(k+1)=off+1+k by omega,this];simp only [mU,List.getD_cons_succ]
 | h2 y r hy a b c d ih=>
  intro off N e hl he;rw [b] at hl;have Qk:=he 0 (by simp);simp only [Nat.add_zero,List.getElem_cons_zero] at Qk;obtain ⟨q1,q2⟩:=ih (off+1) N e hl (fun k hk=>by
   have:=he (k+1) (by simpa using hk);simp only [List.getElem_cons_succ] at this;rw [← this];congr 1;omega)
  rw [d,c,a];refine ⟨q1,fun k hk=>?_⟩;cases k with
  | zero=>
   rw [q1,if_pos rfl,KF r (off+1) N (off+0) (by omega)];simp only [List.getD_cons_zero,TA.av,Nat.add_zero];rw [Qk,ET hy]
  | succ k=>
   have:=q2 k (by simpa using hk);rw [show off+(k+1)=off+1+k by omega,this];simp only [List.getD_cons_succ]
theorem N4 (H:Hp) (T:List (Nat×aY)) (b9:Nat) (ds:List cN):∀ off N,(∃ (u:Ty) (ys:List u.dn),aT (cD T (c8 N ds)) b9=some (.row u (kindOf u) ys)∧N≤b9∧H.dh (OV N (nj off ds)) b9=some (.row true (fy u) ys.length fun i j=>(cC u ys i j).deep))∨
  (aT (cD T (c8 N ds)) b9=aT T b9∧H.dh (OV N (nj off ds)) b9=H b9∧(b9 < N∨N+(c8 N ds).length≤b9)):=by
 induction ds using eB with
 | h0=>intro off N;exact .inr ⟨rfl,rfl,by simp only [c8,List.length_nil];omega⟩
 | h1 u ys r ih=>
  intro off N;simp only [c8,nj,cD,OV,aT,Hp.dh];cases hb:Nat.beq b9 N with
  | true=>
   have hb:=Nat.eq_of_beq_eq_true hb;exact .inl ⟨u,ys,rfl,by omega,by rw [if_pos hb]⟩
  | false=>
   have qL:=Nat.ne_of_beq_eq_false hb;rw [if_neg qL];rcases ih (off+1) (N+1) with ⟨u',ys',k1,k2,k3⟩ | ⟨k1,k2,k3⟩
   ·exact .inl ⟨u',ys',k1,by omega,k3⟩
   ·exact .inr ⟨k1,k2,by simp only [List.length_cons];omega⟩
 | h2 y r hy a b c d ih=>intro off N;rw [b,d];exact ih _ _
theorem N5 (T:List (Nat×aY)) (ds:List cN):∀ N p,p∈c8 N ds→N≤p.1∧aT (cD T (c8 N ds)) p.1=p.2:=by
 induction ds using eB with
 | h0=>intro N p h;cases h
 | h1 u ys r ih=>
  intro N p h;simp only [c8,List.mem_cons] at h;simp only [c8,cD,aT];rcases h with h | h
  ·subst h;exact ⟨Nat.le_refl _,by simp only [Nat.beq_refl]⟩
  ·have:=ih (N+1) p h;exact ⟨by omega,by simp only [cd (show ¬ p.1=N by omega)];exact this.2⟩
 | h2 y r hy a b c d ih=>intro N p h;rw [b] at h ⊢;exact ih N p h
theorem Yo (ds:List cN):∀ N p,p∈c8 N ds→∃ (u:Ty) (ys:List u.dn),p.2=some (.row u (kindOf u) ys):=by
 induction ds using eB with
 | h0=>intro N p h;cases h
 | h1 u ys r ih=>
  intro N p h;simp only [c8,List.mem_cons] at h;rcases h with h | h
  ·subst h;exact ⟨u,ys,rfl⟩
  ·exact ih _ p h
 | h2 y r hy a b c d ih=>intro N p h;rw [b] at h;exact ih N p h
theorem RT {o:Oper} {act:Act} {x:Operand} {t:TypeId} {d:TypeDesc} {i:TypeInfo} {c:Nat→AV} (ho:o.op=.load t x) (ht:P.underlying t=some d) (hi:P.info? t=some i) (ha:I3 d=true) (hc:I6 w F μ K i.size c (act.eval x)):
  ∃ v,(execOp act.eval o).run P w=.ok (.value v) w∧VR w F μ K (.agg ((List.range i.size).map c)) v:=by
 obtain ⟨b,o',u,hv,hu⟩:=hc;exact ⟨_,by simp only [execOp,ho,hv,Sem.run_bind,EJ ht hi ha b o' u (fun j hj=>(hu j hj).1),Result.andThen_ok,Sem.run_pure],.rP (Ax fun j hj=>(hu j hj).2)⟩
theorem RU {o:Oper} {act:Act} {x:Operand} {t:TypeId} {d:TypeDesc} {c:Nat→AV} (ho:o.op=.load t x) (ht:P.underlying t=some d) (ha:I3 d=false) (hc:I6 w F μ K 1 c (act.eval x)):
  ∃ v,(execOp act.eval o).run P w=.ok (.value v) w∧VR w F μ K (c 0) v:=by
 obtain ⟨b,o',u,hv,hu⟩:=hc;exact ⟨_,by simp only [execOp,ho,hv,Sem.run_bind,EK ht ha b o' (u 0) (hu 0 (by omega)).1,Result.andThen_ok,Sem.run_pure],(hu 0 (by omega)).2⟩
theorem Yp {H:Hp} {n id bA i j m:Nat} {v:Bool} {e:Nat→Nat→AV} {u:Value} (hr:HR w F O μ K H ft) (hx:VR w F μ K (.rp id bA i j) u) (hb:H id=some (.dq v bA m e)) (hi:i < m) (hle:j+n≤bA)
  (hc:∀ k,k < n→(e i (j+k)).Kw=false):I6 w F μ K n (fun k=>e i (j+k)) u:=by
 obtain ⟨ob,p_,cs,t,S',rfl,hB⟩:=hr.dC id _ hb (Fs (by omega));cases hx with
 | rp _ _ _ _ bY=>
  refine ⟨_,_,fun k=>cs.getD (i*bA+j+k) undef,rfl,fun k hk=>?_⟩;have h2:(i+1)*bA≤m*bA:=Nat.mul_le_mul_right _ hi;rw [Nat.add_mul,Nat.one_mul] at h2;have fV:=hB.size;have dQ:i*bA+j+k < cs.size:=by omega
  refine ⟨by simp [World.cell?,p_,dQ],?_⟩;have h5:=(hB.cell i (j+k) hi (by omega)).1;rw [← Nat.add_assoc] at h5;rcases h5 with h5 | h5
  ·exact (h5.closed (hc k hk)).1.up
  ·exact h5.1
theorem ace {s:bP} {id off:Nat} {u:Ty} {v:RV} {xs:List u.dn} {i:Int} {ds:List cN} {a:Act} (hs:SR w F O μ K s.st ft a) (hb:aT s.H id=some (.row u v xs)) (hv:v.d=true) (hi:i.toNat < xs.length) (tt:∀ k (h:k < ds.length),(ew u (nth u.df xs i))[off+k]?=some ds[k])
  (hn:∀ k,k∈List.range' s.N (c8 s.N ds).length→¬ K k):
  ∃ bC bZ,HR w F O bC (plus K (List.range' s.N (c8 s.N ds).length)) (s.st.H.dh ((id,some (.dq v.b (fy u) xs.length (Uz i.toNat s.N (nj off ds) (bV v u xs))))::OV s.N (nj off ds))) bZ∧Fr w F O μ K w F O bC:=by
 have hlen:∀ k,k < ds.length→off+k < fy u:=fun k hk=>by
  rw [← fo u (nth u.df xs i)];exact (List.getElem?_eq_some_iff.1 (tt k hk)).1
 have he:∀ k (h:k < ds.length),bV v u xs i.toNat (off+k)=(cR ds[k]).deep:=fun k hk=>by
  simp only [bV,hv];rw [pc];have:=tt k hk;simp only [nth] at this;rw [this]
 have hr1:HR w F O μ K (fun k=>if k=id then some (.dq v.b (fy u) xs.length (bV v u xs)) else s.st.H k) ft:=hs.hr.imp fun k b' cl=>by
  by_cases q:k=id
  ·rw [if_pos q] at cl;cases cl;exact ⟨_,q▸dF hb,Yc fun _ _ _ _=>rfl⟩
  ·rw [if_neg q] at cl;exact ⟨_,cl,eQ.refl _⟩
 have hpl:=TK ds off s.N;obtain ⟨bC,bZ,h1,h2⟩:=Qg (id:=id) (bA:=fy u) (n:=xs.length) (i:=i.toNat) (v:=v.b) (nj off ds) (N:=s.N) (e:=bV v u xs) hr1 (by rw [hpl];exact hn) (if_pos rfl) hi (fun p hp=>by
  obtain ⟨k1,k2⟩:=acd (e:=bV v u xs i.toNat) ds off he p hp;refine ⟨?_,k2⟩;cases hd:ds with
  | nil=>rw [hd] at hp;cases hp
  | cons y r=>
   have:=hlen (ds.length-1) (by rw [hd];simp);have:0 < ds.length:=by rw [hd];simp
   omega) (VC ds off)
 rw [hpl] at h1;refine ⟨bC,bZ,h1.imp fun k b' cl=>⟨b',?_,eQ.refl _⟩,h2⟩;simp only [Hp.dh] at cl ⊢;by_cases q:k=id
 ·rw [if_pos q] at cl ⊢;exact cl
 ·rw [if_neg q] at cl ⊢;have key:∀ (L:List Prt) (N:Nat),s.st.H.dh (OV N L) k=some b'→Hp.dh (fun k=>if k=id then some (.dq v.b (fy u) xs.length (bV v u xs)) else s.st.H k) (OV N L) k=some b':=by
   intro L
   induction L with
   | nil=>intro N h;simp only [OV,Hp.dh,if_neg q] at h ⊢;exact h
   | cons p L ih=>
    intro N h;simp only [OV,Hp.dh] at h ⊢;by_cases q3:k=N
    ·rw [if_pos q3] at h ⊢;exact h
    ·rw [if_neg q3] at h ⊢;exact ih _ h
  exact key _ _ cl
def RW (P:Program) (s:bP) (t:TypeId) (x:TA) (κ:cx→Option R):Option R:=
 match x with
 | .rp id i off=>match aT s.H id with
  | some (.row u v xs)=>match v.d,P.underlying t,P.info? t with
   | true,some d,some ti=>match I3 d with
    | true=>if (off+ti.size).ble (fy u) then κ ⟨.agg (mU s.N (((ew u (nth u.df xs i)).drop off).take ti.size)),(id,some (.dq u v xs i (mV off s.N (((ew u (nth u.df xs i)).drop off).take ti.size))))::c8 s.N (((ew u (nth u.df xs i)).drop off).take ti.size),(c8 s.N (((ew u (nth u.df xs i)).drop off).take ti.size)).length⟩ else none
    | false=>match mU s.N (((ew u (nth u.df xs i)).drop off).take 1) with
     | [a]=>κ ⟨a,(id,some (.dq u v xs i (mV off s.N (((ew u (nth u.df xs i)).drop off).take 1))))::c8 s.N (((ew u (nth u.df xs i)).drop off).take 1),(c8 s.N (((ew u (nth u.df xs i)).drop off).take 1)).length⟩
     | _=>none
   | _,_,_=>none
  | _=>none
 | _=>none
theorem GP {α:Type} {l:List α} {off n k:Nat} (h:k < ((l.drop off).take n).length):l[off+k]?=some ((l.drop off).take n)[k]:=by
 have h2:k < n∧off+k < l.length:=by simp only [List.length_take,List.length_drop] at h;omega
 simp [List.getElem_take,List.getElem_drop,h2.2]
theorem Jk {o:Oper} {s:bP} {κ:cx→Option R} {z:R} {id off:Nat} {i:Int} {u:Ty} {v:RV} {xs:List u.dn} {ds:List cN} {va:TA} {rv:AV} (hs:s.ok) (hb:aT s.H id=some (.row u v xs)) (bY:id < s.N)
  (tt:∀ k (h:k < ds.length),(ew u (nth u.df xs i))[off+k]?=some ds[k])
  (m_:dr P o s.st ⟨rv,(id,some (.dq v.b (fy u) xs.length (Uz i.toNat s.N (nj off ds) (bV v u xs))))::OV s.N (nj off ds),List.range' s.N (c8 s.N ds).length⟩)
  (hv:v.d=true) (hrv:(∀ k,k < ds.length→Uz i.toNat s.N (nj off ds) (bV v u xs) i.toNat (off+k)=((mU s.N ds).getD k .top).av (cD s.H ((id,some (.dq u v xs i (mV off s.N ds)))::c8 s.N ds)))→il rv (va.av (cD s.H ((id,some (.dq u v xs i (mV off s.N ds)))::c8 s.N ds))))
  (hva:va.wf (cD s.H ((id,some (.dq u v xs i (mV off s.N ds)))::c8 s.N ds)) (s.N+(c8 s.N ds).length))
  (hk:κ ⟨va,(id,some (.dq u v xs i (mV off s.N ds)))::c8 s.N ds,(c8 s.N ds).length⟩=some z):wg P o s κ z:=by
 let H2:List (Nat×aY):=cD s.H ((id,some (.dq u v xs i (mV off s.N ds)))::c8 s.N ds)
 have he:∀ k (h:k < ds.length),bV v u xs i.toNat (off+k)=(cR ds[k]).deep:=fun k hk=>by
  simp only [bV,hv];rw [pc];have:=tt k hk;simp only [nth] at this;rw [this]
 have afv:∀ p,p∈c8 s.N ds→aT H2 p.1=p.2:=fun p hp=>by
  obtain ⟨k1,k2⟩:=N5 s.H ds s.N p hp;simp only [H2,cD,aT,cd (show ¬ p.1=id by omega)];exact k2
 obtain ⟨q1,q2⟩:=aaH (H2:=H2) (i0:=i.toNat) ds off s.N (bV v u xs) afv he;have jO:Sub s.H H2 s.N:=fun b9 Ps=>by
  simp only [H2,cD,aT];cases e:Nat.beq b9 id with
  | true=>rw [Nat.eq_of_beq_eq_true e,hb];rfl
  | false=>
   rcases N4 s.st.H s.H b9 ds off s.N with ⟨_,_,_,k2,_⟩ | ⟨k1,_⟩
   ·omega
   ·exact congrArg fH k1
 refine ⟨⟨va,(id,some (.dq u v xs i (mV off s.N ds)))::c8 s.N ds,(c8 s.N ds).length⟩,⟨rv,_,m_,hrv q2,?_,?_⟩,⟨jO,hva,?_⟩,hk⟩
 ·intro b9 hm;simp only [List.map_cons,List.mem_cons] at hm ⊢;rcases hm with h | h
  ·exact .inl h
  ·refine .inr ?_;have key:∀ (ds:List cN) (off N:Nat),(OV N (nj off ds)).map (·.1)=(c8 N ds).map (·.1):=by
    intro ds
    induction ds using eB with
    | h0=>intro off N;rfl
    | h1 u ys r ih=>intro off N;simp only [nj,OV,c8,List.map_cons,ih (off+1) (N+1)]
    | h2 y r hy a b c d ih=>intro off N;rw [b,d];exact ih _ _
   rwa [key] at h
 ·intro b9 b' cl;obtain ⟨B,hB,hBv,rfl⟩:=iA cl;have hB:aT H2 b9=some B:=hB;show ∃ b,Hp.dh s.st.H _ b9=some b∧eQ b (B.dC H2);by_cases q:b9=id
  ·subst q;simp only [H2,cD,aT,Nat.beq_refl] at hB;cases hB;refine ⟨_,if_pos rfl,?_⟩;exact abZ fun i' j _ _=>(q1 i' j).trans rfl
  ·simp only [Hp.dh,if_neg q];have Y1:aT (cD s.H (c8 s.N ds)) b9=some B:=by simpa only [H2,cD,aT,cd q] using hB
   rcases N4 s.st.H s.H b9 ds off s.N with ⟨u',ys',k1,k2,k3⟩ | ⟨k1,k2,_⟩
   ·rw [k1] at Y1;cases Y1;refine ⟨_,k3,?_⟩;simp only [aY.dC,N3];exact Tx (by intro i' j _ _ w F μ S u h;rw [wa (aaE u')];exact h)
   ·rw [k1] at Y1;rw [k2];refine ⟨_,dF Y1 hBv,?_⟩;rw [qN jO (hs.H b9 _ Y1)];exact eQ.refl _
 ·intro b9 b hm;simp only [List.mem_cons,Prod.mk.injEq,Option.some.injEq] at hm;rcases hm with ⟨_,h⟩ | h
  ·rw [h];exact aaF ds off s.N
  ·obtain ⟨u',ys',h3⟩:=Yo ds s.N _ h;simp only [Option.some.injEq] at h3;rw [h3];simp only [aY.refs,im]
theorem VD {o:Oper} {s:bP} {κ:cx→Option R} {z:R} {x:Operand} {t:TypeId} (ho:o.op=.load t x) (hs:s.ok) (h:RW P s t (s.val x) κ=some z):wg P o s κ z:=by
 unfold RW at h;split at h
 ·rename_i id i off hx;have hw:=gf hs x;rw [hx] at hw;simp only [TA.wf] at hw;split at h
  ·rename_i u v xs hb;have hi:=hw.2 u v xs.length (by rw [hb];rfl);have h1:=@bX s x _ hx;simp only [TA.av,hb,fH] at h1;have core:∀ (ds:List cN) (n:Nat),ds.length=n→off+n≤fy u→v.d=true→(∀ k (h:k < ds.length),(ew u (nth u.df xs i))[off+k]?=some ds[k])→
     ∀ {w F O μ K ft a},SR w F O μ K s.st ft a→(∀ id,id∈List.range' s.N (c8 s.N ds).length→¬ K id)→∃ bC bZ,HR w F O bC (plus K (List.range' s.N (c8 s.N ds).length)) (s.st.H.dh ((id,some (.dq v.b (fy u) xs.length (Uz i.toNat s.N (nj off ds) (bV v u xs))))::OV s.N (nj off ds))) bZ∧Fr w F O μ K w F O bC∧
      I6 w F bC (plus K (List.range' s.N (c8 s.N ds).length)) n (fun k=>Uz i.toNat s.N (nj off ds) (bV v u xs) i.toNat (off+k)) (a.eval x):=by
    intro ds n hn hle hv tt w F O μ K ft a gh ES;obtain ⟨bC,bZ,k1,k2⟩:=ace gh hb hv hi tt ES;refine ⟨bC,bZ,k1,k2,?_⟩;have he:∀ k (h:k < ds.length),bV v u xs i.toNat (off+k)=(cR ds[k]).deep:=fun k hk=>by
     simp only [bV,hv];rw [pc];have:=tt k hk;simp only [nth] at this;rw [this]
    obtain ⟨q1,q2⟩:=aaH (H2:=cD s.H (c8 s.N ds)) (i0:=i.toNat) ds off s.N (bV v u xs) (fun p hp=>(N5 s.H ds s.N p hp).2) he;refine Yp k1 ((h1 gh).step gh.hr k2 fun _ h=>.inl h) (if_pos rfl) hi hle fun k hk=>?_;rw [q2 k (by omega)];have hA:∀ (ds:List cN) (N k:Nat),(((mU N ds).getD k .top).av (cD s.H (c8 s.N ds))).Kw=false∨True:=fun _ _ _=>.inr trivial;have key:∀ (r:List cN) (N:Nat) (k:Nat) (Hx:List (Nat×aY)),(∀ y,y∈r→y.t.leaf=true)→(((mU N r).getD k .top).av Hx).Kw=false:=by
     intro r
     induction r using eB with
     | h0=>intro N k Hx _;simp [mU,TA.av,AV.Kw]
     | h1 u' ys r ih=>
      intro N k Hx hl;cases k with
      | zero=>
       simp only [mU,List.getD_cons_zero,TA.av];split
       ·rename_i t' v' n' _;cases v'.b<;>rfl
       ·rfl
      | succ k=>simp only [mU,List.getD_cons_succ];exact ih _ k Hx fun y hy=>hl y (by simp [hy])
     | h2 y r hy a b c d ih=>
      intro N k Hx hl;rw [a];cases k with
      | zero=>simp only [List.getD_cons_zero,TA.av];exact Je
      | succ k=>simp only [List.getD_cons_succ];exact ih _ k Hx fun y hy=>hl y (by simp [hy])
    refine key ds s.N k _ fun y hy=>?_;obtain ⟨k',Gn,rfl⟩:=List.getElem_of_mem hy;exact Bu u _ _ (List.mem_of_getElem? (tt k' Gn))
   have tk:∀ n,off+n≤fy u→(((ew u (nth u.df xs i)).drop off).take n).length=n:=fun n h=>by
    have:=fo u (nth u.df xs i);simp only [List.length_take,List.length_drop];omega
   split at h
   ·rename_i d ti hv ht hti;split at h
    ·rename_i ha;split at h
     ·rename_i hle;have hle:=Nat.le_of_ble_eq_true hle;generalize acf:((ew u (nth u.df xs i)).drop off).take ti.size=ds at h;have tt:∀ k (h:k < ds.length),(ew u (nth u.df xs i))[off+k]?=some ds[k]:=by subst acf;exact fun k h=>GP h
      have hlen:ds.length=ti.size:=by rw [← acf];exact tk _ hle
      refine Jk (rv:=.agg ((List.range ti.size).map fun k=>Uz i.toNat s.N (nj off ds) (bV v u xs) i.toNat (off+k))) (off:=off) (ds:=ds) hs hb hw.1 tt (fun w F O μ K ft a gh ES Kn Q hk=>?_) hv (fun q=>?_) ?_ h
      ·obtain ⟨bC,bZ,k1,k2,k3⟩:=core ds ti.size hlen hle hv tt gh ES;obtain ⟨vv,k4,k5⟩:=RT ho ht hti ha k3;unfold Oper.wp;rw [k4,Oper.upon_value];exact hk vv w F O bC bZ k5 k1 k2
      ·simp only [TA.av];rw [CA (l:=mU s.N ds) (by rw [Jj];exact hlen) fun k hk=>q k (by omega)];exact il.refl _
      ·simp only [TA.wf];exact TL ds s.N
     ·cases h
    ·rename_i ha;split at h
     ·rename_i a ha2;generalize acf:((ew u (nth u.df xs i)).drop off).take 1=ds at h ha2;have tt:∀ k (h:k < ds.length),(ew u (nth u.df xs i))[off+k]?=some ds[k]:=by subst acf;exact fun k h=>GP h
      have hlen:ds.length=1:=by rw [← Jj ds s.N,ha2];rfl
      have hle:off+1≤fy u:=by
       have:=(List.getElem?_eq_some_iff.1 (tt 0 (by omega))).1;rw [fo] at this;omega
      refine Jk (rv:=Uz i.toNat s.N (nj off ds) (bV v u xs) i.toNat (off+0)) (off:=off) (ds:=ds) hs hb hw.1 tt (fun w F O μ K ft act gh ES Kn Q hk=>?_) hv (fun q=>?_) ?_ h
      ·obtain ⟨bC,bZ,k1,k2,k3⟩:=core ds 1 hlen hle hv tt gh ES;obtain ⟨vv,k4,k5⟩:=RU ho ht ha k3;unfold Oper.wp;rw [k4,Oper.upon_value];exact hk vv w F O bC bZ k5 k1 k2
      ·rw [q 0 (by omega),ha2];exact il.refl _
      ·have:=TL (H:=cD s.H ((id,some (.dq u v xs i (mV off s.N ds)))::c8 s.N ds)) ds s.N;rw [ha2] at this;exact this.1
     ·cases h
   ·cases h
  ·cases h
 ·cases h
end Go.Proofs.YtjkbbdldmdajkaaGreatDoor.c_
