/- Rows whose parts are rows of the call's own, in the evaluator: loads that open a part, parts told whole again. No condition. -/
import Derived.Test.YtjkbbdldmdajkaaGreatDoorVL
namespace Go.Proofs.YtjkbbdldmdajkaaGreatDoor.c5
open Go Go.RowKit
variable {w w' ss:World} {F F' zT O O' uo:Nat→Prop} {μ aZ jE:Nat→Nat} {K K' C9:Nat→Prop} {ft bX:Nat→Nat→Prop} {P:Program} {R:Type}
theorem Ns (u:Ty):(kindOf u).b=true:=by unfold kindOf;cases u.flat<;>rfl
theorem ve {v:RV} {u:Ty} (h:(v.d||u.flat)=true) (ys:List u.dn) (i j:Nat):bV v u ys i j=(cz u ys i j).deep:=by
 simp only [bV];cases hv:v.d with
 | true=>rfl
 | false=>rw [hv,Bool.false_or] at h;exact (PM h ys i j).symm
theorem Z2 (u:Ty):((kindOf u).d||u.flat)=true:=by unfold kindOf;cases u.flat<;>rfl
def ml:Nat→List cG→List TA
 | _,[]=>[]
 | N,⟨.sl _,_⟩::r=>.ow N::ml (N+1) r
 | N,y::r=>.d y::ml N r
def cX:Nat→List cG→List (Nat×Option aX)
 | _,[]=>[]
 | N,⟨.sl u,ys⟩::r=>(N,some (.row u (kindOf u) ys))::cX (N+1) r
 | N,_::r=>cX N r
def mm:Nat→Nat→List cG→List (Nat×Nat)
 | _,_,[]=>[]
 | off,N,⟨.sl _,_⟩::r=>(off,N)::mm (off+1) (N+1) r
 | off,N,_::r=>mm (off+1) N r
def mC:Nat→List cG→List Prt
 | _,[]=>[]
 | off,⟨.sl u,ys⟩::r=>⟨off,ff u,List.length (α:=u.dn) ys,fun i j=>(cz u ys i j).deep⟩::mC (off+1) r
 | off,_::r=>mC (off+1) r
theorem ec {M:List cG→Prop} (h0:M []) (h1:∀ (u:Ty) (ys:List u.dn) (r:List cG),M r→M (⟨.sl u,ys⟩::r))
  (h2:∀ (y:cG) (r:List cG),y.t.Lq=false→(∀ N,ml N (y::r)=.d y::ml N r)→(∀ N,cX N (y::r)=cX N r)→(∀ off N,mm off N (y::r)=mm (off+1) N r)→(∀ off,mC off (y::r)=mC (off+1) r)→M r→M (y::r)):∀ ds,M ds
 | []=>h0
 | y::r=>by
  obtain ⟨t,x⟩:=y;have ih:=ec h0 h1 h2 r;cases t with
  | sl u=>exact h1 u x r ih
  | int=>exact h2 _ r rfl (fun _=>by simp only [ml]) (fun _=>by simp only [cX]) (fun _ _=>by simp only [mm]) (fun _=>by simp only [mC]) ih
  | str=>exact h2 _ r rfl (fun _=>by simp only [ml]) (fun _=>by simp only [cX]) (fun _ _=>by simp only [mm]) (fun _=>by simp only [mC]) ih
  | bool=>exact h2 _ r rfl (fun _=>by simp only [ml]) (fun _=>by simp only [cX]) (fun _ _=>by simp only [mm]) (fun _=>by simp only [mC]) ih
  | st=>exact h2 _ r rfl (fun _=>by simp only [ml]) (fun _=>by simp only [cX]) (fun _ _=>by simp only [mm]) (fun _=>by simp only [mC]) ih
theorem IK (ds:List cG):∀ N,(ml N ds).length=ds.length:=by
 induction ds using ec with
 | h0=>intro N;rfl
 | h1 u ys r ih=>intro N;simp only [ml,List.length_cons,ih]
 | h2 y r hy a b c d ih=>intro N;simp only [a,List.length_cons,ih]
theorem Tb (ds:List cG):∀ off N,(mC off ds).length=(cX N ds).length:=by
 induction ds using ec with
 | h0=>intro off N;rfl
 | h1 u ys r ih=>intro off N;simp only [mC,cX,List.length_cons,ih (off+1) (N+1)]
 | h2 y r hy a b c d ih=>intro off N;rw [b,d];exact ih _ _
theorem Tc {H:List (Nat×aX)} (ds:List cG):∀ N,hU H (N+(cX N ds).length) (ml N ds):=by
 induction ds using ec with
 | h0=>intro N;simp only [ml,hU]
 | h1 u ys r ih=>
  intro N;simp only [ml,cX,List.length_cons,hU,TA.wf];refine ⟨by omega,?_⟩;have:=ih (N+1);rwa [show N+1+(cX (N+1) r).length=N+((cX (N+1) r).length+1) by omega] at this
 | h2 y r hy a b c d ih=>intro N;rw [a,b];simp only [hU,TA.wf];exact ⟨trivial,ih N⟩
theorem Z3 {H:List (Nat×aX)} (ds:List cG):∀ off N,hU H (N+(cX N ds).length) ((mm off N ds).map fun p=>.ow p.2):=by
 induction ds using ec with
 | h0=>intro off N;simp only [mm,List.map_nil,hU]
 | h1 u ys r ih=>
  intro off N;simp only [mm,cX,List.length_cons,List.map_cons,hU,TA.wf];refine ⟨by omega,?_⟩;have:=ih (off+1) (N+1);rwa [show N+1+(cX (N+1) r).length=N+((cX (N+1) r).length+1) by omega] at this
 | h2 y r hy a b c d ih=>intro off N;rw [b,c];exact ih (off+1) N
theorem J6 (ds:List cG):∀ off N j,j < off→tb (mm off N ds) j=none:=by
 induction ds using ec with
 | h0=>intro off N j _;rfl
 | h1 u ys r ih=>intro off N j h;simp only [mm,tb,cb (show ¬ j=off by omega)];exact ih _ _ j (by omega)
 | h2 y r hy a b c d ih=>intro off N j h;rw [c];exact ih _ _ j (by omega)
theorem Z4 (ds:List cG):∀ off p,p∈mC off ds→off≤p.j:=by
 induction ds using ec with
 | h0=>intro off p h;cases h
 | h1 u ys r ih=>
  intro off p h;simp only [mC,List.mem_cons] at h;rcases h with h | h
  ·rw [h];exact Nat.le_refl _
  ·have:=ih _ p h;omega
 | h2 y r hy a b c d ih=>intro off p h;rw [d] at h;have:=ih _ p h;omega
theorem U_ (ds:List cG):∀ off,((mC off ds).map (·.j)).Nodup:=by
 induction ds using ec with
 | h0=>intro off;exact List.nodup_nil
 | h1 u ys r ih=>
  intro off;simp only [mC,List.map_cons,List.nodup_cons];refine ⟨fun h=>?_,ih _⟩;obtain ⟨p,h1,h2⟩:=List.mem_map.1 h;have:=Z4 r _ p h1;omega
 | h2 y r hy a b c d ih=>intro off;rw [d];exact ih _
theorem abK {e:Nat→AV} (ds:List cG):∀ off,(∀ k (h:k < ds.length),e (off+k)=(cL ds[k]).deep)→∀ p,p∈mC off ds→p.j < off+ds.length∧e p.j=.os p.bB p.n p.e:=by
 induction ds using ec with
 | h0=>intro off _ p h;cases h
 | h1 u ys r ih=>
  intro off he p h;simp only [mC,List.mem_cons] at h;rcases h with h | h
  ·subst h;have:=he 0 (by simp);simp only [Nat.add_zero,List.getElem_cons_zero] at this;exact ⟨by simp,this⟩
  ·have:=ih (off+1) (fun k hk=>by
    have:=he (k+1) (by simpa using hk);simp only [List.getElem_cons_succ] at this;rw [← this];congr 1;omega) p h
   simp only [List.length_cons];exact ⟨by omega,this.2⟩
 | h2 y r hy a b c d ih=>
  intro off he p h;rw [d] at h;have:=ih (off+1) (fun k hk=>by
   have:=he (k+1) (by simpa using hk);simp only [List.getElem_cons_succ] at this;rw [← this];congr 1;omega) p h
  simp only [List.length_cons];exact ⟨by omega,this.2⟩
theorem Z5 {H2:List (Nat×aX)} {i0:Nat} (ds:List cG):∀ (off N:Nat) (e:Nat→Nat→AV),(∀ p,p∈cX N ds→aS H2 p.1=p.2)→(∀ k (h:k < ds.length),e i0 (off+k)=(cL ds[k]).deep)→
  (∀ i' j,T6 i0 N (mC off ds) e i' j=if i'=i0 then (match tb (mm off N ds) j with | some M=>(TA.ow M).av H2 | none=>e i' j) else e i' j)∧
  ∀ k,k < ds.length→T6 i0 N (mC off ds) e i0 (off+k)=((ml N ds).getD k .top).av H2:=by
 induction ds using ec with
 | h0=>
  intro off N e _ _;refine ⟨fun i' j=>?_,fun k hk=>by cases hk⟩;simp only [mC,T6,mm,tb,ite_self]
 | h1 u ys r ih=>
  intro off N e hl he
  let e1:Nat→Nat→AV:=fun i' j'=>if i'=i0∧j'=off then dh true N ys.length (ff u) else e i' j'
  have hN:(TA.ow N).av H2=dh true N ys.length (ff u):=by
   have:=hl (N,some (.row u (kindOf u) ys)) (by simp [cX]);simp only at this;simp only [TA.av,this,fv,Ns]
  obtain ⟨q1,q2⟩:=ih (off+1) (N+1) e1 (fun p hp=>hl p (by simp only [cX,List.mem_cons];exact .inr hp)) (fun k hk=>by
   have:=he (k+1) (by simpa using hk);simp only [List.getElem_cons_succ] at this;simp only [e1];rw [if_neg (by omega),← this];congr 1;omega)
  have ho:∀ i' j,T6 i0 N (mC off (⟨.sl u,ys⟩::r)) e i' j=T6 i0 (N+1) (mC (off+1) r) e1 i' j:=fun i' j=>rfl;refine ⟨fun i' j=>?_,fun k hk=>?_⟩
  ·rw [ho,q1];by_cases h:i'=i0
   ·rw [if_pos h,if_pos h];simp only [mm,tb];cases hb:Nat.beq j off with
    | true=>
     have hb:=Nat.eq_of_beq_eq_true hb;subst hb;rw [J6 r _ _ j (by omega)];simp only [e1,h,and_self,if_true];exact hN.symm
    | false=>
     have oV:=Nat.ne_of_beq_eq_false hb;have:e1 i' j=e i' j:=if_neg fun h=>oV h.2;rw [this]
   ·rw [if_neg h,if_neg h];exact if_neg fun h'=>h h'.1
  ·rw [ho];cases k with
   | zero=>
    rw [q1,if_pos rfl,J6 r (off+1) (N+1) (off+0) (by omega)];simp only [e1,Nat.add_zero,and_self,if_true,ml];exact hN.symm
   | succ k=>
    have:=q2 k (by simpa using hk);rw [show off+(k+1)=off+1+k by omega,this];simp only [ml,List.getD_cons_succ]
 | h2 y r hy a b c d ih=>
  intro off N e hl he;rw [b] at hl;have PS:=he 0 (by simp);simp only [Nat.add_zero,List.getElem_cons_zero] at PS;obtain ⟨q1,q2⟩:=ih (off+1) N e hl (fun k hk=>by
   have:=he (k+1) (by simpa using hk);simp only [List.getElem_cons_succ] at this;rw [← this];congr 1;omega)
  rw [d,c,a];refine ⟨q1,fun k hk=>?_⟩;cases k with
  | zero=>
   rw [q1,if_pos rfl,J6 r (off+1) N (off+0) (by omega)];simp only [List.getD_cons_zero,TA.av,Nat.add_zero];rw [PS,Ed hy]
  | succ k=>
   have:=q2 k (by simpa using hk);rw [show off+(k+1)=off+1+k by omega,this];simp only [List.getD_cons_succ]
theorem Nt (H:Hp) (T:List (Nat×aX)) (b9:Nat) (ds:List cG):∀ off N,(∃ (u:Ty) (ys:List u.dn),aS (cA T (cX N ds)) b9=some (.row u (kindOf u) ys)∧N≤b9∧H.c_ (Ol N (mC off ds)) b9=some (.row true (ff u) ys.length fun i j=>(cz u ys i j).deep))∨
  (aS (cA T (cX N ds)) b9=aS T b9∧H.c_ (Ol N (mC off ds)) b9=H b9∧(b9 < N∨N+(cX N ds).length≤b9)):=by
 induction ds using ec with
 | h0=>intro off N;exact .inr ⟨rfl,rfl,by simp only [cX,List.length_nil];omega⟩
 | h1 u ys r ih=>
  intro off N;simp only [cX,mC,cA,Ol,aS,Hp.c_];cases hb:Nat.beq b9 N with
  | true=>
   have hb:=Nat.eq_of_beq_eq_true hb;exact .inl ⟨u,ys,rfl,by omega,by rw [if_pos hb]⟩
  | false=>
   have oV:=Nat.ne_of_beq_eq_false hb;rw [if_neg oV];rcases ih (off+1) (N+1) with ⟨u',ys',k1,k2,k3⟩ | ⟨k1,k2,k3⟩
   ·exact .inl ⟨u',ys',k1,by omega,k3⟩
   ·exact .inr ⟨k1,k2,by simp only [List.length_cons];omega⟩
 | h2 y r hy a b c d ih=>intro off N;rw [b,d];exact ih _ _
theorem Nu (T:List (Nat×aX)) (ds:List cG):∀ N p,p∈cX N ds→N≤p.1∧aS (cA T (cX N ds)) p.1=p.2:=by
 induction ds using ec with
 | h0=>intro N p h;cases h
 | h1 u ys r ih=>
  intro N p h;simp only [cX,List.mem_cons] at h;simp only [cX,cA,aS];rcases h with h | h
  ·subst h;exact ⟨Nat.le_refl _,by simp only [Nat.beq_refl]⟩
  ·have:=ih (N+1) p h;exact ⟨by omega,by simp only [cb (show ¬ p.1=N by omega)];exact this.2⟩
 | h2 y r hy a b c d ih=>intro N p h;rw [b] at h ⊢;exact ih N p h
theorem X0 (ds:List cG):∀ N p,p∈cX N ds→∃ (u:Ty) (ys:List u.dn),p.2=some (.row u (kindOf u) ys):=by
 induction ds using ec with
 | h0=>intro N p h;cases h
 | h1 u ys r ih=>
  intro N p h;simp only [cX,List.mem_cons] at h;rcases h with h | h
  ·subst h;exact ⟨u,ys,rfl⟩
  ·exact ih _ p h
 | h2 y r hy a b c d ih=>intro N p h;rw [b] at h;exact ih N p h
theorem Rj {o:Oper} {act:Act} {x:Operand} {t:TypeId} {d:TypeDesc} {i:TypeInfo} {c:Nat→AV} (ho:o.op=.load t x) (ht:P.underlying t=some d) (hi:P.info? t=some i) (ha:Iv d=true) (hc:Iy w F μ K i.size c (act.eval x)):
  ∃ v,(execOp act.eval o).run P w=.ok (.value v) w∧VR w F μ K (.agg ((List.range i.size).map c)) v:=by
 obtain ⟨b,o',u,hv,hu⟩:=hc;exact ⟨_,by simp only [execOp,ho,hv,Sem.run_bind,D6 ht hi ha b o' u (fun j hj=>(hu j hj).1),Result.andThen_ok,Sem.run_pure],.qO (zL fun j hj=>(hu j hj).2)⟩
theorem Rk {o:Oper} {act:Act} {x:Operand} {t:TypeId} {d:TypeDesc} {c:Nat→AV} (ho:o.op=.load t x) (ht:P.underlying t=some d) (ha:Iv d=false) (hc:Iy w F μ K 1 c (act.eval x)):
  ∃ v,(execOp act.eval o).run P w=.ok (.value v) w∧VR w F μ K (c 0) v:=by
 obtain ⟨b,o',u,hv,hu⟩:=hc;exact ⟨_,by simp only [execOp,ho,hv,Sem.run_bind,D7 ht ha b o' (u 0) (hu 0 (by omega)).1,Result.andThen_ok,Sem.run_pure],(hu 0 (by omega)).2⟩
theorem X2 {H:Hp} {n id bB i j m:Nat} {v:Bool} {e:Nat→Nat→AV} {u:Value} (hr:HR w F O μ K H ft) (hx:VR w F μ K (.rp id bB i j) u) (hb:H id=some (.de v bB m e)) (hi:i < m) (hle:j+n≤bB)
  (hc:∀ k,k < n→(e i (j+k)).JZ=false):Iy w F μ K n (fun k=>e i (j+k)) u:=by
 obtain ⟨ob,po,cs,t,S',rfl,hB⟩:=hr.du id _ hb (EM (by omega));cases hx with
 | rp _ _ _ _ bZ=>
  refine ⟨_,_,fun k=>cs.getD (i*bB+j+k) undef,rfl,fun k hk=>?_⟩;have h2:(i+1)*bB≤m*bB:=Nat.mul_le_mul_right _ hi;rw [Nat.add_mul,Nat.one_mul] at h2;have fh:=hB.size;have dY:i*bB+j+k < cs.size:=by omega
  refine ⟨by simp [World.cell?,po,dY],?_⟩;have h5:=(hB.cell i (j+k) hi (by omega)).1;rw [← Nat.add_assoc] at h5;rcases h5 with h5 | h5
  ·exact (h5.closed (hc k hk)).1.up
  ·exact h5.1
theorem abL {s:bL} {id off:Nat} {u:Ty} {v:RV} {xs:List u.dn} {i:Int} {ds:List cG} {a:Act} (hs:SR w F O μ K s.st ft a) (hb:aS s.H id=some (.row u v xs)) (hv:v.d=true) (hi:i.toNat < xs.length) (sy:∀ k (h:k < ds.length),(dZ u (nth u.df xs i))[off+k]?=some ds[k])
  (hn:∀ k,k∈List.range' s.N (cX s.N ds).length→¬ K k):
  ∃ aZ bX,HR w F O aZ (plus K (List.range' s.N (cX s.N ds).length)) (s.st.H.c_ ((id,some (.de v.b (ff u) xs.length (T6 i.toNat s.N (mC off ds) (bV v u xs))))::Ol s.N (mC off ds))) bX∧Fr w F O μ K w F O aZ:=by
 have hlen:∀ k,k < ds.length→off+k < ff u:=fun k hk=>by
  rw [← fa u (nth u.df xs i)];exact (List.getElem?_eq_some_iff.1 (sy k hk)).1
 have he:∀ k (h:k < ds.length),bV v u xs i.toNat (off+k)=(cL ds[k]).deep:=fun k hk=>by
  simp only [bV,hv];rw [ot];have:=sy k hk;simp only [nth] at this;rw [this]
 have hr1:HR w F O μ K (fun k=>if k=id then some (.de v.b (ff u) xs.length (bV v u xs)) else s.st.H k) ft:=hs.hr.imp fun k b' ck=>by
  by_cases q:k=id
  ·rw [if_pos q] at ck;cases ck;exact ⟨_,q▸dx hb,XP fun _ _ _ _=>rfl⟩
  ·rw [if_neg q] at ck;exact ⟨_,ck,eg.refl _⟩
 have hpl:=Tb ds off s.N;obtain ⟨aZ,bX,h1,h2⟩:=PN (id:=id) (bB:=ff u) (n:=xs.length) (i:=i.toNat) (v:=v.b) (mC off ds) (N:=s.N) (e:=bV v u xs) hr1 (by rw [hpl];exact hn) (if_pos rfl) hi (fun p hp=>by
  obtain ⟨k1,k2⟩:=abK (e:=bV v u xs i.toNat) ds off he p hp;refine ⟨?_,k2⟩;cases hd:ds with
  | nil=>rw [hd] at hp;cases hp
  | cons y r=>
   have:=hlen (ds.length-1) (by rw [hd];simp);have:0 < ds.length:=by rw [hd];simp
   omega) (U_ ds off)
 rw [hpl] at h1;refine ⟨aZ,bX,h1.imp fun k b' ck=>⟨b',?_,eg.refl _⟩,h2⟩;simp only [Hp.c_] at ck ⊢;by_cases q:k=id
 ·rw [if_pos q] at ck ⊢;exact ck
 ·rw [if_neg q] at ck ⊢;have key:∀ (L:List Prt) (N:Nat),s.st.H.c_ (Ol N L) k=some b'→Hp.c_ (fun k=>if k=id then some (.de v.b (ff u) xs.length (bV v u xs)) else s.st.H k) (Ol N L) k=some b':=by
   intro L
   induction L with
   | nil=>intro N h;simp only [Ol,Hp.c_,if_neg q] at h ⊢;exact h
   | cons p L ih=>
    intro N h;simp only [Ol,Hp.c_] at h ⊢;by_cases q3:k=N
    ·rw [if_pos q3] at h ⊢;exact h
    ·rw [if_neg q3] at h ⊢;exact ih _ h
  exact key _ _ ck
def Rl (P:Program) (s:bL) (t:TypeId) (x:TA) (κ:cu→Option R):Option R:=
 match x with
 | .rp id i off=>match aS s.H id with
  | some (.row u v xs)=>match v.d,P.underlying t,P.info? t with
   | true,some d,some ti=>match Iv d with
    | true=>if (off+ti.size).ble (ff u) then κ ⟨.agg (ml s.N (((dZ u (nth u.df xs i)).drop off).take ti.size)),(id,some (.de u v xs i (mm off s.N (((dZ u (nth u.df xs i)).drop off).take ti.size))))::cX s.N (((dZ u (nth u.df xs i)).drop off).take ti.size),(cX s.N (((dZ u (nth u.df xs i)).drop off).take ti.size)).length⟩ else none
    | false=>match ml s.N (((dZ u (nth u.df xs i)).drop off).take 1) with
     | [a]=>κ ⟨a,(id,some (.de u v xs i (mm off s.N (((dZ u (nth u.df xs i)).drop off).take 1))))::cX s.N (((dZ u (nth u.df xs i)).drop off).take 1),(cX s.N (((dZ u (nth u.df xs i)).drop off).take 1)).length⟩
     | _=>none
   | _,_,_=>none
  | _=>none
 | _=>none
theorem Gb {α:Type} {l:List α} {off n k:Nat} (h:k < ((l.drop off).take n).length):l[off+k]?=some ((l.drop off).take n)[k]:=by
 have h2:k < n∧off+k < l.length:=by simp only [List.length_take,List.length_drop] at h;omega
 simp [List.getElem_take,List.getElem_drop,h2.2]
theorem IL {o:Oper} {s:bL} {κ:cu→Option R} {z:R} {id off:Nat} {i:Int} {u:Ty} {v:RV} {xs:List u.dn} {ds:List cG} {va:TA} {rv:AV} (hs:s.ok) (hb:aS s.H id=some (.row u v xs)) (bZ:id < s.N)
  (sy:∀ k (h:k < ds.length),(dZ u (nth u.df xs i))[off+k]?=some ds[k])
  (lX:dg P o s.st ⟨rv,(id,some (.de v.b (ff u) xs.length (T6 i.toNat s.N (mC off ds) (bV v u xs))))::Ol s.N (mC off ds),List.range' s.N (cX s.N ds).length⟩)
  (hv:v.d=true) (hrv:(∀ k,k < ds.length→T6 i.toNat s.N (mC off ds) (bV v u xs) i.toNat (off+k)=((ml s.N ds).getD k .top).av (cA s.H ((id,some (.de u v xs i (mm off s.N ds)))::cX s.N ds)))→g8 rv (va.av (cA s.H ((id,some (.de u v xs i (mm off s.N ds)))::cX s.N ds))))
  (hva:va.wf (cA s.H ((id,some (.de u v xs i (mm off s.N ds)))::cX s.N ds)) (s.N+(cX s.N ds).length))
  (hk:κ ⟨va,(id,some (.de u v xs i (mm off s.N ds)))::cX s.N ds,(cX s.N ds).length⟩=some z):vh P o s κ z:=by
 let H2:List (Nat×aX):=cA s.H ((id,some (.de u v xs i (mm off s.N ds)))::cX s.N ds)
 have he:∀ k (h:k < ds.length),bV v u xs i.toNat (off+k)=(cL ds[k]).deep:=fun k hk=>by
  simp only [bV,hv];rw [ot];have:=sy k hk;simp only [nth] at this;rw [this]
 have afp:∀ p,p∈cX s.N ds→aS H2 p.1=p.2:=fun p hp=>by
  obtain ⟨k1,k2⟩:=Nu s.H ds s.N p hp;simp only [H2,cA,aS,cb (show ¬ p.1=id by omega)];exact k2
 obtain ⟨q1,q2⟩:=Z5 (H2:=H2) (i0:=i.toNat) ds off s.N (bV v u xs) afp he;have jx:Sub s.H H2 s.N:=fun b9 OQ=>by
  simp only [H2,cA,aS];cases e:Nat.beq b9 id with
  | true=>rw [Nat.eq_of_beq_eq_true e,hb];rfl
  | false=>
   rcases Nt s.st.H s.H b9 ds off s.N with ⟨_,_,_,k2,_⟩ | ⟨k1,_⟩
   ·omega
   ·exact congrArg fv k1
 refine ⟨⟨va,(id,some (.de u v xs i (mm off s.N ds)))::cX s.N ds,(cX s.N ds).length⟩,⟨rv,_,lX,hrv q2,?_,?_⟩,⟨jx,hva,?_⟩,hk⟩
 ·intro b9 hm;simp only [List.map_cons,List.mem_cons] at hm ⊢;rcases hm with h | h
  ·exact .inl h
  ·refine .inr ?_;have key:∀ (ds:List cG) (off N:Nat),(Ol N (mC off ds)).map (·.1)=(cX N ds).map (·.1):=by
    intro ds
    induction ds using ec with
    | h0=>intro off N;rfl
    | h1 u ys r ih=>intro off N;simp only [mC,Ol,cX,List.map_cons,ih (off+1) (N+1)]
    | h2 y r hy a b c d ih=>intro off N;rw [b,d];exact ih _ _
   rwa [key] at h
 ·intro b9 b' ck;obtain ⟨B,hB,hBv,rfl⟩:=ij ck;have hB:aS H2 b9=some B:=hB;show ∃ b,Hp.c_ s.st.H _ b9=some b∧eg b (B.du H2);by_cases q:b9=id
  ·subst q;simp only [H2,cA,aS,Nat.beq_refl] at hB;cases hB;refine ⟨_,if_pos rfl,?_⟩;exact abv fun i' j _ _=>(q1 i' j).trans rfl
  ·simp only [Hp.c_,if_neg q];have YI:aS (cA s.H (cX s.N ds)) b9=some B:=by simpa only [H2,cA,aS,cb q] using hB
   rcases Nt s.st.H s.H b9 ds off s.N with ⟨u',ys',k1,k2,k3⟩ | ⟨k1,k2,_⟩
   ·rw [k1] at YI;cases YI;refine ⟨_,k3,?_⟩;simp only [aX.du,Ns];exact SZ (by intro i' j _ _ w F μ S u h;rw [ve (Z2 u')];exact h)
   ·rw [k1] at YI;rw [k2];refine ⟨_,dx YI hBv,?_⟩;rw [p4 jx (hs.H b9 _ YI)];exact eg.refl _
 ·intro b9 b hm;simp only [List.mem_cons,Prod.mk.injEq,Option.some.injEq] at hm;rcases hm with ⟨_,h⟩ | h
  ·rw [h];exact Z3 ds off s.N
  ·obtain ⟨u',ys',h3⟩:=X0 ds s.N _ h;simp only [Option.some.injEq] at h3;rw [h3];simp only [aX.refs,hU]
theorem Va {o:Oper} {s:bL} {κ:cu→Option R} {z:R} {x:Operand} {t:TypeId} (ho:o.op=.load t x) (hs:s.ok) (h:Rl P s t (s.val x) κ=some z):vh P o s κ z:=by
 unfold Rl at h;split at h
 ·rename_i id i off hx;have hw:=fS hs x;rw [hx] at hw;simp only [TA.wf] at hw;split at h
  ·rename_i u v xs hb;have hi:=hw.2 u v xs.length (by rw [hb];rfl);have h1:=@bY s x _ hx;simp only [TA.av,hb,fv] at h1;have core:∀ (ds:List cG) (n:Nat),ds.length=n→off+n≤ff u→v.d=true→(∀ k (h:k < ds.length),(dZ u (nth u.df xs i))[off+k]?=some ds[k])→
     ∀ {w F O μ K ft a},SR w F O μ K s.st ft a→(∀ id,id∈List.range' s.N (cX s.N ds).length→¬ K id)→∃ aZ bX,HR w F O aZ (plus K (List.range' s.N (cX s.N ds).length)) (s.st.H.c_ ((id,some (.de v.b (ff u) xs.length (T6 i.toNat s.N (mC off ds) (bV v u xs))))::Ol s.N (mC off ds))) bX∧Fr w F O μ K w F O aZ∧
      Iy w F aZ (plus K (List.range' s.N (cX s.N ds).length)) n (fun k=>T6 i.toNat s.N (mC off ds) (bV v u xs) i.toNat (off+k)) (a.eval x):=by
    intro ds n hn hle hv sy w F O μ K ft a fJ BQ;obtain ⟨aZ,bX,k1,k2⟩:=abL fJ hb hv hi sy BQ;refine ⟨aZ,bX,k1,k2,?_⟩;have he:∀ k (h:k < ds.length),bV v u xs i.toNat (off+k)=(cL ds[k]).deep:=fun k hk=>by
     simp only [bV,hv];rw [ot];have:=sy k hk;simp only [nth] at this;rw [this]
    obtain ⟨q1,q2⟩:=Z5 (H2:=cA s.H (cX s.N ds)) (i0:=i.toNat) ds off s.N (bV v u xs) (fun p hp=>(Nu s.H ds s.N p hp).2) he;refine X2 k1 ((h1 fJ).step fJ.hr k2 fun _ h=>.inl h) (if_pos rfl) hi hle fun k hk=>?_;rw [q2 k (by omega)];have hA:∀ (ds:List cG) (N k:Nat),(((ml N ds).getD k .top).av (cA s.H (cX s.N ds))).JZ=false∨True:=fun _ _ _=>.inr trivial;have key:∀ (r:List cG) (N:Nat) (k:Nat) (Hx:List (Nat×aX)),(∀ y,y∈r→y.t.leaf=true)→(((ml N r).getD k .top).av Hx).JZ=false:=by
     intro r
     induction r using ec with
     | h0=>intro N k Hx _;simp [ml,TA.av,AV.JZ]
     | h1 u' ys r ih=>
      intro N k Hx hl;cases k with
      | zero=>
       simp only [ml,List.getD_cons_zero,TA.av];split
       ·rename_i t' v' n' _;cases v'.b<;>rfl
       ·rfl
      | succ k=>simp only [ml,List.getD_cons_succ];exact ih _ k Hx fun y hy=>hl y (by simp [hy])
     | h2 y r hy a b c d ih=>
      intro N k Hx hl;rw [a];cases k with
      | zero=>simp only [List.getD_cons_zero,TA.av];exact IH
      | succ k=>simp only [List.getD_cons_succ];exact ih _ k Hx fun y hy=>hl y (by simp [hy])
    refine key ds s.N k _ fun y hy=>?_;obtain ⟨k',FG,rfl⟩:=List.getElem_of_mem hy;exact AM u _ _ (List.mem_of_getElem? (sy k' FG))
   have tk:∀ n,off+n≤ff u→(((dZ u (nth u.df xs i)).drop off).take n).length=n:=fun n h=>by
    have:=fa u (nth u.df xs i);simp only [List.length_take,List.length_drop];omega
   split at h
   ·rename_i d ti hv ht hti;split at h
    ·rename_i ha;split at h
     ·rename_i hle;have hle:=Nat.le_of_ble_eq_true hle;generalize abM:((dZ u (nth u.df xs i)).drop off).take ti.size=ds at h;have sy:∀ k (h:k < ds.length),(dZ u (nth u.df xs i))[off+k]?=some ds[k]:=by subst abM;exact fun k h=>Gb h
      have hlen:ds.length=ti.size:=by rw [← abM];exact tk _ hle
      refine IL (rv:=.agg ((List.range ti.size).map fun k=>T6 i.toNat s.N (mC off ds) (bV v u xs) i.toNat (off+k))) (off:=off) (ds:=ds) hs hb hw.1 sy (fun w F O μ K ft a fJ BQ Kn Q hk=>?_) hv (fun q=>?_) ?_ h
      ·obtain ⟨aZ,bX,k1,k2,k3⟩:=core ds ti.size hlen hle hv sy fJ BQ;obtain ⟨vv,k4,k5⟩:=Rj ho ht hti ha k3;unfold Oper.wp;rw [k4,Oper.upon_value];exact hk vv w F O aZ bX k5 k1 k2
      ·simp only [TA.av];rw [BU (l:=ml s.N ds) (by rw [IK];exact hlen) fun k hk=>q k (by omega)];exact g8.refl _
      ·simp only [TA.wf];exact Tc ds s.N
     ·cases h
    ·rename_i ha;split at h
     ·rename_i a ha2;generalize abM:((dZ u (nth u.df xs i)).drop off).take 1=ds at h ha2;have sy:∀ k (h:k < ds.length),(dZ u (nth u.df xs i))[off+k]?=some ds[k]:=by subst abM;exact fun k h=>Gb h
      have hlen:ds.length=1:=by rw [← IK ds s.N,ha2];rfl
      have hle:off+1≤ff u:=by
       have:=(List.getElem?_eq_some_iff.1 (sy 0 (by omega))).1;rw [fa] at this;omega
      refine IL (rv:=T6 i.toNat s.N (mC off ds) (bV v u xs) i.toNat (off+0)) (off:=off) (ds:=ds) hs hb hw.1 sy (fun w F O μ K ft act fJ BQ Kn Q hk=>?_) hv (fun q=>?_) ?_ h
      ·obtain ⟨aZ,bX,k1,k2,k3⟩:=core ds 1 hlen hle hv sy fJ BQ;obtain ⟨vv,k4,k5⟩:=Rk ho ht ha k3;unfold Oper.wp;rw [k4,Oper.upon_value];exact hk vv w F O aZ bX k5 k1 k2
      ·rw [q 0 (by omega),ha2];exact g8.refl _
      ·have:=Tc (H:=cA s.H ((id,some (.de u v xs i (mm off s.N ds)))::cX s.N ds)) ds s.N;rw [ha2] at this;exact this.1
     ·cases h
   ·cases h
  ·cases h
 ·cases h
end Go.Proofs.YtjkbbdldmdajkaaGreatDoor.c5
