/- append, copy: a row of the call's own grows, or is written from another. No condition. -/
import Derived.Test.YtjkbbdldmdajkaaGreatDoorVE
set_option linter.unusedSimpArgs false
set_option linter.unusedVariables false
namespace Go.Proofs.YtjkbbdldmdajkaaGreatDoor.c_
open Go Go.RowKit
variable {w w' xk:World} {F F' Bs O O' v8:Nat→Prop} {μ bC lG:Nat→Nat} {K K' EF:Nat→Prop} {H H' H'':Hp} {ft bZ:Nat→Nat→Prop} {P:Program}
def flat (bA m:Nat) (u:Nat→Nat→Value):List Value:=(List.range (m*bA)).map fun k=>u (k / bA) (k % bA)
theorem Ja {bA m:Nat} {u:Nat→Nat→Value} {i j:Nat} (hi:i < m) (hj:j < bA):(flat bA m u).getD (i*bA+j) undef=u i j:=by
 have h2:(i+1)*bA≤m*bA:=Nat.mul_le_mul_right _ hi;rw [Nat.add_mul,Nat.one_mul] at h2;have h3:i*bA+j < m*bA:=by omega
 have h4:(i*bA+j) / bA=i:=by
  rw [Nat.add_comm,Nat.add_mul_div_right _ _ (by omega),Nat.div_eq_of_lt hj];omega
 simp [flat,List.getD,h3,h4,I7 hj]
theorem gb (bA m:Nat) (u:Nat→Nat→Value):(flat bA m u).length=m*bA:=by simp [flat]
theorem yZ {bA m b o:Nat} {u:Nat→Nat→Value} (he:bA≠0) (h:∀ i j,i < m→j < bA→w.cell? ⟨b,o+i*bA+j,none⟩=some (u i j)) (cap:Nat) (L:Nat):
  (Builtin.firstCells bA m (.slice (some ⟨b,o,none⟩) L cap)).run P w=.ok ⟨flat bA m u⟩ w:=by
 simp only [Builtin.firstCells];rw [run_loadCells w _ _ (fun k=>u (k / bA) (k % bA)) fun k hk=>?_]
 ·rfl
 ·rw [wy];have h1:k / bA < m:=Nat.div_lt_of_lt_mul (by rw [Nat.mul_comm];exact hk);have h2:k % bA < bA:=Nat.mod_lt _ (by omega);have:=h (k / bA) (k % bA) h1 h2;rw [Nat.add_assoc] at this;have e:k / bA*bA+k % bA=k:=by rw [Nat.mul_comm];exact Nat.div_add_mod k bA
  rwa [e] at this
theorem X7 (Vm cap:Nat) (h:cap < Vm):Builtin.nextslicecap Vm cap≤2*Vm+768:=by
 unfold Builtin.nextslicecap;split
 ·omega
 ·split
  ·omega
  ·have:∀ (r c:Nat),c≤Vm→Builtin.growBy Vm r c≤2*Vm+768:=by
    intro r
    induction r with
    | zero=>intro c hc;simp only [Builtin.growBy];omega
    | succ r ih=>
     intro c hc;simp only [Builtin.growBy];split
     ·omega
     ·rename_i dQ;by_cases h2:c+(c+768) / 4≤Vm
      ·exact ih _ h2
      ·cases r with
       | zero=>simp only [Builtin.growBy];omega
       | succ r=>
        simp only [Builtin.growBy];rw [if_pos (by omega)];omega
   exact this 4 cap (by omega)
def Src (P:Program) (s:fT) (y:Operand) (bA m:Nat) (f:Nat→Nat→AV) (L:List Nat):Prop:=
 ∀ w F O μ K ft act,SR w F O μ K s ft act→∃ (A:Option Addr) (cap:Nat) (g:Nat→Nat→Value) (S:Nat→Nat→Nat→Prop),act.eval y=.slice A m cap∧(∀ w',w'.heap=w.heap→(Builtin.firstCells bA m (.slice A m cap)).run P w'=.ok ⟨flat bA m g⟩ w')∧
  (∀ i j,i < m→j < bA→jP w F μ (S i j) (f i j) (g i j)∧(g i j).oneCell'=true)∧
  (∀ i j i' j',i < m→j < bA→i' < m→j' < bA→∀ x,S i j x→S i' j' x→i=i'∧j=j')∧
  ∀ i j,i < m→j < bA→∀ x,S i j x→∃ id,id∈L∧s.H.live id∧ft id x∧x≠μ id
theorem NJ {s:fT} {y:Operand} {bA m:Nat} {f:Nat→Nat→AV} (Ht:bA≠0) (h:∀ {w F O μ K ft act},SR w F O μ K s ft act→∃ A cap,act.eval y=.slice A m cap∧(m=0∨∃ (b o:Nat) (u:Nat→Nat→Value),A=some ⟨b,o,none⟩∧
  ∀ i j,i < m→j < bA→w.cell? ⟨b,o+i*bA+j,none⟩=some (u i j)∧VR w F μ Dc (f i j) (u i j)∧(u i j).oneCell'=true)) (L:List Nat):Src P s y bA m f L:=by
 intro w F O μ K ft act hs;obtain ⟨A,cap,EO,hA⟩:=h hs;rcases hA with rfl | ⟨b,o,u,rfl,hu⟩
 ·refine ⟨A,cap,fun _ _=>undef,fun _ _ _=>False,EO,fun w' _=>?_,fun i j hi=>by omega,fun _ _ _ _ hi=>by omega,fun i j hi=>by omega⟩;have e0:flat bA 0 (fun _ _=>undef)=[]:=by simp [flat]
  rw [e0];cases A with
  | none=>simp [Builtin.firstCells]
  | some a=>simp [Builtin.firstCells,loadCells,loadCellsFrom]
 ·refine ⟨_,cap,u,fun _ _ _=>False,EO,fun w' X8=>yZ Ht (fun i j hi hj=>?_) _ _,fun i j hi hj=>⟨.IY _ _ _ (hu i j hi hj).2.1 fun _ h=>h,(hu i j hi hj).2.2⟩,fun _ _ _ _ _ _ _ _ _ h=>h.elim,fun _ _ _ _ _ h=>h.elim⟩;have:=(hu i j hi hj).1;simp only [World.cell?] at this ⊢;rw [X8];exact this
theorem aap {s:fT} {y:Operand} {bA:Nat} (Ht:bA≠0) (hy:ee s y .fB) (f:Nat→Nat→AV):Src P s y bA 0 f []:=
 NJ Ht (fun hs=>⟨none,0,(hy hs).qd,.inl rfl⟩) []
theorem aed {s:fT} {y:Operand} {bA m:Nat} {f:Nat→Nat→AV} (Ht:bA≠0) (hy:ee s y (.fs bA m f)):Src P s y bA m f []:=
 NJ Ht (fun {w F O μ K ft act} hs=>by
  have h:=hy hs;generalize act.eval y=v at h;cases h with
  | fs _ _ _ b o cap u hF hc hu hv=>exact ⟨_,cap,rfl,.inr ⟨b,o,u,rfl,fun i j hi hj=>⟨(hu i j hi hj).1,hv i j hi hj,(hu i j hi hj).2⟩⟩⟩
  | v7 _ _ a cap=>exact ⟨a,cap,rfl,.inl rfl⟩) []
theorem Ws {s:fT} {y:Operand} {v:Bool} {id bA m:Nat} {f:Nat→Nat→AV} (Ht:bA≠0) (hy:ee s y (du v id m bA)) (hb:s.H id=some (.row v bA m f)):Src P s y bA m f [id]:=by
 intro w F O μ K ft act hs;by_cases hm:m=0
 ·subst hm;have EO:∃ A cap,act.eval y=.slice A 0 cap:=by
   have h:=hy hs;generalize act.eval y=u at h;cases v<;>simp only [du] at h<;>cases h<;>exact ⟨_,_,rfl⟩
  obtain ⟨A,cap,EO⟩:=EO;refine ⟨A,cap,fun _ _=>undef,fun _ _ _=>False,EO,fun w' _=>?_,fun i j hi=>by omega,fun _ _ _ _ hi=>by omega,fun i j hi=>by omega⟩;have e0:flat bA 0 (fun _ _=>undef)=[]:=by simp [flat]
  rw [e0];cases A with
  | none=>simp [Builtin.firstCells]
  | some a=>simp [Builtin.firstCells,loadCells,loadCellsFrom]
 ·obtain ⟨cap,EO,afk,bY⟩:=Tm (hy hs) hm;have hl:(jV.row v bA m f).fc=true:=by cases v<;>simp [jV.fc];exact hm
  have gQ:s.H.live id:=⟨_,hb,hl⟩;obtain ⟨ob,p_,cs,t,S,rfl,hB⟩:=hs.hr.dC id _ hb hl;refine ⟨_,cap,fun i j=>cs.getD (i*bA+j) undef,S,EO,fun w' X8=>yZ Ht (fun i j hi hj=>?_) _ _,hB.cell,hB.dj,fun i j hi hj x hx=>⟨id,by simp,gQ,(hB.all x).2 (.inr ⟨i,j,hi,hj,hx⟩),fun e=>hB.nb i j hi hj (e▸hx)⟩⟩;have h6:(i+1)*bA≤m*bA:=Nat.mul_le_mul_right _ hi;rw [Nat.add_mul,Nat.one_mul] at h6;have fV:=hB.size;have:i*bA+j < cs.size:=by omega
  simp [World.cell?,X8,p_,this]
theorem abU {s:fT} {y:Operand} {v:Bool} {id bA m:Nat} {f:Nat→Nat→AV} (Ht:bA≠0) (hy:ee s y (du v id m bA)) (hb:s.H id=some (.row v bA m f)) (hc:∀ i j,i < m→j < bA→(f i j).Kw=false):Src P s y bA m f []:=by
 intro w F O μ K ft act hs;obtain ⟨A,cap,g,S,h1,h2,h3,h4,h5⟩:=Ws (P:=P) Ht hy hb w F O μ K ft act hs;exact ⟨A,cap,g,fun _ _ _=>False,h1,h2,fun i j hi hj=>⟨.IY _ _ _ ((h3 i j hi hj).1.closed (hc i j hi hj)).1 fun _ h=>h,(h3 i j hi hj).2⟩,fun _ _ _ _ _ _ _ _ _ h=>h.elim,fun _ _ _ _ _ h=>h.elim⟩
inductive Dst (s:fT) (x:Operand) (bA:Nat):Bool→Nat→(Nat→Nat→AV)→List Nat→Prop
 | fB (e:Nat→Nat→AV) (hx:ee s x .fB):Dst s x bA true 0 e []
 | own (v:Bool) (id n:Nat) (e:Nat→Nat→AV) (hx:ee s x (du v id n bA)) (hb:s.H id=some (.row v bA n e)):Dst s x bA v n e [id]
theorem rQ {v:Bool} {id n bA:Nat} {u:Value} (hv:VR w F μ K (du v id n bA) u):
  ((∃ a,u=.slice a 0 0)∧n=0∧v=true)∨∃ cap sz t,u=.slice (some ⟨μ id,0,none⟩) n cap∧n≤cap∧K id∧w.shape? (μ id)=some (t,sz)∧cap*bA≤sz∧(v=true→n≠0):=by
 cases v with
 | false=>cases hv with | ms id i n bA cap sz t bY hc hs fV=>exact .inr ⟨cap,sz,t,by simp,hc,bY,hs,by simpa using fV,fun h=>by cases h⟩
 | true=>cases hv with
  | vs id n bA cap sz t hn bY hc hs fV=>exact .inr ⟨cap,sz,t,rfl,hc,bY,hs,fV,fun _=>hn⟩
  | s9 id bA a=>exact .inl ⟨⟨a,rfl⟩,rfl,rfl⟩
theorem Jb {v:Bool} {id n bA cap sz:Nat} {t:TypeId} (bY:K id) (hc:n≤cap) (hs:w.shape? (μ id)=some (t,sz)) (fV:cap*bA≤sz) (hn:v=true→n≠0):VR w F μ K (du v id n bA) (.slice (some ⟨μ id,0,none⟩) n cap):=by
 cases v with
 | false=>
  have:=VR.ms (w:=w) (F:=F) (μ:=μ) (K:=K) id 0 n bA cap sz t bY hc hs (by simpa using fV);simpa [du] using this
 | true=>exact .vs id n bA cap sz t (hn rfl) bY hc hs fV
theorem Wt {b b0:Nat} {bA n m:Nat} {e f e':Nat→Nat→AV} {cs cs':Array Value} {g:Nat→Nat→Value} {S1 S2:Nat→Nat→Nat→Prop} {T1:Nat→Prop}
  (he:n=0∨Nw b0 cs bA n S1 T1 fun T i j v=>jP w F μ T (e i j) v)
  (hf:∀ i j,i < m→j < bA→jP w F μ (S2 i j) (f i j) (g i j)∧(g i j).oneCell'=true)
  (hd:∀ i j i' j',i < m→j < bA→i' < m→j' < bA→∀ x,S2 i j x→S2 i' j' x→i=i'∧j=j')
  (hx:n≠0→∀ i j,i < m→j < bA→∀ x,S2 i j x→¬ T1 x) (V7:n≠0→∀ i j,i < n→j < bA→¬ S1 i j b) (UJ:∀ i j,i < m→j < bA→¬ S2 i j b)
  (h1:∀ k,k < n*bA→cs'.getD k undef=cs.getD k undef) (h2:∀ i j,i < m→j < bA→cs'.getD ((n+i)*bA+j) undef=g i j) (fV:(n+m)*bA≤cs'.size)
  (Tu:∀ i j,i < n+m→j < bA→e' i j=if i < n then e i j else f (i-n) j):
  ∃ S T,(∀ x,T x→x=b∨(n≠0∧T1 x∧x≠b0)∨∃ i j,i < m∧j < bA∧S2 i j x)∧T b∧Nw b cs' bA (n+m) S T fun T i j v=>jP w F μ T (e' i j) v:=by
 let S:Nat→Nat→Nat→Prop:=fun i j x=>(i < n∧S1 i j x)∨(n≤i∧S2 (i-n) j x)
 have row:∀ i,i < n→Nw b0 cs bA n S1 T1 fun T i j v=>jP w F μ T (e i j) v:=fun i hi=>he.resolve_left (by omega);refine ⟨S,fun x=>x=b∨∃ i j,i < n+m∧j < bA∧S i j x,?_,.inl rfl,{ size:=fV,cell:=fun i j hi hj=>?_,dj:=?_,nb:=?_,all:=fun _=>Iff.rfl }⟩
 ·rintro x (h | ⟨i,j,hi,hj,⟨h3,h4⟩ | ⟨h3,h4⟩⟩)
  ·exact .inl h
  ·exact .inr (.inl ⟨by omega,((row i h3).all x).2 (.inr ⟨i,j,h3,hj,h4⟩),fun e=>(row i h3).nb i j h3 hj (e▸h4)⟩)
  ·exact .inr (.inr ⟨i-n,j,by omega,hj,h4⟩)
 ·rw [Tu i j hi hj];by_cases h:i < n
  ·rw [if_pos h];have h3:(i+1)*bA≤n*bA:=Nat.mul_le_mul_right _ h;rw [Nat.add_mul,Nat.one_mul] at h3;rw [h1 _ (by omega)];have eS:S i j=S1 i j:=by
    funext x;simp only [S,eq_iff_iff];exact ⟨fun k=>k.elim (fun k=>k.2) fun k=>by omega,fun k=>.inl ⟨h,k⟩⟩
   rw [eS];exact (row i h).cell i j h hj
  ·rw [if_neg h];have:=h2 (i-n) j (by omega) hj;rw [show n+(i-n)=i by omega] at this;rw [this];have eS:S i j=S2 (i-n) j:=by
    funext x;simp only [S,eq_iff_iff];exact ⟨fun k=>k.elim (fun k=>absurd k.1 h) fun k=>k.2,fun k=>.inr ⟨by omega,k⟩⟩
   rw [eS];exact hf (i-n) j (by omega) hj
 ·rintro i j i' j' hi hj di mR x (⟨h3,h4⟩ | ⟨h3,h4⟩) (⟨k3,k4⟩ | ⟨k3,k4⟩)
  ·exact (row i h3).dj i j i' j' h3 hj k3 mR x h4 k4
  ·exact absurd (((row i h3).all x).2 (.inr ⟨i,j,h3,hj,h4⟩)) (hx (by omega) (i'-n) j' (by omega) mR x k4)
  ·exact absurd (((row i' k3).all x).2 (.inr ⟨i',j',k3,mR,k4⟩)) (hx (by omega) (i-n) j (by omega) hj x h4)
  ·obtain ⟨q1,q2⟩:=hd (i-n) j (i'-n) j' (by omega) hj (by omega) mR x h4 k4;exact ⟨by omega,q2⟩
 ·rintro i j hi hj (⟨h3,h4⟩ | ⟨h3,h4⟩)
  ·exact V7 (by omega) i j h3 hj h4
  ·exact UJ (i-n) j (by omega) hj h4
theorem X9 {o:Oper} {s:fT} {x y:Operand} {t u et:TypeId} {ti:TypeInfo} {nl:Bool} {n m:Nat} {e f e':Nat→Nat→AV} {D L:List Nat} {eu:TypeId} {z:Value} {N:Nat}
  (ho:o.op=.call ⟨.builtin .append,#[x,y],#[t,u]⟩) (ht:P.underlying t=some (.slice et)) (hu:P.underlying u=some (.slice eu)) (hi:P.info? et=some ti) (hz:ti.zero=some z) (Ht:ti.size≠0) (hzs:z.cells.size=ti.size)
  (hd:Dst s x ti.size nl n e D) (hs:Src P s y ti.size m f L) (hDL:∀ id,id∈D→id ∉ L) (hb:(n+m)*ti.bytes≤70368744177664) (UJ:n+m≤70368744177664) (hb3:ti.bytes≤4294967296)
  (Tu:∀ i j,i < n+m→j < ti.size→e' i j=if i < n then e i j else f (i-n) j):
  dr P o s ⟨du nl N (n+m) ti.size,(N,some (.row nl ti.size (n+m) e'))::gH (D++L),[N]⟩:=by
 intro w F O μ K ft a gh hn Kn Q hk;have hN:¬ K N:=hn N (by simp);obtain ⟨B,X_,g,S2,hvy,YT,Wa,hg3,hg4⟩:=hs _ _ _ _ _ _ _ gh;have NF:∀ v,v∈flat ti.size m g→v.oneCell'=true:=by
  intro v hv;simp only [flat,List.mem_map,List.mem_range] at hv;obtain ⟨k,hk,rfl⟩:=hv;exact (Wa _ _ (Nat.div_lt_of_lt_mul (by rw [Nat.mul_comm];exact hk)) (Nat.mod_lt _ (by omega))).2
 have hS2:∀ i j,i < m→j < ti.size→∀ x,S2 i j x→x < w.heap.size:=fun i j hi hj x hx=>by
  obtain ⟨id,_,h2,h3,_⟩:=hg4 i j hi hj x hx;exact gh.hr.rT x (gh.hr.own id h2 x h3)
 obtain ⟨A,cap,hvx,afk,hA⟩:∃ A cap,a.eval x=.slice A n cap∧n≤cap∧((n=0∧cap=0∧nl=true)∨
   ∃ id cs t' S1,D=[id]∧A=some ⟨μ id,0,none⟩∧s.H id=some (.row nl ti.size n e)∧(jV.row nl ti.size n e).fc=true∧w.heap[μ id]?=some (.cells cs t' (0,0))∧cap*ti.size≤cs.size∧
    (nl=true→n≠0)∧Nw (μ id) cs ti.size n S1 (ft id) fun T i j v=>jP w F μ T (e i j) v):=by
  cases hd with
  | fB e hx=>exact ⟨none,0,(hx gh).qd,Nat.le_refl _,.inl ⟨rfl,rfl,rfl⟩⟩
  | own v id n e hx Zd=>
   rcases rQ (hx gh) with ⟨⟨a0,h1⟩,h2,h3⟩ | ⟨cap,sz,t',h1,h2,bY,h4,h5,h6⟩
   ·exact ⟨a0,0,h2▸h1,by omega,.inl ⟨h2,rfl,h3⟩⟩
   ·have hl:(jV.row nl ti.size n e).fc=true:=by
     cases nl with
     | false=>rfl
     | true=>simpa [jV.fc] using h6 rfl
    obtain ⟨ob,p_,cs,t2,S1,rfl,hB⟩:=gh.hr.dC id _ Zd hl;refine ⟨_,cap,h1,h2,.inr ⟨id,cs,t2,S1,rfl,rfl,Zd,hl,p_,?_,h6,hB⟩⟩;simp only [World.shape?,p_,Option.some.injEq,Prod.mk.injEq] at h4;rw [h4.2];exact h5
 have ahx:∀ id,s.H.live id→id≠N:=fun id hl e=>hN (e▸gh.hr.re hl);unfold Oper.wp;have pre:(execOp a.eval o).run P w=((Builtin.append_ #[t,u] o.type #[.slice A n cap,.slice B m X_]).run P w).andThen fun v w'=>.ok (.value v) w':=by
  simp [execOp,ho,resolve,invoke,builtin,hvx,hvy]
 have c1:¬ ((9223372036854775807:Int) < ↑n+↑m∧ti.bytes=0):=by intro h;omega
 have c2:n+m > cap→¬ 281474976710656 < Builtin.nextslicecap (n+m) cap*ti.bytes:=by
  intro hc;have h1:=Nat.mul_le_mul_right ti.bytes (X7 (n+m) cap hc);rw [Nat.add_mul,Nat.mul_assoc] at h1;omega
 rw [pre];by_cases hle:n+m≤cap
 ·rcases hA with ⟨rfl,rfl,rfl⟩ | ⟨id,cs,t',S1,rfl,rfl,hH,hl,hc,DI,JJ,hB⟩
  ·
   obtain rfl:m=0:=by omega
   have lH:(Builtin.append_ #[t,u] o.type #[.slice A 0 0,.slice B 0 X_]).run P w=.ok (.slice A 0 0) w:=by
    have e0:flat ti.size 0 g=[]:=by simp [flat]
    have h0:=YT w rfl;rw [e0] at h0;simp only [Builtin.append_];simp [cb ht,gD hi,cb hu,Builtin.lenOf,h0];cases A<;>simp [storeCells]
   rw [lH,Result.andThen_ok,Oper.upon_value];obtain ⟨k1,k2⟩:=xL (bA:=ti.size) (e:=e') (gh.hr.aaf (EI s.H (D++L))) hN;have e1:(s.H.dh (gH (D++L))).dh [(N,some (.row true ti.size 0 e'))]=s.H.dh ((N,some (.row true ti.size (0+0) e'))::gH (D++L)):=by
    funext id;rfl
   rw [e1] at k1;exact hk _ w F O _ ft (.s9 _ _ _) k1 k2
  ·have dQ:μ id < w.heap.size:=gh.hr.lt id (gh.hr.known _ _ hH);have h5:(n+m)*ti.size≤cs.size:=Nat.le_trans (Nat.mul_le_mul_right _ hle) DI;have xm:=tb (P:=P) (b:=μ id) (o:=0+n*ti.size) (t:=t') (flat ti.size m g) 0 w cs hc NF (by rw [gb];rw [Nat.add_mul] at h5;omega);have lH:(Builtin.append_ #[t,u] o.type #[.slice (some ⟨μ id,0,none⟩) n cap,.slice B m X_]).run P w=.ok (.slice (some ⟨μ id,0,none⟩) (n+m) cap) (jQ w (μ id) (.cells (s_ cs (n*ti.size) (flat ti.size m g)) t' (0,0))):=by
    simp only [Builtin.append_];simp [cb ht,gD hi,cb hu,Builtin.lenOf,hle,YT w rfl,wy];have:(storeCells ⟨μ id,n*ti.size,none⟩ (flat ti.size m g)).run P w=.ok () (jQ w (μ id) (.cells (s_ cs (n*ti.size) (flat ti.size m g)) t' (0,0))):=by simpa using xm
    rw [this];rfl
   rw [lH,Result.andThen_ok,Oper.upon_value];have hs1:n*ti.size+(flat ti.size m g).length≤cs.size:=by rw [gb];rw [Nat.add_mul] at h5;omega
   have gQ:s.H.live id:=⟨_,hH,hl⟩;have L3:id ∉ L:=hDL id (by simp);have afl:∀ i j,i < m→j < ti.size→∀ x,S2 i j x→¬ ft id x:=fun i j hi hj x hx lN=>by
    obtain ⟨Cv,q1,q2,q3,_⟩:=hg4 i j hi hj x hx;have:=gh.hr.dj Cv id q2 gQ x q3 lN;exact L3 (this▸q1)
   obtain ⟨S,T,hT,hTb,dq⟩:=Wt (b:=μ id) (b0:=μ id) (e':=e') (cs':=s_ cs (n*ti.size) (flat ti.size m g)) (.inr hB) Wa hg3 (fun _=>afl) (fun _ i j hi hj=>hB.nb i j hi hj)
    (fun i j hi hj hx=>afl i j hi hj _ hx (gh.hr.self id gQ)) (fun k hk=>by rw [uN _ _ _ hs1,if_neg (by omega)]) (fun i j hi hj=>by
     rw [uN _ _ _ hs1,gb];have h6:(i+1)*ti.size≤m*ti.size:=Nat.mul_le_mul_right _ hi;rw [Nat.add_mul,Nat.one_mul] at h6;rw [Nat.add_mul,if_pos (by omega),show n*ti.size+i*ti.size+j-n*ti.size=i*ti.size+j by omega];exact Ja hi hj) (by rw [jb];exact h5) Tu
   obtain ⟨O',bZ,k1,k2⟩:=X2 (L:=L) (S:=T) (b':=.row nl ti.size (n+m) e') gh.hr hN hH hl hc (v_ (jb _ _ _))
    (fun x hx=>by
     rcases hT x hx with h | ⟨_,h,_⟩ | ⟨i,j,hi,hj,h⟩
     ·exact ⟨id,.inl rfl,gQ,h▸gh.hr.self id gQ⟩
     ·exact ⟨id,.inl rfl,gQ,h⟩
     ·obtain ⟨Cv,q1,q2,q3,_⟩:=hg4 i j hi hj x h;exact ⟨Cv,.inr q1,q2,q3⟩) hTb ⟨_,t',S,rfl,dq⟩
   refine hk _ _ F O' _ bZ ?_ k1 k2;have rR:(jQ w (μ id) (.cells (s_ cs (n*ti.size) (flat ti.size m g)) t' (0,0))).shape? (Ic μ N (μ id) N)=some (t',cs.size):=by
    rw [gC];simp [World.shape?,xK dQ,jb]
   have:=Jb (v:=nl) (w:=jQ w (μ id) (.cells (s_ cs (n*ti.size) (flat ti.size m g)) t' (0,0))) (F:=F) (μ:=Ic μ N (μ id)) (K:=plus K [N]) (id:=N) (n:=n+m) (bA:=ti.size) (cap:=cap) (.inr (by simp)) hle rR DI (fun h=>by have:=JJ h;omega);rwa [gC] at this
 ·
  have hgt:n+m > cap:=Nat.lt_of_not_le hle;obtain ⟨Fm,cs0,b0,S1,T1,ho1,Y0,ac_,agT,hT1⟩:∃ (Fm cs0:Array Value) (b0:Nat) (S1:Nat→Nat→Nat→Prop) (T1:Nat→Prop),(∀ w',w'.heap=w.heap→(Builtin.firstCells ti.size n (.slice A n cap)).run P w'=.ok Fm w')∧Fm.size=n*ti.size∧
    (n=0∨Nw b0 cs0 ti.size n S1 T1 fun T i j v=>jP w F μ T (e i j) v)∧(∀ k,k < n*ti.size→Fm.getD k undef=cs0.getD k undef)∧(n≠0→∃ id,D=[id]∧s.H.live id∧T1=ft id):=by
   rcases hA with ⟨rfl,rfl,rfl⟩ | ⟨id,cs,t',S1,agU,rfl,hH,hl,hc,DI,JJ,hB⟩
   ·exact ⟨#[],#[],0,fun _ _ _=>False,fun _=>False,fun w' _=>by cases A<;>simp [Builtin.firstCells,loadCells,loadCellsFrom],by simp,.inl rfl,fun k hk=>by omega,fun h=>absurd rfl h⟩
   ·have h5:n*ti.size≤cs.size:=Nat.le_trans (Nat.mul_le_mul_right _ afk) DI;refine ⟨⟨flat ti.size n fun i j=>cs.getD (i*ti.size+j) undef⟩,cs,μ id,S1,ft id,fun w' X8=>yZ Ht (fun i j hi hj=>?_) _ _,by simp [gb],.inr hB,fun k hk=>?_,fun _=>⟨id,agU,⟨_,hH,hl⟩,rfl⟩⟩
    ·have h6:(i+1)*ti.size≤n*ti.size:=Nat.mul_le_mul_right _ hi;rw [Nat.add_mul,Nat.one_mul] at h6;have:i*ti.size+j < cs.size:=by omega
     simp [World.cell?,X8,hc,this]
    ·have hq:k / ti.size < n:=Nat.div_lt_of_lt_mul (by rw [Nat.mul_comm];exact hk);have hr2:k % ti.size < ti.size:=Nat.mod_lt _ (by omega);have:=Ja (u:=fun i j=>cs.getD (i*ti.size+j) undef) hq hr2;have e2:k / ti.size*ti.size+k % ti.size=k:=by rw [Nat.mul_comm];exact Nat.div_add_mod k ti.size
     rw [e2] at this;rw [← jG];exact this
  obtain ⟨nc,hnc⟩:∃ nc,nc=(Question.appendCap (n+m) cap et).cut (w.tape w.drawn (Question.appendCap (n+m) cap et)):=⟨_,rfl⟩;have afm:n+m≤nc:=by rw [hnc];exact Nat.le_add_right _ _
  obtain ⟨cs,DI⟩:∃ cs:Array Value,cs=Fm++(⟨flat ti.size m g⟩++Builtin.zeroCells z.cells (nc-(n+m))):=⟨_,rfl⟩;have lH:(Builtin.append_ #[t,u] o.type #[.slice A n cap,.slice B m X_]).run P w=.ok (.slice (some ⟨w.heap.size,0,none⟩) (n+m) nc) (({ w with drawn:=w.drawn+1 }:World).alloc (.cells cs et)):=by
   have hf:(Question.appendCap (n+m) cap et).forced=false:=rfl;simp only [Builtin.append_];simp [cb ht,gD hi,cb hu,Builtin.lenOf,hle,Me hi,c1,c2 hgt,hf,ho1 w.drew rfl,YT w.drew rfl,Rs hi hz,newRow,← hnc];rw [DI]
  rw [lH,Result.andThen_ok,Oper.upon_value];have hfl:(⟨flat ti.size m g⟩:Array Value).size=m*ti.size:=by simp [gb]
  have hx2:n≠0→∀ i j,i < m→j < ti.size→∀ x,S2 i j x→¬ T1 x:=fun hn i j hi hj x hx lN=>by
   obtain ⟨id,q0,gQ,q⟩:=hT1 hn;rw [q] at lN;obtain ⟨Cv,q1,q2,q3,_⟩:=hg4 i j hi hj x hx;have:=gh.hr.dj Cv id q2 gQ x q3 lN;exact hDL id (by simp [q0]) (this▸q1)
  obtain ⟨S,T,hT,hTb,dq⟩:=Wt (b:=w.heap.size) (b0:=b0) (e':=e') (cs':=cs) ac_ Wa hg3 hx2 (fun hn i j hi hj hx=>by
    obtain ⟨id,_,gQ,q⟩:=hT1 hn;have hB:=ac_.resolve_left hn;have h1:=(hB.all _).2 (.inr ⟨i,j,hi,hj,hx⟩);rw [q] at h1;have:=gh.hr.rT _ (gh.hr.own id gQ _ h1);omega) (fun i j hi hj hx=>by have:=hS2 i j hi hj _ hx;omega) (fun k hk=>by
    rw [DI,← agT k hk];have:k < Fm.size:=by omega
    simp [Array.getElem?_append,this]) (fun i j hi hj=>by
    rw [DI];have h6:(i+1)*ti.size≤m*ti.size:=Nat.mul_le_mul_right _ hi;rw [Nat.add_mul,Nat.one_mul] at h6;have h7:¬ (n+i)*ti.size+j < Fm.size:=by rw [Y0,Nat.add_mul];omega
    have h8:(n+i)*ti.size+j-Fm.size=i*ti.size+j:=by rw [Y0,Nat.add_mul];omega
    have h9:i*ti.size+j < (flat ti.size m g).length:=by rw [gb];omega
    have:=Ja (u:=g) hi hj;simp only [List.getD] at this;simp [Array.getElem?_append,h7,h8,h9];simpa [h9] using this) (by
    rw [DI];simp only [Array.size_append,hfl,Y0];rw [Nat.add_mul];omega) Tu
  have IC:HR ({ w with drawn:=w.drawn+1 }:World) F O μ K s.H ft:=gh.hr.drew _;obtain ⟨O',bZ,k1,k2⟩:=HL (w:={ w with drawn:=w.drawn+1 }) (L:=D++L) (S:=T) (o:=.cells cs et) (b:=.row nl ti.size (n+m) e') IC hN (fun x hx=>by
    rcases hT x hx with h | ⟨hn,h,_⟩ | ⟨i,j,hi,hj,h⟩
    ·exact .inl h
    ·obtain ⟨id,q0,q1,q2⟩:=hT1 hn;exact .inr ⟨id,by simp [q0],q1,q2▸h⟩
    ·obtain ⟨Cv,q1,q2,q3,_⟩:=hg4 i j hi hj x h;exact .inr ⟨Cv,by simp [q1],q2,q3⟩) hTb
   (ik.mono (w:=w) (F:=F) (μ:=μ) (K:=K) (o:=.cells cs et) (B:=.row nl ti.size (n+m) e') ⟨cs,et,S,rfl,dq⟩ (fun _ _=>rfl) (fun _ h=>h) (fun _ _=>rfl) (fun _ h=>h) (fun _ _=>rfl) fun _ _ _=>rfl)
  refine hk _ _ F O' _ bZ ?_ k1 ((Fr.drew _).trans k2);have fV:nc*ti.size≤cs.size:=by
   have Tt:(Builtin.zeroCells z.cells (nc-(n+m))).size=(nc-(n+m))*ti.size:=by
    rw [← hzs];simp [Builtin.zeroCells]
   rw [DI];simp only [Array.size_append,Tt,Y0];rw [hfl,← Nat.add_mul,← Nat.add_mul];exact Nat.mul_le_mul_right _ (by omega)
  have rR:(({ w with drawn:=w.drawn+1 }:World).alloc (.cells cs et)).shape? (Ic μ N w.heap.size N)=some (et,cs.size):=by
   rw [gC];have:=EH ({ w with drawn:=w.drawn+1 }:World) (.cells cs et);unfold World.shape?;rw [show w.heap.size=({ w with drawn:=w.drawn+1 }:World).heap.size from rfl,this]
  have:=Jb (v:=nl) (w:=({ w with drawn:=w.drawn+1 }:World).alloc (.cells cs et)) (F:=F) (μ:=Ic μ N w.heap.size) (K:=plus K [N]) (id:=N) (n:=n+m) (bA:=ti.size) (cap:=nc) (.inr (by simp)) afm rR fV (fun _=>by omega);rwa [gC] at this
theorem aee {o:Oper} {s:fT} {x y m:Operand} {t et:TypeId} {ti:TypeInfo} {v:Bool} {id n bA N:Nat} {k k':IntKind} {e:Nat→Nat→AV} (ho:o.op=.slice t x none (some y) (some m)) (hx:ee s x (du v id n bA)) (hH:s.H id=some (.row v bA n e))
  (ht:P.underlying t=some (.slice et)) (di:P.info? et=some ti) (hy:ee s y (.int k n)) (hm:ee s m (.int k' n)):dr P o s ⟨du true N n bA,(N,some (.row true bA n e))::gH [id],[N]⟩:=by
 intro w F O μ K ft a gh hn Kn Q hk;have hN:¬ K N:=hn N (by simp);have hv:=hx gh;have h1:=(hy gh).de;have h2:=(hm gh).de;generalize I4:a.eval x=u at hv;have key:∀ (ad:Option Addr) (cap:Nat),u=.slice ad n cap→n≤cap→(execOp a.eval o).run P w=.ok (.value (.slice (if n=0 then ad else ad.map (·.add (0*ti.size))) n n)) w:=fun ad cap hu hc=>by
  subst hu;simp only [execOp,ho,Option.map_none,Option.map_some,Sem.run_bind,yY ht,I4,Instr.slice,cb ht,Result.andThen_ok,Instr.sliceBounds];rw [xM (y:=cap) h2 (by omega) (by omega)];simp only [Result.andThen_ok,Sem.run_pure,Int.toNat_natCast];rw [xM (y:=n) h1 (by omega) (by omega)];simp only [Result.andThen_ok,Sem.run_pure,Int.toNat_natCast,gD di,Nat.sub_zero]
 unfold Oper.wp;rcases rQ hv with ⟨⟨a0,e1⟩,e2,e3⟩ | ⟨cap,sz,t',e1,e2,bY,e4,e5,e6⟩
 ·subst e2;rw [key a0 0 e1 (Nat.le_refl _),Oper.upon_value];obtain ⟨k1,k2⟩:=xL (bA:=bA) (e:=e) (gh.hr.aaf (EI s.H [id])) hN;exact hk _ w F O _ ft (.s9 _ _ _) k1 k2
 ·rw [key _ cap e1 e2,Oper.upon_value];by_cases h0:n=0
  ·subst h0;obtain ⟨k1,k2⟩:=xL (bA:=bA) (e:=e) (gh.hr.aaf (EI s.H [id])) hN;exact hk _ w F O _ ft (.s9 _ _ _) k1 k2
  ·have hl:(jV.row v bA n e).fc=true:=by
    cases v with
    | false=>rfl
    | true=>simpa [jV.fc] using h0
   have gQ:s.H.live id:=⟨_,hH,hl⟩;obtain ⟨ob,p_,hB⟩:=gh.hr.dC id _ hH hl;have NK:=gh.hr.self id gQ;have hO:=gh.hr.own id gQ _ NK;have hp:tp w w (μ id) ob:=⟨rfl,rfl,rfl,Nat.le_refl _,gh.hr.lt id bY,p_,fun _ _ _=>rfl,fun _ _=>rfl⟩;obtain ⟨k1,k2⟩:=EG (M:=N) (L:=[id]) (S:=ft id) (b:=.row true bA n e) gh.hr hp (.inl hO) (fun h=>absurd h hN) (fun x hx=>.inr ⟨id,.inr (by simp),gQ,hx⟩) NK
    (fun b9 h1 h2 h3 h4=>h3 (by have:=gh.hr.dj b9 id h1 gQ _ h4 NK;simp [this])) hB
   refine hk _ w F _ _ _ ?_ k1 k2;rw [if_neg h0];simp only [Option.map_some,wy,Nat.zero_mul,Nat.add_zero];have:=Jb (v:=true) (w:=w) (F:=F) (μ:=Ic μ N (μ id)) (K:=plus K [N]) (id:=N) (n:=n) (bA:=bA) (cap:=n) (sz:=sz) (t:=t') (.inr (by simp)) (Nat.le_refl _) (by rw [gC];exact e4) (Nat.le_trans (Nat.mul_le_mul_right _ e2) e5) (fun _=>h0);rwa [gC] at this
theorem abV {o:Oper} {s:fT} {x y:Operand} {t u et:TypeId} {ti:TypeInfo} {v:Bool} {id n:Nat} {e f:Nat→Nat→AV}
  (ho:o.op=.call ⟨.builtin .copy,#[x,y],#[t,u]⟩) (ht:P.underlying t=some (.slice et)) (hi:P.info? et=some ti) (Ht:ti.size≠0)
  (hx:ee s x (du v id n ti.size)) (hb:s.H id=some (.row v ti.size n e)) (hs:Src P s y ti.size n f []) (OU:∀ i j,i < n→j < ti.size→(f i j).Kw=false):
  dr P o s ⟨.int .i64 n,[(id,some (.row v ti.size n f))],[]⟩:=by
 intro w F O μ K ft a gh _ Kn Q hk;obtain ⟨B,X_,g,S2,hvy,YT,Wa,hg3,hg4⟩:=hs _ _ _ _ _ _ _ gh;unfold Oper.wp;rcases rQ (hx gh) with ⟨⟨a0,h1⟩,rfl,rfl⟩ | ⟨cap,sz,t',h1,h2,bY,h4,h5,h6⟩
 ·have lH:(execOp a.eval o).run P w=.ok (.value (.int .i64 0)) w:=by
   have e0:flat ti.size 0 g=[]:=by simp [flat]
   have:=YT w rfl;rw [e0] at this;cases a0<;>simp [execOp,ho,resolve,invoke,builtin,h1,hvy,Builtin.copy_,cb ht,gD hi,Builtin.lenOf,this,goInt,storeCells]
  rw [lH,Oper.upon_value];have e1:(jV.row true ti.size 0 f).fc=false:=rfl;have Vn:s.H.dh [(id,some (.row true ti.size 0 f))]=fun k=>if k=id then some (.row true ti.size 0 f) else s.H k:=rfl
  have gI:∀ k,(s.H.dh [(id,some (.row true ti.size 0 f))]).live k→k≠id∧s.H.live k:=by
   rintro k ⟨b,cl,hl⟩
   rw [Hp.Cs] at cl;split at cl
   ·cases cl;cases hl
   ·exact ⟨‹_›,b,cl,hl⟩
  refine hk _ w F O μ ft (.int _ _) ?_ (Fr.refl w F O μ K);rw [jE];refine { gh.hr with known:=?_,dC:=?_,self:=fun k hl=>gh.hr.self k (gI k hl).2,own:=fun k hl=>gh.hr.own k (gI k hl).2,dj:=fun k k' hl Ct=>gh.hr.dj k k' (gI k hl).2 (gI k' Ct).2 }
  ·intro k b cl;rw [Hp.Cs] at cl;split at cl
   ·rename_i e;subst e;exact gh.hr.known _ _ hb
   ·exact gh.hr.known _ _ cl
  ·intro k b cl hl;rw [Hp.Cs] at cl;split at cl
   ·cases cl;cases hl
   ·exact gh.hr.dC k b cl hl
 ·have hl:(jV.row v ti.size n e).fc=true:=by
   cases v with
   | false=>rfl
   | true=>simpa [jV.fc] using h6 rfl
  have gQ:s.H.live id:=⟨_,hb,hl⟩;obtain ⟨ob,p_,cs,t2,S1,rfl,hB⟩:=gh.hr.dC id _ hb hl;have DI:cap*ti.size≤cs.size:=by
   simp only [World.shape?,p_,Option.some.injEq,Prod.mk.injEq] at h4;rw [h4.2];exact h5
  have h5':n*ti.size≤cs.size:=Nat.le_trans (Nat.mul_le_mul_right _ h2) DI;have NF:∀ v,v∈flat ti.size n g→v.oneCell'=true:=by
   intro v hv;simp only [flat,List.mem_map,List.mem_range] at hv;obtain ⟨k,hk,rfl⟩:=hv;exact (Wa _ _ (Nat.div_lt_of_lt_mul (by rw [Nat.mul_comm];exact hk)) (Nat.mod_lt _ (by omega))).2
  have xm:=tb (P:=P) (b:=μ id) (o:=0) (t:=t2) (flat ti.size n g) 0 w cs p_ NF (by rw [gb];omega);have lH:(execOp a.eval o).run P w=.ok (.value (.int .i64 n)) (jQ w (μ id) (.cells (s_ cs 0 (flat ti.size n g)) t2 (0,0))):=by
   have:(storeCells ⟨μ id,0,none⟩ (flat ti.size n g)).run P w=.ok () (jQ w (μ id) (.cells (s_ cs 0 (flat ti.size n g)) t2 (0,0))):=by simpa using xm
   have h1:(Builtin.copy_ #[t,u] o.type #[.slice (some ⟨μ id,0,none⟩) n cap,.slice B n X_]).run P w=.ok (.int .i64 n) (jQ w (μ id) (.cells (s_ cs 0 (flat ti.size n g)) t2 (0,0))):=by
    simp only [Builtin.copy_];simp [cb ht,gD hi,Builtin.lenOf,YT w rfl];rw [this];rfl
   simp [execOp,ho,resolve,invoke,builtin, *]
  rw [lH,Oper.upon_value];have hs1:0+(flat ti.size n g).length≤cs.size:=by rw [gb];omega
  have NC:ik w F μ K (fun x=>x=μ id) (μ id) (.cells (s_ cs 0 (flat ti.size n g)) t2 (0,0)) (.row v ti.size n f):=by
   refine Rz (by rw [jb];exact h5') fun i j hi hj=>?_;have h6:(i+1)*ti.size≤n*ti.size:=Nat.mul_le_mul_right _ hi;rw [Nat.add_mul,Nat.one_mul] at h6;rw [uN _ _ _ hs1,gb,if_pos (by omega),Nat.sub_zero,Ja hi hj];refine ⟨?_,(Wa i j hi hj).2⟩;exact ((Wa i j hi hj).1.closed (OU i j hi hj)).1
  obtain ⟨O',bZ,k1,k2⟩:=mq (L:=[]) gh.hr hb hl p_ (v_ (jb _ _ _)) (by simp) (fun y (hy:y=μ id)=>⟨id,.inl rfl,gQ,hy▸gh.hr.self id gQ⟩) rfl NC;exact hk _ _ F O' μ bZ (.int _ _) (by rw [jE];exact k1) k2
end Go.Proofs.YtjkbbdldmdajkaaGreatDoor.c_
