/- append, copy: a row of the call's own grows, or is written from another. No condition. -/
import Derived.Test.YtjkbbdldmdajkaaGreatDoorVE
set_option linter.unusedSimpArgs false
set_option linter.unusedVariables false
namespace Go.Proofs.YtjkbbdldmdajkaaGreatDoor.c_
open Go Go.RowKit
variable {w w' xh:World} {F F' Bn O O' vW:Nat→Prop} {μ bD lF:Nat→Nat} {K K' EB:Nat→Prop} {H H' H'':Hp} {ft bY:Nat→Nat→Prop} {P:Program}
def flat (bA m:Nat) (u:Nat→Nat→Value):List Value:=(List.range (m*bA)).map fun k=>u (k / bA) (k % bA)
theorem I9 {bA m:Nat} {u:Nat→Nat→Value} {i j:Nat} (hi:i < m) (hj:j < bA):(flat bA m u).getD (i*bA+j) undef=u i j:=by
 have h2:(i+1)*bA≤m*bA:=Nat.mul_le_mul_right _ hi;rw [Nat.add_mul,Nat.one_mul] at h2;have h3:i*bA+j < m*bA:=by omega
 have h4:(i*bA+j) / bA=i:=by
  rw [Nat.add_comm,Nat.add_mul_div_right _ _ (by omega),Nat.div_eq_of_lt hj];omega
 simp [flat,List.getD,h3,h4,I5 hj]
theorem ga (bA m:Nat) (u:Nat→Nat→Value):(flat bA m u).length=m*bA:=by simp [flat]
theorem yW {bA m b o:Nat} {u:Nat→Nat→Value} (he:bA≠0) (h:∀ i j,i < m→j < bA→w.cell? ⟨b,o+i*bA+j,none⟩=some (u i j)) (cap:Nat) (L:Nat):
  (Builtin.firstCells bA m (.slice (some ⟨b,o,none⟩) L cap)).run P w=.ok ⟨flat bA m u⟩ w:=by
 simp only [Builtin.firstCells];rw [run_loadCells w _ _ (fun k=>u (k / bA) (k % bA)) fun k hk=>?_]
 ·rfl
 ·rw [wu];have h1:k / bA < m:=Nat.div_lt_of_lt_mul (by rw [Nat.mul_comm];exact hk);have h2:k % bA < bA:=Nat.mod_lt _ (by omega);have:=h (k / bA) (k % bA) h1 h2;rw [Nat.add_assoc] at this;have e:k / bA*bA+k % bA=k:=by rw [Nat.mul_comm];exact Nat.div_add_mod k bA
  rwa [e] at this
theorem X4 (Vj cap:Nat) (h:cap < Vj):Builtin.nextslicecap Vj cap≤2*Vj+768:=by
 unfold Builtin.nextslicecap;split
 ·omega
 ·split
  ·omega
  ·have:∀ (r c:Nat),c≤Vj→Builtin.growBy Vj r c≤2*Vj+768:=by
    intro r
    induction r with
    | zero=>intro c hc;simp only [Builtin.growBy];omega
    | succ r ih=>
     intro c hc;simp only [Builtin.growBy];split
     ·omega
     ·rename_i dT;by_cases h2:c+(c+768) / 4≤Vj
      ·exact ih _ h2
      ·cases r with
       | zero=>simp only [Builtin.growBy];omega
       | succ r=>
        simp only [Builtin.growBy];rw [if_pos (by omega)];omega
   exact this 4 cap (by omega)
def Src (P:Program) (s:fU) (y:Operand) (bA m:Nat) (f:Nat→Nat→AV) (L:List Nat):Prop:=
 ∀ w F O μ K ft act,SR w F O μ K s ft act→∃ (A:Option Addr) (cap:Nat) (g:Nat→Nat→Value) (S:Nat→Nat→Nat→Prop),act.eval y=.slice A m cap∧(∀ w',w'.heap=w.heap→(Builtin.firstCells bA m (.slice A m cap)).run P w'=.ok ⟨flat bA m g⟩ w')∧
  (∀ i j,i < m→j < bA→jP w F μ (S i j) (f i j) (g i j)∧(g i j).oneCell'=true)∧
  (∀ i j i' j',i < m→j < bA→i' < m→j' < bA→∀ x,S i j x→S i' j' x→i=i'∧j=j')∧
  ∀ i j,i < m→j < bA→∀ x,S i j x→∃ id,id∈L∧s.H.live id∧ft id x∧x≠μ id
theorem NI {s:fU} {y:Operand} {bA m:Nat} {f:Nat→Nat→AV} (Hn:bA≠0) (h:∀ {w F O μ K ft act},SR w F O μ K s ft act→∃ A cap,act.eval y=.slice A m cap∧(m=0∨∃ (b o:Nat) (u:Nat→Nat→Value),A=some ⟨b,o,none⟩∧
  ∀ i j,i < m→j < bA→w.cell? ⟨b,o+i*bA+j,none⟩=some (u i j)∧VR w F μ C8 (f i j) (u i j)∧(u i j).oneCell'=true)) (L:List Nat):Src P s y bA m f L:=by
 intro w F O μ K ft act hs;obtain ⟨A,cap,EK,hA⟩:=h hs;rcases hA with rfl | ⟨b,o,u,rfl,hu⟩
 ·refine ⟨A,cap,fun _ _=>undef,fun _ _ _=>False,EK,fun w' _=>?_,fun i j hi=>by omega,fun _ _ _ _ hi=>by omega,fun i j hi=>by omega⟩;have e0:flat bA 0 (fun _ _=>undef)=[]:=by simp [flat]
  rw [e0];cases A with
  | none=>simp [Builtin.firstCells]
  | some a=>simp [Builtin.firstCells,loadCells,loadCellsFrom]
 ·refine ⟨_,cap,u,fun _ _ _=>False,EK,fun w' X5=>yW Hn (fun i j hi hj=>?_) _ _,fun i j hi hj=>⟨.IW _ _ _ (hu i j hi hj).2.1 fun _ h=>h,(hu i j hi hj).2.2⟩,fun _ _ _ _ _ _ _ _ _ h=>h.elim,fun _ _ _ _ _ h=>h.elim⟩;have:=(hu i j hi hj).1;simp only [World.cell?] at this ⊢;rw [X5];exact this
theorem aal {s:fU} {y:Operand} {bA:Nat} (Hn:bA≠0) (hy:ee s y .fA) (f:Nat→Nat→AV):Src P s y bA 0 f []:=
 NI Hn (fun hs=>⟨none,0,(hy hs).qa,.inl rfl⟩) []
theorem ad_ {s:fU} {y:Operand} {bA m:Nat} {f:Nat→Nat→AV} (Hn:bA≠0) (hy:ee s y (.fs bA m f)):Src P s y bA m f []:=
 NI Hn (fun {w F O μ K ft act} hs=>by
  have h:=hy hs;generalize act.eval y=v at h;cases h with
  | fs _ _ _ b o cap u hF hc hu hv=>exact ⟨_,cap,rfl,.inr ⟨b,o,u,rfl,fun i j hi hj=>⟨(hu i j hi hj).1,hv i j hi hj,(hu i j hi hj).2⟩⟩⟩
  | vV _ _ a cap=>exact ⟨a,cap,rfl,.inl rfl⟩) []
theorem Wo {s:fU} {y:Operand} {v:Bool} {id bA m:Nat} {f:Nat→Nat→AV} (Hn:bA≠0) (hy:ee s y (du v id m bA)) (hb:s.H id=some (.row v bA m f)):Src P s y bA m f [id]:=by
 intro w F O μ K ft act hs;by_cases hm:m=0
 ·subst hm;have EK:∃ A cap,act.eval y=.slice A 0 cap:=by
   have h:=hy hs;generalize act.eval y=u at h;cases v<;>simp only [du] at h<;>cases h<;>exact ⟨_,_,rfl⟩
  obtain ⟨A,cap,EK⟩:=EK;refine ⟨A,cap,fun _ _=>undef,fun _ _ _=>False,EK,fun w' _=>?_,fun i j hi=>by omega,fun _ _ _ _ hi=>by omega,fun i j hi=>by omega⟩;have e0:flat bA 0 (fun _ _=>undef)=[]:=by simp [flat]
  rw [e0];cases A with
  | none=>simp [Builtin.firstCells]
  | some a=>simp [Builtin.firstCells,loadCells,loadCellsFrom]
 ·obtain ⟨cap,EK,afg,bZ⟩:=Tj (hy hs) hm;have hl:(jV.row v bA m f).fc=true:=by cases v<;>simp [jV.fc];exact hm
  have hU:s.H.live id:=⟨_,hb,hl⟩;obtain ⟨ob,p9,cs,t,S,rfl,hB⟩:=hs.hr.dC id _ hb hl;refine ⟨_,cap,fun i j=>cs.getD (i*bA+j) undef,S,EK,fun w' X5=>yW Hn (fun i j hi hj=>?_) _ _,hB.cell,hB.dj,fun i j hi hj x hx=>⟨id,by simp,hU,(hB.all x).2 (.inr ⟨i,j,hi,hj,hx⟩),fun e=>hB.nb i j hi hj (e▸hx)⟩⟩;have h6:(i+1)*bA≤m*bA:=Nat.mul_le_mul_right _ hi;rw [Nat.add_mul,Nat.one_mul] at h6;have fT:=hB.size;have:i*bA+j < cs.size:=by omega
  simp [World.cell?,X5,p9,this]
theorem abR {s:fU} {y:Operand} {v:Bool} {id bA m:Nat} {f:Nat→Nat→AV} (Hn:bA≠0) (hy:ee s y (du v id m bA)) (hb:s.H id=some (.row v bA m f)) (hc:∀ i j,i < m→j < bA→(f i j).Kv=false):Src P s y bA m f []:=by
 intro w F O μ K ft act hs;obtain ⟨A,cap,g,S,h1,h2,h3,h4,h5⟩:=Wo (P:=P) Hn hy hb w F O μ K ft act hs;exact ⟨A,cap,g,fun _ _ _=>False,h1,h2,fun i j hi hj=>⟨.IW _ _ _ ((h3 i j hi hj).1.closed (hc i j hi hj)).1 fun _ h=>h,(h3 i j hi hj).2⟩,fun _ _ _ _ _ _ _ _ _ h=>h.elim,fun _ _ _ _ _ h=>h.elim⟩
inductive Dst (s:fU) (x:Operand) (bA:Nat):Bool→Nat→(Nat→Nat→AV)→List Nat→Prop
 | fA (e:Nat→Nat→AV) (hx:ee s x .fA):Dst s x bA true 0 e []
 | own (v:Bool) (id n:Nat) (e:Nat→Nat→AV) (hx:ee s x (du v id n bA)) (hb:s.H id=some (.row v bA n e)):Dst s x bA v n e [id]
theorem rP {v:Bool} {id n bA:Nat} {u:Value} (hv:VR w F μ K (du v id n bA) u):
  ((∃ a,u=.slice a 0 0)∧n=0∧v=true)∨∃ cap sz t,u=.slice (some ⟨μ id,0,none⟩) n cap∧n≤cap∧K id∧w.shape? (μ id)=some (t,sz)∧cap*bA≤sz∧(v=true→n≠0):=by
 cases v with
 | false=>cases hv with | ms id i n bA cap sz t bZ hc hs fT=>exact .inr ⟨cap,sz,t,by simp,hc,bZ,hs,by simpa using fT,fun h=>by cases h⟩
 | true=>cases hv with
  | vs id n bA cap sz t hn bZ hc hs fT=>exact .inr ⟨cap,sz,t,rfl,hc,bZ,hs,fT,fun _=>hn⟩
  | s8 id bA a=>exact .inl ⟨⟨a,rfl⟩,rfl,rfl⟩
theorem I_ {v:Bool} {id n bA cap sz:Nat} {t:TypeId} (bZ:K id) (hc:n≤cap) (hs:w.shape? (μ id)=some (t,sz)) (fT:cap*bA≤sz) (hn:v=true→n≠0):VR w F μ K (du v id n bA) (.slice (some ⟨μ id,0,none⟩) n cap):=by
 cases v with
 | false=>
  have:=VR.ms (w:=w) (F:=F) (μ:=μ) (K:=K) id 0 n bA cap sz t bZ hc hs (by simpa using fT);simpa [du] using this
 | true=>exact .vs id n bA cap sz t (hn rfl) bZ hc hs fT
theorem Wp {b b0:Nat} {bA n m:Nat} {e f e':Nat→Nat→AV} {cs cs':Array Value} {g:Nat→Nat→Value} {S1 S2:Nat→Nat→Nat→Prop} {T1:Nat→Prop}
  (he:n=0∨Nv b0 cs bA n S1 T1 fun T i j v=>jP w F μ T (e i j) v)
  (hf:∀ i j,i < m→j < bA→jP w F μ (S2 i j) (f i j) (g i j)∧(g i j).oneCell'=true)
  (hd:∀ i j i' j',i < m→j < bA→i' < m→j' < bA→∀ x,S2 i j x→S2 i' j' x→i=i'∧j=j')
  (hx:n≠0→∀ i j,i < m→j < bA→∀ x,S2 i j x→¬ T1 x) (V4:n≠0→∀ i j,i < n→j < bA→¬ S1 i j b) (UG:∀ i j,i < m→j < bA→¬ S2 i j b)
  (h1:∀ k,k < n*bA→cs'.getD k undef=cs.getD k undef) (h2:∀ i j,i < m→j < bA→cs'.getD ((n+i)*bA+j) undef=g i j) (fT:(n+m)*bA≤cs'.size)
  (Tr:∀ i j,i < n+m→j < bA→e' i j=if i < n then e i j else f (i-n) j):
  ∃ S T,(∀ x,T x→x=b∨(n≠0∧T1 x∧x≠b0)∨∃ i j,i < m∧j < bA∧S2 i j x)∧T b∧Nv b cs' bA (n+m) S T fun T i j v=>jP w F μ T (e' i j) v:=by
 let S:Nat→Nat→Nat→Prop:=fun i j x=>(i < n∧S1 i j x)∨(n≤i∧S2 (i-n) j x)
 have row:∀ i,i < n→Nv b0 cs bA n S1 T1 fun T i j v=>jP w F μ T (e i j) v:=fun i hi=>he.resolve_left (by omega);refine ⟨S,fun x=>x=b∨∃ i j,i < n+m∧j < bA∧S i j x,?_,.inl rfl,{ size:=fT,cell:=fun i j hi hj=>?_,dj:=?_,nb:=?_,all:=fun _=>Iff.rfl }⟩
 ·rintro x (h | ⟨i,j,hi,hj,⟨h3,h4⟩ | ⟨h3,h4⟩⟩)
  ·exact .inl h
  ·exact .inr (.inl ⟨by omega,((row i h3).all x).2 (.inr ⟨i,j,h3,hj,h4⟩),fun e=>(row i h3).nb i j h3 hj (e▸h4)⟩)
  ·exact .inr (.inr ⟨i-n,j,by omega,hj,h4⟩)
 ·rw [Tr i j hi hj];by_cases h:i < n
  ·rw [if_pos h];have h3:(i+1)*bA≤n*bA:=Nat.mul_le_mul_right _ h;rw [Nat.add_mul,Nat.one_mul] at h3;rw [h1 _ (by omega)];have eS:S i j=S1 i j:=by
    funext x;simp only [S,eq_iff_iff];exact ⟨fun k=>k.elim (fun k=>k.2) fun k=>by omega,fun k=>.inl ⟨h,k⟩⟩
   rw [eS];exact (row i h).cell i j h hj
  ·rw [if_neg h];have:=h2 (i-n) j (by omega) hj;rw [show n+(i-n)=i by omega] at this;rw [this];have eS:S i j=S2 (i-n) j:=by
    funext x;simp only [S,eq_iff_iff];exact ⟨fun k=>k.elim (fun k=>absurd k.1 h) fun k=>k.2,fun k=>.inr ⟨by omega,k⟩⟩
   rw [eS];exact hf (i-n) j (by omega) hj
 ·rintro i j i' j' hi hj di mQ x (⟨h3,h4⟩ | ⟨h3,h4⟩) (⟨k3,k4⟩ | ⟨k3,k4⟩)
  ·exact (row i h3).dj i j i' j' h3 hj k3 mQ x h4 k4
  ·exact absurd (((row i h3).all x).2 (.inr ⟨i,j,h3,hj,h4⟩)) (hx (by omega) (i'-n) j' (by omega) mQ x k4)
  ·exact absurd (((row i' k3).all x).2 (.inr ⟨i',j',k3,mQ,k4⟩)) (hx (by omega) (i-n) j (by omega) hj x h4)
  ·obtain ⟨q1,q2⟩:=hd (i-n) j (i'-n) j' (by omega) hj (by omega) mQ x h4 k4;exact ⟨by omega,q2⟩
 ·rintro i j hi hj (⟨h3,h4⟩ | ⟨h3,h4⟩)
  ·exact V4 (by omega) i j h3 hj h4
  ·exact UG (i-n) j (by omega) hj h4
theorem X6 {o:Oper} {s:fU} {x y:Operand} {t u et:TypeId} {ti:TypeInfo} {nl:Bool} {n m:Nat} {e f e':Nat→Nat→AV} {D L:List Nat} {eu:TypeId} {z:Value} {N:Nat}
  (ho:o.op=.call ⟨.builtin .append,#[x,y],#[t,u]⟩) (ht:P.underlying t=some (.slice et)) (hu:P.underlying u=some (.slice eu)) (hi:P.info? et=some ti) (hz:ti.zero=some z) (Hn:ti.size≠0) (hzs:z.cells.size=ti.size)
  (hd:Dst s x ti.size nl n e D) (hs:Src P s y ti.size m f L) (hDL:∀ id,id∈D→id ∉ L) (hb:(n+m)*ti.bytes≤70368744177664) (UG:n+m≤70368744177664) (hb3:ti.bytes≤4294967296)
  (Tr:∀ i j,i < n+m→j < ti.size→e' i j=if i < n then e i j else f (i-n) j):
  dr P o s ⟨du nl N (n+m) ti.size,(N,some (.row nl ti.size (n+m) e'))::gF (D++L),[N]⟩:=by
 intro w F O μ K ft a gf hn Kn Q hk;have hN:¬ K N:=hn N (by simp);obtain ⟨B,X7,g,S2,hvy,YQ,V8,hg3,hg4⟩:=hs _ _ _ _ _ _ _ gf;have ND:∀ v,v∈flat ti.size m g→v.oneCell'=true:=by
  intro v hv;simp only [flat,List.mem_map,List.mem_range] at hv;obtain ⟨k,hk,rfl⟩:=hv;exact (V8 _ _ (Nat.div_lt_of_lt_mul (by rw [Nat.mul_comm];exact hk)) (Nat.mod_lt _ (by omega))).2
 have hS2:∀ i j,i < m→j < ti.size→∀ x,S2 i j x→x < w.heap.size:=fun i j hi hj x hx=>by
  obtain ⟨id,_,h2,h3,_⟩:=hg4 i j hi hj x hx;exact gf.hr.rR x (gf.hr.own id h2 x h3)
 obtain ⟨A,cap,hvx,afg,hA⟩:∃ A cap,a.eval x=.slice A n cap∧n≤cap∧((n=0∧cap=0∧nl=true)∨
   ∃ id cs t' S1,D=[id]∧A=some ⟨μ id,0,none⟩∧s.H id=some (.row nl ti.size n e)∧(jV.row nl ti.size n e).fc=true∧w.heap[μ id]?=some (.cells cs t' (0,0))∧cap*ti.size≤cs.size∧
    (nl=true→n≠0)∧Nv (μ id) cs ti.size n S1 (ft id) fun T i j v=>jP w F μ T (e i j) v):=by
  cases hd with
  | fA e hx=>exact ⟨none,0,(hx gf).qa,Nat.le_refl _,.inl ⟨rfl,rfl,rfl⟩⟩
  | own v id n e hx Y_=>
   rcases rP (hx gf) with ⟨⟨a0,h1⟩,h2,h3⟩ | ⟨cap,sz,t',h1,h2,bZ,h4,h5,h6⟩
   ·exact ⟨a0,0,h2▸h1,by omega,.inl ⟨h2,rfl,h3⟩⟩
   ·have hl:(jV.row nl ti.size n e).fc=true:=by
     cases nl with
     | false=>rfl
     | true=>simpa [jV.fc] using h6 rfl
    obtain ⟨ob,p9,cs,t2,S1,rfl,hB⟩:=gf.hr.dC id _ Y_ hl;refine ⟨_,cap,h1,h2,.inr ⟨id,cs,t2,S1,rfl,rfl,Y_,hl,p9,?_,h6,hB⟩⟩;simp only [World.shape?,p9,Option.some.injEq,Prod.mk.injEq] at h4;rw [h4.2];exact h5
 have aht:∀ id,s.H.live id→id≠N:=fun id hl e=>hN (e▸gf.hr.q9 hl);unfold Oper.wp;have pre:(execOp a.eval o).run P w=((Builtin.append_ #[t,u] o.type #[.slice A n cap,.slice B m X7]).run P w).andThen fun v w'=>.ok (.value v) w':=by
  simp [execOp,ho,resolve,invoke,builtin,hvx,hvy]
 have c1:¬ ((9223372036854775807:Int) < ↑n+↑m∧ti.bytes=0):=by intro h;omega
 have c2:n+m > cap→¬ 281474976710656 < Builtin.nextslicecap (n+m) cap*ti.bytes:=by
  intro hc;have h1:=Nat.mul_le_mul_right ti.bytes (X4 (n+m) cap hc);rw [Nat.add_mul,Nat.mul_assoc] at h1;omega
 rw [pre];by_cases hle:n+m≤cap
 ·rcases hA with ⟨rfl,rfl,rfl⟩ | ⟨id,cs,t',S1,rfl,rfl,hH,hl,hc,DD,JI,hB⟩
  ·
   obtain rfl:m=0:=by omega
   have lG:(Builtin.append_ #[t,u] o.type #[.slice A 0 0,.slice B 0 X7]).run P w=.ok (.slice A 0 0) w:=by
    have e0:flat ti.size 0 g=[]:=by simp [flat]
    have h0:=YQ w rfl;rw [e0] at h0;simp only [Builtin.append_];simp [cb ht,gB hi,cb hu,Builtin.lenOf,h0];cases A<;>simp [storeCells]
   rw [lG,Result.andThen_ok,Oper.upon_value];obtain ⟨k1,k2⟩:=xK (bA:=ti.size) (e:=e') (gf.hr.aab (EE s.H (D++L))) hN;have e1:(s.H.dh (gF (D++L))).dh [(N,some (.row true ti.size 0 e'))]=s.H.dh ((N,some (.row true ti.size (0+0) e'))::gF (D++L)):=by
    funext id;rfl
   rw [e1] at k1;exact hk _ w F O _ ft (.s8 _ _ _) k1 k2
  ·have dT:μ id < w.heap.size:=gf.hr.lt id (gf.hr.known _ _ hH);have h5:(n+m)*ti.size≤cs.size:=Nat.le_trans (Nat.mul_le_mul_right _ hle) DD;have xj:=s_ (P:=P) (b:=μ id) (o:=0+n*ti.size) (t:=t') (flat ti.size m g) 0 w cs hc ND (by rw [ga];rw [Nat.add_mul] at h5;omega);have lG:(Builtin.append_ #[t,u] o.type #[.slice (some ⟨μ id,0,none⟩) n cap,.slice B m X7]).run P w=.ok (.slice (some ⟨μ id,0,none⟩) (n+m) cap) (jQ w (μ id) (.cells (s9 cs (n*ti.size) (flat ti.size m g)) t' (0,0))):=by
    simp only [Builtin.append_];simp [cb ht,gB hi,cb hu,Builtin.lenOf,hle,YQ w rfl,wu];have:(storeCells ⟨μ id,n*ti.size,none⟩ (flat ti.size m g)).run P w=.ok () (jQ w (μ id) (.cells (s9 cs (n*ti.size) (flat ti.size m g)) t' (0,0))):=by simpa using xj
    rw [this];rfl
   rw [lG,Result.andThen_ok,Oper.upon_value];have hs1:n*ti.size+(flat ti.size m g).length≤cs.size:=by rw [ga];rw [Nat.add_mul] at h5;omega
   have hU:s.H.live id:=⟨_,hH,hl⟩;have L2:id ∉ L:=hDL id (by simp);have afh:∀ i j,i < m→j < ti.size→∀ x,S2 i j x→¬ ft id x:=fun i j hi hj x hx lM=>by
    obtain ⟨Cu,q1,q2,q3,_⟩:=hg4 i j hi hj x hx;have:=gf.hr.dj Cu id q2 hU x q3 lM;exact L2 (this▸q1)
   obtain ⟨S,T,hT,hTb,dq⟩:=Wp (b:=μ id) (b0:=μ id) (e':=e') (cs':=s9 cs (n*ti.size) (flat ti.size m g)) (.inr hB) V8 hg3 (fun _=>afh) (fun _ i j hi hj=>hB.nb i j hi hj)
    (fun i j hi hj hx=>afh i j hi hj _ hx (gf.hr.self id hU)) (fun k hk=>by rw [uK _ _ _ hs1,if_neg (by omega)]) (fun i j hi hj=>by
     rw [uK _ _ _ hs1,ga];have h6:(i+1)*ti.size≤m*ti.size:=Nat.mul_le_mul_right _ hi;rw [Nat.add_mul,Nat.one_mul] at h6;rw [Nat.add_mul,if_pos (by omega),show n*ti.size+i*ti.size+j-n*ti.size=i*ti.size+j by omega];exact I9 hi hj) (by rw [jb];exact h5) Tr
   obtain ⟨O',bY,k1,k2⟩:=XY (L:=L) (S:=T) (b':=.row nl ti.size (n+m) e') gf.hr hN hH hl hc (vY (jb _ _ _))
    (fun x hx=>by
     rcases hT x hx with h | ⟨_,h,_⟩ | ⟨i,j,hi,hj,h⟩
     ·exact ⟨id,.inl rfl,hU,h▸gf.hr.self id hU⟩
     ·exact ⟨id,.inl rfl,hU,h⟩
     ·obtain ⟨Cu,q1,q2,q3,_⟩:=hg4 i j hi hj x h;exact ⟨Cu,.inr q1,q2,q3⟩) hTb ⟨_,t',S,rfl,dq⟩
   refine hk _ _ F O' _ bY ?_ k1 k2;have sZ:(jQ w (μ id) (.cells (s9 cs (n*ti.size) (flat ti.size m g)) t' (0,0))).shape? (Ia μ N (μ id) N)=some (t',cs.size):=by
    rw [gA];simp [World.shape?,xJ dT,jb]
   have:=I_ (v:=nl) (w:=jQ w (μ id) (.cells (s9 cs (n*ti.size) (flat ti.size m g)) t' (0,0))) (F:=F) (μ:=Ia μ N (μ id)) (K:=plus K [N]) (id:=N) (n:=n+m) (bA:=ti.size) (cap:=cap) (.inr (by simp)) hle sZ DD (fun h=>by have:=JI h;omega);rwa [gA] at this
 ·
  have hgt:n+m > cap:=Nat.lt_of_not_le hle;obtain ⟨Ff,cs0,b0,S1,T1,ho1,YX,ac7,agP,hT1⟩:∃ (Ff cs0:Array Value) (b0:Nat) (S1:Nat→Nat→Nat→Prop) (T1:Nat→Prop),(∀ w',w'.heap=w.heap→(Builtin.firstCells ti.size n (.slice A n cap)).run P w'=.ok Ff w')∧Ff.size=n*ti.size∧
    (n=0∨Nv b0 cs0 ti.size n S1 T1 fun T i j v=>jP w F μ T (e i j) v)∧(∀ k,k < n*ti.size→Ff.getD k undef=cs0.getD k undef)∧(n≠0→∃ id,D=[id]∧s.H.live id∧T1=ft id):=by
   rcases hA with ⟨rfl,rfl,rfl⟩ | ⟨id,cs,t',S1,agQ,rfl,hH,hl,hc,DD,JI,hB⟩
   ·exact ⟨#[],#[],0,fun _ _ _=>False,fun _=>False,fun w' _=>by cases A<;>simp [Builtin.firstCells,loadCells,loadCellsFrom],by simp,.inl rfl,fun k hk=>by omega,fun h=>absurd rfl h⟩
   ·have h5:n*ti.size≤cs.size:=Nat.le_trans (Nat.mul_le_mul_right _ afg) DD;refine ⟨⟨flat ti.size n fun i j=>cs.getD (i*ti.size+j) undef⟩,cs,μ id,S1,ft id,fun w' X5=>yW Hn (fun i j hi hj=>?_) _ _,by simp [ga],.inr hB,fun k hk=>?_,fun _=>⟨id,agQ,⟨_,hH,hl⟩,rfl⟩⟩
    ·have h6:(i+1)*ti.size≤n*ti.size:=Nat.mul_le_mul_right _ hi;rw [Nat.add_mul,Nat.one_mul] at h6;have:i*ti.size+j < cs.size:=by omega
     simp [World.cell?,X5,hc,this]
    ·have hq:k / ti.size < n:=Nat.div_lt_of_lt_mul (by rw [Nat.mul_comm];exact hk);have hr2:k % ti.size < ti.size:=Nat.mod_lt _ (by omega);have:=I9 (u:=fun i j=>cs.getD (i*ti.size+j) undef) hq hr2;have e2:k / ti.size*ti.size+k % ti.size=k:=by rw [Nat.mul_comm];exact Nat.div_add_mod k ti.size
     rw [e2] at this;rw [← jG];exact this
  obtain ⟨nc,hnc⟩:∃ nc,nc=(Question.appendCap (n+m) cap et).cut (w.tape w.drawn (Question.appendCap (n+m) cap et)):=⟨_,rfl⟩;have afi:n+m≤nc:=by rw [hnc];exact Nat.le_add_right _ _
  obtain ⟨cs,DD⟩:∃ cs:Array Value,cs=Ff++(⟨flat ti.size m g⟩++Builtin.zeroCells z.cells (nc-(n+m))):=⟨_,rfl⟩;have lG:(Builtin.append_ #[t,u] o.type #[.slice A n cap,.slice B m X7]).run P w=.ok (.slice (some ⟨w.heap.size,0,none⟩) (n+m) nc) (({ w with drawn:=w.drawn+1 }:World).alloc (.cells cs et)):=by
   have hf:(Question.appendCap (n+m) cap et).forced=false:=rfl;simp only [Builtin.append_];simp [cb ht,gB hi,cb hu,Builtin.lenOf,hle,Md hi,c1,c2 hgt,hf,ho1 w.drew rfl,YQ w.drew rfl,Rp hi hz,newRow,← hnc];rw [DD]
  rw [lG,Result.andThen_ok,Oper.upon_value];have hfl:(⟨flat ti.size m g⟩:Array Value).size=m*ti.size:=by simp [ga]
  have hx2:n≠0→∀ i j,i < m→j < ti.size→∀ x,S2 i j x→¬ T1 x:=fun hn i j hi hj x hx lM=>by
   obtain ⟨id,q0,hU,q⟩:=hT1 hn;rw [q] at lM;obtain ⟨Cu,q1,q2,q3,_⟩:=hg4 i j hi hj x hx;have:=gf.hr.dj Cu id q2 hU x q3 lM;exact hDL id (by simp [q0]) (this▸q1)
  obtain ⟨S,T,hT,hTb,dq⟩:=Wp (b:=w.heap.size) (b0:=b0) (e':=e') (cs':=cs) ac7 V8 hg3 hx2 (fun hn i j hi hj hx=>by
    obtain ⟨id,_,hU,q⟩:=hT1 hn;have hB:=ac7.resolve_left hn;have h1:=(hB.all _).2 (.inr ⟨i,j,hi,hj,hx⟩);rw [q] at h1;have:=gf.hr.rR _ (gf.hr.own id hU _ h1);omega) (fun i j hi hj hx=>by have:=hS2 i j hi hj _ hx;omega) (fun k hk=>by
    rw [DD,← agP k hk];have:k < Ff.size:=by omega
    simp [Array.getElem?_append,this]) (fun i j hi hj=>by
    rw [DD];have h6:(i+1)*ti.size≤m*ti.size:=Nat.mul_le_mul_right _ hi;rw [Nat.add_mul,Nat.one_mul] at h6;have h7:¬ (n+i)*ti.size+j < Ff.size:=by rw [YX,Nat.add_mul];omega
    have h8:(n+i)*ti.size+j-Ff.size=i*ti.size+j:=by rw [YX,Nat.add_mul];omega
    have h9:i*ti.size+j < (flat ti.size m g).length:=by rw [ga];omega
    have:=I9 (u:=g) hi hj;simp only [List.getD] at this;simp [Array.getElem?_append,h7,h8,h9];simpa [h9] using this) (by
    rw [DD];simp only [Array.size_append,hfl,YX];rw [Nat.add_mul];omega) Tr
  have IA:HR ({ w with drawn:=w.drawn+1 }:World) F O μ K s.H ft:=gf.hr.drew _;obtain ⟨O',bY,k1,k2⟩:=HG (w:={ w with drawn:=w.drawn+1 }) (L:=D++L) (S:=T) (o:=.cells cs et) (b:=.row nl ti.size (n+m) e') IA hN (fun x hx=>by
    rcases hT x hx with h | ⟨hn,h,_⟩ | ⟨i,j,hi,hj,h⟩
    ·exact .inl h
    ·obtain ⟨id,q0,q1,q2⟩:=hT1 hn;exact .inr ⟨id,by simp [q0],q1,q2▸h⟩
    ·obtain ⟨Cu,q1,q2,q3,_⟩:=hg4 i j hi hj x h;exact .inr ⟨Cu,by simp [q1],q2,q3⟩) hTb
   (ij.mono (w:=w) (F:=F) (μ:=μ) (K:=K) (o:=.cells cs et) (B:=.row nl ti.size (n+m) e') ⟨cs,et,S,rfl,dq⟩ (fun _ _=>rfl) (fun _ h=>h) (fun _ _=>rfl) (fun _ h=>h) (fun _ _=>rfl) fun _ _ _=>rfl)
  refine hk _ _ F O' _ bY ?_ k1 ((Fr.drew _).trans k2);have fT:nc*ti.size≤cs.size:=by
   have Tq:(Builtin.zeroCells z.cells (nc-(n+m))).size=(nc-(n+m))*ti.size:=by
    rw [← hzs];simp [Builtin.zeroCells]
   rw [DD];simp only [Array.size_append,Tq,YX];rw [hfl,← Nat.add_mul,← Nat.add_mul];exact Nat.mul_le_mul_right _ (by omega)
  have sZ:(({ w with drawn:=w.drawn+1 }:World).alloc (.cells cs et)).shape? (Ia μ N w.heap.size N)=some (et,cs.size):=by
   rw [gA];have:=ED ({ w with drawn:=w.drawn+1 }:World) (.cells cs et);unfold World.shape?;rw [show w.heap.size=({ w with drawn:=w.drawn+1 }:World).heap.size from rfl,this]
  have:=I_ (v:=nl) (w:=({ w with drawn:=w.drawn+1 }:World).alloc (.cells cs et)) (F:=F) (μ:=Ia μ N w.heap.size) (K:=plus K [N]) (id:=N) (n:=n+m) (bA:=ti.size) (cap:=nc) (.inr (by simp)) afi sZ fT (fun _=>by omega);rwa [gA] at this
theorem aea {o:Oper} {s:fU} {x y m:Operand} {t et:TypeId} {ti:TypeInfo} {v:Bool} {id n bA N:Nat} {k k':IntKind} {e:Nat→Nat→AV} (ho:o.op=.slice t x none (some y) (some m)) (hx:ee s x (du v id n bA)) (hH:s.H id=some (.row v bA n e))
  (ht:P.underlying t=some (.slice et)) (di:P.info? et=some ti) (hy:ee s y (.int k n)) (hm:ee s m (.int k' n)):dr P o s ⟨du true N n bA,(N,some (.row true bA n e))::gF [id],[N]⟩:=by
 intro w F O μ K ft a gf hn Kn Q hk;have hN:¬ K N:=hn N (by simp);have hv:=hx gf;have h1:=(hy gf).dd;have h2:=(hm gf).dd;generalize I2:a.eval x=u at hv;have key:∀ (ad:Option Addr) (cap:Nat),u=.slice ad n cap→n≤cap→(execOp a.eval o).run P w=.ok (.value (.slice (if n=0 then ad else ad.map (·.add (0*ti.size))) n n)) w:=fun ad cap hu hc=>by
  subst hu;simp only [execOp,ho,Option.map_none,Option.map_some,Sem.run_bind,yV ht,I2,Instr.slice,cb ht,Result.andThen_ok,Instr.sliceBounds];rw [xL (y:=cap) h2 (by omega) (by omega)];simp only [Result.andThen_ok,Sem.run_pure,Int.toNat_natCast];rw [xL (y:=n) h1 (by omega) (by omega)];simp only [Result.andThen_ok,Sem.run_pure,Int.toNat_natCast,gB di,Nat.sub_zero]
 unfold Oper.wp;rcases rP hv with ⟨⟨a0,e1⟩,e2,e3⟩ | ⟨cap,sz,t',e1,e2,bZ,e4,e5,e6⟩
 ·subst e2;rw [key a0 0 e1 (Nat.le_refl _),Oper.upon_value];obtain ⟨k1,k2⟩:=xK (bA:=bA) (e:=e) (gf.hr.aab (EE s.H [id])) hN;exact hk _ w F O _ ft (.s8 _ _ _) k1 k2
 ·rw [key _ cap e1 e2,Oper.upon_value];by_cases h0:n=0
  ·subst h0;obtain ⟨k1,k2⟩:=xK (bA:=bA) (e:=e) (gf.hr.aab (EE s.H [id])) hN;exact hk _ w F O _ ft (.s8 _ _ _) k1 k2
  ·have hl:(jV.row v bA n e).fc=true:=by
    cases v with
    | false=>rfl
    | true=>simpa [jV.fc] using h0
   have hU:s.H.live id:=⟨_,hH,hl⟩;obtain ⟨ob,p9,hB⟩:=gf.hr.dC id _ hH hl;have NJ:=gf.hr.self id hU;have hO:=gf.hr.own id hU _ NJ;have hp:tl w w (μ id) ob:=⟨rfl,rfl,rfl,Nat.le_refl _,gf.hr.lt id bZ,p9,fun _ _ _=>rfl,fun _ _=>rfl⟩;obtain ⟨k1,k2⟩:=EC (M:=N) (L:=[id]) (S:=ft id) (b:=.row true bA n e) gf.hr hp (.inl hO) (fun h=>absurd h hN) (fun x hx=>.inr ⟨id,.inr (by simp),hU,hx⟩) NJ
    (fun b9 h1 h2 h3 h4=>h3 (by have:=gf.hr.dj b9 id h1 hU _ h4 NJ;simp [this])) hB
   refine hk _ w F _ _ _ ?_ k1 k2;rw [if_neg h0];simp only [Option.map_some,wu,Nat.zero_mul,Nat.add_zero];have:=I_ (v:=true) (w:=w) (F:=F) (μ:=Ia μ N (μ id)) (K:=plus K [N]) (id:=N) (n:=n) (bA:=bA) (cap:=n) (sz:=sz) (t:=t') (.inr (by simp)) (Nat.le_refl _) (by rw [gA];exact e4) (Nat.le_trans (Nat.mul_le_mul_right _ e2) e5) (fun _=>h0);rwa [gA] at this
theorem abS {o:Oper} {s:fU} {x y:Operand} {t u et:TypeId} {ti:TypeInfo} {v:Bool} {id n:Nat} {e f:Nat→Nat→AV}
  (ho:o.op=.call ⟨.builtin .copy,#[x,y],#[t,u]⟩) (ht:P.underlying t=some (.slice et)) (hi:P.info? et=some ti) (Hn:ti.size≠0)
  (hx:ee s x (du v id n ti.size)) (hb:s.H id=some (.row v ti.size n e)) (hs:Src P s y ti.size n f []) (OS:∀ i j,i < n→j < ti.size→(f i j).Kv=false):
  dr P o s ⟨.int .i64 n,[(id,some (.row v ti.size n f))],[]⟩:=by
 intro w F O μ K ft a gf _ Kn Q hk;obtain ⟨B,X7,g,S2,hvy,YQ,V8,hg3,hg4⟩:=hs _ _ _ _ _ _ _ gf;unfold Oper.wp;rcases rP (hx gf) with ⟨⟨a0,h1⟩,rfl,rfl⟩ | ⟨cap,sz,t',h1,h2,bZ,h4,h5,h6⟩
 ·have lG:(execOp a.eval o).run P w=.ok (.value (.int .i64 0)) w:=by
   have e0:flat ti.size 0 g=[]:=by simp [flat]
   have:=YQ w rfl;rw [e0] at this;cases a0<;>simp [execOp,ho,resolve,invoke,builtin,h1,hvy,Builtin.copy_,cb ht,gB hi,Builtin.lenOf,this,goInt,storeCells]
  rw [lG,Oper.upon_value];have e1:(jV.row true ti.size 0 f).fc=false:=rfl;have Vk:s.H.dh [(id,some (.row true ti.size 0 f))]=fun k=>if k=id then some (.row true ti.size 0 f) else s.H k:=rfl
  have gG:∀ k,(s.H.dh [(id,some (.row true ti.size 0 f))]).live k→k≠id∧s.H.live k:=by
   rintro k ⟨b,cl,hl⟩
   rw [Hp.Cr] at cl;split at cl
   ·cases cl;cases hl
   ·exact ⟨‹_›,b,cl,hl⟩
  refine hk _ w F O μ ft (.int _ _) ?_ (Fr.refl w F O μ K);rw [jE];refine { gf.hr with known:=?_,dC:=?_,self:=fun k hl=>gf.hr.self k (gG k hl).2,own:=fun k hl=>gf.hr.own k (gG k hl).2,dj:=fun k k' hl Cs=>gf.hr.dj k k' (gG k hl).2 (gG k' Cs).2 }
  ·intro k b cl;rw [Hp.Cr] at cl;split at cl
   ·rename_i e;subst e;exact gf.hr.known _ _ hb
   ·exact gf.hr.known _ _ cl
  ·intro k b cl hl;rw [Hp.Cr] at cl;split at cl
   ·cases cl;cases hl
   ·exact gf.hr.dC k b cl hl
 ·have hl:(jV.row v ti.size n e).fc=true:=by
   cases v with
   | false=>rfl
   | true=>simpa [jV.fc] using h6 rfl
  have hU:s.H.live id:=⟨_,hb,hl⟩;obtain ⟨ob,p9,cs,t2,S1,rfl,hB⟩:=gf.hr.dC id _ hb hl;have DD:cap*ti.size≤cs.size:=by
   simp only [World.shape?,p9,Option.some.injEq,Prod.mk.injEq] at h4;rw [h4.2];exact h5
  have h5':n*ti.size≤cs.size:=Nat.le_trans (Nat.mul_le_mul_right _ h2) DD;have ND:∀ v,v∈flat ti.size n g→v.oneCell'=true:=by
   intro v hv;simp only [flat,List.mem_map,List.mem_range] at hv;obtain ⟨k,hk,rfl⟩:=hv;exact (V8 _ _ (Nat.div_lt_of_lt_mul (by rw [Nat.mul_comm];exact hk)) (Nat.mod_lt _ (by omega))).2
  have xj:=s_ (P:=P) (b:=μ id) (o:=0) (t:=t2) (flat ti.size n g) 0 w cs p9 ND (by rw [ga];omega);have lG:(execOp a.eval o).run P w=.ok (.value (.int .i64 n)) (jQ w (μ id) (.cells (s9 cs 0 (flat ti.size n g)) t2 (0,0))):=by
   have:(storeCells ⟨μ id,0,none⟩ (flat ti.size n g)).run P w=.ok () (jQ w (μ id) (.cells (s9 cs 0 (flat ti.size n g)) t2 (0,0))):=by simpa using xj
   have h1:(Builtin.copy_ #[t,u] o.type #[.slice (some ⟨μ id,0,none⟩) n cap,.slice B n X7]).run P w=.ok (.int .i64 n) (jQ w (μ id) (.cells (s9 cs 0 (flat ti.size n g)) t2 (0,0))):=by
    simp only [Builtin.copy_];simp [cb ht,gB hi,Builtin.lenOf,YQ w rfl];rw [this];rfl
   simp [execOp,ho,resolve,invoke,builtin, *]
  rw [lG,Oper.upon_value];have hs1:0+(flat ti.size n g).length≤cs.size:=by rw [ga];omega
  have NB:ij w F μ K (fun x=>x=μ id) (μ id) (.cells (s9 cs 0 (flat ti.size n g)) t2 (0,0)) (.row v ti.size n f):=by
   refine Rx (by rw [jb];exact h5') fun i j hi hj=>?_;have h6:(i+1)*ti.size≤n*ti.size:=Nat.mul_le_mul_right _ hi;rw [Nat.add_mul,Nat.one_mul] at h6;rw [uK _ _ _ hs1,ga,if_pos (by omega),Nat.sub_zero,I9 hi hj];refine ⟨?_,(V8 i j hi hj).2⟩;exact ((V8 i j hi hj).1.closed (OS i j hi hj)).1
  obtain ⟨O',bY,k1,k2⟩:=mo (L:=[]) gf.hr hb hl p9 (vY (jb _ _ _)) (by simp) (fun y (hy:y=μ id)=>⟨id,.inl rfl,hU,hy▸gf.hr.self id hU⟩) rfl NB;exact hk _ _ F O' μ bY (.int _ _) (by rw [jE];exact k1) k2
end Go.Proofs.YtjkbbdldmdajkaaGreatDoor.c_
