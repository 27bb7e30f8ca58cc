/- append, copy: a row of the call's own grows, or is written from another. No condition. -/
import Derived.Test.YtjkbbdldmdajkaaGreatDoorVE
set_option linter.unusedSimpArgs false
set_option linter.unusedVariables false
namespace Go.Proofs.YtjkbbdldmdajkaaGreatDoor.c5
open Go Go.RowKit
variable {w w' ss:World} {F F' zT O O' uo:Nat→Prop} {μ aZ jE:Nat→Nat} {K K' C9:Nat→Prop} {H H' H'':Hp} {ft bX:Nat→Nat→Prop} {P:Program}
def flat (bB m:Nat) (u:Nat→Nat→Value):List Value:=(List.range (m*bB)).map fun k=>u (k / bB) (k % bB)
theorem ID {bB m:Nat} {u:Nat→Nat→Value} {i j:Nat} (hi:i < m) (hj:j < bB):(flat bB m u).getD (i*bB+j) undef=u i j:=by
 have h2:(i+1)*bB≤m*bB:=Nat.mul_le_mul_right _ hi;rw [Nat.add_mul,Nat.one_mul] at h2;have h3:i*bB+j < m*bB:=by omega
 have h4:(i*bB+j) / bB=i:=by
  rw [Nat.add_comm,Nat.add_mul_div_right _ _ (by omega),Nat.div_eq_of_lt hj];omega
 simp [flat,List.getD,h3,h4,Iz hj]
theorem fR (bB m:Nat) (u:Nat→Nat→Value):(flat bB m u).length=m*bB:=by simp [flat]
theorem ya {bB m b o:Nat} {u:Nat→Nat→Value} (he:bB≠0) (h:∀ i j,i < m→j < bB→w.cell? ⟨b,o+i*bB+j,none⟩=some (u i j)) (cap:Nat) (L:Nat):
  (Builtin.firstCells bB m (.slice (some ⟨b,o,none⟩) L cap)).run P w=.ok ⟨flat bB m u⟩ w:=by
 simp only [Builtin.firstCells];rw [run_loadCells w _ _ (fun k=>u (k / bB) (k % bB)) fun k hk=>?_]
 ·rfl
 ·rw [vo];have h1:k / bB < m:=Nat.div_lt_of_lt_mul (by rw [Nat.mul_comm];exact hk);have h2:k % bB < bB:=Nat.mod_lt _ (by omega);have:=h (k / bB) (k % bB) h1 h2;rw [Nat.add_assoc] at this;have e:k / bB*bB+k % bB=k:=by rw [Nat.mul_comm];exact Nat.div_add_mod k bB
  rwa [e] at this
theorem XJ (UT cap:Nat) (h:cap < UT):Builtin.nextslicecap UT cap≤2*UT+768:=by
 unfold Builtin.nextslicecap;split
 ·omega
 ·split
  ·omega
  ·have:∀ (r c:Nat),c≤UT→Builtin.growBy UT r c≤2*UT+768:=by
    intro r
    induction r with
    | zero=>intro c hc;simp only [Builtin.growBy];omega
    | succ r ih=>
     intro c hc;simp only [Builtin.growBy];split
     ·omega
     ·rename_i dY;by_cases h2:c+(c+768) / 4≤UT
      ·exact ih _ h2
      ·cases r with
       | zero=>simp only [Builtin.growBy];omega
       | succ r=>
        simp only [Builtin.growBy];rw [if_pos (by omega)];omega
   exact this 4 cap (by omega)
def Src (P:Program) (s:fG) (y:Operand) (bB m:Nat) (f:Nat→Nat→AV) (L:List Nat):Prop:=
 ∀ w F O μ K ft act,SR w F O μ K s ft act→∃ (A:Option Addr) (cap:Nat) (g:Nat→Nat→Value) (S:Nat→Nat→Nat→Prop),act.eval y=.slice A m cap∧(∀ w',w'.heap=w.heap→(Builtin.firstCells bB m (.slice A m cap)).run P w'=.ok ⟨flat bB m g⟩ w')∧
  (∀ i j,i < m→j < bB→jy w F μ (S i j) (f i j) (g i j)∧(g i j).oneCell'=true)∧
  (∀ i j i' j',i < m→j < bB→i' < m→j' < bB→∀ x,S i j x→S i' j' x→i=i'∧j=j')∧
  ∀ i j,i < m→j < bB→∀ x,S i j x→∃ id,id∈L∧s.H.live id∧ft id x∧x≠μ id
theorem M_ {s:fG} {y:Operand} {bB m:Nat} {f:Nat→Nat→AV} (GN:bB≠0) (h:∀ {w F O μ K ft act},SR w F O μ K s ft act→∃ A cap,act.eval y=.slice A m cap∧(m=0∨∃ (b o:Nat) (u:Nat→Nat→Value),A=some ⟨b,o,none⟩∧
  ∀ i j,i < m→j < bB→w.cell? ⟨b,o+i*bB+j,none⟩=some (u i j)∧VR w F μ Cv (f i j) (u i j)∧(u i j).oneCell'=true)) (L:List Nat):Src P s y bB m f L:=by
 intro w F O μ K ft act hs;obtain ⟨A,cap,Ea,hA⟩:=h hs;rcases hA with rfl | ⟨b,o,u,rfl,hu⟩
 ·refine ⟨A,cap,fun _ _=>undef,fun _ _ _=>False,Ea,fun w' _=>?_,fun i j hi=>by omega,fun _ _ _ _ hi=>by omega,fun i j hi=>by omega⟩;have e0:flat bB 0 (fun _ _=>undef)=[]:=by simp [flat]
  rw [e0];cases A with
  | none=>simp [Builtin.firstCells]
  | some a=>simp [Builtin.firstCells,loadCells,loadCellsFrom]
 ·refine ⟨_,cap,u,fun _ _ _=>False,Ea,fun w' XK=>ya GN (fun i j hi hj=>?_) _ _,fun i j hi hj=>⟨.Ip _ _ _ (hu i j hi hj).2.1 fun _ h=>h,(hu i j hi hj).2.2⟩,fun _ _ _ _ _ _ _ _ _ h=>h.elim,fun _ _ _ _ _ h=>h.elim⟩;have:=(hu i j hi hj).1;simp only [World.cell?] at this ⊢;rw [XK];exact this
theorem ZK {s:fG} {y:Operand} {bB:Nat} (GN:bB≠0) (hy:dT s y .fb) (f:Nat→Nat→AV):Src P s y bB 0 f []:=
 M_ GN (fun hs=>⟨none,0,(hy hs).pr,.inl rfl⟩) []
theorem adV {s:fG} {y:Operand} {bB m:Nat} {f:Nat→Nat→AV} (GN:bB≠0) (hy:dT s y (.fs bB m f)):Src P s y bB m f []:=
 M_ GN (fun {w F O μ K ft act} hs=>by
  have h:=hy hs;generalize act.eval y=v at h;cases h with
  | fs _ _ _ b o cap u hF hc hu hv=>exact ⟨_,cap,rfl,.inr ⟨b,o,u,rfl,fun i j hi hj=>⟨(hu i j hi hj).1,hv i j hi hj,(hu i j hi hj).2⟩⟩⟩
  | u_ _ _ a cap=>exact ⟨a,cap,rfl,.inl rfl⟩) []
theorem V8 {s:fG} {y:Operand} {v:Bool} {id bB m:Nat} {f:Nat→Nat→AV} (GN:bB≠0) (hy:dT s y (dh v id m bB)) (hb:s.H id=some (.row v bB m f)):Src P s y bB m f [id]:=by
 intro w F O μ K ft act hs;by_cases hm:m=0
 ·subst hm;have Ea:∃ A cap,act.eval y=.slice A 0 cap:=by
   have h:=hy hs;generalize act.eval y=u at h;cases v<;>simp only [dh] at h<;>cases h<;>exact ⟨_,_,rfl⟩
  obtain ⟨A,cap,Ea⟩:=Ea;refine ⟨A,cap,fun _ _=>undef,fun _ _ _=>False,Ea,fun w' _=>?_,fun i j hi=>by omega,fun _ _ _ _ hi=>by omega,fun i j hi=>by omega⟩;have e0:flat bB 0 (fun _ _=>undef)=[]:=by simp [flat]
  rw [e0];cases A with
  | none=>simp [Builtin.firstCells]
  | some a=>simp [Builtin.firstCells,loadCells,loadCellsFrom]
 ·obtain ⟨cap,Ea,afe,bZ⟩:=SN (hy hs) hm;have hl:(jz.row v bB m f).eQ=true:=by cases v<;>simp [jz.eQ];exact hm
  have gC:s.H.live id:=⟨_,hb,hl⟩;obtain ⟨ob,po,cs,t,S,rfl,hB⟩:=hs.hr.du id _ hb hl;refine ⟨_,cap,fun i j=>cs.getD (i*bB+j) undef,S,Ea,fun w' XK=>ya GN (fun i j hi hj=>?_) _ _,hB.cell,hB.dj,fun i j hi hj x hx=>⟨id,by simp,gC,(hB.all x).2 (.inr ⟨i,j,hi,hj,hx⟩),fun e=>hB.nb i j hi hj (e▸hx)⟩⟩;have h6:(i+1)*bB≤m*bB:=Nat.mul_le_mul_right _ hi;rw [Nat.add_mul,Nat.one_mul] at h6;have fh:=hB.size;have:i*bB+j < cs.size:=by omega
  simp [World.cell?,XK,po,this]
theorem abp {s:fG} {y:Operand} {v:Bool} {id bB m:Nat} {f:Nat→Nat→AV} (GN:bB≠0) (hy:dT s y (dh v id m bB)) (hb:s.H id=some (.row v bB m f)) (hc:∀ i j,i < m→j < bB→(f i j).JZ=false):Src P s y bB m f []:=by
 intro w F O μ K ft act hs;obtain ⟨A,cap,g,S,h1,h2,h3,h4,h5⟩:=V8 (P:=P) GN hy hb w F O μ K ft act hs;exact ⟨A,cap,g,fun _ _ _=>False,h1,h2,fun i j hi hj=>⟨.Ip _ _ _ ((h3 i j hi hj).1.closed (hc i j hi hj)).1 fun _ h=>h,(h3 i j hi hj).2⟩,fun _ _ _ _ _ _ _ _ _ h=>h.elim,fun _ _ _ _ _ h=>h.elim⟩
inductive Dst (s:fG) (x:Operand) (bB:Nat):Bool→Nat→(Nat→Nat→AV)→List Nat→Prop
 | fb (e:Nat→Nat→AV) (hx:dT s x .fb):Dst s x bB true 0 e []
 | own (v:Bool) (id n:Nat) (e:Nat→Nat→AV) (hx:dT s x (dh v id n bB)) (hb:s.H id=some (.row v bB n e)):Dst s x bB v n e [id]
theorem qP {v:Bool} {id n bB:Nat} {u:Value} (hv:VR w F μ K (dh v id n bB) u):
  ((∃ a,u=.slice a 0 0)∧n=0∧v=true)∨∃ cap sz t,u=.slice (some ⟨μ id,0,none⟩) n cap∧n≤cap∧K id∧w.shape? (μ id)=some (t,sz)∧cap*bB≤sz∧(v=true→n≠0):=by
 cases v with
 | false=>cases hv with | ms id i n bB cap sz t bZ hc hs fh=>exact .inr ⟨cap,sz,t,by simp,hc,bZ,hs,by simpa using fh,fun h=>by cases h⟩
 | true=>cases hv with
  | vs id n bB cap sz t hn bZ hc hs fh=>exact .inr ⟨cap,sz,t,rfl,hc,bZ,hs,fh,fun _=>hn⟩
  | sb id bB a=>exact .inl ⟨⟨a,rfl⟩,rfl,rfl⟩
theorem IE {v:Bool} {id n bB cap sz:Nat} {t:TypeId} (bZ:K id) (hc:n≤cap) (hs:w.shape? (μ id)=some (t,sz)) (fh:cap*bB≤sz) (hn:v=true→n≠0):VR w F μ K (dh v id n bB) (.slice (some ⟨μ id,0,none⟩) n cap):=by
 cases v with
 | false=>
  have:=VR.ms (w:=w) (F:=F) (μ:=μ) (K:=K) id 0 n bB cap sz t bZ hc hs (by simpa using fh);simpa [dh] using this
 | true=>exact .vs id n bB cap sz t (hn rfl) bZ hc hs fh
theorem V9 {b b0:Nat} {bB n m:Nat} {e f e':Nat→Nat→AV} {cs cs':Array Value} {g:Nat→Nat→Value} {S1 S2:Nat→Nat→Nat→Prop} {T1:Nat→Prop}
  (he:n=0∨MW b0 cs bB n S1 T1 fun T i j v=>jy w F μ T (e i j) v)
  (hf:∀ i j,i < m→j < bB→jy w F μ (S2 i j) (f i j) (g i j)∧(g i j).oneCell'=true)
  (hd:∀ i j i' j',i < m→j < bB→i' < m→j' < bB→∀ x,S2 i j x→S2 i' j' x→i=i'∧j=j')
  (hx:n≠0→∀ i j,i < m→j < bB→∀ x,S2 i j x→¬ T1 x) (VJ:n≠0→∀ i j,i < n→j < bB→¬ S1 i j b) (Ue:∀ i j,i < m→j < bB→¬ S2 i j b)
  (h1:∀ k,k < n*bB→cs'.getD k undef=cs.getD k undef) (h2:∀ i j,i < m→j < bB→cs'.getD ((n+i)*bB+j) undef=g i j) (fh:(n+m)*bB≤cs'.size)
  (SW:∀ i j,i < n+m→j < bB→e' i j=if i < n then e i j else f (i-n) j):
  ∃ S T,(∀ x,T x→x=b∨(n≠0∧T1 x∧x≠b0)∨∃ i j,i < m∧j < bB∧S2 i j x)∧T b∧MW b cs' bB (n+m) S T fun T i j v=>jy w F μ T (e' i j) v:=by
 let S:Nat→Nat→Nat→Prop:=fun i j x=>(i < n∧S1 i j x)∨(n≤i∧S2 (i-n) j x)
 have row:∀ i,i < n→MW b0 cs bB n S1 T1 fun T i j v=>jy w F μ T (e i j) v:=fun i hi=>he.resolve_left (by omega);refine ⟨S,fun x=>x=b∨∃ i j,i < n+m∧j < bB∧S i j x,?_,.inl rfl,{ size:=fh,cell:=fun i j hi hj=>?_,dj:=?_,nb:=?_,all:=fun _=>Iff.rfl }⟩
 ·rintro x (h | ⟨i,j,hi,hj,⟨h3,h4⟩ | ⟨h3,h4⟩⟩)
  ·exact .inl h
  ·exact .inr (.inl ⟨by omega,((row i h3).all x).2 (.inr ⟨i,j,h3,hj,h4⟩),fun e=>(row i h3).nb i j h3 hj (e▸h4)⟩)
  ·exact .inr (.inr ⟨i-n,j,by omega,hj,h4⟩)
 ·rw [SW i j hi hj];by_cases h:i < n
  ·rw [if_pos h];have h3:(i+1)*bB≤n*bB:=Nat.mul_le_mul_right _ h;rw [Nat.add_mul,Nat.one_mul] at h3;rw [h1 _ (by omega)];have eS:S i j=S1 i j:=by
    funext x;simp only [S,eq_iff_iff];exact ⟨fun k=>k.elim (fun k=>k.2) fun k=>by omega,fun k=>.inl ⟨h,k⟩⟩
   rw [eS];exact (row i h).cell i j h hj
  ·rw [if_neg h];have:=h2 (i-n) j (by omega) hj;rw [show n+(i-n)=i by omega] at this;rw [this];have eS:S i j=S2 (i-n) j:=by
    funext x;simp only [S,eq_iff_iff];exact ⟨fun k=>k.elim (fun k=>absurd k.1 h) fun k=>k.2,fun k=>.inr ⟨by omega,k⟩⟩
   rw [eS];exact hf (i-n) j (by omega) hj
 ·rintro i j i' j' hi hj da mi x (⟨h3,h4⟩ | ⟨h3,h4⟩) (⟨k3,k4⟩ | ⟨k3,k4⟩)
  ·exact (row i h3).dj i j i' j' h3 hj k3 mi x h4 k4
  ·exact absurd (((row i h3).all x).2 (.inr ⟨i,j,h3,hj,h4⟩)) (hx (by omega) (i'-n) j' (by omega) mi x k4)
  ·exact absurd (((row i' k3).all x).2 (.inr ⟨i',j',k3,mi,k4⟩)) (hx (by omega) (i-n) j (by omega) hj x h4)
  ·obtain ⟨q1,q2⟩:=hd (i-n) j (i'-n) j' (by omega) hj (by omega) mi x h4 k4;exact ⟨by omega,q2⟩
 ·rintro i j hi hj (⟨h3,h4⟩ | ⟨h3,h4⟩)
  ·exact VJ (by omega) i j h3 hj h4
  ·exact Ue (i-n) j (by omega) hj h4
theorem XL {o:Oper} {s:fG} {x y:Operand} {t u et:TypeId} {ti:TypeInfo} {nl:Bool} {n m:Nat} {e f e':Nat→Nat→AV} {D L:List Nat} {eu:TypeId} {z:Value} {N:Nat}
  (ho:o.op=.call ⟨.builtin .append,#[x,y],#[t,u]⟩) (ht:P.underlying t=some (.slice et)) (hu:P.underlying u=some (.slice eu)) (hi:P.info? et=some ti) (hz:ti.zero=some z) (GN:ti.size≠0) (hzs:z.cells.size=ti.size)
  (hd:Dst s x ti.size nl n e D) (hs:Src P s y ti.size m f L) (hDL:∀ id,id∈D→id ∉ L) (hb:(n+m)*ti.bytes≤70368744177664) (Ue:n+m≤70368744177664) (hb3:ti.bytes≤4294967296)
  (SW:∀ i j,i < n+m→j < ti.size→e' i j=if i < n then e i j else f (i-n) j):
  dg P o s ⟨dh nl N (n+m) ti.size,(N,some (.row nl ti.size (n+m) e'))::gA (D++L),[N]⟩:=by
 intro w F O μ K ft a fJ hn Kn Q hk;have hN:¬ K N:=hn N (by simp);obtain ⟨B,XM,g,S2,hvy,Yz,VN,hg3,hg4⟩:=hs _ _ _ _ _ _ _ fJ;have M6:∀ v,v∈flat ti.size m g→v.oneCell'=true:=by
  intro v hv;simp only [flat,List.mem_map,List.mem_range] at hv;obtain ⟨k,hk,rfl⟩:=hv;exact (VN _ _ (Nat.div_lt_of_lt_mul (by rw [Nat.mul_comm];exact hk)) (Nat.mod_lt _ (by omega))).2
 have hS2:∀ i j,i < m→j < ti.size→∀ x,S2 i j x→x < w.heap.size:=fun i j hi hj x hx=>by
  obtain ⟨id,_,h2,h3,_⟩:=hg4 i j hi hj x hx;exact fJ.hr.qS x (fJ.hr.own id h2 x h3)
 obtain ⟨A,cap,hvx,afe,hA⟩:∃ A cap,a.eval x=.slice A n cap∧n≤cap∧((n=0∧cap=0∧nl=true)∨
   ∃ id cs t' S1,D=[id]∧A=some ⟨μ id,0,none⟩∧s.H id=some (.row nl ti.size n e)∧(jz.row nl ti.size n e).eQ=true∧w.heap[μ id]?=some (.cells cs t' (0,0))∧cap*ti.size≤cs.size∧
    (nl=true→n≠0)∧MW (μ id) cs ti.size n S1 (ft id) fun T i j v=>jy w F μ T (e i j) v):=by
  cases hd with
  | fb e hx=>exact ⟨none,0,(hx fJ).pr,Nat.le_refl _,.inl ⟨rfl,rfl,rfl⟩⟩
  | own v id n e hx hbk=>
   rcases qP (hx fJ) with ⟨⟨a0,h1⟩,h2,h3⟩ | ⟨cap,sz,t',h1,h2,bZ,h4,h5,h6⟩
   ·exact ⟨a0,0,h2▸h1,by omega,.inl ⟨h2,rfl,h3⟩⟩
   ·have hl:(jz.row nl ti.size n e).eQ=true:=by
     cases nl with
     | false=>rfl
     | true=>simpa [jz.eQ] using h6 rfl
    obtain ⟨ob,po,cs,t2,S1,rfl,hB⟩:=fJ.hr.du id _ hbk hl;refine ⟨_,cap,h1,h2,.inr ⟨id,cs,t2,S1,rfl,rfl,hbk,hl,po,?_,h6,hB⟩⟩;simp only [World.shape?,po,Option.some.injEq,Prod.mk.injEq] at h4;rw [h4.2];exact h5
 have ahW:∀ id,s.H.live id→id≠N:=fun id hl e=>hN (e▸fJ.hr.qg hl);unfold Oper.wp;have pre:(execOp a.eval o).run P w=((Builtin.append_ #[t,u] o.type #[.slice A n cap,.slice B m XM]).run P w).andThen fun v w'=>.ok (.value v) w':=by
  simp [execOp,ho,resolve,invoke,builtin,hvx,hvy]
 have c1:¬ ((9223372036854775807:Int) < ↑n+↑m∧ti.bytes=0):=by intro h;omega
 have c2:n+m > cap→¬ 281474976710656 < Builtin.nextslicecap (n+m) cap*ti.bytes:=by
  intro hc;have h1:=Nat.mul_le_mul_right ti.bytes (XJ (n+m) cap hc);rw [Nat.add_mul,Nat.mul_assoc] at h1;omega
 rw [pre];by_cases hle:n+m≤cap
 ·rcases hA with ⟨rfl,rfl,rfl⟩ | ⟨id,cs,t',S1,rfl,rfl,hH,hl,hc,C2,Jb,hB⟩
  ·
   obtain rfl:m=0:=by omega
   have kT:(Builtin.append_ #[t,u] o.type #[.slice A 0 0,.slice B 0 XM]).run P w=.ok (.slice A 0 0) w:=by
    have e0:flat ti.size 0 g=[]:=by simp [flat]
    have h0:=Yz w rfl;rw [e0] at h0;simp only [Builtin.append_];simp [ca ht,gr hi,ca hu,Builtin.lenOf,h0];cases A<;>simp [storeCells]
   rw [kT,Result.andThen_ok,Oper.upon_value];obtain ⟨k1,k2⟩:=wP (bB:=ti.size) (e:=e') (fJ.hr.Zz (D5 s.H (D++L))) hN;have e1:(s.H.c_ (gA (D++L))).c_ [(N,some (.row true ti.size 0 e'))]=s.H.c_ ((N,some (.row true ti.size (0+0) e'))::gA (D++L)):=by
    funext id;rfl
   rw [e1] at k1;exact hk _ w F O _ ft (.sb _ _ _) k1 k2
  ·have dY:μ id < w.heap.size:=fJ.hr.lt id (fJ.hr.known _ _ hH);have h5:(n+m)*ti.size≤cs.size:=Nat.le_trans (Nat.mul_le_mul_right _ hle) C2;have wo:=se (P:=P) (b:=μ id) (o:=0+n*ti.size) (t:=t') (flat ti.size m g) 0 w cs hc M6 (by rw [fR];rw [Nat.add_mul] at h5;omega);have kT:(Builtin.append_ #[t,u] o.type #[.slice (some ⟨μ id,0,none⟩) n cap,.slice B m XM]).run P w=.ok (.slice (some ⟨μ id,0,none⟩) (n+m) cap) (jA w (μ id) (.cells (sc cs (n*ti.size) (flat ti.size m g)) t' (0,0))):=by
    simp only [Builtin.append_];simp [ca ht,gr hi,ca hu,Builtin.lenOf,hle,Yz w rfl,vo];have:(storeCells ⟨μ id,n*ti.size,none⟩ (flat ti.size m g)).run P w=.ok () (jA w (μ id) (.cells (sc cs (n*ti.size) (flat ti.size m g)) t' (0,0))):=by simpa using wo
    rw [this];rfl
   rw [kT,Result.andThen_ok,Oper.upon_value];have hs1:n*ti.size+(flat ti.size m g).length≤cs.size:=by rw [fR];rw [Nat.add_mul] at h5;omega
   have gC:s.H.live id:=⟨_,hH,hl⟩;have Lu:id ∉ L:=hDL id (by simp);have aff:∀ i j,i < m→j < ti.size→∀ x,S2 i j x→¬ ft id x:=fun i j hi hj x hx la=>by
    obtain ⟨BP,q1,q2,q3,_⟩:=hg4 i j hi hj x hx;have:=fJ.hr.dj BP id q2 gC x q3 la;exact Lu (this▸q1)
   obtain ⟨S,T,hT,hTb,de⟩:=V9 (b:=μ id) (b0:=μ id) (e':=e') (cs':=sc cs (n*ti.size) (flat ti.size m g)) (.inr hB) VN hg3 (fun _=>aff) (fun _ i j hi hj=>hB.nb i j hi hj)
    (fun i j hi hj hx=>aff i j hi hj _ hx (fJ.hr.self id gC)) (fun k hk=>by rw [tI _ _ _ hs1,if_neg (by omega)]) (fun i j hi hj=>by
     rw [tI _ _ _ hs1,fR];have h6:(i+1)*ti.size≤m*ti.size:=Nat.mul_le_mul_right _ hi;rw [Nat.add_mul,Nat.one_mul] at h6;rw [Nat.add_mul,if_pos (by omega),show n*ti.size+i*ti.size+j-n*ti.size=i*ti.size+j by omega];exact ID hi hj) (by rw [iJ];exact h5) SW
   obtain ⟨O',bX,k1,k2⟩:=XE (L:=L) (S:=T) (b':=.row nl ti.size (n+m) e') fJ.hr hN hH hl hc (vd (iJ _ _ _))
    (fun x hx=>by
     rcases hT x hx with h | ⟨_,h,_⟩ | ⟨i,j,hi,hj,h⟩
     ·exact ⟨id,.inl rfl,gC,h▸fJ.hr.self id gC⟩
     ·exact ⟨id,.inl rfl,gC,h⟩
     ·obtain ⟨BP,q1,q2,q3,_⟩:=hg4 i j hi hj x h;exact ⟨BP,.inr q1,q2,q3⟩) hTb ⟨_,t',S,rfl,de⟩
   refine hk _ _ F O' _ bX ?_ k1 k2;have qQ:(jA w (μ id) (.cells (sc cs (n*ti.size) (flat ti.size m g)) t' (0,0))).shape? (Hy μ N (μ id) N)=some (t',cs.size):=by
    rw [gq];simp [World.shape?,wO dY,iJ]
   have:=IE (v:=nl) (w:=jA w (μ id) (.cells (sc cs (n*ti.size) (flat ti.size m g)) t' (0,0))) (F:=F) (μ:=Hy μ N (μ id)) (K:=plus K [N]) (id:=N) (n:=n+m) (bB:=ti.size) (cap:=cap) (.inr (by simp)) hle qQ C2 (fun h=>by have:=Jb h;omega);rwa [gq] at this
 ·
  have hgt:n+m > cap:=Nat.lt_of_not_le hle;obtain ⟨F_,cs0,b0,S1,T1,ho1,YG,acJ,ag_,hT1⟩:∃ (F_ cs0:Array Value) (b0:Nat) (S1:Nat→Nat→Nat→Prop) (T1:Nat→Prop),(∀ w',w'.heap=w.heap→(Builtin.firstCells ti.size n (.slice A n cap)).run P w'=.ok F_ w')∧F_.size=n*ti.size∧
    (n=0∨MW b0 cs0 ti.size n S1 T1 fun T i j v=>jy w F μ T (e i j) v)∧(∀ k,k < n*ti.size→F_.getD k undef=cs0.getD k undef)∧(n≠0→∃ id,D=[id]∧s.H.live id∧T1=ft id):=by
   rcases hA with ⟨rfl,rfl,rfl⟩ | ⟨id,cs,t',S1,aha,rfl,hH,hl,hc,C2,Jb,hB⟩
   ·exact ⟨#[],#[],0,fun _ _ _=>False,fun _=>False,fun w' _=>by cases A<;>simp [Builtin.firstCells,loadCells,loadCellsFrom],by simp,.inl rfl,fun k hk=>by omega,fun h=>absurd rfl h⟩
   ·have h5:n*ti.size≤cs.size:=Nat.le_trans (Nat.mul_le_mul_right _ afe) C2;refine ⟨⟨flat ti.size n fun i j=>cs.getD (i*ti.size+j) undef⟩,cs,μ id,S1,ft id,fun w' XK=>ya GN (fun i j hi hj=>?_) _ _,by simp [fR],.inr hB,fun k hk=>?_,fun _=>⟨id,aha,⟨_,hH,hl⟩,rfl⟩⟩
    ·have h6:(i+1)*ti.size≤n*ti.size:=Nat.mul_le_mul_right _ hi;rw [Nat.add_mul,Nat.one_mul] at h6;have:i*ti.size+j < cs.size:=by omega
     simp [World.cell?,XK,hc,this]
    ·have hq:k / ti.size < n:=Nat.div_lt_of_lt_mul (by rw [Nat.mul_comm];exact hk);have ZL:k % ti.size < ti.size:=Nat.mod_lt _ (by omega);have:=ID (u:=fun i j=>cs.getD (i*ti.size+j) undef) hq ZL;have e2:k / ti.size*ti.size+k % ti.size=k:=by rw [Nat.mul_comm];exact Nat.div_add_mod k ti.size
     rw [e2] at this;rw [← jo];exact this
  obtain ⟨nc,hnc⟩:∃ nc,nc=(Question.appendCap (n+m) cap et).cut (w.tape w.drawn (Question.appendCap (n+m) cap et)):=⟨_,rfl⟩;have afg:n+m≤nc:=by rw [hnc];exact Nat.le_add_right _ _
  obtain ⟨cs,C2⟩:∃ cs:Array Value,cs=F_++(⟨flat ti.size m g⟩++Builtin.zeroCells z.cells (nc-(n+m))):=⟨_,rfl⟩;have kT:(Builtin.append_ #[t,u] o.type #[.slice A n cap,.slice B m XM]).run P w=.ok (.slice (some ⟨w.heap.size,0,none⟩) (n+m) nc) (({ w with drawn:=w.drawn+1 }:World).alloc (.cells cs et)):=by
   have hf:(Question.appendCap (n+m) cap et).forced=false:=rfl;simp only [Builtin.append_];simp [ca ht,gr hi,ca hu,Builtin.lenOf,hle,LI hi,c1,c2 hgt,hf,ho1 w.drew rfl,Yz w.drew rfl,QV hi hz,newRow,← hnc];rw [C2]
  rw [kT,Result.andThen_ok,Oper.upon_value];have hfl:(⟨flat ti.size m g⟩:Array Value).size=m*ti.size:=by simp [fR]
  have hx2:n≠0→∀ i j,i < m→j < ti.size→∀ x,S2 i j x→¬ T1 x:=fun hn i j hi hj x hx la=>by
   obtain ⟨id,q0,gC,q⟩:=hT1 hn;rw [q] at la;obtain ⟨BP,q1,q2,q3,_⟩:=hg4 i j hi hj x hx;have:=fJ.hr.dj BP id q2 gC x q3 la;exact hDL id (by simp [q0]) (this▸q1)
  obtain ⟨S,T,hT,hTb,de⟩:=V9 (b:=w.heap.size) (b0:=b0) (e':=e') (cs':=cs) acJ VN hg3 hx2 (fun hn i j hi hj hx=>by
    obtain ⟨id,_,gC,q⟩:=hT1 hn;have hB:=acJ.resolve_left hn;have h1:=(hB.all _).2 (.inr ⟨i,j,hi,hj,hx⟩);rw [q] at h1;have:=fJ.hr.qS _ (fJ.hr.own id gC _ h1);omega) (fun i j hi hj hx=>by have:=hS2 i j hi hj _ hx;omega) (fun k hk=>by
    rw [C2,← ag_ k hk];have:k < F_.size:=by omega
    simp [Array.getElem?_append,this]) (fun i j hi hj=>by
    rw [C2];have h6:(i+1)*ti.size≤m*ti.size:=Nat.mul_le_mul_right _ hi;rw [Nat.add_mul,Nat.one_mul] at h6;have h7:¬ (n+i)*ti.size+j < F_.size:=by rw [YG,Nat.add_mul];omega
    have h8:(n+i)*ti.size+j-F_.size=i*ti.size+j:=by rw [YG,Nat.add_mul];omega
    have h9:i*ti.size+j < (flat ti.size m g).length:=by rw [fR];omega
    have:=ID (u:=g) hi hj;simp only [List.getD] at this;simp [Array.getElem?_append,h7,h8,h9];simpa [h9] using this) (by
    rw [C2];simp only [Array.size_append,hfl,YG];rw [Nat.add_mul];omega) SW
  have H3:HR ({ w with drawn:=w.drawn+1 }:World) F O μ K s.H ft:=fJ.hr.drew _;obtain ⟨O',bX,k1,k2⟩:=G8 (w:={ w with drawn:=w.drawn+1 }) (L:=D++L) (S:=T) (o:=.cells cs et) (b:=.row nl ti.size (n+m) e') H3 hN (fun x hx=>by
    rcases hT x hx with h | ⟨hn,h,_⟩ | ⟨i,j,hi,hj,h⟩
    ·exact .inl h
    ·obtain ⟨id,q0,q1,q2⟩:=hT1 hn;exact .inr ⟨id,by simp [q0],q1,q2▸h⟩
    ·obtain ⟨BP,q1,q2,q3,_⟩:=hg4 i j hi hj x h;exact .inr ⟨BP,by simp [q1],q2,q3⟩) hTb
   (hP.mono (w:=w) (F:=F) (μ:=μ) (K:=K) (o:=.cells cs et) (B:=.row nl ti.size (n+m) e') ⟨cs,et,S,rfl,de⟩ (fun _ _=>rfl) (fun _ h=>h) (fun _ _=>rfl) (fun _ h=>h) (fun _ _=>rfl) fun _ _ _=>rfl)
  refine hk _ _ F O' _ bX ?_ k1 ((Fr.drew _).trans k2);have fh:nc*ti.size≤cs.size:=by
   have SV:(Builtin.zeroCells z.cells (nc-(n+m))).size=(nc-(n+m))*ti.size:=by
    rw [← hzs];simp [Builtin.zeroCells]
   rw [C2];simp only [Array.size_append,SV,YG];rw [hfl,← Nat.add_mul,← Nat.add_mul];exact Nat.mul_le_mul_right _ (by omega)
  have qQ:(({ w with drawn:=w.drawn+1 }:World).alloc (.cells cs et)).shape? (Hy μ N w.heap.size N)=some (et,cs.size):=by
   rw [gq];have:=D4 ({ w with drawn:=w.drawn+1 }:World) (.cells cs et);unfold World.shape?;rw [show w.heap.size=({ w with drawn:=w.drawn+1 }:World).heap.size from rfl,this]
  have:=IE (v:=nl) (w:=({ w with drawn:=w.drawn+1 }:World).alloc (.cells cs et)) (F:=F) (μ:=Hy μ N w.heap.size) (K:=plus K [N]) (id:=N) (n:=n+m) (bB:=ti.size) (cap:=nc) (.inr (by simp)) afg qQ fh (fun _=>by omega);rwa [gq] at this
theorem adW {o:Oper} {s:fG} {x y m:Operand} {t et:TypeId} {ti:TypeInfo} {v:Bool} {id n bB N:Nat} {k k':IntKind} {e:Nat→Nat→AV} (ho:o.op=.slice t x none (some y) (some m)) (hx:dT s x (dh v id n bB)) (hH:s.H id=some (.row v bB n e))
  (ht:P.underlying t=some (.slice et)) (da:P.info? et=some ti) (hy:dT s y (.int k n)) (hm:dT s m (.int k' n)):dg P o s ⟨dh true N n bB,(N,some (.row true bB n e))::gA [id],[N]⟩:=by
 intro w F O μ K ft a fJ hn Kn Q hk;have hN:¬ K N:=hn N (by simp);have hv:=hx fJ;have h1:=(hy fJ).c8;have h2:=(hm fJ).c8;generalize Iw:a.eval x=u at hv;have key:∀ (ad:Option Addr) (cap:Nat),u=.slice ad n cap→n≤cap→(execOp a.eval o).run P w=.ok (.value (.slice (if n=0 then ad else ad.map (·.add (0*ti.size))) n n)) w:=fun ad cap hu hc=>by
  subst hu;simp only [execOp,ho,Option.map_none,Option.map_some,Sem.run_bind,x_ ht,Iw,Instr.slice,ca ht,Result.andThen_ok,Instr.sliceBounds];rw [wQ (y:=cap) h2 (by omega) (by omega)];simp only [Result.andThen_ok,Sem.run_pure,Int.toNat_natCast];rw [wQ (y:=n) h1 (by omega) (by omega)];simp only [Result.andThen_ok,Sem.run_pure,Int.toNat_natCast,gr da,Nat.sub_zero]
 unfold Oper.wp;rcases qP hv with ⟨⟨a0,e1⟩,e2,e3⟩ | ⟨cap,sz,t',e1,e2,bZ,e4,e5,e6⟩
 ·subst e2;rw [key a0 0 e1 (Nat.le_refl _),Oper.upon_value];obtain ⟨k1,k2⟩:=wP (bB:=bB) (e:=e) (fJ.hr.Zz (D5 s.H [id])) hN;exact hk _ w F O _ ft (.sb _ _ _) k1 k2
 ·rw [key _ cap e1 e2,Oper.upon_value];by_cases h0:n=0
  ·subst h0;obtain ⟨k1,k2⟩:=wP (bB:=bB) (e:=e) (fJ.hr.Zz (D5 s.H [id])) hN;exact hk _ w F O _ ft (.sb _ _ _) k1 k2
  ·have hl:(jz.row v bB n e).eQ=true:=by
    cases v with
    | false=>rfl
    | true=>simpa [jz.eQ] using h0
   have gC:s.H.live id:=⟨_,hH,hl⟩;obtain ⟨ob,po,hB⟩:=fJ.hr.du id _ hH hl;have Na:=fJ.hr.self id gC;have hO:=fJ.hr.own id gC _ Na;have hp:sq w w (μ id) ob:=⟨rfl,rfl,rfl,Nat.le_refl _,fJ.hr.lt id bZ,po,fun _ _ _=>rfl,fun _ _=>rfl⟩;obtain ⟨k1,k2⟩:=D3 (M:=N) (L:=[id]) (S:=ft id) (b:=.row true bB n e) fJ.hr hp (.inl hO) (fun h=>absurd h hN) (fun x hx=>.inr ⟨id,.inr (by simp),gC,hx⟩) Na
    (fun b9 h1 h2 h3 h4=>h3 (by have:=fJ.hr.dj b9 id h1 gC _ h4 Na;simp [this])) hB
   refine hk _ w F _ _ _ ?_ k1 k2;rw [if_neg h0];simp only [Option.map_some,vo,Nat.zero_mul,Nat.add_zero];have:=IE (v:=true) (w:=w) (F:=F) (μ:=Hy μ N (μ id)) (K:=plus K [N]) (id:=N) (n:=n) (bB:=bB) (cap:=n) (sz:=sz) (t:=t') (.inr (by simp)) (Nat.le_refl _) (by rw [gq];exact e4) (Nat.le_trans (Nat.mul_le_mul_right _ e2) e5) (fun _=>h0);rwa [gq] at this
theorem abq {o:Oper} {s:fG} {x y:Operand} {t u et:TypeId} {ti:TypeInfo} {v:Bool} {id n:Nat} {e f:Nat→Nat→AV}
  (ho:o.op=.call ⟨.builtin .copy,#[x,y],#[t,u]⟩) (ht:P.underlying t=some (.slice et)) (hi:P.info? et=some ti) (GN:ti.size≠0)
  (hx:dT s x (dh v id n ti.size)) (hb:s.H id=some (.row v ti.size n e)) (hs:Src P s y ti.size n f []) (LK:∀ i j,i < n→j < ti.size→(f i j).JZ=false):
  dg P o s ⟨.int .i64 n,[(id,some (.row v ti.size n f))],[]⟩:=by
 intro w F O μ K ft a fJ _ Kn Q hk;obtain ⟨B,XM,g,S2,hvy,Yz,VN,hg3,hg4⟩:=hs _ _ _ _ _ _ _ fJ;unfold Oper.wp;rcases qP (hx fJ) with ⟨⟨a0,h1⟩,rfl,rfl⟩ | ⟨cap,sz,t',h1,h2,bZ,h4,h5,h6⟩
 ·have kT:(execOp a.eval o).run P w=.ok (.value (.int .i64 0)) w:=by
   have e0:flat ti.size 0 g=[]:=by simp [flat]
   have:=Yz w rfl;rw [e0] at this;cases a0<;>simp [execOp,ho,resolve,invoke,builtin,h1,hvy,Builtin.copy_,ca ht,gr hi,Builtin.lenOf,this,goInt,storeCells]
  rw [kT,Oper.upon_value];have e1:(jz.row true ti.size 0 f).eQ=false:=rfl;have UU:s.H.c_ [(id,some (.row true ti.size 0 f))]=fun k=>if k=id then some (.row true ti.size 0 f) else s.H k:=rfl
  have gB:∀ k,(s.H.c_ [(id,some (.row true ti.size 0 f))]).live k→k≠id∧s.H.live k:=by
   rintro k ⟨b,ck,hl⟩
   rw [Hp.BL] at ck;split at ck
   ·cases ck;cases hl
   ·exact ⟨‹_›,b,ck,hl⟩
  refine hk _ w F O μ ft (.int _ _) ?_ (Fr.refl w F O μ K);rw [jm];refine { fJ.hr with known:=?_,du:=?_,self:=fun k hl=>fJ.hr.self k (gB k hl).2,own:=fun k hl=>fJ.hr.own k (gB k hl).2,dj:=fun k k' hl BM=>fJ.hr.dj k k' (gB k hl).2 (gB k' BM).2 }
  ·intro k b ck;rw [Hp.BL] at ck;split at ck
   ·rename_i e;subst e;exact fJ.hr.known _ _ hb
   ·exact fJ.hr.known _ _ ck
  ·intro k b ck hl;rw [Hp.BL] at ck;split at ck
   ·cases ck;cases hl
   ·exact fJ.hr.du k b ck hl
 ·have hl:(jz.row v ti.size n e).eQ=true:=by
   cases v with
   | false=>rfl
   | true=>simpa [jz.eQ] using h6 rfl
  have gC:s.H.live id:=⟨_,hb,hl⟩;obtain ⟨ob,po,cs,t2,S1,rfl,hB⟩:=fJ.hr.du id _ hb hl;have C2:cap*ti.size≤cs.size:=by
   simp only [World.shape?,po,Option.some.injEq,Prod.mk.injEq] at h4;rw [h4.2];exact h5
  have h5':n*ti.size≤cs.size:=Nat.le_trans (Nat.mul_le_mul_right _ h2) C2;have M6:∀ v,v∈flat ti.size n g→v.oneCell'=true:=by
   intro v hv;simp only [flat,List.mem_map,List.mem_range] at hv;obtain ⟨k,hk,rfl⟩:=hv;exact (VN _ _ (Nat.div_lt_of_lt_mul (by rw [Nat.mul_comm];exact hk)) (Nat.mod_lt _ (by omega))).2
  have wo:=se (P:=P) (b:=μ id) (o:=0) (t:=t2) (flat ti.size n g) 0 w cs po M6 (by rw [fR];omega);have kT:(execOp a.eval o).run P w=.ok (.value (.int .i64 n)) (jA w (μ id) (.cells (sc cs 0 (flat ti.size n g)) t2 (0,0))):=by
   have:(storeCells ⟨μ id,0,none⟩ (flat ti.size n g)).run P w=.ok () (jA w (μ id) (.cells (sc cs 0 (flat ti.size n g)) t2 (0,0))):=by simpa using wo
   have h1:(Builtin.copy_ #[t,u] o.type #[.slice (some ⟨μ id,0,none⟩) n cap,.slice B n XM]).run P w=.ok (.int .i64 n) (jA w (μ id) (.cells (sc cs 0 (flat ti.size n g)) t2 (0,0))):=by
    simp only [Builtin.copy_];simp [ca ht,gr hi,Builtin.lenOf,Yz w rfl];rw [this];rfl
   simp [execOp,ho,resolve,invoke,builtin, *]
  rw [kT,Oper.upon_value];have hs1:0+(flat ti.size n g).length≤cs.size:=by rw [fR];omega
  have M4:hP w F μ K (fun x=>x=μ id) (μ id) (.cells (sc cs 0 (flat ti.size n g)) t2 (0,0)) (.row v ti.size n f):=by
   refine Q1 (by rw [iJ];exact h5') fun i j hi hj=>?_;have h6:(i+1)*ti.size≤n*ti.size:=Nat.mul_le_mul_right _ hi;rw [Nat.add_mul,Nat.one_mul] at h6;rw [tI _ _ _ hs1,fR,if_pos (by omega),Nat.sub_zero,ID hi hj];refine ⟨?_,(VN i j hi hj).2⟩;exact ((VN i j hi hj).1.closed (LK i j hi hj)).1
  obtain ⟨O',bX,k1,k2⟩:=lV (L:=[]) fJ.hr hb hl po (vd (iJ _ _ _)) (by simp) (fun y (hy:y=μ id)=>⟨id,.inl rfl,gC,hy▸fJ.hr.self id gC⟩) rfl M4;exact hk _ _ F O' μ bX (.int _ _) (by rw [jm];exact k1) k2
end Go.Proofs.YtjkbbdldmdajkaaGreatDoor.c5
