/- append, copy: a row of the call's own grows, or is written from another. No condition. -/
import Derived.Test.YtljfmaaadnoggaaGreatDoorVE
set_option linter.unusedSimpArgs false
set_option linter.unusedVariables false
namespace Go.Proofs.YtljfmaaadnoggaaGreatDoor.cX
open Go Go.RowKit
variable {w w' xW:World} {F F' Cq O O' wx:Nat→Prop} {μ bC kZ:Nat→Nat} {K K' Gg:Nat→Prop} {H H' H'':Hp} {ft b8:Nat→Nat→Prop} {P:Program}
def flat (bB m:Nat) (u:Nat→Nat→Value):List Value:=(List.range (m*bB)).map fun k=>u (k / bB) (k % bB)
theorem K8 {bB m:Nat} {u:Nat→Nat→Value} {i j:Nat} (hi:i < m) (hj:j < bB):(flat bB m u).getD (i*bB+j) undef=u i j:=by
 have h2:(i+1)*bB≤m*bB:=Nat.mul_le_mul_right _ hi
 rw [Nat.add_mul,Nat.one_mul] at h2
 have h3:i*bB+j < m*bB:=by omega
 have h4:(i*bB+j) / bB=i:=by
  rw [Nat.add_comm,Nat.add_mul_div_right _ _ (by omega),Nat.div_eq_of_lt hj];omega
 simp [flat,List.getD,h3,h4,K4 hj]
theorem fT (bB m:Nat) (u:Nat→Nat→Value):(flat bB m u).length=m*bB:=by simp [flat]
theorem zW {bB m b o:Nat} {u:Nat→Nat→Value} (he:bB≠0) (h:∀ i j,i < m→j < bB→w.cell? ⟨b,o+i*bB+j,none⟩=some (u i j)) (cap:Nat) (L:Nat):
  (Builtin.firstCells bB m (.slice (some ⟨b,o,none⟩) L cap)).run P w=.ok ⟨flat bB m u⟩ w:=by
 simp only [Builtin.firstCells]
 rw [run_loadCells w _ _ (fun k=>u (k / bB) (k % bB)) fun k hk=>?_]
 ·rfl
 ·rw [zU]
  have h1:k / bB < m:=Nat.div_lt_of_lt_mul (by rw [Nat.mul_comm];exact hk)
  have h2:k % bB < bB:=Nat.mod_lt _ (by omega)
  have:=h (k / bB) (k % bB) h1 h2
  rw [Nat.add_assoc] at this
  have e:k / bB*bB+k % bB=k:=by rw [Nat.mul_comm];exact Nat.div_add_mod k bB
  rwa [e] at this
theorem aaC (XO cap:Nat) (h:cap < XO):Builtin.nextslicecap XO cap≤2*XO+768:=by
 unfold Builtin.nextslicecap
 split
 ·omega
 ·split
  ·omega
  ·have:∀ (r c:Nat),c≤XO→Builtin.growBy XO r c≤2*XO+768:=by
    intro r
    induction r with
    | zero=>intro c hc;simp only [Builtin.growBy];omega
    | succ r ih=>
     intro c hc
     simp only [Builtin.growBy]
     split
     ·omega
     ·rename_i dQ
      by_cases h2:c+(c+768) / 4≤XO
      ·exact ih _ h2
      ·cases r with
       | zero=>simp only [Builtin.growBy];omega
       | succ r=>
        simp only [Builtin.growBy]
        rw [if_pos (by omega)]
        omega
   exact this 4 cap (by omega)
def Src (P:Program) (s:fU) (y:Operand) (bB m:Nat) (f:Nat→Nat→AV) (L:List Nat):Prop:=
 ∀ w F O μ K ft act,SR w F O μ K s ft act→∃ (A:Option Addr) (cap:Nat) (g:Nat→Nat→Value) (S:Nat→Nat→Nat→Prop),act.eval y=.slice A m cap∧(∀ w',w'.heap=w.heap→(Builtin.firstCells bB m (.slice A m cap)).run P w'=.ok ⟨flat bB m g⟩ w')∧
  (∀ i j,i < m→j < bB→jO w F μ (S i j) (f i j) (g i j)∧(g i j).oneCell'=true)∧
  (∀ i j i' j',i < m→j < bB→i' < m→j' < bB→∀ x,S i j x→S i' j' x→i=i'∧j=j')∧
  ∀ i j,i < m→j < bB→∀ x,S i j x→∃ id,id∈L∧s.H.live id∧ft id x∧x≠μ id
theorem PO {s:fU} {y:Operand} {bB m:Nat} {f:Nat→Nat→AV} (Mp:bB≠0) (h:∀ {w F O μ K ft act},SR w F O μ K s ft act→∃ A cap,act.eval y=.slice A m cap∧(m=0∨∃ (b o:Nat) (u:Nat→Nat→Value),A=some ⟨b,o,none⟩∧
  ∀ i j,i < m→j < bB→w.cell? ⟨b,o+i*bB+j,none⟩=some (u i j)∧VR w F μ Ei (f i j) (u i j)∧(u i j).oneCell'=true)) (L:List Nat):Src P s y bB m f L:=by
 intro w F O μ K ft act hs
 obtain ⟨A,cap,Gp,hA⟩:=h hs
 rcases hA with rfl | ⟨b,o,u,rfl,hu⟩
 ·refine ⟨A,cap,fun _ _=>undef,fun _ _ _=>False,Gp,fun w' _=>?_,fun i j hi=>by omega,fun _ _ _ _ hi=>by omega,fun i j hi=>by omega⟩
  have e0:flat bB 0 (fun _ _=>undef)=[]:=by simp [flat]
  rw [e0]
  cases A with
  | none=>simp [Builtin.firstCells]
  | some a=>simp [Builtin.firstCells,loadCells,loadCellsFrom]
 ·refine ⟨_,cap,u,fun _ _ _=>False,Gp,fun w' hw'=>zW Mp (fun i j hi hj=>?_) _ _,fun i j hi hj=>⟨.KR _ _ _ (hu i j hi hj).2.1 fun _ h=>h,(hu i j hi hj).2.2⟩,fun _ _ _ _ _ _ _ _ _ h=>h.elim,fun _ _ _ _ _ h=>h.elim⟩
  have:=(hu i j hi hj).1
  simp only [World.cell?] at this ⊢
  rw [hw'];exact this
theorem acj {s:fU} {y:Operand} {bB:Nat} (Mp:bB≠0) (hy:ec s y .ff) (f:Nat→Nat→AV):Src P s y bB 0 f []:=
 PO Mp (fun hs=>⟨none,0,(hy hs).pY,.inl rfl⟩) []
theorem ags {s:fU} {y:Operand} {bB m:Nat} {f:Nat→Nat→AV} (Mp:bB≠0) (hy:ec s y (.fs bB m f)):Src P s y bB m f []:=
 PO Mp (fun {w F O μ K ft act} hs=>by
  have h:=hy hs
  generalize act.eval y=v at h
  cases h with
  | fs _ _ _ b o cap u hF hc hu hv=>exact ⟨_,cap,rfl,.inr ⟨b,o,u,rfl,fun i j hi hj=>⟨(hu i j hi hj).1,hv i j hi hj,(hu i j hi hj).2⟩⟩⟩
  | wv _ _ a cap=>exact ⟨a,cap,rfl,.inl rfl⟩) []
theorem Y6 {s:fU} {y:Operand} {v:Bool} {id bB m:Nat} {f:Nat→Nat→AV} (Mp:bB≠0) (hy:ec s y (dr v id m bB)) (hb:s.H id=some (.row v bB m f)):Src P s y bB m f [id]:=by
 intro w F O μ K ft act hs
 by_cases hm:m=0
 ·subst hm
  have Gp:∃ A cap,act.eval y=.slice A 0 cap:=by
   have h:=hy hs
   generalize act.eval y=u at h
   cases v<;>simp only [dr] at h<;>cases h<;>exact ⟨_,_,rfl⟩
  obtain ⟨A,cap,Gp⟩:=Gp
  refine ⟨A,cap,fun _ _=>undef,fun _ _ _=>False,Gp,fun w' _=>?_,fun i j hi=>by omega,fun _ _ _ _ hi=>by omega,fun i j hi=>by omega⟩
  have e0:flat bB 0 (fun _ _=>undef)=[]:=by simp [flat]
  rw [e0]
  cases A with
  | none=>simp [Builtin.firstCells]
  | some a=>simp [Builtin.firstCells,loadCells,loadCellsFrom]
 ·obtain ⟨cap,Gp,ahH,cb⟩:=VK (hy hs) hm
  have hl:(kq.row v bB m f).fa=true:=by cases v<;>simp [kq.fa];exact hm
  have iM:s.H.live id:=⟨_,hb,hl⟩
  obtain ⟨ob,qR,cs,t,S,rfl,hB⟩:=hs.hr.dw id _ hb hl
  refine ⟨_,cap,fun i j=>cs.getD (i*bB+j) undef,S,Gp,fun w' hw'=>zW Mp (fun i j hi hj=>?_) _ _,hB.cell,hB.dj,fun i j hi hj x hx=>⟨id,by simp,iM,(hB.all x).2 (.inr ⟨i,j,hi,hj,hx⟩),fun e=>hB.nb i j hi hj (e▸hx)⟩⟩
  have h6:(i+1)*bB≤m*bB:=Nat.mul_le_mul_right _ hi
  rw [Nat.add_mul,Nat.one_mul] at h6
  have fL:=hB.size
  have:i*bB+j < cs.size:=by omega
  simp [World.cell?,hw',qR,this]
theorem adN {s:fU} {y:Operand} {v:Bool} {id bB m:Nat} {f:Nat→Nat→AV} (Mp:bB≠0) (hy:ec s y (dr v id m bB)) (hb:s.H id=some (.row v bB m f)) (hc:∀ i j,i < m→j < bB→(f i j).My=false):Src P s y bB m f []:=by
 intro w F O μ K ft act hs
 obtain ⟨A,cap,g,S,h1,h2,h3,h4,h5⟩:=Y6 (P:=P) Mp hy hb w F O μ K ft act hs
 exact ⟨A,cap,g,fun _ _ _=>False,h1,h2,fun i j hi hj=>⟨.KR _ _ _ ((h3 i j hi hj).1.closed (hc i j hi hj)).1 fun _ h=>h,(h3 i j hi hj).2⟩,fun _ _ _ _ _ _ _ _ _ h=>h.elim,fun _ _ _ _ _ h=>h.elim⟩
inductive Dst (s:fU) (x:Operand) (bB:Nat):Bool→Nat→(Nat→Nat→AV)→List Nat→Prop
 | ff (e:Nat→Nat→AV) (hx:ec s x .ff):Dst s x bB true 0 e []
 | own (v:Bool) (id n:Nat) (e:Nat→Nat→AV) (hx:ec s x (dr v id n bB)) (hb:s.H id=some (.row v bB n e)):Dst s x bB v n e [id]
theorem uQ {v:Bool} {id n bB:Nat} {u:Value} (hv:VR w F μ K (dr v id n bB) u):
  ((∃ a,u=.slice a 0 0)∧n=0∧v=true)∨∃ cap sz t,u=.slice (some ⟨μ id,0,none⟩) n cap∧n≤cap∧K id∧w.shape? (μ id)=some (t,sz)∧cap*bB≤sz∧(v=true→n≠0):=by
 cases v with
 | false=>cases hv with | ms id i n bB cap sz t cb hc hs fL=>exact .inr ⟨cap,sz,t,by simp,hc,cb,hs,by simpa using fL,fun h=>by cases h⟩
 | true=>cases hv with
  | vs id n bB cap sz t hn cb hc hs fL=>exact .inr ⟨cap,sz,t,rfl,hc,cb,hs,fL,fun _=>hn⟩
  | xV id bB a=>exact .inl ⟨⟨a,rfl⟩,rfl,rfl⟩
theorem PQ {v:Bool} {id n bB cap sz:Nat} {t:TypeId} (cb:K id) (hc:n≤cap) (hs:w.shape? (μ id)=some (t,sz)) (fL:cap*bB≤sz) (hn:v=true→n≠0):VR w F μ K (dr v id n bB) (.slice (some ⟨μ id,0,none⟩) n cap):=by
 cases v with
 | false=>
  have:=VR.ms (w:=w) (F:=F) (μ:=μ) (K:=K) id 0 n bB cap sz t cb hc hs (by simpa using fL)
  simpa [dr] using this
 | true=>exact .vs id n bB cap sz t (hn rfl) cb hc hs fL
theorem Y7 {b b0:Nat} {bB n m:Nat} {e f e':Nat→Nat→AV} {cs cs':Array Value} {g:Nat→Nat→Value} {S1 S2:Nat→Nat→Nat→Prop} {T1:Nat→Prop}
  (he:n=0∨PE b0 cs bB n S1 T1 fun T i j v=>jO w F μ T (e i j) v)
  (hf:∀ i j,i < m→j < bB→jO w F μ (S2 i j) (f i j) (g i j)∧(g i j).oneCell'=true)
  (hd:∀ i j i' j',i < m→j < bB→i' < m→j' < bB→∀ x,S2 i j x→S2 i' j' x→i=i'∧j=j')
  (hx:n≠0→∀ i j,i < m→j < bB→∀ x,S2 i j x→¬ T1 x) (EX:n≠0→∀ i j,i < n→j < bB→¬ S1 i j b) (EY:∀ i j,i < m→j < bB→¬ S2 i j b)
  (h1:∀ k,k < n*bB→cs'.getD k undef=cs.getD k undef) (h2:∀ i j,i < m→j < bB→cs'.getD ((n+i)*bB+j) undef=g i j) (fL:(n+m)*bB≤cs'.size)
  (VS:∀ i j,i < n+m→j < bB→e' i j=if i < n then e i j else f (i-n) j):
  ∃ S T,(∀ x,T x→x=b∨(n≠0∧T1 x∧x≠b0)∨∃ i j,i < m∧j < bB∧S2 i j x)∧T b∧PE b cs' bB (n+m) S T fun T i j v=>jO w F μ T (e' i j) v:=by
 let S:Nat→Nat→Nat→Prop:=fun i j x=>(i < n∧S1 i j x)∨(n≤i∧S2 (i-n) j x)
 have row:∀ i,i < n→PE b0 cs bB n S1 T1 fun T i j v=>jO w F μ T (e i j) v:=fun i hi=>he.resolve_left (by omega)
 refine ⟨S,fun x=>x=b∨∃ i j,i < n+m∧j < bB∧S i j x,?_,.inl rfl,{ size:=fL,cell:=fun i j hi hj=>?_,dj:=?_,nb:=?_,all:=fun _=>Iff.rfl }⟩
 ·rintro x (h | ⟨i,j,hi,hj,⟨h3,h4⟩ | ⟨h3,h4⟩⟩)
  ·exact .inl h
  ·exact .inr (.inl ⟨by omega,((row i h3).all x).2 (.inr ⟨i,j,h3,hj,h4⟩),fun e=>(row i h3).nb i j h3 hj (e▸h4)⟩)
  ·exact .inr (.inr ⟨i-n,j,by omega,hj,h4⟩)
 ·rw [VS i j hi hj]
  by_cases h:i < n
  ·rw [if_pos h]
   have h3:(i+1)*bB≤n*bB:=Nat.mul_le_mul_right _ h
   rw [Nat.add_mul,Nat.one_mul] at h3
   rw [h1 _ (by omega)]
   have eS:S i j=S1 i j:=by
    funext x
    simp only [S,eq_iff_iff]
    exact ⟨fun k=>k.elim (fun k=>k.2) fun k=>by omega,fun k=>.inl ⟨h,k⟩⟩
   rw [eS]
   exact (row i h).cell i j h hj
  ·rw [if_neg h]
   have:=h2 (i-n) j (by omega) hj
   rw [show n+(i-n)=i by omega] at this
   rw [this]
   have eS:S i j=S2 (i-n) j:=by
    funext x
    simp only [S,eq_iff_iff]
    exact ⟨fun k=>k.elim (fun k=>absurd k.1 h) fun k=>k.2,fun k=>.inr ⟨by omega,k⟩⟩
   rw [eS]
   exact hf (i-n) j (by omega) hj
 ·rintro i j i' j' hi hj c9 ko x (⟨h3,h4⟩ | ⟨h3,h4⟩) (⟨k3,k4⟩ | ⟨k3,k4⟩)
  ·exact (row i h3).dj i j i' j' h3 hj k3 ko x h4 k4
  ·exact absurd (((row i h3).all x).2 (.inr ⟨i,j,h3,hj,h4⟩)) (hx (by omega) (i'-n) j' (by omega) ko x k4)
  ·exact absurd (((row i' k3).all x).2 (.inr ⟨i',j',k3,ko,k4⟩)) (hx (by omega) (i-n) j (by omega) hj x h4)
  ·obtain ⟨q1,q2⟩:=hd (i-n) j (i'-n) j' (by omega) hj (by omega) ko x h4 k4
   exact ⟨by omega,q2⟩
 ·rintro i j hi hj (⟨h3,h4⟩ | ⟨h3,h4⟩)
  ·exact EX (by omega) i j h3 hj h4
  ·exact EY (i-n) j (by omega) hj h4
theorem aaD {o:Oper} {s:fU} {x y:Operand} {t u et:TypeId} {ti:TypeInfo} {nl:Bool} {n m:Nat} {e f e':Nat→Nat→AV} {D L:List Nat} {eu:TypeId} {z:Value} {N:Nat}
  (ho:o.op=.call ⟨.builtin .append,#[x,y],#[t,u]⟩) (ht:P.underlying t=some (.slice et)) (hu:P.underlying u=some (.slice eu)) (hi:P.info? et=some ti) (hz:ti.zero=some z) (Mp:ti.size≠0) (hzs:z.cells.size=ti.size)
  (hd:Dst s x ti.size nl n e D) (hs:Src P s y ti.size m f L) (hDL:∀ id,id∈D→id ∉ L) (hb:(n+m)*ti.bytes≤70368744177664) (EY:n+m≤70368744177664) (hb3:ti.bytes≤4294967296)
  (VS:∀ i j,i < n+m→j < ti.size→e' i j=if i < n then e i j else f (i-n) j):
  de P o s ⟨dr nl N (n+m) ti.size,(N,some (.row nl ti.size (n+m) e'))::gX (D++L),[N]⟩:=by
 intro w F O μ K ft a iJ hn Kn Q hk
 have hN:¬ K N:=hn N (by simp)
 obtain ⟨B,aaE,g,S2,hvy,hg1,YF,hg3,hg4⟩:=hs _ _ _ _ _ _ _ iJ
 have Ml:∀ v,v∈flat ti.size m g→v.oneCell'=true:=by
  intro v hv
  simp only [flat,List.mem_map,List.mem_range] at hv
  obtain ⟨k,hk,rfl⟩:=hv
  exact (YF _ _ (Nat.div_lt_of_lt_mul (by rw [Nat.mul_comm];exact hk)) (Nat.mod_lt _ (by omega))).2
 have hS2:∀ i j,i < m→j < ti.size→∀ x,S2 i j x→x < w.heap.size:=fun i j hi hj x hx=>by
  obtain ⟨id,_,h2,h3,_⟩:=hg4 i j hi hj x hx
  exact iJ.hr.rH x (iJ.hr.own id h2 x h3)
 obtain ⟨A,cap,hvx,ahH,hA⟩:∃ A cap,a.eval x=.slice A n cap∧n≤cap∧((n=0∧cap=0∧nl=true)∨
   ∃ id cs t' S1,D=[id]∧A=some ⟨μ id,0,none⟩∧s.H id=some (.row nl ti.size n e)∧(kq.row nl ti.size n e).fa=true∧w.heap[μ id]?=some (.cells cs t' (0,0))∧cap*ti.size≤cs.size∧
    (nl=true→n≠0)∧PE (μ id) cs ti.size n S1 (ft id) fun T i j v=>jO w F μ T (e i j) v):=by
  cases hd with
  | ff e hx=>exact ⟨none,0,(hx iJ).pY,Nat.le_refl _,.inl ⟨rfl,rfl,rfl⟩⟩
  | own v id n e hx hbk=>
   rcases uQ (hx iJ) with ⟨⟨a0,h1⟩,h2,h3⟩ | ⟨cap,sz,t',h1,h2,cb,h4,h5,h6⟩
   ·exact ⟨a0,0,h2▸h1,by omega,.inl ⟨h2,rfl,h3⟩⟩
   ·have hl:(kq.row nl ti.size n e).fa=true:=by
     cases nl with
     | false=>rfl
     | true=>simpa [kq.fa] using h6 rfl
    obtain ⟨ob,qR,cs,t2,S1,rfl,hB⟩:=iJ.hr.dw id _ hbk hl
    refine ⟨_,cap,h1,h2,.inr ⟨id,cs,t2,S1,rfl,rfl,hbk,hl,qR,?_,h6,hB⟩⟩
    simp only [World.shape?,qR,Option.some.injEq,Prod.mk.injEq] at h4
    rw [h4.2];exact h5
 have ajU:∀ id,s.H.live id→id≠N:=fun id hl e=>hN (e▸iJ.hr.qS hl)
 unfold Oper.wp
 have pre:(execOp a.eval o).run P w=((Builtin.append_ #[t,u] o.type #[.slice A n cap,.slice B m aaE]).run P w).andThen fun v w'=>.ok (.value v) w':=by
  simp [execOp,ho,resolve,invoke,builtin,hvx,hvy]
 have c1:¬ ((9223372036854775807:Int) < ↑n+↑m∧ti.bytes=0):=by intro h;omega
 have c2:n+m > cap→¬ 281474976710656 < Builtin.nextslicecap (n+m) cap*ti.bytes:=by
  intro hc
  have h1:=Nat.mul_le_mul_right ti.bytes (aaC (n+m) cap hc)
  rw [Nat.add_mul,Nat.mul_assoc] at h1
  omega
 rw [pre]
 by_cases hle:n+m≤cap
 ·rcases hA with ⟨rfl,rfl,rfl⟩ | ⟨id,cs,t',S1,rfl,rfl,hH,hl,hc,ER,Nw,hB⟩
  ·
   obtain rfl:m=0:=by omega
   have mb:(Builtin.append_ #[t,u] o.type #[.slice A 0 0,.slice B 0 aaE]).run P w=.ok (.slice A 0 0) w:=by
    have e0:flat ti.size 0 g=[]:=by simp [flat]
    have h0:=hg1 w rfl
    rw [e0] at h0
    simp only [Builtin.append_]
    simp [ct ht,gY hi,ct hu,Builtin.lenOf,h0]
    cases A<;>simp [storeCells]
   rw [mb,Result.andThen_ok,Oper.upon_value]
   obtain ⟨k1,k2⟩:=G3 (bB:=ti.size) (e:=e') (iJ.hr.ahz (VG s.H (D++L))) hN
   have e1:(s.H.c_ (gX (D++L))).c_ [(N,some (.row true ti.size 0 e'))]=s.H.c_ ((N,some (.row true ti.size (0+0) e'))::gX (D++L)):=by
    funext id;rfl
   rw [e1] at k1
   exact hk _ w F O _ ft (.xV _ _ _) k1 k2
  ·have dQ:μ id < w.heap.size:=iJ.hr.lt id (iJ.hr.known _ _ hH)
   have h5:(n+m)*ti.size≤cs.size:=Nat.le_trans (Nat.mul_le_mul_right _ hle) ER
   have wq:=tn (P:=P) (b:=μ id) (o:=0+n*ti.size) (t:=t') (flat ti.size m g) 0 w cs hc Ml (by rw [fT];rw [Nat.add_mul] at h5;omega)
   have mb:(Builtin.append_ #[t,u] o.type #[.slice (some ⟨μ id,0,none⟩) n cap,.slice B m aaE]).run P w=.ok (.slice (some ⟨μ id,0,none⟩) (n+m) cap) (jP w (μ id) (.cells (tl cs (n*ti.size) (flat ti.size m g)) t' (0,0))):=by
    simp only [Builtin.append_]
    simp [ct ht,gY hi,ct hu,Builtin.lenOf,hle,hg1 w rfl,zU]
    have:(storeCells ⟨μ id,n*ti.size,none⟩ (flat ti.size m g)).run P w=.ok () (jP w (μ id) (.cells (tl cs (n*ti.size) (flat ti.size m g)) t' (0,0))):=by simpa using wq
    rw [this];rfl
   rw [mb,Result.andThen_ok,Oper.upon_value]
   have hs1:n*ti.size+(flat ti.size m g).length≤cs.size:=by rw [fT];rw [Nat.add_mul] at h5;omega
   have iM:s.H.live id:=⟨_,hH,hl⟩
   have N7:id ∉ L:=hDL id (by simp)
   have ahI:∀ i j,i < m→j < ti.size→∀ x,S2 i j x→¬ ft id x:=fun i j hi hj x hx ll=>by
    obtain ⟨Dv,q1,q2,q3,_⟩:=hg4 i j hi hj x hx
    have:=iJ.hr.dj Dv id q2 iM x q3 ll
    exact N7 (this▸q1)
   obtain ⟨S,T,hT,hTb,da⟩:=Y7 (b:=μ id) (b0:=μ id) (e':=e') (cs':=tl cs (n*ti.size) (flat ti.size m g)) (.inr hB) YF hg3 (fun _=>ahI) (fun _ i j hi hj=>hB.nb i j hi hj)
    (fun i j hi hj hx=>ahI i j hi hj _ hx (iJ.hr.self id iM)) (fun k hk=>by rw [uP _ _ _ hs1,if_neg (by omega)]) (fun i j hi hj=>by
     rw [uP _ _ _ hs1,fT]
     have h6:(i+1)*ti.size≤m*ti.size:=Nat.mul_le_mul_right _ hi
     rw [Nat.add_mul,Nat.one_mul] at h6
     rw [Nat.add_mul,if_pos (by omega),show n*ti.size+i*ti.size+j-n*ti.size=i*ti.size+j by omega]
     exact K8 hi hj) (by rw [iX];exact h5) VS
   obtain ⟨O',b8,k1,k2⟩:=aay (L:=L) (S:=T) (b':=.row nl ti.size (n+m) e') iJ.hr hN hH hl hc (wz (iX _ _ _))
    (fun x hx=>by
     rcases hT x hx with h | ⟨_,h,_⟩ | ⟨i,j,hi,hj,h⟩
     ·exact ⟨id,.inl rfl,iM,h▸iJ.hr.self id iM⟩
     ·exact ⟨id,.inl rfl,iM,h⟩
     ·obtain ⟨Dv,q1,q2,q3,_⟩:=hg4 i j hi hj x h
      exact ⟨Dv,.inr q1,q2,q3⟩) hTb ⟨_,t',S,rfl,da⟩
   refine hk _ _ F O' _ b8 ?_ k1 k2
   have tA:(jP w (μ id) (.cells (tl cs (n*ti.size) (flat ti.size m g)) t' (0,0))).shape? (KV μ N (μ id) N)=some (t',cs.size):=by
    rw [iI];simp [World.shape?,yo dQ,iX]
   have:=PQ (v:=nl) (w:=jP w (μ id) (.cells (tl cs (n*ti.size) (flat ti.size m g)) t' (0,0))) (F:=F) (μ:=KV μ N (μ id)) (K:=plus K [N]) (id:=N) (n:=n+m) (bB:=ti.size) (cap:=cap) (.inr (by simp)) hle tA ER (fun h=>by have:=Nw h;omega)
   rwa [iI] at this
 ·
  have hgt:n+m > cap:=Nat.lt_of_not_le hle
  obtain ⟨HN,cs0,b0,S1,T1,ho1,ho2,ae4,ajf,hT1⟩:∃ (HN cs0:Array Value) (b0:Nat) (S1:Nat→Nat→Nat→Prop) (T1:Nat→Prop),(∀ w',w'.heap=w.heap→(Builtin.firstCells ti.size n (.slice A n cap)).run P w'=.ok HN w')∧HN.size=n*ti.size∧
    (n=0∨PE b0 cs0 ti.size n S1 T1 fun T i j v=>jO w F μ T (e i j) v)∧(∀ k,k < n*ti.size→HN.getD k undef=cs0.getD k undef)∧(n≠0→∃ id,D=[id]∧s.H.live id∧T1=ft id):=by
   rcases hA with ⟨rfl,rfl,rfl⟩ | ⟨id,cs,t',S1,ajg,rfl,hH,hl,hc,ER,Nw,hB⟩
   ·exact ⟨#[],#[],0,fun _ _ _=>False,fun _=>False,fun w' _=>by cases A<;>simp [Builtin.firstCells,loadCells,loadCellsFrom],by simp,.inl rfl,fun k hk=>by omega,fun h=>absurd rfl h⟩
   ·have h5:n*ti.size≤cs.size:=Nat.le_trans (Nat.mul_le_mul_right _ ahH) ER
    refine ⟨⟨flat ti.size n fun i j=>cs.getD (i*ti.size+j) undef⟩,cs,μ id,S1,ft id,fun w' hw'=>zW Mp (fun i j hi hj=>?_) _ _,by simp [fT],.inr hB,fun k hk=>?_,fun _=>⟨id,ajg,⟨_,hH,hl⟩,rfl⟩⟩
    ·have h6:(i+1)*ti.size≤n*ti.size:=Nat.mul_le_mul_right _ hi
     rw [Nat.add_mul,Nat.one_mul] at h6
     have:i*ti.size+j < cs.size:=by omega
     simp [World.cell?,hw',hc,this]
    ·have hq:k / ti.size < n:=Nat.div_lt_of_lt_mul (by rw [Nat.mul_comm];exact hk)
     have hr2:k % ti.size < ti.size:=Nat.mod_lt _ (by omega)
     have:=K8 (u:=fun i j=>cs.getD (i*ti.size+j) undef) hq hr2
     have e2:k / ti.size*ti.size+k % ti.size=k:=by rw [Nat.mul_comm];exact Nat.div_add_mod k ti.size
     rw [e2] at this
     rw [← jE]
     exact this
  obtain ⟨nc,hnc⟩:∃ nc,nc=(Question.appendCap (n+m) cap et).cut (w.tape w.drawn (Question.appendCap (n+m) cap et)):=⟨_,rfl⟩
  have ahJ:n+m≤nc:=by rw [hnc];exact Nat.le_add_right _ _
  obtain ⟨cs,ER⟩:∃ cs:Array Value,cs=HN++(⟨flat ti.size m g⟩++Builtin.zeroCells z.cells (nc-(n+m))):=⟨_,rfl⟩
  have mb:(Builtin.append_ #[t,u] o.type #[.slice A n cap,.slice B m aaE]).run P w=.ok (.slice (some ⟨w.heap.size,0,none⟩) (n+m) nc) (({ w with drawn:=w.drawn+1 }:World).alloc (.cells cs et)):=by
   have hf:(Question.appendCap (n+m) cap et).forced=false:=rfl
   simp only [Builtin.append_]
   simp [ct ht,gY hi,ct hu,Builtin.lenOf,hle,Oh hi,c1,c2 hgt,hf,ho1 w.drew rfl,hg1 w.drew rfl,TN hi hz,newRow,← hnc]
   rw [ER]
  rw [mb,Result.andThen_ok,Oper.upon_value]
  have hfl:(⟨flat ti.size m g⟩:Array Value).size=m*ti.size:=by simp [fT]
  have hx2:n≠0→∀ i j,i < m→j < ti.size→∀ x,S2 i j x→¬ T1 x:=fun hn i j hi hj x hx ll=>by
   obtain ⟨id,q0,iM,q⟩:=hT1 hn
   rw [q] at ll
   obtain ⟨Dv,q1,q2,q3,_⟩:=hg4 i j hi hj x hx
   have:=iJ.hr.dj Dv id q2 iM x q3 ll
   exact hDL id (by simp [q0]) (this▸q1)
  obtain ⟨S,T,hT,hTb,da⟩:=Y7 (b:=w.heap.size) (b0:=b0) (e':=e') (cs':=cs) ae4 YF hg3 hx2 (fun hn i j hi hj hx=>by
    obtain ⟨id,_,iM,q⟩:=hT1 hn
    have hB:=ae4.resolve_left hn
    have h1:=(hB.all _).2 (.inr ⟨i,j,hi,hj,hx⟩)
    rw [q] at h1
    have:=iJ.hr.rH _ (iJ.hr.own id iM _ h1)
    omega) (fun i j hi hj hx=>by have:=hS2 i j hi hj _ hx;omega) (fun k hk=>by
    rw [ER,← ajf k hk]
    have:k < HN.size:=by omega
    simp [Array.getElem?_append,this]) (fun i j hi hj=>by
    rw [ER]
    have h6:(i+1)*ti.size≤m*ti.size:=Nat.mul_le_mul_right _ hi
    rw [Nat.add_mul,Nat.one_mul] at h6
    have h7:¬ (n+i)*ti.size+j < HN.size:=by rw [ho2,Nat.add_mul];omega
    have h8:(n+i)*ti.size+j-HN.size=i*ti.size+j:=by rw [ho2,Nat.add_mul];omega
    have h9:i*ti.size+j < (flat ti.size m g).length:=by rw [fT];omega
    have:=K8 (u:=g) hi hj
    simp only [List.getD] at this
    simp [Array.getElem?_append,h7,h8,h9]
    simpa [h9] using this) (by
    rw [ER]
    simp only [Array.size_append,hfl,ho2]
    rw [Nat.add_mul];omega) VS
  have Ky:HR ({ w with drawn:=w.drawn+1 }:World) F O μ K s.H ft:=iJ.hr.drew _
  obtain ⟨O',b8,k1,k2⟩:=JC (w:={ w with drawn:=w.drawn+1 }) (L:=D++L) (S:=T) (o:=.cells cs et) (b:=.row nl ti.size (n+m) e') Ky hN (fun x hx=>by
    rcases hT x hx with h | ⟨hn,h,_⟩ | ⟨i,j,hi,hj,h⟩
    ·exact .inl h
    ·obtain ⟨id,q0,q1,q2⟩:=hT1 hn
     exact .inr ⟨id,by simp [q0],q1,q2▸h⟩
    ·obtain ⟨Dv,q1,q2,q3,_⟩:=hg4 i j hi hj x h
     exact .inr ⟨Dv,by simp [q1],q2,q3⟩) hTb
   (h_.mono (w:=w) (F:=F) (μ:=μ) (K:=K) (o:=.cells cs et) (B:=.row nl ti.size (n+m) e') ⟨cs,et,S,rfl,da⟩ (fun _ _=>rfl) (fun _ h=>h) (fun _ _=>rfl) (fun _ h=>h) (fun _ _=>rfl) fun _ _ _=>rfl)
  refine hk _ _ F O' _ b8 ?_ k1 ((Fr.drew _).trans k2)
  have fL:nc*ti.size≤cs.size:=by
   have VQ:(Builtin.zeroCells z.cells (nc-(n+m))).size=(nc-(n+m))*ti.size:=by
    rw [← hzs];simp [Builtin.zeroCells]
   rw [ER]
   simp only [Array.size_append,VQ,ho2]
   rw [hfl,← Nat.add_mul,← Nat.add_mul]
   exact Nat.mul_le_mul_right _ (by omega)
  have tA:(({ w with drawn:=w.drawn+1 }:World).alloc (.cells cs et)).shape? (KV μ N w.heap.size N)=some (et,cs.size):=by
   rw [iI]
   have:=Gh ({ w with drawn:=w.drawn+1 }:World) (.cells cs et)
   unfold World.shape?
   rw [show w.heap.size=({ w with drawn:=w.drawn+1 }:World).heap.size from rfl,this]
  have:=PQ (v:=nl) (w:=({ w with drawn:=w.drawn+1 }:World).alloc (.cells cs et)) (F:=F) (μ:=KV μ N w.heap.size) (K:=plus K [N]) (id:=N) (n:=n+m) (bB:=ti.size) (cap:=nc) (.inr (by simp)) ahJ tA fL (fun _=>by omega)
  rwa [iI] at this
theorem adO {o:Oper} {s:fU} {x y:Operand} {t u et:TypeId} {ti:TypeInfo} {v:Bool} {id n:Nat} {e f:Nat→Nat→AV}
  (ho:o.op=.call ⟨.builtin .copy,#[x,y],#[t,u]⟩) (ht:P.underlying t=some (.slice et)) (hi:P.info? et=some ti) (Mp:ti.size≠0)
  (hx:ec s x (dr v id n ti.size)) (hb:s.H id=some (.row v ti.size n e)) (hs:Src P s y ti.size n f []) (QR:∀ i j,i < n→j < ti.size→(f i j).My=false):
  de P o s ⟨.int .i64 n,[(id,some (.row v ti.size n f))],[]⟩:=by
 intro w F O μ K ft a iJ _ Kn Q hk
 obtain ⟨B,aaE,g,S2,hvy,hg1,YF,hg3,hg4⟩:=hs _ _ _ _ _ _ _ iJ
 unfold Oper.wp
 rcases uQ (hx iJ) with ⟨⟨a0,h1⟩,rfl,rfl⟩ | ⟨cap,sz,t',h1,h2,cb,h4,h5,h6⟩
 ·have mb:(execOp a.eval o).run P w=.ok (.value (.int .i64 0)) w:=by
   have e0:flat ti.size 0 g=[]:=by simp [flat]
   have:=hg1 w rfl
   rw [e0] at this
   cases a0<;>simp [execOp,ho,resolve,invoke,builtin,h1,hvy,Builtin.copy_,ct ht,gY hi,Builtin.lenOf,this,goInt,storeCells]
  rw [mb,Oper.upon_value]
  have e1:(kq.row true ti.size 0 f).fa=false:=rfl
  have XP:s.H.c_ [(id,some (.row true ti.size 0 f))]=fun k=>if k=id then some (.row true ti.size 0 f) else s.H k:=rfl
  have gx:∀ k,(s.H.c_ [(id,some (.row true ti.size 0 f))]).live k→k≠id∧s.H.live k:=by
   rintro k ⟨b,cu,hl⟩
   rw [Hp.Dr] at cu
   split at cu
   ·cases cu;cases hl
   ·exact ⟨‹_›,b,cu,hl⟩
  refine hk _ w F O μ ft (.int _ _) ?_ (Fr.refl w F O μ K)
  rw [jC]
  refine { iJ.hr with known:=?_,dw:=?_,self:=fun k hl=>iJ.hr.self k (gx k hl).2,own:=fun k hl=>iJ.hr.own k (gx k hl).2,dj:=fun k k' hl Ds=>iJ.hr.dj k k' (gx k hl).2 (gx k' Ds).2 }
  ·intro k b cu
   rw [Hp.Dr] at cu
   split at cu
   ·rename_i e;subst e;exact iJ.hr.known _ _ hb
   ·exact iJ.hr.known _ _ cu
  ·intro k b cu hl
   rw [Hp.Dr] at cu
   split at cu
   ·cases cu;cases hl
   ·exact iJ.hr.dw k b cu hl
 ·have hl:(kq.row v ti.size n e).fa=true:=by
   cases v with
   | false=>rfl
   | true=>simpa [kq.fa] using h6 rfl
  have iM:s.H.live id:=⟨_,hb,hl⟩
  obtain ⟨ob,qR,cs,t2,S1,rfl,hB⟩:=iJ.hr.dw id _ hb hl
  have ER:cap*ti.size≤cs.size:=by
   simp only [World.shape?,qR,Option.some.injEq,Prod.mk.injEq] at h4
   rw [h4.2];exact h5
  have h5':n*ti.size≤cs.size:=Nat.le_trans (Nat.mul_le_mul_right _ h2) ER
  have Ml:∀ v,v∈flat ti.size n g→v.oneCell'=true:=by
   intro v hv
   simp only [flat,List.mem_map,List.mem_range] at hv
   obtain ⟨k,hk,rfl⟩:=hv
   exact (YF _ _ (Nat.div_lt_of_lt_mul (by rw [Nat.mul_comm];exact hk)) (Nat.mod_lt _ (by omega))).2
  have wq:=tn (P:=P) (b:=μ id) (o:=0) (t:=t2) (flat ti.size n g) 0 w cs qR Ml (by rw [fT];omega)
  have mb:(execOp a.eval o).run P w=.ok (.value (.int .i64 n)) (jP w (μ id) (.cells (tl cs 0 (flat ti.size n g)) t2 (0,0))):=by
   have:(storeCells ⟨μ id,0,none⟩ (flat ti.size n g)).run P w=.ok () (jP w (μ id) (.cells (tl cs 0 (flat ti.size n g)) t2 (0,0))):=by simpa using wq
   have h1:(Builtin.copy_ #[t,u] o.type #[.slice (some ⟨μ id,0,none⟩) n cap,.slice B n aaE]).run P w=.ok (.int .i64 n) (jP w (μ id) (.cells (tl cs 0 (flat ti.size n g)) t2 (0,0))):=by
    simp only [Builtin.copy_]
    simp [ct ht,gY hi,Builtin.lenOf,hg1 w rfl]
    rw [this]
    rfl
   simp [execOp,ho,resolve,invoke,builtin, *]
  rw [mb,Oper.upon_value]
  have hs1:0+(flat ti.size n g).length≤cs.size:=by rw [fT];omega
  have PK:h_ w F μ K (fun x=>x=μ id) (μ id) (.cells (tl cs 0 (flat ti.size n g)) t2 (0,0)) (.row v ti.size n f):=by
   refine XM (by rw [iX];exact h5') fun i j hi hj=>?_
   have h6:(i+1)*ti.size≤n*ti.size:=Nat.mul_le_mul_right _ hi
   rw [Nat.add_mul,Nat.one_mul] at h6
   rw [uP _ _ _ hs1,fT,if_pos (by omega),Nat.sub_zero,K8 hi hj]
   refine ⟨?_,(YF i j hi hj).2⟩
   exact ((YF i j hi hj).1.closed (QR i j hi hj)).1
  obtain ⟨O',b8,k1,k2⟩:=ma (L:=[]) iJ.hr hb hl qR (wz (iX _ _ _)) (by simp) (fun y (hy:y=μ id)=>⟨id,.inl rfl,iM,hy▸iJ.hr.self id iM⟩) rfl PK
  exact hk _ _ F O' μ b8 (.int _ _) (by rw [jC];exact k1) k2
end Go.Proofs.YtljfmaaadnoggaaGreatDoor.cX
