/- append, copy: a row of the call's own grows, or is written from another. No condition. -/
import Derived.Test.YtljfmaaadnoggaaGreatDoorVE
set_option linter.unusedSimpArgs false
set_option linter.unusedVariables false
namespace Go.Proofs.YtljfmaaadnoggaaGreatDoor.cU
open Go Go.RowKit
variable {w w' vP:World} {F F' Am O O' ux:Nat→Prop} {μ bB jV:Nat→Nat} {K K' DQ:Nat→Prop} {H H' H'':Hp} {ft b7:Nat→Nat→Prop} {P:Program}
def flat (aZ m:Nat) (u:Nat→Nat→Value):List Value:=(List.range (m*aZ)).map fun k=>u (k / aZ) (k % aZ)
theorem IM {aZ m:Nat} {u:Nat→Nat→Value} {i j:Nat} (hi:i < m) (hj:j < aZ):(flat aZ m u).getD (i*aZ+j) undef=u i j:=by
 have h2:(i+1)*aZ≤m*aZ:=Nat.mul_le_mul_right _ hi
 rw [Nat.add_mul,Nat.one_mul] at h2
 have h3:i*aZ+j < m*aZ:=by omega
 have h4:(i*aZ+j) / aZ=i:=by
  rw [Nat.add_comm,Nat.add_mul_div_right _ _ (by omega),Nat.div_eq_of_lt hj];omega
 simp [flat,List.getD,h3,h4,II hj]
theorem fx (aZ m:Nat) (u:Nat→Nat→Value):(flat aZ m u).length=m*aZ:=by simp [flat]
theorem xP {aZ m b o:Nat} {u:Nat→Nat→Value} (he:aZ≠0) (h:∀ i j,i < m→j < aZ→w.cell? ⟨b,o+i*aZ+j,none⟩=some (u i j)) (cap:Nat) (L:Nat):
  (Builtin.firstCells aZ m (.slice (some ⟨b,o,none⟩) L cap)).run P w=.ok ⟨flat aZ m u⟩ w:=by
 simp only [Builtin.firstCells]
 rw [run_loadCells w _ _ (fun k=>u (k / aZ) (k % aZ)) fun k hk=>?_]
 ·rfl
 ·rw [xN]
  have h1:k / aZ < m:=Nat.div_lt_of_lt_mul (by rw [Nat.mul_comm];exact hk)
  have h2:k % aZ < aZ:=Nat.mod_lt _ (by omega)
  have:=h (k / aZ) (k % aZ) h1 h2
  rw [Nat.add_assoc] at this
  have e:k / aZ*aZ+k % aZ=k:=by rw [Nat.mul_comm];exact Nat.div_add_mod k aZ
  rwa [e] at this
theorem Xo (UO cap:Nat) (h:cap < UO):Builtin.nextslicecap UO cap≤2*UO+768:=by
 unfold Builtin.nextslicecap
 split
 ·omega
 ·split
  ·omega
  ·have:∀ (r c:Nat),c≤UO→Builtin.growBy UO r c≤2*UO+768:=by
    intro r
    induction r with
    | zero=>intro c hc;simp only [Builtin.growBy];omega
    | succ r ih=>
     intro c hc
     simp only [Builtin.growBy]
     split
     ·omega
     ·rename_i dL
      by_cases h2:c+(c+768) / 4≤UO
      ·exact ih _ h2
      ·cases r with
       | zero=>simp only [Builtin.growBy];omega
       | succ r=>
        simp only [Builtin.growBy]
        rw [if_pos (by omega)]
        omega
   exact this 4 cap (by omega)
def Src (P:Program) (s:fy) (y:Operand) (aZ m:Nat) (f:Nat→Nat→AV) (L:List Nat):Prop:=
 ∀ w F O μ K ft act,SR w F O μ K s ft act→∃ (A:Option Addr) (cap:Nat) (g:Nat→Nat→Value) (S:Nat→Nat→Nat→Prop),act.eval y=.slice A m cap∧(∀ w',w'.heap=w.heap→(Builtin.firstCells aZ m (.slice A m cap)).run P w'=.ok ⟨flat aZ m g⟩ w')∧
  (∀ i j,i < m→j < aZ→iW w F μ (S i j) (f i j) (g i j)∧(g i j).oneCell'=true)∧
  (∀ i j i' j',i < m→j < aZ→i' < m→j' < aZ→∀ x,S i j x→S i' j' x→i=i'∧j=j')∧
  ∀ i j,i < m→j < aZ→∀ x,S i j x→∃ id,id∈L∧s.H.live id∧ft id x∧x≠μ id
theorem Nb {s:fy} {y:Operand} {aZ m:Nat} {f:Nat→Nat→AV} (J5:aZ≠0) (h:∀ {w F O μ K ft act},SR w F O μ K s ft act→∃ A cap,act.eval y=.slice A m cap∧(m=0∨∃ (b o:Nat) (u:Nat→Nat→Value),A=some ⟨b,o,none⟩∧
  ∀ i j,i < m→j < aZ→w.cell? ⟨b,o+i*aZ+j,none⟩=some (u i j)∧VR w F μ B_ (f i j) (u i j)∧(u i j).oneCell'=true)) (L:List Nat):Src P s y aZ m f L:=by
 intro w F O μ K ft act hs
 obtain ⟨A,cap,F_,hA⟩:=h hs
 rcases hA with rfl | ⟨b,o,u,rfl,hu⟩
 ·refine ⟨A,cap,fun _ _=>undef,fun _ _ _=>False,F_,fun w' _=>?_,fun i j hi=>by omega,fun _ _ _ _ hi=>by omega,fun i j hi=>by omega⟩
  have e0:flat aZ 0 (fun _ _=>undef)=[]:=by simp [flat]
  rw [e0]
  cases A with
  | none=>simp [Builtin.firstCells]
  | some a=>simp [Builtin.firstCells,loadCells,loadCellsFrom]
 ·refine ⟨_,cap,u,fun _ _ _=>False,F_,fun w' Xp=>xP J5 (fun i j hi hj=>?_) _ _,fun i j hi hj=>⟨.Iy _ _ _ (hu i j hi hj).2.1 fun _ h=>h,(hu i j hi hj).2.2⟩,fun _ _ _ _ _ _ _ _ _ h=>h.elim,fun _ _ _ _ _ h=>h.elim⟩
  have:=(hu i j hi hj).1
  simp only [World.cell?] at this ⊢
  rw [Xp];exact this
theorem Zp {s:fy} {y:Operand} {aZ:Nat} (J5:aZ≠0) (hy:dT s y .eQ) (f:Nat→Nat→AV):Src P s y aZ 0 f []:=
 Nb J5 (fun hs=>⟨none,0,(hy hs).oD,.inl rfl⟩) []
theorem adh {s:fy} {y:Operand} {aZ m:Nat} {f:Nat→Nat→AV} (J5:aZ≠0) (hy:dT s y (.fs aZ m f)):Src P s y aZ m f []:=
 Nb J5 (fun {w F O μ K ft act} hs=>by
  have h:=hy hs
  generalize act.eval y=v at h
  cases h with
  | fs _ _ _ b o cap u hF hc hu hv=>exact ⟨_,cap,rfl,.inr ⟨b,o,u,rfl,fun i j hi hj=>⟨(hu i j hi hj).1,hv i j hi hj,(hu i j hi hj).2⟩⟩⟩
  | uw _ _ a cap=>exact ⟨a,cap,rfl,.inl rfl⟩) []
theorem VV {s:fy} {y:Operand} {v:Bool} {id aZ m:Nat} {f:Nat→Nat→AV} (J5:aZ≠0) (hy:dT s y (dd v id m aZ)) (hb:s.H id=some (.row v aZ m f)):Src P s y aZ m f [id]:=by
 intro w F O μ K ft act hs
 by_cases hm:m=0
 ·subst hm
  have F_:∃ A cap,act.eval y=.slice A 0 cap:=by
   have h:=hy hs
   generalize act.eval y=u at h
   cases v<;>simp only [dd] at h<;>cases h<;>exact ⟨_,_,rfl⟩
  obtain ⟨A,cap,F_⟩:=F_
  refine ⟨A,cap,fun _ _=>undef,fun _ _ _=>False,F_,fun w' _=>?_,fun i j hi=>by omega,fun _ _ _ _ hi=>by omega,fun i j hi=>by omega⟩
  have e0:flat aZ 0 (fun _ _=>undef)=[]:=by simp [flat]
  rw [e0]
  cases A with
  | none=>simp [Builtin.firstCells]
  | some a=>simp [Builtin.firstCells,loadCells,loadCellsFrom]
 ·obtain ⟨cap,F_,aen,bY⟩:=SK (hy hs) hm
  have hl:(ju.row v aZ m f).eI=true:=by cases v<;>simp [ju.eI];exact hm
  have ic:s.H.live id:=⟨_,hb,hl⟩
  obtain ⟨ob,rQ,cs,t,S,rfl,hB⟩:=hs.hr.di id _ hb hl
  refine ⟨_,cap,fun i j=>cs.getD (i*aZ+j) undef,S,F_,fun w' Xp=>xP J5 (fun i j hi hj=>?_) _ _,hB.cell,hB.dj,fun i j hi hj x hx=>⟨id,by simp,ic,(hB.all x).2 (.inr ⟨i,j,hi,hj,hx⟩),fun e=>hB.nb i j hi hj (e▸hx)⟩⟩
  have h6:(i+1)*aZ≤m*aZ:=Nat.mul_le_mul_right _ hi
  rw [Nat.add_mul,Nat.one_mul] at h6
  have fw:=hB.size
  have:i*aZ+j < cs.size:=by omega
  simp [World.cell?,Xp,rQ,this]
theorem aaV {s:fy} {y:Operand} {v:Bool} {id aZ m:Nat} {f:Nat→Nat→AV} (J5:aZ≠0) (hy:dT s y (dd v id m aZ)) (hb:s.H id=some (.row v aZ m f)) (hc:∀ i j,i < m→j < aZ→(f i j).Kc=false):Src P s y aZ m f []:=by
 intro w F O μ K ft act hs
 obtain ⟨A,cap,g,S,h1,h2,h3,h4,h5⟩:=VV (P:=P) J5 hy hb w F O μ K ft act hs
 exact ⟨A,cap,g,fun _ _ _=>False,h1,h2,fun i j hi hj=>⟨.Iy _ _ _ ((h3 i j hi hj).1.closed (hc i j hi hj)).1 fun _ h=>h,(h3 i j hi hj).2⟩,fun _ _ _ _ _ _ _ _ _ h=>h.elim,fun _ _ _ _ _ h=>h.elim⟩
inductive Dst (s:fy) (x:Operand) (aZ:Nat):Bool→Nat→(Nat→Nat→AV)→List Nat→Prop
 | eQ (e:Nat→Nat→AV) (hx:dT s x .eQ):Dst s x aZ true 0 e []
 | own (v:Bool) (id n:Nat) (e:Nat→Nat→AV) (hx:dT s x (dd v id n aZ)) (hb:s.H id=some (.row v aZ n e)):Dst s x aZ v n e [id]
theorem sS {v:Bool} {id n aZ:Nat} {u:Value} (hv:VR w F μ K (dd v id n aZ) u):
  ((∃ a,u=.slice a 0 0)∧n=0∧v=true)∨∃ cap sz t,u=.slice (some ⟨μ id,0,none⟩) n cap∧n≤cap∧K id∧w.shape? (μ id)=some (t,sz)∧cap*aZ≤sz∧(v=true→n≠0):=by
 cases v with
 | false=>cases hv with | ms id i n aZ cap sz t bY hc hs fw=>exact .inr ⟨cap,sz,t,by simp,hc,bY,hs,by simpa using fw,fun h=>by cases h⟩
 | true=>cases hv with
  | vs id n aZ cap sz t hn bY hc hs fw=>exact .inr ⟨cap,sz,t,rfl,hc,bY,hs,fw,fun _=>hn⟩
  | vO id aZ a=>exact .inl ⟨⟨a,rfl⟩,rfl,rfl⟩
theorem Nc {v:Bool} {id n aZ cap sz:Nat} {t:TypeId} (bY:K id) (hc:n≤cap) (hs:w.shape? (μ id)=some (t,sz)) (fw:cap*aZ≤sz) (hn:v=true→n≠0):VR w F μ K (dd v id n aZ) (.slice (some ⟨μ id,0,none⟩) n cap):=by
 cases v with
 | false=>
  have:=VR.ms (w:=w) (F:=F) (μ:=μ) (K:=K) id 0 n aZ cap sz t bY hc hs (by simpa using fw)
  simpa [dd] using this
 | true=>exact .vs id n aZ cap sz t (hn rfl) bY hc hs fw
theorem VW {b b0:Nat} {aZ n m:Nat} {e f e':Nat→Nat→AV} {cs cs':Array Value} {g:Nat→Nat→Value} {S1 S2:Nat→Nat→Nat→Prop} {T1:Nat→Prop}
  (he:n=0∨M1 b0 cs aZ n S1 T1 fun T i j v=>iW w F μ T (e i j) v)
  (hf:∀ i j,i < m→j < aZ→iW w F μ (S2 i j) (f i j) (g i j)∧(g i j).oneCell'=true)
  (hd:∀ i j i' j',i < m→j < aZ→i' < m→j' < aZ→∀ x,S2 i j x→S2 i' j' x→i=i'∧j=j')
  (hx:n≠0→∀ i j,i < m→j < aZ→∀ x,S2 i j x→¬ T1 x) (T8:n≠0→∀ i j,i < n→j < aZ→¬ S1 i j b) (OA:∀ i j,i < m→j < aZ→¬ S2 i j b)
  (h1:∀ k,k < n*aZ→cs'.getD k undef=cs.getD k undef) (h2:∀ i j,i < m→j < aZ→cs'.getD ((n+i)*aZ+j) undef=g i j) (fw:(n+m)*aZ≤cs'.size)
  (Yj:∀ i j,i < n+m→j < aZ→e' i j=if i < n then e i j else f (i-n) j):
  ∃ S T,(∀ x,T x→x=b∨(n≠0∧T1 x∧x≠b0)∨∃ i j,i < m∧j < aZ∧S2 i j x)∧T b∧M1 b cs' aZ (n+m) S T fun T i j v=>iW w F μ T (e' i j) v:=by
 let S:Nat→Nat→Nat→Prop:=fun i j x=>(i < n∧S1 i j x)∨(n≤i∧S2 (i-n) j x)
 have row:∀ i,i < n→M1 b0 cs aZ n S1 T1 fun T i j v=>iW w F μ T (e i j) v:=fun i hi=>he.resolve_left (by omega)
 refine ⟨S,fun x=>x=b∨∃ i j,i < n+m∧j < aZ∧S i j x,?_,.inl rfl,{ size:=fw,cell:=fun i j hi hj=>?_,dj:=?_,nb:=?_,all:=fun _=>Iff.rfl }⟩
 ·rintro x (h | ⟨i,j,hi,hj,⟨h3,h4⟩ | ⟨h3,h4⟩⟩)
  ·exact .inl h
  ·exact .inr (.inl ⟨by omega,((row i h3).all x).2 (.inr ⟨i,j,h3,hj,h4⟩),fun e=>(row i h3).nb i j h3 hj (e▸h4)⟩)
  ·exact .inr (.inr ⟨i-n,j,by omega,hj,h4⟩)
 ·rw [Yj i j hi hj]
  by_cases h:i < n
  ·rw [if_pos h]
   have h3:(i+1)*aZ≤n*aZ:=Nat.mul_le_mul_right _ h
   rw [Nat.add_mul,Nat.one_mul] at h3
   rw [h1 _ (by omega)]
   have eS:S i j=S1 i j:=by
    funext x
    simp only [S,eq_iff_iff]
    exact ⟨fun k=>k.elim (fun k=>k.2) fun k=>by omega,fun k=>.inl ⟨h,k⟩⟩
   rw [eS]
   exact (row i h).cell i j h hj
  ·rw [if_neg h]
   have:=h2 (i-n) j (by omega) hj
   rw [show n+(i-n)=i by omega] at this
   rw [this]
   have eS:S i j=S2 (i-n) j:=by
    funext x
    simp only [S,eq_iff_iff]
    exact ⟨fun k=>k.elim (fun k=>absurd k.1 h) fun k=>k.2,fun k=>.inr ⟨by omega,k⟩⟩
   rw [eS]
   exact hf (i-n) j (by omega) hj
 ·rintro i j i' j' hi hj c8 lu x (⟨h3,h4⟩ | ⟨h3,h4⟩) (⟨k3,k4⟩ | ⟨k3,k4⟩)
  ·exact (row i h3).dj i j i' j' h3 hj k3 lu x h4 k4
  ·exact absurd (((row i h3).all x).2 (.inr ⟨i,j,h3,hj,h4⟩)) (hx (by omega) (i'-n) j' (by omega) lu x k4)
  ·exact absurd (((row i' k3).all x).2 (.inr ⟨i',j',k3,lu,k4⟩)) (hx (by omega) (i-n) j (by omega) hj x h4)
  ·obtain ⟨q1,q2⟩:=hd (i-n) j (i'-n) j' (by omega) hj (by omega) lu x h4 k4
   exact ⟨by omega,q2⟩
 ·rintro i j hi hj (⟨h3,h4⟩ | ⟨h3,h4⟩)
  ·exact T8 (by omega) i j h3 hj h4
  ·exact OA (i-n) j (by omega) hj h4
theorem Xq {o:Oper} {s:fy} {x y:Operand} {t u et:TypeId} {ti:TypeInfo} {nl:Bool} {n m:Nat} {e f e':Nat→Nat→AV} {D L:List Nat} {eu:TypeId} {z:Value} {N:Nat}
  (ho:o.op=.call ⟨.builtin .append,#[x,y],#[t,u]⟩) (ht:P.underlying t=some (.slice et)) (hu:P.underlying u=some (.slice eu)) (hi:P.info? et=some ti) (hz:ti.zero=some z) (J5:ti.size≠0) (hzs:z.cells.size=ti.size)
  (hd:Dst s x ti.size nl n e D) (hs:Src P s y ti.size m f L) (hDL:∀ id,id∈D→id ∉ L) (hb:(n+m)*ti.bytes≤70368744177664) (OA:n+m≤70368744177664) (hb3:ti.bytes≤4294967296)
  (Yj:∀ i j,i < n+m→j < ti.size→e' i j=if i < n then e i j else f (i-n) j):
  db P o s ⟨dd nl N (n+m) ti.size,(N,some (.row nl ti.size (n+m) e'))::gx (D++L),[N]⟩:=by
 intro w F O μ K ft a g6 hn Kn Q hk
 have hN:¬ K N:=hn N (by simp)
 obtain ⟨B,Xr,g,S2,hvy,Yb,VD,hg3,hg4⟩:=hs _ _ _ _ _ _ _ g6
 have M9:∀ v,v∈flat ti.size m g→v.oneCell'=true:=by
  intro v hv
  simp only [flat,List.mem_map,List.mem_range] at hv
  obtain ⟨k,hk,rfl⟩:=hv
  exact (VD _ _ (Nat.div_lt_of_lt_mul (by rw [Nat.mul_comm];exact hk)) (Nat.mod_lt _ (by omega))).2
 have hS2:∀ i j,i < m→j < ti.size→∀ x,S2 i j x→x < w.heap.size:=fun i j hi hj x hx=>by
  obtain ⟨id,_,h2,h3,_⟩:=hg4 i j hi hj x hx
  exact g6.hr.p0 x (g6.hr.own id h2 x h3)
 obtain ⟨A,cap,hvx,aen,hA⟩:∃ A cap,a.eval x=.slice A n cap∧n≤cap∧((n=0∧cap=0∧nl=true)∨
   ∃ id cs t' S1,D=[id]∧A=some ⟨μ id,0,none⟩∧s.H id=some (.row nl ti.size n e)∧(ju.row nl ti.size n e).eI=true∧w.heap[μ id]?=some (.cells cs t' (0,0))∧cap*ti.size≤cs.size∧
    (nl=true→n≠0)∧M1 (μ id) cs ti.size n S1 (ft id) fun T i j v=>iW w F μ T (e i j) v):=by
  cases hd with
  | eQ e hx=>exact ⟨none,0,(hx g6).oD,Nat.le_refl _,.inl ⟨rfl,rfl,rfl⟩⟩
  | own v id n e hx hbk=>
   rcases sS (hx g6) with ⟨⟨a0,h1⟩,h2,h3⟩ | ⟨cap,sz,t',h1,h2,bY,h4,h5,h6⟩
   ·exact ⟨a0,0,h2▸h1,by omega,.inl ⟨h2,rfl,h3⟩⟩
   ·have hl:(ju.row nl ti.size n e).eI=true:=by
     cases nl with
     | false=>rfl
     | true=>simpa [ju.eI] using h6 rfl
    obtain ⟨ob,rQ,cs,t2,S1,rfl,hB⟩:=g6.hr.di id _ hbk hl
    refine ⟨_,cap,h1,h2,.inr ⟨id,cs,t2,S1,rfl,rfl,hbk,hl,rQ,?_,h6,hB⟩⟩
    simp only [World.shape?,rQ,Option.some.injEq,Prod.mk.injEq] at h4
    rw [h4.2];exact h5
 have agX:∀ id,s.H.live id→id≠N:=fun id hl e=>hN (e▸g6.hr.pw hl)
 unfold Oper.wp
 have pre:(execOp a.eval o).run P w=((Builtin.append_ #[t,u] o.type #[.slice A n cap,.slice B m Xr]).run P w).andThen fun v w'=>.ok (.value v) w':=by
  simp [execOp,ho,resolve,invoke,builtin,hvx,hvy]
 have c1:¬ ((9223372036854775807:Int) < ↑n+↑m∧ti.bytes=0):=by intro h;omega
 have c2:n+m > cap→¬ 281474976710656 < Builtin.nextslicecap (n+m) cap*ti.bytes:=by
  intro hc
  have h1:=Nat.mul_le_mul_right ti.bytes (Xo (n+m) cap hc)
  rw [Nat.add_mul,Nat.mul_assoc] at h1
  omega
 rw [pre]
 by_cases hle:n+m≤cap
 ·rcases hA with ⟨rfl,rfl,rfl⟩ | ⟨id,cs,t',S1,rfl,rfl,hH,hl,hc,CF,Lc,hB⟩
  ·
   obtain rfl:m=0:=by omega
   have lD:(Builtin.append_ #[t,u] o.type #[.slice A 0 0,.slice B 0 Xr]).run P w=.ok (.slice A 0 0) w:=by
    have e0:flat ti.size 0 g=[]:=by simp [flat]
    have h0:=Yb w rfl
    rw [e0] at h0
    simp only [Builtin.append_]
    simp [cl ht,gy hi,cl hu,Builtin.lenOf,h0]
    cases A<;>simp [storeCells]
   rw [lD,Result.andThen_ok,Oper.upon_value]
   obtain ⟨k1,k2⟩:=Eu (aZ:=ti.size) (e:=e') (g6.hr.aef (SG s.H (D++L))) hN
   have e1:(s.H.c7 (gx (D++L))).c7 [(N,some (.row true ti.size 0 e'))]=s.H.c7 ((N,some (.row true ti.size (0+0) e'))::gx (D++L)):=by
    funext id;rfl
   rw [e1] at k1
   exact hk _ w F O _ ft (.vO _ _ _) k1 k2
  ·have dL:μ id < w.heap.size:=g6.hr.lt id (g6.hr.known _ _ hH)
   have h5:(n+m)*ti.size≤cs.size:=Nat.le_trans (Nat.mul_le_mul_right _ hle) CF
   have vQ:=rE (P:=P) (b:=μ id) (o:=0+n*ti.size) (t:=t') (flat ti.size m g) 0 w cs hc M9 (by rw [fx];rw [Nat.add_mul] at h5;omega)
   have lD:(Builtin.append_ #[t,u] o.type #[.slice (some ⟨μ id,0,none⟩) n cap,.slice B m Xr]).run P w=.ok (.slice (some ⟨μ id,0,none⟩) (n+m) cap) (iZ w (μ id) (.cells (rD cs (n*ti.size) (flat ti.size m g)) t' (0,0))):=by
    simp only [Builtin.append_]
    simp [cl ht,gy hi,cl hu,Builtin.lenOf,hle,Yb w rfl,xN]
    have:(storeCells ⟨μ id,n*ti.size,none⟩ (flat ti.size m g)).run P w=.ok () (iZ w (μ id) (.cells (rD cs (n*ti.size) (flat ti.size m g)) t' (0,0))):=by simpa using vQ
    rw [this];rfl
   rw [lD,Result.andThen_ok,Oper.upon_value]
   have hs1:n*ti.size+(flat ti.size m g).length≤cs.size:=by rw [fx];rw [Nat.add_mul] at h5;omega
   have ic:s.H.live id:=⟨_,hH,hl⟩
   have LN:id ∉ L:=hDL id (by simp)
   have aeo:∀ i j,i < m→j < ti.size→∀ x,S2 i j x→¬ ft id x:=fun i j hi hj x hx j7=>by
    obtain ⟨Bn,q1,q2,q3,_⟩:=hg4 i j hi hj x hx
    have:=g6.hr.dj Bn id q2 ic x q3 j7
    exact LN (this▸q1)
   obtain ⟨S,T,hT,hTb,c5⟩:=VW (b:=μ id) (b0:=μ id) (e':=e') (cs':=rD cs (n*ti.size) (flat ti.size m g)) (.inr hB) VD hg3 (fun _=>aeo) (fun _ i j hi hj=>hB.nb i j hi hj)
    (fun i j hi hj hx=>aeo i j hi hj _ hx (g6.hr.self id ic)) (fun k hk=>by rw [sR _ _ _ hs1,if_neg (by omega)]) (fun i j hi hj=>by
     rw [sR _ _ _ hs1,fx]
     have h6:(i+1)*ti.size≤m*ti.size:=Nat.mul_le_mul_right _ hi
     rw [Nat.add_mul,Nat.one_mul] at h6
     rw [Nat.add_mul,if_pos (by omega),show n*ti.size+i*ti.size+j-n*ti.size=i*ti.size+j by omega]
     exact IM hi hj) (by rw [ie];exact h5) Yj
   obtain ⟨O',b7,k1,k2⟩:=Xj (L:=L) (S:=T) (b':=.row nl ti.size (n+m) e') g6.hr hN hH hl hc (uz (ie _ _ _))
    (fun x hx=>by
     rcases hT x hx with h | ⟨_,h,_⟩ | ⟨i,j,hi,hj,h⟩
     ·exact ⟨id,.inl rfl,ic,h▸g6.hr.self id ic⟩
     ·exact ⟨id,.inl rfl,ic,h⟩
     ·obtain ⟨Bn,q1,q2,q3,_⟩:=hg4 i j hi hj x h
      exact ⟨Bn,.inr q1,q2,q3⟩) hTb ⟨_,t',S,rfl,c5⟩
   refine hk _ _ F O' _ b7 ?_ k1 k2
   have rO:(iZ w (μ id) (.cells (rD cs (n*ti.size) (flat ti.size m g)) t' (0,0))).shape? (IC μ N (μ id) N)=some (t',cs.size):=by
    rw [g0];simp [World.shape?,wo dL,ie]
   have:=Nc (v:=nl) (w:=iZ w (μ id) (.cells (rD cs (n*ti.size) (flat ti.size m g)) t' (0,0))) (F:=F) (μ:=IC μ N (μ id)) (K:=plus K [N]) (id:=N) (n:=n+m) (aZ:=ti.size) (cap:=cap) (.inr (by simp)) hle rO CF (fun h=>by have:=Lc h;omega)
   rwa [g0] at this
 ·
  have hgt:n+m > cap:=Nat.lt_of_not_le hle
  obtain ⟨F8,cs0,b0,S1,T1,ho1,Yk,acb,agi,hT1⟩:∃ (F8 cs0:Array Value) (b0:Nat) (S1:Nat→Nat→Nat→Prop) (T1:Nat→Prop),(∀ w',w'.heap=w.heap→(Builtin.firstCells ti.size n (.slice A n cap)).run P w'=.ok F8 w')∧F8.size=n*ti.size∧
    (n=0∨M1 b0 cs0 ti.size n S1 T1 fun T i j v=>iW w F μ T (e i j) v)∧(∀ k,k < n*ti.size→F8.getD k undef=cs0.getD k undef)∧(n≠0→∃ id,D=[id]∧s.H.live id∧T1=ft id):=by
   rcases hA with ⟨rfl,rfl,rfl⟩ | ⟨id,cs,t',S1,agj,rfl,hH,hl,hc,CF,Lc,hB⟩
   ·exact ⟨#[],#[],0,fun _ _ _=>False,fun _=>False,fun w' _=>by cases A<;>simp [Builtin.firstCells,loadCells,loadCellsFrom],by simp,.inl rfl,fun k hk=>by omega,fun h=>absurd rfl h⟩
   ·have h5:n*ti.size≤cs.size:=Nat.le_trans (Nat.mul_le_mul_right _ aen) CF
    refine ⟨⟨flat ti.size n fun i j=>cs.getD (i*ti.size+j) undef⟩,cs,μ id,S1,ft id,fun w' Xp=>xP J5 (fun i j hi hj=>?_) _ _,by simp [fx],.inr hB,fun k hk=>?_,fun _=>⟨id,agj,⟨_,hH,hl⟩,rfl⟩⟩
    ·have h6:(i+1)*ti.size≤n*ti.size:=Nat.mul_le_mul_right _ hi
     rw [Nat.add_mul,Nat.one_mul] at h6
     have:i*ti.size+j < cs.size:=by omega
     simp [World.cell?,Xp,hc,this]
    ·have hq:k / ti.size < n:=Nat.div_lt_of_lt_mul (by rw [Nat.mul_comm];exact hk)
     have Zq:k % ti.size < ti.size:=Nat.mod_lt _ (by omega)
     have:=IM (u:=fun i j=>cs.getD (i*ti.size+j) undef) hq Zq
     have e2:k / ti.size*ti.size+k % ti.size=k:=by rw [Nat.mul_comm];exact Nat.div_add_mod k ti.size
     rw [e2] at this
     rw [← iN]
     exact this
  obtain ⟨nc,hnc⟩:∃ nc,nc=(Question.appendCap (n+m) cap et).cut (w.tape w.drawn (Question.appendCap (n+m) cap et)):=⟨_,rfl⟩
  have aep:n+m≤nc:=by rw [hnc];exact Nat.le_add_right _ _
  obtain ⟨cs,CF⟩:∃ cs:Array Value,cs=F8++(⟨flat ti.size m g⟩++Builtin.zeroCells z.cells (nc-(n+m))):=⟨_,rfl⟩
  have lD:(Builtin.append_ #[t,u] o.type #[.slice A n cap,.slice B m Xr]).run P w=.ok (.slice (some ⟨w.heap.size,0,none⟩) (n+m) nc) (({ w with drawn:=w.drawn+1 }:World).alloc (.cells cs et)):=by
   have hf:(Question.appendCap (n+m) cap et).forced=false:=rfl
   simp only [Builtin.append_]
   simp [cl ht,gy hi,cl hu,Builtin.lenOf,hle,LW hi,c1,c2 hgt,hf,ho1 w.drew rfl,Yb w.drew rfl,QV hi hz,newRow,← hnc]
   rw [CF]
  rw [lD,Result.andThen_ok,Oper.upon_value]
  have hfl:(⟨flat ti.size m g⟩:Array Value).size=m*ti.size:=by simp [fx]
  have hx2:n≠0→∀ i j,i < m→j < ti.size→∀ x,S2 i j x→¬ T1 x:=fun hn i j hi hj x hx j7=>by
   obtain ⟨id,q0,ic,q⟩:=hT1 hn
   rw [q] at j7
   obtain ⟨Bn,q1,q2,q3,_⟩:=hg4 i j hi hj x hx
   have:=g6.hr.dj Bn id q2 ic x q3 j7
   exact hDL id (by simp [q0]) (this▸q1)
  obtain ⟨S,T,hT,hTb,c5⟩:=VW (b:=w.heap.size) (b0:=b0) (e':=e') (cs':=cs) acb VD hg3 hx2 (fun hn i j hi hj hx=>by
    obtain ⟨id,_,ic,q⟩:=hT1 hn
    have hB:=acb.resolve_left hn
    have h1:=(hB.all _).2 (.inr ⟨i,j,hi,hj,hx⟩)
    rw [q] at h1
    have:=g6.hr.p0 _ (g6.hr.own id ic _ h1)
    omega) (fun i j hi hj hx=>by have:=hS2 i j hi hj _ hx;omega) (fun k hk=>by
    rw [CF,← agi k hk]
    have:k < F8.size:=by omega
    simp [Array.getElem?_append,this]) (fun i j hi hj=>by
    rw [CF]
    have h6:(i+1)*ti.size≤m*ti.size:=Nat.mul_le_mul_right _ hi
    rw [Nat.add_mul,Nat.one_mul] at h6
    have h7:¬ (n+i)*ti.size+j < F8.size:=by rw [Yk,Nat.add_mul];omega
    have h8:(n+i)*ti.size+j-F8.size=i*ti.size+j:=by rw [Yk,Nat.add_mul];omega
    have h9:i*ti.size+j < (flat ti.size m g).length:=by rw [fx];omega
    have:=IM (u:=g) hi hj
    simp only [List.getD] at this
    simp [Array.getElem?_append,h7,h8,h9]
    simpa [h9] using this) (by
    rw [CF]
    simp only [Array.size_append,hfl,Yk]
    rw [Nat.add_mul];omega) Yj
  have Ig:HR ({ w with drawn:=w.drawn+1 }:World) F O μ K s.H ft:=g6.hr.drew _
  obtain ⟨O',b7,k1,k2⟩:=Hb (w:={ w with drawn:=w.drawn+1 }) (L:=D++L) (S:=T) (o:=.cells cs et) (b:=.row nl ti.size (n+m) e') Ig hN (fun x hx=>by
    rcases hT x hx with h | ⟨hn,h,_⟩ | ⟨i,j,hi,hj,h⟩
    ·exact .inl h
    ·obtain ⟨id,q0,q1,q2⟩:=hT1 hn
     exact .inr ⟨id,by simp [q0],q1,q2▸h⟩
    ·obtain ⟨Bn,q1,q2,q3,_⟩:=hg4 i j hi hj x h
     exact .inr ⟨Bn,by simp [q1],q2,q3⟩) hTb
   (gO.mono (w:=w) (F:=F) (μ:=μ) (K:=K) (o:=.cells cs et) (B:=.row nl ti.size (n+m) e') ⟨cs,et,S,rfl,c5⟩ (fun _ _=>rfl) (fun _ h=>h) (fun _ _=>rfl) (fun _ h=>h) (fun _ _=>rfl) fun _ _ _=>rfl)
  refine hk _ _ F O' _ b7 ?_ k1 ((Fr.drew _).trans k2)
  have fw:nc*ti.size≤cs.size:=by
   have SQ:(Builtin.zeroCells z.cells (nc-(n+m))).size=(nc-(n+m))*ti.size:=by
    rw [← hzs];simp [Builtin.zeroCells]
   rw [CF]
   simp only [Array.size_append,SQ,Yk]
   rw [hfl,← Nat.add_mul,← Nat.add_mul]
   exact Nat.mul_le_mul_right _ (by omega)
  have rO:(({ w with drawn:=w.drawn+1 }:World).alloc (.cells cs et)).shape? (IC μ N w.heap.size N)=some (et,cs.size):=by
   rw [g0]
   have:=DR ({ w with drawn:=w.drawn+1 }:World) (.cells cs et)
   unfold World.shape?
   rw [show w.heap.size=({ w with drawn:=w.drawn+1 }:World).heap.size from rfl,this]
  have:=Nc (v:=nl) (w:=({ w with drawn:=w.drawn+1 }:World).alloc (.cells cs et)) (F:=F) (μ:=IC μ N w.heap.size) (K:=plus K [N]) (id:=N) (n:=n+m) (aZ:=ti.size) (cap:=nc) (.inr (by simp)) aep rO fw (fun _=>by omega)
  rwa [g0] at this
theorem aaW {o:Oper} {s:fy} {x y:Operand} {t u et:TypeId} {ti:TypeInfo} {v:Bool} {id n:Nat} {e f:Nat→Nat→AV}
  (ho:o.op=.call ⟨.builtin .copy,#[x,y],#[t,u]⟩) (ht:P.underlying t=some (.slice et)) (hi:P.info? et=some ti) (J5:ti.size≠0)
  (hx:dT s x (dd v id n ti.size)) (hb:s.H id=some (.row v ti.size n e)) (hs:Src P s y ti.size n f []) (Og:∀ i j,i < n→j < ti.size→(f i j).Kc=false):
  db P o s ⟨.int .i64 n,[(id,some (.row v ti.size n f))],[]⟩:=by
 intro w F O μ K ft a g6 _ Kn Q hk
 obtain ⟨B,Xr,g,S2,hvy,Yb,VD,hg3,hg4⟩:=hs _ _ _ _ _ _ _ g6
 unfold Oper.wp
 rcases sS (hx g6) with ⟨⟨a0,h1⟩,rfl,rfl⟩ | ⟨cap,sz,t',h1,h2,bY,h4,h5,h6⟩
 ·have lD:(execOp a.eval o).run P w=.ok (.value (.int .i64 0)) w:=by
   have e0:flat ti.size 0 g=[]:=by simp [flat]
   have:=Yb w rfl
   rw [e0] at this
   cases a0<;>simp [execOp,ho,resolve,invoke,builtin,h1,hvy,Builtin.copy_,cl ht,gy hi,Builtin.lenOf,this,goInt,storeCells]
  rw [lD,Oper.upon_value]
  have e1:(ju.row true ti.size 0 f).eI=false:=rfl
  have UP:s.H.c7 [(id,some (.row true ti.size 0 f))]=fun k=>if k=id then some (.row true ti.size 0 f) else s.H k:=rfl
  have fW:∀ k,(s.H.c7 [(id,some (.row true ti.size 0 f))]).live k→k≠id∧s.H.live k:=by
   rintro k ⟨b,cd,hl⟩
   rw [Hp.Bj] at cd
   split at cd
   ·cases cd;cases hl
   ·exact ⟨‹_›,b,cd,hl⟩
  refine hk _ w F O μ ft (.int _ _) ?_ (Fr.refl w F O μ K)
  rw [la]
  refine { g6.hr with known:=?_,di:=?_,self:=fun k hl=>g6.hr.self k (fW k hl).2,own:=fun k hl=>g6.hr.own k (fW k hl).2,dj:=fun k k' hl Bk=>g6.hr.dj k k' (fW k hl).2 (fW k' Bk).2 }
  ·intro k b cd
   rw [Hp.Bj] at cd
   split at cd
   ·rename_i e;subst e;exact g6.hr.known _ _ hb
   ·exact g6.hr.known _ _ cd
  ·intro k b cd hl
   rw [Hp.Bj] at cd
   split at cd
   ·cases cd;cases hl
   ·exact g6.hr.di k b cd hl
 ·have hl:(ju.row v ti.size n e).eI=true:=by
   cases v with
   | false=>rfl
   | true=>simpa [ju.eI] using h6 rfl
  have ic:s.H.live id:=⟨_,hb,hl⟩
  obtain ⟨ob,rQ,cs,t2,S1,rfl,hB⟩:=g6.hr.di id _ hb hl
  have CF:cap*ti.size≤cs.size:=by
   simp only [World.shape?,rQ,Option.some.injEq,Prod.mk.injEq] at h4
   rw [h4.2];exact h5
  have h5':n*ti.size≤cs.size:=Nat.le_trans (Nat.mul_le_mul_right _ h2) CF
  have M9:∀ v,v∈flat ti.size n g→v.oneCell'=true:=by
   intro v hv
   simp only [flat,List.mem_map,List.mem_range] at hv
   obtain ⟨k,hk,rfl⟩:=hv
   exact (VD _ _ (Nat.div_lt_of_lt_mul (by rw [Nat.mul_comm];exact hk)) (Nat.mod_lt _ (by omega))).2
  have vQ:=rE (P:=P) (b:=μ id) (o:=0) (t:=t2) (flat ti.size n g) 0 w cs rQ M9 (by rw [fx];omega)
  have lD:(execOp a.eval o).run P w=.ok (.value (.int .i64 n)) (iZ w (μ id) (.cells (rD cs 0 (flat ti.size n g)) t2 (0,0))):=by
   have:(storeCells ⟨μ id,0,none⟩ (flat ti.size n g)).run P w=.ok () (iZ w (μ id) (.cells (rD cs 0 (flat ti.size n g)) t2 (0,0))):=by simpa using vQ
   have h1:(Builtin.copy_ #[t,u] o.type #[.slice (some ⟨μ id,0,none⟩) n cap,.slice B n Xr]).run P w=.ok (.int .i64 n) (iZ w (μ id) (.cells (rD cs 0 (flat ti.size n g)) t2 (0,0))):=by
    simp only [Builtin.copy_]
    simp [cl ht,gy hi,Builtin.lenOf,Yb w rfl]
    rw [this]
    rfl
   simp [execOp,ho,resolve,invoke,builtin, *]
  rw [lD,Oper.upon_value]
  have hs1:0+(flat ti.size n g).length≤cs.size:=by rw [fx];omega
  have Q1:gO w F μ K (fun x=>x=μ id) (μ id) (.cells (rD cs 0 (flat ti.size n g)) t2 (0,0)) (.row v ti.size n f):=by
   refine UM (by rw [ie];exact h5') fun i j hi hj=>?_
   have h6:(i+1)*ti.size≤n*ti.size:=Nat.mul_le_mul_right _ hi
   rw [Nat.add_mul,Nat.one_mul] at h6
   rw [sR _ _ _ hs1,fx,if_pos (by omega),Nat.sub_zero,IM hi hj]
   refine ⟨?_,(VD i j hi hj).2⟩
   exact ((VD i j hi hj).1.closed (Og i j hi hj)).1
  obtain ⟨O',b7,k1,k2⟩:=mD (L:=[]) g6.hr hb hl rQ (uz (ie _ _ _)) (by simp) (fun y (hy:y=μ id)=>⟨id,.inl rfl,ic,hy▸g6.hr.self id ic⟩) rfl Q1
  exact hk _ _ F O' μ b7 (.int _ _) (by rw [la];exact k1) k2
end Go.Proofs.YtljfmaaadnoggaaGreatDoor.cU
