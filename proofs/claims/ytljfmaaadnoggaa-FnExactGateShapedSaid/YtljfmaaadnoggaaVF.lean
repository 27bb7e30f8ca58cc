/- append, copy: a row of the call's own grows, or is written from another. No condition. -/
import Derived.Test.YtljfmaaadnoggaaVE
set_option linter.unusedSimpArgs false
set_option linter.unusedVariables false
namespace Go.Proofs.Ytljfmaaadnoggaa.Abs
open Go Go.RowKit
variable {w w' w'':World} {F F' F'' O O' O'':Nat→Prop} {μ μ' μ'':Nat→Nat} {K K' K'':Nat→Prop} {H H' H'':Hp} {ft ft':Nat→Nat→Prop} {P:Program}
def flat (esz m:Nat) (u:Nat→Nat→Value):List Value:=(List.range (m*esz)).map fun k=>u (k / esz) (k % esz)
theorem flat_get {esz m:Nat} {u:Nat→Nat→Value} {i j:Nat} (hi:i < m) (hj:j < esz):(flat esz m u).getD (i*esz+j) undef=u i j:=by
 have h2:(i+1)*esz≤m*esz:=Nat.mul_le_mul_right _ hi
 rw [Nat.add_mul,Nat.one_mul] at h2
 have h3:i*esz+j < m*esz:=by omega
 have h4:(i*esz+j) / esz=i:=by
  rw [Nat.add_comm,Nat.add_mul_div_right _ _ (by omega),Nat.div_eq_of_lt hj];omega
 simp [flat,List.getD,h3,h4,mod_pos hj]
theorem flat_length (esz m:Nat) (u:Nat→Nat→Value):(flat esz m u).length=m*esz:=by simp [flat]
theorem run_firstCells {esz m b o:Nat} {u:Nat→Nat→Value} (he:esz≠0) (h:∀ i j,i < m→j < esz→w.cell? ⟨b,o+i*esz+j,none⟩=some (u i j)) (cap:Nat) (L:Nat):
  (Builtin.firstCells esz m (.slice (some ⟨b,o,none⟩) L cap)).run P w=.ok ⟨flat esz m u⟩ w:=by
 simp only [Builtin.firstCells]
 rw [run_loadCells w _ _ (fun k=>u (k / esz) (k % esz)) fun k hk=>?_]
 ·rfl
 ·rw [add_mk]
  have h1:k / esz < m:=Nat.div_lt_of_lt_mul (by rw [Nat.mul_comm];exact hk)
  have h2:k % esz < esz:=Nat.mod_lt _ (by omega)
  have:=h (k / esz) (k % esz) h1 h2
  rw [Nat.add_assoc] at this
  have e:k / esz*esz+k % esz=k:=by rw [Nat.mul_comm];exact Nat.div_add_mod k esz
  rwa [e] at this
theorem cap_bound (need cap:Nat) (h:cap < need):Builtin.nextslicecap need cap≤2*need+768:=by
 unfold Builtin.nextslicecap
 split
 ·omega
 ·split
  ·omega
  ·have:∀ (r c:Nat),c≤need→Builtin.growBy need r c≤2*need+768:=by
    intro r
    induction r with
    | zero=>intro c hc;simp only [Builtin.growBy];omega
    | succ r ih=>
     intro c hc
     simp only [Builtin.growBy]
     split
     ·omega
     ·rename_i hlt
      by_cases h2:c+(c+768) / 4≤need
      ·exact ih _ h2
      ·cases r with
       | zero=>simp only [Builtin.growBy];omega
       | succ r=>
        simp only [Builtin.growBy]
        rw [if_pos (by omega)]
        omega
   exact this 4 cap (by omega)
def Src (P:Program) (s:SSt) (y:Operand) (esz m:Nat) (f:Nat→Nat→AV) (L:List Nat):Prop:=
 ∀ w F O μ K ft act,SR w F O μ K s ft act→∃ (A:Option Addr) (cap:Nat) (g:Nat→Nat→Value) (S:Nat→Nat→Nat→Prop),act.eval y=.slice A m cap∧(∀ w',w'.heap=w.heap→(Builtin.firstCells esz m (.slice A m cap)).run P w'=.ok ⟨flat esz m g⟩ w')∧
  (∀ i j,i < m→j < esz→OwnR w F μ (S i j) (f i j) (g i j)∧(g i j).oneCell'=true)∧
  (∀ i j i' j',i < m→j < esz→i' < m→j' < esz→∀ x,S i j x→S i' j' x→i=i'∧j=j')∧
  ∀ i j,i < m→j < esz→∀ x,S i j x→∃ id,id∈L∧s.H.live id∧ft id x∧x≠μ id
theorem src_closed {s:SSt} {y:Operand} {esz m:Nat} {f:Nat→Nat→AV} (hs0:esz≠0) (h:∀ {w F O μ K ft act},SR w F O μ K s ft act→∃ A cap,act.eval y=.slice A m cap∧(m=0∨∃ (b o:Nat) (u:Nat→Nat→Value),A=some ⟨b,o,none⟩∧
  ∀ i j,i < m→j < esz→w.cell? ⟨b,o+i*esz+j,none⟩=some (u i j)∧VR w F μ NoK (f i j) (u i j)∧(u i j).oneCell'=true)) (L:List Nat):Src P s y esz m f L:=by
 intro w F O μ K ft act hs
 obtain ⟨A,cap,hev,hA⟩:=h hs
 rcases hA with rfl | ⟨b,o,u,rfl,hu⟩
 ·refine ⟨A,cap,fun _ _=>undef,fun _ _ _=>False,hev,fun w' _=>?_,fun i j hi=>by omega,fun _ _ _ _ hi=>by omega,fun i j hi=>by omega⟩
  have e0:flat esz 0 (fun _ _=>undef)=[]:=by simp [flat]
  rw [e0]
  cases A with
  | none=>simp [Builtin.firstCells]
  | some a=>simp [Builtin.firstCells,loadCells,loadCellsFrom]
 ·refine ⟨_,cap,u,fun _ _ _=>False,hev,fun w' hw'=>run_firstCells hs0 (fun i j hi hj=>?_) _ _,fun i j hi hj=>⟨.clo _ _ _ (hu i j hi hj).2.1 fun _ h=>h,(hu i j hi hj).2.2⟩,fun _ _ _ _ _ _ _ _ _ h=>h.elim,fun _ _ _ _ _ h=>h.elim⟩
  have:=(hu i j hi hj).1
  simp only [World.cell?] at this ⊢
  rw [hw'];exact this
theorem src_nils {s:SSt} {y:Operand} {esz:Nat} (hs0:esz≠0) (hy:Opd s y .nils) (f:Nat→Nat→AV):Src P s y esz 0 f []:=
 src_closed hs0 (fun hs=>⟨none,0,(hy hs).nils_inv,.inl rfl⟩) []
theorem src_fs {s:SSt} {y:Operand} {esz m:Nat} {f:Nat→Nat→AV} (hs0:esz≠0) (hy:Opd s y (.fs esz m f)):Src P s y esz m f []:=
 src_closed hs0 (fun {w F O μ K ft act} hs=>by
  have h:=hy hs
  generalize act.eval y=v at h
  cases h with
  | fs _ _ _ b o cap u hF hc hu hv=>exact ⟨_,cap,rfl,.inr ⟨b,o,u,rfl,fun i j hi hj=>⟨(hu i j hi hj).1,hv i j hi hj,(hu i j hi hj).2⟩⟩⟩
  | fsnil _ _ a cap=>exact ⟨a,cap,rfl,.inl rfl⟩) []
theorem src_own {s:SSt} {y:Operand} {v:Bool} {id esz m:Nat} {f:Nat→Nat→AV} (hs0:esz≠0) (hy:Opd s y (rowAV v id m esz)) (hb:s.H id=some (.row v esz m f)):Src P s y esz m f [id]:=by
 intro w F O μ K ft act hs
 by_cases hm:m=0
 ·subst hm
  have hev:∃ A cap,act.eval y=.slice A 0 cap:=by
   have h:=hy hs
   generalize act.eval y=u at h
   cases v<;>simp only [rowAV] at h<;>cases h<;>exact ⟨_,_,rfl⟩
  obtain ⟨A,cap,hev⟩:=hev
  refine ⟨A,cap,fun _ _=>undef,fun _ _ _=>False,hev,fun w' _=>?_,fun i j hi=>by omega,fun _ _ _ _ hi=>by omega,fun i j hi=>by omega⟩
  have e0:flat esz 0 (fun _ _=>undef)=[]:=by simp [flat]
  rw [e0]
  cases A with
  | none=>simp [Builtin.firstCells]
  | some a=>simp [Builtin.firstCells,loadCells,loadCellsFrom]
 ·obtain ⟨cap,hev,hcap,hid⟩:=rowAV_ok (hy hs) hm
  have hl:(Blk.row v esz m f).lies=true:=by cases v<;>simp [Blk.lies];exact hm
  have hlv:s.H.live id:=⟨_,hb,hl⟩
  obtain ⟨ob,hob,cs,t,S,rfl,hB⟩:=hs.hr.blk id _ hb hl
  refine ⟨_,cap,fun i j=>cs.getD (i*esz+j) undef,S,hev,fun w' hw'=>run_firstCells hs0 (fun i j hi hj=>?_) _ _,hB.cell,hB.dj,fun i j hi hj x hx=>⟨id,by simp,hlv,(hB.all x).2 (.inr ⟨i,j,hi,hj,hx⟩),fun e=>hB.nb i j hi hj (e▸hx)⟩⟩
  have h6:(i+1)*esz≤m*esz:=Nat.mul_le_mul_right _ hi
  rw [Nat.add_mul,Nat.one_mul] at h6
  have hsz:=hB.size
  have:i*esz+j < cs.size:=by omega
  simp [World.cell?,hw',hob,this]
theorem src_row {s:SSt} {y:Operand} {v:Bool} {id esz m:Nat} {f:Nat→Nat→AV} (hs0:esz≠0) (hy:Opd s y (rowAV v id m esz)) (hb:s.H id=some (.row v esz m f)) (hc:∀ i j,i < m→j < esz→(f i j).isOs=false):Src P s y esz m f []:=by
 intro w F O μ K ft act hs
 obtain ⟨A,cap,g,S,h1,h2,h3,h4,h5⟩:=src_own (P:=P) hs0 hy hb w F O μ K ft act hs
 exact ⟨A,cap,g,fun _ _ _=>False,h1,h2,fun i j hi hj=>⟨.clo _ _ _ ((h3 i j hi hj).1.closed (hc i j hi hj)).1 fun _ h=>h,(h3 i j hi hj).2⟩,fun _ _ _ _ _ _ _ _ _ h=>h.elim,fun _ _ _ _ _ h=>h.elim⟩
inductive Dst (s:SSt) (x:Operand) (esz:Nat):Bool→Nat→(Nat→Nat→AV)→List Nat→Prop
 | nils (e:Nat→Nat→AV) (hx:Opd s x .nils):Dst s x esz true 0 e []
 | own (v:Bool) (id n:Nat) (e:Nat→Nat→AV) (hx:Opd s x (rowAV v id n esz)) (hb:s.H id=some (.row v esz n e)):Dst s x esz v n e [id]
theorem rowAV_cap {v:Bool} {id n esz:Nat} {u:Value} (hv:VR w F μ K (rowAV v id n esz) u):
  ((∃ a,u=.slice a 0 0)∧n=0∧v=true)∨∃ cap sz t,u=.slice (some ⟨μ id,0,none⟩) n cap∧n≤cap∧K id∧w.shape? (μ id)=some (t,sz)∧cap*esz≤sz∧(v=true→n≠0):=by
 cases v with
 | false=>cases hv with | ms id i n esz cap sz t hid hc hs hsz=>exact .inr ⟨cap,sz,t,by simp,hc,hid,hs,by simpa using hsz,fun h=>by cases h⟩
 | true=>cases hv with
  | vs id n esz cap sz t hn hid hc hs hsz=>exact .inr ⟨cap,sz,t,rfl,hc,hid,hs,hsz,fun _=>hn⟩
  | vsnil id esz a=>exact .inl ⟨⟨a,rfl⟩,rfl,rfl⟩
theorem rowAV_mk {v:Bool} {id n esz cap sz:Nat} {t:TypeId} (hid:K id) (hc:n≤cap) (hs:w.shape? (μ id)=some (t,sz)) (hsz:cap*esz≤sz) (hn:v=true→n≠0):VR w F μ K (rowAV v id n esz) (.slice (some ⟨μ id,0,none⟩) n cap):=by
 cases v with
 | false=>
  have:=VR.ms (w:=w) (F:=F) (μ:=μ) (K:=K) id 0 n esz cap sz t hid hc hs (by simpa using hsz)
  simpa [rowAV] using this
 | true=>exact .vs id n esz cap sz t (hn rfl) hid hc hs hsz
theorem join_ok {b b0:Nat} {esz n m:Nat} {e f e':Nat→Nat→AV} {cs cs':Array Value} {g:Nat→Nat→Value} {S1 S2:Nat→Nat→Nat→Prop} {T1:Nat→Prop}
  (he:n=0∨RowB b0 cs esz n S1 T1 fun T i j v=>OwnR w F μ T (e i j) v)
  (hf:∀ i j,i < m→j < esz→OwnR w F μ (S2 i j) (f i j) (g i j)∧(g i j).oneCell'=true)
  (hd:∀ i j i' j',i < m→j < esz→i' < m→j' < esz→∀ x,S2 i j x→S2 i' j' x→i=i'∧j=j')
  (hx:n≠0→∀ i j,i < m→j < esz→∀ x,S2 i j x→¬ T1 x) (hb1:n≠0→∀ i j,i < n→j < esz→¬ S1 i j b) (hb2:∀ i j,i < m→j < esz→¬ S2 i j b)
  (h1:∀ k,k < n*esz→cs'.getD k undef=cs.getD k undef) (h2:∀ i j,i < m→j < esz→cs'.getD ((n+i)*esz+j) undef=g i j) (hsz:(n+m)*esz≤cs'.size)
  (hje:∀ i j,i < n+m→j < esz→e' i j=if i < n then e i j else f (i-n) j):
  ∃ S T,(∀ x,T x→x=b∨(n≠0∧T1 x∧x≠b0)∨∃ i j,i < m∧j < esz∧S2 i j x)∧T b∧RowB b cs' esz (n+m) S T fun T i j v=>OwnR w F μ T (e' i j) v:=by
 let S:Nat→Nat→Nat→Prop:=fun i j x=>(i < n∧S1 i j x)∨(n≤i∧S2 (i-n) j x)
 have row:∀ i,i < n→RowB b0 cs esz n S1 T1 fun T i j v=>OwnR w F μ T (e i j) v:=fun i hi=>he.resolve_left (by omega)
 refine ⟨S,fun x=>x=b∨∃ i j,i < n+m∧j < esz∧S i j x,?_,.inl rfl,{ size:=hsz,cell:=fun i j hi hj=>?_,dj:=?_,nb:=?_,all:=fun _=>Iff.rfl }⟩
 ·rintro x (h | ⟨i,j,hi,hj,⟨h3,h4⟩ | ⟨h3,h4⟩⟩)
  ·exact .inl h
  ·exact .inr (.inl ⟨by omega,((row i h3).all x).2 (.inr ⟨i,j,h3,hj,h4⟩),fun e=>(row i h3).nb i j h3 hj (e▸h4)⟩)
  ·exact .inr (.inr ⟨i-n,j,by omega,hj,h4⟩)
 ·rw [hje i j hi hj]
  by_cases h:i < n
  ·rw [if_pos h]
   have h3:(i+1)*esz≤n*esz:=Nat.mul_le_mul_right _ h
   rw [Nat.add_mul,Nat.one_mul] at h3
   rw [h1 _ (by omega)]
   have eS:S i j=S1 i j:=by
    funext x
    simp only [S,eq_iff_iff]
    exact ⟨fun k=>k.elim (fun k=>k.2) fun k=>by omega,fun k=>.inl ⟨h,k⟩⟩
   rw [eS]
   exact (row i h).cell i j h hj
  ·rw [if_neg h]
   have:=h2 (i-n) j (by omega) hj
   rw [show n+(i-n)=i by omega] at this
   rw [this]
   have eS:S i j=S2 (i-n) j:=by
    funext x
    simp only [S,eq_iff_iff]
    exact ⟨fun k=>k.elim (fun k=>absurd k.1 h) fun k=>k.2,fun k=>.inr ⟨by omega,k⟩⟩
   rw [eS]
   exact hf (i-n) j (by omega) hj
 ·rintro i j i' j' hi hj hi' hj' x (⟨h3,h4⟩ | ⟨h3,h4⟩) (⟨k3,k4⟩ | ⟨k3,k4⟩)
  ·exact (row i h3).dj i j i' j' h3 hj k3 hj' x h4 k4
  ·exact absurd (((row i h3).all x).2 (.inr ⟨i,j,h3,hj,h4⟩)) (hx (by omega) (i'-n) j' (by omega) hj' x k4)
  ·exact absurd (((row i' k3).all x).2 (.inr ⟨i',j',k3,hj',k4⟩)) (hx (by omega) (i-n) j (by omega) hj x h4)
  ·obtain ⟨q1,q2⟩:=hd (i-n) j (i'-n) j' (by omega) hj (by omega) hj' x h4 k4
   exact ⟨by omega,q2⟩
 ·rintro i j hi hj (⟨h3,h4⟩ | ⟨h3,h4⟩)
  ·exact hb1 (by omega) i j h3 hj h4
  ·exact hb2 (i-n) j (by omega) hj h4
theorem op_append {o:Oper} {s:SSt} {x y:Operand} {t u et:TypeId} {ti:TypeInfo} {nl:Bool} {n m:Nat} {e f e':Nat→Nat→AV} {D L:List Nat} {eu:TypeId} {z:Value} {N:Nat}
  (ho:o.op=.call ⟨.builtin .append,#[x,y],#[t,u]⟩) (ht:P.underlying t=some (.slice et)) (hu:P.underlying u=some (.slice eu)) (hi:P.info? et=some ti) (hz:ti.zero=some z) (hs0:ti.size≠0) (hzs:z.cells.size=ti.size)
  (hd:Dst s x ti.size nl n e D) (hs:Src P s y ti.size m f L) (hDL:∀ id,id∈D→id ∉ L) (hb:(n+m)*ti.bytes≤70368744177664) (hb2:n+m≤70368744177664) (hb3:ti.bytes≤4294967296)
  (hje:∀ i j,i < n+m→j < ti.size→e' i j=if i < n then e i j else f (i-n) j):
  OpOk P o s ⟨rowAV nl N (n+m) ti.size,(N,some (.row nl ti.size (n+m) e'))::strike (D++L),[N]⟩:=by
 intro w F O μ K ft a hsr hn Kn Q hk
 have hN:¬ K N:=hn N (by simp)
 obtain ⟨B,cap2,g,S2,hvy,hg1,hg2,hg3,hg4⟩:=hs _ _ _ _ _ _ _ hsr
 have hone:∀ v,v∈flat ti.size m g→v.oneCell'=true:=by
  intro v hv
  simp only [flat,List.mem_map,List.mem_range] at hv
  obtain ⟨k,hk,rfl⟩:=hv
  exact (hg2 _ _ (Nat.div_lt_of_lt_mul (by rw [Nat.mul_comm];exact hk)) (Nat.mod_lt _ (by omega))).2
 have hS2:∀ i j,i < m→j < ti.size→∀ x,S2 i j x→x < w.heap.size:=fun i j hi hj x hx=>by
  obtain ⟨id,_,h2,h3,_⟩:=hg4 i j hi hj x hx
  exact hsr.hr.owf x (hsr.hr.own id h2 x h3)
 obtain ⟨A,cap,hvx,hcap,hA⟩:∃ A cap,a.eval x=.slice A n cap∧n≤cap∧((n=0∧cap=0∧nl=true)∨
   ∃ id cs t' S1,D=[id]∧A=some ⟨μ id,0,none⟩∧s.H id=some (.row nl ti.size n e)∧(Blk.row nl ti.size n e).lies=true∧w.heap[μ id]?=some (.cells cs t' (0,0))∧cap*ti.size≤cs.size∧
    (nl=true→n≠0)∧RowB (μ id) cs ti.size n S1 (ft id) fun T i j v=>OwnR w F μ T (e i j) v):=by
  cases hd with
  | nils e hx=>exact ⟨none,0,(hx hsr).nils_inv,Nat.le_refl _,.inl ⟨rfl,rfl,rfl⟩⟩
  | own v id n e hx hbk=>
   rcases rowAV_cap (hx hsr) with ⟨⟨a0,h1⟩,h2,h3⟩ | ⟨cap,sz,t',h1,h2,hid,h4,h5,h6⟩
   ·exact ⟨a0,0,h2▸h1,by omega,.inl ⟨h2,rfl,h3⟩⟩
   ·have hl:(Blk.row nl ti.size n e).lies=true:=by
     cases nl with
     | false=>rfl
     | true=>simpa [Blk.lies] using h6 rfl
    obtain ⟨ob,hob,cs,t2,S1,rfl,hB⟩:=hsr.hr.blk id _ hbk hl
    refine ⟨_,cap,h1,h2,.inr ⟨id,cs,t2,S1,rfl,rfl,hbk,hl,hob,?_,h6,hB⟩⟩
    simp only [World.shape?,hob,Option.some.injEq,Prod.mk.injEq] at h4
    rw [h4.2];exact h5
 have liveL:∀ id,s.H.live id→id≠N:=fun id hl e=>hN (e▸hsr.hr.live_known hl)
 unfold Oper.wp
 have pre:(execOp a.eval o).run P w=((Builtin.append_ #[t,u] o.type #[.slice A n cap,.slice B m cap2]).run P w).andThen fun v w'=>.ok (.value v) w':=by
  simp [execOp,ho,resolve,invoke,builtin,hvx,hvy]
 have c1:¬ ((9223372036854775807:Int) < ↑n+↑m∧ti.bytes=0):=by intro h;omega
 have c2:n+m > cap→¬ 281474976710656 < Builtin.nextslicecap (n+m) cap*ti.bytes:=by
  intro hc
  have h1:=Nat.mul_le_mul_right ti.bytes (cap_bound (n+m) cap hc)
  rw [Nat.add_mul,Nat.mul_assoc] at h1
  omega
 rw [pre]
 by_cases hle:n+m≤cap
 ·rcases hA with ⟨rfl,rfl,rfl⟩ | ⟨id,cs,t',S1,rfl,rfl,hH,hl,hc,hcs,hn0,hB⟩
  ·
   obtain rfl:m=0:=by omega
   have hrun:(Builtin.append_ #[t,u] o.type #[.slice A 0 0,.slice B 0 cap2]).run P w=.ok (.slice A 0 0) w:=by
    have e0:flat ti.size 0 g=[]:=by simp [flat]
    have h0:=hg1 w rfl
    rw [e0] at h0
    simp only [Builtin.append_]
    simp [run_und ht,run_siz hi,run_und hu,Builtin.lenOf,h0]
    cases A<;>simp [storeCells]
   rw [hrun,Result.andThen_ok,Oper.upon_value]
   obtain ⟨k1,k2⟩:=virt_step (esz:=ti.size) (e:=e') (hsr.hr.part' (part_strike s.H (D++L))) hN
   have e1:(s.H.upd (strike (D++L))).upd [(N,some (.row true ti.size 0 e'))]=s.H.upd ((N,some (.row true ti.size (0+0) e'))::strike (D++L)):=by
    funext id;rfl
   rw [e1] at k1
   exact hk _ w F O _ ft (.vsnil _ _ _) k1 k2
  ·have hlt:μ id < w.heap.size:=hsr.hr.lt id (hsr.hr.known _ _ hH)
   have h5:(n+m)*ti.size≤cs.size:=Nat.le_trans (Nat.mul_le_mul_right _ hle) hcs
   have hst:=run_storeCells (P:=P) (b:=μ id) (o:=0+n*ti.size) (t:=t') (flat ti.size m g) 0 w cs hc hone (by rw [flat_length];rw [Nat.add_mul] at h5;omega)
   have hrun:(Builtin.append_ #[t,u] o.type #[.slice (some ⟨μ id,0,none⟩) n cap,.slice B m cap2]).run P w=.ok (.slice (some ⟨μ id,0,none⟩) (n+m) cap) (wput w (μ id) (.cells (setV cs (n*ti.size) (flat ti.size m g)) t' (0,0))):=by
    simp only [Builtin.append_]
    simp [run_und ht,run_siz hi,run_und hu,Builtin.lenOf,hle,hg1 w rfl,add_mk]
    have:(storeCells ⟨μ id,n*ti.size,none⟩ (flat ti.size m g)).run P w=.ok () (wput w (μ id) (.cells (setV cs (n*ti.size) (flat ti.size m g)) t' (0,0))):=by simpa using hst
    rw [this];rfl
   rw [hrun,Result.andThen_ok,Oper.upon_value]
   have hs1:n*ti.size+(flat ti.size m g).length≤cs.size:=by rw [flat_length];rw [Nat.add_mul] at h5;omega
   have hlv:s.H.live id:=⟨_,hH,hl⟩
   have hidL:id ∉ L:=hDL id (by simp)
   have notT:∀ i j,i < m→j < ti.size→∀ x,S2 i j x→¬ ft id x:=fun i j hi hj x hx hx'=>by
    obtain ⟨id2,q1,q2,q3,_⟩:=hg4 i j hi hj x hx
    have:=hsr.hr.dj id2 id q2 hlv x q3 hx'
    exact hidL (this▸q1)
   obtain ⟨S,T,hT,hTb,hrow⟩:=join_ok (b:=μ id) (b0:=μ id) (e':=e') (cs':=setV cs (n*ti.size) (flat ti.size m g)) (.inr hB) hg2 hg3 (fun _=>notT) (fun _ i j hi hj=>hB.nb i j hi hj)
    (fun i j hi hj hx=>notT i j hi hj _ hx (hsr.hr.self id hlv)) (fun k hk=>by rw [setV_getD _ _ _ hs1,if_neg (by omega)]) (fun i j hi hj=>by
     rw [setV_getD _ _ _ hs1,flat_length]
     have h6:(i+1)*ti.size≤m*ti.size:=Nat.mul_le_mul_right _ hi
     rw [Nat.add_mul,Nat.one_mul] at h6
     rw [Nat.add_mul,if_pos (by omega),show n*ti.size+i*ti.size+j-n*ti.size=i*ti.size+j by omega]
     exact flat_get hi hj) (by rw [setV_size];exact h5) hje
   obtain ⟨O',ft',k1,k2⟩:=grow_step (L:=L) (S:=T) (b':=.row nl ti.size (n+m) e') hsr.hr hN hH hl hc (cells_shape (setV_size _ _ _))
    (fun x hx=>by
     rcases hT x hx with h | ⟨_,h,_⟩ | ⟨i,j,hi,hj,h⟩
     ·exact ⟨id,.inl rfl,hlv,h▸hsr.hr.self id hlv⟩
     ·exact ⟨id,.inl rfl,hlv,h⟩
     ·obtain ⟨id2,q1,q2,q3,_⟩:=hg4 i j hi hj x h
      exact ⟨id2,.inr q1,q2,q3⟩) hTb ⟨_,t',S,rfl,hrow⟩
   refine hk _ _ F O' _ ft' ?_ k1 k2
   have hsh:(wput w (μ id) (.cells (setV cs (n*ti.size) (flat ti.size m g)) t' (0,0))).shape? (mu1 μ N (μ id) N)=some (t',cs.size):=by
    rw [mu1_new];simp [World.shape?,wput_same hlt,setV_size]
   have:=rowAV_mk (v:=nl) (w:=wput w (μ id) (.cells (setV cs (n*ti.size) (flat ti.size m g)) t' (0,0))) (F:=F) (μ:=mu1 μ N (μ id)) (K:=plus K [N]) (id:=N) (n:=n+m) (esz:=ti.size) (cap:=cap) (.inr (by simp)) hle hsh hcs (fun h=>by have:=hn0 h;omega)
   rwa [mu1_new] at this
 ·
  have hgt:n+m > cap:=Nat.lt_of_not_le hle
  obtain ⟨old,cs0,b0,S1,T1,ho1,ho2,hrow0,hcs0,hT1⟩:∃ (old cs0:Array Value) (b0:Nat) (S1:Nat→Nat→Nat→Prop) (T1:Nat→Prop),(∀ w',w'.heap=w.heap→(Builtin.firstCells ti.size n (.slice A n cap)).run P w'=.ok old w')∧old.size=n*ti.size∧
    (n=0∨RowB b0 cs0 ti.size n S1 T1 fun T i j v=>OwnR w F μ T (e i j) v)∧(∀ k,k < n*ti.size→old.getD k undef=cs0.getD k undef)∧(n≠0→∃ id,D=[id]∧s.H.live id∧T1=ft id):=by
   rcases hA with ⟨rfl,rfl,rfl⟩ | ⟨id,cs,t',S1,hDid,rfl,hH,hl,hc,hcs,hn0,hB⟩
   ·exact ⟨#[],#[],0,fun _ _ _=>False,fun _=>False,fun w' _=>by cases A<;>simp [Builtin.firstCells,loadCells,loadCellsFrom],by simp,.inl rfl,fun k hk=>by omega,fun h=>absurd rfl h⟩
   ·have h5:n*ti.size≤cs.size:=Nat.le_trans (Nat.mul_le_mul_right _ hcap) hcs
    refine ⟨⟨flat ti.size n fun i j=>cs.getD (i*ti.size+j) undef⟩,cs,μ id,S1,ft id,fun w' hw'=>run_firstCells hs0 (fun i j hi hj=>?_) _ _,by simp [flat_length],.inr hB,fun k hk=>?_,fun _=>⟨id,hDid,⟨_,hH,hl⟩,rfl⟩⟩
    ·have h6:(i+1)*ti.size≤n*ti.size:=Nat.mul_le_mul_right _ hi
     rw [Nat.add_mul,Nat.one_mul] at h6
     have:i*ti.size+j < cs.size:=by omega
     simp [World.cell?,hw',hc,this]
    ·have hq:k / ti.size < n:=Nat.div_lt_of_lt_mul (by rw [Nat.mul_comm];exact hk)
     have hr2:k % ti.size < ti.size:=Nat.mod_lt _ (by omega)
     have:=flat_get (u:=fun i j=>cs.getD (i*ti.size+j) undef) hq hr2
     have e2:k / ti.size*ti.size+k % ti.size=k:=by rw [Nat.mul_comm];exact Nat.div_add_mod k ti.size
     rw [e2] at this
     rw [← getD_toList]
     exact this
  obtain ⟨nc,hnc⟩:∃ nc,nc=(Question.appendCap (n+m) cap et).cut (w.tape w.drawn (Question.appendCap (n+m) cap et)):=⟨_,rfl⟩
  have hncle:n+m≤nc:=by rw [hnc];exact Nat.le_add_right _ _
  obtain ⟨cs,hcs⟩:∃ cs:Array Value,cs=old++(⟨flat ti.size m g⟩++Builtin.zeroCells z.cells (nc-(n+m))):=⟨_,rfl⟩
  have hrun:(Builtin.append_ #[t,u] o.type #[.slice A n cap,.slice B m cap2]).run P w=.ok (.slice (some ⟨w.heap.size,0,none⟩) (n+m) nc) (({ w with drawn:=w.drawn+1 }:World).alloc (.cells cs et)):=by
   have hf:(Question.appendCap (n+m) cap et).forced=false:=rfl
   simp only [Builtin.append_]
   simp [run_und ht,run_siz hi,run_und hu,Builtin.lenOf,hle,run_inf hi,c1,c2 hgt,hf,ho1 w.drew rfl,hg1 w.drew rfl,run_zer hi hz,newRow,← hnc]
   rw [hcs]
  rw [hrun,Result.andThen_ok,Oper.upon_value]
  have hfl:(⟨flat ti.size m g⟩:Array Value).size=m*ti.size:=by simp [flat_length]
  have hx2:n≠0→∀ i j,i < m→j < ti.size→∀ x,S2 i j x→¬ T1 x:=fun hn i j hi hj x hx hx'=>by
   obtain ⟨id,q0,hlv,q⟩:=hT1 hn
   rw [q] at hx'
   obtain ⟨id2,q1,q2,q3,_⟩:=hg4 i j hi hj x hx
   have:=hsr.hr.dj id2 id q2 hlv x q3 hx'
   exact hDL id (by simp [q0]) (this▸q1)
  obtain ⟨S,T,hT,hTb,hrow⟩:=join_ok (b:=w.heap.size) (b0:=b0) (e':=e') (cs':=cs) hrow0 hg2 hg3 hx2 (fun hn i j hi hj hx=>by
    obtain ⟨id,_,hlv,q⟩:=hT1 hn
    have hB:=hrow0.resolve_left hn
    have h1:=(hB.all _).2 (.inr ⟨i,j,hi,hj,hx⟩)
    rw [q] at h1
    have:=hsr.hr.owf _ (hsr.hr.own id hlv _ h1)
    omega) (fun i j hi hj hx=>by have:=hS2 i j hi hj _ hx;omega) (fun k hk=>by
    rw [hcs,← hcs0 k hk]
    have:k < old.size:=by omega
    simp [Array.getElem?_append,this]) (fun i j hi hj=>by
    rw [hcs]
    have h6:(i+1)*ti.size≤m*ti.size:=Nat.mul_le_mul_right _ hi
    rw [Nat.add_mul,Nat.one_mul] at h6
    have h7:¬ (n+i)*ti.size+j < old.size:=by rw [ho2,Nat.add_mul];omega
    have h8:(n+i)*ti.size+j-old.size=i*ti.size+j:=by rw [ho2,Nat.add_mul];omega
    have h9:i*ti.size+j < (flat ti.size m g).length:=by rw [flat_length];omega
    have:=flat_get (u:=g) hi hj
    simp only [List.getD] at this
    simp [Array.getElem?_append,h7,h8,h9]
    simpa [h9] using this) (by
    rw [hcs]
    simp only [Array.size_append,hfl,ho2]
    rw [Nat.add_mul];omega) hje
  have hs':HR ({ w with drawn:=w.drawn+1 }:World) F O μ K s.H ft:=hsr.hr.drew _
  obtain ⟨O',ft',k1,k2⟩:=alloc_step (w:={ w with drawn:=w.drawn+1 }) (L:=D++L) (S:=T) (o:=.cells cs et) (b:=.row nl ti.size (n+m) e') hs' hN (fun x hx=>by
    rcases hT x hx with h | ⟨hn,h,_⟩ | ⟨i,j,hi,hj,h⟩
    ·exact .inl h
    ·obtain ⟨id,q0,q1,q2⟩:=hT1 hn
     exact .inr ⟨id,by simp [q0],q1,q2▸h⟩
    ·obtain ⟨id2,q1,q2,q3,_⟩:=hg4 i j hi hj x h
     exact .inr ⟨id2,by simp [q1],q2,q3⟩) hTb
   (BlkR.mono (w:=w) (F:=F) (μ:=μ) (K:=K) (o:=.cells cs et) (B:=.row nl ti.size (n+m) e') ⟨cs,et,S,rfl,hrow⟩ (fun _ _=>rfl) (fun _ h=>h) (fun _ _=>rfl) (fun _ h=>h) (fun _ _=>rfl) fun _ _ _=>rfl)
  refine hk _ _ F O' _ ft' ?_ k1 ((Fr.drew _).trans k2)
  have hsz:nc*ti.size≤cs.size:=by
   have hz1:(Builtin.zeroCells z.cells (nc-(n+m))).size=(nc-(n+m))*ti.size:=by
    rw [← hzs];simp [Builtin.zeroCells]
   rw [hcs]
   simp only [Array.size_append,hz1,ho2]
   rw [hfl,← Nat.add_mul,← Nat.add_mul]
   exact Nat.mul_le_mul_right _ (by omega)
  have hsh:(({ w with drawn:=w.drawn+1 }:World).alloc (.cells cs et)).shape? (mu1 μ N w.heap.size N)=some (et,cs.size):=by
   rw [mu1_new]
   have:=heap_new ({ w with drawn:=w.drawn+1 }:World) (.cells cs et)
   unfold World.shape?
   rw [show w.heap.size=({ w with drawn:=w.drawn+1 }:World).heap.size from rfl,this]
  have:=rowAV_mk (v:=nl) (w:=({ w with drawn:=w.drawn+1 }:World).alloc (.cells cs et)) (F:=F) (μ:=mu1 μ N w.heap.size) (K:=plus K [N]) (id:=N) (n:=n+m) (esz:=ti.size) (cap:=nc) (.inr (by simp)) hncle hsh hsz (fun _=>by omega)
  rwa [mu1_new] at this
theorem op_copy {o:Oper} {s:SSt} {x y:Operand} {t u et:TypeId} {ti:TypeInfo} {v:Bool} {id n:Nat} {e f:Nat→Nat→AV}
  (ho:o.op=.call ⟨.builtin .copy,#[x,y],#[t,u]⟩) (ht:P.underlying t=some (.slice et)) (hi:P.info? et=some ti) (hs0:ti.size≠0)
  (hx:Opd s x (rowAV v id n ti.size)) (hb:s.H id=some (.row v ti.size n e)) (hs:Src P s y ti.size n f []) (hcl:∀ i j,i < n→j < ti.size→(f i j).isOs=false):
  OpOk P o s ⟨.int .i64 n,[(id,some (.row v ti.size n f))],[]⟩:=by
 intro w F O μ K ft a hsr _ Kn Q hk
 obtain ⟨B,cap2,g,S2,hvy,hg1,hg2,hg3,hg4⟩:=hs _ _ _ _ _ _ _ hsr
 unfold Oper.wp
 rcases rowAV_cap (hx hsr) with ⟨⟨a0,h1⟩,rfl,rfl⟩ | ⟨cap,sz,t',h1,h2,hid,h4,h5,h6⟩
 ·have hrun:(execOp a.eval o).run P w=.ok (.value (.int .i64 0)) w:=by
   have e0:flat ti.size 0 g=[]:=by simp [flat]
   have:=hg1 w rfl
   rw [e0] at this
   cases a0<;>simp [execOp,ho,resolve,invoke,builtin,h1,hvy,Builtin.copy_,run_und ht,run_siz hi,Builtin.lenOf,this,goInt,storeCells]
  rw [hrun,Oper.upon_value]
  have e1:(Blk.row true ti.size 0 f).lies=false:=rfl
  have hup:s.H.upd [(id,some (.row true ti.size 0 f))]=fun k=>if k=id then some (.row true ti.size 0 f) else s.H k:=rfl
  have casesL:∀ k,(s.H.upd [(id,some (.row true ti.size 0 f))]).live k→k≠id∧s.H.live k:=by
   rintro k ⟨b,hb',hl⟩
   rw [Hp.upd_one] at hb'
   split at hb'
   ·cases hb';cases hl
   ·exact ⟨‹_›,b,hb',hl⟩
  refine hk _ w F O μ ft (.int _ _) ?_ (Fr.refl w F O μ K)
  rw [plus_nil]
  refine { hsr.hr with known:=?_,blk:=?_,self:=fun k hl=>hsr.hr.self k (casesL k hl).2,own:=fun k hl=>hsr.hr.own k (casesL k hl).2,dj:=fun k k' hl hl'=>hsr.hr.dj k k' (casesL k hl).2 (casesL k' hl').2 }
  ·intro k b hb'
   rw [Hp.upd_one] at hb'
   split at hb'
   ·rename_i e;subst e;exact hsr.hr.known _ _ hb
   ·exact hsr.hr.known _ _ hb'
  ·intro k b hb' hl
   rw [Hp.upd_one] at hb'
   split at hb'
   ·cases hb';cases hl
   ·exact hsr.hr.blk k b hb' hl
 ·have hl:(Blk.row v ti.size n e).lies=true:=by
   cases v with
   | false=>rfl
   | true=>simpa [Blk.lies] using h6 rfl
  have hlv:s.H.live id:=⟨_,hb,hl⟩
  obtain ⟨ob,hob,cs,t2,S1,rfl,hB⟩:=hsr.hr.blk id _ hb hl
  have hcs:cap*ti.size≤cs.size:=by
   simp only [World.shape?,hob,Option.some.injEq,Prod.mk.injEq] at h4
   rw [h4.2];exact h5
  have h5':n*ti.size≤cs.size:=Nat.le_trans (Nat.mul_le_mul_right _ h2) hcs
  have hone:∀ v,v∈flat ti.size n g→v.oneCell'=true:=by
   intro v hv
   simp only [flat,List.mem_map,List.mem_range] at hv
   obtain ⟨k,hk,rfl⟩:=hv
   exact (hg2 _ _ (Nat.div_lt_of_lt_mul (by rw [Nat.mul_comm];exact hk)) (Nat.mod_lt _ (by omega))).2
  have hst:=run_storeCells (P:=P) (b:=μ id) (o:=0) (t:=t2) (flat ti.size n g) 0 w cs hob hone (by rw [flat_length];omega)
  have hrun:(execOp a.eval o).run P w=.ok (.value (.int .i64 n)) (wput w (μ id) (.cells (setV cs 0 (flat ti.size n g)) t2 (0,0))):=by
   have:(storeCells ⟨μ id,0,none⟩ (flat ti.size n g)).run P w=.ok () (wput w (μ id) (.cells (setV cs 0 (flat ti.size n g)) t2 (0,0))):=by simpa using hst
   have h1:(Builtin.copy_ #[t,u] o.type #[.slice (some ⟨μ id,0,none⟩) n cap,.slice B n cap2]).run P w=.ok (.int .i64 n) (wput w (μ id) (.cells (setV cs 0 (flat ti.size n g)) t2 (0,0))):=by
    simp only [Builtin.copy_]
    simp [run_und ht,run_siz hi,Builtin.lenOf,hg1 w rfl]
    rw [this]
    rfl
   simp [execOp,ho,resolve,invoke,builtin, *]
  rw [hrun,Oper.upon_value]
  have hs1:0+(flat ti.size n g).length≤cs.size:=by rw [flat_length];omega
  have hBlk:BlkR w F μ K (fun x=>x=μ id) (μ id) (.cells (setV cs 0 (flat ti.size n g)) t2 (0,0)) (.row v ti.size n f):=by
   refine row_ok (by rw [setV_size];exact h5') fun i j hi hj=>?_
   have h6:(i+1)*ti.size≤n*ti.size:=Nat.mul_le_mul_right _ hi
   rw [Nat.add_mul,Nat.one_mul] at h6
   rw [setV_getD _ _ _ hs1,flat_length,if_pos (by omega),Nat.sub_zero,flat_get hi hj]
   refine ⟨?_,(hg2 i j hi hj).2⟩
   exact ((hg2 i j hi hj).1.closed (hcl i j hi hj)).1
  obtain ⟨O',ft',k1,k2⟩:=write_step (L:=[]) hsr.hr hb hl hob (cells_shape (setV_size _ _ _)) (by simp) (fun y (hy:y=μ id)=>⟨id,.inl rfl,hlv,hy▸hsr.hr.self id hlv⟩) rfl hBlk
  exact hk _ _ F O' μ ft' (.int _ _) (by rw [plus_nil];exact k1) k2
end Go.Proofs.Ytljfmaaadnoggaa.Abs
