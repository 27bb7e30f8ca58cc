/- Rows whose parts are rows of the call's own: frozen, opened at a part, closed again. No condition. -/
import Derived.Test.YtljfmaaadnoggaaVI
namespace Go.Proofs.Ytljfmaaadnoggaa.Abs
open Go Go.RowKit
variable {w w' w'':World} {F F' F'' O O' O'':Nat→Prop} {μ μ' μ'':Nat→Nat} {K K' K'':Nat→Prop} {H H' H'':Hp} {ft ft':Nat→Nat→Prop} {P:Program}
theorem OwnR.freeze {S:Nat→Prop} {a':AV} {v:Value} (h:OwnR w F μ S a' v) (hF:∀ b,F b→F' b):∀ (a:AV),a.dat→a'=a.deep→(∀ b,S b→F' b)→VR w F' μ' NoK a v:=by
 induction h with
 | clo S a' v hv hS=>
  intro a hd he _
  have key:VR w F μ NoK a v:=by
   cases a with
   | fs esz n e=>simp only [AV.deep] at he;subst he;cases hv
   | _=>simp only [AV.deep] at he;subst he;exact hv
  exact (key.up (μ':=μ')).mono (fun _ _=>rfl) hF (fun _ h=>h.elim) (fun _ h=>h) fun _ h=>h.elim
 | osnil S esz e x hS=>
  intro a hd he _
  cases a with
  | fs esz' n e'=>simp only [AV.deep,AV.os.injEq] at he;obtain ⟨rfl,rfl,_⟩:=he;exact .fsnil _ _ _ _
  | os=>simp only [AV.dat] at hd
  | _=>simp only [AV.deep] at he;cases he
 | os T esz n e b cap cs t S hn0 hb hc hcs h1 _ hd' hn hT ih=>
  intro a hd he hS
  cases a with
  | fs esz' n' e'=>
   simp only [AV.deep,AV.os.injEq] at he
   obtain ⟨rfl,rfl,rfl⟩:=he
   simp only [AV.dat] at hd
   refine .fs _ _ _ b 0 cap (fun i j=>cs.getD (i*esz+j) undef) (hS b ((hT b).2 (.inl rfl))) hc (fun i j hi hj=>⟨?_,h1 i j hi hj⟩) fun i j hi hj=>ih i j hi hj _ (hd i j) rfl fun x hx=>hS x ((hT x).2 (.inr ⟨i,j,hi,hj,hx⟩))
   have h7:(i+1)*esz≤n*esz:=Nat.mul_le_mul_right _ hi
   rw [Nat.add_mul,Nat.one_mul] at h7
   have h8:n*esz≤cap*esz:=Nat.mul_le_mul_right _ hc
   have:i*esz+j < cs.size:=by omega
   simp [World.cell?,hb,this]
  | os=>simp only [AV.dat] at hd
  | _=>simp only [AV.deep] at he;cases he
theorem OwnR.nf {S:Nat→Prop} {a':AV} {v:Value} (h:OwnR w F μ S a' v):∀ (a:AV),a.dat→a'=a.deep→OwnR w F' μ' S a' v:=by
 induction h with
 | clo S a' v hv hS=>
  intro a hd he
  cases a<;>simp only [AV.deep] at he<;>subst he<;>(try simp only [AV.dat] at hd)<;>cases hv
  ·exact .clo _ _ _ (.top _) hS
  ·exact .clo _ _ _ (.int _ _) hS
  ·exact .clo _ _ _ (.bool _) hS
  ·exact .clo _ _ _ (.str _) hS
 | osnil S esz e x hS=>intro a hd he;exact .osnil _ _ _ _ hS
 | os T esz n e b cap cs t S hn0 hb hc hcs h1 _ hd' hn hT ih=>
  intro a hd he
  cases a with
  | fs esz' n' e'=>
   simp only [AV.deep,AV.os.injEq] at he
   obtain ⟨rfl,rfl,rfl⟩:=he
   simp only [AV.dat] at hd
   exact .os T _ _ _ b cap cs t S hn0 hb hc hcs h1 (fun i j hi hj=>ih i j hi hj _ (hd i j) rfl) hd' hn hT
  | os=>simp only [AV.dat] at hd
  | _=>simp only [AV.deep] at he;cases he
theorem bimp_row {v:Bool} {esz n:Nat} {e e':Nat→Nat→AV} (h:∀ i j,i < n→j < esz→∀ {w F μ S u},OwnR w F μ S (e i j) u→OwnR w F μ S (e' i j) u):BImp (.row v esz n e) (.row v esz n e'):=
 ⟨fun hl=>by cases v<;>exact hl,fun ⟨cs,t,S',h1,h2⟩=>⟨cs,t,S',h1,{ h2 with cell:=fun i j hi hj=>⟨h i j hi hj (h2.cell i j hi hj).1,(h2.cell i j hi hj).2⟩ }⟩⟩
theorem bimp_hrow {v:Bool} {esz n:Nat} {e e':Nat→Nat→AV} (h:∀ i j,i < n→j < esz→e i j=e' i j):BImp (.row v esz n e) (.hrow v esz n e'):=
 ⟨fun hl=>by cases v<;>exact hl,fun ⟨cs,t,S',h1,h2⟩=>⟨cs,t,S',h1,{ h2 with cell:=fun i j hi hj=>⟨.inl (h i j hi hj▸(h2.cell i j hi hj).1),(h2.cell i j hi hj).2⟩ }⟩⟩
theorem bimp_hh {v:Bool} {esz n:Nat} {e e':Nat→Nat→AV} (h:∀ i j,i < n→j < esz→e i j=e' i j):BImp (.hrow v esz n e) (.hrow v esz n e'):=
 ⟨fun hl=>by cases v<;>exact hl,fun ⟨cs,t,S',h1,h2⟩=>⟨cs,t,S',h1,{ h2 with cell:=fun i j hi hj=>⟨h i j hi hj▸(h2.cell i j hi hj).1,(h2.cell i j hi hj).2⟩ }⟩⟩
theorem bimp_unh {v:Bool} {esz n:Nat} {e e':Nat→Nat→AV} (h:∀ i j,i < n→j < esz→e i j=e' i j∧∃ a:AV,a.dat∧e i j=a.deep):BImp (.hrow v esz n e) (.row v esz n e'):=by
 refine ⟨fun hl=>by cases v<;>exact hl,fun {w F μ K S m o} ⟨cs,t,S',h1,h2⟩=>⟨cs,t,S',h1,{ h2 with cell:=fun i j hi hj=>⟨?_,(h2.cell i j hi hj).2⟩ }⟩⟩
 obtain ⟨q1,a,q2,q3⟩:=h i j hi hj
 rcases (h2.cell i j hi hj).1 with k | ⟨k,k2⟩
 ·exact q1▸k
 ·rw [← q1,q3]
  rw [q3] at k
  refine .clo _ _ _ ?_ k2
  generalize cs.getD (i*esz+j) undef=u at k ⊢
  cases a<;>simp only [AV.deep] at k ⊢<;>(try simp only [AV.dat] at q2)<;>cases k
  ·exact .top _
  ·exact .int _ _
  ·exact .bool _
  ·exact .str _
theorem hrow_lies {v:Bool} {esz n:Nat} {e:Nat→Nat→AV} (h:0 < n):(Blk.hrow v esz n e).lies=true:=by cases v<;>simp [Blk.lies];omega
theorem open_step {id N esz n i j esz' n':Nat} {v:Bool} {e e' e1:Nat→Nat→AV} (hr:HR w F O μ K H ft) (hN:¬ K N) (hb:H id=some (.hrow v esz n e)) (hi:i < n) (hj:j < esz) (he:e i j=.os esz' n' e')
  (h1:e1 i j=rowAV true N n' esz') (h2:∀ i' j',i' < n→j' < esz→¬ (i'=i∧j'=j)→e1 i' j'=e i' j'):
  ∃ μ' ft',HR w F O μ' (plus K [N]) (H.upd [(id,some (.hrow v esz n e1)),(N,some (.row true esz' n' e'))]) ft'∧Fr w F O μ K w F O μ':=by
 have hl:(Blk.hrow v esz n e).lies=true:=hrow_lies (by omega)
 have hlv:H.live id:=⟨_,hb,hl⟩
 have hKid:=hr.known id _ hb
 have hne:id≠N:=fun h=>hN (h▸hKid)
 obtain ⟨ob,hob,cs,t,S,rfl,hB⟩:=hr.blk id _ hb hl
 have hc0:=(hB.cell i j hi hj)
 rw [he] at hc0
 generalize hu:cs.getD (i*esz+j) undef=u at hc0
 have hcase:∃ B:Nat,B < w.heap.size∧VR w F (mu1 μ N B) (plus K [N]) (rowAV true N n' esz') u∧(n'≠0→S i j B∧∃ o,w.heap[B]?=some o∧∀ μ' K',BlkR w F μ' K' (S i j) B o (.row true esz' n' e')):=by
  rcases hc0.1 with k | ⟨k,_⟩
  ·cases k with
   | clo _ _ _ hv=>cases hv
   | osnil _ _ _ a hS=>exact ⟨0,hr.pos.lt,.vsnil _ _ _,fun h=>absurd rfl h⟩
   | os _ _ _ _ b cap cs' t' S' hn0 hb' hc hcs q1 q2 hd hn hT=>
    have hlt:b < w.heap.size:=(Array.getElem?_eq_some_iff.1 hb').1
    refine ⟨b,hlt,?_,fun _=>⟨(hT b).2 (.inl rfl),_,hb',fun μ' K'=>⟨cs',t',S',rfl,{ size:=Nat.le_trans (Nat.mul_le_mul_right _ hc) hcs,cell:=fun i' j' hi' hj'=>⟨(q2 i' j' hi' hj').any,q1 i' j' hi' hj'⟩,dj:=hd,nb:=hn,all:=hT }⟩⟩⟩
    have hsh:w.shape? (mu1 μ N b N)=some (t',cs'.size):=by rw [mu1_new];simp [World.shape?,hb']
    have:=VR.vs (w:=w) (F:=F) (μ:=mu1 μ N b) (K:=plus K [N]) N n' esz' cap cs'.size t' hn0 (.inr (by simp)) hc hsh hcs
    rwa [mu1_new] at this
  ·cases k
 obtain ⟨B,hBlt,hBv,hBr⟩:=hcase
 have mu:∀ k,K k→mu1 μ N B k=μ k:=fun k hk=>mu1_old fun e=>hN (e▸hk)
 have sub:∀ x,S i j x→ft id x:=fun x hx=>(hB.all x).2 (.inr ⟨i,j,hi,hj,hx⟩)
 have upd:∀ k,H.upd [(id,some (.hrow v esz n e1)),(N,some (.row true esz' n' e'))] k=if k=id then some (.hrow v esz n e1) else if k=N then some (.row true esz' n' e') else H k:=fun k=>rfl
 let ft':Nat→Nat→Prop:=fun k=>if k=N then S i j else if k=id then fun x=>ft id x∧¬ S i j x else ft k
 have fN:ft' N=S i j:=if_pos rfl
 have fI:ft' id=fun x=>ft id x∧¬ S i j x:=by simp only [ft',if_neg hne,if_true]
 have fO:∀ k,k≠N→k≠id→ft' k=ft k:=fun k h h'=>by simp only [ft',if_neg h,if_neg h']
 have casesL:∀ k,(H.upd [(id,some (.hrow v esz n e1)),(N,some (.row true esz' n' e'))]).live k→k=id∨(k=N∧n'≠0)∨(k≠id∧k≠N∧H.live k):=by
  rintro k ⟨b,hb',hl'⟩
  rw [upd] at hb'
  by_cases q:k=id
  ·exact .inl q
  ·rw [if_neg q] at hb'
   by_cases q2:k=N
   ·rw [if_pos q2] at hb'
    cases hb'
    exact .inr (.inl ⟨q2,by simpa [Blk.lies] using hl'⟩)
   ·rw [if_neg q2] at hb'
    exact .inr (.inr ⟨q,q2,b,hb',hl'⟩)
 have lvN:∀ k,H.live k→k≠N:=fun k hk h=>hN (h▸hr.live_known hk)
 refine ⟨mu1 μ N B,ft',{ lt:=?_,known:=?_,blk:=?_,self:=?_,own:=?_,dj:=?_,nof:=hr.nof,wf:=hr.wf,owf:=hr.owf,pos:=hr.pos },{ Fr.refl w F O μ K with mu:=mu }⟩
 ·rintro k (h | h)
  ·rw [mu k h];exact hr.lt k h
  ·obtain rfl:k=N:=by simpa using h
   rw [mu1_new];exact hBlt
 ·intro k b hb'
  rw [upd] at hb'
  by_cases q:k=id
  ·exact .inl (q▸hKid)
  ·rw [if_neg q] at hb'
   by_cases q2:k=N
   ·exact .inr (by simp [q2])
   ·rw [if_neg q2] at hb';exact .inl (hr.known k b hb')
 ·intro k b hb' hl'
  rw [upd] at hb'
  by_cases q:k=id
  ·subst q
   rw [if_pos rfl] at hb'
   cases hb'
   rw [mu k hKid,fI]
   refine ⟨_,hob,cs,t,fun i' j' x=>¬ (i'=i∧j'=j)∧S i' j' x,rfl,{ size:=hB.size,cell:=fun i' j' hi' hj'=>⟨?_,(hB.cell i' j' hi' hj').2⟩,dj:=fun i1 j1 i2 j2 a1 a2 a3 a4 x hx hx'=>hB.dj i1 j1 i2 j2 a1 a2 a3 a4 x hx.2 hx'.2,nb:=fun i' j' hi' hj' hx=>hB.nb i' j' hi' hj' hx.2,all:=fun x=>⟨fun hx=>?_,fun hx=>?_⟩ }⟩
   ·by_cases q:i'=i∧j'=j
    ·obtain ⟨rfl,rfl⟩:=q
     rw [h1,hu]
     exact .inr ⟨hBv,fun x hx=>hx.1 ⟨rfl,rfl⟩⟩
    ·rw [h2 i' j' hi' hj' q]
     have eS:(fun x=>¬ (i'=i∧j'=j)∧S i' j' x)=S i' j':=by funext x;exact propext ⟨fun h=>h.2,fun h=>⟨q,h⟩⟩
     rw [eS]
     exact (hB.cell i' j' hi' hj').1.imp (fun k=>k.any) fun k=>⟨k.1.mono (fun _ _=>rfl) (fun _ h=>h) mu (fun _ h=>.inl h) fun _ _=>rfl,k.2⟩
   ·rcases (hB.all x).1 hx.1 with h | ⟨i',j',a1,a2,a3⟩
    ·exact .inl h
    ·exact .inr ⟨i',j',a1,a2,(fun h=>hx.2 (by obtain ⟨rfl,rfl⟩:=h;exact a3)),a3⟩
   ·rcases hx with h | ⟨i',j',a1,a2,a3,a4⟩
    ·exact ⟨(hB.all x).2 (.inl h),fun h'=>hB.nb i j hi hj (h▸h')⟩
    ·exact ⟨(hB.all x).2 (.inr ⟨i',j',a1,a2,a4⟩),fun h'=>a3 (hB.dj i' j' i j a1 a2 hi hj x a4 h')⟩
  ·rw [if_neg q] at hb'
   by_cases q2:k=N
   ·subst q2
    rw [if_pos rfl] at hb'
    cases hb'
    obtain ⟨_,o,ho,hBo⟩:=hBr (by simpa [Blk.lies] using hl')
    rw [mu1_new,fN]
    exact ⟨o,ho,hBo _ _⟩
   ·rw [if_neg q2] at hb'
    obtain ⟨o,ho,hBo⟩:=hr.blk k b hb' hl'
    rw [mu k (hr.known k b hb'),fO k q2 q]
    exact ⟨o,ho,hBo.mono (fun _ _=>rfl) (fun _ h=>h) mu (fun _ h=>.inl h) (fun _ _=>rfl) fun _ _ _=>rfl⟩
 ·intro k hk
  rcases casesL k hk with rfl | ⟨rfl,h⟩ | ⟨q,q2,h⟩
  ·rw [mu k hKid,fI];exact ⟨hr.self k hlv,fun h=>hB.nb i j hi hj h⟩
  ·rw [mu1_new,fN];exact (hBr h).1
  ·rw [mu k (hr.live_known h),fO k q2 q];exact hr.self k h
 ·intro k hk x hx
  rcases casesL k hk with rfl | ⟨rfl,h⟩ | ⟨q,q2,h⟩
  ·rw [fI] at hx;exact hr.own k hlv x hx.1
  ·rw [fN] at hx;exact hr.own id hlv x (sub x hx)
  ·rw [fO k q2 q] at hx;exact hr.own k h x hx
 ·intro k k' hk hk' x hx hx'
  rcases casesL k hk with rfl | ⟨rfl,h⟩ | ⟨q,q2,h⟩<;>rcases casesL k' hk' with rfl | ⟨rfl,h'⟩ | ⟨p,p2,h'⟩
  ·rfl
  ·rw [fI] at hx;rw [fN] at hx';exact absurd hx' hx.2
  ·rw [fI] at hx;rw [fO k' p2 p] at hx';exact hr.dj k k' hlv h' x hx.1 hx'
  ·rw [fN] at hx;rw [fI] at hx';exact absurd hx hx'.2
  ·rfl
  ·rw [fN] at hx;rw [fO k' p2 p] at hx';exact absurd (hr.dj id k' hlv h' x (sub x hx) hx').symm p
  ·rw [fO k q2 q] at hx;rw [fI] at hx';exact hr.dj k k' h hlv x hx hx'.1
  ·rw [fO k q2 q] at hx;rw [fN] at hx';exact absurd (hr.dj k id h hlv x hx (sub x hx')) q
  ·rw [fO k q2 q] at hx;rw [fO k' p2 p] at hx';exact hr.dj k k' h h' x hx hx'
theorem close_step {id M esz n i j esz' n':Nat} {v:Bool} {e e' e1:Nat→Nat→AV} (hr:HR w F O μ K H ft) (hb:H id=some (.hrow v esz n e)) (hM:H M=some (.row true esz' n' e')) (hi:i < n) (hj:j < esz)
  (he:e i j=rowAV true M n' esz') (h1:e1 i j=.os esz' n' e') (h2:∀ i' j',i' < n→j' < esz→¬ (i'=i∧j'=j)→e1 i' j'=e i' j'):
  ∃ ft',HR w F O μ K (H.upd [(id,some (.hrow v esz n e1)),(M,none)]) ft':=by
 have hne:id≠M:=fun h=>by rw [h,hM] at hb;cases hb
 have hl:(Blk.hrow v esz n e).lies=true:=hrow_lies (by omega)
 have hlv:H.live id:=⟨_,hb,hl⟩
 obtain ⟨ob,hob,cs,t,S,rfl,hB⟩:=hr.blk id _ hb hl
 have hc0:=(hB.cell i j hi hj)
 rw [he] at hc0
 generalize hu:cs.getD (i*esz+j) undef=u at hc0
 have hv:VR w F μ K (rowAV true M n' esz') u∧∀ x,¬ S i j x:=by
  rcases hc0.1 with k | k
  ·cases k with
   | clo _ _ _ hv hS=>exact ⟨hv.mono (fun _ _=>rfl) (fun _ h=>h) (fun _ h=>h.elim) (fun _ h=>h.elim) (fun _ h=>h.elim),hS⟩
  ·exact k
 let T:Nat→Prop:=fun x=>H.live M∧ft M x
 have hO:OwnR w F μ T (.os esz' n' e') u:=by
  rcases rowAV_cap hv.1 with ⟨⟨a,rfl⟩,rfl,_⟩ | ⟨cap,sz,t',rfl,q2,q3,q4,q5,q6⟩
  ·refine .osnil _ _ _ _ fun x hx=>?_
   obtain ⟨b,hb',hl'⟩:=hx.1
   rw [hM] at hb'
   cases hb'
   cases hl'
  ·have hn0:=q6 rfl
   have hlM:(Blk.row true esz' n' e').lies=true:=by simpa [Blk.lies] using hn0
   obtain ⟨ob',hob',cs',t2,S',rfl,hB'⟩:=hr.blk M _ hM hlM
   have hcs:cap*esz'≤cs'.size:=by
    simp only [World.shape?,hob',Option.some.injEq,Prod.mk.injEq] at q4
    rw [q4.2];exact q5
   have hlvM:H.live M:=⟨_,hM,hlM⟩
   refine .os T esz' n' e' (μ M) cap cs' t2 S' hn0 hob' q2 hcs (fun i j hi hj=>(hB'.cell i j hi hj).2) (fun i j hi hj=>(hB'.cell i j hi hj).1) hB'.dj hB'.nb fun x=>?_
   exact ⟨fun h=>(hB'.all x).1 h.2,fun h=>⟨hlvM,(hB'.all x).2 h⟩⟩
 have upd:∀ k,H.upd [(id,some (.hrow v esz n e1)),(M,none)] k=if k=id then some (.hrow v esz n e1) else if k=M then none else H k:=fun k=>rfl
 let ft':Nat→Nat→Prop:=fun k=>if k=id then fun x=>ft id x∨T x else ft k
 have fI:ft' id=fun x=>ft id x∨T x:=if_pos rfl
 have fO:∀ k,k≠id→ft' k=ft k:=fun k h=>if_neg h
 have casesL:∀ k,(H.upd [(id,some (.hrow v esz n e1)),(M,none)]).live k→k=id∨(k≠id∧k≠M∧H.live k):=by
  rintro k ⟨b,hb',hl'⟩
  rw [upd] at hb'
  by_cases q:k=id
  ·exact .inl q
  ·rw [if_neg q] at hb'
   by_cases q2:k=M
   ·rw [if_pos q2] at hb';cases hb'
   ·rw [if_neg q2] at hb';exact .inr ⟨q,q2,b,hb',hl'⟩
 have ap:∀ x,ft id x→T x→False:=fun x hx hx'=>hne (hr.dj id M hlv hx'.1 x hx hx'.2)
 refine ⟨ft',{ lt:=hr.lt,known:=?_,blk:=?_,self:=?_,own:=?_,dj:=?_,nof:=hr.nof,wf:=hr.wf,owf:=hr.owf,pos:=hr.pos }⟩
 ·intro k b hb'
  rw [upd] at hb'
  by_cases q:k=id
  ·exact q▸hr.known id _ hb
  ·rw [if_neg q] at hb'
   split at hb'
   ·cases hb'
   ·exact hr.known k b hb'
 ·intro k b hb' hl'
  rw [upd] at hb'
  by_cases q:k=id
  ·subst q
   rw [if_pos rfl] at hb'
   cases hb'
   rw [fI]
   have inn:∀ i' j',i' < n→j' < esz→∀ x,S i' j' x→ft k x:=fun i' j' a1 a2 x hx=>(hB.all x).2 (.inr ⟨i',j',a1,a2,hx⟩)
   refine ⟨_,hob,cs,t,fun i' j' x=>(¬ (i'=i∧j'=j)∧S i' j' x)∨((i'=i∧j'=j)∧T x),rfl,{ size:=hB.size,cell:=fun i' j' hi' hj'=>⟨?_,(hB.cell i' j' hi' hj').2⟩,dj:=?_,nb:=?_,all:=fun x=>⟨fun hx=>?_,fun hx=>?_⟩ }⟩
   ·by_cases q:i'=i∧j'=j
    ·have eS:(fun x=>(¬ (i'=i∧j'=j)∧S i' j' x)∨((i'=i∧j'=j)∧T x))=T:=by funext x;exact propext ⟨fun h=>h.elim (fun h=>absurd q h.1) fun h=>h.2,fun h=>.inr ⟨q,h⟩⟩
     rw [eS,q.1,q.2,h1,hu]
     exact .inl hO
    ·have eS:(fun x=>(¬ (i'=i∧j'=j)∧S i' j' x)∨((i'=i∧j'=j)∧T x))=S i' j':=by funext x;exact propext ⟨fun h=>h.elim (fun h=>h.2) fun h=>absurd h.1 q,fun h=>.inl ⟨q,h⟩⟩
     rw [eS,h2 i' j' hi' hj' q]
     exact (hB.cell i' j' hi' hj').1
   ·rintro i1 j1 i2 j2 a1 a2 a3 a4 x (⟨h,hx⟩ | ⟨h,hx⟩) (⟨h',hx'⟩ | ⟨h',hx'⟩)
    ·exact hB.dj i1 j1 i2 j2 a1 a2 a3 a4 x hx hx'
    ·exact (ap x (inn i1 j1 a1 a2 x hx) hx').elim
    ·exact (ap x (inn i2 j2 a3 a4 x hx') hx).elim
    ·exact ⟨h.1.trans h'.1.symm,h.2.trans h'.2.symm⟩
   ·rintro i' j' a1 a2 (⟨_,hx⟩ | ⟨_,hx⟩)
    ·exact hB.nb i' j' a1 a2 hx
    ·exact ap _ (hr.self k hlv) hx
   ·rcases hx with hx | hx
    ·rcases (hB.all x).1 hx with h | ⟨i',j',a1,a2,a3⟩
     ·exact .inl h
     ·refine .inr ⟨i',j',a1,a2,.inl ⟨?_,a3⟩⟩
      rintro ⟨rfl,rfl⟩
      exact hv.2 x a3
    ·exact .inr ⟨i,j,hi,hj,.inr ⟨⟨rfl,rfl⟩,hx⟩⟩
   ·rcases hx with h | ⟨i',j',a1,a2,⟨_,a4⟩ | ⟨_,a4⟩⟩
    ·exact .inl ((hB.all x).2 (.inl h))
    ·exact .inl (inn i' j' a1 a2 x a4)
    ·exact .inr a4
  ·rw [if_neg q] at hb'
   split at hb'
   ·cases hb'
   ·rw [fO k q];exact hr.blk k b hb' hl'
 ·intro k hk
  rcases casesL k hk with rfl | ⟨q,q2,h⟩
  ·rw [fI];exact .inl (hr.self k hlv)
  ·rw [fO k q];exact hr.self k h
 ·intro k hk x hx
  rcases casesL k hk with rfl | ⟨q,q2,h⟩
  ·rw [fI] at hx
   exact hx.elim (fun h=>hr.own k hlv x h) fun h=>hr.own M h.1 x h.2
  ·rw [fO k q] at hx;exact hr.own k h x hx
 ·have cr:∀ k,k≠id→k≠M→H.live k→∀ x,ft id x∨T x→ft k x→False:=fun k q q2 h x hx hx'=>hx.elim (fun hx=>q (hr.dj k id h hlv x hx' hx)) fun hx=>q2 (hr.dj k M h hx.1 x hx' hx.2)
  intro k k' hk hk' x hx hx'
  rcases casesL k hk with rfl | ⟨q,q2,h⟩<;>rcases casesL k' hk' with rfl | ⟨p,p2,h'⟩
  ·rfl
  ·rw [fI] at hx;rw [fO k' p] at hx';exact (cr k' p p2 h' x hx hx').elim
  ·rw [fO k q] at hx;rw [fI] at hx';exact (cr k q q2 h x hx' hx).elim
  ·rw [fO k q] at hx;rw [fO k' p] at hx';exact hr.dj k k' h h' x hx hx'
end Go.Proofs.Ytljfmaaadnoggaa.Abs
