/- Rows whose parts are rows of the call's own: frozen, opened at a part, closed again. No condition. -/
import Derived.Test.YtljfmaaadnoggaaGreatDoorVI
namespace Go.Proofs.YtljfmaaadnoggaaGreatDoor.cU
open Go Go.RowKit
variable {w w' vP:World} {F F' Am O O' ux:Nat→Prop} {μ bB jV:Nat→Nat} {K K' DQ:Nat→Prop} {H H' H'':Hp} {ft b7:Nat→Nat→Prop} {P:Program}
theorem iW.freeze {S:Nat→Prop} {a':AV} {v:Value} (h:iW w F μ S a' v) (hF:∀ b,F b→F' b):∀ (a:AV),a.UA→a'=a.deep→(∀ b,S b→F' b)→VR w F' bB B_ a v:=by
 induction h with
 | Iy S a' v hv hS=>
  intro a hd he _
  have key:VR w F μ B_ a v:=by
   cases a with
   | fs aZ n e=>simp only [AV.deep] at he;subst he;cases hv
   | _=>simp only [AV.deep] at he;subst he;exact hv
  exact (key.up (bB:=bB)).mono (fun _ _=>rfl) hF (fun _ h=>h.elim) (fun _ h=>h) fun _ h=>h.elim
 | Al S aZ e x hS=>
  intro a hd he _
  cases a with
  | fs sT n e'=>simp only [AV.deep,AV.os.injEq] at he;obtain ⟨rfl,rfl,_⟩:=he;exact .uw _ _ _ _
  | os=>simp only [AV.UA] at hd
  | _=>simp only [AV.deep] at he;cases he
 | os T aZ n e b cap cs t S Lc hb hc CF h1 _ Nh hn hT ih=>
  intro a hd he hS
  cases a with
  | fs sT n' e'=>
   simp only [AV.deep,AV.os.injEq] at he
   obtain ⟨rfl,rfl,rfl⟩:=he
   simp only [AV.UA] at hd
   refine .fs _ _ _ b 0 cap (fun i j=>cs.getD (i*aZ+j) undef) (hS b ((hT b).2 (.inl rfl))) hc (fun i j hi hj=>⟨?_,h1 i j hi hj⟩) fun i j hi hj=>ih i j hi hj _ (hd i j) rfl fun x hx=>hS x ((hT x).2 (.inr ⟨i,j,hi,hj,hx⟩))
   have h7:(i+1)*aZ≤n*aZ:=Nat.mul_le_mul_right _ hi
   rw [Nat.add_mul,Nat.one_mul] at h7
   have h8:n*aZ≤cap*aZ:=Nat.mul_le_mul_right _ hc
   have:i*aZ+j < cs.size:=by omega
   simp [World.cell?,hb,this]
  | os=>simp only [AV.UA] at hd
  | _=>simp only [AV.deep] at he;cases he
theorem iW.nf {S:Nat→Prop} {a':AV} {v:Value} (h:iW w F μ S a' v):∀ (a:AV),a.UA→a'=a.deep→iW w F' bB S a' v:=by
 induction h with
 | Iy S a' v hv hS=>
  intro a hd he
  cases a<;>simp only [AV.deep] at he<;>subst he<;>(try simp only [AV.UA] at hd)<;>cases hv
  ·exact .Iy _ _ _ (.top _) hS
  ·exact .Iy _ _ _ (.int _ _) hS
  ·exact .Iy _ _ _ (.bool _) hS
  ·exact .Iy _ _ _ (.str _) hS
 | Al S aZ e x hS=>intro a hd he;exact .Al _ _ _ _ hS
 | os T aZ n e b cap cs t S Lc hb hc CF h1 _ Nh hn hT ih=>
  intro a hd he
  cases a with
  | fs sT n' e'=>
   simp only [AV.deep,AV.os.injEq] at he
   obtain ⟨rfl,rfl,rfl⟩:=he
   simp only [AV.UA] at hd
   exact .os T _ _ _ b cap cs t S Lc hb hc CF h1 (fun i j hi hj=>ih i j hi hj _ (hd i j) rfl) Nh hn hT
  | os=>simp only [AV.UA] at hd
  | _=>simp only [AV.deep] at he;cases he
theorem SV {v:Bool} {aZ n:Nat} {e e':Nat→Nat→AV} (h:∀ i j,i < n→j < aZ→∀ {w F μ S u},iW w F μ S (e i j) u→iW w F μ S (e' i j) u):eD (.row v aZ n e) (.row v aZ n e'):=
 ⟨fun hl=>by cases v<;>exact hl,fun ⟨cs,t,S',h1,h2⟩=>⟨cs,t,S',h1,{ h2 with cell:=fun i j hi hj=>⟨h i j hi hj (h2.cell i j hi hj).1,(h2.cell i j hi hj).2⟩ }⟩⟩
theorem Xv {v:Bool} {aZ n:Nat} {e e':Nat→Nat→AV} (h:∀ i j,i < n→j < aZ→e i j=e' i j):eD (.row v aZ n e) (.c5 v aZ n e'):=
 ⟨fun hl=>by cases v<;>exact hl,fun ⟨cs,t,S',h1,h2⟩=>⟨cs,t,S',h1,{ h2 with cell:=fun i j hi hj=>⟨.inl (h i j hi hj▸(h2.cell i j hi hj).1),(h2.cell i j hi hj).2⟩ }⟩⟩
theorem aa0 {v:Bool} {aZ n:Nat} {e e':Nat→Nat→AV} (h:∀ i j,i < n→j < aZ→e i j=e' i j):eD (.c5 v aZ n e) (.c5 v aZ n e'):=
 ⟨fun hl=>by cases v<;>exact hl,fun ⟨cs,t,S',h1,h2⟩=>⟨cs,t,S',h1,{ h2 with cell:=fun i j hi hj=>⟨h i j hi hj▸(h2.cell i j hi hj).1,(h2.cell i j hi hj).2⟩ }⟩⟩
theorem SW {v:Bool} {aZ n:Nat} {e e':Nat→Nat→AV} (h:∀ i j,i < n→j < aZ→e i j=e' i j∧∃ a:AV,a.UA∧e i j=a.deep):eD (.c5 v aZ n e) (.row v aZ n e'):=by
 refine ⟨fun hl=>by cases v<;>exact hl,fun {w F μ K S m o} ⟨cs,t,S',h1,h2⟩=>⟨cs,t,S',h1,{ h2 with cell:=fun i j hi hj=>⟨?_,(h2.cell i j hi hj).2⟩ }⟩⟩
 obtain ⟨q1,a,q2,q3⟩:=h i j hi hj
 rcases (h2.cell i j hi hj).1 with k | ⟨k,k2⟩
 ·exact q1▸k
 ·rw [← q1,q3]
  rw [q3] at k
  refine .Iy _ _ _ ?_ k2
  generalize cs.getD (i*aZ+j) undef=u at k ⊢
  cases a<;>simp only [AV.deep] at k ⊢<;>(try simp only [AV.UA] at q2)<;>cases k
  ·exact .top _
  ·exact .int _ _
  ·exact .bool _
  ·exact .str _
theorem Ey {v:Bool} {aZ n:Nat} {e:Nat→Nat→AV} (h:0 < n):(ju.c5 v aZ n e).eI=true:=by cases v<;>simp [ju.eI];omega
theorem Xw {id N aZ n i j sT n':Nat} {v:Bool} {e e' e1:Nat→Nat→AV} (hr:HR w F O μ K H ft) (hN:¬ K N) (hb:H id=some (.c5 v aZ n e)) (hi:i < n) (hj:j < aZ) (he:e i j=.os sT n' e')
  (h1:e1 i j=dd true N n' sT) (h2:∀ i' j',i' < n→j' < aZ→¬ (i'=i∧j'=j)→e1 i' j'=e i' j'):
  ∃ bB b7,HR w F O bB (plus K [N]) (H.c7 [(id,some (.c5 v aZ n e1)),(N,some (.row true sT n' e'))]) b7∧Fr w F O μ K w F O bB:=by
 have hl:(ju.c5 v aZ n e).eI=true:=Ey (by omega)
 have ic:H.live id:=⟨_,hb,hl⟩
 have Xx:=hr.known id _ hb
 have o8:id≠N:=fun h=>hN (h▸Xx)
 obtain ⟨ob,rQ,cs,t,S,rfl,hB⟩:=hr.di id _ hb hl
 have hc0:=(hB.cell i j hi hj)
 rw [he] at hc0
 generalize hu:cs.getD (i*aZ+j) undef=u at hc0
 have aet:∃ B:Nat,B < w.heap.size∧VR w F (IC μ N B) (plus K [N]) (dd true N n' sT) u∧(n'≠0→S i j B∧∃ o,w.heap[B]?=some o∧∀ bB K',gO w F bB K' (S i j) B o (.row true sT n' e')):=by
  rcases hc0.1 with k | ⟨k,_⟩
  ·cases k with
   | Iy _ _ _ hv=>cases hv
   | Al _ _ _ a hS=>exact ⟨0,hr.pos.lt,.vO _ _ _,fun h=>absurd rfl h⟩
   | os _ _ _ _ b cap cs' t' S' Lc cd hc CF q1 q2 hd hn hT=>
    have dL:b < w.heap.size:=(Array.getElem?_eq_some_iff.1 cd).1
    refine ⟨b,dL,?_,fun _=>⟨(hT b).2 (.inl rfl),_,cd,fun bB K'=>⟨cs',t',S',rfl,{ size:=Nat.le_trans (Nat.mul_le_mul_right _ hc) CF,cell:=fun i' j' c8 lu=>⟨(q2 i' j' c8 lu).any,q1 i' j' c8 lu⟩,dj:=hd,nb:=hn,all:=hT }⟩⟩⟩
    have rO:w.shape? (IC μ N b N)=some (t',cs'.size):=by rw [g0];simp [World.shape?,cd]
    have:=VR.vs (w:=w) (F:=F) (μ:=IC μ N b) (K:=plus K [N]) N n' sT cap cs'.size t' Lc (.inr (by simp)) hc rO CF
    rwa [g0] at this
  ·cases k
 obtain ⟨B,agl,hBv,hBr⟩:=aet
 have mu:∀ k,K k→IC μ N B k=μ k:=fun k hk=>ID fun e=>hN (e▸hk)
 have sub:∀ x,S i j x→ft id x:=fun x hx=>(hB.all x).2 (.inr ⟨i,j,hi,hj,hx⟩)
 have c7:∀ k,H.c7 [(id,some (.c5 v aZ n e1)),(N,some (.row true sT n' e'))] k=if k=id then some (.c5 v aZ n e1) else if k=N then some (.row true sT n' e') else H k:=fun k=>rfl
 let b7:Nat→Nat→Prop:=fun k=>if k=N then S i j else if k=id then fun x=>ft id x∧¬ S i j x else ft k
 have fN:b7 N=S i j:=if_pos rfl
 have fI:b7 id=fun x=>ft id x∧¬ S i j x:=by simp only [b7,if_neg o8,if_true]
 have fO:∀ k,k≠N→k≠id→b7 k=ft k:=fun k h h'=>by simp only [b7,if_neg h,if_neg h']
 have fW:∀ k,(H.c7 [(id,some (.c5 v aZ n e1)),(N,some (.row true sT n' e'))]).live k→k=id∨(k=N∧n'≠0)∨(k≠id∧k≠N∧H.live k):=by
  rintro k ⟨b,cd,Bk⟩
  rw [c7] at cd
  by_cases q:k=id
  ·exact .inl q
  ·rw [if_neg q] at cd
   by_cases q2:k=N
   ·rw [if_pos q2] at cd
    cases cd
    exact .inr (.inl ⟨q2,by simpa [ju.eI] using Bk⟩)
   ·rw [if_neg q2] at cd
    exact .inr (.inr ⟨q,q2,b,cd,Bk⟩)
 have lvN:∀ k,H.live k→k≠N:=fun k hk h=>hN (h▸hr.pw hk)
 refine ⟨IC μ N B,b7,{ lt:=?_,known:=?_,di:=?_,self:=?_,own:=?_,dj:=?_,xW:=hr.xW,wf:=hr.wf,p0:=hr.p0,pos:=hr.pos },{ Fr.refl w F O μ K with mu:=mu }⟩
 ·rintro k (h | h)
  ·rw [mu k h];exact hr.lt k h
  ·obtain rfl:k=N:=by simpa using h
   rw [g0];exact agl
 ·intro k b cd
  rw [c7] at cd
  by_cases q:k=id
  ·exact .inl (q▸Xx)
  ·rw [if_neg q] at cd
   by_cases q2:k=N
   ·exact .inr (by simp [q2])
   ·rw [if_neg q2] at cd;exact .inl (hr.known k b cd)
 ·intro k b cd Bk
  rw [c7] at cd
  by_cases q:k=id
  ·subst q
   rw [if_pos rfl] at cd
   cases cd
   rw [mu k Xx,fI]
   refine ⟨_,rQ,cs,t,fun i' j' x=>¬ (i'=i∧j'=j)∧S i' j' x,rfl,{ size:=hB.size,cell:=fun i' j' c8 lu=>⟨?_,(hB.cell i' j' c8 lu).2⟩,dj:=fun i1 j1 i2 j2 a1 a2 a3 a4 x hx j7=>hB.dj i1 j1 i2 j2 a1 a2 a3 a4 x hx.2 j7.2,nb:=fun i' j' c8 lu hx=>hB.nb i' j' c8 lu hx.2,all:=fun x=>⟨fun hx=>?_,fun hx=>?_⟩ }⟩
   ·by_cases q:i'=i∧j'=j
    ·obtain ⟨rfl,rfl⟩:=q
     rw [h1,hu]
     exact .inr ⟨hBv,fun x hx=>hx.1 ⟨rfl,rfl⟩⟩
    ·rw [h2 i' j' c8 lu q]
     have eS:(fun x=>¬ (i'=i∧j'=j)∧S i' j' x)=S i' j':=by funext x;exact propext ⟨fun h=>h.2,fun h=>⟨q,h⟩⟩
     rw [eS]
     exact (hB.cell i' j' c8 lu).1.imp (fun k=>k.any) fun k=>⟨k.1.mono (fun _ _=>rfl) (fun _ h=>h) mu (fun _ h=>.inl h) fun _ _=>rfl,k.2⟩
   ·rcases (hB.all x).1 hx.1 with h | ⟨i',j',a1,a2,a3⟩
    ·exact .inl h
    ·exact .inr ⟨i',j',a1,a2,(fun h=>hx.2 (by obtain ⟨rfl,rfl⟩:=h;exact a3)),a3⟩
   ·rcases hx with h | ⟨i',j',a1,a2,a3,a4⟩
    ·exact ⟨(hB.all x).2 (.inl h),fun h'=>hB.nb i j hi hj (h▸h')⟩
    ·exact ⟨(hB.all x).2 (.inr ⟨i',j',a1,a2,a4⟩),fun h'=>a3 (hB.dj i' j' i j a1 a2 hi hj x a4 h')⟩
  ·rw [if_neg q] at cd
   by_cases q2:k=N
   ·subst q2
    rw [if_pos rfl] at cd
    cases cd
    obtain ⟨_,o,ho,hBo⟩:=hBr (by simpa [ju.eI] using Bk)
    rw [g0,fN]
    exact ⟨o,ho,hBo _ _⟩
   ·rw [if_neg q2] at cd
    obtain ⟨o,ho,hBo⟩:=hr.di k b cd Bk
    rw [mu k (hr.known k b cd),fO k q2 q]
    exact ⟨o,ho,hBo.mono (fun _ _=>rfl) (fun _ h=>h) mu (fun _ h=>.inl h) (fun _ _=>rfl) fun _ _ _=>rfl⟩
 ·intro k hk
  rcases fW k hk with rfl | ⟨rfl,h⟩ | ⟨q,q2,h⟩
  ·rw [mu k Xx,fI];exact ⟨hr.self k ic,fun h=>hB.nb i j hi hj h⟩
  ·rw [g0,fN];exact (hBr h).1
  ·rw [mu k (hr.pw h),fO k q2 q];exact hr.self k h
 ·intro k hk x hx
  rcases fW k hk with rfl | ⟨rfl,h⟩ | ⟨q,q2,h⟩
  ·rw [fI] at hx;exact hr.own k ic x hx.1
  ·rw [fN] at hx;exact hr.own id ic x (sub x hx)
  ·rw [fO k q2 q] at hx;exact hr.own k h x hx
 ·intro k k' hk FC x hx j7
  rcases fW k hk with rfl | ⟨rfl,h⟩ | ⟨q,q2,h⟩<;>rcases fW k' FC with rfl | ⟨rfl,h'⟩ | ⟨p,p2,h'⟩
  ·rfl
  ·rw [fI] at hx;rw [fN] at j7;exact absurd j7 hx.2
  ·rw [fI] at hx;rw [fO k' p2 p] at j7;exact hr.dj k k' ic h' x hx.1 j7
  ·rw [fN] at hx;rw [fI] at j7;exact absurd hx j7.2
  ·rfl
  ·rw [fN] at hx;rw [fO k' p2 p] at j7;exact absurd (hr.dj id k' ic h' x (sub x hx) j7).symm p
  ·rw [fO k q2 q] at hx;rw [fI] at j7;exact hr.dj k k' h ic x hx j7.1
  ·rw [fO k q2 q] at hx;rw [fN] at j7;exact absurd (hr.dj k id h ic x hx (sub x j7)) q
  ·rw [fO k q2 q] at hx;rw [fO k' p2 p] at j7;exact hr.dj k k' h h' x hx j7
theorem UQ {id M aZ n i j sT n':Nat} {v:Bool} {e e' e1:Nat→Nat→AV} (hr:HR w F O μ K H ft) (hb:H id=some (.c5 v aZ n e)) (hM:H M=some (.row true sT n' e')) (hi:i < n) (hj:j < aZ)
  (he:e i j=dd true M n' sT) (h1:e1 i j=.os sT n' e') (h2:∀ i' j',i' < n→j' < aZ→¬ (i'=i∧j'=j)→e1 i' j'=e i' j'):
  ∃ b7,HR w F O μ K (H.c7 [(id,some (.c5 v aZ n e1)),(M,none)]) b7:=by
 have o8:id≠M:=fun h=>by rw [h,hM] at hb;cases hb
 have hl:(ju.c5 v aZ n e).eI=true:=Ey (by omega)
 have ic:H.live id:=⟨_,hb,hl⟩
 obtain ⟨ob,rQ,cs,t,S,rfl,hB⟩:=hr.di id _ hb hl
 have hc0:=(hB.cell i j hi hj)
 rw [he] at hc0
 generalize hu:cs.getD (i*aZ+j) undef=u at hc0
 have hv:VR w F μ K (dd true M n' sT) u∧∀ x,¬ S i j x:=by
  rcases hc0.1 with k | k
  ·cases k with
   | Iy _ _ _ hv hS=>exact ⟨hv.mono (fun _ _=>rfl) (fun _ h=>h) (fun _ h=>h.elim) (fun _ h=>h.elim) (fun _ h=>h.elim),hS⟩
  ·exact k
 let T:Nat→Prop:=fun x=>H.live M∧ft M x
 have hO:iW w F μ T (.os sT n' e') u:=by
  rcases sS hv.1 with ⟨⟨a,rfl⟩,rfl,_⟩ | ⟨cap,sz,t',rfl,q2,q3,q4,q5,q6⟩
  ·refine .Al _ _ _ _ fun x hx=>?_
   obtain ⟨b,cd,Bk⟩:=hx.1
   rw [hM] at cd
   cases cd
   cases Bk
  ·have Lc:=q6 rfl
   have hlM:(ju.row true sT n' e').eI=true:=by simpa [ju.eI] using Lc
   obtain ⟨ob',aeu,cs',t2,S',rfl,Yl⟩:=hr.di M _ hM hlM
   have CF:cap*sT≤cs'.size:=by
    simp only [World.shape?,aeu,Option.some.injEq,Prod.mk.injEq] at q4
    rw [q4.2];exact q5
   have agm:H.live M:=⟨_,hM,hlM⟩
   refine .os T sT n' e' (μ M) cap cs' t2 S' Lc aeu q2 CF (fun i j hi hj=>(Yl.cell i j hi hj).2) (fun i j hi hj=>(Yl.cell i j hi hj).1) Yl.dj Yl.nb fun x=>?_
   exact ⟨fun h=>(Yl.all x).1 h.2,fun h=>⟨agm,(Yl.all x).2 h⟩⟩
 have c7:∀ k,H.c7 [(id,some (.c5 v aZ n e1)),(M,none)] k=if k=id then some (.c5 v aZ n e1) else if k=M then none else H k:=fun k=>rfl
 let b7:Nat→Nat→Prop:=fun k=>if k=id then fun x=>ft id x∨T x else ft k
 have fI:b7 id=fun x=>ft id x∨T x:=if_pos rfl
 have fO:∀ k,k≠id→b7 k=ft k:=fun k h=>if_neg h
 have fW:∀ k,(H.c7 [(id,some (.c5 v aZ n e1)),(M,none)]).live k→k=id∨(k≠id∧k≠M∧H.live k):=by
  rintro k ⟨b,cd,Bk⟩
  rw [c7] at cd
  by_cases q:k=id
  ·exact .inl q
  ·rw [if_neg q] at cd
   by_cases q2:k=M
   ·rw [if_pos q2] at cd;cases cd
   ·rw [if_neg q2] at cd;exact .inr ⟨q,q2,b,cd,Bk⟩
 have ap:∀ x,ft id x→T x→False:=fun x hx j7=>o8 (hr.dj id M ic j7.1 x hx j7.2)
 refine ⟨b7,{ lt:=hr.lt,known:=?_,di:=?_,self:=?_,own:=?_,dj:=?_,xW:=hr.xW,wf:=hr.wf,p0:=hr.p0,pos:=hr.pos }⟩
 ·intro k b cd
  rw [c7] at cd
  by_cases q:k=id
  ·exact q▸hr.known id _ hb
  ·rw [if_neg q] at cd
   split at cd
   ·cases cd
   ·exact hr.known k b cd
 ·intro k b cd Bk
  rw [c7] at cd
  by_cases q:k=id
  ·subst q
   rw [if_pos rfl] at cd
   cases cd
   rw [fI]
   have inn:∀ i' j',i' < n→j' < aZ→∀ x,S i' j' x→ft k x:=fun i' j' a1 a2 x hx=>(hB.all x).2 (.inr ⟨i',j',a1,a2,hx⟩)
   refine ⟨_,rQ,cs,t,fun i' j' x=>(¬ (i'=i∧j'=j)∧S i' j' x)∨((i'=i∧j'=j)∧T x),rfl,{ size:=hB.size,cell:=fun i' j' c8 lu=>⟨?_,(hB.cell i' j' c8 lu).2⟩,dj:=?_,nb:=?_,all:=fun x=>⟨fun hx=>?_,fun hx=>?_⟩ }⟩
   ·by_cases q:i'=i∧j'=j
    ·have eS:(fun x=>(¬ (i'=i∧j'=j)∧S i' j' x)∨((i'=i∧j'=j)∧T x))=T:=by funext x;exact propext ⟨fun h=>h.elim (fun h=>absurd q h.1) fun h=>h.2,fun h=>.inr ⟨q,h⟩⟩
     rw [eS,q.1,q.2,h1,hu]
     exact .inl hO
    ·have eS:(fun x=>(¬ (i'=i∧j'=j)∧S i' j' x)∨((i'=i∧j'=j)∧T x))=S i' j':=by funext x;exact propext ⟨fun h=>h.elim (fun h=>h.2) fun h=>absurd h.1 q,fun h=>.inl ⟨q,h⟩⟩
     rw [eS,h2 i' j' c8 lu q]
     exact (hB.cell i' j' c8 lu).1
   ·rintro i1 j1 i2 j2 a1 a2 a3 a4 x (⟨h,hx⟩ | ⟨h,hx⟩) (⟨h',j7⟩ | ⟨h',j7⟩)
    ·exact hB.dj i1 j1 i2 j2 a1 a2 a3 a4 x hx j7
    ·exact (ap x (inn i1 j1 a1 a2 x hx) j7).elim
    ·exact (ap x (inn i2 j2 a3 a4 x j7) hx).elim
    ·exact ⟨h.1.trans h'.1.symm,h.2.trans h'.2.symm⟩
   ·rintro i' j' a1 a2 (⟨_,hx⟩ | ⟨_,hx⟩)
    ·exact hB.nb i' j' a1 a2 hx
    ·exact ap _ (hr.self k ic) hx
   ·rcases hx with hx | hx
    ·rcases (hB.all x).1 hx with h | ⟨i',j',a1,a2,a3⟩
     ·exact .inl h
     ·refine .inr ⟨i',j',a1,a2,.inl ⟨?_,a3⟩⟩
      rintro ⟨rfl,rfl⟩
      exact hv.2 x a3
    ·exact .inr ⟨i,j,hi,hj,.inr ⟨⟨rfl,rfl⟩,hx⟩⟩
   ·rcases hx with h | ⟨i',j',a1,a2,⟨_,a4⟩ | ⟨_,a4⟩⟩
    ·exact .inl ((hB.all x).2 (.inl h))
    ·exact .inl (inn i' j' a1 a2 x a4)
    ·exact .inr a4
  ·rw [if_neg q] at cd
   split at cd
   ·cases cd
   ·rw [fO k q];exact hr.di k b cd Bk
 ·intro k hk
  rcases fW k hk with rfl | ⟨q,q2,h⟩
  ·rw [fI];exact .inl (hr.self k ic)
  ·rw [fO k q];exact hr.self k h
 ·intro k hk x hx
  rcases fW k hk with rfl | ⟨q,q2,h⟩
  ·rw [fI] at hx
   exact hx.elim (fun h=>hr.own k ic x h) fun h=>hr.own M h.1 x h.2
  ·rw [fO k q] at hx;exact hr.own k h x hx
 ·have cr:∀ k,k≠id→k≠M→H.live k→∀ x,ft id x∨T x→ft k x→False:=fun k q q2 h x hx j7=>hx.elim (fun hx=>q (hr.dj k id h ic x j7 hx)) fun hx=>q2 (hr.dj k M h hx.1 x j7 hx.2)
  intro k k' hk FC x hx j7
  rcases fW k hk with rfl | ⟨q,q2,h⟩<;>rcases fW k' FC with rfl | ⟨p,p2,h'⟩
  ·rfl
  ·rw [fI] at hx;rw [fO k' p] at j7;exact (cr k' p p2 h' x hx j7).elim
  ·rw [fO k q] at hx;rw [fI] at j7;exact (cr k q q2 h x j7 hx).elim
  ·rw [fO k q] at hx;rw [fO k' p] at j7;exact hr.dj k k' h h' x hx j7
end Go.Proofs.YtljfmaaadnoggaaGreatDoor.cU
