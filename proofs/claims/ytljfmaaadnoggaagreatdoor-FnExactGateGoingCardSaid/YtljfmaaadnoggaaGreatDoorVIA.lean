/- Rows whose parts are rows of the call's own: frozen, opened at a part, closed again. No condition. -/
import Derived.Test.YtljfmaaadnoggaaGreatDoorVI
namespace Go.Proofs.YtljfmaaadnoggaaGreatDoor.cX
open Go Go.RowKit
variable {w w' xW:World} {F F' Cq O O' wx:Nat→Prop} {μ bC kZ:Nat→Nat} {K K' Gg:Nat→Prop} {H H' H'':Hp} {ft b8:Nat→Nat→Prop} {P:Program}
theorem jO.freeze {S:Nat→Prop} {a':AV} {v:Value} (h:jO w F μ S a' v) (hF:∀ b,F b→F' b):∀ (a:AV),a.XA→a'=a.deep→(∀ b,S b→F' b)→VR w F' bC Ei a v:=by
 induction h with
 | KR S a' v hv hS=>
  intro a hd he _
  have key:VR w F μ Ei a v:=by
   cases a with
   | fs bB n e=>simp only [AV.deep] at he;subst he;cases hv
   | _=>simp only [AV.deep] at he;subst he;exact hv
  exact (key.up (bC:=bC)).mono (fun _ _=>rfl) hF (fun _ h=>h.elim) (fun _ h=>h) fun _ h=>h.elim
 | Cp S bB e x hS=>
  intro a hd he _
  cases a with
  | fs uR n e'=>simp only [AV.deep,AV.os.injEq] at he;obtain ⟨rfl,rfl,_⟩:=he;exact .wv _ _ _ _
  | os=>simp only [AV.XA] at hd
  | _=>simp only [AV.deep] at he;cases he
 | os T bB n e b cap cs t S Nw hb hc ER h1 _ PU hn hT ih=>
  intro a hd he hS
  cases a with
  | fs uR n' e'=>
   simp only [AV.deep,AV.os.injEq] at he
   obtain ⟨rfl,rfl,rfl⟩:=he
   simp only [AV.XA] at hd
   refine .fs _ _ _ b 0 cap (fun i j=>cs.getD (i*bB+j) undef) (hS b ((hT b).2 (.inl rfl))) hc (fun i j hi hj=>⟨?_,h1 i j hi hj⟩) fun i j hi hj=>ih i j hi hj _ (hd i j) rfl fun x hx=>hS x ((hT x).2 (.inr ⟨i,j,hi,hj,hx⟩))
   have h7:(i+1)*bB≤n*bB:=Nat.mul_le_mul_right _ hi
   rw [Nat.add_mul,Nat.one_mul] at h7
   have h8:n*bB≤cap*bB:=Nat.mul_le_mul_right _ hc
   have:i*bB+j < cs.size:=by omega
   simp [World.cell?,hb,this]
  | os=>simp only [AV.XA] at hd
  | _=>simp only [AV.deep] at he;cases he
theorem jO.nf {S:Nat→Prop} {a':AV} {v:Value} (h:jO w F μ S a' v):∀ (a:AV),a.XA→a'=a.deep→jO w F' bC S a' v:=by
 induction h with
 | KR S a' v hv hS=>
  intro a hd he
  cases a<;>simp only [AV.deep] at he<;>subst he<;>(try simp only [AV.XA] at hd)<;>cases hv
  ·exact .KR _ _ _ (.top _) hS
  ·exact .KR _ _ _ (.int _ _) hS
  ·exact .KR _ _ _ (.bool _) hS
  ·exact .KR _ _ _ (.str _) hS
 | Cp S bB e x hS=>intro a hd he;exact .Cp _ _ _ _ hS
 | os T bB n e b cap cs t S Nw hb hc ER h1 _ PU hn hT ih=>
  intro a hd he
  cases a with
  | fs uR n' e'=>
   simp only [AV.deep,AV.os.injEq] at he
   obtain ⟨rfl,rfl,rfl⟩:=he
   simp only [AV.XA] at hd
   exact .os T _ _ _ b cap cs t S Nw hb hc ER h1 (fun i j hi hj=>ih i j hi hj _ (hd i j) rfl) PU hn hT
  | os=>simp only [AV.XA] at hd
  | _=>simp only [AV.deep] at he;cases he
theorem VV {v:Bool} {bB n:Nat} {e e':Nat→Nat→AV} (h:∀ i j,i < n→j < bB→∀ {w F μ S u},jO w F μ S (e i j) u→jO w F μ S (e' i j) u):eV (.row v bB n e) (.row v bB n e'):=
 ⟨fun hl=>by cases v<;>exact hl,fun ⟨cs,t,S',h1,h2⟩=>⟨cs,t,S',h1,{ h2 with cell:=fun i j hi hj=>⟨h i j hi hj (h2.cell i j hi hj).1,(h2.cell i j hi hj).2⟩ }⟩⟩
theorem aaH {v:Bool} {bB n:Nat} {e e':Nat→Nat→AV} (h:∀ i j,i < n→j < bB→e i j=e' i j):eV (.row v bB n e) (.da v bB n e'):=
 ⟨fun hl=>by cases v<;>exact hl,fun ⟨cs,t,S',h1,h2⟩=>⟨cs,t,S',h1,{ h2 with cell:=fun i j hi hj=>⟨.inl (h i j hi hj▸(h2.cell i j hi hj).1),(h2.cell i j hi hj).2⟩ }⟩⟩
theorem adS {v:Bool} {bB n:Nat} {e e':Nat→Nat→AV} (h:∀ i j,i < n→j < bB→e i j=e' i j):eV (.da v bB n e) (.da v bB n e'):=
 ⟨fun hl=>by cases v<;>exact hl,fun ⟨cs,t,S',h1,h2⟩=>⟨cs,t,S',h1,{ h2 with cell:=fun i j hi hj=>⟨h i j hi hj▸(h2.cell i j hi hj).1,(h2.cell i j hi hj).2⟩ }⟩⟩
theorem VW {v:Bool} {bB n:Nat} {e e':Nat→Nat→AV} (h:∀ i j,i < n→j < bB→e i j=e' i j∧∃ a:AV,a.XA∧e i j=a.deep):eV (.da v bB n e) (.row v bB n e'):=by
 refine ⟨fun hl=>by cases v<;>exact hl,fun {w F μ K S m o} ⟨cs,t,S',h1,h2⟩=>⟨cs,t,S',h1,{ h2 with cell:=fun i j hi hj=>⟨?_,(h2.cell i j hi hj).2⟩ }⟩⟩
 obtain ⟨q1,a,q2,q3⟩:=h i j hi hj
 rcases (h2.cell i j hi hj).1 with k | ⟨k,k2⟩
 ·exact q1▸k
 ·rw [← q1,q3]
  rw [q3] at k
  refine .KR _ _ _ ?_ k2
  generalize cs.getD (i*bB+j) undef=u at k ⊢
  cases a<;>simp only [AV.deep] at k ⊢<;>(try simp only [AV.XA] at q2)<;>cases k
  ·exact .top _
  ·exact .int _ _
  ·exact .bool _
  ·exact .str _
theorem G7 {v:Bool} {bB n:Nat} {e:Nat→Nat→AV} (h:0 < n):(kq.da v bB n e).fa=true:=by cases v<;>simp [kq.fa];omega
theorem aaI {id N bB n i j uR n':Nat} {v:Bool} {e e' e1:Nat→Nat→AV} (hr:HR w F O μ K H ft) (hN:¬ K N) (hb:H id=some (.da v bB n e)) (hi:i < n) (hj:j < bB) (he:e i j=.os uR n' e')
  (h1:e1 i j=dr true N n' uR) (h2:∀ i' j',i' < n→j' < bB→¬ (i'=i∧j'=j)→e1 i' j'=e i' j'):
  ∃ bC b8,HR w F O bC (plus K [N]) (H.c_ [(id,some (.da v bB n e1)),(N,some (.row true uR n' e'))]) b8∧Fr w F O μ K w F O bC:=by
 have hl:(kq.da v bB n e).fa=true:=G7 (by omega)
 have iM:H.live id:=⟨_,hb,hl⟩
 have aaJ:=hr.known id _ hb
 have pw:id≠N:=fun h=>hN (h▸aaJ)
 obtain ⟨ob,qR,cs,t,S,rfl,hB⟩:=hr.dw id _ hb hl
 have hc0:=(hB.cell i j hi hj)
 rw [he] at hc0
 generalize hu:cs.getD (i*bB+j) undef=u at hc0
 have ahN:∃ B:Nat,B < w.heap.size∧VR w F (KV μ N B) (plus K [N]) (dr true N n' uR) u∧(n'≠0→S i j B∧∃ o,w.heap[B]?=some o∧∀ bC K',h_ w F bC K' (S i j) B o (.row true uR n' e')):=by
  rcases hc0.1 with k | ⟨k,_⟩
  ·cases k with
   | KR _ _ _ hv=>cases hv
   | Cp _ _ _ a hS=>exact ⟨0,hr.pos.lt,.xV _ _ _,fun h=>absurd rfl h⟩
   | os _ _ _ _ b cap cs' t' S' Nw cu hc ER q1 q2 hd hn hT=>
    have dQ:b < w.heap.size:=(Array.getElem?_eq_some_iff.1 cu).1
    refine ⟨b,dQ,?_,fun _=>⟨(hT b).2 (.inl rfl),_,cu,fun bC K'=>⟨cs',t',S',rfl,{ size:=Nat.le_trans (Nat.mul_le_mul_right _ hc) ER,cell:=fun i' j' c9 ko=>⟨(q2 i' j' c9 ko).any,q1 i' j' c9 ko⟩,dj:=hd,nb:=hn,all:=hT }⟩⟩⟩
    have tA:w.shape? (KV μ N b N)=some (t',cs'.size):=by rw [iI];simp [World.shape?,cu]
    have:=VR.vs (w:=w) (F:=F) (μ:=KV μ N b) (K:=plus K [N]) N n' uR cap cs'.size t' Nw (.inr (by simp)) hc tA ER
    rwa [iI] at this
  ·cases k
 obtain ⟨B,aji,hBv,hBr⟩:=ahN
 have mu:∀ k,K k→KV μ N B k=μ k:=fun k hk=>KW fun e=>hN (e▸hk)
 have sub:∀ x,S i j x→ft id x:=fun x hx=>(hB.all x).2 (.inr ⟨i,j,hi,hj,hx⟩)
 have c_:∀ k,H.c_ [(id,some (.da v bB n e1)),(N,some (.row true uR n' e'))] k=if k=id then some (.da v bB n e1) else if k=N then some (.row true uR n' e') else H k:=fun k=>rfl
 let b8:Nat→Nat→Prop:=fun k=>if k=N then S i j else if k=id then fun x=>ft id x∧¬ S i j x else ft k
 have fN:b8 N=S i j:=if_pos rfl
 have fI:b8 id=fun x=>ft id x∧¬ S i j x:=by simp only [b8,if_neg pw,if_true]
 have fO:∀ k,k≠N→k≠id→b8 k=ft k:=fun k h h'=>by simp only [b8,if_neg h,if_neg h']
 have gx:∀ k,(H.c_ [(id,some (.da v bB n e1)),(N,some (.row true uR n' e'))]).live k→k=id∨(k=N∧n'≠0)∨(k≠id∧k≠N∧H.live k):=by
  rintro k ⟨b,cu,Ds⟩
  rw [c_] at cu
  by_cases q:k=id
  ·exact .inl q
  ·rw [if_neg q] at cu
   by_cases q2:k=N
   ·rw [if_pos q2] at cu
    cases cu
    exact .inr (.inl ⟨q2,by simpa [kq.fa] using Ds⟩)
   ·rw [if_neg q2] at cu
    exact .inr (.inr ⟨q,q2,b,cu,Ds⟩)
 have lvN:∀ k,H.live k→k≠N:=fun k hk h=>hN (h▸hr.qS hk)
 refine ⟨KV μ N B,b8,{ lt:=?_,known:=?_,dw:=?_,self:=?_,own:=?_,dj:=?_,z8:=hr.z8,wf:=hr.wf,rH:=hr.rH,pos:=hr.pos },{ Fr.refl w F O μ K with mu:=mu }⟩
 ·rintro k (h | h)
  ·rw [mu k h];exact hr.lt k h
  ·obtain rfl:k=N:=by simpa using h
   rw [iI];exact aji
 ·intro k b cu
  rw [c_] at cu
  by_cases q:k=id
  ·exact .inl (q▸aaJ)
  ·rw [if_neg q] at cu
   by_cases q2:k=N
   ·exact .inr (by simp [q2])
   ·rw [if_neg q2] at cu;exact .inl (hr.known k b cu)
 ·intro k b cu Ds
  rw [c_] at cu
  by_cases q:k=id
  ·subst q
   rw [if_pos rfl] at cu
   cases cu
   rw [mu k aaJ,fI]
   refine ⟨_,qR,cs,t,fun i' j' x=>¬ (i'=i∧j'=j)∧S i' j' x,rfl,{ size:=hB.size,cell:=fun i' j' c9 ko=>⟨?_,(hB.cell i' j' c9 ko).2⟩,dj:=fun i1 j1 i2 j2 a1 a2 a3 a4 x hx ll=>hB.dj i1 j1 i2 j2 a1 a2 a3 a4 x hx.2 ll.2,nb:=fun i' j' c9 ko hx=>hB.nb i' j' c9 ko hx.2,all:=fun x=>⟨fun hx=>?_,fun hx=>?_⟩ }⟩
   ·by_cases q:i'=i∧j'=j
    ·obtain ⟨rfl,rfl⟩:=q
     rw [h1,hu]
     exact .inr ⟨hBv,fun x hx=>hx.1 ⟨rfl,rfl⟩⟩
    ·rw [h2 i' j' c9 ko q]
     have eS:(fun x=>¬ (i'=i∧j'=j)∧S i' j' x)=S i' j':=by funext x;exact propext ⟨fun h=>h.2,fun h=>⟨q,h⟩⟩
     rw [eS]
     exact (hB.cell i' j' c9 ko).1.imp (fun k=>k.any) fun k=>⟨k.1.mono (fun _ _=>rfl) (fun _ h=>h) mu (fun _ h=>.inl h) fun _ _=>rfl,k.2⟩
   ·rcases (hB.all x).1 hx.1 with h | ⟨i',j',a1,a2,a3⟩
    ·exact .inl h
    ·exact .inr ⟨i',j',a1,a2,(fun h=>hx.2 (by obtain ⟨rfl,rfl⟩:=h;exact a3)),a3⟩
   ·rcases hx with h | ⟨i',j',a1,a2,a3,a4⟩
    ·exact ⟨(hB.all x).2 (.inl h),fun h'=>hB.nb i j hi hj (h▸h')⟩
    ·exact ⟨(hB.all x).2 (.inr ⟨i',j',a1,a2,a4⟩),fun h'=>a3 (hB.dj i' j' i j a1 a2 hi hj x a4 h')⟩
  ·rw [if_neg q] at cu
   by_cases q2:k=N
   ·subst q2
    rw [if_pos rfl] at cu
    cases cu
    obtain ⟨_,o,ho,hBo⟩:=hBr (by simpa [kq.fa] using Ds)
    rw [iI,fN]
    exact ⟨o,ho,hBo _ _⟩
   ·rw [if_neg q2] at cu
    obtain ⟨o,ho,hBo⟩:=hr.dw k b cu Ds
    rw [mu k (hr.known k b cu),fO k q2 q]
    exact ⟨o,ho,hBo.mono (fun _ _=>rfl) (fun _ h=>h) mu (fun _ h=>.inl h) (fun _ _=>rfl) fun _ _ _=>rfl⟩
 ·intro k hk
  rcases gx k hk with rfl | ⟨rfl,h⟩ | ⟨q,q2,h⟩
  ·rw [mu k aaJ,fI];exact ⟨hr.self k iM,fun h=>hB.nb i j hi hj h⟩
  ·rw [iI,fN];exact (hBr h).1
  ·rw [mu k (hr.qS h),fO k q2 q];exact hr.self k h
 ·intro k hk x hx
  rcases gx k hk with rfl | ⟨rfl,h⟩ | ⟨q,q2,h⟩
  ·rw [fI] at hx;exact hr.own k iM x hx.1
  ·rw [fN] at hx;exact hr.own id iM x (sub x hx)
  ·rw [fO k q2 q] at hx;exact hr.own k h x hx
 ·intro k k' hk Ia x hx ll
  rcases gx k hk with rfl | ⟨rfl,h⟩ | ⟨q,q2,h⟩<;>rcases gx k' Ia with rfl | ⟨rfl,h'⟩ | ⟨p,p2,h'⟩
  ·rfl
  ·rw [fI] at hx;rw [fN] at ll;exact absurd ll hx.2
  ·rw [fI] at hx;rw [fO k' p2 p] at ll;exact hr.dj k k' iM h' x hx.1 ll
  ·rw [fN] at hx;rw [fI] at ll;exact absurd hx ll.2
  ·rfl
  ·rw [fN] at hx;rw [fO k' p2 p] at ll;exact absurd (hr.dj id k' iM h' x (sub x hx) ll).symm p
  ·rw [fO k q2 q] at hx;rw [fI] at ll;exact hr.dj k k' h iM x hx ll.1
  ·rw [fO k q2 q] at hx;rw [fN] at ll;exact absurd (hr.dj k id h iM x hx (sub x ll)) q
  ·rw [fO k q2 q] at hx;rw [fO k' p2 p] at ll;exact hr.dj k k' h h' x hx ll
theorem XQ {id M bB n i j uR n':Nat} {v:Bool} {e e' e1:Nat→Nat→AV} (hr:HR w F O μ K H ft) (hb:H id=some (.da v bB n e)) (hM:H M=some (.row true uR n' e')) (hi:i < n) (hj:j < bB)
  (he:e i j=dr true M n' uR) (h1:e1 i j=.os uR n' e') (h2:∀ i' j',i' < n→j' < bB→¬ (i'=i∧j'=j)→e1 i' j'=e i' j'):
  ∃ b8,HR w F O μ K (H.c_ [(id,some (.da v bB n e1)),(M,none)]) b8:=by
 have pw:id≠M:=fun h=>by rw [h,hM] at hb;cases hb
 have hl:(kq.da v bB n e).fa=true:=G7 (by omega)
 have iM:H.live id:=⟨_,hb,hl⟩
 obtain ⟨ob,qR,cs,t,S,rfl,hB⟩:=hr.dw id _ hb hl
 have hc0:=(hB.cell i j hi hj)
 rw [he] at hc0
 generalize hu:cs.getD (i*bB+j) undef=u at hc0
 have hv:VR w F μ K (dr true M n' uR) u∧∀ x,¬ S i j x:=by
  rcases hc0.1 with k | k
  ·cases k with
   | KR _ _ _ hv hS=>exact ⟨hv.mono (fun _ _=>rfl) (fun _ h=>h) (fun _ h=>h.elim) (fun _ h=>h.elim) (fun _ h=>h.elim),hS⟩
  ·exact k
 let T:Nat→Prop:=fun x=>H.live M∧ft M x
 have hO:jO w F μ T (.os uR n' e') u:=by
  rcases uQ hv.1 with ⟨⟨a,rfl⟩,rfl,_⟩ | ⟨cap,sz,t',rfl,q2,q3,q4,q5,q6⟩
  ·refine .Cp _ _ _ _ fun x hx=>?_
   obtain ⟨b,cu,Ds⟩:=hx.1
   rw [hM] at cu
   cases cu
   cases Ds
  ·have Nw:=q6 rfl
   have hlM:(kq.row true uR n' e').fa=true:=by simpa [kq.fa] using Nw
   obtain ⟨ob',ahO,cs',t2,S',rfl,hB'⟩:=hr.dw M _ hM hlM
   have ER:cap*uR≤cs'.size:=by
    simp only [World.shape?,ahO,Option.some.injEq,Prod.mk.injEq] at q4
    rw [q4.2];exact q5
   have ajj:H.live M:=⟨_,hM,hlM⟩
   refine .os T uR n' e' (μ M) cap cs' t2 S' Nw ahO q2 ER (fun i j hi hj=>(hB'.cell i j hi hj).2) (fun i j hi hj=>(hB'.cell i j hi hj).1) hB'.dj hB'.nb fun x=>?_
   exact ⟨fun h=>(hB'.all x).1 h.2,fun h=>⟨ajj,(hB'.all x).2 h⟩⟩
 have c_:∀ k,H.c_ [(id,some (.da v bB n e1)),(M,none)] k=if k=id then some (.da v bB n e1) else if k=M then none else H k:=fun k=>rfl
 let b8:Nat→Nat→Prop:=fun k=>if k=id then fun x=>ft id x∨T x else ft k
 have fI:b8 id=fun x=>ft id x∨T x:=if_pos rfl
 have fO:∀ k,k≠id→b8 k=ft k:=fun k h=>if_neg h
 have gx:∀ k,(H.c_ [(id,some (.da v bB n e1)),(M,none)]).live k→k=id∨(k≠id∧k≠M∧H.live k):=by
  rintro k ⟨b,cu,Ds⟩
  rw [c_] at cu
  by_cases q:k=id
  ·exact .inl q
  ·rw [if_neg q] at cu
   by_cases q2:k=M
   ·rw [if_pos q2] at cu;cases cu
   ·rw [if_neg q2] at cu;exact .inr ⟨q,q2,b,cu,Ds⟩
 have ap:∀ x,ft id x→T x→False:=fun x hx ll=>pw (hr.dj id M iM ll.1 x hx ll.2)
 refine ⟨b8,{ lt:=hr.lt,known:=?_,dw:=?_,self:=?_,own:=?_,dj:=?_,z8:=hr.z8,wf:=hr.wf,rH:=hr.rH,pos:=hr.pos }⟩
 ·intro k b cu
  rw [c_] at cu
  by_cases q:k=id
  ·exact q▸hr.known id _ hb
  ·rw [if_neg q] at cu
   split at cu
   ·cases cu
   ·exact hr.known k b cu
 ·intro k b cu Ds
  rw [c_] at cu
  by_cases q:k=id
  ·subst q
   rw [if_pos rfl] at cu
   cases cu
   rw [fI]
   have inn:∀ i' j',i' < n→j' < bB→∀ x,S i' j' x→ft k x:=fun i' j' a1 a2 x hx=>(hB.all x).2 (.inr ⟨i',j',a1,a2,hx⟩)
   refine ⟨_,qR,cs,t,fun i' j' x=>(¬ (i'=i∧j'=j)∧S i' j' x)∨((i'=i∧j'=j)∧T x),rfl,{ size:=hB.size,cell:=fun i' j' c9 ko=>⟨?_,(hB.cell i' j' c9 ko).2⟩,dj:=?_,nb:=?_,all:=fun x=>⟨fun hx=>?_,fun hx=>?_⟩ }⟩
   ·by_cases q:i'=i∧j'=j
    ·have eS:(fun x=>(¬ (i'=i∧j'=j)∧S i' j' x)∨((i'=i∧j'=j)∧T x))=T:=by funext x;exact propext ⟨fun h=>h.elim (fun h=>absurd q h.1) fun h=>h.2,fun h=>.inr ⟨q,h⟩⟩
     rw [eS,q.1,q.2,h1,hu]
     exact .inl hO
    ·have eS:(fun x=>(¬ (i'=i∧j'=j)∧S i' j' x)∨((i'=i∧j'=j)∧T x))=S i' j':=by funext x;exact propext ⟨fun h=>h.elim (fun h=>h.2) fun h=>absurd h.1 q,fun h=>.inl ⟨q,h⟩⟩
     rw [eS,h2 i' j' c9 ko q]
     exact (hB.cell i' j' c9 ko).1
   ·rintro i1 j1 i2 j2 a1 a2 a3 a4 x (⟨h,hx⟩ | ⟨h,hx⟩) (⟨h',ll⟩ | ⟨h',ll⟩)
    ·exact hB.dj i1 j1 i2 j2 a1 a2 a3 a4 x hx ll
    ·exact (ap x (inn i1 j1 a1 a2 x hx) ll).elim
    ·exact (ap x (inn i2 j2 a3 a4 x ll) hx).elim
    ·exact ⟨h.1.trans h'.1.symm,h.2.trans h'.2.symm⟩
   ·rintro i' j' a1 a2 (⟨_,hx⟩ | ⟨_,hx⟩)
    ·exact hB.nb i' j' a1 a2 hx
    ·exact ap _ (hr.self k iM) hx
   ·rcases hx with hx | hx
    ·rcases (hB.all x).1 hx with h | ⟨i',j',a1,a2,a3⟩
     ·exact .inl h
     ·refine .inr ⟨i',j',a1,a2,.inl ⟨?_,a3⟩⟩
      rintro ⟨rfl,rfl⟩
      exact hv.2 x a3
    ·exact .inr ⟨i,j,hi,hj,.inr ⟨⟨rfl,rfl⟩,hx⟩⟩
   ·rcases hx with h | ⟨i',j',a1,a2,⟨_,a4⟩ | ⟨_,a4⟩⟩
    ·exact .inl ((hB.all x).2 (.inl h))
    ·exact .inl (inn i' j' a1 a2 x a4)
    ·exact .inr a4
  ·rw [if_neg q] at cu
   split at cu
   ·cases cu
   ·rw [fO k q];exact hr.dw k b cu Ds
 ·intro k hk
  rcases gx k hk with rfl | ⟨q,q2,h⟩
  ·rw [fI];exact .inl (hr.self k iM)
  ·rw [fO k q];exact hr.self k h
 ·intro k hk x hx
  rcases gx k hk with rfl | ⟨q,q2,h⟩
  ·rw [fI] at hx
   exact hx.elim (fun h=>hr.own k iM x h) fun h=>hr.own M h.1 x h.2
  ·rw [fO k q] at hx;exact hr.own k h x hx
 ·have cr:∀ k,k≠id→k≠M→H.live k→∀ x,ft id x∨T x→ft k x→False:=fun k q q2 h x hx ll=>hx.elim (fun hx=>q (hr.dj k id h iM x ll hx)) fun hx=>q2 (hr.dj k M h hx.1 x ll hx.2)
  intro k k' hk Ia x hx ll
  rcases gx k hk with rfl | ⟨q,q2,h⟩<;>rcases gx k' Ia with rfl | ⟨p,p2,h'⟩
  ·rfl
  ·rw [fI] at hx;rw [fO k' p] at ll;exact (cr k' p p2 h' x hx ll).elim
  ·rw [fO k q] at hx;rw [fI] at ll;exact (cr k q q2 h x ll hx).elim
  ·rw [fO k q] at hx;rw [fO k' p] at ll;exact hr.dj k k' h h' x hx ll
end Go.Proofs.YtljfmaaadnoggaaGreatDoor.cX
