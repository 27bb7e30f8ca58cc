/- Rows whose parts are rows of the call's own: frozen, opened at a part, closed again. No condition. -/
import Derived.Test.YtjkbbdldmdajkaaGreatDoorVI
namespace Go.Proofs.YtjkbbdldmdajkaaGreatDoor.c_
open Go Go.RowKit
variable {w w' xh:World} {F F' Bn O O' vW:Nat→Prop} {μ bD lF:Nat→Nat} {K K' EB:Nat→Prop} {H H' H'':Hp} {ft bY:Nat→Nat→Prop} {P:Program}
theorem jP.freeze {S:Nat→Prop} {a':AV} {v:Value} (h:jP w F μ S a' v) (hF:∀ b,F b→F' b):∀ (a:AV),a.U7→a'=a.deep→(∀ b,S b→F' b)→VR w F' bD C8 a v:=by
 induction h with
 | IW S a' v hv hS=>
  intro a hd he _;have key:VR w F μ C8 a v:=by
   cases a with
   | fs bA n e=>simp only [AV.deep] at he;subst he;cases hv
   | _=>simp only [AV.deep] at he;subst he;exact hv
  exact (key.up (bD:=bD)).mono (fun _ _=>rfl) hF (fun _ h=>h.elim) (fun _ h=>h) fun _ h=>h.elim
 | Bm S bA e x hS=>
  intro a hd he _;cases a with
  | fs uL n e'=>simp only [AV.deep,AV.os.injEq] at he;obtain ⟨rfl,rfl,_⟩:=he;exact .vV _ _ _ _
  | os=>simp only [AV.U7] at hd
  | _=>simp only [AV.deep] at he;cases he
 | os T bA n e b cap cs t S JI hb hc DD h1 _ NN hn hT ih=>
  intro a hd he hS;cases a with
  | fs uL n' e'=>
   simp only [AV.deep,AV.os.injEq] at he;obtain ⟨rfl,rfl,rfl⟩:=he;simp only [AV.U7] at hd;refine .fs _ _ _ b 0 cap (fun i j=>cs.getD (i*bA+j) undef) (hS b ((hT b).2 (.inl rfl))) hc (fun i j hi hj=>⟨?_,h1 i j hi hj⟩) fun i j hi hj=>ih i j hi hj _ (hd i j) rfl fun x hx=>hS x ((hT x).2 (.inr ⟨i,j,hi,hj,hx⟩));have h7:(i+1)*bA≤n*bA:=Nat.mul_le_mul_right _ hi;rw [Nat.add_mul,Nat.one_mul] at h7;have h8:n*bA≤cap*bA:=Nat.mul_le_mul_right _ hc;have:i*bA+j < cs.size:=by omega
   simp [World.cell?,hb,this]
  | os=>simp only [AV.U7] at hd
  | _=>simp only [AV.deep] at he;cases he
theorem jP.nf {S:Nat→Prop} {a':AV} {v:Value} (h:jP w F μ S a' v):∀ (a:AV),a.U7→a'=a.deep→jP w F' bD S a' v:=by
 induction h with
 | IW S a' v hv hS=>
  intro a hd he;cases a<;>simp only [AV.deep] at he<;>subst he<;>(try simp only [AV.U7] at hd)<;>cases hv
  ·exact .IW _ _ _ (.top _) hS
  ·exact .IW _ _ _ (.int _ _) hS
  ·exact .IW _ _ _ (.bool _) hS
  ·exact .IW _ _ _ (.str _) hS
 | Bm S bA e x hS=>intro a hd he;exact .Bm _ _ _ _ hS
 | os T bA n e b cap cs t S JI hb hc DD h1 _ NN hn hT ih=>
  intro a hd he;cases a with
  | fs uL n' e'=>
   simp only [AV.deep,AV.os.injEq] at he;obtain ⟨rfl,rfl,rfl⟩:=he;simp only [AV.U7] at hd;exact .os T _ _ _ b cap cs t S JI hb hc DD h1 (fun i j hi hj=>ih i j hi hj _ (hd i j) rfl) NN hn hT
  | os=>simp only [AV.U7] at hd
  | _=>simp only [AV.deep] at he;cases he
theorem Tu {v:Bool} {bA n:Nat} {e e':Nat→Nat→AV} (h:∀ i j,i < n→j < bA→∀ {w F μ S u},jP w F μ S (e i j) u→jP w F μ S (e' i j) u):eQ (.row v bA n e) (.row v bA n e'):=
 ⟨fun hl=>by cases v<;>exact hl,fun ⟨cs,t,S',h1,h2⟩=>⟨cs,t,S',h1,{ h2 with cell:=fun i j hi hj=>⟨h i j hi hj (h2.cell i j hi hj).1,(h2.cell i j hi hj).2⟩ }⟩⟩
theorem X_ {v:Bool} {bA n:Nat} {e e':Nat→Nat→AV} (h:∀ i j,i < n→j < bA→e i j=e' i j):eQ (.row v bA n e) (.dq v bA n e'):=
 ⟨fun hl=>by cases v<;>exact hl,fun ⟨cs,t,S',h1,h2⟩=>⟨cs,t,S',h1,{ h2 with cell:=fun i j hi hj=>⟨.inl (h i j hi hj▸(h2.cell i j hi hj).1),(h2.cell i j hi hj).2⟩ }⟩⟩
theorem abW {v:Bool} {bA n:Nat} {e e':Nat→Nat→AV} (h:∀ i j,i < n→j < bA→e i j=e' i j):eQ (.dq v bA n e) (.dq v bA n e'):=
 ⟨fun hl=>by cases v<;>exact hl,fun ⟨cs,t,S',h1,h2⟩=>⟨cs,t,S',h1,{ h2 with cell:=fun i j hi hj=>⟨h i j hi hj▸(h2.cell i j hi hj).1,(h2.cell i j hi hj).2⟩ }⟩⟩
theorem Tv {v:Bool} {bA n:Nat} {e e':Nat→Nat→AV} (h:∀ i j,i < n→j < bA→e i j=e' i j∧∃ a:AV,a.U7∧e i j=a.deep):eQ (.dq v bA n e) (.row v bA n e'):=by
 refine ⟨fun hl=>by cases v<;>exact hl,fun {w F μ K S m o} ⟨cs,t,S',h1,h2⟩=>⟨cs,t,S',h1,{ h2 with cell:=fun i j hi hj=>⟨?_,(h2.cell i j hi hj).2⟩ }⟩⟩;obtain ⟨q1,a,q2,q3⟩:=h i j hi hj;rcases (h2.cell i j hi hj).1 with k | ⟨k,k2⟩
 ·exact q1▸k
 ·rw [← q1,q3];rw [q3] at k;refine .IW _ _ _ ?_ k2;generalize cs.getD (i*bA+j) undef=u at k ⊢;cases a<;>simp only [AV.deep] at k ⊢<;>(try simp only [AV.U7] at q2)<;>cases k
  ·exact .top _
  ·exact .int _ _
  ·exact .bool _
  ·exact .str _
theorem Fj {v:Bool} {bA n:Nat} {e:Nat→Nat→AV} (h:0 < n):(jV.dq v bA n e).fc=true:=by cases v<;>simp [jV.fc];omega
theorem Ya {id N bA n i j uL n':Nat} {v:Bool} {e e' e1:Nat→Nat→AV} (hr:HR w F O μ K H ft) (hN:¬ K N) (hb:H id=some (.dq v bA n e)) (hi:i < n) (hj:j < bA) (he:e i j=.os uL n' e')
  (h1:e1 i j=du true N n' uL) (h2:∀ i' j',i' < n→j' < bA→¬ (i'=i∧j'=j)→e1 i' j'=e i' j'):
  ∃ bD bY,HR w F O bD (plus K [N]) (H.dh [(id,some (.dq v bA n e1)),(N,some (.row true uL n' e'))]) bY∧Fr w F O μ K w F O bD:=by
 have hl:(jV.dq v bA n e).fc=true:=Fj (by omega);have hU:H.live id:=⟨_,hb,hl⟩;have Yb:=hr.known id _ hb;have qJ:id≠N:=fun h=>hN (h▸Yb);obtain ⟨ob,p9,cs,t,S,rfl,hB⟩:=hr.dC id _ hb hl;have hc0:=(hB.cell i j hi hj);rw [he] at hc0;generalize hu:cs.getD (i*bA+j) undef=u at hc0;have afm:∃ B:Nat,B < w.heap.size∧VR w F (Ia μ N B) (plus K [N]) (du true N n' uL) u∧(n'≠0→S i j B∧∃ o,w.heap[B]?=some o∧∀ bD K',ij w F bD K' (S i j) B o (.row true uL n' e')):=by
  rcases hc0.1 with k | ⟨k,_⟩
  ·cases k with
   | IW _ _ _ hv=>cases hv
   | Bm _ _ _ a hS=>exact ⟨0,hr.pos.lt,.s8 _ _ _,fun h=>absurd rfl h⟩
   | os _ _ _ _ b cap cs' t' S' JI cl hc DD q1 q2 hd hn hT=>
    have dT:b < w.heap.size:=(Array.getElem?_eq_some_iff.1 cl).1;refine ⟨b,dT,?_,fun _=>⟨(hT b).2 (.inl rfl),_,cl,fun bD K'=>⟨cs',t',S',rfl,{ size:=Nat.le_trans (Nat.mul_le_mul_right _ hc) DD,cell:=fun i' j' di mQ=>⟨(q2 i' j' di mQ).any,q1 i' j' di mQ⟩,dj:=hd,nb:=hn,all:=hT }⟩⟩⟩;have sZ:w.shape? (Ia μ N b N)=some (t',cs'.size):=by rw [gA];simp [World.shape?,cl]
    have:=VR.vs (w:=w) (F:=F) (μ:=Ia μ N b) (K:=plus K [N]) N n' uL cap cs'.size t' JI (.inr (by simp)) hc sZ DD;rwa [gA] at this
  ·cases k
 obtain ⟨B,agS,hBv,hBr⟩:=afm;have mu:∀ k,K k→Ia μ N B k=μ k:=fun k hk=>I0 fun e=>hN (e▸hk);have sub:∀ x,S i j x→ft id x:=fun x hx=>(hB.all x).2 (.inr ⟨i,j,hi,hj,hx⟩);have dh:∀ k,H.dh [(id,some (.dq v bA n e1)),(N,some (.row true uL n' e'))] k=if k=id then some (.dq v bA n e1) else if k=N then some (.row true uL n' e') else H k:=fun k=>rfl
 let bY:Nat→Nat→Prop:=fun k=>if k=N then S i j else if k=id then fun x=>ft id x∧¬ S i j x else ft k
 have fN:bY N=S i j:=if_pos rfl;have fI:bY id=fun x=>ft id x∧¬ S i j x:=by simp only [bY,if_neg qJ,if_true]
 have fO:∀ k,k≠N→k≠id→bY k=ft k:=fun k h h'=>by simp only [bY,if_neg h,if_neg h']
 have gG:∀ k,(H.dh [(id,some (.dq v bA n e1)),(N,some (.row true uL n' e'))]).live k→k=id∨(k=N∧n'≠0)∨(k≠id∧k≠N∧H.live k):=by
  rintro k ⟨b,cl,Cs⟩
  rw [dh] at cl;by_cases q:k=id
  ·exact .inl q
  ·rw [if_neg q] at cl;by_cases q2:k=N
   ·rw [if_pos q2] at cl;cases cl;exact .inr (.inl ⟨q2,by simpa [jV.fc] using Cs⟩)
   ·rw [if_neg q2] at cl;exact .inr (.inr ⟨q,q2,b,cl,Cs⟩)
 have lvN:∀ k,H.live k→k≠N:=fun k hk h=>hN (h▸hr.q9 hk);refine ⟨Ia μ N B,bY,{ lt:=?_,known:=?_,dC:=?_,self:=?_,own:=?_,dj:=?_,y9:=hr.y9,wf:=hr.wf,rR:=hr.rR,pos:=hr.pos },{ Fr.refl w F O μ K with mu:=mu }⟩
 ·rintro k (h | h)
  ·rw [mu k h];exact hr.lt k h
  ·obtain rfl:k=N:=by simpa using h
   rw [gA];exact agS
 ·intro k b cl;rw [dh] at cl;by_cases q:k=id
  ·exact .inl (q▸Yb)
  ·rw [if_neg q] at cl;by_cases q2:k=N
   ·exact .inr (by simp [q2])
   ·rw [if_neg q2] at cl;exact .inl (hr.known k b cl)
 ·intro k b cl Cs;rw [dh] at cl;by_cases q:k=id
  ·subst q;rw [if_pos rfl] at cl;cases cl;rw [mu k Yb,fI];refine ⟨_,p9,cs,t,fun i' j' x=>¬ (i'=i∧j'=j)∧S i' j' x,rfl,{ size:=hB.size,cell:=fun i' j' di mQ=>⟨?_,(hB.cell i' j' di mQ).2⟩,dj:=fun i1 j1 i2 j2 a1 a2 a3 a4 x hx lM=>hB.dj i1 j1 i2 j2 a1 a2 a3 a4 x hx.2 lM.2,nb:=fun i' j' di mQ hx=>hB.nb i' j' di mQ hx.2,all:=fun x=>⟨fun hx=>?_,fun hx=>?_⟩ }⟩
   ·by_cases q:i'=i∧j'=j
    ·obtain ⟨rfl,rfl⟩:=q;rw [h1,hu];exact .inr ⟨hBv,fun x hx=>hx.1 ⟨rfl,rfl⟩⟩
    ·rw [h2 i' j' di mQ q];have eS:(fun x=>¬ (i'=i∧j'=j)∧S i' j' x)=S i' j':=by funext x;exact propext ⟨fun h=>h.2,fun h=>⟨q,h⟩⟩
     rw [eS];exact (hB.cell i' j' di mQ).1.imp (fun k=>k.any) fun k=>⟨k.1.mono (fun _ _=>rfl) (fun _ h=>h) mu (fun _ h=>.inl h) fun _ _=>rfl,k.2⟩
   ·rcases (hB.all x).1 hx.1 with h | ⟨i',j',a1,a2,a3⟩
    ·exact .inl h
    ·exact .inr ⟨i',j',a1,a2,(fun h=>hx.2 (by obtain ⟨rfl,rfl⟩:=h;exact a3)),a3⟩
   ·rcases hx with h | ⟨i',j',a1,a2,a3,a4⟩
    ·exact ⟨(hB.all x).2 (.inl h),fun h'=>hB.nb i j hi hj (h▸h')⟩
    ·exact ⟨(hB.all x).2 (.inr ⟨i',j',a1,a2,a4⟩),fun h'=>a3 (hB.dj i' j' i j a1 a2 hi hj x a4 h')⟩
  ·rw [if_neg q] at cl;by_cases q2:k=N
   ·subst q2;rw [if_pos rfl] at cl;cases cl;obtain ⟨_,o,ho,hBo⟩:=hBr (by simpa [jV.fc] using Cs);rw [gA,fN];exact ⟨o,ho,hBo _ _⟩
   ·rw [if_neg q2] at cl;obtain ⟨o,ho,hBo⟩:=hr.dC k b cl Cs;rw [mu k (hr.known k b cl),fO k q2 q];exact ⟨o,ho,hBo.mono (fun _ _=>rfl) (fun _ h=>h) mu (fun _ h=>.inl h) (fun _ _=>rfl) fun _ _ _=>rfl⟩
 ·intro k hk;rcases gG k hk with rfl | ⟨rfl,h⟩ | ⟨q,q2,h⟩
  ·rw [mu k Yb,fI];exact ⟨hr.self k hU,fun h=>hB.nb i j hi hj h⟩
  ·rw [gA,fN];exact (hBr h).1
  ·rw [mu k (hr.q9 h),fO k q2 q];exact hr.self k h
 ·intro k hk x hx;rcases gG k hk with rfl | ⟨rfl,h⟩ | ⟨q,q2,h⟩
  ·rw [fI] at hx;exact hr.own k hU x hx.1
  ·rw [fN] at hx;exact hr.own id hU x (sub x hx)
  ·rw [fO k q2 q] at hx;exact hr.own k h x hx
 ·intro k k' hk Gi x hx lM;rcases gG k hk with rfl | ⟨rfl,h⟩ | ⟨q,q2,h⟩<;>rcases gG k' Gi with rfl | ⟨rfl,h'⟩ | ⟨p,p2,h'⟩
  ·rfl
  ·rw [fI] at hx;rw [fN] at lM;exact absurd lM hx.2
  ·rw [fI] at hx;rw [fO k' p2 p] at lM;exact hr.dj k k' hU h' x hx.1 lM
  ·rw [fN] at hx;rw [fI] at lM;exact absurd hx lM.2
  ·rfl
  ·rw [fN] at hx;rw [fO k' p2 p] at lM;exact absurd (hr.dj id k' hU h' x (sub x hx) lM).symm p
  ·rw [fO k q2 q] at hx;rw [fI] at lM;exact hr.dj k k' h hU x hx lM.1
  ·rw [fO k q2 q] at hx;rw [fN] at lM;exact absurd (hr.dj k id h hU x hx (sub x lM)) q
  ·rw [fO k q2 q] at hx;rw [fO k' p2 p] at lM;exact hr.dj k k' h h' x hx lM
theorem Vl {id M bA n i j uL n':Nat} {v:Bool} {e e' e1:Nat→Nat→AV} (hr:HR w F O μ K H ft) (hb:H id=some (.dq v bA n e)) (hM:H M=some (.row true uL n' e')) (hi:i < n) (hj:j < bA)
  (he:e i j=du true M n' uL) (h1:e1 i j=.os uL n' e') (h2:∀ i' j',i' < n→j' < bA→¬ (i'=i∧j'=j)→e1 i' j'=e i' j'):
  ∃ bY,HR w F O μ K (H.dh [(id,some (.dq v bA n e1)),(M,none)]) bY:=by
 have qJ:id≠M:=fun h=>by rw [h,hM] at hb;cases hb
 have hl:(jV.dq v bA n e).fc=true:=Fj (by omega);have hU:H.live id:=⟨_,hb,hl⟩;obtain ⟨ob,p9,cs,t,S,rfl,hB⟩:=hr.dC id _ hb hl;have hc0:=(hB.cell i j hi hj);rw [he] at hc0;generalize hu:cs.getD (i*bA+j) undef=u at hc0;have hv:VR w F μ K (du true M n' uL) u∧∀ x,¬ S i j x:=by
  rcases hc0.1 with k | k
  ·cases k with
   | IW _ _ _ hv hS=>exact ⟨hv.mono (fun _ _=>rfl) (fun _ h=>h) (fun _ h=>h.elim) (fun _ h=>h.elim) (fun _ h=>h.elim),hS⟩
  ·exact k
 let T:Nat→Prop:=fun x=>H.live M∧ft M x
 have hO:jP w F μ T (.os uL n' e') u:=by
  rcases rP hv.1 with ⟨⟨a,rfl⟩,rfl,_⟩ | ⟨cap,sz,t',rfl,q2,q3,q4,q5,q6⟩
  ·refine .Bm _ _ _ _ fun x hx=>?_;obtain ⟨b,cl,Cs⟩:=hx.1;rw [hM] at cl;cases cl;cases Cs
  ·have JI:=q6 rfl;have hlM:(jV.row true uL n' e').fc=true:=by simpa [jV.fc] using JI
   obtain ⟨ob',afn,cs',t2,S',rfl,YY⟩:=hr.dC M _ hM hlM;have DD:cap*uL≤cs'.size:=by
    simp only [World.shape?,afn,Option.some.injEq,Prod.mk.injEq] at q4;rw [q4.2];exact q5
   have agT:H.live M:=⟨_,hM,hlM⟩;refine .os T uL n' e' (μ M) cap cs' t2 S' JI afn q2 DD (fun i j hi hj=>(YY.cell i j hi hj).2) (fun i j hi hj=>(YY.cell i j hi hj).1) YY.dj YY.nb fun x=>?_;exact ⟨fun h=>(YY.all x).1 h.2,fun h=>⟨agT,(YY.all x).2 h⟩⟩
 have dh:∀ k,H.dh [(id,some (.dq v bA n e1)),(M,none)] k=if k=id then some (.dq v bA n e1) else if k=M then none else H k:=fun k=>rfl
 let bY:Nat→Nat→Prop:=fun k=>if k=id then fun x=>ft id x∨T x else ft k
 have fI:bY id=fun x=>ft id x∨T x:=if_pos rfl;have fO:∀ k,k≠id→bY k=ft k:=fun k h=>if_neg h;have gG:∀ k,(H.dh [(id,some (.dq v bA n e1)),(M,none)]).live k→k=id∨(k≠id∧k≠M∧H.live k):=by
  rintro k ⟨b,cl,Cs⟩
  rw [dh] at cl;by_cases q:k=id
  ·exact .inl q
  ·rw [if_neg q] at cl;by_cases q2:k=M
   ·rw [if_pos q2] at cl;cases cl
   ·rw [if_neg q2] at cl;exact .inr ⟨q,q2,b,cl,Cs⟩
 have ap:∀ x,ft id x→T x→False:=fun x hx lM=>qJ (hr.dj id M hU lM.1 x hx lM.2);refine ⟨bY,{ lt:=hr.lt,known:=?_,dC:=?_,self:=?_,own:=?_,dj:=?_,y9:=hr.y9,wf:=hr.wf,rR:=hr.rR,pos:=hr.pos }⟩
 ·intro k b cl;rw [dh] at cl;by_cases q:k=id
  ·exact q▸hr.known id _ hb
  ·rw [if_neg q] at cl;split at cl
   ·cases cl
   ·exact hr.known k b cl
 ·intro k b cl Cs;rw [dh] at cl;by_cases q:k=id
  ·subst q;rw [if_pos rfl] at cl;cases cl;rw [fI];have inn:∀ i' j',i' < n→j' < bA→∀ x,S i' j' x→ft k x:=fun i' j' a1 a2 x hx=>(hB.all x).2 (.inr ⟨i',j',a1,a2,hx⟩);refine ⟨_,p9,cs,t,fun i' j' x=>(¬ (i'=i∧j'=j)∧S i' j' x)∨((i'=i∧j'=j)∧T x),rfl,{ size:=hB.size,cell:=fun i' j' di mQ=>⟨?_,(hB.cell i' j' di mQ).2⟩,dj:=?_,nb:=?_,all:=fun x=>⟨fun hx=>?_,fun hx=>?_⟩ }⟩
   ·by_cases q:i'=i∧j'=j
    ·have eS:(fun x=>(¬ (i'=i∧j'=j)∧S i' j' x)∨((i'=i∧j'=j)∧T x))=T:=by funext x;exact propext ⟨fun h=>h.elim (fun h=>absurd q h.1) fun h=>h.2,fun h=>.inr ⟨q,h⟩⟩
     rw [eS,q.1,q.2,h1,hu];exact .inl hO
    ·have eS:(fun x=>(¬ (i'=i∧j'=j)∧S i' j' x)∨((i'=i∧j'=j)∧T x))=S i' j':=by funext x;exact propext ⟨fun h=>h.elim (fun h=>h.2) fun h=>absurd h.1 q,fun h=>.inl ⟨q,h⟩⟩
     rw [eS,h2 i' j' di mQ q];exact (hB.cell i' j' di mQ).1
   ·rintro i1 j1 i2 j2 a1 a2 a3 a4 x (⟨h,hx⟩ | ⟨h,hx⟩) (⟨h',lM⟩ | ⟨h',lM⟩)
    ·exact hB.dj i1 j1 i2 j2 a1 a2 a3 a4 x hx lM
    ·exact (ap x (inn i1 j1 a1 a2 x hx) lM).elim
    ·exact (ap x (inn i2 j2 a3 a4 x lM) hx).elim
    ·exact ⟨h.1.trans h'.1.symm,h.2.trans h'.2.symm⟩
   ·rintro i' j' a1 a2 (⟨_,hx⟩ | ⟨_,hx⟩)
    ·exact hB.nb i' j' a1 a2 hx
    ·exact ap _ (hr.self k hU) hx
   ·rcases hx with hx | hx
    ·rcases (hB.all x).1 hx with h | ⟨i',j',a1,a2,a3⟩
     ·exact .inl h
     ·refine .inr ⟨i',j',a1,a2,.inl ⟨?_,a3⟩⟩
      rintro ⟨rfl,rfl⟩
      exact hv.2 x a3
    ·exact .inr ⟨i,j,hi,hj,.inr ⟨⟨rfl,rfl⟩,hx⟩⟩
   ·rcases hx with h | ⟨i',j',a1,a2,⟨_,a4⟩ | ⟨_,a4⟩⟩
    ·exact .inl ((hB.all x).2 (.inl h))
    ·exact .inl (inn i' j' a1 a2 x a4)
    ·exact .inr a4
  ·rw [if_neg q] at cl;split at cl
   ·cases cl
   ·rw [fO k q];exact hr.dC k b cl Cs
 ·intro k hk;rcases gG k hk with rfl | ⟨q,q2,h⟩
  ·rw [fI];exact .inl (hr.self k hU)
  ·rw [fO k q];exact hr.self k h
 ·intro k hk x hx;rcases gG k hk with rfl | ⟨q,q2,h⟩
  ·rw [fI] at hx;exact hx.elim (fun h=>hr.own k hU x h) fun h=>hr.own M h.1 x h.2
  ·rw [fO k q] at hx;exact hr.own k h x hx
 ·have cr:∀ k,k≠id→k≠M→H.live k→∀ x,ft id x∨T x→ft k x→False:=fun k q q2 h x hx lM=>hx.elim (fun hx=>q (hr.dj k id h hU x lM hx)) fun hx=>q2 (hr.dj k M h hx.1 x lM hx.2);intro k k' hk Gi x hx lM;rcases gG k hk with rfl | ⟨q,q2,h⟩<;>rcases gG k' Gi with rfl | ⟨p,p2,h'⟩
  ·rfl
  ·rw [fI] at hx;rw [fO k' p] at lM;exact (cr k' p p2 h' x hx lM).elim
  ·rw [fO k q] at hx;rw [fI] at lM;exact (cr k q q2 h x lM hx).elim
  ·rw [fO k q] at hx;rw [fO k' p] at lM;exact hr.dj k k' h h' x hx lM
end Go.Proofs.YtjkbbdldmdajkaaGreatDoor.c_
