/- Rows whose parts are rows of the call's own: frozen, opened at a part, closed again. No condition. -/
import Derived.Test.YtjkbbdldmdajkaaGreatDoorVI
namespace Go.Proofs.YtjkbbdldmdajkaaGreatDoor.c_
open Go Go.RowKit
variable {w w' xk:World} {F F' Bs O O' v8:Nat→Prop} {μ bC lG:Nat→Nat} {K K' EF:Nat→Prop} {H H' H'':Hp} {ft bZ:Nat→Nat→Prop} {P:Program}
theorem jP.freeze {S:Nat→Prop} {a':AV} {v:Value} (h:jP w F μ S a' v) (hF:∀ b,F b→F' b):∀ (a:AV),a.U_→a'=a.deep→(∀ b,S b→F' b)→VR w F' bC Dc a v:=by
 induction h with
 | IY S a' v hv hS=>
  intro a hd he _;have key:VR w F μ Dc a v:=by
   cases a with
   | fs bA n e=>simp only [AV.deep] at he;subst he;cases hv
   | _=>simp only [AV.deep] at he;subst he;exact hv
  exact (key.up (bC:=bC)).mono (fun _ _=>rfl) hF (fun _ h=>h.elim) (fun _ h=>h) fun _ h=>h.elim
 | Br S bA e x hS=>
  intro a hd he _;cases a with
  | fs uO n e'=>simp only [AV.deep,AV.os.injEq] at he;obtain ⟨rfl,rfl,_⟩:=he;exact .v7 _ _ _ _
  | os=>simp only [AV.U_] at hd
  | _=>simp only [AV.deep] at he;cases he
 | os T bA n e b cap cs t S JJ hb hc DI h1 _ NO hn hT ih=>
  intro a hd he hS;cases a with
  | fs uO n' e'=>
   simp only [AV.deep,AV.os.injEq] at he;obtain ⟨rfl,rfl,rfl⟩:=he;simp only [AV.U_] at hd;refine .fs _ _ _ b 0 cap (fun i j=>cs.getD (i*bA+j) undef) (hS b ((hT b).2 (.inl rfl))) hc (fun i j hi hj=>⟨?_,h1 i j hi hj⟩) fun i j hi hj=>ih i j hi hj _ (hd i j) rfl fun x hx=>hS x ((hT x).2 (.inr ⟨i,j,hi,hj,hx⟩));have h7:(i+1)*bA≤n*bA:=Nat.mul_le_mul_right _ hi;rw [Nat.add_mul,Nat.one_mul] at h7;have h8:n*bA≤cap*bA:=Nat.mul_le_mul_right _ hc;have:i*bA+j < cs.size:=by omega
   simp [World.cell?,hb,this]
  | os=>simp only [AV.U_] at hd
  | _=>simp only [AV.deep] at he;cases he
theorem jP.nf {S:Nat→Prop} {a':AV} {v:Value} (h:jP w F μ S a' v):∀ (a:AV),a.U_→a'=a.deep→jP w F' bC S a' v:=by
 induction h with
 | IY S a' v hv hS=>
  intro a hd he;cases a<;>simp only [AV.deep] at he<;>subst he<;>(try simp only [AV.U_] at hd)<;>cases hv
  ·exact .IY _ _ _ (.top _) hS
  ·exact .IY _ _ _ (.int _ _) hS
  ·exact .IY _ _ _ (.bool _) hS
  ·exact .IY _ _ _ (.str _) hS
 | Br S bA e x hS=>intro a hd he;exact .Br _ _ _ _ hS
 | os T bA n e b cap cs t S JJ hb hc DI h1 _ NO hn hT ih=>
  intro a hd he;cases a with
  | fs uO n' e'=>
   simp only [AV.deep,AV.os.injEq] at he;obtain ⟨rfl,rfl,rfl⟩:=he;simp only [AV.U_] at hd;exact .os T _ _ _ b cap cs t S JJ hb hc DI h1 (fun i j hi hj=>ih i j hi hj _ (hd i j) rfl) NO hn hT
  | os=>simp only [AV.U_] at hd
  | _=>simp only [AV.deep] at he;cases he
theorem Tx {v:Bool} {bA n:Nat} {e e':Nat→Nat→AV} (h:∀ i j,i < n→j < bA→∀ {w F μ S u},jP w F μ S (e i j) u→jP w F μ S (e' i j) u):eQ (.row v bA n e) (.row v bA n e'):=
 ⟨fun hl=>by cases v<;>exact hl,fun ⟨cs,t,S',h1,h2⟩=>⟨cs,t,S',h1,{ h2 with cell:=fun i j hi hj=>⟨h i j hi hj (h2.cell i j hi hj).1,(h2.cell i j hi hj).2⟩ }⟩⟩
theorem Yc {v:Bool} {bA n:Nat} {e e':Nat→Nat→AV} (h:∀ i j,i < n→j < bA→e i j=e' i j):eQ (.row v bA n e) (.dq v bA n e'):=
 ⟨fun hl=>by cases v<;>exact hl,fun ⟨cs,t,S',h1,h2⟩=>⟨cs,t,S',h1,{ h2 with cell:=fun i j hi hj=>⟨.inl (h i j hi hj▸(h2.cell i j hi hj).1),(h2.cell i j hi hj).2⟩ }⟩⟩
theorem abZ {v:Bool} {bA n:Nat} {e e':Nat→Nat→AV} (h:∀ i j,i < n→j < bA→e i j=e' i j):eQ (.dq v bA n e) (.dq v bA n e'):=
 ⟨fun hl=>by cases v<;>exact hl,fun ⟨cs,t,S',h1,h2⟩=>⟨cs,t,S',h1,{ h2 with cell:=fun i j hi hj=>⟨h i j hi hj▸(h2.cell i j hi hj).1,(h2.cell i j hi hj).2⟩ }⟩⟩
theorem Tz {v:Bool} {bA n:Nat} {e e':Nat→Nat→AV} (h:∀ i j,i < n→j < bA→e i j=e' i j∧∃ a:AV,a.U_∧e i j=a.deep):eQ (.dq v bA n e) (.row v bA n e'):=by
 refine ⟨fun hl=>by cases v<;>exact hl,fun {w F μ K S m o} ⟨cs,t,S',h1,h2⟩=>⟨cs,t,S',h1,{ h2 with cell:=fun i j hi hj=>⟨?_,(h2.cell i j hi hj).2⟩ }⟩⟩;obtain ⟨q1,a,q2,q3⟩:=h i j hi hj;rcases (h2.cell i j hi hj).1 with k | ⟨k,k2⟩
 ·exact q1▸k
 ·rw [← q1,q3];rw [q3] at k;refine .IY _ _ _ ?_ k2;generalize cs.getD (i*bA+j) undef=u at k ⊢;cases a<;>simp only [AV.deep] at k ⊢<;>(try simp only [AV.U_] at q2)<;>cases k
  ·exact .top _
  ·exact .int _ _
  ·exact .bool _
  ·exact .str _
theorem Fs {v:Bool} {bA n:Nat} {e:Nat→Nat→AV} (h:0 < n):(jV.dq v bA n e).fc=true:=by cases v<;>simp [jV.fc];omega
theorem Ye {id N bA n i j uO n':Nat} {v:Bool} {e e' e1:Nat→Nat→AV} (hr:HR w F O μ K H ft) (hN:¬ K N) (hb:H id=some (.dq v bA n e)) (hi:i < n) (hj:j < bA) (he:e i j=.os uO n' e')
  (h1:e1 i j=du true N n' uO) (h2:∀ i' j',i' < n→j' < bA→¬ (i'=i∧j'=j)→e1 i' j'=e i' j'):
  ∃ bC bZ,HR w F O bC (plus K [N]) (H.dh [(id,some (.dq v bA n e1)),(N,some (.row true uO n' e'))]) bZ∧Fr w F O μ K w F O bC:=by
 have hl:(jV.dq v bA n e).fc=true:=Fs (by omega);have gQ:H.live id:=⟨_,hb,hl⟩;have Yf:=hr.known id _ hb;have qL:id≠N:=fun h=>hN (h▸Yf);obtain ⟨ob,p_,cs,t,S,rfl,hB⟩:=hr.dC id _ hb hl;have hc0:=(hB.cell i j hi hj);rw [he] at hc0;generalize hu:cs.getD (i*bA+j) undef=u at hc0;have afq:∃ B:Nat,B < w.heap.size∧VR w F (Ic μ N B) (plus K [N]) (du true N n' uO) u∧(n'≠0→S i j B∧∃ o,w.heap[B]?=some o∧∀ bC K',ik w F bC K' (S i j) B o (.row true uO n' e')):=by
  rcases hc0.1 with k | ⟨k,_⟩
  ·cases k with
   | IY _ _ _ hv=>cases hv
   | Br _ _ _ a hS=>exact ⟨0,hr.pos.lt,.s9 _ _ _,fun h=>absurd rfl h⟩
   | os _ _ _ _ b cap cs' t' S' JJ cl hc DI q1 q2 hd hn hT=>
    have dQ:b < w.heap.size:=(Array.getElem?_eq_some_iff.1 cl).1;refine ⟨b,dQ,?_,fun _=>⟨(hT b).2 (.inl rfl),_,cl,fun bC K'=>⟨cs',t',S',rfl,{ size:=Nat.le_trans (Nat.mul_le_mul_right _ hc) DI,cell:=fun i' j' di mR=>⟨(q2 i' j' di mR).any,q1 i' j' di mR⟩,dj:=hd,nb:=hn,all:=hT }⟩⟩⟩;have rR:w.shape? (Ic μ N b N)=some (t',cs'.size):=by rw [gC];simp [World.shape?,cl]
    have:=VR.vs (w:=w) (F:=F) (μ:=Ic μ N b) (K:=plus K [N]) N n' uO cap cs'.size t' JJ (.inr (by simp)) hc rR DI;rwa [gC] at this
  ·cases k
 obtain ⟨B,agW,hBv,hBr⟩:=afq;have mu:∀ k,K k→Ic μ N B k=μ k:=fun k hk=>I2 fun e=>hN (e▸hk);have sub:∀ x,S i j x→ft id x:=fun x hx=>(hB.all x).2 (.inr ⟨i,j,hi,hj,hx⟩);have dh:∀ k,H.dh [(id,some (.dq v bA n e1)),(N,some (.row true uO n' e'))] k=if k=id then some (.dq v bA n e1) else if k=N then some (.row true uO n' e') else H k:=fun k=>rfl
 let bZ:Nat→Nat→Prop:=fun k=>if k=N then S i j else if k=id then fun x=>ft id x∧¬ S i j x else ft k
 have fN:bZ N=S i j:=if_pos rfl;have fI:bZ id=fun x=>ft id x∧¬ S i j x:=by simp only [bZ,if_neg qL,if_true]
 have fO:∀ k,k≠N→k≠id→bZ k=ft k:=fun k h h'=>by simp only [bZ,if_neg h,if_neg h']
 have gI:∀ k,(H.dh [(id,some (.dq v bA n e1)),(N,some (.row true uO n' e'))]).live k→k=id∨(k=N∧n'≠0)∨(k≠id∧k≠N∧H.live k):=by
  rintro k ⟨b,cl,Ct⟩
  rw [dh] at cl;by_cases q:k=id
  ·exact .inl q
  ·rw [if_neg q] at cl;by_cases q2:k=N
   ·rw [if_pos q2] at cl;cases cl;exact .inr (.inl ⟨q2,by simpa [jV.fc] using Ct⟩)
   ·rw [if_neg q2] at cl;exact .inr (.inr ⟨q,q2,b,cl,Ct⟩)
 have lvN:∀ k,H.live k→k≠N:=fun k hk h=>hN (h▸hr.re hk);refine ⟨Ic μ N B,bZ,{ lt:=?_,known:=?_,dC:=?_,self:=?_,own:=?_,dj:=?_,zc:=hr.zc,wf:=hr.wf,rT:=hr.rT,pos:=hr.pos },{ Fr.refl w F O μ K with mu:=mu }⟩
 ·rintro k (h | h)
  ·rw [mu k h];exact hr.lt k h
  ·obtain rfl:k=N:=by simpa using h
   rw [gC];exact agW
 ·intro k b cl;rw [dh] at cl;by_cases q:k=id
  ·exact .inl (q▸Yf)
  ·rw [if_neg q] at cl;by_cases q2:k=N
   ·exact .inr (by simp [q2])
   ·rw [if_neg q2] at cl;exact .inl (hr.known k b cl)
 ·intro k b cl Ct;rw [dh] at cl;by_cases q:k=id
  ·subst q;rw [if_pos rfl] at cl;cases cl;rw [mu k Yf,fI];refine ⟨_,p_,cs,t,fun i' j' x=>¬ (i'=i∧j'=j)∧S i' j' x,rfl,{ size:=hB.size,cell:=fun i' j' di mR=>⟨?_,(hB.cell i' j' di mR).2⟩,dj:=fun i1 j1 i2 j2 a1 a2 a3 a4 x hx lN=>hB.dj i1 j1 i2 j2 a1 a2 a3 a4 x hx.2 lN.2,nb:=fun i' j' di mR hx=>hB.nb i' j' di mR hx.2,all:=fun x=>⟨fun hx=>?_,fun hx=>?_⟩ }⟩
   ·by_cases q:i'=i∧j'=j
    ·obtain ⟨rfl,rfl⟩:=q;rw [h1,hu];exact .inr ⟨hBv,fun x hx=>hx.1 ⟨rfl,rfl⟩⟩
    ·rw [h2 i' j' di mR q];have eS:(fun x=>¬ (i'=i∧j'=j)∧S i' j' x)=S i' j':=by funext x;exact propext ⟨fun h=>h.2,fun h=>⟨q,h⟩⟩
     rw [eS];exact (hB.cell i' j' di mR).1.imp (fun k=>k.any) fun k=>⟨k.1.mono (fun _ _=>rfl) (fun _ h=>h) mu (fun _ h=>.inl h) fun _ _=>rfl,k.2⟩
   ·rcases (hB.all x).1 hx.1 with h | ⟨i',j',a1,a2,a3⟩
    ·exact .inl h
    ·exact .inr ⟨i',j',a1,a2,(fun h=>hx.2 (by obtain ⟨rfl,rfl⟩:=h;exact a3)),a3⟩
   ·rcases hx with h | ⟨i',j',a1,a2,a3,a4⟩
    ·exact ⟨(hB.all x).2 (.inl h),fun h'=>hB.nb i j hi hj (h▸h')⟩
    ·exact ⟨(hB.all x).2 (.inr ⟨i',j',a1,a2,a4⟩),fun h'=>a3 (hB.dj i' j' i j a1 a2 hi hj x a4 h')⟩
  ·rw [if_neg q] at cl;by_cases q2:k=N
   ·subst q2;rw [if_pos rfl] at cl;cases cl;obtain ⟨_,o,ho,hBo⟩:=hBr (by simpa [jV.fc] using Ct);rw [gC,fN];exact ⟨o,ho,hBo _ _⟩
   ·rw [if_neg q2] at cl;obtain ⟨o,ho,hBo⟩:=hr.dC k b cl Ct;rw [mu k (hr.known k b cl),fO k q2 q];exact ⟨o,ho,hBo.mono (fun _ _=>rfl) (fun _ h=>h) mu (fun _ h=>.inl h) (fun _ _=>rfl) fun _ _ _=>rfl⟩
 ·intro k hk;rcases gI k hk with rfl | ⟨rfl,h⟩ | ⟨q,q2,h⟩
  ·rw [mu k Yf,fI];exact ⟨hr.self k gQ,fun h=>hB.nb i j hi hj h⟩
  ·rw [gC,fN];exact (hBr h).1
  ·rw [mu k (hr.re h),fO k q2 q];exact hr.self k h
 ·intro k hk x hx;rcases gI k hk with rfl | ⟨rfl,h⟩ | ⟨q,q2,h⟩
  ·rw [fI] at hx;exact hr.own k gQ x hx.1
  ·rw [fN] at hx;exact hr.own id gQ x (sub x hx)
  ·rw [fO k q2 q] at hx;exact hr.own k h x hx
 ·intro k k' hk Gn x hx lN;rcases gI k hk with rfl | ⟨rfl,h⟩ | ⟨q,q2,h⟩<;>rcases gI k' Gn with rfl | ⟨rfl,h'⟩ | ⟨p,p2,h'⟩
  ·rfl
  ·rw [fI] at hx;rw [fN] at lN;exact absurd lN hx.2
  ·rw [fI] at hx;rw [fO k' p2 p] at lN;exact hr.dj k k' gQ h' x hx.1 lN
  ·rw [fN] at hx;rw [fI] at lN;exact absurd hx lN.2
  ·rfl
  ·rw [fN] at hx;rw [fO k' p2 p] at lN;exact absurd (hr.dj id k' gQ h' x (sub x hx) lN).symm p
  ·rw [fO k q2 q] at hx;rw [fI] at lN;exact hr.dj k k' h gQ x hx lN.1
  ·rw [fO k q2 q] at hx;rw [fN] at lN;exact absurd (hr.dj k id h gQ x hx (sub x lN)) q
  ·rw [fO k q2 q] at hx;rw [fO k' p2 p] at lN;exact hr.dj k k' h h' x hx lN
theorem Vo {id M bA n i j uO n':Nat} {v:Bool} {e e' e1:Nat→Nat→AV} (hr:HR w F O μ K H ft) (hb:H id=some (.dq v bA n e)) (hM:H M=some (.row true uO n' e')) (hi:i < n) (hj:j < bA)
  (he:e i j=du true M n' uO) (h1:e1 i j=.os uO n' e') (h2:∀ i' j',i' < n→j' < bA→¬ (i'=i∧j'=j)→e1 i' j'=e i' j'):
  ∃ bZ,HR w F O μ K (H.dh [(id,some (.dq v bA n e1)),(M,none)]) bZ:=by
 have qL:id≠M:=fun h=>by rw [h,hM] at hb;cases hb
 have hl:(jV.dq v bA n e).fc=true:=Fs (by omega);have gQ:H.live id:=⟨_,hb,hl⟩;obtain ⟨ob,p_,cs,t,S,rfl,hB⟩:=hr.dC id _ hb hl;have hc0:=(hB.cell i j hi hj);rw [he] at hc0;generalize hu:cs.getD (i*bA+j) undef=u at hc0;have hv:VR w F μ K (du true M n' uO) u∧∀ x,¬ S i j x:=by
  rcases hc0.1 with k | k
  ·cases k with
   | IY _ _ _ hv hS=>exact ⟨hv.mono (fun _ _=>rfl) (fun _ h=>h) (fun _ h=>h.elim) (fun _ h=>h.elim) (fun _ h=>h.elim),hS⟩
  ·exact k
 let T:Nat→Prop:=fun x=>H.live M∧ft M x
 have hO:jP w F μ T (.os uO n' e') u:=by
  rcases rQ hv.1 with ⟨⟨a,rfl⟩,rfl,_⟩ | ⟨cap,sz,t',rfl,q2,q3,q4,q5,q6⟩
  ·refine .Br _ _ _ _ fun x hx=>?_;obtain ⟨b,cl,Ct⟩:=hx.1;rw [hM] at cl;cases cl;cases Ct
  ·have JJ:=q6 rfl;have hlM:(jV.row true uO n' e').fc=true:=by simpa [jV.fc] using JJ
   obtain ⟨ob',afr,cs',t2,S',rfl,Y1⟩:=hr.dC M _ hM hlM;have DI:cap*uO≤cs'.size:=by
    simp only [World.shape?,afr,Option.some.injEq,Prod.mk.injEq] at q4;rw [q4.2];exact q5
   have agX:H.live M:=⟨_,hM,hlM⟩;refine .os T uO n' e' (μ M) cap cs' t2 S' JJ afr q2 DI (fun i j hi hj=>(Y1.cell i j hi hj).2) (fun i j hi hj=>(Y1.cell i j hi hj).1) Y1.dj Y1.nb fun x=>?_;exact ⟨fun h=>(Y1.all x).1 h.2,fun h=>⟨agX,(Y1.all x).2 h⟩⟩
 have dh:∀ k,H.dh [(id,some (.dq v bA n e1)),(M,none)] k=if k=id then some (.dq v bA n e1) else if k=M then none else H k:=fun k=>rfl
 let bZ:Nat→Nat→Prop:=fun k=>if k=id then fun x=>ft id x∨T x else ft k
 have fI:bZ id=fun x=>ft id x∨T x:=if_pos rfl;have fO:∀ k,k≠id→bZ k=ft k:=fun k h=>if_neg h;have gI:∀ k,(H.dh [(id,some (.dq v bA n e1)),(M,none)]).live k→k=id∨(k≠id∧k≠M∧H.live k):=by
  rintro k ⟨b,cl,Ct⟩
  rw [dh] at cl;by_cases q:k=id
  ·exact .inl q
  ·rw [if_neg q] at cl;by_cases q2:k=M
   ·rw [if_pos q2] at cl;cases cl
   ·rw [if_neg q2] at cl;exact .inr ⟨q,q2,b,cl,Ct⟩
 have ap:∀ x,ft id x→T x→False:=fun x hx lN=>qL (hr.dj id M gQ lN.1 x hx lN.2);refine ⟨bZ,{ lt:=hr.lt,known:=?_,dC:=?_,self:=?_,own:=?_,dj:=?_,zc:=hr.zc,wf:=hr.wf,rT:=hr.rT,pos:=hr.pos }⟩
 ·intro k b cl;rw [dh] at cl;by_cases q:k=id
  ·exact q▸hr.known id _ hb
  ·rw [if_neg q] at cl;split at cl
   ·cases cl
   ·exact hr.known k b cl
 ·intro k b cl Ct;rw [dh] at cl;by_cases q:k=id
  ·subst q;rw [if_pos rfl] at cl;cases cl;rw [fI];have inn:∀ i' j',i' < n→j' < bA→∀ x,S i' j' x→ft k x:=fun i' j' a1 a2 x hx=>(hB.all x).2 (.inr ⟨i',j',a1,a2,hx⟩);refine ⟨_,p_,cs,t,fun i' j' x=>(¬ (i'=i∧j'=j)∧S i' j' x)∨((i'=i∧j'=j)∧T x),rfl,{ size:=hB.size,cell:=fun i' j' di mR=>⟨?_,(hB.cell i' j' di mR).2⟩,dj:=?_,nb:=?_,all:=fun x=>⟨fun hx=>?_,fun hx=>?_⟩ }⟩
   ·by_cases q:i'=i∧j'=j
    ·have eS:(fun x=>(¬ (i'=i∧j'=j)∧S i' j' x)∨((i'=i∧j'=j)∧T x))=T:=by funext x;exact propext ⟨fun h=>h.elim (fun h=>absurd q h.1) fun h=>h.2,fun h=>.inr ⟨q,h⟩⟩
     rw [eS,q.1,q.2,h1,hu];exact .inl hO
    ·have eS:(fun x=>(¬ (i'=i∧j'=j)∧S i' j' x)∨((i'=i∧j'=j)∧T x))=S i' j':=by funext x;exact propext ⟨fun h=>h.elim (fun h=>h.2) fun h=>absurd h.1 q,fun h=>.inl ⟨q,h⟩⟩
     rw [eS,h2 i' j' di mR q];exact (hB.cell i' j' di mR).1
   ·rintro i1 j1 i2 j2 a1 a2 a3 a4 x (⟨h,hx⟩ | ⟨h,hx⟩) (⟨h',lN⟩ | ⟨h',lN⟩)
    ·exact hB.dj i1 j1 i2 j2 a1 a2 a3 a4 x hx lN
    ·exact (ap x (inn i1 j1 a1 a2 x hx) lN).elim
    ·exact (ap x (inn i2 j2 a3 a4 x lN) hx).elim
    ·exact ⟨h.1.trans h'.1.symm,h.2.trans h'.2.symm⟩
   ·rintro i' j' a1 a2 (⟨_,hx⟩ | ⟨_,hx⟩)
    ·exact hB.nb i' j' a1 a2 hx
    ·exact ap _ (hr.self k gQ) hx
   ·rcases hx with hx | hx
    ·rcases (hB.all x).1 hx with h | ⟨i',j',a1,a2,a3⟩
     ·exact .inl h
     ·refine .inr ⟨i',j',a1,a2,.inl ⟨?_,a3⟩⟩
      rintro ⟨rfl,rfl⟩
      exact hv.2 x a3
    ·exact .inr ⟨i,j,hi,hj,.inr ⟨⟨rfl,rfl⟩,hx⟩⟩
   ·rcases hx with h | ⟨i',j',a1,a2,⟨_,a4⟩ | ⟨_,a4⟩⟩
    ·exact .inl ((hB.all x).2 (.inl h))
    ·exact .inl (inn i' j' a1 a2 x a4)
    ·exact .inr a4
  ·rw [if_neg q] at cl;split at cl
   ·cases cl
   ·rw [fO k q];exact hr.dC k b cl Ct
 ·intro k hk;rcases gI k hk with rfl | ⟨q,q2,h⟩
  ·rw [fI];exact .inl (hr.self k gQ)
  ·rw [fO k q];exact hr.self k h
 ·intro k hk x hx;rcases gI k hk with rfl | ⟨q,q2,h⟩
  ·rw [fI] at hx;exact hx.elim (fun h=>hr.own k gQ x h) fun h=>hr.own M h.1 x h.2
  ·rw [fO k q] at hx;exact hr.own k h x hx
 ·have cr:∀ k,k≠id→k≠M→H.live k→∀ x,ft id x∨T x→ft k x→False:=fun k q q2 h x hx lN=>hx.elim (fun hx=>q (hr.dj k id h gQ x lN hx)) fun hx=>q2 (hr.dj k M h hx.1 x lN hx.2);intro k k' hk Gn x hx lN;rcases gI k hk with rfl | ⟨q,q2,h⟩<;>rcases gI k' Gn with rfl | ⟨p,p2,h'⟩
  ·rfl
  ·rw [fI] at hx;rw [fO k' p] at lN;exact (cr k' p p2 h' x hx lN).elim
  ·rw [fO k q] at hx;rw [fI] at lN;exact (cr k q q2 h x lN hx).elim
  ·rw [fO k q] at hx;rw [fO k' p] at lN;exact hr.dj k k' h h' x hx lN
end Go.Proofs.YtjkbbdldmdajkaaGreatDoor.c_
