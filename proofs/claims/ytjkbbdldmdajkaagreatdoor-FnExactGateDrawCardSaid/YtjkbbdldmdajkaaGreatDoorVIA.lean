/- Rows whose parts are rows of the call's own: frozen, opened at a part, closed again. No condition. -/
import Derived.Test.YtjkbbdldmdajkaaGreatDoorVI
namespace Go.Proofs.YtjkbbdldmdajkaaGreatDoor.c5
open Go Go.RowKit
variable {w w' ss:World} {F F' zT O O' uo:Nat→Prop} {μ aZ jE:Nat→Nat} {K K' C9:Nat→Prop} {H H' H'':Hp} {ft bX:Nat→Nat→Prop} {P:Program}
theorem jy.freeze {S:Nat→Prop} {a':AV} {v:Value} (h:jy w F μ S a' v) (hF:∀ b,F b→F' b):∀ (a:AV),a.UH→a'=a.deep→(∀ b,S b→F' b)→VR w F' aZ Cv a v:=by
 induction h with
 | Ip S a' v hv hS=>
  intro a hd he _;have key:VR w F μ Cv a v:=by
   cases a with
   | fs bB n e=>simp only [AV.deep] at he;subst he;cases hv
   | _=>simp only [AV.deep] at he;subst he;exact hv
  exact (key.up (aZ:=aZ)).mono (fun _ _=>rfl) hF (fun _ h=>h.elim) (fun _ h=>h) fun _ h=>h.elim
 | AK S bB e x hS=>
  intro a hd he _;cases a with
  | fs tJ n e'=>simp only [AV.deep,AV.os.injEq] at he;obtain ⟨rfl,rfl,_⟩:=he;exact .u_ _ _ _ _
  | os=>simp only [AV.UH] at hd
  | _=>simp only [AV.deep] at he;cases he
 | os T bB n e b cap cs t S Jb hb hc C2 h1 _ Nf hn hT ih=>
  intro a hd he hS;cases a with
  | fs tJ n' e'=>
   simp only [AV.deep,AV.os.injEq] at he;obtain ⟨rfl,rfl,rfl⟩:=he;simp only [AV.UH] at hd;refine .fs _ _ _ b 0 cap (fun i j=>cs.getD (i*bB+j) undef) (hS b ((hT b).2 (.inl rfl))) hc (fun i j hi hj=>⟨?_,h1 i j hi hj⟩) fun i j hi hj=>ih i j hi hj _ (hd i j) rfl fun x hx=>hS x ((hT x).2 (.inr ⟨i,j,hi,hj,hx⟩));have h7:(i+1)*bB≤n*bB:=Nat.mul_le_mul_right _ hi;rw [Nat.add_mul,Nat.one_mul] at h7;have h8:n*bB≤cap*bB:=Nat.mul_le_mul_right _ hc;have:i*bB+j < cs.size:=by omega
   simp [World.cell?,hb,this]
  | os=>simp only [AV.UH] at hd
  | _=>simp only [AV.deep] at he;cases he
theorem jy.nf {S:Nat→Prop} {a':AV} {v:Value} (h:jy w F μ S a' v):∀ (a:AV),a.UH→a'=a.deep→jy w F' aZ S a' v:=by
 induction h with
 | Ip S a' v hv hS=>
  intro a hd he;cases a<;>simp only [AV.deep] at he<;>subst he<;>(try simp only [AV.UH] at hd)<;>cases hv
  ·exact .Ip _ _ _ (.top _) hS
  ·exact .Ip _ _ _ (.int _ _) hS
  ·exact .Ip _ _ _ (.bool _) hS
  ·exact .Ip _ _ _ (.str _) hS
 | AK S bB e x hS=>intro a hd he;exact .AK _ _ _ _ hS
 | os T bB n e b cap cs t S Jb hb hc C2 h1 _ Nf hn hT ih=>
  intro a hd he;cases a with
  | fs tJ n' e'=>
   simp only [AV.deep,AV.os.injEq] at he;obtain ⟨rfl,rfl,rfl⟩:=he;simp only [AV.UH] at hd;exact .os T _ _ _ b cap cs t S Jb hb hc C2 h1 (fun i j hi hj=>ih i j hi hj _ (hd i j) rfl) Nf hn hT
  | os=>simp only [AV.UH] at hd
  | _=>simp only [AV.deep] at he;cases he
theorem SZ {v:Bool} {bB n:Nat} {e e':Nat→Nat→AV} (h:∀ i j,i < n→j < bB→∀ {w F μ S u},jy w F μ S (e i j) u→jy w F μ S (e' i j) u):eg (.row v bB n e) (.row v bB n e'):=
 ⟨fun hl=>by cases v<;>exact hl,fun ⟨cs,t,S',h1,h2⟩=>⟨cs,t,S',h1,{ h2 with cell:=fun i j hi hj=>⟨h i j hi hj (h2.cell i j hi hj).1,(h2.cell i j hi hj).2⟩ }⟩⟩
theorem XP {v:Bool} {bB n:Nat} {e e':Nat→Nat→AV} (h:∀ i j,i < n→j < bB→e i j=e' i j):eg (.row v bB n e) (.de v bB n e'):=
 ⟨fun hl=>by cases v<;>exact hl,fun ⟨cs,t,S',h1,h2⟩=>⟨cs,t,S',h1,{ h2 with cell:=fun i j hi hj=>⟨.inl (h i j hi hj▸(h2.cell i j hi hj).1),(h2.cell i j hi hj).2⟩ }⟩⟩
theorem abv {v:Bool} {bB n:Nat} {e e':Nat→Nat→AV} (h:∀ i j,i < n→j < bB→e i j=e' i j):eg (.de v bB n e) (.de v bB n e'):=
 ⟨fun hl=>by cases v<;>exact hl,fun ⟨cs,t,S',h1,h2⟩=>⟨cs,t,S',h1,{ h2 with cell:=fun i j hi hj=>⟨h i j hi hj▸(h2.cell i j hi hj).1,(h2.cell i j hi hj).2⟩ }⟩⟩
theorem S0 {v:Bool} {bB n:Nat} {e e':Nat→Nat→AV} (h:∀ i j,i < n→j < bB→e i j=e' i j∧∃ a:AV,a.UH∧e i j=a.deep):eg (.de v bB n e) (.row v bB n e'):=by
 refine ⟨fun hl=>by cases v<;>exact hl,fun {w F μ K S m o} ⟨cs,t,S',h1,h2⟩=>⟨cs,t,S',h1,{ h2 with cell:=fun i j hi hj=>⟨?_,(h2.cell i j hi hj).2⟩ }⟩⟩;obtain ⟨q1,a,q2,q3⟩:=h i j hi hj;rcases (h2.cell i j hi hj).1 with k | ⟨k,k2⟩
 ·exact q1▸k
 ·rw [← q1,q3];rw [q3] at k;refine .Ip _ _ _ ?_ k2;generalize cs.getD (i*bB+j) undef=u at k ⊢;cases a<;>simp only [AV.deep] at k ⊢<;>(try simp only [AV.UH] at q2)<;>cases k
  ·exact .top _
  ·exact .int _ _
  ·exact .bool _
  ·exact .str _
theorem EM {v:Bool} {bB n:Nat} {e:Nat→Nat→AV} (h:0 < n):(jz.de v bB n e).eQ=true:=by cases v<;>simp [jz.eQ];omega
theorem XQ {id N bB n i j tJ n':Nat} {v:Bool} {e e' e1:Nat→Nat→AV} (hr:HR w F O μ K H ft) (hN:¬ K N) (hb:H id=some (.de v bB n e)) (hi:i < n) (hj:j < bB) (he:e i j=.os tJ n' e')
  (h1:e1 i j=dh true N n' tJ) (h2:∀ i' j',i' < n→j' < bB→¬ (i'=i∧j'=j)→e1 i' j'=e i' j'):
  ∃ aZ bX,HR w F O aZ (plus K [N]) (H.c_ [(id,some (.de v bB n e1)),(N,some (.row true tJ n' e'))]) bX∧Fr w F O μ K w F O aZ:=by
 have hl:(jz.de v bB n e).eQ=true:=EM (by omega);have gC:H.live id:=⟨_,hb,hl⟩;have XR:=hr.known id _ hb;have oV:id≠N:=fun h=>hN (h▸XR);obtain ⟨ob,po,cs,t,S,rfl,hB⟩:=hr.du id _ hb hl;have hc0:=(hB.cell i j hi hj);rw [he] at hc0;generalize hu:cs.getD (i*bB+j) undef=u at hc0;have afk:∃ B:Nat,B < w.heap.size∧VR w F (Hy μ N B) (plus K [N]) (dh true N n' tJ) u∧(n'≠0→S i j B∧∃ o,w.heap[B]?=some o∧∀ aZ K',hP w F aZ K' (S i j) B o (.row true tJ n' e')):=by
  rcases hc0.1 with k | ⟨k,_⟩
  ·cases k with
   | Ip _ _ _ hv=>cases hv
   | AK _ _ _ a hS=>exact ⟨0,hr.pos.lt,.sb _ _ _,fun h=>absurd rfl h⟩
   | os _ _ _ _ b cap cs' t' S' Jb ck hc C2 q1 q2 hd hn hT=>
    have dY:b < w.heap.size:=(Array.getElem?_eq_some_iff.1 ck).1;refine ⟨b,dY,?_,fun _=>⟨(hT b).2 (.inl rfl),_,ck,fun aZ K'=>⟨cs',t',S',rfl,{ size:=Nat.le_trans (Nat.mul_le_mul_right _ hc) C2,cell:=fun i' j' da mi=>⟨(q2 i' j' da mi).any,q1 i' j' da mi⟩,dj:=hd,nb:=hn,all:=hT }⟩⟩⟩;have qQ:w.shape? (Hy μ N b N)=some (t',cs'.size):=by rw [gq];simp [World.shape?,ck]
    have:=VR.vs (w:=w) (F:=F) (μ:=Hy μ N b) (K:=plus K [N]) N n' tJ cap cs'.size t' Jb (.inr (by simp)) hc qQ C2;rwa [gq] at this
  ·cases k
 obtain ⟨B,ahc,hBv,hBr⟩:=afk;have mu:∀ k,K k→Hy μ N B k=μ k:=fun k hk=>Iu fun e=>hN (e▸hk);have sub:∀ x,S i j x→ft id x:=fun x hx=>(hB.all x).2 (.inr ⟨i,j,hi,hj,hx⟩);have c_:∀ k,H.c_ [(id,some (.de v bB n e1)),(N,some (.row true tJ n' e'))] k=if k=id then some (.de v bB n e1) else if k=N then some (.row true tJ n' e') else H k:=fun k=>rfl
 let bX:Nat→Nat→Prop:=fun k=>if k=N then S i j else if k=id then fun x=>ft id x∧¬ S i j x else ft k
 have fN:bX N=S i j:=if_pos rfl;have fI:bX id=fun x=>ft id x∧¬ S i j x:=by simp only [bX,if_neg oV,if_true]
 have fO:∀ k,k≠N→k≠id→bX k=ft k:=fun k h h'=>by simp only [bX,if_neg h,if_neg h']
 have gB:∀ k,(H.c_ [(id,some (.de v bB n e1)),(N,some (.row true tJ n' e'))]).live k→k=id∨(k=N∧n'≠0)∨(k≠id∧k≠N∧H.live k):=by
  rintro k ⟨b,ck,BM⟩
  rw [c_] at ck;by_cases q:k=id
  ·exact .inl q
  ·rw [if_neg q] at ck;by_cases q2:k=N
   ·rw [if_pos q2] at ck;cases ck;exact .inr (.inl ⟨q2,by simpa [jz.eQ] using BM⟩)
   ·rw [if_neg q2] at ck;exact .inr (.inr ⟨q,q2,b,ck,BM⟩)
 have lvN:∀ k,H.live k→k≠N:=fun k hk h=>hN (h▸hr.qg hk);refine ⟨Hy μ N B,bX,{ lt:=?_,known:=?_,du:=?_,self:=?_,own:=?_,dj:=?_,yl:=hr.yl,wf:=hr.wf,qS:=hr.qS,pos:=hr.pos },{ Fr.refl w F O μ K with mu:=mu }⟩
 ·rintro k (h | h)
  ·rw [mu k h];exact hr.lt k h
  ·obtain rfl:k=N:=by simpa using h
   rw [gq];exact ahc
 ·intro k b ck;rw [c_] at ck;by_cases q:k=id
  ·exact .inl (q▸XR)
  ·rw [if_neg q] at ck;by_cases q2:k=N
   ·exact .inr (by simp [q2])
   ·rw [if_neg q2] at ck;exact .inl (hr.known k b ck)
 ·intro k b ck BM;rw [c_] at ck;by_cases q:k=id
  ·subst q;rw [if_pos rfl] at ck;cases ck;rw [mu k XR,fI];refine ⟨_,po,cs,t,fun i' j' x=>¬ (i'=i∧j'=j)∧S i' j' x,rfl,{ size:=hB.size,cell:=fun i' j' da mi=>⟨?_,(hB.cell i' j' da mi).2⟩,dj:=fun i1 j1 i2 j2 a1 a2 a3 a4 x hx la=>hB.dj i1 j1 i2 j2 a1 a2 a3 a4 x hx.2 la.2,nb:=fun i' j' da mi hx=>hB.nb i' j' da mi hx.2,all:=fun x=>⟨fun hx=>?_,fun hx=>?_⟩ }⟩
   ·by_cases q:i'=i∧j'=j
    ·obtain ⟨rfl,rfl⟩:=q;rw [h1,hu];exact .inr ⟨hBv,fun x hx=>hx.1 ⟨rfl,rfl⟩⟩
    ·rw [h2 i' j' da mi q];have eS:(fun x=>¬ (i'=i∧j'=j)∧S i' j' x)=S i' j':=by funext x;exact propext ⟨fun h=>h.2,fun h=>⟨q,h⟩⟩
     rw [eS];exact (hB.cell i' j' da mi).1.imp (fun k=>k.any) fun k=>⟨k.1.mono (fun _ _=>rfl) (fun _ h=>h) mu (fun _ h=>.inl h) fun _ _=>rfl,k.2⟩
   ·rcases (hB.all x).1 hx.1 with h | ⟨i',j',a1,a2,a3⟩
    ·exact .inl h
    ·exact .inr ⟨i',j',a1,a2,(fun h=>hx.2 (by obtain ⟨rfl,rfl⟩:=h;exact a3)),a3⟩
   ·rcases hx with h | ⟨i',j',a1,a2,a3,a4⟩
    ·exact ⟨(hB.all x).2 (.inl h),fun h'=>hB.nb i j hi hj (h▸h')⟩
    ·exact ⟨(hB.all x).2 (.inr ⟨i',j',a1,a2,a4⟩),fun h'=>a3 (hB.dj i' j' i j a1 a2 hi hj x a4 h')⟩
  ·rw [if_neg q] at ck;by_cases q2:k=N
   ·subst q2;rw [if_pos rfl] at ck;cases ck;obtain ⟨_,o,ho,hBo⟩:=hBr (by simpa [jz.eQ] using BM);rw [gq,fN];exact ⟨o,ho,hBo _ _⟩
   ·rw [if_neg q2] at ck;obtain ⟨o,ho,hBo⟩:=hr.du k b ck BM;rw [mu k (hr.known k b ck),fO k q2 q];exact ⟨o,ho,hBo.mono (fun _ _=>rfl) (fun _ h=>h) mu (fun _ h=>.inl h) (fun _ _=>rfl) fun _ _ _=>rfl⟩
 ·intro k hk;rcases gB k hk with rfl | ⟨rfl,h⟩ | ⟨q,q2,h⟩
  ·rw [mu k XR,fI];exact ⟨hr.self k gC,fun h=>hB.nb i j hi hj h⟩
  ·rw [gq,fN];exact (hBr h).1
  ·rw [mu k (hr.qg h),fO k q2 q];exact hr.self k h
 ·intro k hk x hx;rcases gB k hk with rfl | ⟨rfl,h⟩ | ⟨q,q2,h⟩
  ·rw [fI] at hx;exact hr.own k gC x hx.1
  ·rw [fN] at hx;exact hr.own id gC x (sub x hx)
  ·rw [fO k q2 q] at hx;exact hr.own k h x hx
 ·intro k k' hk FG x hx la;rcases gB k hk with rfl | ⟨rfl,h⟩ | ⟨q,q2,h⟩<;>rcases gB k' FG with rfl | ⟨rfl,h'⟩ | ⟨p,p2,h'⟩
  ·rfl
  ·rw [fI] at hx;rw [fN] at la;exact absurd la hx.2
  ·rw [fI] at hx;rw [fO k' p2 p] at la;exact hr.dj k k' gC h' x hx.1 la
  ·rw [fN] at hx;rw [fI] at la;exact absurd hx la.2
  ·rfl
  ·rw [fN] at hx;rw [fO k' p2 p] at la;exact absurd (hr.dj id k' gC h' x (sub x hx) la).symm p
  ·rw [fO k q2 q] at hx;rw [fI] at la;exact hr.dj k k' h gC x hx la.1
  ·rw [fO k q2 q] at hx;rw [fN] at la;exact absurd (hr.dj k id h gC x hx (sub x la)) q
  ·rw [fO k q2 q] at hx;rw [fO k' p2 p] at la;exact hr.dj k k' h h' x hx la
theorem UW {id M bB n i j tJ n':Nat} {v:Bool} {e e' e1:Nat→Nat→AV} (hr:HR w F O μ K H ft) (hb:H id=some (.de v bB n e)) (hM:H M=some (.row true tJ n' e')) (hi:i < n) (hj:j < bB)
  (he:e i j=dh true M n' tJ) (h1:e1 i j=.os tJ n' e') (h2:∀ i' j',i' < n→j' < bB→¬ (i'=i∧j'=j)→e1 i' j'=e i' j'):
  ∃ bX,HR w F O μ K (H.c_ [(id,some (.de v bB n e1)),(M,none)]) bX:=by
 have oV:id≠M:=fun h=>by rw [h,hM] at hb;cases hb
 have hl:(jz.de v bB n e).eQ=true:=EM (by omega);have gC:H.live id:=⟨_,hb,hl⟩;obtain ⟨ob,po,cs,t,S,rfl,hB⟩:=hr.du id _ hb hl;have hc0:=(hB.cell i j hi hj);rw [he] at hc0;generalize hu:cs.getD (i*bB+j) undef=u at hc0;have hv:VR w F μ K (dh true M n' tJ) u∧∀ x,¬ S i j x:=by
  rcases hc0.1 with k | k
  ·cases k with
   | Ip _ _ _ hv hS=>exact ⟨hv.mono (fun _ _=>rfl) (fun _ h=>h) (fun _ h=>h.elim) (fun _ h=>h.elim) (fun _ h=>h.elim),hS⟩
  ·exact k
 let T:Nat→Prop:=fun x=>H.live M∧ft M x
 have hO:jy w F μ T (.os tJ n' e') u:=by
  rcases qP hv.1 with ⟨⟨a,rfl⟩,rfl,_⟩ | ⟨cap,sz,t',rfl,q2,q3,q4,q5,q6⟩
  ·refine .AK _ _ _ _ fun x hx=>?_;obtain ⟨b,ck,BM⟩:=hx.1;rw [hM] at ck;cases ck;cases BM
  ·have Jb:=q6 rfl;have hlM:(jz.row true tJ n' e').eQ=true:=by simpa [jz.eQ] using Jb
   obtain ⟨ob',afl,cs',t2,S',rfl,YI⟩:=hr.du M _ hM hlM;have C2:cap*tJ≤cs'.size:=by
    simp only [World.shape?,afl,Option.some.injEq,Prod.mk.injEq] at q4;rw [q4.2];exact q5
   have ahd:H.live M:=⟨_,hM,hlM⟩;refine .os T tJ n' e' (μ M) cap cs' t2 S' Jb afl q2 C2 (fun i j hi hj=>(YI.cell i j hi hj).2) (fun i j hi hj=>(YI.cell i j hi hj).1) YI.dj YI.nb fun x=>?_;exact ⟨fun h=>(YI.all x).1 h.2,fun h=>⟨ahd,(YI.all x).2 h⟩⟩
 have c_:∀ k,H.c_ [(id,some (.de v bB n e1)),(M,none)] k=if k=id then some (.de v bB n e1) else if k=M then none else H k:=fun k=>rfl
 let bX:Nat→Nat→Prop:=fun k=>if k=id then fun x=>ft id x∨T x else ft k
 have fI:bX id=fun x=>ft id x∨T x:=if_pos rfl;have fO:∀ k,k≠id→bX k=ft k:=fun k h=>if_neg h;have gB:∀ k,(H.c_ [(id,some (.de v bB n e1)),(M,none)]).live k→k=id∨(k≠id∧k≠M∧H.live k):=by
  rintro k ⟨b,ck,BM⟩
  rw [c_] at ck;by_cases q:k=id
  ·exact .inl q
  ·rw [if_neg q] at ck;by_cases q2:k=M
   ·rw [if_pos q2] at ck;cases ck
   ·rw [if_neg q2] at ck;exact .inr ⟨q,q2,b,ck,BM⟩
 have ap:∀ x,ft id x→T x→False:=fun x hx la=>oV (hr.dj id M gC la.1 x hx la.2);refine ⟨bX,{ lt:=hr.lt,known:=?_,du:=?_,self:=?_,own:=?_,dj:=?_,yl:=hr.yl,wf:=hr.wf,qS:=hr.qS,pos:=hr.pos }⟩
 ·intro k b ck;rw [c_] at ck;by_cases q:k=id
  ·exact q▸hr.known id _ hb
  ·rw [if_neg q] at ck;split at ck
   ·cases ck
   ·exact hr.known k b ck
 ·intro k b ck BM;rw [c_] at ck;by_cases q:k=id
  ·subst q;rw [if_pos rfl] at ck;cases ck;rw [fI];have inn:∀ i' j',i' < n→j' < bB→∀ x,S i' j' x→ft k x:=fun i' j' a1 a2 x hx=>(hB.all x).2 (.inr ⟨i',j',a1,a2,hx⟩);refine ⟨_,po,cs,t,fun i' j' x=>(¬ (i'=i∧j'=j)∧S i' j' x)∨((i'=i∧j'=j)∧T x),rfl,{ size:=hB.size,cell:=fun i' j' da mi=>⟨?_,(hB.cell i' j' da mi).2⟩,dj:=?_,nb:=?_,all:=fun x=>⟨fun hx=>?_,fun hx=>?_⟩ }⟩
   ·by_cases q:i'=i∧j'=j
    ·have eS:(fun x=>(¬ (i'=i∧j'=j)∧S i' j' x)∨((i'=i∧j'=j)∧T x))=T:=by funext x;exact propext ⟨fun h=>h.elim (fun h=>absurd q h.1) fun h=>h.2,fun h=>.inr ⟨q,h⟩⟩
     rw [eS,q.1,q.2,h1,hu];exact .inl hO
    ·have eS:(fun x=>(¬ (i'=i∧j'=j)∧S i' j' x)∨((i'=i∧j'=j)∧T x))=S i' j':=by funext x;exact propext ⟨fun h=>h.elim (fun h=>h.2) fun h=>absurd h.1 q,fun h=>.inl ⟨q,h⟩⟩
     rw [eS,h2 i' j' da mi q];exact (hB.cell i' j' da mi).1
   ·rintro i1 j1 i2 j2 a1 a2 a3 a4 x (⟨h,hx⟩ | ⟨h,hx⟩) (⟨h',la⟩ | ⟨h',la⟩)
    ·exact hB.dj i1 j1 i2 j2 a1 a2 a3 a4 x hx la
    ·exact (ap x (inn i1 j1 a1 a2 x hx) la).elim
    ·exact (ap x (inn i2 j2 a3 a4 x la) hx).elim
    ·exact ⟨h.1.trans h'.1.symm,h.2.trans h'.2.symm⟩
   ·rintro i' j' a1 a2 (⟨_,hx⟩ | ⟨_,hx⟩)
    ·exact hB.nb i' j' a1 a2 hx
    ·exact ap _ (hr.self k gC) hx
   ·rcases hx with hx | hx
    ·rcases (hB.all x).1 hx with h | ⟨i',j',a1,a2,a3⟩
     ·exact .inl h
     ·refine .inr ⟨i',j',a1,a2,.inl ⟨?_,a3⟩⟩
      rintro ⟨rfl,rfl⟩
      exact hv.2 x a3
    ·exact .inr ⟨i,j,hi,hj,.inr ⟨⟨rfl,rfl⟩,hx⟩⟩
   ·rcases hx with h | ⟨i',j',a1,a2,⟨_,a4⟩ | ⟨_,a4⟩⟩
    ·exact .inl ((hB.all x).2 (.inl h))
    ·exact .inl (inn i' j' a1 a2 x a4)
    ·exact .inr a4
  ·rw [if_neg q] at ck;split at ck
   ·cases ck
   ·rw [fO k q];exact hr.du k b ck BM
 ·intro k hk;rcases gB k hk with rfl | ⟨q,q2,h⟩
  ·rw [fI];exact .inl (hr.self k gC)
  ·rw [fO k q];exact hr.self k h
 ·intro k hk x hx;rcases gB k hk with rfl | ⟨q,q2,h⟩
  ·rw [fI] at hx;exact hx.elim (fun h=>hr.own k gC x h) fun h=>hr.own M h.1 x h.2
  ·rw [fO k q] at hx;exact hr.own k h x hx
 ·have cr:∀ k,k≠id→k≠M→H.live k→∀ x,ft id x∨T x→ft k x→False:=fun k q q2 h x hx la=>hx.elim (fun hx=>q (hr.dj k id h gC x la hx)) fun hx=>q2 (hr.dj k M h hx.1 x la hx.2);intro k k' hk FG x hx la;rcases gB k hk with rfl | ⟨q,q2,h⟩<;>rcases gB k' FG with rfl | ⟨p,p2,h'⟩
  ·rfl
  ·rw [fI] at hx;rw [fO k' p] at la;exact (cr k' p p2 h' x hx la).elim
  ·rw [fO k q] at hx;rw [fI] at la;exact (cr k q q2 h x la hx).elim
  ·rw [fO k q] at hx;rw [fO k' p] at la;exact hr.dj k k' h h' x hx la
end Go.Proofs.YtjkbbdldmdajkaaGreatDoor.c5
