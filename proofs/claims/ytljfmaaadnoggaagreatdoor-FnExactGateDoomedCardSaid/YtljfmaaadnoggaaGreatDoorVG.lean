/- Blocks named anew; the contract of a call, and what a call does to a state. No condition. -/
import Derived.Test.YtljfmaaadnoggaaGreatDoorVF
namespace Go.Proofs.YtljfmaaadnoggaaGreatDoor.cX
open Go Go.RowKit
variable {w w' xW:World} {F F' Cq O O' wx:Nat→Prop} {μ bC kZ:Nat→Nat} {K K' Gg:Nat→Prop} {H H' H'':Hp} {ft b8:Nat→Nat→Prop} {P:Program}
def below (N:Nat):Nat→Prop:=fun id=>id < N
theorem Dw (N k:Nat):plus (below N) (List.range' N k)=below (N+k):=by
 funext id
 simp only [plus,below,List.mem_range'_1,eq_iff_iff]
 omega
mutual
def AV.dD (ρ:Nat→Nat):AV→AV
 | .agg cs=>.agg (JF ρ cs)
 | .ph cs=>.ph (JF ρ cs)
 | .ms id i n e=>.ms (ρ id) i n e
 | .vs id n e=>.vs (ρ id) n e
 | .bp id o=>.bp (ρ id) o
 | .rp id e i j=>.rp (ρ id) e i j
 | .mp id=>.mp (ρ id)
 | .pe t a=>.pe t (a.dD ρ)
 | .fn f xs ys=>.fn f (JF ρ xs) (JF ρ ys)
 | .wh c a=>.wh c (a.dD ρ)
 | a=>a
def JF (ρ:Nat→Nat):List AV→List AV
 | []=>[]
 | a::r=>a.dD ρ::JF ρ r
end
theorem K9 (ρ:Nat→Nat):∀ l:List AV,JF ρ l=l.map (AV.dD ρ)
 | []=>by simp [JF]
 | a::r=>by simp [JF,K9 ρ r]
theorem Ct (ρ:Nat→Nat) (l:List AV) (i:Nat) (h:i < l.length):(JF ρ l).getD i .top=(l.getD i .top).dD ρ:=by
 rw [K9];simp [List.getD,h]
theorem g8 (ρ:Nat→Nat) (l:List AV):(JF ρ l).length=l.length:=by rw [K9];simp
theorem VR.dD {ρ:Nat→Nat} {a:AV} {v:Value} (h:VR w F μ K a v) (Ib:∀ id,K id→K' (ρ id)∧bC (ρ id)=μ id):VR w F bC K' (a.dD ρ) v:=by
 induction h generalizing K' with
 | top v=>simp only [AV.dD];exact .top v
 | lit v=>simp only [AV.dD];exact .lit v
 | int k n=>simp only [AV.dD];exact .int k n
 | bool b=>simp only [AV.dD];exact .bool b
 | str s=>simp only [AV.dD];exact .str s
 | ff=>simp only [AV.dD];exact .ff
 | agg cs vs h _ ih=>simp only [AV.dD];exact .agg _ vs (by rw [g8];exact h) fun i hi=>by rw [g8] at hi;rw [Ct _ _ _ hi];exact ih i hi Ib
 | ph cs vs h _ ih=>simp only [AV.dD];exact .ph _ vs (by rw [g8];exact h) fun i hi=>by rw [g8] at hi;rw [Ct _ _ _ hi];exact ih i hi Ib
 | fs bB n e b o cap u hb hc hu hv ih=>simp only [AV.dD];exact .fs bB n e b o cap u hb hc hu fun i j hi hj=>(hv i j hi hj).up
 | wv bB e a cap=>simp only [AV.dD];exact .wv bB e a cap
 | fp bB e off b o u hb hu hv ih=>simp only [AV.dD];exact .fp bB e off b o u hb hu fun j hj=>(hv j hj).up
 | ms id i n bB cap sz t cb hc tA fL=>
  obtain ⟨h1,h2⟩:=Ib id cb
  simp only [AV.dD]
  rw [← h2]
  exact .ms (ρ id) i n bB cap sz t h1 hc (by rw [h2];exact tA) fL
 | vs id n bB cap sz t hn cb hc tA fL=>
  obtain ⟨h1,h2⟩:=Ib id cb
  simp only [AV.dD]
  rw [← h2]
  exact .vs (ρ id) n bB cap sz t hn h1 hc (by rw [h2];exact tA) fL
 | xV id bB a=>simp only [AV.dD];exact .xV _ bB a
 | bp id off cb=>obtain ⟨h1,h2⟩:=Ib id cb;simp only [AV.dD];rw [← h2];exact .bp _ off h1
 | rp id bB i j cb=>obtain ⟨h1,h2⟩:=Ib id cb;simp only [AV.dD];rw [← h2];exact .rp _ bB i j h1
 | mp id cb=>obtain ⟨h1,h2⟩:=Ib id cb;simp only [AV.dD];rw [← h2];exact .mp _ h1
 | pe t a v _ ih=>simp only [AV.dD];exact .pe t _ v (ih Ib)
 | fn f xs ys vs us h h' _ _ ih ih'=>
  simp only [AV.dD]
  exact .fn f _ _ vs us (by rw [g8];exact h) (by rw [g8];exact h') (fun i hi=>by rw [g8] at hi;rw [Ct _ _ _ hi];exact ih i hi Ib)
   fun i hi=>by rw [g8] at hi;rw [Ct _ _ _ hi];exact ih' i hi Ib
 | wh c a v _ ih=>simp only [AV.dD];exact .wh c _ v fun hc=>ih hc Ib
def kq.dD (ρ:Nat→Nat):kq→kq
 | .box l=>.box (JF ρ l)
 | .da v bB n e=>.da v bB n fun i j=>(e i j).dD ρ
 | b=>b
theorem kq.PR (ρ:Nat→Nat) (b:kq):(b.dD ρ).fa=b.fa:=by
 cases b with
 | row v=>cases v<;>rfl
 | da v=>cases v<;>rfl
 | _=>rfl
theorem jO.any {S:Nat→Prop} {a:AV} {v:Value} (h:jO w F μ S a v):jO w F bC S a v:=h.mono (fun _ _=>rfl) (fun _ h=>h) fun _ _=>rfl
theorem jO.dD {S:Nat→Prop} {a:AV} {v:Value} (ρ:Nat→Nat) (k:jO w F μ S a v):jO w F bC S (a.dD ρ) v:=by
 cases k with
 | KR S a v hv hS=>exact .KR _ _ _ (hv.dD (ρ:=ρ) (K':=Ei) (bC:=bC) fun id h=>h.elim) hS
 | Cp S uR e' a hS=>exact .Cp _ _ _ _ hS
 | os T uR n' e' b cap cs' t' S Nw hb hc ER q1 q2 hd hn hT=>exact (jO.os _ uR n' e' b cap cs' t' S Nw hb hc ER q1 q2 hd hn hT).any
theorem h_.dD {ρ:Nat→Nat} {S:Nat→Prop} {n:Nat} {o:Obj} {b:kq} (h:h_ w F μ K S n o b) (Ib:∀ id,K id→K' (ρ id)∧bC (ρ id)=μ id):h_ w F bC K' S n o (b.dD ρ):=by
 cases b with
 | box l=>
  obtain ⟨cs,t,h1,h2,h3,h4⟩:=h
  exact ⟨cs,t,h1,h2,by rw [g8];exact h3,fun j hj=>by rw [g8] at hj;rw [Ct _ _ _ hj];exact (h4 j hj).dD Ib⟩
 | row v bB m e=>
  obtain ⟨cs,t,S',h1,h2⟩:=h
  exact ⟨cs,t,S',h1,{ h2 with cell:=fun i j hi hj=>⟨(h2.cell i j hi hj).1.any,(h2.cell i j hi hj).2⟩ }⟩
 | da v bB m e=>
  obtain ⟨cs,t,S',h1,h2⟩:=h
  refine ⟨cs,t,S',h1,{ h2 with cell:=fun i j hi hj=>⟨(h2.cell i j hi hj).1.imp (fun k=>?_) fun k=>⟨k.1.dD Ib,k.2⟩,(h2.cell i j hi hj).2⟩ }⟩
  exact k.dD ρ
 | map l=>
  obtain ⟨es,clock,h1,h2,h3,h4,h5⟩:=h
  exact ⟨es,clock,h1,h2,h3,fun i hi=>⟨(h4 i hi).1,(h4 i hi).2.1.up,(h4 i hi).2.2.up⟩,h5⟩
 | JA l j0 st=>
  obtain ⟨es,clock,h1,h2,h3,h4,h5,h6⟩:=h
  exact ⟨es,clock,h1,h2,h3,fun i hi=>⟨(h4 i hi).1,(h4 i hi).2.1.up,(h4 i hi).2.2.up⟩,h5,h6⟩
inductive JG where
 | ret (r:AV)
 | MA (r:AV)
def JG.av:JG→AV
 | .ret r | .MA r=>r
def JG.is (e:JG) (v:Value):Ending:=match e with
 | .ret _=>.returned v
 | .MA _=>.panicked [{ v,recovered:=false }]
def GC (P:Program) (f:FuncId) (m:Nat) (args:List AV) (H:Hp) (e:JG) (m':Nat) (H':Hp):Prop:=
 m≤m'∧(∀ (xs:Array Value) (w:World),(callFunc f xs).run P w=.ok (.enter f xs) w)∧
 ∀ (w:World) (F O:Nat→Prop) (μ:Nat→Nat) (ft:Nat→Nat→Prop) (td:List Value),iR w F μ (below m) args td→HR w F O μ (below m) H ft→
  Calls P f ⟨td⟩ w fun en w'=>∃ v F' O' bC b8,en=e.is v∧VR w' F' bC (below m') e.av v∧HR w' F' O' bC (below m') H' b8∧Fr w F O μ (below m) w' F' O' bC
def oS (ids:List Nat) (N:Nat) (j:Nat):Nat:=match ids[j]? with
 | some id=>id
 | none=>N+(j-ids.length)
theorem qV {ids:List Nat} {N j:Nat} (h:j < ids.length):oS ids N j=ids[j]:=by simp [oS,h]
theorem wQ {ids:List Nat} {N j:Nat} (h:ids.length≤j):oS ids N j=N+(j-ids.length):=by simp [oS,h]
def Y8 (ids:List Nat) (N m':Nat) (H':Hp):List (Nat×Option kq):=(List.range m').map fun j=>(oS ids N j,(H' j).map (kq.dD (oS ids N)))
def Y9 (a:AV):Prop:=∀ {w F F' μ K v},VR w F μ K a v→VR w F' μ K a v
def NfB (b:kq):Prop:=∀ {w F F' μ K S n o},h_ w F μ K S n o b→(∀ x,S x→x≠n→¬ F' x)→h_ w F' μ K S n o b
theorem MB {ids:List Nat} (h:ids.Nodup) {i j:Nat} (hi:i < ids.length) (hj:j < ids.length) (e:ids[i]=ids[j]):i=j:=by
 exact (List.getElem_inj h).1 e
open Classical in
theorem ack {s:fU} {ids ld:List Nat} {N:Nat} {Hc H1:Hp} {f:FuncId} {args:List AV} {e:JG} {m':Nat} {act:Act} {td:List Value} (hg:GC P f ids.length args Hc e m' H1) (Ck:ids.Nodup)
  (hand:∀ j b',Hc j=some b'→∃ id,ids[j]?=some id∧∃ b,s.H id=some b∧(b'.fa=true→b.fa=true)∧∀ {S n o},h_ w F μ K S n o b→h_ w (fun b=>F b∨∃ id,id∈ld∧s.H.live id∧ft id b) (fun j=>μ (oS ids N j)) (below ids.length) S n o b') (hs:SR w F O μ K s ft act) (hK:∀ id,id∈ids→K id) (Gr:∀ id,id∈List.range' N (m'-ids.length)→¬ K id) (hld:∀ id,id∈ld→id ∉ ids)
  (Gd:iR w (fun b=>F b∨∃ id,id∈ld∧s.H.live id∧ft id b) (fun j=>μ (oS ids N j)) (below ids.length) args td)
  (hnf:ld=[]∨(Y9 e.av∧∀ j b,H1 j=some b→NfB b)):
  Calls P f ⟨td⟩ w fun en w'=>∃ v F' O' bC b8,en=e.is v∧VR w' F' bC (plus K (List.range' N (m'-ids.length))) (e.av.dD (oS ids N)) v∧
   HR w' F' O' bC (plus K (List.range' N (m'-ids.length))) (s.H.c_ (Y8 ids N m' H1)) b8∧Fr w F O μ K w' F' O' bC:=by
 obtain ⟨hmm,-,hg⟩:=hg
 have hr:=hs.hr
 let ρ:=oS ids N
 let F1:Nat→Prop:=fun b=>F b∨∃ id,id∈ld∧s.H.live id∧ft id b
 let H0:Hp:=fun id=>if id∈ids then s.H id else none
 have Ny:Part H0 s.H:=fun id=>by
  simp only [H0]
  split
  ·exact .inr rfl
  ·exact .inl rfl
 have h0:=hr.part Ny
 have inF:∀ b,F b→F1 b:=fun b h=>.inl h
 have agt:∀ x,NY H0 ft x→¬ F1 x:=by
  rintro x ⟨id,hl,hx⟩ (h | ⟨Dv,h1,h2,h3⟩)
  ·exact hr.z8 x (hr.own id (Ny.live hl) x hx) h
  ·have:=hr.dj id Dv (Ny.live hl) h2 x hx h3
   subst this
   obtain ⟨b,hb,_⟩:=hl
   simp only [H0,if_neg (hld id h1)] at hb
   cases hb
 have rlt:∀ j,j < ids.length→ρ j∈ids∧K (ρ j):=fun j hj=>by
  have e1:ρ j=ids[j]:=qV hj
  rw [e1]
  exact ⟨List.getElem_mem hj,hK _ (List.getElem_mem hj)⟩
 have hc:HR w F1 (NY H0 ft) (fun j=>μ (ρ j)) (below ids.length) Hc (fun j=>ft (ρ j)):=by
  have lv:∀ j,Hc.live j→j < ids.length∧H0.live (ρ j):=by
   rintro j ⟨b',cu,hl⟩
   obtain ⟨id,h1,b,h2,h3,_⟩:=hand j b' cu
   have hj:j < ids.length:=(List.getElem?_eq_some_iff.1 h1).1
   have e1:ρ j=id:=by
    have:=qV (N:=N) hj
    rw [List.getElem?_eq_getElem hj] at h1
    simp only [Option.some.injEq] at h1
    exact this.trans h1
   refine ⟨hj,b,?_,h3 hl⟩
   simp only [H0,e1,if_pos (e1▸(rlt j hj).1),h2]
  refine { lt:=fun j hj=>hr.lt _ (rlt j hj).2,known:=fun j b hb=>?_,dw:=fun j b' cu hl=>?_,self:=fun j hl=>hr.self _ (Ny.live (lv j hl).2),own:=fun j hl x hx=>⟨_,(lv j hl).2,hx⟩,dj:=fun j j' hl Ds x hx ll=>?_,z8:=fun b hb hF=>agt b hb hF,wf:=?_,rH:=h0.rH,pos:=hr.pos.mono (Nat.le_refl _) inF fun _ _=>rfl }
  ·obtain ⟨id,h1,_⟩:=hand j b hb
   exact (List.getElem?_eq_some_iff.1 h1).1
  ·obtain ⟨id,h1,b,h2,h3,h4⟩:=hand j b' cu
   have hj:j < ids.length:=(List.getElem?_eq_some_iff.1 h1).1
   have e1:ρ j=id:=by
    have:=qV (N:=N) hj
    rw [List.getElem?_eq_getElem hj] at h1
    simp only [Option.some.injEq] at h1
    exact this.trans h1
   obtain ⟨o,ho,hB⟩:=hr.dw id b h2 (h3 hl)
   refine ⟨o,by show w.heap[μ (ρ j)]?=_;rw [e1];exact ho,?_⟩
   have:=h4 hB
   show h_ w F1 (fun j=>μ (ρ j)) (below ids.length) (ft (ρ j)) (μ (ρ j)) o b'
   rw [e1]
   exact this
  ·have h1:=hr.dj _ _ (Ny.live (lv j hl).2) (Ny.live (lv j' Ds).2) x hx ll
   have hj:=(lv j hl).1
   have ko:=(lv j' Ds).1
   have e1:ρ j=ids[j]:=qV hj
   have e2:ρ j'=ids[j']:=qV ko
   exact MB Ck hj ko (by rw [← e1,← e2];exact h1)
  ·rintro b (h | ⟨id,_,h2,h3⟩)
   ·exact hr.wf b h
   ·exact hr.rH b (hr.own id h2 b h3)
 refine (hg w F1 (NY H0 ft) _ _ td Gd hc).mono ?_
 rintro en w' ⟨v,F1',O',μ0,ft0,he,hv,EZ,hf⟩
 have ajh:∀ j j',j < m'→j' < m'→ρ j=ρ j'→j=j':=by
  intro j j' hj ko h
  by_cases h1:j < ids.length<;>by_cases h2:j' < ids.length
  ·have e1:ρ j=ids[j]:=qV h1
   have e2:ρ j'=ids[j']:=qV h2
   exact MB Ck h1 h2 (by rw [← e1,← e2];exact h)
  ·have e2:ρ j'=N+(j'-ids.length):=wQ (by omega)
   exact absurd ((rlt j h1).2) (h▸e2▸Gr _ (by simp only [List.mem_range'_1];omega))
  ·have e1:ρ j=N+(j-ids.length):=wQ (by omega)
   exact absurd ((rlt j' h2).2) (h▸e1▸Gr _ (by simp only [List.mem_range'_1];omega))
  ·have e1:ρ j=N+(j-ids.length):=wQ (by omega)
   have e2:ρ j'=N+(j'-ids.length):=wQ (by omega)
   omega
 let K2:=plus K (List.range' N (m'-ids.length))
 have ahK:∀ j,j < m'→K2 (ρ j):=by
  intro j hj
  by_cases h1:j < ids.length
  ·exact .inl (rlt j h1).2
  ·have e1:ρ j=N+(j-ids.length):=wQ (by omega)
   refine .inr ?_
   rw [e1]
   simp only [List.mem_range'_1];omega
 let Ic:Nat→Nat:=fun id=>if K id then μ id else μ0 (id-N+ids.length)
 have mu2:∀ j,j < m'→Ic (ρ j)=μ0 j:=by
  intro j hj
  by_cases h1:j < ids.length
  ·simp only [Ic,if_pos (rlt j h1).2]
   exact (hf.mu j h1).symm
  ·have e1:ρ j=N+(j-ids.length):=wQ (by omega)
   have:¬ K (ρ j):=e1▸Gr _ (by simp only [List.mem_range'_1];omega)
   have h3:ρ j-N+ids.length=j:=by rw [e1];omega
   simp only [Ic,if_neg this,h3]
 have Ib:∀ j,below m' j→K2 (ρ j)∧Ic (ρ j)=μ0 j:=fun j hj=>⟨ahK j hj,mu2 j hj⟩
 have c_:∀ id,(∃ j,j < m'∧ρ j=id∧H0.c_ (Y8 ids N m' H1) id=(H1 j).map (kq.dD ρ)∧∀ Hx:Hp,Hx.c_ (Y8 ids N m' H1) id=H0.c_ (Y8 ids N m' H1) id)∨((∀ j,j < m'→ρ j≠id)∧∀ Hx:Hp,Hx.c_ (Y8 ids N m' H1) id=Hx id):=by
  have key:∀ (l:List Nat),(∀ j,j∈l→j < m')→∀ id,(∃ j,j∈l∧ρ j=id∧∀ Hx:Hp,Hx.c_ (l.map fun j=>(ρ j,(H1 j).map (kq.dD ρ))) id=(H1 j).map (kq.dD ρ))∨((∀ j,j∈l→ρ j≠id)∧∀ Hx:Hp,Hx.c_ (l.map fun j=>(ρ j,(H1 j).map (kq.dD ρ))) id=Hx id):=by
   intro l
   induction l with
   | nil=>exact fun _ id=>.inr ⟨fun j hj=>(by cases hj),fun _=>rfl⟩
   | cons x l ih=>
    intro hl id
    by_cases e:id=ρ x
    ·exact .inl ⟨x,by simp,e.symm,fun Hx=>by simp only [List.map_cons,Hp.c_,if_pos e]⟩
    ·rcases ih (fun j hj=>hl j (by simp [hj])) id with ⟨j,h1,h2,h3⟩ | ⟨h1,h2⟩
     ·exact .inl ⟨j,by simp [h1],h2,fun Hx=>by simp only [List.map_cons,Hp.c_,if_neg e];exact h3 Hx⟩
     ·refine .inr ⟨fun j hj=>?_,fun Hx=>by simp only [List.map_cons,Hp.c_,if_neg e];exact h2 Hx⟩
      rcases List.mem_cons.1 hj with h | h
      ·rw [h];exact fun h=>e h.symm
      ·exact h1 j h
  intro id
  rcases key (List.range m') (fun j hj=>by simpa using hj) id with ⟨j,h1,h2,h3⟩ | ⟨h1,h2⟩
  ·exact .inl ⟨j,by simpa using h1,h2,h3 H0,fun Hx=>(h3 Hx).trans (h3 H0).symm⟩
  ·exact .inr ⟨fun j hj=>h1 j (by simpa using hj),h2⟩
 have adP:∀ id b,H0.c_ (Y8 ids N m' H1) id=some b→∃ j b0,j < m'∧ρ j=id∧H1 j=some b0∧b=b0.dD ρ:=by
  intro id b hb
  rcases c_ id with ⟨j,h1,h2,h3,_⟩ | ⟨h1,h2⟩
  ·rw [h3] at hb
   cases hj:H1 j with
   | none=>rw [hj] at hb;cases hb
   | some b0=>rw [hj] at hb;exact ⟨j,b0,h1,h2,hj,by simpa using hb.symm⟩
  ·rw [h2] at hb
   simp only [H0] at hb
   split at hb
   ·rename_i hm
    obtain ⟨j,hj,e1⟩:=List.getElem_of_mem hm
    exact absurd ((qV (N:=N) hj).trans e1) (h1 j (by omega))
   ·cases hb
 have adQ:∀ id,Hp.live (H0.c_ (Y8 ids N m' H1)) id→∃ j,j < m'∧ρ j=id∧H1.live j:=by
  rintro id ⟨b,hb,hl⟩
  obtain ⟨j,b0,h1,h2,h3,rfl⟩:=adP id b hb
  exact ⟨j,h1,h2,b0,h3,by rw [kq.PR] at hl;exact hl⟩
 let Nz:Nat→Nat→Prop:=fun id x=>∃ j,j < m'∧ρ j=id∧ft0 j x
 have aaF:∀ j,j < m'→Nz (ρ j)=ft0 j:=fun j hj=>by
  funext x
  simp only [Nz,eq_iff_iff]
  exact ⟨fun ⟨j',h1,h2,h3⟩=>ajh j' j h1 hj h2▸h3,fun h=>⟨j,hj,rfl,h⟩⟩
 have hr2:HR w' F1' O' Ic K2 (H0.c_ (Y8 ids N m' H1)) Nz:=by
  refine { lt:=?_,known:=?_,dw:=?_,self:=?_,own:=?_,dj:=?_,z8:=EZ.z8,wf:=EZ.wf,rH:=EZ.rH,pos:=EZ.pos }
  ·rintro id (h | h)
   ·simp only [Ic,if_pos h];exact Nat.lt_of_lt_of_le (hr.lt id h) hf.size
   ·simp only [Ic,if_neg (Gr id h)]
    have h5:N≤id∧id < N+(m'-ids.length):=by simpa only [List.mem_range'_1] using h
    exact EZ.lt _ (show id-N+ids.length < m' by omega)
  ·intro id b hb
   obtain ⟨j,b0,h1,rfl,_⟩:=adP id b hb
   exact ahK j h1
  ·intro id b hb hl
   obtain ⟨j,b0,h1,rfl,h3,rfl⟩:=adP id b hb
   rw [kq.PR] at hl
   obtain ⟨o,ho,hB⟩:=EZ.dw j b0 h3 hl
   rw [mu2 j h1,aaF j h1]
   exact ⟨o,ho,hB.dD Ib⟩
  ·intro id hl
   obtain ⟨j,h1,rfl,h2⟩:=adQ id hl
   rw [mu2 j h1,aaF j h1]
   exact EZ.self j h2
  ·intro id hl x hx
   obtain ⟨j,h1,rfl,h2⟩:=adQ id hl
   rw [aaF j h1] at hx
   exact EZ.own j h2 x hx
  ·intro id cg hl Ds x hx ll
   obtain ⟨j,h1,rfl,h2⟩:=adQ id hl
   obtain ⟨j',k1,rfl,k2⟩:=adQ cg Ds
   rw [aaF j h1] at hx
   rw [aaF j' k1] at ll
   rw [EZ.dj j j' h2 k2 x hx ll]
 have hf2:Fr w F1 (NY H0 ft) μ K w' F1' O' Ic:={ hf with mu:=fun id cb=>by simp only [Ic,if_pos cb] }
 rcases hnf with rfl | ⟨LG,EX⟩
 ·have eF:∀ b,F1 b→F b:=by
   rintro b (h | ⟨_,h,_⟩)
   ·exact h
   ·cases h
  obtain ⟨O2,ft3,k1,k2⟩:=XB (F1:=F1) (F1':=F1') (F2:=F1') hr Ny (fun id h=>.inl h) hr2 hf2 inF (fun b hb=>hf.Bw b (inF b hb)) (fun _ h=>h)
   (fun b hb=>(hf.JB b hb).imp (eF b) id) hr2.dw
  exact ⟨v,F1',O2,Ic,ft3,he,hv.dD Ib,k1,k2⟩
 ·obtain ⟨O2,ft3,k1,k2⟩:=XB (F1:=F1) (F1':=F1') (F2:=F) hr Ny (fun id h=>.inl h) hr2 hf2 inF (fun _ h=>h) (fun b hb=>hf.Bw b (inF b hb))
   (fun b hb=>.inl hb) (fun id b hb hl=>by
    obtain ⟨j,b0,h1,rfl,h3,rfl⟩:=adP id b hb
    have hl0:b0.fa=true:=by rw [kq.PR] at hl;exact hl
    obtain ⟨o,ho,hB⟩:=EZ.dw j b0 h3 hl0
    refine ⟨o,by rw [mu2 j h1];exact ho,?_⟩
    rw [mu2 j h1,aaF j h1]
    exact (EX j b0 h3 hB fun x hx _ hF=>EZ.z8 x (EZ.own j ⟨b0,h3,hl0⟩ x hx) (hf.Bw x (inF x hF))).dD Ib)
  exact ⟨v,F,O2,Ic,ft3,he,(LG hv).dD Ib,k1,k2⟩
end Go.Proofs.YtljfmaaadnoggaaGreatDoor.cX
