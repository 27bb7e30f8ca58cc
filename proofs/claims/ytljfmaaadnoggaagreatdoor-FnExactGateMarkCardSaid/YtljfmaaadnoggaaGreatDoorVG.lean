/- Blocks named anew; the contract of a call, and what a call does to a state. No condition. -/
import Derived.Test.YtljfmaaadnoggaaGreatDoorVF
namespace Go.Proofs.YtljfmaaadnoggaaGreatDoor.cU
open Go Go.RowKit
variable {w w' vP:World} {F F' Am O O' ux:Nat→Prop} {μ bB jV:Nat→Nat} {K K' DQ:Nat→Prop} {H H' H'':Hp} {ft b7:Nat→Nat→Prop} {P:Program}
def below (N:Nat):Nat→Prop:=fun id=>id < N
theorem Bo (N k:Nat):plus (below N) (List.range' N k)=below (N+k):=by
 funext id
 simp only [plus,below,List.mem_range'_1,eq_iff_iff]
 omega
mutual
def AV.du (ρ:Nat→Nat):AV→AV
 | .agg cs=>.agg (Hf ρ cs)
 | .n9 cs=>.n9 (Hf ρ cs)
 | .ms id i n e=>.ms (ρ id) i n e
 | .vs id n e=>.vs (ρ id) n e
 | .bp id o=>.bp (ρ id) o
 | .rp id e i j=>.rp (ρ id) e i j
 | .mp id=>.mp (ρ id)
 | .nX t a=>.nX t (a.du ρ)
 | .fn f xs ys=>.fn f (Hf ρ xs) (Hf ρ ys)
 | .wh c a=>.wh c (a.du ρ)
 | a=>a
def Hf (ρ:Nat→Nat):List AV→List AV
 | []=>[]
 | a::r=>a.du ρ::Hf ρ r
end
theorem IN (ρ:Nat→Nat):∀ l:List AV,Hf ρ l=l.map (AV.du ρ)
 | []=>by simp [Hf]
 | a::r=>by simp [Hf,IN ρ r]
theorem Ap (ρ:Nat→Nat) (l:List AV) (i:Nat) (h:i < l.length):(Hf ρ l).getD i .top=(l.getD i .top).du ρ:=by
 rw [IN];simp [List.getD,h]
theorem gB (ρ:Nat→Nat) (l:List AV):(Hf ρ l).length=l.length:=by rw [IN];simp
theorem VR.du {ρ:Nat→Nat} {a:AV} {v:Value} (h:VR w F μ K a v) (FD:∀ id,K id→K' (ρ id)∧bB (ρ id)=μ id):VR w F bB K' (a.du ρ) v:=by
 induction h generalizing K' with
 | top v=>simp only [AV.du];exact .top v
 | lit v=>simp only [AV.du];exact .lit v
 | int k n=>simp only [AV.du];exact .int k n
 | bool b=>simp only [AV.du];exact .bool b
 | str s=>simp only [AV.du];exact .str s
 | eQ=>simp only [AV.du];exact .eQ
 | agg cs vs h _ ih=>simp only [AV.du];exact .agg _ vs (by rw [gB];exact h) fun i hi=>by rw [gB] at hi;rw [Ap _ _ _ hi];exact ih i hi FD
 | n9 cs vs h _ ih=>simp only [AV.du];exact .n9 _ vs (by rw [gB];exact h) fun i hi=>by rw [gB] at hi;rw [Ap _ _ _ hi];exact ih i hi FD
 | fs aZ n e b o cap u hb hc hu hv ih=>simp only [AV.du];exact .fs aZ n e b o cap u hb hc hu fun i j hi hj=>(hv i j hi hj).up
 | uw aZ e a cap=>simp only [AV.du];exact .uw aZ e a cap
 | fp aZ e off b o u hb hu hv ih=>simp only [AV.du];exact .fp aZ e off b o u hb hu fun j hj=>(hv j hj).up
 | ms id i n aZ cap sz t bY hc rO fw=>
  obtain ⟨h1,h2⟩:=FD id bY
  simp only [AV.du]
  rw [← h2]
  exact .ms (ρ id) i n aZ cap sz t h1 hc (by rw [h2];exact rO) fw
 | vs id n aZ cap sz t hn bY hc rO fw=>
  obtain ⟨h1,h2⟩:=FD id bY
  simp only [AV.du]
  rw [← h2]
  exact .vs (ρ id) n aZ cap sz t hn h1 hc (by rw [h2];exact rO) fw
 | vO id aZ a=>simp only [AV.du];exact .vO _ aZ a
 | bp id off bY=>obtain ⟨h1,h2⟩:=FD id bY;simp only [AV.du];rw [← h2];exact .bp _ off h1
 | rp id aZ i j bY=>obtain ⟨h1,h2⟩:=FD id bY;simp only [AV.du];rw [← h2];exact .rp _ aZ i j h1
 | mp id bY=>obtain ⟨h1,h2⟩:=FD id bY;simp only [AV.du];rw [← h2];exact .mp _ h1
 | nX t a v _ ih=>simp only [AV.du];exact .nX t _ v (ih FD)
 | fn f xs ys vs us h h' _ _ ih ih'=>
  simp only [AV.du]
  exact .fn f _ _ vs us (by rw [gB];exact h) (by rw [gB];exact h') (fun i hi=>by rw [gB] at hi;rw [Ap _ _ _ hi];exact ih i hi FD)
   fun i hi=>by rw [gB] at hi;rw [Ap _ _ _ hi];exact ih' i hi FD
 | wh c a v _ ih=>simp only [AV.du];exact .wh c _ v fun hc=>ih hc FD
def ju.du (ρ:Nat→Nat):ju→ju
 | .box l=>.box (Hf ρ l)
 | .c5 v aZ n e=>.c5 v aZ n fun i j=>(e i j).du ρ
 | b=>b
theorem ju.Nd (ρ:Nat→Nat) (b:ju):(b.du ρ).eI=b.eI:=by
 cases b with
 | row v=>cases v<;>rfl
 | c5 v=>cases v<;>rfl
 | _=>rfl
theorem iW.any {S:Nat→Prop} {a:AV} {v:Value} (h:iW w F μ S a v):iW w F bB S a v:=h.mono (fun _ _=>rfl) (fun _ h=>h) fun _ _=>rfl
theorem iW.du {S:Nat→Prop} {a:AV} {v:Value} (ρ:Nat→Nat) (k:iW w F μ S a v):iW w F bB S (a.du ρ) v:=by
 cases k with
 | Iy S a v hv hS=>exact .Iy _ _ _ (hv.du (ρ:=ρ) (K':=B_) (bB:=bB) fun id h=>h.elim) hS
 | Al S sT e' a hS=>exact .Al _ _ _ _ hS
 | os T sT n' e' b cap cs' t' S Lc hb hc CF q1 q2 hd hn hT=>exact (iW.os _ sT n' e' b cap cs' t' S Lc hb hc CF q1 q2 hd hn hT).any
theorem gO.du {ρ:Nat→Nat} {S:Nat→Prop} {n:Nat} {o:Obj} {b:ju} (h:gO w F μ K S n o b) (FD:∀ id,K id→K' (ρ id)∧bB (ρ id)=μ id):gO w F bB K' S n o (b.du ρ):=by
 cases b with
 | box l=>
  obtain ⟨cs,t,h1,h2,h3,h4⟩:=h
  exact ⟨cs,t,h1,h2,by rw [gB];exact h3,fun j hj=>by rw [gB] at hj;rw [Ap _ _ _ hj];exact (h4 j hj).du FD⟩
 | row v aZ m e=>
  obtain ⟨cs,t,S',h1,h2⟩:=h
  exact ⟨cs,t,S',h1,{ h2 with cell:=fun i j hi hj=>⟨(h2.cell i j hi hj).1.any,(h2.cell i j hi hj).2⟩ }⟩
 | c5 v aZ m e=>
  obtain ⟨cs,t,S',h1,h2⟩:=h
  refine ⟨cs,t,S',h1,{ h2 with cell:=fun i j hi hj=>⟨(h2.cell i j hi hj).1.imp (fun k=>?_) fun k=>⟨k.1.du FD,k.2⟩,(h2.cell i j hi hj).2⟩ }⟩
  exact k.du ρ
 | map l=>
  obtain ⟨es,clock,h1,h2,h3,h4,h5⟩:=h
  exact ⟨es,clock,h1,h2,h3,fun i hi=>⟨(h4 i hi).1,(h4 i hi).2.1.up,(h4 i hi).2.2.up⟩,h5⟩
 | G_ l j0 st=>
  obtain ⟨es,clock,h1,h2,h3,h4,h5,h6⟩:=h
  exact ⟨es,clock,h1,h2,h3,fun i hi=>⟨(h4 i hi).1,(h4 i hi).2.1.up,(h4 i hi).2.2.up⟩,h5,h6⟩
inductive Hg where
 | ret (r:AV)
 | Ke (r:AV)
def Hg.av:Hg→AV
 | .ret r | .Ke r=>r
def Hg.is (e:Hg) (v:Value):Ending:=match e with
 | .ret _=>.returned v
 | .Ke _=>.panicked [{ v,recovered:=false }]
def GC (P:Program) (f:FuncId) (m:Nat) (args:List AV) (H:Hp) (e:Hg) (m':Nat) (H':Hp):Prop:=
 m≤m'∧(∀ (xs:Array Value) (w:World),(callFunc f xs).run P w=.ok (.enter f xs) w)∧
 ∀ (w:World) (F O:Nat→Prop) (μ:Nat→Nat) (ft:Nat→Nat→Prop) (ru:List Value),hP w F μ (below m) args ru→HR w F O μ (below m) H ft→
  Calls P f ⟨ru⟩ w fun en w'=>∃ v F' O' bB b7,en=e.is v∧VR w' F' bB (below m') e.av v∧HR w' F' O' bB (below m') H' b7∧Fr w F O μ (below m) w' F' O' bB
def nB (ids:List Nat) (N:Nat) (j:Nat):Nat:=match ids[j]? with
 | some id=>id
 | none=>N+(j-ids.length)
theorem pA {ids:List Nat} {N j:Nat} (h:j < ids.length):nB ids N j=ids[j]:=by simp [nB,h]
theorem uP {ids:List Nat} {N j:Nat} (h:ids.length≤j):nB ids N j=N+(j-ids.length):=by simp [nB,h]
def VX (ids:List Nat) (N m':Nat) (H':Hp):List (Nat×Option ju):=(List.range m').map fun j=>(nB ids N j,(H' j).map (ju.du (nB ids N)))
def VY (a:AV):Prop:=∀ {w F F' μ K v},VR w F μ K a v→VR w F' μ K a v
def NfB (b:ju):Prop:=∀ {w F F' μ K S n o},gO w F μ K S n o b→(∀ x,S x→x≠n→¬ F' x)→gO w F' μ K S n o b
theorem Kf {ids:List Nat} (h:ids.Nodup) {i j:Nat} (hi:i < ids.length) (hj:j < ids.length) (e:ids[i]=ids[j]):i=j:=by
 exact (List.getElem_inj h).1 e
open Classical in
theorem Zr {s:fy} {ids ld:List Nat} {N:Nat} {Hc H1:Hp} {f:FuncId} {args:List AV} {e:Hg} {m':Nat} {act:Act} {ru:List Value} (hg:GC P f ids.length args Hc e m' H1) (AL:ids.Nodup)
  (hand:∀ j b',Hc j=some b'→∃ id,ids[j]?=some id∧∃ b,s.H id=some b∧(b'.eI=true→b.eI=true)∧∀ {S n o},gO w F μ K S n o b→gO w (fun b=>F b∨∃ id,id∈ld∧s.H.live id∧ft id b) (fun j=>μ (nB ids N j)) (below ids.length) S n o b') (hs:SR w F O μ K s ft act) (hK:∀ id,id∈ids→K id) (DZ:∀ id,id∈List.range' N (m'-ids.length)→¬ K id) (hld:∀ id,id∈ld→id ∉ ids)
  (Ix:hP w (fun b=>F b∨∃ id,id∈ld∧s.H.live id∧ft id b) (fun j=>μ (nB ids N j)) (below ids.length) args ru)
  (hnf:ld=[]∨(VY e.av∧∀ j b,H1 j=some b→NfB b)):
  Calls P f ⟨ru⟩ w fun en w'=>∃ v F' O' bB b7,en=e.is v∧VR w' F' bB (plus K (List.range' N (m'-ids.length))) (e.av.du (nB ids N)) v∧
   HR w' F' O' bB (plus K (List.range' N (m'-ids.length))) (s.H.c7 (VX ids N m' H1)) b7∧Fr w F O μ K w' F' O' bB:=by
 obtain ⟨hmm,-,hg⟩:=hg
 have hr:=hs.hr
 let ρ:=nB ids N
 let F1:Nat→Prop:=fun b=>F b∨∃ id,id∈ld∧s.H.live id∧ft id b
 let H0:Hp:=fun id=>if id∈ids then s.H id else none
 have Lf:Part H0 s.H:=fun id=>by
  simp only [H0]
  split
  ·exact .inr rfl
  ·exact .inl rfl
 have h0:=hr.part Lf
 have inF:∀ b,F b→F1 b:=fun b h=>.inl h
 have adi:∀ x,LG H0 ft x→¬ F1 x:=by
  rintro x ⟨id,hl,hx⟩ (h | ⟨Bn,h1,h2,h3⟩)
  ·exact hr.xW x (hr.own id (Lf.live hl) x hx) h
  ·have:=hr.dj id Bn (Lf.live hl) h2 x hx h3
   subst this
   obtain ⟨b,hb,_⟩:=hl
   simp only [H0,if_neg (hld id h1)] at hb
   cases hb
 have rlt:∀ j,j < ids.length→ρ j∈ids∧K (ρ j):=fun j hj=>by
  have e1:ρ j=ids[j]:=pA hj
  rw [e1]
  exact ⟨List.getElem_mem hj,hK _ (List.getElem_mem hj)⟩
 have hc:HR w F1 (LG H0 ft) (fun j=>μ (ρ j)) (below ids.length) Hc (fun j=>ft (ρ j)):=by
  have lv:∀ j,Hc.live j→j < ids.length∧H0.live (ρ j):=by
   rintro j ⟨b',cd,hl⟩
   obtain ⟨id,h1,b,h2,h3,_⟩:=hand j b' cd
   have hj:j < ids.length:=(List.getElem?_eq_some_iff.1 h1).1
   have e1:ρ j=id:=by
    have:=pA (N:=N) hj
    rw [List.getElem?_eq_getElem hj] at h1
    simp only [Option.some.injEq] at h1
    exact this.trans h1
   refine ⟨hj,b,?_,h3 hl⟩
   simp only [H0,e1,if_pos (e1▸(rlt j hj).1),h2]
  refine { lt:=fun j hj=>hr.lt _ (rlt j hj).2,known:=fun j b hb=>?_,di:=fun j b' cd hl=>?_,self:=fun j hl=>hr.self _ (Lf.live (lv j hl).2),own:=fun j hl x hx=>⟨_,(lv j hl).2,hx⟩,dj:=fun j j' hl Bk x hx j7=>?_,xW:=fun b hb hF=>adi b hb hF,wf:=?_,p0:=h0.p0,pos:=hr.pos.mono (Nat.le_refl _) inF fun _ _=>rfl }
  ·obtain ⟨id,h1,_⟩:=hand j b hb
   exact (List.getElem?_eq_some_iff.1 h1).1
  ·obtain ⟨id,h1,b,h2,h3,h4⟩:=hand j b' cd
   have hj:j < ids.length:=(List.getElem?_eq_some_iff.1 h1).1
   have e1:ρ j=id:=by
    have:=pA (N:=N) hj
    rw [List.getElem?_eq_getElem hj] at h1
    simp only [Option.some.injEq] at h1
    exact this.trans h1
   obtain ⟨o,ho,hB⟩:=hr.di id b h2 (h3 hl)
   refine ⟨o,by show w.heap[μ (ρ j)]?=_;rw [e1];exact ho,?_⟩
   have:=h4 hB
   show gO w F1 (fun j=>μ (ρ j)) (below ids.length) (ft (ρ j)) (μ (ρ j)) o b'
   rw [e1]
   exact this
  ·have h1:=hr.dj _ _ (Lf.live (lv j hl).2) (Lf.live (lv j' Bk).2) x hx j7
   have hj:=(lv j hl).1
   have lu:=(lv j' Bk).1
   have e1:ρ j=ids[j]:=pA hj
   have e2:ρ j'=ids[j']:=pA lu
   exact Kf AL hj lu (by rw [← e1,← e2];exact h1)
  ·rintro b (h | ⟨id,_,h2,h3⟩)
   ·exact hr.wf b h
   ·exact hr.p0 b (hr.own id h2 b h3)
 refine (hg w F1 (LG H0 ft) _ _ ru Ix hc).mono ?_
 rintro en w' ⟨v,Yi,O',Zs,ft0,he,hv,CL,hf⟩
 have agk:∀ j j',j < m'→j' < m'→ρ j=ρ j'→j=j':=by
  intro j j' hj lu h
  by_cases h1:j < ids.length<;>by_cases h2:j' < ids.length
  ·have e1:ρ j=ids[j]:=pA h1
   have e2:ρ j'=ids[j']:=pA h2
   exact Kf AL h1 h2 (by rw [← e1,← e2];exact h)
  ·have e2:ρ j'=N+(j'-ids.length):=uP (by omega)
   exact absurd ((rlt j h1).2) (h▸e2▸DZ _ (by simp only [List.mem_range'_1];omega))
  ·have e1:ρ j=N+(j-ids.length):=uP (by omega)
   exact absurd ((rlt j' h2).2) (h▸e1▸DZ _ (by simp only [List.mem_range'_1];omega))
  ·have e1:ρ j=N+(j-ids.length):=uP (by omega)
   have e2:ρ j'=N+(j'-ids.length):=uP (by omega)
   omega
 let K2:=plus K (List.range' N (m'-ids.length))
 have aeq:∀ j,j < m'→K2 (ρ j):=by
  intro j hj
  by_cases h1:j < ids.length
  ·exact .inl (rlt j h1).2
  ·have e1:ρ j=N+(j-ids.length):=uP (by omega)
   refine .inr ?_
   rw [e1]
   simp only [List.mem_range'_1];omega
 let FE:Nat→Nat:=fun id=>if K id then μ id else Zs (id-N+ids.length)
 have mu2:∀ j,j < m'→FE (ρ j)=Zs j:=by
  intro j hj
  by_cases h1:j < ids.length
  ·simp only [FE,if_pos (rlt j h1).2]
   exact (hf.mu j h1).symm
  ·have e1:ρ j=N+(j-ids.length):=uP (by omega)
   have:¬ K (ρ j):=e1▸DZ _ (by simp only [List.mem_range'_1];omega)
   have h3:ρ j-N+ids.length=j:=by rw [e1];omega
   simp only [FE,if_neg this,h3]
 have FD:∀ j,below m' j→K2 (ρ j)∧FE (ρ j)=Zs j:=fun j hj=>⟨aeq j hj,mu2 j hj⟩
 have c7:∀ id,(∃ j,j < m'∧ρ j=id∧H0.c7 (VX ids N m' H1) id=(H1 j).map (ju.du ρ)∧∀ Hx:Hp,Hx.c7 (VX ids N m' H1) id=H0.c7 (VX ids N m' H1) id)∨((∀ j,j < m'→ρ j≠id)∧∀ Hx:Hp,Hx.c7 (VX ids N m' H1) id=Hx id):=by
  have key:∀ (l:List Nat),(∀ j,j∈l→j < m')→∀ id,(∃ j,j∈l∧ρ j=id∧∀ Hx:Hp,Hx.c7 (l.map fun j=>(ρ j,(H1 j).map (ju.du ρ))) id=(H1 j).map (ju.du ρ))∨((∀ j,j∈l→ρ j≠id)∧∀ Hx:Hp,Hx.c7 (l.map fun j=>(ρ j,(H1 j).map (ju.du ρ))) id=Hx id):=by
   intro l
   induction l with
   | nil=>exact fun _ id=>.inr ⟨fun j hj=>(by cases hj),fun _=>rfl⟩
   | cons x l ih=>
    intro hl id
    by_cases e:id=ρ x
    ·exact .inl ⟨x,by simp,e.symm,fun Hx=>by simp only [List.map_cons,Hp.c7,if_pos e]⟩
    ·rcases ih (fun j hj=>hl j (by simp [hj])) id with ⟨j,h1,h2,h3⟩ | ⟨h1,h2⟩
     ·exact .inl ⟨j,by simp [h1],h2,fun Hx=>by simp only [List.map_cons,Hp.c7,if_neg e];exact h3 Hx⟩
     ·refine .inr ⟨fun j hj=>?_,fun Hx=>by simp only [List.map_cons,Hp.c7,if_neg e];exact h2 Hx⟩
      rcases List.mem_cons.1 hj with h | h
      ·rw [h];exact fun h=>e h.symm
      ·exact h1 j h
  intro id
  rcases key (List.range m') (fun j hj=>by simpa using hj) id with ⟨j,h1,h2,h3⟩ | ⟨h1,h2⟩
  ·exact .inl ⟨j,by simpa using h1,h2,h3 H0,fun Hx=>(h3 Hx).trans (h3 H0).symm⟩
  ·exact .inr ⟨fun j hj=>h1 j (by simpa using hj),h2⟩
 have aaX:∀ id b,H0.c7 (VX ids N m' H1) id=some b→∃ j b0,j < m'∧ρ j=id∧H1 j=some b0∧b=b0.du ρ:=by
  intro id b hb
  rcases c7 id with ⟨j,h1,h2,h3,_⟩ | ⟨h1,h2⟩
  ·rw [h3] at hb
   cases hj:H1 j with
   | none=>rw [hj] at hb;cases hb
   | some b0=>rw [hj] at hb;exact ⟨j,b0,h1,h2,hj,by simpa using hb.symm⟩
  ·rw [h2] at hb
   simp only [H0] at hb
   split at hb
   ·rename_i hm
    obtain ⟨j,hj,e1⟩:=List.getElem_of_mem hm
    exact absurd ((pA (N:=N) hj).trans e1) (h1 j (by omega))
   ·cases hb
 have aaY:∀ id,Hp.live (H0.c7 (VX ids N m' H1)) id→∃ j,j < m'∧ρ j=id∧H1.live j:=by
  rintro id ⟨b,hb,hl⟩
  obtain ⟨j,b0,h1,h2,h3,rfl⟩:=aaX id b hb
  exact ⟨j,h1,h2,b0,h3,by rw [ju.Nd] at hl;exact hl⟩
 let Lg:Nat→Nat→Prop:=fun id x=>∃ j,j < m'∧ρ j=id∧ft0 j x
 have Xt:∀ j,j < m'→Lg (ρ j)=ft0 j:=fun j hj=>by
  funext x
  simp only [Lg,eq_iff_iff]
  exact ⟨fun ⟨j',h1,h2,h3⟩=>agk j' j h1 hj h2▸h3,fun h=>⟨j,hj,rfl,h⟩⟩
 have Zq:HR w' Yi O' FE K2 (H0.c7 (VX ids N m' H1)) Lg:=by
  refine { lt:=?_,known:=?_,di:=?_,self:=?_,own:=?_,dj:=?_,xW:=CL.xW,wf:=CL.wf,p0:=CL.p0,pos:=CL.pos }
  ·rintro id (h | h)
   ·simp only [FE,if_pos h];exact Nat.lt_of_lt_of_le (hr.lt id h) hf.size
   ·simp only [FE,if_neg (DZ id h)]
    have h5:N≤id∧id < N+(m'-ids.length):=by simpa only [List.mem_range'_1] using h
    exact CL.lt _ (show id-N+ids.length < m' by omega)
  ·intro id b hb
   obtain ⟨j,b0,h1,rfl,_⟩:=aaX id b hb
   exact aeq j h1
  ·intro id b hb hl
   obtain ⟨j,b0,h1,rfl,h3,rfl⟩:=aaX id b hb
   rw [ju.Nd] at hl
   obtain ⟨o,ho,hB⟩:=CL.di j b0 h3 hl
   rw [mu2 j h1,Xt j h1]
   exact ⟨o,ho,hB.du FD⟩
  ·intro id hl
   obtain ⟨j,h1,rfl,h2⟩:=aaY id hl
   rw [mu2 j h1,Xt j h1]
   exact CL.self j h2
  ·intro id hl x hx
   obtain ⟨j,h1,rfl,h2⟩:=aaY id hl
   rw [Xt j h1] at hx
   exact CL.own j h2 x hx
  ·intro id b9 hl Bk x hx j7
   obtain ⟨j,h1,rfl,h2⟩:=aaY id hl
   obtain ⟨j',k1,rfl,k2⟩:=aaY b9 Bk
   rw [Xt j h1] at hx
   rw [Xt j' k1] at j7
   rw [CL.dj j j' h2 k2 x hx j7]
 have hf2:Fr w F1 (LG H0 ft) μ K w' Yi O' FE:={ hf with mu:=fun id bY=>by simp only [FE,if_pos bY] }
 rcases hnf with rfl | ⟨Jm,T8⟩
 ·have eF:∀ b,F1 b→F b:=by
   rintro b (h | ⟨_,h,_⟩)
   ·exact h
   ·cases h
  obtain ⟨O2,ft3,k1,k2⟩:=UB (F1:=F1) (Yi:=Yi) (F2:=Yi) hr Lf (fun id h=>.inl h) Zq hf2 inF (fun b hb=>hf.zr b (inF b hb)) (fun _ h=>h)
   (fun b hb=>(hf.Ha b hb).imp (eF b) id) Zq.di
  exact ⟨v,Yi,O2,FE,ft3,he,hv.du FD,k1,k2⟩
 ·obtain ⟨O2,ft3,k1,k2⟩:=UB (F1:=F1) (Yi:=Yi) (F2:=F) hr Lf (fun id h=>.inl h) Zq hf2 inF (fun _ h=>h) (fun b hb=>hf.zr b (inF b hb))
   (fun b hb=>.inl hb) (fun id b hb hl=>by
    obtain ⟨j,b0,h1,rfl,h3,rfl⟩:=aaX id b hb
    have hl0:b0.eI=true:=by rw [ju.Nd] at hl;exact hl
    obtain ⟨o,ho,hB⟩:=CL.di j b0 h3 hl0
    refine ⟨o,by rw [mu2 j h1];exact ho,?_⟩
    rw [mu2 j h1,Xt j h1]
    exact (T8 j b0 h3 hB fun x hx _ hF=>CL.xW x (CL.own j ⟨b0,h3,hl0⟩ x hx) (hf.zr x (inF x hF))).du FD)
  exact ⟨v,F,O2,FE,ft3,he,(Jm hv).du FD,k1,k2⟩
end Go.Proofs.YtljfmaaadnoggaaGreatDoor.cU
