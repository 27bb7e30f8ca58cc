/- Blocks named anew; the contract of a call, and what a call does to a state. No condition. -/
import Derived.Test.YtjkbbdldmdajkaaGreatDoorVF
namespace Go.Proofs.YtjkbbdldmdajkaaGreatDoor.c_
open Go Go.RowKit
variable {w w' xk:World} {F F' Bs O O' v8:Nat→Prop} {μ bC lG:Nat→Nat} {K K' EF:Nat→Prop} {H H' H'':Hp} {ft bZ:Nat→Nat→Prop} {P:Program}
def below (N:Nat):Nat→Prop:=fun id=>id < N
theorem Cw (N k:Nat):plus (below N) (List.range' N k)=below (N+k):=by
 funext id;simp only [plus,below,List.mem_range'_1,eq_iff_iff];omega
mutual
def AV.dI (ρ:Nat→Nat):AV→AV
 | .agg cs=>.agg (Gp ρ cs)
 | .nP cs=>.nP (Gp ρ cs)
 | .rb cs o=>.rb (Gp ρ cs) o
 | .ms id i n e=>.ms (ρ id) i n e
 | .vs id n e=>.vs (ρ id) n e
 | .bp id o=>.bp (ρ id) o
 | .rp id e i j=>.rp (ρ id) e i j
 | .mp id=>.mp (ρ id)
 | .pK t a=>.pK t (a.dI ρ)
 | .fn f xs ys=>.fn f (Gp ρ xs) (Gp ρ ys)
 | .wh c a=>.wh c (a.dI ρ)
 | a=>a
def Gp (ρ:Nat→Nat):List AV→List AV
 | []=>[]
 | a::r=>a.dI ρ::Gp ρ r
end
theorem Jc (ρ:Nat→Nat):∀ l:List AV,Gp ρ l=l.map (AV.dI ρ)
 | []=>by simp [Gp]
 | a::r=>by simp [Gp,Jc ρ r]
theorem xN (ρ:Nat→Nat) (l:List AV) (i:Nat) (h:i < l.length):(Gp ρ l).getD i .top=(l.getD i .top).dI ρ:=by
 rw [Jc];simp [List.getD,h]
theorem fm (ρ:Nat→Nat) (l:List AV):(Gp ρ l).length=l.length:=by rw [Jc];simp
theorem VR.dI {ρ:Nat→Nat} {a:AV} {v:Value} (h:VR w F μ K a v) (ER:∀ id,K id→K' (ρ id)∧bC (ρ id)=μ id):VR w F bC K' (a.dI ρ) v:=by
 induction h generalizing K' with
 | top v=>simp only [AV.dI];exact .top v
 | lit v=>simp only [AV.dI];exact .lit v
 | int k n=>simp only [AV.dI];exact .int k n
 | bool b=>simp only [AV.dI];exact .bool b
 | str s=>simp only [AV.dI];exact .str s
 | fB=>simp only [AV.dI];exact .fB
 | agg cs vs h _ ih=>simp only [AV.dI];exact .agg _ vs (by rw [fm];exact h) fun i hi=>by rw [fm] at hi;rw [xN _ _ _ hi];exact ih i hi ER
 | nP cs vs h _ ih=>simp only [AV.dI];exact .nP _ vs (by rw [fm];exact h) fun i hi=>by rw [fm] at hi;rw [xN _ _ _ hi];exact ih i hi ER
 | fs bA n e b o cap u hb hc hu hv ih=>simp only [AV.dI];exact .fs bA n e b o cap u hb hc hu fun i j hi hj=>(hv i j hi hj).up
 | v7 bA e a cap=>simp only [AV.dI];exact .v7 bA e a cap
 | fp bA e off b o u hb hu hv ih=>simp only [AV.dI];exact .fp bA e off b o u hb hu fun j hj=>(hv j hj).up
 | rb cs off b u hb hu _ ih=>simp only [AV.dI];exact .rb _ off b u hb (fun j hj=>by rw [fm] at hj;exact hu j hj) fun j hj=>by rw [fm] at hj;rw [xN _ _ _ hj];exact ih j hj ER
 | ms id i n bA cap sz t bY hc rR fV=>
  obtain ⟨h1,h2⟩:=ER id bY;simp only [AV.dI];rw [← h2];exact .ms (ρ id) i n bA cap sz t h1 hc (by rw [h2];exact rR) fV
 | vs id n bA cap sz t hn bY hc rR fV=>
  obtain ⟨h1,h2⟩:=ER id bY;simp only [AV.dI];rw [← h2];exact .vs (ρ id) n bA cap sz t hn h1 hc (by rw [h2];exact rR) fV
 | s9 id bA a=>simp only [AV.dI];exact .s9 _ bA a
 | bp id off bY=>obtain ⟨h1,h2⟩:=ER id bY;simp only [AV.dI];rw [← h2];exact .bp _ off h1
 | rp id bA i j bY=>obtain ⟨h1,h2⟩:=ER id bY;simp only [AV.dI];rw [← h2];exact .rp _ bA i j h1
 | mp id bY=>obtain ⟨h1,h2⟩:=ER id bY;simp only [AV.dI];rw [← h2];exact .mp _ h1
 | pK t a v _ ih=>simp only [AV.dI];exact .pK t _ v (ih ER)
 | fn f xs ys vs us h h' _ _ ih ih'=>
  simp only [AV.dI];exact .fn f _ _ vs us (by rw [fm];exact h) (by rw [fm];exact h') (fun i hi=>by rw [fm] at hi;rw [xN _ _ _ hi];exact ih i hi ER)
   fun i hi=>by rw [fm] at hi;rw [xN _ _ _ hi];exact ih' i hi ER
 | wh c a v _ ih=>simp only [AV.dI];exact .wh c _ v fun hc=>ih hc ER
def jV.dI (ρ:Nat→Nat):jV→jV
 | .box l=>.box (Gp ρ l)
 | .dq v bA n e=>.dq v bA n fun i j=>(e i j).dI ρ
 | b=>b
theorem jV.NL (ρ:Nat→Nat) (b:jV):(b.dI ρ).fc=b.fc:=by
 cases b with
 | row v=>cases v<;>rfl
 | dq v=>cases v<;>rfl
 | _=>rfl
theorem jP.any {S:Nat→Prop} {a:AV} {v:Value} (h:jP w F μ S a v):jP w F bC S a v:=h.mono (fun _ _=>rfl) (fun _ h=>h) fun _ _=>rfl
theorem jP.dI {S:Nat→Prop} {a:AV} {v:Value} (ρ:Nat→Nat) (k:jP w F μ S a v):jP w F bC S (a.dI ρ) v:=by
 cases k with
 | IY S a v hv hS=>exact .IY _ _ _ (hv.dI (ρ:=ρ) (K':=Dc) (bC:=bC) fun id h=>h.elim) hS
 | Br S uO e' a hS=>exact .Br _ _ _ _ hS
 | os T uO n' e' b cap cs' t' S JJ hb hc DI q1 q2 hd hn hT=>exact (jP.os _ uO n' e' b cap cs' t' S JJ hb hc DI q1 q2 hd hn hT).any
theorem ik.dI {ρ:Nat→Nat} {S:Nat→Prop} {n:Nat} {o:Obj} {b:jV} (h:ik w F μ K S n o b) (ER:∀ id,K id→K' (ρ id)∧bC (ρ id)=μ id):ik w F bC K' S n o (b.dI ρ):=by
 cases b with
 | box l=>
  obtain ⟨cs,t,h1,h2,h3,h4⟩:=h;exact ⟨cs,t,h1,h2,by rw [fm];exact h3,fun j hj=>by rw [fm] at hj;rw [xN _ _ _ hj];exact (h4 j hj).dI ER⟩
 | row v bA m e=>
  obtain ⟨cs,t,S',h1,h2⟩:=h;exact ⟨cs,t,S',h1,{ h2 with cell:=fun i j hi hj=>⟨(h2.cell i j hi hj).1.any,(h2.cell i j hi hj).2⟩ }⟩
 | dq v bA m e=>
  obtain ⟨cs,t,S',h1,h2⟩:=h;refine ⟨cs,t,S',h1,{ h2 with cell:=fun i j hi hj=>⟨(h2.cell i j hi hj).1.imp (fun k=>?_) fun k=>⟨k.1.dI ER,k.2⟩,(h2.cell i j hi hj).2⟩ }⟩;exact k.dI ρ
 | map l=>
  obtain ⟨es,clock,h1,h2,h3,h4,h5⟩:=h;exact ⟨es,clock,h1,h2,h3,fun i hi=>⟨(h4 i hi).1,(h4 i hi).2.1.up,(h4 i hi).2.2.up⟩,h5⟩
 | HJ l j0 st=>
  obtain ⟨es,clock,h1,h2,h3,h4,h5,h6⟩:=h;exact ⟨es,clock,h1,h2,h3,fun i hi=>⟨(h4 i hi).1,(h4 i hi).2.1.up,(h4 i hi).2.2.up⟩,h5,h6⟩
inductive HO where
 | ret (r:AV)
 | Ky (r:AV)
def HO.av:HO→AV
 | .ret r | .Ky r=>r
def HO.is (e:HO) (v:Value):Ending:=match e with
 | .ret _=>.returned v
 | .Ky _=>.panicked [{ v,recovered:=false }]
def GC (P:Program) (f:FuncId) (m:Nat) (args:List AV) (H:Hp) (e:HO) (m':Nat) (H':Hp):Prop:=
 m≤m'∧(∀ (xs:Array Value) (w:World),(callFunc f xs).run P w=.ok (.enter f xs) w)∧
 ∀ (w:World) (F O:Nat→Prop) (μ:Nat→Nat) (ft:Nat→Nat→Prop) (s8:List Value),iL w F μ (below m) args s8→HR w F O μ (below m) H ft→
  Calls P f ⟨s8⟩ w fun en w'=>∃ v F' O' bC bZ,en=e.is v∧VR w' F' bC (below m') e.av v∧HR w' F' O' bC (below m') H' bZ∧Fr w F O μ (below m) w' F' O' bC
def pb (ids:List Nat) (N:Nat) (j:Nat):Nat:=match ids[j]? with
 | some id=>id
 | none=>N+(j-ids.length)
theorem ri {ids:List Nat} {N j:Nat} (h:j < ids.length):pb ids N j=ids[j]:=by simp [pb,h]
theorem wz {ids:List Nat} {N j:Nat} (h:ids.length≤j):pb ids N j=N+(j-ids.length):=by simp [pb,h]
def Wu (ids:List Nat) (N m':Nat) (H':Hp):List (Nat×Option jV):=(List.range m').map fun j=>(pb ids N j,(H' j).map (jV.dI (pb ids N)))
def Wv (a:AV):Prop:=∀ {w F F' μ K v},VR w F μ K a v→VR w F' μ K a v
def NfB (b:jV):Prop:=∀ {w F F' μ K S n o},ik w F μ K S n o b→(∀ x,S x→x≠n→¬ F' x)→ik w F' μ K S n o b
theorem Kz {ids:List Nat} (h:ids.Nodup) {i j:Nat} (hi:i < ids.length) (hj:j < ids.length) (e:ids[i]=ids[j]):i=j:=by
 exact (List.getElem_inj h).1 e
open Classical in
theorem aaq {s:fT} {ids ld:List Nat} {N:Nat} {Hc H1:Hp} {f:FuncId} {args:List AV} {e:HO} {m':Nat} {act:Act} {s8:List Value} (hg:GC P f ids.length args Hc e m' H1) (AF:ids.Nodup)
  (hand:∀ j b',Hc j=some b'→∃ id,ids[j]?=some id∧∃ b,s.H id=some b∧(b'.fc=true→b.fc=true)∧∀ {S n o},ik w F μ K S n o b→ik w (fun b=>F b∨∃ id,id∈ld∧s.H.live id∧ft id b) (fun j=>μ (pb ids N j)) (below ids.length) S n o b') (hs:SR w F O μ K s ft act) (hK:∀ id,id∈ids→K id) (ES:∀ id,id∈List.range' N (m'-ids.length)→¬ K id) (hld:∀ id,id∈ld→id ∉ ids)
  (Bo:iL w (fun b=>F b∨∃ id,id∈ld∧s.H.live id∧ft id b) (fun j=>μ (pb ids N j)) (below ids.length) args s8)
  (hnf:ld=[]∨(Wv e.av∧∀ j b,H1 j=some b→NfB b)):
  Calls P f ⟨s8⟩ w fun en w'=>∃ v F' O' bC bZ,en=e.is v∧VR w' F' bC (plus K (List.range' N (m'-ids.length))) (e.av.dI (pb ids N)) v∧
   HR w' F' O' bC (plus K (List.range' N (m'-ids.length))) (s.H.dh (Wu ids N m' H1)) bZ∧Fr w F O μ K w' F' O' bC:=by
 obtain ⟨hmm,-,hg⟩:=hg;have hr:=hs.hr
 let ρ:=pb ids N
 let F1:Nat→Prop:=fun b=>F b∨∃ id,id∈ld∧s.H.live id∧ft id b
 let H0:Hp:=fun id=>if id∈ids then s.H id else none
 have Lt:Part H0 s.H:=fun id=>by
  simp only [H0];split
  ·exact .inr rfl
  ·exact .inl rfl
 have h0:=hr.part Lt;have inF:∀ b,F b→F1 b:=fun b h=>.inl h;have aef:∀ x,LW H0 ft x→¬ F1 x:=by
  rintro x ⟨id,hl,hx⟩ (h | ⟨Cv,h1,h2,h3⟩)
  ·exact hr.zc x (hr.own id (Lt.live hl) x hx) h
  ·have:=hr.dj id Cv (Lt.live hl) h2 x hx h3;subst this;obtain ⟨b,hb,_⟩:=hl;simp only [H0,if_neg (hld id h1)] at hb;cases hb
 have rlt:∀ j,j < ids.length→ρ j∈ids∧K (ρ j):=fun j hj=>by
  have e1:ρ j=ids[j]:=ri hj;rw [e1];exact ⟨List.getElem_mem hj,hK _ (List.getElem_mem hj)⟩
 have hc:HR w F1 (LW H0 ft) (fun j=>μ (ρ j)) (below ids.length) Hc (fun j=>ft (ρ j)):=by
  have lv:∀ j,Hc.live j→j < ids.length∧H0.live (ρ j):=by
   rintro j ⟨b',cl,hl⟩
   obtain ⟨id,h1,b,h2,h3,_⟩:=hand j b' cl;have hj:j < ids.length:=(List.getElem?_eq_some_iff.1 h1).1;have e1:ρ j=id:=by
    have:=ri (N:=N) hj;rw [List.getElem?_eq_getElem hj] at h1;simp only [Option.some.injEq] at h1;exact this.trans h1
   refine ⟨hj,b,?_,h3 hl⟩;simp only [H0,e1,if_pos (e1▸(rlt j hj).1),h2]
  refine { lt:=fun j hj=>hr.lt _ (rlt j hj).2,known:=fun j b hb=>?_,dC:=fun j b' cl hl=>?_,self:=fun j hl=>hr.self _ (Lt.live (lv j hl).2),own:=fun j hl x hx=>⟨_,(lv j hl).2,hx⟩,dj:=fun j j' hl Ct x hx lN=>?_,zc:=fun b hb hF=>aef b hb hF,wf:=?_,rT:=h0.rT,pos:=hr.pos.mono (Nat.le_refl _) inF fun _ _=>rfl }
  ·obtain ⟨id,h1,_⟩:=hand j b hb;exact (List.getElem?_eq_some_iff.1 h1).1
  ·obtain ⟨id,h1,b,h2,h3,h4⟩:=hand j b' cl;have hj:j < ids.length:=(List.getElem?_eq_some_iff.1 h1).1;have e1:ρ j=id:=by
    have:=ri (N:=N) hj;rw [List.getElem?_eq_getElem hj] at h1;simp only [Option.some.injEq] at h1;exact this.trans h1
   obtain ⟨o,ho,hB⟩:=hr.dC id b h2 (h3 hl);refine ⟨o,by show w.heap[μ (ρ j)]?=_;rw [e1];exact ho,?_⟩;have:=h4 hB;show ik w F1 (fun j=>μ (ρ j)) (below ids.length) (ft (ρ j)) (μ (ρ j)) o b';rw [e1];exact this
  ·have h1:=hr.dj _ _ (Lt.live (lv j hl).2) (Lt.live (lv j' Ct).2) x hx lN;have hj:=(lv j hl).1;have mR:=(lv j' Ct).1;have e1:ρ j=ids[j]:=ri hj;have e2:ρ j'=ids[j']:=ri mR;exact Kz AF hj mR (by rw [← e1,← e2];exact h1)
  ·rintro b (h | ⟨id,_,h2,h3⟩)
   ·exact hr.wf b h
   ·exact hr.rT b (hr.own id h2 b h3)
 refine (hg w F1 (LW H0 ft) _ _ s8 Bo hc).mono ?_
 rintro en w' ⟨v,YZ,O',μ0,ft0,he,hv,DP,hf⟩
 have agV:∀ j j',j < m'→j' < m'→ρ j=ρ j'→j=j':=by
  intro j j' hj mR h;by_cases h1:j < ids.length<;>by_cases h2:j' < ids.length
  ·have e1:ρ j=ids[j]:=ri h1;have e2:ρ j'=ids[j']:=ri h2;exact Kz AF h1 h2 (by rw [← e1,← e2];exact h)
  ·have e2:ρ j'=N+(j'-ids.length):=wz (by omega);exact absurd ((rlt j h1).2) (h▸e2▸ES _ (by simp only [List.mem_range'_1];omega))
  ·have e1:ρ j=N+(j-ids.length):=wz (by omega);exact absurd ((rlt j' h2).2) (h▸e1▸ES _ (by simp only [List.mem_range'_1];omega))
  ·have e1:ρ j=N+(j-ids.length):=wz (by omega);have e2:ρ j'=N+(j'-ids.length):=wz (by omega);omega
 let K2:=plus K (List.range' N (m'-ids.length))
 have afn:∀ j,j < m'→K2 (ρ j):=by
  intro j hj;by_cases h1:j < ids.length
  ·exact .inl (rlt j h1).2
  ·have e1:ρ j=N+(j-ids.length):=wz (by omega);refine .inr ?_;rw [e1];simp only [List.mem_range'_1];omega
 let Gq:Nat→Nat:=fun id=>if K id then μ id else μ0 (id-N+ids.length)
 have mu2:∀ j,j < m'→Gq (ρ j)=μ0 j:=by
  intro j hj;by_cases h1:j < ids.length
  ·simp only [Gq,if_pos (rlt j h1).2];exact (hf.mu j h1).symm
  ·have e1:ρ j=N+(j-ids.length):=wz (by omega);have:¬ K (ρ j):=e1▸ES _ (by simp only [List.mem_range'_1];omega);have h3:ρ j-N+ids.length=j:=by rw [e1];omega
   simp only [Gq,if_neg this,h3]
 have ER:∀ j,below m' j→K2 (ρ j)∧Gq (ρ j)=μ0 j:=fun j hj=>⟨afn j hj,mu2 j hj⟩;have dh:∀ id,(∃ j,j < m'∧ρ j=id∧H0.dh (Wu ids N m' H1) id=(H1 j).map (jV.dI ρ)∧∀ Hx:Hp,Hx.dh (Wu ids N m' H1) id=H0.dh (Wu ids N m' H1) id)∨((∀ j,j < m'→ρ j≠id)∧∀ Hx:Hp,Hx.dh (Wu ids N m' H1) id=Hx id):=by
  have key:∀ (l:List Nat),(∀ j,j∈l→j < m')→∀ id,(∃ j,j∈l∧ρ j=id∧∀ Hx:Hp,Hx.dh (l.map fun j=>(ρ j,(H1 j).map (jV.dI ρ))) id=(H1 j).map (jV.dI ρ))∨((∀ j,j∈l→ρ j≠id)∧∀ Hx:Hp,Hx.dh (l.map fun j=>(ρ j,(H1 j).map (jV.dI ρ))) id=Hx id):=by
   intro l
   induction l with
   | nil=>exact fun _ id=>.inr ⟨fun j hj=>(by cases hj),fun _=>rfl⟩
   | cons x l ih=>
    intro hl id;by_cases e:id=ρ x
    ·exact .inl ⟨x,by simp,e.symm,fun Hx=>by simp only [List.map_cons,Hp.dh,if_pos e]⟩
    ·rcases ih (fun j hj=>hl j (by simp [hj])) id with ⟨j,h1,h2,h3⟩ | ⟨h1,h2⟩
     ·exact .inl ⟨j,by simp [h1],h2,fun Hx=>by simp only [List.map_cons,Hp.dh,if_neg e];exact h3 Hx⟩
     ·refine .inr ⟨fun j hj=>?_,fun Hx=>by simp only [List.map_cons,Hp.dh,if_neg e];exact h2 Hx⟩;rcases List.mem_cons.1 hj with h | h
      ·rw [h];exact fun h=>e h.symm
      ·exact h1 j h
  intro id;rcases key (List.range m') (fun j hj=>by simpa using hj) id with ⟨j,h1,h2,h3⟩ | ⟨h1,h2⟩
  ·exact .inl ⟨j,by simpa using h1,h2,h3 H0,fun Hx=>(h3 Hx).trans (h3 H0).symm⟩
  ·exact .inr ⟨fun j hj=>h1 j (by simpa using hj),h2⟩
 have abW:∀ id b,H0.dh (Wu ids N m' H1) id=some b→∃ j b0,j < m'∧ρ j=id∧H1 j=some b0∧b=b0.dI ρ:=by
  intro id b hb;rcases dh id with ⟨j,h1,h2,h3,_⟩ | ⟨h1,h2⟩
  ·rw [h3] at hb;cases hj:H1 j with
   | none=>rw [hj] at hb;cases hb
   | some b0=>rw [hj] at hb;exact ⟨j,b0,h1,h2,hj,by simpa using hb.symm⟩
  ·rw [h2] at hb;simp only [H0] at hb;split at hb
   ·rename_i hm;obtain ⟨j,hj,e1⟩:=List.getElem_of_mem hm;exact absurd ((ri (N:=N) hj).trans e1) (h1 j (by omega))
   ·cases hb
 have abX:∀ id,Hp.live (H0.dh (Wu ids N m' H1)) id→∃ j,j < m'∧ρ j=id∧H1.live j:=by
  rintro id ⟨b,hb,hl⟩
  obtain ⟨j,b0,h1,h2,h3,rfl⟩:=abW id b hb;exact ⟨j,h1,h2,b0,h3,by rw [jV.NL] at hl;exact hl⟩
 let Lu:Nat→Nat→Prop:=fun id x=>∃ j,j < m'∧ρ j=id∧ft0 j x
 have Ya:∀ j,j < m'→Lu (ρ j)=ft0 j:=fun j hj=>by
  funext x;simp only [Lu,eq_iff_iff];exact ⟨fun ⟨j',h1,h2,h3⟩=>agV j' j h1 hj h2▸h3,fun h=>⟨j,hj,rfl,h⟩⟩
 have hr2:HR w' YZ O' Gq K2 (H0.dh (Wu ids N m' H1)) Lu:=by
  refine { lt:=?_,known:=?_,dC:=?_,self:=?_,own:=?_,dj:=?_,zc:=DP.zc,wf:=DP.wf,rT:=DP.rT,pos:=DP.pos }
  ·rintro id (h | h)
   ·simp only [Gq,if_pos h];exact Nat.lt_of_lt_of_le (hr.lt id h) hf.size
   ·simp only [Gq,if_neg (ES id h)];have h5:N≤id∧id < N+(m'-ids.length):=by simpa only [List.mem_range'_1] using h
    exact DP.lt _ (show id-N+ids.length < m' by omega)
  ·intro id b hb;obtain ⟨j,b0,h1,rfl,_⟩:=abW id b hb;exact afn j h1
  ·intro id b hb hl;obtain ⟨j,b0,h1,rfl,h3,rfl⟩:=abW id b hb;rw [jV.NL] at hl;obtain ⟨o,ho,hB⟩:=DP.dC j b0 h3 hl;rw [mu2 j h1,Ya j h1];exact ⟨o,ho,hB.dI ER⟩
  ·intro id hl;obtain ⟨j,h1,rfl,h2⟩:=abX id hl;rw [mu2 j h1,Ya j h1];exact DP.self j h2
  ·intro id hl x hx;obtain ⟨j,h1,rfl,h2⟩:=abX id hl;rw [Ya j h1] at hx;exact DP.own j h2 x hx
  ·intro id b9 hl Ct x hx lN;obtain ⟨j,h1,rfl,h2⟩:=abX id hl;obtain ⟨j',k1,rfl,k2⟩:=abX b9 Ct;rw [Ya j h1] at hx;rw [Ya j' k1] at lN;rw [DP.dj j j' h2 k2 x hx lN]
 have hf2:Fr w F1 (LW H0 ft) μ K w' YZ O' Gq:={ hf with mu:=fun id bY=>by simp only [Gq,if_pos bY] };rcases hnf with rfl | ⟨JI,V7⟩
 ·have eF:∀ b,F1 b→F b:=by
   rintro b (h | ⟨_,h,_⟩)
   ·exact h
   ·cases h
  obtain ⟨O2,ft3,k1,k2⟩:=Va (F1:=F1) (YZ:=YZ) (F2:=YZ) hr Lt (fun id h=>.inl h) hr2 hf2 inF (fun b hb=>hf.Aw b (inF b hb)) (fun _ h=>h)
   (fun b hb=>(hf.HK b hb).imp (eF b) id) hr2.dC
  exact ⟨v,YZ,O2,Gq,ft3,he,hv.dI ER,k1,k2⟩
 ·obtain ⟨O2,ft3,k1,k2⟩:=Va (F1:=F1) (YZ:=YZ) (F2:=F) hr Lt (fun id h=>.inl h) hr2 hf2 inF (fun _ h=>h) (fun b hb=>hf.Aw b (inF b hb))
   (fun b hb=>.inl hb) (fun id b hb hl=>by
    obtain ⟨j,b0,h1,rfl,h3,rfl⟩:=abW id b hb;have hl0:b0.fc=true:=by rw [jV.NL] at hl;exact hl
    obtain ⟨o,ho,hB⟩:=DP.dC j b0 h3 hl0;refine ⟨o,by rw [mu2 j h1];exact ho,?_⟩;rw [mu2 j h1,Ya j h1];exact (V7 j b0 h3 hB fun x hx _ hF=>DP.zc x (DP.own j ⟨b0,h3,hl0⟩ x hx) (hf.Aw x (inF x hF))).dI ER)
  exact ⟨v,F,O2,Gq,ft3,he,(JI hv).dI ER,k1,k2⟩
end Go.Proofs.YtjkbbdldmdajkaaGreatDoor.c_
