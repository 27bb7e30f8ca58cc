/- Blocks named anew; the contract of a call, and what a call does to a state. No condition. -/
import Derived.Test.YtjkbbdldmdajkaaGreatDoorVF
namespace Go.Proofs.YtjkbbdldmdajkaaGreatDoor.c_
open Go Go.RowKit
variable {w w' xh:World} {F F' Bn O O' vW:Nat→Prop} {μ bD lF:Nat→Nat} {K K' EB:Nat→Prop} {H H' H'':Hp} {ft bY:Nat→Nat→Prop} {P:Program}
def below (N:Nat):Nat→Prop:=fun id=>id < N
theorem Cv (N k:Nat):plus (below N) (List.range' N k)=below (N+k):=by
 funext id;simp only [plus,below,List.mem_range'_1,eq_iff_iff];omega
mutual
def AV.dH (ρ:Nat→Nat):AV→AV
 | .agg cs=>.agg (HJ ρ cs)
 | .nO cs=>.nO (HJ ρ cs)
 | .ms id i n e=>.ms (ρ id) i n e
 | .vs id n e=>.vs (ρ id) n e
 | .bp id o=>.bp (ρ id) o
 | .rp id e i j=>.rp (ρ id) e i j
 | .mp id=>.mp (ρ id)
 | .pJ t a=>.pJ t (a.dH ρ)
 | .fn f xs ys=>.fn f (HJ ρ xs) (HJ ρ ys)
 | .wh c a=>.wh c (a.dH ρ)
 | a=>a
def HJ (ρ:Nat→Nat):List AV→List AV
 | []=>[]
 | a::r=>a.dH ρ::HJ ρ r
end
theorem Ja (ρ:Nat→Nat):∀ l:List AV,HJ ρ l=l.map (AV.dH ρ)
 | []=>by simp [HJ]
 | a::r=>by simp [HJ,Ja ρ r]
theorem Bq (ρ:Nat→Nat) (l:List AV) (i:Nat) (h:i < l.length):(HJ ρ l).getD i .top=(l.getD i .top).dH ρ:=by
 rw [Ja];simp [List.getD,h]
theorem hY (ρ:Nat→Nat) (l:List AV):(HJ ρ l).length=l.length:=by rw [Ja];simp
theorem VR.dH {ρ:Nat→Nat} {a:AV} {v:Value} (h:VR w F μ K a v) (Gj:∀ id,K id→K' (ρ id)∧bD (ρ id)=μ id):VR w F bD K' (a.dH ρ) v:=by
 induction h generalizing K' with
 | top v=>simp only [AV.dH];exact .top v
 | lit v=>simp only [AV.dH];exact .lit v
 | int k n=>simp only [AV.dH];exact .int k n
 | bool b=>simp only [AV.dH];exact .bool b
 | str s=>simp only [AV.dH];exact .str s
 | fA=>simp only [AV.dH];exact .fA
 | agg cs vs h _ ih=>simp only [AV.dH];exact .agg _ vs (by rw [hY];exact h) fun i hi=>by rw [hY] at hi;rw [Bq _ _ _ hi];exact ih i hi Gj
 | nO cs vs h _ ih=>simp only [AV.dH];exact .nO _ vs (by rw [hY];exact h) fun i hi=>by rw [hY] at hi;rw [Bq _ _ _ hi];exact ih i hi Gj
 | fs bA n e b o cap u hb hc hu hv ih=>simp only [AV.dH];exact .fs bA n e b o cap u hb hc hu fun i j hi hj=>(hv i j hi hj).up
 | vV bA e a cap=>simp only [AV.dH];exact .vV bA e a cap
 | fp bA e off b o u hb hu hv ih=>simp only [AV.dH];exact .fp bA e off b o u hb hu fun j hj=>(hv j hj).up
 | ms id i n bA cap sz t bZ hc sZ fT=>
  obtain ⟨h1,h2⟩:=Gj id bZ;simp only [AV.dH];rw [← h2];exact .ms (ρ id) i n bA cap sz t h1 hc (by rw [h2];exact sZ) fT
 | vs id n bA cap sz t hn bZ hc sZ fT=>
  obtain ⟨h1,h2⟩:=Gj id bZ;simp only [AV.dH];rw [← h2];exact .vs (ρ id) n bA cap sz t hn h1 hc (by rw [h2];exact sZ) fT
 | s8 id bA a=>simp only [AV.dH];exact .s8 _ bA a
 | bp id off bZ=>obtain ⟨h1,h2⟩:=Gj id bZ;simp only [AV.dH];rw [← h2];exact .bp _ off h1
 | rp id bA i j bZ=>obtain ⟨h1,h2⟩:=Gj id bZ;simp only [AV.dH];rw [← h2];exact .rp _ bA i j h1
 | mp id bZ=>obtain ⟨h1,h2⟩:=Gj id bZ;simp only [AV.dH];rw [← h2];exact .mp _ h1
 | pJ t a v _ ih=>simp only [AV.dH];exact .pJ t _ v (ih Gj)
 | fn f xs ys vs us h h' _ _ ih ih'=>
  simp only [AV.dH];exact .fn f _ _ vs us (by rw [hY];exact h) (by rw [hY];exact h') (fun i hi=>by rw [hY] at hi;rw [Bq _ _ _ hi];exact ih i hi Gj)
   fun i hi=>by rw [hY] at hi;rw [Bq _ _ _ hi];exact ih' i hi Gj
 | wh c a v _ ih=>simp only [AV.dH];exact .wh c _ v fun hc=>ih hc Gj
def jV.dH (ρ:Nat→Nat):jV→jV
 | .box l=>.box (HJ ρ l)
 | .dq v bA n e=>.dq v bA n fun i j=>(e i j).dH ρ
 | b=>b
theorem jV.NK (ρ:Nat→Nat) (b:jV):(b.dH ρ).fc=b.fc:=by
 cases b with
 | row v=>cases v<;>rfl
 | dq v=>cases v<;>rfl
 | _=>rfl
theorem jP.any {S:Nat→Prop} {a:AV} {v:Value} (h:jP w F μ S a v):jP w F bD S a v:=h.mono (fun _ _=>rfl) (fun _ h=>h) fun _ _=>rfl
theorem jP.dH {S:Nat→Prop} {a:AV} {v:Value} (ρ:Nat→Nat) (k:jP w F μ S a v):jP w F bD S (a.dH ρ) v:=by
 cases k with
 | IW S a v hv hS=>exact .IW _ _ _ (hv.dH (ρ:=ρ) (K':=C8) (bD:=bD) fun id h=>h.elim) hS
 | Bm S uL e' a hS=>exact .Bm _ _ _ _ hS
 | os T uL n' e' b cap cs' t' S JI hb hc DD q1 q2 hd hn hT=>exact (jP.os _ uL n' e' b cap cs' t' S JI hb hc DD q1 q2 hd hn hT).any
theorem ij.dH {ρ:Nat→Nat} {S:Nat→Prop} {n:Nat} {o:Obj} {b:jV} (h:ij w F μ K S n o b) (Gj:∀ id,K id→K' (ρ id)∧bD (ρ id)=μ id):ij w F bD K' S n o (b.dH ρ):=by
 cases b with
 | box l=>
  obtain ⟨cs,t,h1,h2,h3,h4⟩:=h;exact ⟨cs,t,h1,h2,by rw [hY];exact h3,fun j hj=>by rw [hY] at hj;rw [Bq _ _ _ hj];exact (h4 j hj).dH Gj⟩
 | row v bA m e=>
  obtain ⟨cs,t,S',h1,h2⟩:=h;exact ⟨cs,t,S',h1,{ h2 with cell:=fun i j hi hj=>⟨(h2.cell i j hi hj).1.any,(h2.cell i j hi hj).2⟩ }⟩
 | dq v bA m e=>
  obtain ⟨cs,t,S',h1,h2⟩:=h;refine ⟨cs,t,S',h1,{ h2 with cell:=fun i j hi hj=>⟨(h2.cell i j hi hj).1.imp (fun k=>?_) fun k=>⟨k.1.dH Gj,k.2⟩,(h2.cell i j hi hj).2⟩ }⟩;exact k.dH ρ
 | map l=>
  obtain ⟨es,clock,h1,h2,h3,h4,h5⟩:=h;exact ⟨es,clock,h1,h2,h3,fun i hi=>⟨(h4 i hi).1,(h4 i hi).2.1.up,(h4 i hi).2.2.up⟩,h5⟩
 | HE l j0 st=>
  obtain ⟨es,clock,h1,h2,h3,h4,h5,h6⟩:=h;exact ⟨es,clock,h1,h2,h3,fun i hi=>⟨(h4 i hi).1,(h4 i hi).2.1.up,(h4 i hi).2.2.up⟩,h5,h6⟩
inductive HK where
 | ret (r:AV)
 | Kx (r:AV)
def HK.av:HK→AV
 | .ret r | .Kx r=>r
def HK.is (e:HK) (v:Value):Ending:=match e with
 | .ret _=>.returned v
 | .Kx _=>.panicked [{ v,recovered:=false }]
def GC (P:Program) (f:FuncId) (m:Nat) (args:List AV) (H:Hp) (e:HK) (m':Nat) (H':Hp):Prop:=
 m≤m'∧(∀ (xs:Array Value) (w:World),(callFunc f xs).run P w=.ok (.enter f xs) w)∧
 ∀ (w:World) (F O:Nat→Prop) (μ:Nat→Nat) (ft:Nat→Nat→Prop) (s7:List Value),iU w F μ (below m) args s7→HR w F O μ (below m) H ft→
  Calls P f ⟨s7⟩ w fun en w'=>∃ v F' O' bD bY,en=e.is v∧VR w' F' bD (below m') e.av v∧HR w' F' O' bD (below m') H' bY∧Fr w F O μ (below m) w' F' O' bD
def pa (ids:List Nat) (N:Nat) (j:Nat):Nat:=match ids[j]? with
 | some id=>id
 | none=>N+(j-ids.length)
theorem rh {ids:List Nat} {N j:Nat} (h:j < ids.length):pa ids N j=ids[j]:=by simp [pa,h]
theorem wv {ids:List Nat} {N j:Nat} (h:ids.length≤j):pa ids N j=N+(j-ids.length):=by simp [pa,h]
def Wq (ids:List Nat) (N m':Nat) (H':Hp):List (Nat×Option jV):=(List.range m').map fun j=>(pa ids N j,(H' j).map (jV.dH (pa ids N)))
def Ws (a:AV):Prop:=∀ {w F F' μ K v},VR w F μ K a v→VR w F' μ K a v
def NfB (b:jV):Prop:=∀ {w F F' μ K S n o},ij w F μ K S n o b→(∀ x,S x→x≠n→¬ F' x)→ij w F' μ K S n o b
theorem Ky {ids:List Nat} (h:ids.Nodup) {i j:Nat} (hi:i < ids.length) (hj:j < ids.length) (e:ids[i]=ids[j]):i=j:=by
 exact (List.getElem_inj h).1 e
open Classical in
theorem aam {s:fU} {ids ld:List Nat} {N:Nat} {Hc H1:Hp} {f:FuncId} {args:List AV} {e:HK} {m':Nat} {act:Act} {s7:List Value} (hg:GC P f ids.length args Hc e m' H1) (AA:ids.Nodup)
  (hand:∀ j b',Hc j=some b'→∃ id,ids[j]?=some id∧∃ b,s.H id=some b∧(b'.fc=true→b.fc=true)∧∀ {S n o},ij w F μ K S n o b→ij w (fun b=>F b∨∃ id,id∈ld∧s.H.live id∧ft id b) (fun j=>μ (pa ids N j)) (below ids.length) S n o b') (hs:SR w F O μ K s ft act) (hK:∀ id,id∈ids→K id) (EM:∀ id,id∈List.range' N (m'-ids.length)→¬ K id) (hld:∀ id,id∈ld→id ∉ ids)
  (Bk:iU w (fun b=>F b∨∃ id,id∈ld∧s.H.live id∧ft id b) (fun j=>μ (pa ids N j)) (below ids.length) args s7)
  (hnf:ld=[]∨(Ws e.av∧∀ j b,H1 j=some b→NfB b)):
  Calls P f ⟨s7⟩ w fun en w'=>∃ v F' O' bD bY,en=e.is v∧VR w' F' bD (plus K (List.range' N (m'-ids.length))) (e.av.dH (pa ids N)) v∧
   HR w' F' O' bD (plus K (List.range' N (m'-ids.length))) (s.H.dh (Wq ids N m' H1)) bY∧Fr w F O μ K w' F' O' bD:=by
 obtain ⟨hmm,-,hg⟩:=hg;have hr:=hs.hr
 let ρ:=pa ids N
 let F1:Nat→Prop:=fun b=>F b∨∃ id,id∈ld∧s.H.live id∧ft id b
 let H0:Hp:=fun id=>if id∈ids then s.H id else none
 have Ls:Part H0 s.H:=fun id=>by
  simp only [H0];split
  ·exact .inr rfl
  ·exact .inl rfl
 have h0:=hr.part Ls;have inF:∀ b,F b→F1 b:=fun b h=>.inl h;have aeb:∀ x,LV H0 ft x→¬ F1 x:=by
  rintro x ⟨id,hl,hx⟩ (h | ⟨Cu,h1,h2,h3⟩)
  ·exact hr.y9 x (hr.own id (Ls.live hl) x hx) h
  ·have:=hr.dj id Cu (Ls.live hl) h2 x hx h3;subst this;obtain ⟨b,hb,_⟩:=hl;simp only [H0,if_neg (hld id h1)] at hb;cases hb
 have rlt:∀ j,j < ids.length→ρ j∈ids∧K (ρ j):=fun j hj=>by
  have e1:ρ j=ids[j]:=rh hj;rw [e1];exact ⟨List.getElem_mem hj,hK _ (List.getElem_mem hj)⟩
 have hc:HR w F1 (LV H0 ft) (fun j=>μ (ρ j)) (below ids.length) Hc (fun j=>ft (ρ j)):=by
  have lv:∀ j,Hc.live j→j < ids.length∧H0.live (ρ j):=by
   rintro j ⟨b',cl,hl⟩
   obtain ⟨id,h1,b,h2,h3,_⟩:=hand j b' cl;have hj:j < ids.length:=(List.getElem?_eq_some_iff.1 h1).1;have e1:ρ j=id:=by
    have:=rh (N:=N) hj;rw [List.getElem?_eq_getElem hj] at h1;simp only [Option.some.injEq] at h1;exact this.trans h1
   refine ⟨hj,b,?_,h3 hl⟩;simp only [H0,e1,if_pos (e1▸(rlt j hj).1),h2]
  refine { lt:=fun j hj=>hr.lt _ (rlt j hj).2,known:=fun j b hb=>?_,dC:=fun j b' cl hl=>?_,self:=fun j hl=>hr.self _ (Ls.live (lv j hl).2),own:=fun j hl x hx=>⟨_,(lv j hl).2,hx⟩,dj:=fun j j' hl Cs x hx lM=>?_,y9:=fun b hb hF=>aeb b hb hF,wf:=?_,rR:=h0.rR,pos:=hr.pos.mono (Nat.le_refl _) inF fun _ _=>rfl }
  ·obtain ⟨id,h1,_⟩:=hand j b hb;exact (List.getElem?_eq_some_iff.1 h1).1
  ·obtain ⟨id,h1,b,h2,h3,h4⟩:=hand j b' cl;have hj:j < ids.length:=(List.getElem?_eq_some_iff.1 h1).1;have e1:ρ j=id:=by
    have:=rh (N:=N) hj;rw [List.getElem?_eq_getElem hj] at h1;simp only [Option.some.injEq] at h1;exact this.trans h1
   obtain ⟨o,ho,hB⟩:=hr.dC id b h2 (h3 hl);refine ⟨o,by show w.heap[μ (ρ j)]?=_;rw [e1];exact ho,?_⟩;have:=h4 hB;show ij w F1 (fun j=>μ (ρ j)) (below ids.length) (ft (ρ j)) (μ (ρ j)) o b';rw [e1];exact this
  ·have h1:=hr.dj _ _ (Ls.live (lv j hl).2) (Ls.live (lv j' Cs).2) x hx lM;have hj:=(lv j hl).1;have mQ:=(lv j' Cs).1;have e1:ρ j=ids[j]:=rh hj;have e2:ρ j'=ids[j']:=rh mQ;exact Ky AA hj mQ (by rw [← e1,← e2];exact h1)
  ·rintro b (h | ⟨id,_,h2,h3⟩)
   ·exact hr.wf b h
   ·exact hr.rR b (hr.own id h2 b h3)
 refine (hg w F1 (LV H0 ft) _ _ s7 Bk hc).mono ?_
 rintro en w' ⟨v,YW,O',μ0,ft0,he,hv,DK,hf⟩
 have agR:∀ j j',j < m'→j' < m'→ρ j=ρ j'→j=j':=by
  intro j j' hj mQ h;by_cases h1:j < ids.length<;>by_cases h2:j' < ids.length
  ·have e1:ρ j=ids[j]:=rh h1;have e2:ρ j'=ids[j']:=rh h2;exact Ky AA h1 h2 (by rw [← e1,← e2];exact h)
  ·have e2:ρ j'=N+(j'-ids.length):=wv (by omega);exact absurd ((rlt j h1).2) (h▸e2▸EM _ (by simp only [List.mem_range'_1];omega))
  ·have e1:ρ j=N+(j-ids.length):=wv (by omega);exact absurd ((rlt j' h2).2) (h▸e1▸EM _ (by simp only [List.mem_range'_1];omega))
  ·have e1:ρ j=N+(j-ids.length):=wv (by omega);have e2:ρ j'=N+(j'-ids.length):=wv (by omega);omega
 let K2:=plus K (List.range' N (m'-ids.length))
 have afj:∀ j,j < m'→K2 (ρ j):=by
  intro j hj;by_cases h1:j < ids.length
  ·exact .inl (rlt j h1).2
  ·have e1:ρ j=N+(j-ids.length):=wv (by omega);refine .inr ?_;rw [e1];simp only [List.mem_range'_1];omega
 let Gk:Nat→Nat:=fun id=>if K id then μ id else μ0 (id-N+ids.length)
 have mu2:∀ j,j < m'→Gk (ρ j)=μ0 j:=by
  intro j hj;by_cases h1:j < ids.length
  ·simp only [Gk,if_pos (rlt j h1).2];exact (hf.mu j h1).symm
  ·have e1:ρ j=N+(j-ids.length):=wv (by omega);have:¬ K (ρ j):=e1▸EM _ (by simp only [List.mem_range'_1];omega);have h3:ρ j-N+ids.length=j:=by rw [e1];omega
   simp only [Gk,if_neg this,h3]
 have Gj:∀ j,below m' j→K2 (ρ j)∧Gk (ρ j)=μ0 j:=fun j hj=>⟨afj j hj,mu2 j hj⟩;have dh:∀ id,(∃ j,j < m'∧ρ j=id∧H0.dh (Wq ids N m' H1) id=(H1 j).map (jV.dH ρ)∧∀ Hx:Hp,Hx.dh (Wq ids N m' H1) id=H0.dh (Wq ids N m' H1) id)∨((∀ j,j < m'→ρ j≠id)∧∀ Hx:Hp,Hx.dh (Wq ids N m' H1) id=Hx id):=by
  have key:∀ (l:List Nat),(∀ j,j∈l→j < m')→∀ id,(∃ j,j∈l∧ρ j=id∧∀ Hx:Hp,Hx.dh (l.map fun j=>(ρ j,(H1 j).map (jV.dH ρ))) id=(H1 j).map (jV.dH ρ))∨((∀ j,j∈l→ρ j≠id)∧∀ Hx:Hp,Hx.dh (l.map fun j=>(ρ j,(H1 j).map (jV.dH ρ))) id=Hx id):=by
   intro l
   induction l with
   | nil=>exact fun _ id=>.inr ⟨fun j hj=>(by cases hj),fun _=>rfl⟩
   | cons x l ih=>
    intro hl id;by_cases e:id=ρ x
    ·exact .inl ⟨x,by simp,e.symm,fun Hx=>by simp only [List.map_cons,Hp.dh,if_pos e]⟩
    ·rcases ih (fun j hj=>hl j (by simp [hj])) id with ⟨j,h1,h2,h3⟩ | ⟨h1,h2⟩
     ·exact .inl ⟨j,by simp [h1],h2,fun Hx=>by simp only [List.map_cons,Hp.dh,if_neg e];exact h3 Hx⟩
     ·refine .inr ⟨fun j hj=>?_,fun Hx=>by simp only [List.map_cons,Hp.dh,if_neg e];exact h2 Hx⟩;rcases List.mem_cons.1 hj with h | h
      ·rw [h];exact fun h=>e h.symm
      ·exact h1 j h
  intro id;rcases key (List.range m') (fun j hj=>by simpa using hj) id with ⟨j,h1,h2,h3⟩ | ⟨h1,h2⟩
  ·exact .inl ⟨j,by simpa using h1,h2,h3 H0,fun Hx=>(h3 Hx).trans (h3 H0).symm⟩
  ·exact .inr ⟨fun j hj=>h1 j (by simpa using hj),h2⟩
 have abT:∀ id b,H0.dh (Wq ids N m' H1) id=some b→∃ j b0,j < m'∧ρ j=id∧H1 j=some b0∧b=b0.dH ρ:=by
  intro id b hb;rcases dh id with ⟨j,h1,h2,h3,_⟩ | ⟨h1,h2⟩
  ·rw [h3] at hb;cases hj:H1 j with
   | none=>rw [hj] at hb;cases hb
   | some b0=>rw [hj] at hb;exact ⟨j,b0,h1,h2,hj,by simpa using hb.symm⟩
  ·rw [h2] at hb;simp only [H0] at hb;split at hb
   ·rename_i hm;obtain ⟨j,hj,e1⟩:=List.getElem_of_mem hm;exact absurd ((rh (N:=N) hj).trans e1) (h1 j (by omega))
   ·cases hb
 have abU:∀ id,Hp.live (H0.dh (Wq ids N m' H1)) id→∃ j,j < m'∧ρ j=id∧H1.live j:=by
  rintro id ⟨b,hb,hl⟩
  obtain ⟨j,b0,h1,h2,h3,rfl⟩:=abT id b hb;exact ⟨j,h1,h2,b0,h3,by rw [jV.NK] at hl;exact hl⟩
 let Lt:Nat→Nat→Prop:=fun id x=>∃ j,j < m'∧ρ j=id∧ft0 j x
 have X8:∀ j,j < m'→Lt (ρ j)=ft0 j:=fun j hj=>by
  funext x;simp only [Lt,eq_iff_iff];exact ⟨fun ⟨j',h1,h2,h3⟩=>agR j' j h1 hj h2▸h3,fun h=>⟨j,hj,rfl,h⟩⟩
 have hr2:HR w' YW O' Gk K2 (H0.dh (Wq ids N m' H1)) Lt:=by
  refine { lt:=?_,known:=?_,dC:=?_,self:=?_,own:=?_,dj:=?_,y9:=DK.y9,wf:=DK.wf,rR:=DK.rR,pos:=DK.pos }
  ·rintro id (h | h)
   ·simp only [Gk,if_pos h];exact Nat.lt_of_lt_of_le (hr.lt id h) hf.size
   ·simp only [Gk,if_neg (EM id h)];have h5:N≤id∧id < N+(m'-ids.length):=by simpa only [List.mem_range'_1] using h
    exact DK.lt _ (show id-N+ids.length < m' by omega)
  ·intro id b hb;obtain ⟨j,b0,h1,rfl,_⟩:=abT id b hb;exact afj j h1
  ·intro id b hb hl;obtain ⟨j,b0,h1,rfl,h3,rfl⟩:=abT id b hb;rw [jV.NK] at hl;obtain ⟨o,ho,hB⟩:=DK.dC j b0 h3 hl;rw [mu2 j h1,X8 j h1];exact ⟨o,ho,hB.dH Gj⟩
  ·intro id hl;obtain ⟨j,h1,rfl,h2⟩:=abU id hl;rw [mu2 j h1,X8 j h1];exact DK.self j h2
  ·intro id hl x hx;obtain ⟨j,h1,rfl,h2⟩:=abU id hl;rw [X8 j h1] at hx;exact DK.own j h2 x hx
  ·intro id b9 hl Cs x hx lM;obtain ⟨j,h1,rfl,h2⟩:=abU id hl;obtain ⟨j',k1,rfl,k2⟩:=abU b9 Cs;rw [X8 j h1] at hx;rw [X8 j' k1] at lM;rw [DK.dj j j' h2 k2 x hx lM]
 have hf2:Fr w F1 (LV H0 ft) μ K w' YW O' Gk:={ hf with mu:=fun id bZ=>by simp only [Gk,if_pos bZ] };rcases hnf with rfl | ⟨JH,V4⟩
 ·have eF:∀ b,F1 b→F b:=by
   rintro b (h | ⟨_,h,_⟩)
   ·exact h
   ·cases h
  obtain ⟨O2,ft3,k1,k2⟩:=U8 (F1:=F1) (YW:=YW) (F2:=YW) hr Ls (fun id h=>.inl h) hr2 hf2 inF (fun b hb=>hf.As b (inF b hb)) (fun _ h=>h)
   (fun b hb=>(hf.HF b hb).imp (eF b) id) hr2.dC
  exact ⟨v,YW,O2,Gk,ft3,he,hv.dH Gj,k1,k2⟩
 ·obtain ⟨O2,ft3,k1,k2⟩:=U8 (F1:=F1) (YW:=YW) (F2:=F) hr Ls (fun id h=>.inl h) hr2 hf2 inF (fun _ h=>h) (fun b hb=>hf.As b (inF b hb))
   (fun b hb=>.inl hb) (fun id b hb hl=>by
    obtain ⟨j,b0,h1,rfl,h3,rfl⟩:=abT id b hb;have hl0:b0.fc=true:=by rw [jV.NK] at hl;exact hl
    obtain ⟨o,ho,hB⟩:=DK.dC j b0 h3 hl0;refine ⟨o,by rw [mu2 j h1];exact ho,?_⟩;rw [mu2 j h1,X8 j h1];exact (V4 j b0 h3 hB fun x hx _ hF=>DK.y9 x (DK.own j ⟨b0,h3,hl0⟩ x hx) (hf.As x (inF x hF))).dH Gj)
  exact ⟨v,F,O2,Gk,ft3,he,(JH hv).dH Gj,k1,k2⟩
end Go.Proofs.YtjkbbdldmdajkaaGreatDoor.c_
