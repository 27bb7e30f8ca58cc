/- Blocks named anew; the contract of a call, and what a call does to a state. No condition. -/
import Derived.Test.YtjkbbdldmdajkaaGreatDoorVF
namespace Go.Proofs.YtjkbbdldmdajkaaGreatDoor.c5
open Go Go.RowKit
variable {w w' ss:World} {F F' zT O O' uo:Nat→Prop} {μ aZ jE:Nat→Nat} {K K' C9:Nat→Prop} {H H' H'':Hp} {ft bX:Nat→Nat→Prop} {P:Program}
def below (N:Nat):Nat→Prop:=fun id=>id < N
theorem yb (N k:Nat):plus (below N) (List.range' N k)=below (N+k):=by
 funext id;simp only [plus,below,List.mem_range'_1,eq_iff_iff];omega
mutual
def AV.dA (ρ:Nat→Nat):AV→AV
 | .agg cs=>.agg (FH ρ cs)
 | .ov cs=>.ov (FH ρ cs)
 | .rb cs o=>.rb (FH ρ cs) o
 | .ms id i n e=>.ms (ρ id) i n e
 | .vs id n e=>.vs (ρ id) n e
 | .bp id o=>.bp (ρ id) o
 | .rp id e i j=>.rp (ρ id) e i j
 | .mp id=>.mp (ρ id)
 | .oR t a=>.oR t (a.dA ρ)
 | .fn f xs ys=>.fn f (FH ρ xs) (FH ρ ys)
 | .wh c a=>.wh c (a.dA ρ)
 | a=>a
def FH (ρ:Nat→Nat):List AV→List AV
 | []=>[]
 | a::r=>a.dA ρ::FH ρ r
end
theorem IF (ρ:Nat→Nat):∀ l:List AV,FH ρ l=l.map (AV.dA ρ)
 | []=>by simp [FH]
 | a::r=>by simp [FH,IF ρ r]
theorem wR (ρ:Nat→Nat) (l:List AV) (i:Nat) (h:i < l.length):(FH ρ l).getD i .top=(l.getD i .top).dA ρ:=by
 rw [IF];simp [List.getD,h]
theorem e_ (ρ:Nat→Nat) (l:List AV):(FH ρ l).length=l.length:=by rw [IF];simp
theorem VR.dA {ρ:Nat→Nat} {a:AV} {v:Value} (h:VR w F μ K a v) (Ec:∀ id,K id→K' (ρ id)∧aZ (ρ id)=μ id):VR w F aZ K' (a.dA ρ) v:=by
 induction h generalizing K' with
 | top v=>simp only [AV.dA];exact .top v
 | lit v=>simp only [AV.dA];exact .lit v
 | int k n=>simp only [AV.dA];exact .int k n
 | bool b=>simp only [AV.dA];exact .bool b
 | str s=>simp only [AV.dA];exact .str s
 | fb=>simp only [AV.dA];exact .fb
 | agg cs vs h _ ih=>simp only [AV.dA];exact .agg _ vs (by rw [e_];exact h) fun i hi=>by rw [e_] at hi;rw [wR _ _ _ hi];exact ih i hi Ec
 | ov cs vs h _ ih=>simp only [AV.dA];exact .ov _ vs (by rw [e_];exact h) fun i hi=>by rw [e_] at hi;rw [wR _ _ _ hi];exact ih i hi Ec
 | fs bB n e b o cap u hb hc hu hv ih=>simp only [AV.dA];exact .fs bB n e b o cap u hb hc hu fun i j hi hj=>(hv i j hi hj).up
 | u_ bB e a cap=>simp only [AV.dA];exact .u_ bB e a cap
 | fp bB e off b o u hb hu hv ih=>simp only [AV.dA];exact .fp bB e off b o u hb hu fun j hj=>(hv j hj).up
 | rb cs off b u hb hu _ ih=>simp only [AV.dA];exact .rb _ off b u hb (fun j hj=>by rw [e_] at hj;exact hu j hj) fun j hj=>by rw [e_] at hj;rw [wR _ _ _ hj];exact ih j hj Ec
 | ms id i n bB cap sz t bZ hc qQ fh=>
  obtain ⟨h1,h2⟩:=Ec id bZ;simp only [AV.dA];rw [← h2];exact .ms (ρ id) i n bB cap sz t h1 hc (by rw [h2];exact qQ) fh
 | vs id n bB cap sz t hn bZ hc qQ fh=>
  obtain ⟨h1,h2⟩:=Ec id bZ;simp only [AV.dA];rw [← h2];exact .vs (ρ id) n bB cap sz t hn h1 hc (by rw [h2];exact qQ) fh
 | sb id bB a=>simp only [AV.dA];exact .sb _ bB a
 | bp id off bZ=>obtain ⟨h1,h2⟩:=Ec id bZ;simp only [AV.dA];rw [← h2];exact .bp _ off h1
 | rp id bB i j bZ=>obtain ⟨h1,h2⟩:=Ec id bZ;simp only [AV.dA];rw [← h2];exact .rp _ bB i j h1
 | mp id bZ=>obtain ⟨h1,h2⟩:=Ec id bZ;simp only [AV.dA];rw [← h2];exact .mp _ h1
 | oR t a v _ ih=>simp only [AV.dA];exact .oR t _ v (ih Ec)
 | fn f xs ys vs us h h' _ _ ih ih'=>
  simp only [AV.dA];exact .fn f _ _ vs us (by rw [e_];exact h) (by rw [e_];exact h') (fun i hi=>by rw [e_] at hi;rw [wR _ _ _ hi];exact ih i hi Ec)
   fun i hi=>by rw [e_] at hi;rw [wR _ _ _ hi];exact ih' i hi Ec
 | wh c a v _ ih=>simp only [AV.dA];exact .wh c _ v fun hc=>ih hc Ec
def jz.dA (ρ:Nat→Nat):jz→jz
 | .box l=>.box (FH ρ l)
 | .de v bB n e=>.de v bB n fun i j=>(e i j).dA ρ
 | b=>b
theorem jz.Nb (ρ:Nat→Nat) (b:jz):(b.dA ρ).eQ=b.eQ:=by
 cases b with
 | row v=>cases v<;>rfl
 | de v=>cases v<;>rfl
 | _=>rfl
theorem jy.any {S:Nat→Prop} {a:AV} {v:Value} (h:jy w F μ S a v):jy w F aZ S a v:=h.mono (fun _ _=>rfl) (fun _ h=>h) fun _ _=>rfl
theorem jy.dA {S:Nat→Prop} {a:AV} {v:Value} (ρ:Nat→Nat) (k:jy w F μ S a v):jy w F aZ S (a.dA ρ) v:=by
 cases k with
 | Ip S a v hv hS=>exact .Ip _ _ _ (hv.dA (ρ:=ρ) (K':=Cv) (aZ:=aZ) fun id h=>h.elim) hS
 | AK S tJ e' a hS=>exact .AK _ _ _ _ hS
 | os T tJ n' e' b cap cs' t' S Jb hb hc C2 q1 q2 hd hn hT=>exact (jy.os _ tJ n' e' b cap cs' t' S Jb hb hc C2 q1 q2 hd hn hT).any
theorem hP.dA {ρ:Nat→Nat} {S:Nat→Prop} {n:Nat} {o:Obj} {b:jz} (h:hP w F μ K S n o b) (Ec:∀ id,K id→K' (ρ id)∧aZ (ρ id)=μ id):hP w F aZ K' S n o (b.dA ρ):=by
 cases b with
 | box l=>
  obtain ⟨cs,t,h1,h2,h3,h4⟩:=h;exact ⟨cs,t,h1,h2,by rw [e_];exact h3,fun j hj=>by rw [e_] at hj;rw [wR _ _ _ hj];exact (h4 j hj).dA Ec⟩
 | row v bB m e=>
  obtain ⟨cs,t,S',h1,h2⟩:=h;exact ⟨cs,t,S',h1,{ h2 with cell:=fun i j hi hj=>⟨(h2.cell i j hi hj).1.any,(h2.cell i j hi hj).2⟩ }⟩
 | de v bB m e=>
  obtain ⟨cs,t,S',h1,h2⟩:=h;refine ⟨cs,t,S',h1,{ h2 with cell:=fun i j hi hj=>⟨(h2.cell i j hi hj).1.imp (fun k=>?_) fun k=>⟨k.1.dA Ec,k.2⟩,(h2.cell i j hi hj).2⟩ }⟩;exact k.dA ρ
 | map l=>
  obtain ⟨es,clock,h1,h2,h3,h4,h5⟩:=h;exact ⟨es,clock,h1,h2,h3,fun i hi=>⟨(h4 i hi).1,(h4 i hi).2.1.up,(h4 i hi).2.2.up⟩,h5⟩
 | G5 l j0 st=>
  obtain ⟨es,clock,h1,h2,h3,h4,h5,h6⟩:=h;exact ⟨es,clock,h1,h2,h3,fun i hi=>⟨(h4 i hi).1,(h4 i hi).2.1.up,(h4 i hi).2.2.up⟩,h5,h6⟩
inductive C3 where
 | ret (r:AV)
 | zU (r:AV)
def C3.av:C3→AV
 | .ret r | .zU r=>r
def C3.is (e:C3) (v:Value):Ending:=match e with
 | .ret _=>.returned v
 | .zU _=>.panicked [{ v,recovered:=false }]
abbrev Nc:Type:=FuncId→Array Value→World→(Ending→World→Prop)→Prop
def Nc.up (C:Nc):Prop:=∀ (f:FuncId) (xs:Array Value) (w:World) (R R':Ending→World→Prop),C f xs w R→(∀ e w',R e w'→R' e w')→C f xs w R'
def GCm (C:Nc) (P:Program) (f:FuncId) (m:Nat) (args:List AV) (H:Hp) (e:C3) (m':Nat) (H':Hp):Prop:=
 m≤m'∧(∀ (xs:Array Value) (w:World),(callFunc f xs).run P w=.ok (.enter f xs) w)∧
 ∀ (w:World) (F O:Nat→Prop) (μ:Nat→Nat) (ft:Nat→Nat→Prop) (gp:List Value),gZ w F μ (below m) args gp→HR w F O μ (below m) H ft→
  C f ⟨gp⟩ w fun en w'=>∃ v F' O' aZ bX,en=e.is v∧VR w' F' aZ (below m') e.av v∧HR w' F' O' aZ (below m') H' bX∧Fr w F O μ (below m) w' F' O' aZ
abbrev GC (P:Program):=GCm (Calls P) P
def oq (ids:List Nat) (N:Nat) (j:Nat):Nat:=match ids[j]? with
 | some id=>id
 | none=>N+(j-ids.length)
theorem ql {ids:List Nat} {N j:Nat} (h:j < ids.length):oq ids N j=ids[j]:=by simp [oq,h]
theorem vp {ids:List Nat} {N j:Nat} (h:ids.length≤j):oq ids N j=N+(j-ids.length):=by simp [oq,h]
def V_ (ids:List Nat) (N m':Nat) (H':Hp):List (Nat×Option jz):=(List.range m').map fun j=>(oq ids N j,(H' j).map (jz.dA (oq ids N)))
def Wa (a:AV):Prop:=∀ {w F F' μ K v},VR w F μ K a v→VR w F' μ K a v
def NfB (b:jz):Prop:=∀ {w F F' μ K S n o},hP w F μ K S n o b→(∀ x,S x→x≠n→¬ F' x)→hP w F' μ K S n o b
theorem J1 {ids:List Nat} (h:ids.Nodup) {i j:Nat} (hi:i < ids.length) (hj:j < ids.length) (e:ids[i]=ids[j]):i=j:=by
 exact (List.getElem_inj h).1 e
open Classical in
theorem ZM {C:Nc} (hC:C.up) {s:fG} {ids ld:List Nat} {N:Nat} {Hc H1:Hp} {f:FuncId} {args:List AV} {e:C3} {m':Nat} {act:Act} {gp:List Value} (hg:GCm C P f ids.length args Hc e m' H1) (zg:ids.Nodup)
  (hand:∀ j b',Hc j=some b'→∃ id,ids[j]?=some id∧∃ b,s.H id=some b∧(b'.eQ=true→b.eQ=true)∧∀ {S n o},hP w F μ K S n o b→hP w (fun b=>F b∨∃ id,id∈ld∧s.H.live id∧ft id b) (fun j=>μ (oq ids N j)) (below ids.length) S n o b') (hs:SR w F O μ K s ft act) (hK:∀ id,id∈ids→K id) (BQ:∀ id,id∈List.range' N (m'-ids.length)→¬ K id) (hld:∀ id,id∈ld→id ∉ ids)
  (x7:gZ w (fun b=>F b∨∃ id,id∈ld∧s.H.live id∧ft id b) (fun j=>μ (oq ids N j)) (below ids.length) args gp)
  (YH:ld=[]∨(Wa e.av∧∀ j b,H1 j=some b→NfB b)):
  C f ⟨gp⟩ w fun en w'=>∃ v F' O' aZ bX,en=e.is v∧VR w' F' aZ (plus K (List.range' N (m'-ids.length))) (e.av.dA (oq ids N)) v∧
   HR w' F' O' aZ (plus K (List.range' N (m'-ids.length))) (s.H.c_ (V_ ids N m' H1)) bX∧Fr w F O μ K w' F' O' aZ:=by
 obtain ⟨hmm,-,hg⟩:=hg;have hr:=hs.hr
 let ρ:=oq ids N
 let F1:Nat→Prop:=fun b=>F b∨∃ id,id∈ld∧s.H.live id∧ft id b
 let H0:Hp:=fun id=>if id∈ids then s.H id else none
 have KS:Part H0 s.H:=fun id=>by
  simp only [H0];split
  ·exact .inr rfl
  ·exact .inl rfl
 have h0:=hr.part KS;have inF:∀ b,F b→F1 b:=fun b h=>.inl h;have adX:∀ x,Lm H0 ft x→¬ F1 x:=by
  rintro x ⟨id,hl,hx⟩ (h | ⟨BP,h1,h2,h3⟩)
  ·exact hr.yl x (hr.own id (KS.live hl) x hx) h
  ·have:=hr.dj id BP (KS.live hl) h2 x hx h3;subst this;obtain ⟨b,hb,_⟩:=hl;simp only [H0,if_neg (hld id h1)] at hb;cases hb
 have rlt:∀ j,j < ids.length→ρ j∈ids∧K (ρ j):=fun j hj=>by
  have e1:ρ j=ids[j]:=ql hj;rw [e1];exact ⟨List.getElem_mem hj,hK _ (List.getElem_mem hj)⟩
 have hc:HR w F1 (Lm H0 ft) (fun j=>μ (ρ j)) (below ids.length) Hc (fun j=>ft (ρ j)):=by
  have lv:∀ j,Hc.live j→j < ids.length∧H0.live (ρ j):=by
   rintro j ⟨b',ck,hl⟩
   obtain ⟨id,h1,b,h2,h3,_⟩:=hand j b' ck;have hj:j < ids.length:=(List.getElem?_eq_some_iff.1 h1).1;have e1:ρ j=id:=by
    have:=ql (N:=N) hj;rw [List.getElem?_eq_getElem hj] at h1;simp only [Option.some.injEq] at h1;exact this.trans h1
   refine ⟨hj,b,?_,h3 hl⟩;simp only [H0,e1,if_pos (e1▸(rlt j hj).1),h2]
  refine { lt:=fun j hj=>hr.lt _ (rlt j hj).2,known:=fun j b hb=>?_,du:=fun j b' ck hl=>?_,self:=fun j hl=>hr.self _ (KS.live (lv j hl).2),own:=fun j hl x hx=>⟨_,(lv j hl).2,hx⟩,dj:=fun j j' hl BM x hx la=>?_,yl:=fun b hb hF=>adX b hb hF,wf:=?_,qS:=h0.qS,pos:=hr.pos.mono (Nat.le_refl _) inF fun _ _=>rfl }
  ·obtain ⟨id,h1,_⟩:=hand j b hb;exact (List.getElem?_eq_some_iff.1 h1).1
  ·obtain ⟨id,h1,b,h2,h3,h4⟩:=hand j b' ck;have hj:j < ids.length:=(List.getElem?_eq_some_iff.1 h1).1;have e1:ρ j=id:=by
    have:=ql (N:=N) hj;rw [List.getElem?_eq_getElem hj] at h1;simp only [Option.some.injEq] at h1;exact this.trans h1
   obtain ⟨o,ho,hB⟩:=hr.du id b h2 (h3 hl);refine ⟨o,by show w.heap[μ (ρ j)]?=_;rw [e1];exact ho,?_⟩;have:=h4 hB;show hP w F1 (fun j=>μ (ρ j)) (below ids.length) (ft (ρ j)) (μ (ρ j)) o b';rw [e1];exact this
  ·have h1:=hr.dj _ _ (KS.live (lv j hl).2) (KS.live (lv j' BM).2) x hx la;have hj:=(lv j hl).1;have mi:=(lv j' BM).1;have e1:ρ j=ids[j]:=ql hj;have e2:ρ j'=ids[j']:=ql mi;exact J1 zg hj mi (by rw [← e1,← e2];exact h1)
  ·rintro b (h | ⟨id,_,h2,h3⟩)
   ·exact hr.wf b h
   ·exact hr.qS b (hr.own id h2 b h3)
 refine hC _ _ _ _ _ (hg w F1 (Lm H0 ft) _ _ gp x7 hc) ?_
 rintro en w' ⟨v,YF,O',ZN,ft0,he,hv,C_,hf⟩
 have ahb:∀ j j',j < m'→j' < m'→ρ j=ρ j'→j=j':=by
  intro j j' hj mi h;by_cases h1:j < ids.length<;>by_cases h2:j' < ids.length
  ·have e1:ρ j=ids[j]:=ql h1;have e2:ρ j'=ids[j']:=ql h2;exact J1 zg h1 h2 (by rw [← e1,← e2];exact h)
  ·have e2:ρ j'=N+(j'-ids.length):=vp (by omega);exact absurd ((rlt j h1).2) (h▸e2▸BQ _ (by simp only [List.mem_range'_1];omega))
  ·have e1:ρ j=N+(j-ids.length):=vp (by omega);exact absurd ((rlt j' h2).2) (h▸e1▸BQ _ (by simp only [List.mem_range'_1];omega))
  ·have e1:ρ j=N+(j-ids.length):=vp (by omega);have e2:ρ j'=N+(j'-ids.length):=vp (by omega);omega
 let K2:=plus K (List.range' N (m'-ids.length))
 have afh:∀ j,j < m'→K2 (ρ j):=by
  intro j hj;by_cases h1:j < ids.length
  ·exact .inl (rlt j h1).2
  ·have e1:ρ j=N+(j-ids.length):=vp (by omega);refine .inr ?_;rw [e1];simp only [List.mem_range'_1];omega
 let zl:Nat→Nat:=fun id=>if K id then μ id else ZN (id-N+ids.length)
 have mu2:∀ j,j < m'→zl (ρ j)=ZN j:=by
  intro j hj;by_cases h1:j < ids.length
  ·simp only [zl,if_pos (rlt j h1).2];exact (hf.mu j h1).symm
  ·have e1:ρ j=N+(j-ids.length):=vp (by omega);have:¬ K (ρ j):=e1▸BQ _ (by simp only [List.mem_range'_1];omega);have h3:ρ j-N+ids.length=j:=by rw [e1];omega
   simp only [zl,if_neg this,h3]
 have Ec:∀ j,below m' j→K2 (ρ j)∧zl (ρ j)=ZN j:=fun j hj=>⟨afh j hj,mu2 j hj⟩;have c_:∀ id,(∃ j,j < m'∧ρ j=id∧H0.c_ (V_ ids N m' H1) id=(H1 j).map (jz.dA ρ)∧∀ Hx:Hp,Hx.c_ (V_ ids N m' H1) id=H0.c_ (V_ ids N m' H1) id)∨((∀ j,j < m'→ρ j≠id)∧∀ Hx:Hp,Hx.c_ (V_ ids N m' H1) id=Hx id):=by
  have key:∀ (l:List Nat),(∀ j,j∈l→j < m')→∀ id,(∃ j,j∈l∧ρ j=id∧∀ Hx:Hp,Hx.c_ (l.map fun j=>(ρ j,(H1 j).map (jz.dA ρ))) id=(H1 j).map (jz.dA ρ))∨((∀ j,j∈l→ρ j≠id)∧∀ Hx:Hp,Hx.c_ (l.map fun j=>(ρ j,(H1 j).map (jz.dA ρ))) id=Hx id):=by
   intro l
   induction l with
   | nil=>exact fun _ id=>.inr ⟨fun j hj=>(by cases hj),fun _=>rfl⟩
   | cons x l ih=>
    intro hl id;by_cases e:id=ρ x
    ·exact .inl ⟨x,by simp,e.symm,fun Hx=>by simp only [List.map_cons,Hp.c_,if_pos e]⟩
    ·rcases ih (fun j hj=>hl j (by simp [hj])) id with ⟨j,h1,h2,h3⟩ | ⟨h1,h2⟩
     ·exact .inl ⟨j,by simp [h1],h2,fun Hx=>by simp only [List.map_cons,Hp.c_,if_neg e];exact h3 Hx⟩
     ·refine .inr ⟨fun j hj=>?_,fun Hx=>by simp only [List.map_cons,Hp.c_,if_neg e];exact h2 Hx⟩;rcases List.mem_cons.1 hj with h | h
      ·rw [h];exact fun h=>e h.symm
      ·exact h1 j h
  intro id;rcases key (List.range m') (fun j hj=>by simpa using hj) id with ⟨j,h1,h2,h3⟩ | ⟨h1,h2⟩
  ·exact .inl ⟨j,by simpa using h1,h2,h3 H0,fun Hx=>(h3 Hx).trans (h3 H0).symm⟩
  ·exact .inr ⟨fun j hj=>h1 j (by simpa using hj),h2⟩
 have abr:∀ id b,H0.c_ (V_ ids N m' H1) id=some b→∃ j b0,j < m'∧ρ j=id∧H1 j=some b0∧b=b0.dA ρ:=by
  intro id b hb;rcases c_ id with ⟨j,h1,h2,h3,_⟩ | ⟨h1,h2⟩
  ·rw [h3] at hb;cases hj:H1 j with
   | none=>rw [hj] at hb;cases hb
   | some b0=>rw [hj] at hb;exact ⟨j,b0,h1,h2,hj,by simpa using hb.symm⟩
  ·rw [h2] at hb;simp only [H0] at hb;split at hb
   ·rename_i hm;obtain ⟨j,hj,e1⟩:=List.getElem_of_mem hm;exact absurd ((ql (N:=N) hj).trans e1) (h1 j (by omega))
   ·cases hb
 have abt:∀ id,Hp.live (H0.c_ (V_ ids N m' H1)) id→∃ j,j < m'∧ρ j=id∧H1.live j:=by
  rintro id ⟨b,hb,hl⟩
  obtain ⟨j,b0,h1,h2,h3,rfl⟩:=abr id b hb;exact ⟨j,h1,h2,b0,h3,by rw [jz.Nb] at hl;exact hl⟩
 let EJ:Nat→Nat→Prop:=fun id x=>∃ j,j < m'∧ρ j=id∧ft0 j x
 have XN:∀ j,j < m'→EJ (ρ j)=ft0 j:=fun j hj=>by
  funext x;simp only [EJ,eq_iff_iff];exact ⟨fun ⟨j',h1,h2,h3⟩=>ahb j' j h1 hj h2▸h3,fun h=>⟨j,hj,rfl,h⟩⟩
 have ZL:HR w' YF O' zl K2 (H0.c_ (V_ ids N m' H1)) EJ:=by
  refine { lt:=?_,known:=?_,du:=?_,self:=?_,own:=?_,dj:=?_,yl:=C_.yl,wf:=C_.wf,qS:=C_.qS,pos:=C_.pos }
  ·rintro id (h | h)
   ·simp only [zl,if_pos h];exact Nat.lt_of_lt_of_le (hr.lt id h) hf.size
   ·simp only [zl,if_neg (BQ id h)];have h5:N≤id∧id < N+(m'-ids.length):=by simpa only [List.mem_range'_1] using h
    exact C_.lt _ (show id-N+ids.length < m' by omega)
  ·intro id b hb;obtain ⟨j,b0,h1,rfl,_⟩:=abr id b hb;exact afh j h1
  ·intro id b hb hl;obtain ⟨j,b0,h1,rfl,h3,rfl⟩:=abr id b hb;rw [jz.Nb] at hl;obtain ⟨o,ho,hB⟩:=C_.du j b0 h3 hl;rw [mu2 j h1,XN j h1];exact ⟨o,ho,hB.dA Ec⟩
  ·intro id hl;obtain ⟨j,h1,rfl,h2⟩:=abt id hl;rw [mu2 j h1,XN j h1];exact C_.self j h2
  ·intro id hl x hx;obtain ⟨j,h1,rfl,h2⟩:=abt id hl;rw [XN j h1] at hx;exact C_.own j h2 x hx
  ·intro id b9 hl BM x hx la;obtain ⟨j,h1,rfl,h2⟩:=abt id hl;obtain ⟨j',k1,rfl,k2⟩:=abt b9 BM;rw [XN j h1] at hx;rw [XN j' k1] at la;rw [C_.dj j j' h2 k2 x hx la]
 have hf2:Fr w F1 (Lm H0 ft) μ K w' YF O' zl:={ hf with mu:=fun id bZ=>by simp only [zl,if_pos bZ] };rcases YH with rfl | ⟨Ja,VJ⟩
 ·have eF:∀ b,F1 b→F b:=by
   rintro b (h | ⟨_,h,_⟩)
   ·exact h
   ·cases h
  obtain ⟨O2,ft3,k1,k2⟩:=UI (F1:=F1) (YF:=YF) (F2:=YF) hr KS (fun id h=>.inl h) ZL hf2 inF (fun b hb=>hf.zK b (inF b hb)) (fun _ h=>h)
   (fun b hb=>(hf.G6 b hb).imp (eF b) id) ZL.du
  exact ⟨v,YF,O2,zl,ft3,he,hv.dA Ec,k1,k2⟩
 ·obtain ⟨O2,ft3,k1,k2⟩:=UI (F1:=F1) (YF:=YF) (F2:=F) hr KS (fun id h=>.inl h) ZL hf2 inF (fun _ h=>h) (fun b hb=>hf.zK b (inF b hb))
   (fun b hb=>.inl hb) (fun id b hb hl=>by
    obtain ⟨j,b0,h1,rfl,h3,rfl⟩:=abr id b hb;have hl0:b0.eQ=true:=by rw [jz.Nb] at hl;exact hl
    obtain ⟨o,ho,hB⟩:=C_.du j b0 h3 hl0;refine ⟨o,by rw [mu2 j h1];exact ho,?_⟩;rw [mu2 j h1,XN j h1];exact (VJ j b0 h3 hB fun x hx _ hF=>C_.yl x (C_.own j ⟨b0,h3,hl0⟩ x hx) (hf.zK x (inF x hF))).dA Ec)
  exact ⟨v,F,O2,zl,ft3,he,(Ja hv).dA Ec,k1,k2⟩
end Go.Proofs.YtjkbbdldmdajkaaGreatDoor.c5
