/- Blocks named anew; the contract of a call, and what a call does to a state. No condition. -/
import Derived.Test.YtljfmaaadnoggaaVF
namespace Go.Proofs.Ytljfmaaadnoggaa.Abs
open Go Go.RowKit
variable {w w' w'':World} {F F' F'' O O' O'':Nat→Prop} {μ μ' μ'':Nat→Nat} {K K' K'':Nat→Prop} {H H' H'':Hp} {ft ft':Nat→Nat→Prop} {P:Program}
def below (N:Nat):Nat→Prop:=fun id=>id < N
theorem below_plus (N k:Nat):plus (below N) (List.range' N k)=below (N+k):=by
 funext id
 simp only [plus,below,List.mem_range'_1,eq_iff_iff]
 omega
mutual
def AV.ren (ρ:Nat→Nat):AV→AV
 | .agg cs=>.agg (renL ρ cs)
 | .tup cs=>.tup (renL ρ cs)
 | .ms id i n e=>.ms (ρ id) i n e
 | .vs id n e=>.vs (ρ id) n e
 | .bp id o=>.bp (ρ id) o
 | .rp id e i j=>.rp (ρ id) e i j
 | .mp id=>.mp (ρ id)
 | .ifc t a=>.ifc t (a.ren ρ)
 | .fn f xs ys=>.fn f (renL ρ xs) (renL ρ ys)
 | .wh c a=>.wh c (a.ren ρ)
 | a=>a
def renL (ρ:Nat→Nat):List AV→List AV
 | []=>[]
 | a::r=>a.ren ρ::renL ρ r
end
theorem renL_map (ρ:Nat→Nat):∀ l:List AV,renL ρ l=l.map (AV.ren ρ)
 | []=>by simp [renL]
 | a::r=>by simp [renL,renL_map ρ r]
theorem renL_getD (ρ:Nat→Nat) (l:List AV) (i:Nat) (h:i < l.length):(renL ρ l).getD i .top=(l.getD i .top).ren ρ:=by
 rw [renL_map];simp [List.getD,h]
theorem renL_length (ρ:Nat→Nat) (l:List AV):(renL ρ l).length=l.length:=by rw [renL_map];simp
theorem VR.ren {ρ:Nat→Nat} {a:AV} {v:Value} (h:VR w F μ K a v) (hρ:∀ id,K id→K' (ρ id)∧μ' (ρ id)=μ id):VR w F μ' K' (a.ren ρ) v:=by
 induction h generalizing K' with
 | top v=>simp only [AV.ren];exact .top v
 | lit v=>simp only [AV.ren];exact .lit v
 | int k n=>simp only [AV.ren];exact .int k n
 | bool b=>simp only [AV.ren];exact .bool b
 | str s=>simp only [AV.ren];exact .str s
 | nils=>simp only [AV.ren];exact .nils
 | agg cs vs h _ ih=>simp only [AV.ren];exact .agg _ vs (by rw [renL_length];exact h) fun i hi=>by rw [renL_length] at hi;rw [renL_getD _ _ _ hi];exact ih i hi hρ
 | tup cs vs h _ ih=>simp only [AV.ren];exact .tup _ vs (by rw [renL_length];exact h) fun i hi=>by rw [renL_length] at hi;rw [renL_getD _ _ _ hi];exact ih i hi hρ
 | fs esz n e b o cap u hb hc hu hv ih=>simp only [AV.ren];exact .fs esz n e b o cap u hb hc hu fun i j hi hj=>(hv i j hi hj).up
 | fsnil esz e a cap=>simp only [AV.ren];exact .fsnil esz e a cap
 | fp esz e off b o u hb hu hv ih=>simp only [AV.ren];exact .fp esz e off b o u hb hu fun j hj=>(hv j hj).up
 | ms id i n esz cap sz t hid hc hsh hsz=>
  obtain ⟨h1,h2⟩:=hρ id hid
  simp only [AV.ren]
  rw [← h2]
  exact .ms (ρ id) i n esz cap sz t h1 hc (by rw [h2];exact hsh) hsz
 | vs id n esz cap sz t hn hid hc hsh hsz=>
  obtain ⟨h1,h2⟩:=hρ id hid
  simp only [AV.ren]
  rw [← h2]
  exact .vs (ρ id) n esz cap sz t hn h1 hc (by rw [h2];exact hsh) hsz
 | vsnil id esz a=>simp only [AV.ren];exact .vsnil _ esz a
 | bp id off hid=>obtain ⟨h1,h2⟩:=hρ id hid;simp only [AV.ren];rw [← h2];exact .bp _ off h1
 | rp id esz i j hid=>obtain ⟨h1,h2⟩:=hρ id hid;simp only [AV.ren];rw [← h2];exact .rp _ esz i j h1
 | mp id hid=>obtain ⟨h1,h2⟩:=hρ id hid;simp only [AV.ren];rw [← h2];exact .mp _ h1
 | ifc t a v _ ih=>simp only [AV.ren];exact .ifc t _ v (ih hρ)
 | fn f xs ys vs us h h' _ _ ih ih'=>
  simp only [AV.ren]
  exact .fn f _ _ vs us (by rw [renL_length];exact h) (by rw [renL_length];exact h') (fun i hi=>by rw [renL_length] at hi;rw [renL_getD _ _ _ hi];exact ih i hi hρ)
   fun i hi=>by rw [renL_length] at hi;rw [renL_getD _ _ _ hi];exact ih' i hi hρ
 | wh c a v _ ih=>simp only [AV.ren];exact .wh c _ v fun hc=>ih hc hρ
def Blk.ren (ρ:Nat→Nat):Blk→Blk
 | .box l=>.box (renL ρ l)
 | .hrow v esz n e=>.hrow v esz n fun i j=>(e i j).ren ρ
 | b=>b
theorem Blk.ren_lies (ρ:Nat→Nat) (b:Blk):(b.ren ρ).lies=b.lies:=by
 cases b with
 | row v=>cases v<;>rfl
 | hrow v=>cases v<;>rfl
 | _=>rfl
theorem OwnR.any {S:Nat→Prop} {a:AV} {v:Value} (h:OwnR w F μ S a v):OwnR w F μ' S a v:=h.mono (fun _ _=>rfl) (fun _ h=>h) fun _ _=>rfl
theorem OwnR.ren {S:Nat→Prop} {a:AV} {v:Value} (ρ:Nat→Nat) (k:OwnR w F μ S a v):OwnR w F μ' S (a.ren ρ) v:=by
 cases k with
 | clo S a v hv hS=>exact .clo _ _ _ (hv.ren (ρ:=ρ) (K':=NoK) (μ':=μ') fun id h=>h.elim) hS
 | osnil S esz' e' a hS=>exact .osnil _ _ _ _ hS
 | os T esz' n' e' b cap cs' t' S hn0 hb hc hcs q1 q2 hd hn hT=>exact (OwnR.os _ esz' n' e' b cap cs' t' S hn0 hb hc hcs q1 q2 hd hn hT).any
theorem BlkR.ren {ρ:Nat→Nat} {S:Nat→Prop} {n:Nat} {o:Obj} {b:Blk} (h:BlkR w F μ K S n o b) (hρ:∀ id,K id→K' (ρ id)∧μ' (ρ id)=μ id):BlkR w F μ' K' S n o (b.ren ρ):=by
 cases b with
 | box l=>
  obtain ⟨cs,t,h1,h2,h3,h4⟩:=h
  exact ⟨cs,t,h1,h2,by rw [renL_length];exact h3,fun j hj=>by rw [renL_length] at hj;rw [renL_getD _ _ _ hj];exact (h4 j hj).ren hρ⟩
 | row v esz m e=>
  obtain ⟨cs,t,S',h1,h2⟩:=h
  exact ⟨cs,t,S',h1,{ h2 with cell:=fun i j hi hj=>⟨(h2.cell i j hi hj).1.any,(h2.cell i j hi hj).2⟩ }⟩
 | hrow v esz m e=>
  obtain ⟨cs,t,S',h1,h2⟩:=h
  refine ⟨cs,t,S',h1,{ h2 with cell:=fun i j hi hj=>⟨(h2.cell i j hi hj).1.imp (fun k=>?_) fun k=>⟨k.1.ren hρ,k.2⟩,(h2.cell i j hi hj).2⟩ }⟩
  exact k.ren ρ
 | map l=>
  obtain ⟨es,clock,h1,h2,h3,h4,h5⟩:=h
  exact ⟨es,clock,h1,h2,h3,fun i hi=>⟨(h4 i hi).1,(h4 i hi).2.1.up,(h4 i hi).2.2.up⟩,h5⟩
 | mapz l j0 st=>
  obtain ⟨es,clock,h1,h2,h3,h4,h5,h6⟩:=h
  exact ⟨es,clock,h1,h2,h3,fun i hi=>⟨(h4 i hi).1,(h4 i hi).2.1.up,(h4 i hi).2.2.up⟩,h5,h6⟩
inductive GEnd where
 | ret (r:AV)
 | pan (r:AV)
def GEnd.av:GEnd→AV
 | .ret r | .pan r=>r
def GEnd.is (e:GEnd) (v:Value):Ending:=match e with
 | .ret _=>.returned v
 | .pan _=>.panicked [{ v,recovered:=false }]
def GC (P:Program) (f:FuncId) (m:Nat) (args:List AV) (H:Hp) (e:GEnd) (m':Nat) (H':Hp):Prop:=
 m≤m'∧(∀ (xs:Array Value) (w:World),(callFunc f xs).run P w=.ok (.enter f xs) w)∧
 ∀ (w:World) (F O:Nat→Prop) (μ:Nat→Nat) (ft:Nat→Nat→Prop) (cargs:List Value),VRs w F μ (below m) args cargs→HR w F O μ (below m) H ft→
  Calls P f ⟨cargs⟩ w fun en w'=>∃ v F' O' μ' ft',en=e.is v∧VR w' F' μ' (below m') e.av v∧HR w' F' O' μ' (below m') H' ft'∧Fr w F O μ (below m) w' F' O' μ'
def rho (ids:List Nat) (N:Nat) (j:Nat):Nat:=match ids[j]? with
 | some id=>id
 | none=>N+(j-ids.length)
theorem rho_lt {ids:List Nat} {N j:Nat} (h:j < ids.length):rho ids N j=ids[j]:=by simp [rho,h]
theorem rho_ge {ids:List Nat} {N j:Nat} (h:ids.length≤j):rho ids N j=N+(j-ids.length):=by simp [rho,h]
def ups (ids:List Nat) (N m':Nat) (H':Hp):List (Nat×Option Blk):=(List.range m').map fun j=>(rho ids N j,(H' j).map (Blk.ren (rho ids N)))
def NfV (a:AV):Prop:=∀ {w F F' μ K v},VR w F μ K a v→VR w F' μ K a v
def NfB (b:Blk):Prop:=∀ {w F F' μ K S n o},BlkR w F μ K S n o b→(∀ x,S x→x≠n→¬ F' x)→BlkR w F' μ K S n o b
theorem nodup_idx {ids:List Nat} (h:ids.Nodup) {i j:Nat} (hi:i < ids.length) (hj:j < ids.length) (e:ids[i]=ids[j]):i=j:=by
 exact (List.getElem_inj h).1 e
open Classical in
theorem enter_ok {s:SSt} {ids ld:List Nat} {N:Nat} {Hc H1:Hp} {f:FuncId} {args:List AV} {e:GEnd} {m':Nat} {act:Act} {cargs:List Value} (hg:GC P f ids.length args Hc e m' H1) (hnd:ids.Nodup)
  (hand:∀ j b',Hc j=some b'→∃ id,ids[j]?=some id∧∃ b,s.H id=some b∧(b'.lies=true→b.lies=true)∧∀ {S n o},BlkR w F μ K S n o b→BlkR w (fun b=>F b∨∃ id,id∈ld∧s.H.live id∧ft id b) (fun j=>μ (rho ids N j)) (below ids.length) S n o b') (hs:SR w F O μ K s ft act) (hK:∀ id,id∈ids→K id) (hnew:∀ id,id∈List.range' N (m'-ids.length)→¬ K id) (hld:∀ id,id∈ld→id ∉ ids)
  (hargs:VRs w (fun b=>F b∨∃ id,id∈ld∧s.H.live id∧ft id b) (fun j=>μ (rho ids N j)) (below ids.length) args cargs)
  (hnf:ld=[]∨(NfV e.av∧∀ j b,H1 j=some b→NfB b)):
  Calls P f ⟨cargs⟩ w fun en w'=>∃ v F' O' μ' ft',en=e.is v∧VR w' F' μ' (plus K (List.range' N (m'-ids.length))) (e.av.ren (rho ids N)) v∧
   HR w' F' O' μ' (plus K (List.range' N (m'-ids.length))) (s.H.upd (ups ids N m' H1)) ft'∧Fr w F O μ K w' F' O' μ':=by
 obtain ⟨hmm,-,hg⟩:=hg
 have hr:=hs.hr
 let ρ:=rho ids N
 let F1:Nat→Prop:=fun b=>F b∨∃ id,id∈ld∧s.H.live id∧ft id b
 let H0:Hp:=fun id=>if id∈ids then s.H id else none
 have part0:Part H0 s.H:=fun id=>by
  simp only [H0]
  split
  ·exact .inr rfl
  ·exact .inl rfl
 have h0:=hr.part part0
 have inF:∀ b,F b→F1 b:=fun b h=>.inl h
 have footIn:∀ x,foot H0 ft x→¬ F1 x:=by
  rintro x ⟨id,hl,hx⟩ (h | ⟨id2,h1,h2,h3⟩)
  ·exact hr.nof x (hr.own id (part0.live hl) x hx) h
  ·have:=hr.dj id id2 (part0.live hl) h2 x hx h3
   subst this
   obtain ⟨b,hb,_⟩:=hl
   simp only [H0,if_neg (hld id h1)] at hb
   cases hb
 have rlt:∀ j,j < ids.length→ρ j∈ids∧K (ρ j):=fun j hj=>by
  have e1:ρ j=ids[j]:=rho_lt hj
  rw [e1]
  exact ⟨List.getElem_mem hj,hK _ (List.getElem_mem hj)⟩
 have hc:HR w F1 (foot H0 ft) (fun j=>μ (ρ j)) (below ids.length) Hc (fun j=>ft (ρ j)):=by
  have lv:∀ j,Hc.live j→j < ids.length∧H0.live (ρ j):=by
   rintro j ⟨b',hb',hl⟩
   obtain ⟨id,h1,b,h2,h3,_⟩:=hand j b' hb'
   have hj:j < ids.length:=(List.getElem?_eq_some_iff.1 h1).1
   have e1:ρ j=id:=by
    have:=rho_lt (N:=N) hj
    rw [List.getElem?_eq_getElem hj] at h1
    simp only [Option.some.injEq] at h1
    exact this.trans h1
   refine ⟨hj,b,?_,h3 hl⟩
   simp only [H0,e1,if_pos (e1▸(rlt j hj).1),h2]
  refine { lt:=fun j hj=>hr.lt _ (rlt j hj).2,known:=fun j b hb=>?_,blk:=fun j b' hb' hl=>?_,self:=fun j hl=>hr.self _ (part0.live (lv j hl).2),own:=fun j hl x hx=>⟨_,(lv j hl).2,hx⟩,dj:=fun j j' hl hl' x hx hx'=>?_,nof:=fun b hb hF=>footIn b hb hF,wf:=?_,owf:=h0.owf,pos:=hr.pos.mono (Nat.le_refl _) inF fun _ _=>rfl }
  ·obtain ⟨id,h1,_⟩:=hand j b hb
   exact (List.getElem?_eq_some_iff.1 h1).1
  ·obtain ⟨id,h1,b,h2,h3,h4⟩:=hand j b' hb'
   have hj:j < ids.length:=(List.getElem?_eq_some_iff.1 h1).1
   have e1:ρ j=id:=by
    have:=rho_lt (N:=N) hj
    rw [List.getElem?_eq_getElem hj] at h1
    simp only [Option.some.injEq] at h1
    exact this.trans h1
   obtain ⟨o,ho,hB⟩:=hr.blk id b h2 (h3 hl)
   refine ⟨o,by show w.heap[μ (ρ j)]?=_;rw [e1];exact ho,?_⟩
   have:=h4 hB
   show BlkR w F1 (fun j=>μ (ρ j)) (below ids.length) (ft (ρ j)) (μ (ρ j)) o b'
   rw [e1]
   exact this
  ·have h1:=hr.dj _ _ (part0.live (lv j hl).2) (part0.live (lv j' hl').2) x hx hx'
   have hj:=(lv j hl).1
   have hj':=(lv j' hl').1
   have e1:ρ j=ids[j]:=rho_lt hj
   have e2:ρ j'=ids[j']:=rho_lt hj'
   exact nodup_idx hnd hj hj' (by rw [← e1,← e2];exact h1)
  ·rintro b (h | ⟨id,_,h2,h3⟩)
   ·exact hr.wf b h
   ·exact hr.owf b (hr.own id h2 b h3)
 refine (hg w F1 (foot H0 ft) _ _ cargs hargs hc).mono ?_
 rintro en w' ⟨v,F1',O',μ0,ft0,he,hv,hr',hf⟩
 have rinj:∀ j j',j < m'→j' < m'→ρ j=ρ j'→j=j':=by
  intro j j' hj hj' h
  by_cases h1:j < ids.length<;>by_cases h2:j' < ids.length
  ·have e1:ρ j=ids[j]:=rho_lt h1
   have e2:ρ j'=ids[j']:=rho_lt h2
   exact nodup_idx hnd h1 h2 (by rw [← e1,← e2];exact h)
  ·have e2:ρ j'=N+(j'-ids.length):=rho_ge (by omega)
   exact absurd ((rlt j h1).2) (h▸e2▸hnew _ (by simp only [List.mem_range'_1];omega))
  ·have e1:ρ j=N+(j-ids.length):=rho_ge (by omega)
   exact absurd ((rlt j' h2).2) (h▸e1▸hnew _ (by simp only [List.mem_range'_1];omega))
  ·have e1:ρ j=N+(j-ids.length):=rho_ge (by omega)
   have e2:ρ j'=N+(j'-ids.length):=rho_ge (by omega)
   omega
 let K2:=plus K (List.range' N (m'-ids.length))
 have inK2:∀ j,j < m'→K2 (ρ j):=by
  intro j hj
  by_cases h1:j < ids.length
  ·exact .inl (rlt j h1).2
  ·have e1:ρ j=N+(j-ids.length):=rho_ge (by omega)
   refine .inr ?_
   rw [e1]
   simp only [List.mem_range'_1];omega
 let μ2:Nat→Nat:=fun id=>if K id then μ id else μ0 (id-N+ids.length)
 have mu2:∀ j,j < m'→μ2 (ρ j)=μ0 j:=by
  intro j hj
  by_cases h1:j < ids.length
  ·simp only [μ2,if_pos (rlt j h1).2]
   exact (hf.mu j h1).symm
  ·have e1:ρ j=N+(j-ids.length):=rho_ge (by omega)
   have:¬ K (ρ j):=e1▸hnew _ (by simp only [List.mem_range'_1];omega)
   have h3:ρ j-N+ids.length=j:=by rw [e1];omega
   simp only [μ2,if_neg this,h3]
 have hρ:∀ j,below m' j→K2 (ρ j)∧μ2 (ρ j)=μ0 j:=fun j hj=>⟨inK2 j hj,mu2 j hj⟩
 have upd:∀ id,(∃ j,j < m'∧ρ j=id∧H0.upd (ups ids N m' H1) id=(H1 j).map (Blk.ren ρ)∧∀ Hx:Hp,Hx.upd (ups ids N m' H1) id=H0.upd (ups ids N m' H1) id)∨((∀ j,j < m'→ρ j≠id)∧∀ Hx:Hp,Hx.upd (ups ids N m' H1) id=Hx id):=by
  have key:∀ (l:List Nat),(∀ j,j∈l→j < m')→∀ id,(∃ j,j∈l∧ρ j=id∧∀ Hx:Hp,Hx.upd (l.map fun j=>(ρ j,(H1 j).map (Blk.ren ρ))) id=(H1 j).map (Blk.ren ρ))∨((∀ j,j∈l→ρ j≠id)∧∀ Hx:Hp,Hx.upd (l.map fun j=>(ρ j,(H1 j).map (Blk.ren ρ))) id=Hx id):=by
   intro l
   induction l with
   | nil=>exact fun _ id=>.inr ⟨fun j hj=>(by cases hj),fun _=>rfl⟩
   | cons x l ih=>
    intro hl id
    by_cases e:id=ρ x
    ·exact .inl ⟨x,by simp,e.symm,fun Hx=>by simp only [List.map_cons,Hp.upd,if_pos e]⟩
    ·rcases ih (fun j hj=>hl j (by simp [hj])) id with ⟨j,h1,h2,h3⟩ | ⟨h1,h2⟩
     ·exact .inl ⟨j,by simp [h1],h2,fun Hx=>by simp only [List.map_cons,Hp.upd,if_neg e];exact h3 Hx⟩
     ·refine .inr ⟨fun j hj=>?_,fun Hx=>by simp only [List.map_cons,Hp.upd,if_neg e];exact h2 Hx⟩
      rcases List.mem_cons.1 hj with h | h
      ·rw [h];exact fun h=>e h.symm
      ·exact h1 j h
  intro id
  rcases key (List.range m') (fun j hj=>by simpa using hj) id with ⟨j,h1,h2,h3⟩ | ⟨h1,h2⟩
  ·exact .inl ⟨j,by simpa using h1,h2,h3 H0,fun Hx=>(h3 Hx).trans (h3 H0).symm⟩
  ·exact .inr ⟨fun j hj=>h1 j (by simpa using hj),h2⟩
 have updS:∀ id b,H0.upd (ups ids N m' H1) id=some b→∃ j b0,j < m'∧ρ j=id∧H1 j=some b0∧b=b0.ren ρ:=by
  intro id b hb
  rcases upd id with ⟨j,h1,h2,h3,_⟩ | ⟨h1,h2⟩
  ·rw [h3] at hb
   cases hj:H1 j with
   | none=>rw [hj] at hb;cases hb
   | some b0=>rw [hj] at hb;exact ⟨j,b0,h1,h2,hj,by simpa using hb.symm⟩
  ·rw [h2] at hb
   simp only [H0] at hb
   split at hb
   ·rename_i hm
    obtain ⟨j,hj,e1⟩:=List.getElem_of_mem hm
    exact absurd ((rho_lt (N:=N) hj).trans e1) (h1 j (by omega))
   ·cases hb
 have updL:∀ id,Hp.live (H0.upd (ups ids N m' H1)) id→∃ j,j < m'∧ρ j=id∧H1.live j:=by
  rintro id ⟨b,hb,hl⟩
  obtain ⟨j,b0,h1,h2,h3,rfl⟩:=updS id b hb
  exact ⟨j,h1,h2,b0,h3,by rw [Blk.ren_lies] at hl;exact hl⟩
 let ft2:Nat→Nat→Prop:=fun id x=>∃ j,j < m'∧ρ j=id∧ft0 j x
 have ft2e:∀ j,j < m'→ft2 (ρ j)=ft0 j:=fun j hj=>by
  funext x
  simp only [ft2,eq_iff_iff]
  exact ⟨fun ⟨j',h1,h2,h3⟩=>rinj j' j h1 hj h2▸h3,fun h=>⟨j,hj,rfl,h⟩⟩
 have hr2:HR w' F1' O' μ2 K2 (H0.upd (ups ids N m' H1)) ft2:=by
  refine { lt:=?_,known:=?_,blk:=?_,self:=?_,own:=?_,dj:=?_,nof:=hr'.nof,wf:=hr'.wf,owf:=hr'.owf,pos:=hr'.pos }
  ·rintro id (h | h)
   ·simp only [μ2,if_pos h];exact Nat.lt_of_lt_of_le (hr.lt id h) hf.size
   ·simp only [μ2,if_neg (hnew id h)]
    have h5:N≤id∧id < N+(m'-ids.length):=by simpa only [List.mem_range'_1] using h
    exact hr'.lt _ (show id-N+ids.length < m' by omega)
  ·intro id b hb
   obtain ⟨j,b0,h1,rfl,_⟩:=updS id b hb
   exact inK2 j h1
  ·intro id b hb hl
   obtain ⟨j,b0,h1,rfl,h3,rfl⟩:=updS id b hb
   rw [Blk.ren_lies] at hl
   obtain ⟨o,ho,hB⟩:=hr'.blk j b0 h3 hl
   rw [mu2 j h1,ft2e j h1]
   exact ⟨o,ho,hB.ren hρ⟩
  ·intro id hl
   obtain ⟨j,h1,rfl,h2⟩:=updL id hl
   rw [mu2 j h1,ft2e j h1]
   exact hr'.self j h2
  ·intro id hl x hx
   obtain ⟨j,h1,rfl,h2⟩:=updL id hl
   rw [ft2e j h1] at hx
   exact hr'.own j h2 x hx
  ·intro id id' hl hl' x hx hx'
   obtain ⟨j,h1,rfl,h2⟩:=updL id hl
   obtain ⟨j',k1,rfl,k2⟩:=updL id' hl'
   rw [ft2e j h1] at hx
   rw [ft2e j' k1] at hx'
   rw [hr'.dj j j' h2 k2 x hx hx']
 have hf2:Fr w F1 (foot H0 ft) μ K w' F1' O' μ2:={ hf with mu:=fun id hid=>by simp only [μ2,if_pos hid] }
 rcases hnf with rfl | ⟨hv1,hb1⟩
 ·have eF:∀ b,F1 b→F b:=by
   rintro b (h | ⟨_,h,_⟩)
   ·exact h
   ·cases h
  obtain ⟨O2,ft3,k1,k2⟩:=frame2 (F1:=F1) (F1':=F1') (F2:=F1') hr part0 (fun id h=>.inl h) hr2 hf2 inF (fun b hb=>hf.froz b (inF b hb)) (fun _ h=>h)
   (fun b hb=>(hf.fnew b hb).imp (eF b) id) hr2.blk
  exact ⟨v,F1',O2,μ2,ft3,he,hv.ren hρ,k1,k2⟩
 ·obtain ⟨O2,ft3,k1,k2⟩:=frame2 (F1:=F1) (F1':=F1') (F2:=F) hr part0 (fun id h=>.inl h) hr2 hf2 inF (fun _ h=>h) (fun b hb=>hf.froz b (inF b hb))
   (fun b hb=>.inl hb) (fun id b hb hl=>by
    obtain ⟨j,b0,h1,rfl,h3,rfl⟩:=updS id b hb
    have hl0:b0.lies=true:=by rw [Blk.ren_lies] at hl;exact hl
    obtain ⟨o,ho,hB⟩:=hr'.blk j b0 h3 hl0
    refine ⟨o,by rw [mu2 j h1];exact ho,?_⟩
    rw [mu2 j h1,ft2e j h1]
    exact (hb1 j b0 h3 hB fun x hx _ hF=>hr'.nof x (hr'.own j ⟨b0,h3,hl0⟩ x hx) (hf.froz x (inF x hF))).ren hρ)
  exact ⟨v,F,O2,μ2,ft3,he,(hv1 hv).ren hρ,k1,k2⟩
end Go.Proofs.Ytljfmaaadnoggaa.Abs
