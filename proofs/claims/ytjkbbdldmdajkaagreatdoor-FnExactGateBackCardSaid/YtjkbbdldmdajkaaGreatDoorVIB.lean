/- Rows whose parts are rows of the call's own: several parts opened and closed; stores, literals, whole slices. No condition. -/
import Derived.Test.YtjkbbdldmdajkaaGreatDoorVIA
set_option linter.unusedSimpArgs false
set_option linter.unusedVariables false
namespace Go.Proofs.YtjkbbdldmdajkaaGreatDoor.c_
open Go Go.RowKit
variable {w w' xk:World} {F F' Bs O O' v8:Nat→Prop} {μ bC lG:Nat→Nat} {K K' EF:Nat→Prop} {H H' H'':Hp} {ft bZ:Nat→Nat→Prop} {P:Program}
structure Prt where
 j:Nat
 bA:Nat
 n:Nat
 e:Nat→Nat→AV
def Uz (i:Nat):Nat→List Prt→(Nat→Nat→AV)→Nat→Nat→AV
 | _,[],e=>e
 | N,p::r,e=>Uz i (N+1) r fun i' j'=>if i'=i∧j'=p.j then du true N p.n p.bA else e i' j'
def OV:Nat→List Prt→List (Nat×Option jV)
 | _,[]=>[]
 | N,p::r=>(N,some (.row true p.bA p.n p.e))::OV (N+1) r
theorem Wy {N id:Nat} (h:id < N):∀ {L:List Prt} {N':Nat},N≤N'→H.dh (OV N' L) id=H id
 | [],_,_=>rfl
 | p::r,N',hN=>by
  show (if id=N' then _ else H.dh (OV (N'+1) r) id)=_;rw [if_neg (by omega)];exact Wy h (by omega)
theorem Qg {id bA n i:Nat} {v:Bool}:∀ (L:List Prt) {N:Nat} {e:Nat→Nat→AV} {H:Hp} {K:Nat→Prop} {μ:Nat→Nat} {ft:Nat→Nat→Prop},HR w F O μ K H ft→(∀ k,k∈List.range' N L.length→¬ K k)→H id=some (.dq v bA n e)→i < n→
  (∀ p,p∈L→p.j < bA∧e i p.j=.os p.bA p.n p.e)→(L.map (·.j)).Nodup→
  ∃ bC bZ,HR w F O bC (plus K (List.range' N L.length)) (H.dh ((id,some (.dq v bA n (Uz i N L e)))::OV N L)) bZ∧Fr w F O μ K w F O bC
 | [],N,e,H,K,μ,ft,hr,hN,hb,hi,hp,hd=>by
  refine ⟨μ,ft,?_,Fr.refl _ _ _ _ _⟩;have e1:plus K (List.range' N ([]:List Prt).length)=K:=jE K;rw [e1];refine hr.imp fun k b' cl=>?_;simp only [OV,Uz,Hp.dh] at cl;by_cases q:k=id
  ·rw [if_pos q] at cl;cases cl;exact ⟨_,q▸hb,eQ.refl _⟩
  ·rw [if_neg q] at cl;exact ⟨_,cl,eQ.refl _⟩
 | p::r,N,e,H,K,μ,ft,hr,hN,hb,hi,hp,hd=>by
  have Yf:=hr.known id _ hb;have hNN:¬ K N:=hN N (by simp only [List.mem_range'_1,List.length_cons];omega);have qL:id≠N:=fun h=>hNN (h▸Yf);obtain ⟨p1,p2⟩:=hp p (by simp);have NO:p.j ∉ r.map (·.j)∧(r.map (·.j)).Nodup:=by simpa only [List.map_cons,List.nodup_cons] using hd
  obtain ⟨KC,Wz,h1,h2⟩:=Ye (N:=N) (e1:=fun i' j'=>if i'=i∧j'=p.j then du true N p.n p.bA else e i' j') hr hNN hb hi p1 p2 (by simp) (fun i' j' _ _ h=>if_neg h);obtain ⟨Gq,Lu,k1,k2⟩:=Qg r (N:=N+1) h1 (fun k hk h=>by
   simp only [List.mem_range'_1] at hk;rcases h with h | h
   ·exact hN k (by simp only [List.mem_range'_1,List.length_cons];omega) h
   ·simp at h;omega) (by rw [show (H.dh [(id,some (.dq v bA n fun i' j'=>if i'=i∧j'=p.j then du true N p.n p.bA else e i' j')),(N,some (.row true p.bA p.n p.e))]) id=_ from if_pos rfl]) hi (fun q hq=>by
    have hqj:q.j≠p.j:=fun h=>NO.1 (h▸List.mem_map.2 ⟨q,hq,rfl⟩);have:=hp q (by simp [hq]);exact ⟨this.1,by rw [if_neg (fun h=>hqj h.2)];exact this.2⟩) NO.2
  have eK:plus (plus K [N]) (List.range' (N+1) r.length)=plus K (List.range' N (p::r).length):=by
   funext k;simp only [plus,List.mem_singleton,List.mem_range'_1,List.length_cons,eq_iff_iff];constructor
   ·rintro ((h | h) | h)
    ·exact .inl h
    ·exact .inr (by omega)
    ·exact .inr (by omega)
   ·rintro (h | h)
    ·exact .inl (.inl h)
    ·by_cases q:k=N
     ·exact .inl (.inr q)
     ·exact .inr (by omega)
  rw [eK] at k1;refine ⟨Gq,Lu,k1.imp fun k b' cl=>⟨b',?_,eQ.refl _⟩,h2.trans (k2.OT fun k hk=>.inl hk)⟩;simp only [Uz,OV,Hp.dh] at cl ⊢;by_cases q:k=id
  ·rw [if_pos q] at cl ⊢;exact cl
  ·rw [if_neg q] at cl ⊢;by_cases q2:k=N
   ·rw [if_pos q2] at cl;subst q2;rw [Wy (Nat.lt_succ_self k) (Nat.le_refl _)];simp only [Hp.dh,if_neg q,if_true];exact cl
   ·rw [if_neg q2] at cl;have key:∀ (r:List Prt) (N1:Nat),H.dh (OV N1 r) k=some b'→(H.dh [(id,some (.dq v bA n fun i' j'=>if i'=i∧j'=p.j then du true N p.n p.bA else e i' j')),(N,some (.row true p.bA p.n p.e))]).dh (OV N1 r) k=some b':=by
     intro r
     induction r with
     | nil=>intro N1 h;simp only [OV,Hp.dh] at h ⊢;rw [if_neg q,if_neg q2];exact h
     | cons x r ih=>
      intro N1 h;simp only [OV,Hp.dh] at h ⊢;by_cases q3:k=N1
      ·rw [if_pos q3] at h ⊢;exact h
      ·rw [if_neg q3] at h ⊢;exact ih _ h
    exact key r (N+1) cl
structure Hol extends Prt where
 M:Nat
def clE (i:Nat):List Hol→(Nat→Nat→AV)→Nat→Nat→AV
 | [],e=>e
 | p::r,e=>clE i r fun i' j'=>if i'=i∧j'=p.j then .os p.bA p.n p.e else e i' j'
theorem NP {id bA n i:Nat} {v:Bool}:∀ (L:List Hol) {e:Nat→Nat→AV} {H:Hp} {ft:Nat→Nat→Prop},HR w F O μ K H ft→H id=some (.dq v bA n e)→i < n→
  (∀ p,p∈L→p.j < bA∧e i p.j=du true p.M p.n p.bA∧H p.M=some (.row true p.bA p.n p.e))→(L.map (·.j)).Nodup→(L.map (·.M)).Nodup→
  ∃ bZ,HR w F O μ K (H.dh ((id,some (.dq v bA n (clE i L e)))::gH (L.map (·.M)))) bZ
 | [],e,H,ft,hr,hb,hi,hp,hd,hm=>by
  refine ⟨ft,hr.imp fun k b' cl=>⟨b',?_,eQ.refl _⟩⟩;simp only [List.map_nil,gH,clE,Hp.dh] at cl;by_cases q:k=id
  ·rw [if_pos q] at cl;rw [q,hb];exact cl
  ·rw [if_neg q] at cl;exact cl
 | p::r,e,H,ft,hr,hb,hi,hp,hd,hm=>by
  obtain ⟨p1,p2,p3⟩:=hp p (by simp);have qL:∀ {M:Nat} {z n':Nat} {f},H M=some (.row true z n' f)→M≠id:=fun h q=>by rw [q,hb] at h;cases h
  have NO:p.j ∉ r.map (·.j)∧(r.map (·.j)).Nodup:=by simpa only [List.map_cons,List.nodup_cons] using hd
  have Yg:p.M ∉ r.map (·.M)∧(r.map (·.M)).Nodup:=by simpa only [List.map_cons,List.nodup_cons] using hm
  obtain ⟨Wz,h1⟩:=Vo (e1:=fun i' j'=>if i'=i∧j'=p.j then .os p.bA p.n p.e else e i' j') hr hb p3 hi p1 p2 (by simp) fun i' j' _ _ h=>if_neg h;obtain ⟨Lu,h2⟩:=NP r h1 (by rw [show (H.dh [(id,some (.dq v bA n fun i' j'=>if i'=i∧j'=p.j then .os p.bA p.n p.e else e i' j')),(p.M,none)]) id=_ from if_pos rfl]) hi (fun q hq=>by
   have hqj:q.j≠p.j:=fun h=>NO.1 (h▸List.mem_map.2 ⟨q,hq,rfl⟩);have hqM:q.M≠p.M:=fun h=>Yg.1 (h▸List.mem_map.2 ⟨q,hq,rfl⟩);obtain ⟨k1,k2,k3⟩:=hp q (by simp [hq]);refine ⟨k1,by rw [if_neg (fun h=>hqj h.2)];exact k2,?_⟩;show (if q.M=id then _ else if q.M=p.M then none else H q.M)=_;rw [if_neg (qL k3),if_neg hqM];exact k3) NO.2 Yg.2
  refine ⟨Lu,h2.imp fun k b' cl=>⟨b',?_,eQ.refl _⟩⟩;simp only [List.map_cons,clE,Hp.dh] at cl ⊢;by_cases q:k=id
  ·rw [if_pos q] at cl ⊢;exact cl
  ·rw [if_neg q] at cl ⊢;rw [yX] at cl ⊢;simp only [List.mem_cons] at cl;split at cl
   ·cases cl
   ·rename_i q2;rw [if_neg (fun h=>q2 (.inr h))];show (if k=id then _ else if k=p.M then none else H k)=_;rw [if_neg q,if_neg (fun h=>q2 (.inl h))];exact cl
theorem ab0 {s:fT} {x:Operand} {n id bA i j m:Nat} {v:Bool} {e:Nat→Nat→AV} (hx:ee s x (.rp id bA i j)) (hb:s.H id=some (.dq v bA m e)) (hi:i < m) (hle:j+n≤bA)
  (hc:∀ k,k < n→(e i (j+k)).Kw=false):Rdb s x n fun k=>e i (j+k):=fun {w F O μ K ft act} hs=>by
 have h:=hx hs;obtain ⟨ob,p_,cs,t,S',rfl,hB⟩:=hs.hr.dC id _ hb (Fs (by omega));generalize act.eval x=u at h;cases h with
 | rp _ _ _ _ bY=>
  refine ⟨_,_,fun k=>cs.getD (i*bA+j+k) undef,rfl,fun k hk=>?_⟩;have h2:(i+1)*bA≤m*bA:=Nat.mul_le_mul_right _ hi;rw [Nat.add_mul,Nat.one_mul] at h2;have fV:=hB.size;have dQ:i*bA+j+k < cs.size:=by omega
  refine ⟨by simp [World.cell?,p_,dQ],?_⟩;have h5:=(hB.cell i (j+k) hi (by omega)).1;rw [← Nat.add_assoc] at h5;rcases h5 with h5 | h5
  ·exact (h5.closed (hc k hk)).1.up
  ·exact h5.1
theorem dr.ghost {o:Oper} {s s1:fT} {v:AV} {up1:List (Nat×Option jV)} {aei:List Nat} (hH:s1.H=s.H.dh up1)
  (hg:∀ {w F O μ K ft a},SR w F O μ K s ft a→(∀ id,id∈aei→¬ K id)→∃ bC bZ,SR w F O bC (plus K aei) s1 bZ a∧Fr w F O μ K w F O bC) (h:dr P o s1 ⟨v,[],[]⟩):dr P o s ⟨v,up1,aei⟩:=by
 intro w F O μ K ft a hs hn Kn Q hk;obtain ⟨KC,Wz,h1,h2⟩:=hg hs hn;refine h w F O KC _ Wz a h1 (fun _ h=>by cases h) Kn Q fun u w' F' O' bC bZ k1 k2 k3=>?_;simp only [jE,Hp.Rq,hH] at k1 k2;exact hk u w' F' O' bC bZ k1 k2 (h2.trans (k3.OT fun id h=>.inl h))
inductive Vp (s:fT):AV→AV→List Nat→Prop
 | IY (a e:AV) (hc:Qb a) (h1:One a) (hi:il a e):Vp s a e []
 | fB (bA:Nat) (e:Nat→Nat→AV):Vp s .fB (.os bA 0 e) []
 | own (id n bA:Nat) (e:Nat→Nat→AV) (hb:s.H id=some (.row true bA n e)):Vp s (du true id n bA) (.os bA n e) [id]
theorem Vp.ok {s:fT} {a e:AV} {g:List Nat} {act:Act} {v:Value} (h:Vp s a e g) (hs:SR w F O μ K s ft act) (hv:VR w F μ K a v):
  ∃ S:Nat→Prop,jP w F μ S e v∧v.oneCell'=true∧∀ x,S x→∃ id,id∈g∧s.H.live id∧ft id x:=by
 cases h with
 | IY a e hc h1 hi=>exact ⟨fun _=>False,.IY _ _ _ (hi (hc hv)) (fun _ h=>h),h1 hv,fun x h=>h.elim⟩
 | fB bA e=>
  rw [hv.qd];exact ⟨fun _=>False,.Br _ _ _ _ fun _ h=>h,rfl,fun x h=>h.elim⟩
 | own id n bA e hb=>
  rcases rQ hv with ⟨⟨a,rfl⟩,rfl,_⟩ | ⟨cap,sz,t',rfl,q2,q3,q4,q5,q6⟩
  ·exact ⟨fun _=>False,.Br _ _ _ _ fun _ h=>h,rfl,fun x h=>h.elim⟩
  ·have JJ:=q6 rfl;have hl:(jV.row true bA n e).fc=true:=by simpa [jV.fc] using JJ
   obtain ⟨ob,p_,cs,t2,S',rfl,hB⟩:=hs.hr.dC id _ hb hl;have DI:cap*bA≤cs.size:=by
    simp only [World.shape?,p_,Option.some.injEq,Prod.mk.injEq] at q4;rw [q4.2];exact q5
   exact ⟨ft id,.os (ft id) bA n e (μ id) cap cs t2 S' JJ p_ q2 DI (fun i j hi hj=>(hB.cell i j hi hj).2) (fun i j hi hj=>(hB.cell i j hi hj).1) hB.dj hB.nb hB.all,rfl,fun x hx=>⟨id,by simp,⟨_,hb,hl⟩,hx⟩⟩
structure TB (s:fT) (l:List AV) (e:Nat→AV) (g:Nat→List Nat):Prop where
 ab1:∀ k,k < l.length→Vp s (l.getD k .top) (e k) (g k)
 dj:∀ k k' id,k < l.length→k' < l.length→id∈g k→id∈g k'→k=k'
theorem TB.ok {s:fT} {l:List AV} {e:Nat→AV} {g:Nat→List Nat} {act:Act} {vs:List Value} (h:TB s l e g) (hs:SR w F O μ K s ft act) (hv:iL w F μ K l vs):
  ∃ U:Nat→Nat→Prop,(∀ k,k < vs.length→jP w F μ (U k) (e k) (vs.getD k undef)∧(vs.getD k undef).oneCell'=true)∧(∀ k x,k < vs.length→U k x→∃ id,id∈g k∧s.H.live id∧ft id x)∧
   ∀ k k' x,k < vs.length→k' < vs.length→U k x→U k' x→k=k':=by
 have key:∀ k,∃ S:Nat→Prop,k < vs.length→jP w F μ S (e k) (vs.getD k undef)∧(vs.getD k undef).oneCell'=true∧∀ x,S x→∃ id,id∈g k∧s.H.live id∧ft id x:=fun k=>by
  by_cases hk:k < vs.length
  ·obtain ⟨S,q⟩:=(h.ab1 k (hv.1▸hk)).ok hs (hv.2 k (hv.1▸hk));exact ⟨S,fun _=>q⟩
  ·exact ⟨fun _=>False,fun h=>absurd h hk⟩
 refine ⟨fun k=>Classical.choose (key k),fun k hk=>⟨(Classical.choose_spec (key k) hk).1,(Classical.choose_spec (key k) hk).2.1⟩,fun k x hk hx=>(Classical.choose_spec (key k) hk).2.2 x hx,fun k k' x hk Gn hx lN=>?_⟩;obtain ⟨id,a1,a2,a3⟩:=(Classical.choose_spec (key k) hk).2.2 x hx;obtain ⟨b9,b1,b2,b3⟩:=(Classical.choose_spec (key k') Gn).2.2 x lN;have:=hs.hr.dj id b9 a2 b2 x a3 b3;subst this;exact h.dj k k' id (hv.1▸hk) (hv.1▸Gn) a1 b1
theorem Vq {b bA m i j:Nat} {e e':Nat→Nat→AV} {cs:Array Value} {vs:List Value} {S:Nat→Nat→Nat→Prop} {T:Nat→Prop} {U:Nat→Nat→Prop} (hB:Nw b cs bA m S T fun T i j v=>jP w F μ T (e i j) v)
  (hv:∀ k,k < vs.length→jP w F μ (U k) (e' i (j+k)) (vs.getD k undef)∧(vs.getD k undef).oneCell'=true) (hd:∀ k k' x,k < vs.length→k' < vs.length→U k x→U k' x→k=k') (hT:∀ k x,k < vs.length→U k x→¬ T x)
  (hi:i < m) (hj:j+vs.length≤bA) (L1:∀ i' j',i' < m→j' < bA→¬ (i'=i∧j≤j'∧j' < j+vs.length)→e' i' j'=e i' j'):
  i*bA+j+vs.length≤cs.size∧∃ S' T',(∀ x,T' x→T x∨∃ k,k < vs.length∧U k x)∧T' b∧Nw b (s_ cs (i*bA+j) vs) bA m S' T' fun T i j v=>jP w F μ T (e' i j) v:=by
 have h2:(i+1)*bA≤m*bA:=Nat.mul_le_mul_right _ hi;rw [Nat.add_mul,Nat.one_mul] at h2;have fV:=hB.size;have h3:i*bA+j+vs.length≤cs.size:=by omega
 let hit:Nat→Nat→Prop:=fun i' j'=>i'=i∧j≤j'∧j' < j+vs.length
 let S':Nat→Nat→Nat→Prop:=fun i' j' x=>(¬ hit i' j'∧S i' j' x)∨(hit i' j'∧U (j'-j) x)
 have inT:∀ i' j',i' < m→j' < bA→∀ x,S i' j' x→T x:=fun i' j' a1 a2 x hx=>(hB.all x).2 (.inr ⟨i',j',a1,a2,hx⟩);refine ⟨h3,S',fun x=>x=b∨∃ i' j',i' < m∧j' < bA∧S' i' j' x,?_,.inl rfl,?_⟩
 ·rintro x (h | ⟨i',j',k1,k2,⟨_,k3⟩ | ⟨k0,k3⟩⟩)
  ·exact .inl ((hB.all x).2 (.inl h))
  ·exact .inl (inT i' j' k1 k2 x k3)
  ·exact .inr ⟨j'-j,by have:=k0.2;omega,k3⟩
 ·refine { size:=by rw [jb];exact fV,cell:=fun i' j' di mR=>?_,dj:=?_,nb:=?_,all:=fun _=>Iff.rfl }
  ·rw [uN _ _ _ h3];by_cases hh:hit i' j'
   ·obtain ⟨rfl,hh1,hh2⟩:=hh;have eS:S' i' j'=U (j'-j):=by
     funext x;simp only [S',eq_iff_iff];exact ⟨fun h=>h.elim (fun h=>absurd ⟨rfl,hh1,hh2⟩ h.1) fun h=>h.2,fun h=>.inr ⟨⟨rfl,hh1,hh2⟩,h⟩⟩
    rw [eS,if_pos (by omega),show i'*bA+j'-(i'*bA+j)=j'-j by omega];have:=hv (j'-j) (by omega);rwa [show j+(j'-j)=j' by omega] at this
   ·have eS:S' i' j'=S i' j':=by
     funext x;simp only [S',eq_iff_iff];exact ⟨fun h=>h.elim (fun h=>h.2) fun h=>absurd h.1 hh,fun h=>.inl ⟨hh,h⟩⟩
    rw [eS,L1 i' j' di mR hh,if_neg ?_]
    ·exact hB.cell i' j' di mR
    ·rintro ⟨q1,q2⟩
     by_cases e1:i'=i
     ·subst e1;exact hh ⟨rfl,by omega,by omega⟩
     ·rcases Nat.lt_or_gt_of_ne e1 with h | h
      ·have h4:(i'+1)*bA≤i*bA:=Nat.mul_le_mul_right _ h;rw [Nat.add_mul,Nat.one_mul] at h4;omega
      ·have h4:(i+1)*bA≤i'*bA:=Nat.mul_le_mul_right _ h;rw [Nat.add_mul,Nat.one_mul] at h4;omega
  ·rintro i1 j1 i2 j2 a1 a2 a3 a4 x (⟨h,hx⟩ | ⟨h,hx⟩) (⟨h',lN⟩ | ⟨h',lN⟩)
   ·exact hB.dj i1 j1 i2 j2 a1 a2 a3 a4 x hx lN
   ·exact absurd (inT i1 j1 a1 a2 x hx) (hT _ x (by have:=h'.2;omega) lN)
   ·exact absurd (inT i2 j2 a3 a4 x lN) (hT _ x (by have:=h.2;omega) hx)
   ·have:=hd _ _ x (by have:=h.2;omega) (by have:=h'.2;omega) hx lN;obtain ⟨rfl,h1,h2⟩:=h;obtain ⟨rfl,h3,h4⟩:=h';exact ⟨rfl,by omega⟩
  ·rintro i' j' a1 a2 (⟨_,hx⟩ | ⟨h,hx⟩)
   ·exact hB.nb i' j' a1 a2 hx
   ·exact hT _ b (by have:=h.2;omega) hx ((hB.all b).2 (.inl rfl))
theorem Pr {o:Oper} {s:fT} {x y:Operand} {t:TypeId} {ti:TypeInfo} {a:AV} {l:List AV} {id bA i j m:Nat} {v:Bool} {e e':Nat→Nat→AV} {g:Nat→List Nat} {L:List Nat} (ho:o.op=.store t x y) (hi:P.info? t=some ti) (hx:ee s x (.rp id bA i j)) (hy:ee s y a) (hl:Cu a l)
  (fV:l.length=ti.size) (hb:s.H id=some (.row v bA m e)) (him:i < m) (hle:j+l.length≤bA) (hg:TB s l (fun k=>e' i (j+k)) g) (hL:∀ k,k < l.length→∀ b9,b9∈g k→b9∈L) (bY:id ∉ L)
  (L1:∀ i' j',i' < m→j' < bA→¬ (i'=i∧j≤j'∧j' < j+l.length)→e' i' j'=e i' j'):
  dr P o s ⟨.lit undef,(id,some (.row v bA m e'))::gH L,[]⟩:=by
 intro w F O μ K ft act hs _ Kn Q hk;have hly:=hl (hy hs);have ND:(jV.row v bA m e).fc=true:=by cases v<;>simp [jV.fc];omega
 have gQ:s.H.live id:=⟨_,hb,ND⟩;obtain ⟨ob,p_,cs,et,S,rfl,hB⟩:=hs.hr.dC id _ hb ND;obtain ⟨U,u1,u2,u3⟩:=hg.ok hs hly;have hlen:(act.eval y).cells.toList.length=l.length:=hly.1.symm;have hv:=hx hs;generalize EO:act.eval x=u at hv;cases hv with
 | rp _ _ _ _ Ps=>
  obtain ⟨k1,S',T',k2,k3,k4⟩:=Vq (e':=e') hB u1 u3 (fun k x hk hx hT=>by
   obtain ⟨Cv,a1,a2,a3⟩:=u2 k x hk hx;have:=hs.hr.dj Cv id a2 gQ x a3 hT;exact bY (this▸hL k (hlen▸hk) Cv a1)) him (by rw [hlen];exact hle) (by rw [hlen];exact L1)
  have NF:∀ z,z∈(act.eval y).cells.toList→z.oneCell'=true:=fun z hz=>by
   obtain ⟨k,hk,rfl⟩:=List.getElem_of_mem hz;have:=(u1 k hk).2;rwa [List.getD,List.getElem?_eq_getElem hk] at this
  have lH:(execOp act.eval o).run P w=.ok .skip (jQ w (μ id) (.cells (s_ cs (i*bA+j) (act.eval y).cells.toList) et (0,0))):=by
   have:=EN (P:=P) hi p_ (v:=act.eval y) (by rw [← Array.length_toList,hlen];exact fV) NF (o:=i*bA+j) (by simpa using k1);simp [execOp,ho,EO,this]
  obtain ⟨O',bZ,q1,q2⟩:=mq (L:=L) (b':=.row v bA m e') hs.hr hb ND p_ (v_ (jb _ _ _)) bY (fun x hx=>by
   rcases k2 x hx with h | ⟨k,hk,h⟩
   ·exact ⟨id,.inl rfl,gQ,h⟩
   ·obtain ⟨Cv,a1,a2,a3⟩:=u2 k x hk h;exact ⟨Cv,.inr (hL k (hlen▸hk) Cv a1),a2,a3⟩) k3 ⟨_,et,S',rfl,k4⟩
  unfold Oper.wp;rw [lH,Oper.upon_skip];exact hk undef _ F O' μ bZ (.lit _) (by rw [jE];exact q1) q2
theorem NQ {o:Oper} {s:fT} {t et:TypeId} {ti:TypeInfo} {n:Nat} {ps:List (Nat×Operand)} {q:List (Nat×List AV)} {zs r:List AV} {N:Nat} {e:Nat→Nat→AV} {g:Nat→List Nat} {L:List Nat} (ho:o.op=.buildSlice t n ⟨ps⟩) (ht:P.underlying t=some (.slice et))
  (hi:P.info? et=some ti) (hz:z_ P et=some zs) (hl:zs.length=ti.size) (Ht:ti.size≠0) (hn:n*ti.size≤16777216) (hq:EP s ps q)
  (hr:oA (fun i=>some (i*ti.size,ti.size)) ((List.range n).flatMap fun _=>zs) q=some r) (hg:TB s r (fun k=>e (k / ti.size) (k % ti.size)) g) (hL:∀ k,k < r.length→∀ b9,b9∈g k→b9∈L):
  dr P o s ⟨.ms N 0 n ti.size,(N,some (.row false ti.size n e))::gH L,[N]⟩:=by
 intro w F O μ K ft a hs ES Kn Q hk;have hN:¬ K N:=ES N (by simp);obtain ⟨us,RC,k2,lH⟩:=td hs ho ht hi hz hl Ht hn hq hr;obtain ⟨U,u1,u2,u3⟩:=hg.ok hs k2;have hlen:us.toList.length=r.length:=k2.1.symm;have Fm:∀ k x,k < us.toList.length→U k x→x < w.heap.size:=fun k x hk hx=>by
  obtain ⟨Cv,a1,a2,a3⟩:=u2 k x hk hx;exact hs.hr.rT x (hs.hr.own Cv a2 x a3)
 have at_:∀ i j,i < n→j < ti.size→i*ti.size+j < us.toList.length:=fun i j hi hj=>by
  have h4:(i+1)*ti.size≤n*ti.size:=Nat.mul_le_mul_right _ hi;rw [Nat.add_mul,Nat.one_mul] at h4;simp only [Array.length_toList,RC];omega
 let T:Nat→Prop:=fun x=>x=w.heap.size∨∃ i j,i < n∧j < ti.size∧U (i*ti.size+j) x
 have hB:ik w F μ K T w.heap.size (.cells us et) (.row false ti.size n e):=by
  refine ⟨us,et,fun i j=>U (i*ti.size+j),rfl,{ size:=by rw [RC];exact Nat.le_refl _,cell:=fun i j hi hj=>?_,dj:=fun i j i' j' hi hj di mR x hx lN=>?_,nb:=fun i j hi hj hx=>?_,all:=fun _=>Iff.rfl }⟩
  ·have:=u1 _ (at_ i j hi hj);have e2:(i*ti.size+j) / ti.size=i:=by
    rw [Nat.add_comm,Nat.add_mul_div_right _ _ (by omega),Nat.div_eq_of_lt hj];omega
   rw [I7 hj,e2,jG] at this;exact this
  ·have h5:=u3 _ _ x (at_ i j hi hj) (at_ i' j' di mR) hx lN;have h6:=I7 (i:=i) hj;have h7:=I7 (i:=i') mR;have ej:j=j':=by rw [← h6,← h7,h5]
   subst ej;refine ⟨Nat.eq_of_mul_eq_mul_right (show 0 < ti.size by omega) (by omega),rfl⟩
  ·have:=Fm _ _ (at_ i j hi hj) hx;omega
 obtain ⟨O',bZ,q1,q2⟩:=HL (L:=L) (S:=T) (o:=.cells us et) (b:=.row false ti.size n e) hs.hr hN (fun x hx=>by
  rcases hx with h | ⟨i,j,hi,hj,h⟩
  ·exact .inl h
  ·obtain ⟨Cv,a1,a2,a3⟩:=u2 _ x (at_ i j hi hj) h;exact .inr ⟨Cv,hL _ (hlen▸at_ i j hi hj) Cv a1,a2,a3⟩) (.inl rfl) hB
 unfold Oper.wp;rw [lH,Oper.upon_value];exact hk _ _ F O' _ bZ (Vl RC (EH w _) (gC _ _ _)) q1 q2
end Go.Proofs.YtjkbbdldmdajkaaGreatDoor.c_
