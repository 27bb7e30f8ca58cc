/- Rows whose parts are rows of the call's own: several parts opened and closed; stores, literals, whole slices. No condition. -/
import Derived.Test.YtljfmaaadnoggaaGreatDoorVIA
namespace Go.Proofs.YtljfmaaadnoggaaGreatDoor.cU
open Go Go.RowKit
variable {w w' vP:World} {F F' Am O O' ux:Nat→Prop} {μ bB jV:Nat→Nat} {K K' DQ:Nat→Prop} {H H' H'':Hp} {ft b7:Nat→Nat→Prop} {P:Program}
structure Prt where
 j:Nat
 aZ:Nat
 n:Nat
 e:Nat→Nat→AV
def TX (i:Nat):Nat→List Prt→(Nat→Nat→AV)→Nat→Nat→AV
 | _,[],e=>e
 | N,p::r,e=>TX i (N+1) r fun i' j'=>if i'=i∧j'=p.j then dd true N p.n p.aZ else e i' j'
def Oh:Nat→List Prt→List (Nat×Option ju)
 | _,[]=>[]
 | N,p::r=>(N,some (.row true p.aZ p.n p.e))::Oh (N+1) r
theorem V1 {N id:Nat} (h:id < N):∀ {L:List Prt} {N':Nat},N≤N'→H.c7 (Oh N' L) id=H id
 | [],_,_=>rfl
 | p::r,N',hN=>by
  show (if id=N' then _ else H.c7 (Oh (N'+1) r) id)=_
  rw [if_neg (by omega)]
  exact V1 h (by omega)
theorem PR {id aZ n i:Nat} {v:Bool}:∀ (L:List Prt) {N:Nat} {e:Nat→Nat→AV} {H:Hp} {K:Nat→Prop} {μ:Nat→Nat} {ft:Nat→Nat→Prop},HR w F O μ K H ft→(∀ k,k∈List.range' N L.length→¬ K k)→H id=some (.c5 v aZ n e)→i < n→
  (∀ p,p∈L→p.j < aZ∧e i p.j=.os p.aZ p.n p.e)→(L.map (·.j)).Nodup→
  ∃ bB b7,HR w F O bB (plus K (List.range' N L.length)) (H.c7 ((id,some (.c5 v aZ n (TX i N L e)))::Oh N L)) b7∧Fr w F O μ K w F O bB
 | [],N,e,H,K,μ,ft,hr,hN,hb,hi,hp,hd=>by
  refine ⟨μ,ft,?_,Fr.refl _ _ _ _ _⟩
  have e1:plus K (List.range' N ([]:List Prt).length)=K:=la K
  rw [e1]
  refine hr.imp fun k b' cd=>?_
  simp only [Oh,TX,Hp.c7] at cd
  by_cases q:k=id
  ·rw [if_pos q] at cd
   cases cd
   exact ⟨_,q▸hb,eD.refl _⟩
  ·rw [if_neg q] at cd
   exact ⟨_,cd,eD.refl _⟩
 | p::r,N,e,H,K,μ,ft,hr,hN,hb,hi,hp,hd=>by
  have Xx:=hr.known id _ hb
  have hNN:¬ K N:=hN N (by simp only [List.mem_range'_1,List.length_cons];omega)
  have o8:id≠N:=fun h=>hNN (h▸Xx)
  obtain ⟨p1,p2⟩:=hp p (by simp)
  have Nh:p.j ∉ r.map (·.j)∧(r.map (·.j)).Nodup:=by simpa only [List.map_cons,List.nodup_cons] using hd
  obtain ⟨Kj,V2,h1,h2⟩:=Xw (N:=N) (e1:=fun i' j'=>if i'=i∧j'=p.j then dd true N p.n p.aZ else e i' j') hr hNN hb hi p1 p2 (by simp) (fun i' j' _ _ h=>if_neg h)
  obtain ⟨FE,Lg,k1,k2⟩:=PR r (N:=N+1) h1 (fun k hk h=>by
   simp only [List.mem_range'_1] at hk
   rcases h with h | h
   ·exact hN k (by simp only [List.mem_range'_1,List.length_cons];omega) h
   ·simp at h;omega) (by rw [show (H.c7 [(id,some (.c5 v aZ n fun i' j'=>if i'=i∧j'=p.j then dd true N p.n p.aZ else e i' j')),(N,some (.row true p.aZ p.n p.e))]) id=_ from if_pos rfl]) hi (fun q hq=>by
    have hqj:q.j≠p.j:=fun h=>Nh.1 (h▸List.mem_map.2 ⟨q,hq,rfl⟩)
    have:=hp q (by simp [hq])
    exact ⟨this.1,by rw [if_neg (fun h=>hqj h.2)];exact this.2⟩) Nh.2
  have eK:plus (plus K [N]) (List.range' (N+1) r.length)=plus K (List.range' N (p::r).length):=by
   funext k
   simp only [plus,List.mem_singleton,List.mem_range'_1,List.length_cons,eq_iff_iff]
   constructor
   ·rintro ((h | h) | h)
    ·exact .inl h
    ·exact .inr (by omega)
    ·exact .inr (by omega)
   ·rintro (h | h)
    ·exact .inl (.inl h)
    ·by_cases q:k=N
     ·exact .inl (.inr q)
     ·exact .inr (by omega)
  rw [eK] at k1
  refine ⟨FE,Lg,k1.imp fun k b' cd=>⟨b',?_,eD.refl _⟩,h2.trans (k2.Of fun k hk=>.inl hk)⟩
  simp only [TX,Oh,Hp.c7] at cd ⊢
  by_cases q:k=id
  ·rw [if_pos q] at cd ⊢;exact cd
  ·rw [if_neg q] at cd ⊢
   by_cases q2:k=N
   ·rw [if_pos q2] at cd
    subst q2
    rw [V1 (Nat.lt_succ_self k) (Nat.le_refl _)]
    simp only [Hp.c7,if_neg q,if_true];exact cd
   ·rw [if_neg q2] at cd
    have key:∀ (r:List Prt) (N1:Nat),H.c7 (Oh N1 r) k=some b'→(H.c7 [(id,some (.c5 v aZ n fun i' j'=>if i'=i∧j'=p.j then dd true N p.n p.aZ else e i' j')),(N,some (.row true p.aZ p.n p.e))]).c7 (Oh N1 r) k=some b':=by
     intro r
     induction r with
     | nil=>intro N1 h;simp only [Oh,Hp.c7] at h ⊢;rw [if_neg q,if_neg q2];exact h
     | cons x r ih=>
      intro N1 h
      simp only [Oh,Hp.c7] at h ⊢
      by_cases q3:k=N1
      ·rw [if_pos q3] at h ⊢;exact h
      ·rw [if_neg q3] at h ⊢;exact ih _ h
    exact key r (N+1) cd
structure Hol extends Prt where
 M:Nat
def clE (i:Nat):List Hol→(Nat→Nat→AV)→Nat→Nat→AV
 | [],e=>e
 | p::r,e=>clE i r fun i' j'=>if i'=i∧j'=p.j then .os p.aZ p.n p.e else e i' j'
theorem Ni {id aZ n i:Nat} {v:Bool}:∀ (L:List Hol) {e:Nat→Nat→AV} {H:Hp} {ft:Nat→Nat→Prop},HR w F O μ K H ft→H id=some (.c5 v aZ n e)→i < n→
  (∀ p,p∈L→p.j < aZ∧e i p.j=dd true p.M p.n p.aZ∧H p.M=some (.row true p.aZ p.n p.e))→(L.map (·.j)).Nodup→(L.map (·.M)).Nodup→
  ∃ b7,HR w F O μ K (H.c7 ((id,some (.c5 v aZ n (clE i L e)))::gx (L.map (·.M)))) b7
 | [],e,H,ft,hr,hb,hi,hp,hd,hm=>by
  refine ⟨ft,hr.imp fun k b' cd=>⟨b',?_,eD.refl _⟩⟩
  simp only [List.map_nil,gx,clE,Hp.c7] at cd
  by_cases q:k=id
  ·rw [if_pos q] at cd;rw [q,hb];exact cd
  ·rw [if_neg q] at cd;exact cd
 | p::r,e,H,ft,hr,hb,hi,hp,hd,hm=>by
  obtain ⟨p1,p2,p3⟩:=hp p (by simp)
  have o8:∀ {M:Nat} {z n':Nat} {f},H M=some (.row true z n' f)→M≠id:=fun h q=>by rw [q,hb] at h;cases h
  have Nh:p.j ∉ r.map (·.j)∧(r.map (·.j)).Nodup:=by simpa only [List.map_cons,List.nodup_cons] using hd
  have Xy:p.M ∉ r.map (·.M)∧(r.map (·.M)).Nodup:=by simpa only [List.map_cons,List.nodup_cons] using hm
  obtain ⟨V2,h1⟩:=UQ (e1:=fun i' j'=>if i'=i∧j'=p.j then .os p.aZ p.n p.e else e i' j') hr hb p3 hi p1 p2 (by simp) fun i' j' _ _ h=>if_neg h
  obtain ⟨Lg,h2⟩:=Ni r h1 (by rw [show (H.c7 [(id,some (.c5 v aZ n fun i' j'=>if i'=i∧j'=p.j then .os p.aZ p.n p.e else e i' j')),(p.M,none)]) id=_ from if_pos rfl]) hi (fun q hq=>by
   have hqj:q.j≠p.j:=fun h=>Nh.1 (h▸List.mem_map.2 ⟨q,hq,rfl⟩)
   have hqM:q.M≠p.M:=fun h=>Xy.1 (h▸List.mem_map.2 ⟨q,hq,rfl⟩)
   obtain ⟨k1,k2,k3⟩:=hp q (by simp [hq])
   refine ⟨k1,by rw [if_neg (fun h=>hqj h.2)];exact k2,?_⟩
   show (if q.M=id then _ else if q.M=p.M then none else H q.M)=_
   rw [if_neg (o8 k3),if_neg hqM];exact k3) Nh.2 Xy.2
  refine ⟨Lg,h2.imp fun k b' cd=>⟨b',?_,eD.refl _⟩⟩
  simp only [List.map_cons,clE,Hp.c7] at cd ⊢
  by_cases q:k=id
  ·rw [if_pos q] at cd ⊢;exact cd
  ·rw [if_neg q] at cd ⊢
   rw [xM] at cd ⊢
   simp only [List.mem_cons] at cd
   split at cd
   ·cases cd
   ·rename_i q2
    rw [if_neg (fun h=>q2 (.inr h))]
    show (if k=id then _ else if k=p.M then none else H k)=_
    rw [if_neg q,if_neg (fun h=>q2 (.inl h))]
    exact cd
theorem aa1 {s:fy} {x:Operand} {n id aZ i j m:Nat} {v:Bool} {e:Nat→Nat→AV} (hx:dT s x (.rp id aZ i j)) (hb:s.H id=some (.c5 v aZ m e)) (hi:i < m) (hle:j+n≤aZ)
  (hc:∀ k,k < n→(e i (j+k)).Kc=false):Rdb s x n fun k=>e i (j+k):=fun {w F O μ K ft act} hs=>by
 have h:=hx hs
 obtain ⟨ob,rQ,cs,t,S',rfl,hB⟩:=hs.hr.di id _ hb (Ey (by omega))
 generalize act.eval x=u at h
 cases h with
 | rp _ _ _ _ bY=>
  refine ⟨_,_,fun k=>cs.getD (i*aZ+j+k) undef,rfl,fun k hk=>?_⟩
  have h2:(i+1)*aZ≤m*aZ:=Nat.mul_le_mul_right _ hi
  rw [Nat.add_mul,Nat.one_mul] at h2
  have fw:=hB.size
  have dL:i*aZ+j+k < cs.size:=by omega
  refine ⟨by simp [World.cell?,rQ,dL],?_⟩
  have h5:=(hB.cell i (j+k) hi (by omega)).1
  rw [← Nat.add_assoc] at h5
  rcases h5 with h5 | h5
  ·exact (h5.closed (hc k hk)).1.up
  ·exact h5.1
theorem db.ghost {o:Oper} {s s1:fy} {v:AV} {up1:List (Nat×Option ju)} {adl:List Nat} (hH:s1.H=s.H.c7 up1)
  (hg:∀ {w F O μ K ft a},SR w F O μ K s ft a→(∀ id,id∈adl→¬ K id)→∃ bB b7,SR w F O bB (plus K adl) s1 b7 a∧Fr w F O μ K w F O bB) (h:db P o s1 ⟨v,[],[]⟩):db P o s ⟨v,up1,adl⟩:=by
 intro w F O μ K ft a hs hn Kn Q hk
 obtain ⟨Kj,V2,h1,h2⟩:=hg hs hn
 refine h w F O Kj _ V2 a h1 (fun _ h=>by cases h) Kn Q fun u w' F' O' bB b7 k1 k2 k3=>?_
 simp only [la,Hp.QT,hH] at k1 k2
 exact hk u w' F' O' bB b7 k1 k2 (h2.trans (k3.Of fun id h=>.inl h))
inductive UR (s:fy):AV→AV→List Nat→Prop
 | Iy (a e:AV) (hc:PL a) (h1:One a) (hi:gZ a e):UR s a e []
 | eQ (aZ:Nat) (e:Nat→Nat→AV):UR s .eQ (.os aZ 0 e) []
 | own (id n aZ:Nat) (e:Nat→Nat→AV) (hb:s.H id=some (.row true aZ n e)):UR s (dd true id n aZ) (.os aZ n e) [id]
theorem UR.ok {s:fy} {a e:AV} {g:List Nat} {act:Act} {v:Value} (h:UR s a e g) (hs:SR w F O μ K s ft act) (hv:VR w F μ K a v):
  ∃ S:Nat→Prop,iW w F μ S e v∧v.oneCell'=true∧∀ x,S x→∃ id,id∈g∧s.H.live id∧ft id x:=by
 cases h with
 | Iy a e hc h1 hi=>exact ⟨fun _=>False,.Iy _ _ _ (hi (hc hv)) (fun _ h=>h),h1 hv,fun x h=>h.elim⟩
 | eQ aZ e=>
  rw [hv.oD]
  exact ⟨fun _=>False,.Al _ _ _ _ fun _ h=>h,rfl,fun x h=>h.elim⟩
 | own id n aZ e hb=>
  rcases sS hv with ⟨⟨a,rfl⟩,rfl,_⟩ | ⟨cap,sz,t',rfl,q2,q3,q4,q5,q6⟩
  ·exact ⟨fun _=>False,.Al _ _ _ _ fun _ h=>h,rfl,fun x h=>h.elim⟩
  ·have Lc:=q6 rfl
   have hl:(ju.row true aZ n e).eI=true:=by simpa [ju.eI] using Lc
   obtain ⟨ob,rQ,cs,t2,S',rfl,hB⟩:=hs.hr.di id _ hb hl
   have CF:cap*aZ≤cs.size:=by
    simp only [World.shape?,rQ,Option.some.injEq,Prod.mk.injEq] at q4
    rw [q4.2];exact q5
   exact ⟨ft id,.os (ft id) aZ n e (μ id) cap cs t2 S' Lc rQ q2 CF (fun i j hi hj=>(hB.cell i j hi hj).2) (fun i j hi hj=>(hB.cell i j hi hj).1) hB.dj hB.nb hB.all,rfl,fun x hx=>⟨id,by simp,⟨_,hb,hl⟩,hx⟩⟩
structure SX (s:fy) (l:List AV) (e:Nat→AV) (g:Nat→List Nat):Prop where
 aa2:∀ k,k < l.length→UR s (l.getD k .top) (e k) (g k)
 dj:∀ k k' id,k < l.length→k' < l.length→id∈g k→id∈g k'→k=k'
theorem SX.ok {s:fy} {l:List AV} {e:Nat→AV} {g:Nat→List Nat} {act:Act} {vs:List Value} (h:SX s l e g) (hs:SR w F O μ K s ft act) (hv:hP w F μ K l vs):
  ∃ U:Nat→Nat→Prop,(∀ k,k < vs.length→iW w F μ (U k) (e k) (vs.getD k undef)∧(vs.getD k undef).oneCell'=true)∧(∀ k x,k < vs.length→U k x→∃ id,id∈g k∧s.H.live id∧ft id x)∧
   ∀ k k' x,k < vs.length→k' < vs.length→U k x→U k' x→k=k':=by
 have key:∀ k,∃ S:Nat→Prop,k < vs.length→iW w F μ S (e k) (vs.getD k undef)∧(vs.getD k undef).oneCell'=true∧∀ x,S x→∃ id,id∈g k∧s.H.live id∧ft id x:=fun k=>by
  by_cases hk:k < vs.length
  ·obtain ⟨S,q⟩:=(h.aa2 k (hv.1▸hk)).ok hs (hv.2 k (hv.1▸hk))
   exact ⟨S,fun _=>q⟩
  ·exact ⟨fun _=>False,fun h=>absurd h hk⟩
 refine ⟨fun k=>Classical.choose (key k),fun k hk=>⟨(Classical.choose_spec (key k) hk).1,(Classical.choose_spec (key k) hk).2.1⟩,fun k x hk hx=>(Classical.choose_spec (key k) hk).2.2 x hx,fun k k' x hk FC hx j7=>?_⟩
 obtain ⟨id,a1,a2,a3⟩:=(Classical.choose_spec (key k) hk).2.2 x hx
 obtain ⟨b9,b1,b2,b3⟩:=(Classical.choose_spec (key k') FC).2.2 x j7
 have:=hs.hr.dj id b9 a2 b2 x a3 b3
 subst this
 exact h.dj k k' id (hv.1▸hk) (hv.1▸FC) a1 b1
theorem US {b aZ m i j:Nat} {e e':Nat→Nat→AV} {cs:Array Value} {vs:List Value} {S:Nat→Nat→Nat→Prop} {T:Nat→Prop} {U:Nat→Nat→Prop} (hB:M1 b cs aZ m S T fun T i j v=>iW w F μ T (e i j) v)
  (hv:∀ k,k < vs.length→iW w F μ (U k) (e' i (j+k)) (vs.getD k undef)∧(vs.getD k undef).oneCell'=true) (hd:∀ k k' x,k < vs.length→k' < vs.length→U k x→U k' x→k=k') (hT:∀ k x,k < vs.length→U k x→¬ T x)
  (hi:i < m) (hj:j+vs.length≤aZ) (LL:∀ i' j',i' < m→j' < aZ→¬ (i'=i∧j≤j'∧j' < j+vs.length)→e' i' j'=e i' j'):
  i*aZ+j+vs.length≤cs.size∧∃ S' T',(∀ x,T' x→T x∨∃ k,k < vs.length∧U k x)∧T' b∧M1 b (rD cs (i*aZ+j) vs) aZ m S' T' fun T i j v=>iW w F μ T (e' i j) v:=by
 have h2:(i+1)*aZ≤m*aZ:=Nat.mul_le_mul_right _ hi
 rw [Nat.add_mul,Nat.one_mul] at h2
 have fw:=hB.size
 have h3:i*aZ+j+vs.length≤cs.size:=by omega
 let hit:Nat→Nat→Prop:=fun i' j'=>i'=i∧j≤j'∧j' < j+vs.length
 let S':Nat→Nat→Nat→Prop:=fun i' j' x=>(¬ hit i' j'∧S i' j' x)∨(hit i' j'∧U (j'-j) x)
 have inT:∀ i' j',i' < m→j' < aZ→∀ x,S i' j' x→T x:=fun i' j' a1 a2 x hx=>(hB.all x).2 (.inr ⟨i',j',a1,a2,hx⟩)
 refine ⟨h3,S',fun x=>x=b∨∃ i' j',i' < m∧j' < aZ∧S' i' j' x,?_,.inl rfl,?_⟩
 ·rintro x (h | ⟨i',j',k1,k2,⟨_,k3⟩ | ⟨k0,k3⟩⟩)
  ·exact .inl ((hB.all x).2 (.inl h))
  ·exact .inl (inT i' j' k1 k2 x k3)
  ·exact .inr ⟨j'-j,by have:=k0.2;omega,k3⟩
 ·refine { size:=by rw [ie];exact fw,cell:=fun i' j' c8 lu=>?_,dj:=?_,nb:=?_,all:=fun _=>Iff.rfl }
  ·rw [sR _ _ _ h3]
   by_cases hh:hit i' j'
   ·obtain ⟨rfl,hh1,hh2⟩:=hh
    have eS:S' i' j'=U (j'-j):=by
     funext x
     simp only [S',eq_iff_iff]
     exact ⟨fun h=>h.elim (fun h=>absurd ⟨rfl,hh1,hh2⟩ h.1) fun h=>h.2,fun h=>.inr ⟨⟨rfl,hh1,hh2⟩,h⟩⟩
    rw [eS,if_pos (by omega),show i'*aZ+j'-(i'*aZ+j)=j'-j by omega]
    have:=hv (j'-j) (by omega)
    rwa [show j+(j'-j)=j' by omega] at this
   ·have eS:S' i' j'=S i' j':=by
     funext x
     simp only [S',eq_iff_iff]
     exact ⟨fun h=>h.elim (fun h=>h.2) fun h=>absurd h.1 hh,fun h=>.inl ⟨hh,h⟩⟩
    rw [eS,LL i' j' c8 lu hh,if_neg ?_]
    ·exact hB.cell i' j' c8 lu
    ·rintro ⟨q1,q2⟩
     by_cases e1:i'=i
     ·subst e1;exact hh ⟨rfl,by omega,by omega⟩
     ·rcases Nat.lt_or_gt_of_ne e1 with h | h
      ·have h4:(i'+1)*aZ≤i*aZ:=Nat.mul_le_mul_right _ h
       rw [Nat.add_mul,Nat.one_mul] at h4
       omega
      ·have h4:(i+1)*aZ≤i'*aZ:=Nat.mul_le_mul_right _ h
       rw [Nat.add_mul,Nat.one_mul] at h4
       omega
  ·rintro i1 j1 i2 j2 a1 a2 a3 a4 x (⟨h,hx⟩ | ⟨h,hx⟩) (⟨h',j7⟩ | ⟨h',j7⟩)
   ·exact hB.dj i1 j1 i2 j2 a1 a2 a3 a4 x hx j7
   ·exact absurd (inT i1 j1 a1 a2 x hx) (hT _ x (by have:=h'.2;omega) j7)
   ·exact absurd (inT i2 j2 a3 a4 x j7) (hT _ x (by have:=h.2;omega) hx)
   ·have:=hd _ _ x (by have:=h.2;omega) (by have:=h'.2;omega) hx j7
    obtain ⟨rfl,h1,h2⟩:=h
    obtain ⟨rfl,h3,h4⟩:=h'
    exact ⟨rfl,by omega⟩
  ·rintro i' j' a1 a2 (⟨_,hx⟩ | ⟨h,hx⟩)
   ·exact hB.nb i' j' a1 a2 hx
   ·exact hT _ b (by have:=h.2;omega) hx ((hB.all b).2 (.inl rfl))
theorem OP {o:Oper} {s:fy} {x y:Operand} {t:TypeId} {ti:TypeInfo} {a:AV} {l:List AV} {id aZ i j m:Nat} {v:Bool} {e e':Nat→Nat→AV} {g:Nat→List Nat} {L:List Nat} (ho:o.op=.store t x y) (hi:P.info? t=some ti) (hx:dT s x (.rp id aZ i j)) (hy:dT s y a) (hl:Bl a l)
  (fw:l.length=ti.size) (hb:s.H id=some (.row v aZ m e)) (him:i < m) (hle:j+l.length≤aZ) (hg:SX s l (fun k=>e' i (j+k)) g) (hL:∀ k,k < l.length→∀ b9,b9∈g k→b9∈L) (bY:id ∉ L)
  (LL:∀ i' j',i' < m→j' < aZ→¬ (i'=i∧j≤j'∧j' < j+l.length)→e' i' j'=e i' j'):
  db P o s ⟨.lit undef,(id,some (.row v aZ m e'))::gx L,[]⟩:=by
 intro w F O μ K ft act hs _ Kn Q hk
 have Zn:=hl (hy hs)
 have M8:(ju.row v aZ m e).eI=true:=by cases v<;>simp [ju.eI];omega
 have ic:s.H.live id:=⟨_,hb,M8⟩
 obtain ⟨ob,rQ,cs,et,S,rfl,hB⟩:=hs.hr.di id _ hb M8
 obtain ⟨U,u1,u2,u3⟩:=hg.ok hs Zn
 have hlen:(act.eval y).cells.toList.length=l.length:=Zn.1.symm
 have hv:=hx hs
 generalize F_:act.eval x=u at hv
 cases hv with
 | rp _ _ _ _ OQ=>
  obtain ⟨k1,S',T',k2,k3,k4⟩:=US (e':=e') hB u1 u3 (fun k x hk hx hT=>by
   obtain ⟨Bn,a1,a2,a3⟩:=u2 k x hk hx
   have:=hs.hr.dj Bn id a2 ic x a3 hT
   exact bY (this▸hL k (hlen▸hk) Bn a1)) him (by rw [hlen];exact hle) (by rw [hlen];exact LL)
  have M9:∀ z,z∈(act.eval y).cells.toList→z.oneCell'=true:=fun z hz=>by
   obtain ⟨k,hk,rfl⟩:=List.getElem_of_mem hz
   have:=(u1 k hk).2
   rwa [List.getD,List.getElem?_eq_getElem hk] at this
  have lD:(execOp act.eval o).run P w=.ok .skip (iZ w (μ id) (.cells (rD cs (i*aZ+j) (act.eval y).cells.toList) et (0,0))):=by
   have:=DX (P:=P) hi rQ (v:=act.eval y) (by rw [← Array.length_toList,hlen];exact fw) M9 (o:=i*aZ+j) (by simpa using k1)
   simp [execOp,ho,F_,this]
  obtain ⟨O',b7,q1,q2⟩:=mD (L:=L) (b':=.row v aZ m e') hs.hr hb M8 rQ (uz (ie _ _ _)) bY (fun x hx=>by
   rcases k2 x hx with h | ⟨k,hk,h⟩
   ·exact ⟨id,.inl rfl,ic,h⟩
   ·obtain ⟨Bn,a1,a2,a3⟩:=u2 k x hk h
    exact ⟨Bn,.inr (hL k (hlen▸hk) Bn a1),a2,a3⟩) k3 ⟨_,et,S',rfl,k4⟩
  unfold Oper.wp
  rw [lD,Oper.upon_skip]
  exact hk undef _ F O' μ b7 (.lit _) (by rw [la];exact q1) q2
theorem Nj {o:Oper} {s:fy} {t et:TypeId} {ti:TypeInfo} {n:Nat} {ps:List (Nat×Operand)} {q:List (Nat×List AV)} {zs r:List AV} {N:Nat} {e:Nat→Nat→AV} {g:Nat→List Nat} {L:List Nat} (ho:o.op=.buildSlice t n ⟨ps⟩) (ht:P.underlying t=some (.slice et))
  (hi:P.info? et=some ti) (hz:Ao P et=some zs) (hl:zs.length=ti.size) (J5:ti.size≠0) (hn:n*ti.size≤16777216) (hq:DY s ps q)
  (hr:nS (fun i=>some (i*ti.size,ti.size)) ((List.range n).flatMap fun _=>zs) q=some r) (hg:SX s r (fun k=>e (k / ti.size) (k % ti.size)) g) (hL:∀ k,k < r.length→∀ b9,b9∈g k→b9∈L):
  db P o s ⟨.ms N 0 n ti.size,(N,some (.row false ti.size n e))::gx L,[N]⟩:=by
 intro w F O μ K ft a hs DZ Kn Q hk
 have hN:¬ K N:=DZ N (by simp)
 obtain ⟨us,RR,k2,lD⟩:=xO hs ho ht hi hz hl J5 hn hq hr
 obtain ⟨U,u1,u2,u3⟩:=hg.ok hs k2
 have hlen:us.toList.length=r.length:=k2.1.symm
 have F8:∀ k x,k < us.toList.length→U k x→x < w.heap.size:=fun k x hk hx=>by
  obtain ⟨Bn,a1,a2,a3⟩:=u2 k x hk hx
  exact hs.hr.p0 x (hs.hr.own Bn a2 x a3)
 have at_:∀ i j,i < n→j < ti.size→i*ti.size+j < us.toList.length:=fun i j hi hj=>by
  have h4:(i+1)*ti.size≤n*ti.size:=Nat.mul_le_mul_right _ hi
  rw [Nat.add_mul,Nat.one_mul] at h4
  simp only [Array.length_toList,RR];omega
 let T:Nat→Prop:=fun x=>x=w.heap.size∨∃ i j,i < n∧j < ti.size∧U (i*ti.size+j) x
 have hB:gO w F μ K T w.heap.size (.cells us et) (.row false ti.size n e):=by
  refine ⟨us,et,fun i j=>U (i*ti.size+j),rfl,{ size:=by rw [RR];exact Nat.le_refl _,cell:=fun i j hi hj=>?_,dj:=fun i j i' j' hi hj c8 lu x hx j7=>?_,nb:=fun i j hi hj hx=>?_,all:=fun _=>Iff.rfl }⟩
  ·have:=u1 _ (at_ i j hi hj)
   have e2:(i*ti.size+j) / ti.size=i:=by
    rw [Nat.add_comm,Nat.add_mul_div_right _ _ (by omega),Nat.div_eq_of_lt hj];omega
   rw [II hj,e2,iN] at this
   exact this
  ·have h5:=u3 _ _ x (at_ i j hi hj) (at_ i' j' c8 lu) hx j7
   have h6:=II (i:=i) hj
   have h7:=II (i:=i') lu
   have ej:j=j':=by rw [← h6,← h7,h5]
   subst ej
   refine ⟨Nat.eq_of_mul_eq_mul_right (show 0 < ti.size by omega) (by omega),rfl⟩
  ·have:=F8 _ _ (at_ i j hi hj) hx
   omega
 obtain ⟨O',b7,q1,q2⟩:=Hb (L:=L) (S:=T) (o:=.cells us et) (b:=.row false ti.size n e) hs.hr hN (fun x hx=>by
  rcases hx with h | ⟨i,j,hi,hj,h⟩
  ·exact .inl h
  ·obtain ⟨Bn,a1,a2,a3⟩:=u2 _ x (at_ i j hi hj) h
   exact .inr ⟨Bn,hL _ (hlen▸at_ i j hi hj) Bn a1,a2,a3⟩) (.inl rfl) hB
 unfold Oper.wp
 rw [lD,Oper.upon_value]
 exact hk _ _ F O' _ b7 (UN RR (DR w _) (g0 _ _ _)) q1 q2
end Go.Proofs.YtljfmaaadnoggaaGreatDoor.cU
