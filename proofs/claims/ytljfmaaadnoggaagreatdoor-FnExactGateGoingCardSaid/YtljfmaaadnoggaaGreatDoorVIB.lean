/- Rows whose parts are rows of the call's own: several parts opened and closed; stores, literals, whole slices. No condition. -/
import Derived.Test.YtljfmaaadnoggaaGreatDoorVIA
namespace Go.Proofs.YtljfmaaadnoggaaGreatDoor.cX
open Go Go.RowKit
variable {w w' xW:World} {F F' Cq O O' wx:Nat→Prop} {μ bC kZ:Nat→Nat} {K K' Gg:Nat→Prop} {H H' H'':Hp} {ft b8:Nat→Nat→Prop} {P:Program}
structure Prt where
 j:Nat
 bB:Nat
 n:Nat
 e:Nat→Nat→AV
def WU (i:Nat):Nat→List Prt→(Nat→Nat→AV)→Nat→Nat→AV
 | _,[],e=>e
 | N,p::r,e=>WU i (N+1) r fun i' j'=>if i'=i∧j'=p.j then dr true N p.n p.bB else e i' j'
def QS:Nat→List Prt→List (Nat×Option kq)
 | _,[]=>[]
 | N,p::r=>(N,some (.row true p.bB p.n p.e))::QS (N+1) r
theorem Zb {N id:Nat} (h:id < N):∀ {L:List Prt} {N':Nat},N≤N'→H.c_ (QS N' L) id=H id
 | [],_,_=>rfl
 | p::r,N',hN=>by
  show (if id=N' then _ else H.c_ (QS (N'+1) r) id)=_
  rw [if_neg (by omega)]
  exact Zb h (by omega)
theorem Sm {id bB n i:Nat} {v:Bool}:∀ (L:List Prt) {N:Nat} {e:Nat→Nat→AV} {H:Hp} {K:Nat→Prop} {μ:Nat→Nat} {ft:Nat→Nat→Prop},HR w F O μ K H ft→(∀ k,k∈List.range' N L.length→¬ K k)→H id=some (.da v bB n e)→i < n→
  (∀ p,p∈L→p.j < bB∧e i p.j=.os p.bB p.n p.e)→(L.map (·.j)).Nodup→
  ∃ bC b8,HR w F O bC (plus K (List.range' N L.length)) (H.c_ ((id,some (.da v bB n (WU i N L e)))::QS N L)) b8∧Fr w F O μ K w F O bC
 | [],N,e,H,K,μ,ft,hr,hN,hb,hi,hp,hd=>by
  refine ⟨μ,ft,?_,Fr.refl _ _ _ _ _⟩
  have e1:plus K (List.range' N ([]:List Prt).length)=K:=jC K
  rw [e1]
  refine hr.imp fun k b' cu=>?_
  simp only [QS,WU,Hp.c_] at cu
  by_cases q:k=id
  ·rw [if_pos q] at cu
   cases cu
   exact ⟨_,q▸hb,eV.refl _⟩
  ·rw [if_neg q] at cu
   exact ⟨_,cu,eV.refl _⟩
 | p::r,N,e,H,K,μ,ft,hr,hN,hb,hi,hp,hd=>by
  have aaJ:=hr.known id _ hb
  have hNN:¬ K N:=hN N (by simp only [List.mem_range'_1,List.length_cons];omega)
  have pw:id≠N:=fun h=>hNN (h▸aaJ)
  obtain ⟨p1,p2⟩:=hp p (by simp)
  have PU:p.j ∉ r.map (·.j)∧(r.map (·.j)).Nodup:=by simpa only [List.map_cons,List.nodup_cons] using hd
  obtain ⟨ME,Zc,h1,h2⟩:=aaI (N:=N) (e1:=fun i' j'=>if i'=i∧j'=p.j then dr true N p.n p.bB else e i' j') hr hNN hb hi p1 p2 (by simp) (fun i' j' _ _ h=>if_neg h)
  obtain ⟨Ic,Nz,k1,k2⟩:=Sm r (N:=N+1) h1 (fun k hk h=>by
   simp only [List.mem_range'_1] at hk
   rcases h with h | h
   ·exact hN k (by simp only [List.mem_range'_1,List.length_cons];omega) h
   ·simp at h;omega) (by rw [show (H.c_ [(id,some (.da v bB n fun i' j'=>if i'=i∧j'=p.j then dr true N p.n p.bB else e i' j')),(N,some (.row true p.bB p.n p.e))]) id=_ from if_pos rfl]) hi (fun q hq=>by
    have hqj:q.j≠p.j:=fun h=>PU.1 (h▸List.mem_map.2 ⟨q,hq,rfl⟩)
    have:=hp q (by simp [hq])
    exact ⟨this.1,by rw [if_neg (fun h=>hqj h.2)];exact this.2⟩) PU.2
  have eK:plus (plus K [N]) (List.range' (N+1) r.length)=plus K (List.range' N (p::r).length):=by
   funext k
   simp only [plus,List.mem_singleton,List.mem_range'_1,List.length_cons,eq_iff_iff]
   constructor
   ·rintro ((h | h) | h)
    ·exact .inl h
    ·exact .inr (by omega)
    ·exact .inr (by omega)
   ·rintro (h | h)
    ·exact .inl (.inl h)
    ·by_cases q:k=N
     ·exact .inl (.inr q)
     ·exact .inr (by omega)
  rw [eK] at k1
  refine ⟨Ic,Nz,k1.imp fun k b' cu=>⟨b',?_,eV.refl _⟩,h2.trans (k2.QQ fun k hk=>.inl hk)⟩
  simp only [WU,QS,Hp.c_] at cu ⊢
  by_cases q:k=id
  ·rw [if_pos q] at cu ⊢;exact cu
  ·rw [if_neg q] at cu ⊢
   by_cases q2:k=N
   ·rw [if_pos q2] at cu
    subst q2
    rw [Zb (Nat.lt_succ_self k) (Nat.le_refl _)]
    simp only [Hp.c_,if_neg q,if_true];exact cu
   ·rw [if_neg q2] at cu
    have key:∀ (r:List Prt) (N1:Nat),H.c_ (QS N1 r) k=some b'→(H.c_ [(id,some (.da v bB n fun i' j'=>if i'=i∧j'=p.j then dr true N p.n p.bB else e i' j')),(N,some (.row true p.bB p.n p.e))]).c_ (QS N1 r) k=some b':=by
     intro r
     induction r with
     | nil=>intro N1 h;simp only [QS,Hp.c_] at h ⊢;rw [if_neg q,if_neg q2];exact h
     | cons x r ih=>
      intro N1 h
      simp only [QS,Hp.c_] at h ⊢
      by_cases q3:k=N1
      ·rw [if_pos q3] at h ⊢;exact h
      ·rw [if_neg q3] at h ⊢;exact ih _ h
    exact key r (N+1) cu
structure Hol extends Prt where
 M:Nat
def clE (i:Nat):List Hol→(Nat→Nat→AV)→Nat→Nat→AV
 | [],e=>e
 | p::r,e=>clE i r fun i' j'=>if i'=i∧j'=p.j then .os p.bB p.n p.e else e i' j'
theorem PV {id bB n i:Nat} {v:Bool}:∀ (L:List Hol) {e:Nat→Nat→AV} {H:Hp} {ft:Nat→Nat→Prop},HR w F O μ K H ft→H id=some (.da v bB n e)→i < n→
  (∀ p,p∈L→p.j < bB∧e i p.j=dr true p.M p.n p.bB∧H p.M=some (.row true p.bB p.n p.e))→(L.map (·.j)).Nodup→(L.map (·.M)).Nodup→
  ∃ b8,HR w F O μ K (H.c_ ((id,some (.da v bB n (clE i L e)))::gX (L.map (·.M)))) b8
 | [],e,H,ft,hr,hb,hi,hp,hd,hm=>by
  refine ⟨ft,hr.imp fun k b' cu=>⟨b',?_,eV.refl _⟩⟩
  simp only [List.map_nil,gX,clE,Hp.c_] at cu
  by_cases q:k=id
  ·rw [if_pos q] at cu;rw [q,hb];exact cu
  ·rw [if_neg q] at cu;exact cu
 | p::r,e,H,ft,hr,hb,hi,hp,hd,hm=>by
  obtain ⟨p1,p2,p3⟩:=hp p (by simp)
  have pw:∀ {M:Nat} {z n':Nat} {f},H M=some (.row true z n' f)→M≠id:=fun h q=>by rw [q,hb] at h;cases h
  have PU:p.j ∉ r.map (·.j)∧(r.map (·.j)).Nodup:=by simpa only [List.map_cons,List.nodup_cons] using hd
  have hm':p.M ∉ r.map (·.M)∧(r.map (·.M)).Nodup:=by simpa only [List.map_cons,List.nodup_cons] using hm
  obtain ⟨Zc,h1⟩:=XQ (e1:=fun i' j'=>if i'=i∧j'=p.j then .os p.bB p.n p.e else e i' j') hr hb p3 hi p1 p2 (by simp) fun i' j' _ _ h=>if_neg h
  obtain ⟨Nz,h2⟩:=PV r h1 (by rw [show (H.c_ [(id,some (.da v bB n fun i' j'=>if i'=i∧j'=p.j then .os p.bB p.n p.e else e i' j')),(p.M,none)]) id=_ from if_pos rfl]) hi (fun q hq=>by
   have hqj:q.j≠p.j:=fun h=>PU.1 (h▸List.mem_map.2 ⟨q,hq,rfl⟩)
   have hqM:q.M≠p.M:=fun h=>hm'.1 (h▸List.mem_map.2 ⟨q,hq,rfl⟩)
   obtain ⟨k1,k2,k3⟩:=hp q (by simp [hq])
   refine ⟨k1,by rw [if_neg (fun h=>hqj h.2)];exact k2,?_⟩
   show (if q.M=id then _ else if q.M=p.M then none else H q.M)=_
   rw [if_neg (pw k3),if_neg hqM];exact k3) PU.2 hm'.2
  refine ⟨Nz,h2.imp fun k b' cu=>⟨b',?_,eV.refl _⟩⟩
  simp only [List.map_cons,clE,Hp.c_] at cu ⊢
  by_cases q:k=id
  ·rw [if_pos q] at cu ⊢;exact cu
  ·rw [if_neg q] at cu ⊢
   rw [zT] at cu ⊢
   simp only [List.mem_cons] at cu
   split at cu
   ·cases cu
   ·rename_i q2
    rw [if_neg (fun h=>q2 (.inr h))]
    show (if k=id then _ else if k=p.M then none else H k)=_
    rw [if_neg q,if_neg (fun h=>q2 (.inl h))]
    exact cu
theorem adT {s:fU} {x:Operand} {n id bB i j m:Nat} {v:Bool} {e:Nat→Nat→AV} (hx:ec s x (.rp id bB i j)) (hb:s.H id=some (.da v bB m e)) (hi:i < m) (hle:j+n≤bB)
  (hc:∀ k,k < n→(e i (j+k)).My=false):Rdb s x n fun k=>e i (j+k):=fun {w F O μ K ft act} hs=>by
 have h:=hx hs
 obtain ⟨ob,qR,cs,t,S',rfl,hB⟩:=hs.hr.dw id _ hb (G7 (by omega))
 generalize act.eval x=u at h
 cases h with
 | rp _ _ _ _ cb=>
  refine ⟨_,_,fun k=>cs.getD (i*bB+j+k) undef,rfl,fun k hk=>?_⟩
  have h2:(i+1)*bB≤m*bB:=Nat.mul_le_mul_right _ hi
  rw [Nat.add_mul,Nat.one_mul] at h2
  have fL:=hB.size
  have dQ:i*bB+j+k < cs.size:=by omega
  refine ⟨by simp [World.cell?,qR,dQ],?_⟩
  have h5:=(hB.cell i (j+k) hi (by omega)).1
  rw [← Nat.add_assoc] at h5
  rcases h5 with h5 | h5
  ·exact (h5.closed (hc k hk)).1.up
  ·exact h5.1
theorem de.ghost {o:Oper} {s s1:fU} {v:AV} {up1:List (Nat×Option kq)} {agw:List Nat} (hH:s1.H=s.H.c_ up1)
  (hg:∀ {w F O μ K ft a},SR w F O μ K s ft a→(∀ id,id∈agw→¬ K id)→∃ bC b8,SR w F O bC (plus K agw) s1 b8 a∧Fr w F O μ K w F O bC) (h:de P o s1 ⟨v,[],[]⟩):de P o s ⟨v,up1,agw⟩:=by
 intro w F O μ K ft a hs hn Kn Q hk
 obtain ⟨ME,Zc,h1,h2⟩:=hg hs hn
 refine h w F O ME _ Zc a h1 (fun _ h=>by cases h) Kn Q fun u w' F' O' bC b8 k1 k2 k3=>?_
 simp only [jC,Hp.TL,hH] at k1 k2
 exact hk u w' F' O' bC b8 k1 k2 (h2.trans (k3.QQ fun id h=>.inl h))
inductive XR (s:fU):AV→AV→List Nat→Prop
 | KR (a e:AV) (hc:Sh a) (h1:One a) (hi:iu a e):XR s a e []
 | ff (bB:Nat) (e:Nat→Nat→AV):XR s .ff (.os bB 0 e) []
 | own (id n bB:Nat) (e:Nat→Nat→AV) (hb:s.H id=some (.row true bB n e)):XR s (dr true id n bB) (.os bB n e) [id]
theorem XR.ok {s:fU} {a e:AV} {g:List Nat} {act:Act} {v:Value} (h:XR s a e g) (hs:SR w F O μ K s ft act) (hv:VR w F μ K a v):
  ∃ S:Nat→Prop,jO w F μ S e v∧v.oneCell'=true∧∀ x,S x→∃ id,id∈g∧s.H.live id∧ft id x:=by
 cases h with
 | KR a e hc h1 hi=>exact ⟨fun _=>False,.KR _ _ _ (hi (hc hv)) (fun _ h=>h),h1 hv,fun x h=>h.elim⟩
 | ff bB e=>
  rw [hv.pY]
  exact ⟨fun _=>False,.Cp _ _ _ _ fun _ h=>h,rfl,fun x h=>h.elim⟩
 | own id n bB e hb=>
  rcases uQ hv with ⟨⟨a,rfl⟩,rfl,_⟩ | ⟨cap,sz,t',rfl,q2,q3,q4,q5,q6⟩
  ·exact ⟨fun _=>False,.Cp _ _ _ _ fun _ h=>h,rfl,fun x h=>h.elim⟩
  ·have Nw:=q6 rfl
   have hl:(kq.row true bB n e).fa=true:=by simpa [kq.fa] using Nw
   obtain ⟨ob,qR,cs,t2,S',rfl,hB⟩:=hs.hr.dw id _ hb hl
   have ER:cap*bB≤cs.size:=by
    simp only [World.shape?,qR,Option.some.injEq,Prod.mk.injEq] at q4
    rw [q4.2];exact q5
   exact ⟨ft id,.os (ft id) bB n e (μ id) cap cs t2 S' Nw qR q2 ER (fun i j hi hj=>(hB.cell i j hi hj).2) (fun i j hi hj=>(hB.cell i j hi hj).1) hB.dj hB.nb hB.all,rfl,fun x hx=>⟨id,by simp,⟨_,hb,hl⟩,hx⟩⟩
structure VX (s:fU) (l:List AV) (e:Nat→AV) (g:Nat→List Nat):Prop where
 adU:∀ k,k < l.length→XR s (l.getD k .top) (e k) (g k)
 dj:∀ k k' id,k < l.length→k' < l.length→id∈g k→id∈g k'→k=k'
theorem VX.ok {s:fU} {l:List AV} {e:Nat→AV} {g:Nat→List Nat} {act:Act} {vs:List Value} (h:VX s l e g) (hs:SR w F O μ K s ft act) (hv:iR w F μ K l vs):
  ∃ U:Nat→Nat→Prop,(∀ k,k < vs.length→jO w F μ (U k) (e k) (vs.getD k undef)∧(vs.getD k undef).oneCell'=true)∧(∀ k x,k < vs.length→U k x→∃ id,id∈g k∧s.H.live id∧ft id x)∧
   ∀ k k' x,k < vs.length→k' < vs.length→U k x→U k' x→k=k':=by
 have key:∀ k,∃ S:Nat→Prop,k < vs.length→jO w F μ S (e k) (vs.getD k undef)∧(vs.getD k undef).oneCell'=true∧∀ x,S x→∃ id,id∈g k∧s.H.live id∧ft id x:=fun k=>by
  by_cases hk:k < vs.length
  ·obtain ⟨S,q⟩:=(h.adU k (hv.1▸hk)).ok hs (hv.2 k (hv.1▸hk))
   exact ⟨S,fun _=>q⟩
  ·exact ⟨fun _=>False,fun h=>absurd h hk⟩
 refine ⟨fun k=>Classical.choose (key k),fun k hk=>⟨(Classical.choose_spec (key k) hk).1,(Classical.choose_spec (key k) hk).2.1⟩,fun k x hk hx=>(Classical.choose_spec (key k) hk).2.2 x hx,fun k k' x hk Ia hx ll=>?_⟩
 obtain ⟨id,a1,a2,a3⟩:=(Classical.choose_spec (key k) hk).2.2 x hx
 obtain ⟨cg,b1,b2,b3⟩:=(Classical.choose_spec (key k') Ia).2.2 x ll
 have:=hs.hr.dj id cg a2 b2 x a3 b3
 subst this
 exact h.dj k k' id (hv.1▸hk) (hv.1▸Ia) a1 b1
theorem XS {b bB m i j:Nat} {e e':Nat→Nat→AV} {cs:Array Value} {vs:List Value} {S:Nat→Nat→Nat→Prop} {T:Nat→Prop} {U:Nat→Nat→Prop} (hB:PE b cs bB m S T fun T i j v=>jO w F μ T (e i j) v)
  (hv:∀ k,k < vs.length→jO w F μ (U k) (e' i (j+k)) (vs.getD k undef)∧(vs.getD k undef).oneCell'=true) (hd:∀ k k' x,k < vs.length→k' < vs.length→U k x→U k' x→k=k') (hT:∀ k x,k < vs.length→U k x→¬ T x)
  (hi:i < m) (hj:j+vs.length≤bB) (N5:∀ i' j',i' < m→j' < bB→¬ (i'=i∧j≤j'∧j' < j+vs.length)→e' i' j'=e i' j'):
  i*bB+j+vs.length≤cs.size∧∃ S' T',(∀ x,T' x→T x∨∃ k,k < vs.length∧U k x)∧T' b∧PE b (tl cs (i*bB+j) vs) bB m S' T' fun T i j v=>jO w F μ T (e' i j) v:=by
 have h2:(i+1)*bB≤m*bB:=Nat.mul_le_mul_right _ hi
 rw [Nat.add_mul,Nat.one_mul] at h2
 have fL:=hB.size
 have h3:i*bB+j+vs.length≤cs.size:=by omega
 let hit:Nat→Nat→Prop:=fun i' j'=>i'=i∧j≤j'∧j' < j+vs.length
 let S':Nat→Nat→Nat→Prop:=fun i' j' x=>(¬ hit i' j'∧S i' j' x)∨(hit i' j'∧U (j'-j) x)
 have inT:∀ i' j',i' < m→j' < bB→∀ x,S i' j' x→T x:=fun i' j' a1 a2 x hx=>(hB.all x).2 (.inr ⟨i',j',a1,a2,hx⟩)
 refine ⟨h3,S',fun x=>x=b∨∃ i' j',i' < m∧j' < bB∧S' i' j' x,?_,.inl rfl,?_⟩
 ·rintro x (h | ⟨i',j',k1,k2,⟨_,k3⟩ | ⟨k0,k3⟩⟩)
  ·exact .inl ((hB.all x).2 (.inl h))
  ·exact .inl (inT i' j' k1 k2 x k3)
  ·exact .inr ⟨j'-j,by have:=k0.2;omega,k3⟩
 ·refine { size:=by rw [iX];exact fL,cell:=fun i' j' c9 ko=>?_,dj:=?_,nb:=?_,all:=fun _=>Iff.rfl }
  ·rw [uP _ _ _ h3]
   by_cases hh:hit i' j'
   ·obtain ⟨rfl,hh1,hh2⟩:=hh
    have eS:S' i' j'=U (j'-j):=by
     funext x
     simp only [S',eq_iff_iff]
     exact ⟨fun h=>h.elim (fun h=>absurd ⟨rfl,hh1,hh2⟩ h.1) fun h=>h.2,fun h=>.inr ⟨⟨rfl,hh1,hh2⟩,h⟩⟩
    rw [eS,if_pos (by omega),show i'*bB+j'-(i'*bB+j)=j'-j by omega]
    have:=hv (j'-j) (by omega)
    rwa [show j+(j'-j)=j' by omega] at this
   ·have eS:S' i' j'=S i' j':=by
     funext x
     simp only [S',eq_iff_iff]
     exact ⟨fun h=>h.elim (fun h=>h.2) fun h=>absurd h.1 hh,fun h=>.inl ⟨hh,h⟩⟩
    rw [eS,N5 i' j' c9 ko hh,if_neg ?_]
    ·exact hB.cell i' j' c9 ko
    ·rintro ⟨q1,q2⟩
     by_cases e1:i'=i
     ·subst e1;exact hh ⟨rfl,by omega,by omega⟩
     ·rcases Nat.lt_or_gt_of_ne e1 with h | h
      ·have h4:(i'+1)*bB≤i*bB:=Nat.mul_le_mul_right _ h
       rw [Nat.add_mul,Nat.one_mul] at h4
       omega
      ·have h4:(i+1)*bB≤i'*bB:=Nat.mul_le_mul_right _ h
       rw [Nat.add_mul,Nat.one_mul] at h4
       omega
  ·rintro i1 j1 i2 j2 a1 a2 a3 a4 x (⟨h,hx⟩ | ⟨h,hx⟩) (⟨h',ll⟩ | ⟨h',ll⟩)
   ·exact hB.dj i1 j1 i2 j2 a1 a2 a3 a4 x hx ll
   ·exact absurd (inT i1 j1 a1 a2 x hx) (hT _ x (by have:=h'.2;omega) ll)
   ·exact absurd (inT i2 j2 a3 a4 x ll) (hT _ x (by have:=h.2;omega) hx)
   ·have:=hd _ _ x (by have:=h.2;omega) (by have:=h'.2;omega) hx ll
    obtain ⟨rfl,h1,h2⟩:=h
    obtain ⟨rfl,h3,h4⟩:=h'
    exact ⟨rfl,by omega⟩
  ·rintro i' j' a1 a2 (⟨_,hx⟩ | ⟨h,hx⟩)
   ·exact hB.nb i' j' a1 a2 hx
   ·exact hT _ b (by have:=h.2;omega) hx ((hB.all b).2 (.inl rfl))
theorem Rn {o:Oper} {s:fU} {x y:Operand} {t:TypeId} {ti:TypeInfo} {a:AV} {l:List AV} {id bB i j m:Nat} {v:Bool} {e e':Nat→Nat→AV} {g:Nat→List Nat} {L:List Nat} (ho:o.op=.store t x y) (hi:P.info? t=some ti) (hx:ec s x (.rp id bB i j)) (hy:ec s y a) (hl:Dt a l)
  (fL:l.length=ti.size) (hb:s.H id=some (.row v bB m e)) (him:i < m) (hle:j+l.length≤bB) (hg:VX s l (fun k=>e' i (j+k)) g) (hL:∀ k,k < l.length→∀ cg,cg∈g k→cg∈L) (cb:id ∉ L)
  (N5:∀ i' j',i' < m→j' < bB→¬ (i'=i∧j≤j'∧j' < j+l.length)→e' i' j'=e i' j'):
  de P o s ⟨.lit undef,(id,some (.row v bB m e'))::gX L,[]⟩:=by
 intro w F O μ K ft act hs _ Kn Q hk
 have hly:=hl (hy hs)
 have PL:(kq.row v bB m e).fa=true:=by cases v<;>simp [kq.fa];omega
 have iM:s.H.live id:=⟨_,hb,PL⟩
 obtain ⟨ob,qR,cs,et,S,rfl,hB⟩:=hs.hr.dw id _ hb PL
 obtain ⟨U,u1,u2,u3⟩:=hg.ok hs hly
 have hlen:(act.eval y).cells.toList.length=l.length:=hly.1.symm
 have hv:=hx hs
 generalize Gp:act.eval x=u at hv
 cases hv with
 | rp _ _ _ _ Ro=>
  obtain ⟨k1,S',T',k2,k3,k4⟩:=XS (e':=e') hB u1 u3 (fun k x hk hx hT=>by
   obtain ⟨Dv,a1,a2,a3⟩:=u2 k x hk hx
   have:=hs.hr.dj Dv id a2 iM x a3 hT
   exact cb (this▸hL k (hlen▸hk) Dv a1)) him (by rw [hlen];exact hle) (by rw [hlen];exact N5)
  have Ml:∀ z,z∈(act.eval y).cells.toList→z.oneCell'=true:=fun z hz=>by
   obtain ⟨k,hk,rfl⟩:=List.getElem_of_mem hz
   have:=(u1 k hk).2
   rwa [List.getD,List.getElem?_eq_getElem hk] at this
  have mb:(execOp act.eval o).run P w=.ok .skip (jP w (μ id) (.cells (tl cs (i*bB+j) (act.eval y).cells.toList) et (0,0))):=by
   have:=Gn (P:=P) hi qR (v:=act.eval y) (by rw [← Array.length_toList,hlen];exact fL) Ml (o:=i*bB+j) (by simpa using k1)
   simp [execOp,ho,Gp,this]
  obtain ⟨O',b8,q1,q2⟩:=ma (L:=L) (b':=.row v bB m e') hs.hr hb PL qR (wz (iX _ _ _)) cb (fun x hx=>by
   rcases k2 x hx with h | ⟨k,hk,h⟩
   ·exact ⟨id,.inl rfl,iM,h⟩
   ·obtain ⟨Dv,a1,a2,a3⟩:=u2 k x hk h
    exact ⟨Dv,.inr (hL k (hlen▸hk) Dv a1),a2,a3⟩) k3 ⟨_,et,S',rfl,k4⟩
  unfold Oper.wp
  rw [mb,Oper.upon_skip]
  exact hk undef _ F O' μ b8 (.lit _) (by rw [jC];exact q1) q2
theorem PW {o:Oper} {s:fU} {t et:TypeId} {ti:TypeInfo} {n:Nat} {ps:List (Nat×Operand)} {q:List (Nat×List AV)} {zs r:List AV} {N:Nat} {e:Nat→Nat→AV} {g:Nat→List Nat} {L:List Nat} (ho:o.op=.buildSlice t n ⟨ps⟩) (ht:P.underlying t=some (.slice et))
  (hi:P.info? et=some ti) (hz:Cs P et=some zs) (hl:zs.length=ti.size) (Mp:ti.size≠0) (hn:n*ti.size≤16777216) (hq:Gq s ps q)
  (hr:pb (fun i=>some (i*ti.size,ti.size)) ((List.range n).flatMap fun _=>zs) q=some r) (hg:VX s r (fun k=>e (k / ti.size) (k % ti.size)) g) (hL:∀ k,k < r.length→∀ cg,cg∈g k→cg∈L):
  de P o s ⟨.ms N 0 n ti.size,(N,some (.row false ti.size n e))::gX L,[N]⟩:=by
 intro w F O μ K ft a hs Gr Kn Q hk
 have hN:¬ K N:=Gr N (by simp)
 obtain ⟨us,UH,k2,mb⟩:=zV hs ho ht hi hz hl Mp hn hq hr
 obtain ⟨U,u1,u2,u3⟩:=hg.ok hs k2
 have hlen:us.toList.length=r.length:=k2.1.symm
 have HN:∀ k x,k < us.toList.length→U k x→x < w.heap.size:=fun k x hk hx=>by
  obtain ⟨Dv,a1,a2,a3⟩:=u2 k x hk hx
  exact hs.hr.rH x (hs.hr.own Dv a2 x a3)
 have at_:∀ i j,i < n→j < ti.size→i*ti.size+j < us.toList.length:=fun i j hi hj=>by
  have h4:(i+1)*ti.size≤n*ti.size:=Nat.mul_le_mul_right _ hi
  rw [Nat.add_mul,Nat.one_mul] at h4
  simp only [Array.length_toList,UH];omega
 let T:Nat→Prop:=fun x=>x=w.heap.size∨∃ i j,i < n∧j < ti.size∧U (i*ti.size+j) x
 have hB:h_ w F μ K T w.heap.size (.cells us et) (.row false ti.size n e):=by
  refine ⟨us,et,fun i j=>U (i*ti.size+j),rfl,{ size:=by rw [UH];exact Nat.le_refl _,cell:=fun i j hi hj=>?_,dj:=fun i j i' j' hi hj c9 ko x hx ll=>?_,nb:=fun i j hi hj hx=>?_,all:=fun _=>Iff.rfl }⟩
  ·have:=u1 _ (at_ i j hi hj)
   have e2:(i*ti.size+j) / ti.size=i:=by
    rw [Nat.add_comm,Nat.add_mul_div_right _ _ (by omega),Nat.div_eq_of_lt hj];omega
   rw [K4 hj,e2,jE] at this
   exact this
  ·have h5:=u3 _ _ x (at_ i j hi hj) (at_ i' j' c9 ko) hx ll
   have h6:=K4 (i:=i) hj
   have h7:=K4 (i:=i') ko
   have ej:j=j':=by rw [← h6,← h7,h5]
   subst ej
   refine ⟨Nat.eq_of_mul_eq_mul_right (show 0 < ti.size by omega) (by omega),rfl⟩
  ·have:=HN _ _ (at_ i j hi hj) hx
   omega
 obtain ⟨O',b8,q1,q2⟩:=JC (L:=L) (S:=T) (o:=.cells us et) (b:=.row false ti.size n e) hs.hr hN (fun x hx=>by
  rcases hx with h | ⟨i,j,hi,hj,h⟩
  ·exact .inl h
  ·obtain ⟨Dv,a1,a2,a3⟩:=u2 _ x (at_ i j hi hj) h
   exact .inr ⟨Dv,hL _ (hlen▸at_ i j hi hj) Dv a1,a2,a3⟩) (.inl rfl) hB
 unfold Oper.wp
 rw [mb,Oper.upon_value]
 exact hk _ _ F O' _ b8 (XN UH (Gh w _) (iI _ _ _)) q1 q2
end Go.Proofs.YtljfmaaadnoggaaGreatDoor.cX
