/- Rows whose parts are rows of the call's own: several parts opened and closed; stores, literals, whole slices. No condition. -/
import Derived.Test.YtljfmaaadnoggaaVIA
namespace Go.Proofs.Ytljfmaaadnoggaa.Abs
open Go Go.RowKit
variable {w w' w'':World} {F F' F'' O O' O'':Nat→Prop} {μ μ' μ'':Nat→Nat} {K K' K'':Nat→Prop} {H H' H'':Hp} {ft ft':Nat→Nat→Prop} {P:Program}
structure Prt where
 j:Nat
 esz:Nat
 n:Nat
 e:Nat→Nat→AV
def opE (i:Nat):Nat→List Prt→(Nat→Nat→AV)→Nat→Nat→AV
 | _,[],e=>e
 | N,p::r,e=>opE i (N+1) r fun i' j'=>if i'=i∧j'=p.j then rowAV true N p.n p.esz else e i' j'
def opU:Nat→List Prt→List (Nat×Option Blk)
 | _,[]=>[]
 | N,p::r=>(N,some (.row true p.esz p.n p.e))::opU (N+1) r
theorem opU_low {N id:Nat} (h:id < N):∀ {L:List Prt} {N':Nat},N≤N'→H.upd (opU N' L) id=H id
 | [],_,_=>rfl
 | p::r,N',hN=>by
  show (if id=N' then _ else H.upd (opU (N'+1) r) id)=_
  rw [if_neg (by omega)]
  exact opU_low h (by omega)
theorem open_list {id esz n i:Nat} {v:Bool}:∀ (L:List Prt) {N:Nat} {e:Nat→Nat→AV} {H:Hp} {K:Nat→Prop} {μ:Nat→Nat} {ft:Nat→Nat→Prop},HR w F O μ K H ft→(∀ k,k∈List.range' N L.length→¬ K k)→H id=some (.hrow v esz n e)→i < n→
  (∀ p,p∈L→p.j < esz∧e i p.j=.os p.esz p.n p.e)→(L.map (·.j)).Nodup→
  ∃ μ' ft',HR w F O μ' (plus K (List.range' N L.length)) (H.upd ((id,some (.hrow v esz n (opE i N L e)))::opU N L)) ft'∧Fr w F O μ K w F O μ'
 | [],N,e,H,K,μ,ft,hr,hN,hb,hi,hp,hd=>by
  refine ⟨μ,ft,?_,Fr.refl _ _ _ _ _⟩
  have e1:plus K (List.range' N ([]:List Prt).length)=K:=plus_nil K
  rw [e1]
  refine hr.imp fun k b' hb'=>?_
  simp only [opU,opE,Hp.upd] at hb'
  by_cases q:k=id
  ·rw [if_pos q] at hb'
   cases hb'
   exact ⟨_,q▸hb,BImp.refl _⟩
  ·rw [if_neg q] at hb'
   exact ⟨_,hb',BImp.refl _⟩
 | p::r,N,e,H,K,μ,ft,hr,hN,hb,hi,hp,hd=>by
  have hKid:=hr.known id _ hb
  have hNN:¬ K N:=hN N (by simp only [List.mem_range'_1,List.length_cons];omega)
  have hne:id≠N:=fun h=>hNN (h▸hKid)
  obtain ⟨p1,p2⟩:=hp p (by simp)
  have hd':p.j ∉ r.map (·.j)∧(r.map (·.j)).Nodup:=by simpa only [List.map_cons,List.nodup_cons] using hd
  obtain ⟨μ1,ft1,h1,h2⟩:=open_step (N:=N) (e1:=fun i' j'=>if i'=i∧j'=p.j then rowAV true N p.n p.esz else e i' j') hr hNN hb hi p1 p2 (by simp) (fun i' j' _ _ h=>if_neg h)
  obtain ⟨μ2,ft2,k1,k2⟩:=open_list r (N:=N+1) h1 (fun k hk h=>by
   simp only [List.mem_range'_1] at hk
   rcases h with h | h
   ·exact hN k (by simp only [List.mem_range'_1,List.length_cons];omega) h
   ·simp at h;omega) (by rw [show (H.upd [(id,some (.hrow v esz n fun i' j'=>if i'=i∧j'=p.j then rowAV true N p.n p.esz else e i' j')),(N,some (.row true p.esz p.n p.e))]) id=_ from if_pos rfl]) hi (fun q hq=>by
    have hqj:q.j≠p.j:=fun h=>hd'.1 (h▸List.mem_map.2 ⟨q,hq,rfl⟩)
    have:=hp q (by simp [hq])
    exact ⟨this.1,by rw [if_neg (fun h=>hqj h.2)];exact this.2⟩) hd'.2
  have eK:plus (plus K [N]) (List.range' (N+1) r.length)=plus K (List.range' N (p::r).length):=by
   funext k
   simp only [plus,List.mem_singleton,List.mem_range'_1,List.length_cons,eq_iff_iff]
   constructor
   ·rintro ((h | h) | h)
    ·exact .inl h
    ·exact .inr (by omega)
    ·exact .inr (by omega)
   ·rintro (h | h)
    ·exact .inl (.inl h)
    ·by_cases q:k=N
     ·exact .inl (.inr q)
     ·exact .inr (by omega)
  rw [eK] at k1
  refine ⟨μ2,ft2,k1.imp fun k b' hb'=>⟨b',?_,BImp.refl _⟩,h2.trans (k2.pin fun k hk=>.inl hk)⟩
  simp only [opE,opU,Hp.upd] at hb' ⊢
  by_cases q:k=id
  ·rw [if_pos q] at hb' ⊢;exact hb'
  ·rw [if_neg q] at hb' ⊢
   by_cases q2:k=N
   ·rw [if_pos q2] at hb'
    subst q2
    rw [opU_low (Nat.lt_succ_self k) (Nat.le_refl _)]
    simp only [Hp.upd,if_neg q,if_true];exact hb'
   ·rw [if_neg q2] at hb'
    have key:∀ (r:List Prt) (N1:Nat),H.upd (opU N1 r) k=some b'→(H.upd [(id,some (.hrow v esz n fun i' j'=>if i'=i∧j'=p.j then rowAV true N p.n p.esz else e i' j')),(N,some (.row true p.esz p.n p.e))]).upd (opU N1 r) k=some b':=by
     intro r
     induction r with
     | nil=>intro N1 h;simp only [opU,Hp.upd] at h ⊢;rw [if_neg q,if_neg q2];exact h
     | cons x r ih=>
      intro N1 h
      simp only [opU,Hp.upd] at h ⊢
      by_cases q3:k=N1
      ·rw [if_pos q3] at h ⊢;exact h
      ·rw [if_neg q3] at h ⊢;exact ih _ h
    exact key r (N+1) hb'
structure Hol extends Prt where
 M:Nat
def clE (i:Nat):List Hol→(Nat→Nat→AV)→Nat→Nat→AV
 | [],e=>e
 | p::r,e=>clE i r fun i' j'=>if i'=i∧j'=p.j then .os p.esz p.n p.e else e i' j'
theorem close_list {id esz n i:Nat} {v:Bool}:∀ (L:List Hol) {e:Nat→Nat→AV} {H:Hp} {ft:Nat→Nat→Prop},HR w F O μ K H ft→H id=some (.hrow v esz n e)→i < n→
  (∀ p,p∈L→p.j < esz∧e i p.j=rowAV true p.M p.n p.esz∧H p.M=some (.row true p.esz p.n p.e))→(L.map (·.j)).Nodup→(L.map (·.M)).Nodup→
  ∃ ft',HR w F O μ K (H.upd ((id,some (.hrow v esz n (clE i L e)))::strike (L.map (·.M)))) ft'
 | [],e,H,ft,hr,hb,hi,hp,hd,hm=>by
  refine ⟨ft,hr.imp fun k b' hb'=>⟨b',?_,BImp.refl _⟩⟩
  simp only [List.map_nil,strike,clE,Hp.upd] at hb'
  by_cases q:k=id
  ·rw [if_pos q] at hb';rw [q,hb];exact hb'
  ·rw [if_neg q] at hb';exact hb'
 | p::r,e,H,ft,hr,hb,hi,hp,hd,hm=>by
  obtain ⟨p1,p2,p3⟩:=hp p (by simp)
  have hne:∀ {M:Nat} {z n':Nat} {f},H M=some (.row true z n' f)→M≠id:=fun h q=>by rw [q,hb] at h;cases h
  have hd':p.j ∉ r.map (·.j)∧(r.map (·.j)).Nodup:=by simpa only [List.map_cons,List.nodup_cons] using hd
  have hm':p.M ∉ r.map (·.M)∧(r.map (·.M)).Nodup:=by simpa only [List.map_cons,List.nodup_cons] using hm
  obtain ⟨ft1,h1⟩:=close_step (e1:=fun i' j'=>if i'=i∧j'=p.j then .os p.esz p.n p.e else e i' j') hr hb p3 hi p1 p2 (by simp) fun i' j' _ _ h=>if_neg h
  obtain ⟨ft2,h2⟩:=close_list r h1 (by rw [show (H.upd [(id,some (.hrow v esz n fun i' j'=>if i'=i∧j'=p.j then .os p.esz p.n p.e else e i' j')),(p.M,none)]) id=_ from if_pos rfl]) hi (fun q hq=>by
   have hqj:q.j≠p.j:=fun h=>hd'.1 (h▸List.mem_map.2 ⟨q,hq,rfl⟩)
   have hqM:q.M≠p.M:=fun h=>hm'.1 (h▸List.mem_map.2 ⟨q,hq,rfl⟩)
   obtain ⟨k1,k2,k3⟩:=hp q (by simp [hq])
   refine ⟨k1,by rw [if_neg (fun h=>hqj h.2)];exact k2,?_⟩
   show (if q.M=id then _ else if q.M=p.M then none else H q.M)=_
   rw [if_neg (hne k3),if_neg hqM];exact k3) hd'.2 hm'.2
  refine ⟨ft2,h2.imp fun k b' hb'=>⟨b',?_,BImp.refl _⟩⟩
  simp only [List.map_cons,clE,Hp.upd] at hb' ⊢
  by_cases q:k=id
  ·rw [if_pos q] at hb' ⊢;exact hb'
  ·rw [if_neg q] at hb' ⊢
   rw [strike_upd] at hb' ⊢
   simp only [List.mem_cons] at hb'
   split at hb'
   ·cases hb'
   ·rename_i q2
    rw [if_neg (fun h=>q2 (.inr h))]
    show (if k=id then _ else if k=p.M then none else H k)=_
    rw [if_neg q,if_neg (fun h=>q2 (.inl h))]
    exact hb'
theorem rdb_hrp {s:SSt} {x:Operand} {n id esz i j m:Nat} {v:Bool} {e:Nat→Nat→AV} (hx:Opd s x (.rp id esz i j)) (hb:s.H id=some (.hrow v esz m e)) (hi:i < m) (hle:j+n≤esz)
  (hc:∀ k,k < n→(e i (j+k)).isOs=false):Rdb s x n fun k=>e i (j+k):=fun {w F O μ K ft act} hs=>by
 have h:=hx hs
 obtain ⟨ob,hob,cs,t,S',rfl,hB⟩:=hs.hr.blk id _ hb (hrow_lies (by omega))
 generalize act.eval x=u at h
 cases h with
 | rp _ _ _ _ hid=>
  refine ⟨_,_,fun k=>cs.getD (i*esz+j+k) undef,rfl,fun k hk=>?_⟩
  have h2:(i+1)*esz≤m*esz:=Nat.mul_le_mul_right _ hi
  rw [Nat.add_mul,Nat.one_mul] at h2
  have hsz:=hB.size
  have hlt:i*esz+j+k < cs.size:=by omega
  refine ⟨by simp [World.cell?,hob,hlt],?_⟩
  have h5:=(hB.cell i (j+k) hi (by omega)).1
  rw [← Nat.add_assoc] at h5
  rcases h5 with h5 | h5
  ·exact (h5.closed (hc k hk)).1.up
  ·exact h5.1
theorem OpOk.ghost {o:Oper} {s s1:SSt} {v:AV} {up1:List (Nat×Option Blk)} {new1:List Nat} (hH:s1.H=s.H.upd up1)
  (hg:∀ {w F O μ K ft a},SR w F O μ K s ft a→(∀ id,id∈new1→¬ K id)→∃ μ' ft',SR w F O μ' (plus K new1) s1 ft' a∧Fr w F O μ K w F O μ') (h:OpOk P o s1 ⟨v,[],[]⟩):OpOk P o s ⟨v,up1,new1⟩:=by
 intro w F O μ K ft a hs hn Kn Q hk
 obtain ⟨μ1,ft1,h1,h2⟩:=hg hs hn
 refine h w F O μ1 _ ft1 a h1 (fun _ h=>by cases h) Kn Q fun u w' F' O' μ' ft' k1 k2 k3=>?_
 simp only [plus_nil,Hp.upd_nil,hH] at k1 k2
 exact hk u w' F' O' μ' ft' k1 k2 (h2.trans (k3.pin fun id h=>.inl h))
inductive Give (s:SSt):AV→AV→List Nat→Prop
 | clo (a e:AV) (hc:Clo a) (h1:One a) (hi:Imp a e):Give s a e []
 | nils (esz:Nat) (e:Nat→Nat→AV):Give s .nils (.os esz 0 e) []
 | own (id n esz:Nat) (e:Nat→Nat→AV) (hb:s.H id=some (.row true esz n e)):Give s (rowAV true id n esz) (.os esz n e) [id]
theorem Give.ok {s:SSt} {a e:AV} {g:List Nat} {act:Act} {v:Value} (h:Give s a e g) (hs:SR w F O μ K s ft act) (hv:VR w F μ K a v):
  ∃ S:Nat→Prop,OwnR w F μ S e v∧v.oneCell'=true∧∀ x,S x→∃ id,id∈g∧s.H.live id∧ft id x:=by
 cases h with
 | clo a e hc h1 hi=>exact ⟨fun _=>False,.clo _ _ _ (hi (hc hv)) (fun _ h=>h),h1 hv,fun x h=>h.elim⟩
 | nils esz e=>
  rw [hv.nils_inv]
  exact ⟨fun _=>False,.osnil _ _ _ _ fun _ h=>h,rfl,fun x h=>h.elim⟩
 | own id n esz e hb=>
  rcases rowAV_cap hv with ⟨⟨a,rfl⟩,rfl,_⟩ | ⟨cap,sz,t',rfl,q2,q3,q4,q5,q6⟩
  ·exact ⟨fun _=>False,.osnil _ _ _ _ fun _ h=>h,rfl,fun x h=>h.elim⟩
  ·have hn0:=q6 rfl
   have hl:(Blk.row true esz n e).lies=true:=by simpa [Blk.lies] using hn0
   obtain ⟨ob,hob,cs,t2,S',rfl,hB⟩:=hs.hr.blk id _ hb hl
   have hcs:cap*esz≤cs.size:=by
    simp only [World.shape?,hob,Option.some.injEq,Prod.mk.injEq] at q4
    rw [q4.2];exact q5
   exact ⟨ft id,.os (ft id) esz n e (μ id) cap cs t2 S' hn0 hob q2 hcs (fun i j hi hj=>(hB.cell i j hi hj).2) (fun i j hi hj=>(hB.cell i j hi hj).1) hB.dj hB.nb hB.all,rfl,fun x hx=>⟨id,by simp,⟨_,hb,hl⟩,hx⟩⟩
structure Gives (s:SSt) (l:List AV) (e:Nat→AV) (g:Nat→List Nat):Prop where
 give:∀ k,k < l.length→Give s (l.getD k .top) (e k) (g k)
 dj:∀ k k' id,k < l.length→k' < l.length→id∈g k→id∈g k'→k=k'
theorem Gives.ok {s:SSt} {l:List AV} {e:Nat→AV} {g:Nat→List Nat} {act:Act} {vs:List Value} (h:Gives s l e g) (hs:SR w F O μ K s ft act) (hv:VRs w F μ K l vs):
  ∃ U:Nat→Nat→Prop,(∀ k,k < vs.length→OwnR w F μ (U k) (e k) (vs.getD k undef)∧(vs.getD k undef).oneCell'=true)∧(∀ k x,k < vs.length→U k x→∃ id,id∈g k∧s.H.live id∧ft id x)∧
   ∀ k k' x,k < vs.length→k' < vs.length→U k x→U k' x→k=k':=by
 have key:∀ k,∃ S:Nat→Prop,k < vs.length→OwnR w F μ S (e k) (vs.getD k undef)∧(vs.getD k undef).oneCell'=true∧∀ x,S x→∃ id,id∈g k∧s.H.live id∧ft id x:=fun k=>by
  by_cases hk:k < vs.length
  ·obtain ⟨S,q⟩:=(h.give k (hv.1▸hk)).ok hs (hv.2 k (hv.1▸hk))
   exact ⟨S,fun _=>q⟩
  ·exact ⟨fun _=>False,fun h=>absurd h hk⟩
 refine ⟨fun k=>Classical.choose (key k),fun k hk=>⟨(Classical.choose_spec (key k) hk).1,(Classical.choose_spec (key k) hk).2.1⟩,fun k x hk hx=>(Classical.choose_spec (key k) hk).2.2 x hx,fun k k' x hk hk' hx hx'=>?_⟩
 obtain ⟨id,a1,a2,a3⟩:=(Classical.choose_spec (key k) hk).2.2 x hx
 obtain ⟨id',b1,b2,b3⟩:=(Classical.choose_spec (key k') hk').2.2 x hx'
 have:=hs.hr.dj id id' a2 b2 x a3 b3
 subst this
 exact h.dj k k' id (hv.1▸hk) (hv.1▸hk') a1 b1
theorem row_writeO {b esz m i j:Nat} {e e':Nat→Nat→AV} {cs:Array Value} {vs:List Value} {S:Nat→Nat→Nat→Prop} {T:Nat→Prop} {U:Nat→Nat→Prop} (hB:RowB b cs esz m S T fun T i j v=>OwnR w F μ T (e i j) v)
  (hv:∀ k,k < vs.length→OwnR w F μ (U k) (e' i (j+k)) (vs.getD k undef)∧(vs.getD k undef).oneCell'=true) (hd:∀ k k' x,k < vs.length→k' < vs.length→U k x→U k' x→k=k') (hT:∀ k x,k < vs.length→U k x→¬ T x)
  (hi:i < m) (hj:j+vs.length≤esz) (hout:∀ i' j',i' < m→j' < esz→¬ (i'=i∧j≤j'∧j' < j+vs.length)→e' i' j'=e i' j'):
  i*esz+j+vs.length≤cs.size∧∃ S' T',(∀ x,T' x→T x∨∃ k,k < vs.length∧U k x)∧T' b∧RowB b (setV cs (i*esz+j) vs) esz m S' T' fun T i j v=>OwnR w F μ T (e' i j) v:=by
 have h2:(i+1)*esz≤m*esz:=Nat.mul_le_mul_right _ hi
 rw [Nat.add_mul,Nat.one_mul] at h2
 have hsz:=hB.size
 have h3:i*esz+j+vs.length≤cs.size:=by omega
 let hit:Nat→Nat→Prop:=fun i' j'=>i'=i∧j≤j'∧j' < j+vs.length
 let S':Nat→Nat→Nat→Prop:=fun i' j' x=>(¬ hit i' j'∧S i' j' x)∨(hit i' j'∧U (j'-j) x)
 have inT:∀ i' j',i' < m→j' < esz→∀ x,S i' j' x→T x:=fun i' j' a1 a2 x hx=>(hB.all x).2 (.inr ⟨i',j',a1,a2,hx⟩)
 refine ⟨h3,S',fun x=>x=b∨∃ i' j',i' < m∧j' < esz∧S' i' j' x,?_,.inl rfl,?_⟩
 ·rintro x (h | ⟨i',j',k1,k2,⟨_,k3⟩ | ⟨k0,k3⟩⟩)
  ·exact .inl ((hB.all x).2 (.inl h))
  ·exact .inl (inT i' j' k1 k2 x k3)
  ·exact .inr ⟨j'-j,by have:=k0.2;omega,k3⟩
 ·refine { size:=by rw [setV_size];exact hsz,cell:=fun i' j' hi' hj'=>?_,dj:=?_,nb:=?_,all:=fun _=>Iff.rfl }
  ·rw [setV_getD _ _ _ h3]
   by_cases hh:hit i' j'
   ·obtain ⟨rfl,hh1,hh2⟩:=hh
    have eS:S' i' j'=U (j'-j):=by
     funext x
     simp only [S',eq_iff_iff]
     exact ⟨fun h=>h.elim (fun h=>absurd ⟨rfl,hh1,hh2⟩ h.1) fun h=>h.2,fun h=>.inr ⟨⟨rfl,hh1,hh2⟩,h⟩⟩
    rw [eS,if_pos (by omega),show i'*esz+j'-(i'*esz+j)=j'-j by omega]
    have:=hv (j'-j) (by omega)
    rwa [show j+(j'-j)=j' by omega] at this
   ·have eS:S' i' j'=S i' j':=by
     funext x
     simp only [S',eq_iff_iff]
     exact ⟨fun h=>h.elim (fun h=>h.2) fun h=>absurd h.1 hh,fun h=>.inl ⟨hh,h⟩⟩
    rw [eS,hout i' j' hi' hj' hh,if_neg ?_]
    ·exact hB.cell i' j' hi' hj'
    ·rintro ⟨q1,q2⟩
     by_cases e1:i'=i
     ·subst e1;exact hh ⟨rfl,by omega,by omega⟩
     ·rcases Nat.lt_or_gt_of_ne e1 with h | h
      ·have h4:(i'+1)*esz≤i*esz:=Nat.mul_le_mul_right _ h
       rw [Nat.add_mul,Nat.one_mul] at h4
       omega
      ·have h4:(i+1)*esz≤i'*esz:=Nat.mul_le_mul_right _ h
       rw [Nat.add_mul,Nat.one_mul] at h4
       omega
  ·rintro i1 j1 i2 j2 a1 a2 a3 a4 x (⟨h,hx⟩ | ⟨h,hx⟩) (⟨h',hx'⟩ | ⟨h',hx'⟩)
   ·exact hB.dj i1 j1 i2 j2 a1 a2 a3 a4 x hx hx'
   ·exact absurd (inT i1 j1 a1 a2 x hx) (hT _ x (by have:=h'.2;omega) hx')
   ·exact absurd (inT i2 j2 a3 a4 x hx') (hT _ x (by have:=h.2;omega) hx)
   ·have:=hd _ _ x (by have:=h.2;omega) (by have:=h'.2;omega) hx hx'
    obtain ⟨rfl,h1,h2⟩:=h
    obtain ⟨rfl,h3,h4⟩:=h'
    exact ⟨rfl,by omega⟩
  ·rintro i' j' a1 a2 (⟨_,hx⟩ | ⟨h,hx⟩)
   ·exact hB.nb i' j' a1 a2 hx
   ·exact hT _ b (by have:=h.2;omega) hx ((hB.all b).2 (.inl rfl))
theorem op_store_rowO {o:Oper} {s:SSt} {x y:Operand} {t:TypeId} {ti:TypeInfo} {a:AV} {l:List AV} {id esz i j m:Nat} {v:Bool} {e e':Nat→Nat→AV} {g:Nat→List Nat} {L:List Nat} (ho:o.op=.store t x y) (hi:P.info? t=some ti) (hx:Opd s x (.rp id esz i j)) (hy:Opd s y a) (hl:CellsV a l)
  (hsz:l.length=ti.size) (hb:s.H id=some (.row v esz m e)) (him:i < m) (hle:j+l.length≤esz) (hg:Gives s l (fun k=>e' i (j+k)) g) (hL:∀ k,k < l.length→∀ id',id'∈g k→id'∈L) (hid:id ∉ L)
  (hout:∀ i' j',i' < m→j' < esz→¬ (i'=i∧j≤j'∧j' < j+l.length)→e' i' j'=e i' j'):
  OpOk P o s ⟨.lit undef,(id,some (.row v esz m e'))::strike L,[]⟩:=by
 intro w F O μ K ft act hs _ Kn Q hk
 have hly:=hl (hy hs)
 have hlies:(Blk.row v esz m e).lies=true:=by cases v<;>simp [Blk.lies];omega
 have hlv:s.H.live id:=⟨_,hb,hlies⟩
 obtain ⟨ob,hob,cs,et,S,rfl,hB⟩:=hs.hr.blk id _ hb hlies
 obtain ⟨U,u1,u2,u3⟩:=hg.ok hs hly
 have hlen:(act.eval y).cells.toList.length=l.length:=hly.1.symm
 have hv:=hx hs
 generalize hev:act.eval x=u at hv
 cases hv with
 | rp _ _ _ _ hid'=>
  obtain ⟨k1,S',T',k2,k3,k4⟩:=row_writeO (e':=e') hB u1 u3 (fun k x hk hx hT=>by
   obtain ⟨id2,a1,a2,a3⟩:=u2 k x hk hx
   have:=hs.hr.dj id2 id a2 hlv x a3 hT
   exact hid (this▸hL k (hlen▸hk) id2 a1)) him (by rw [hlen];exact hle) (by rw [hlen];exact hout)
  have hone:∀ z,z∈(act.eval y).cells.toList→z.oneCell'=true:=fun z hz=>by
   obtain ⟨k,hk,rfl⟩:=List.getElem_of_mem hz
   have:=(u1 k hk).2
   rwa [List.getD,List.getElem?_eq_getElem hk] at this
  have hrun:(execOp act.eval o).run P w=.ok .skip (wput w (μ id) (.cells (setV cs (i*esz+j) (act.eval y).cells.toList) et (0,0))):=by
   have:=run_storeAt (P:=P) hi hob (v:=act.eval y) (by rw [← Array.length_toList,hlen];exact hsz) hone (o:=i*esz+j) (by simpa using k1)
   simp [execOp,ho,hev,this]
  obtain ⟨O',ft',q1,q2⟩:=write_step (L:=L) (b':=.row v esz m e') hs.hr hb hlies hob (cells_shape (setV_size _ _ _)) hid (fun x hx=>by
   rcases k2 x hx with h | ⟨k,hk,h⟩
   ·exact ⟨id,.inl rfl,hlv,h⟩
   ·obtain ⟨id2,a1,a2,a3⟩:=u2 k x hk h
    exact ⟨id2,.inr (hL k (hlen▸hk) id2 a1),a2,a3⟩) k3 ⟨_,et,S',rfl,k4⟩
  unfold Oper.wp
  rw [hrun,Oper.upon_skip]
  exact hk undef _ F O' μ ft' (.lit _) (by rw [plus_nil];exact q1) q2
theorem op_buildSliceO {o:Oper} {s:SSt} {t et:TypeId} {ti:TypeInfo} {n:Nat} {ps:List (Nat×Operand)} {q:List (Nat×List AV)} {zs r:List AV} {N:Nat} {e:Nat→Nat→AV} {g:Nat→List Nat} {L:List Nat} (ho:o.op=.buildSlice t n ⟨ps⟩) (ht:P.underlying t=some (.slice et))
  (hi:P.info? et=some ti) (hz:zeroA P et=some zs) (hl:zs.length=ti.size) (hs0:ti.size≠0) (hn:n*ti.size≤16777216) (hq:Parts s ps q)
  (hr:fillA (fun i=>some (i*ti.size,ti.size)) ((List.range n).flatMap fun _=>zs) q=some r) (hg:Gives s r (fun k=>e (k / ti.size) (k % ti.size)) g) (hL:∀ k,k < r.length→∀ id',id'∈g k→id'∈L):
  OpOk P o s ⟨.ms N 0 n ti.size,(N,some (.row false ti.size n e))::strike L,[N]⟩:=by
 intro w F O μ K ft a hs hnew Kn Q hk
 have hN:¬ K N:=hnew N (by simp)
 obtain ⟨us,hus,k2,hrun⟩:=run_buildSlice hs ho ht hi hz hl hs0 hn hq hr
 obtain ⟨U,u1,u2,u3⟩:=hg.ok hs k2
 have hlen:us.toList.length=r.length:=k2.1.symm
 have old:∀ k x,k < us.toList.length→U k x→x < w.heap.size:=fun k x hk hx=>by
  obtain ⟨id2,a1,a2,a3⟩:=u2 k x hk hx
  exact hs.hr.owf x (hs.hr.own id2 a2 x a3)
 have at_:∀ i j,i < n→j < ti.size→i*ti.size+j < us.toList.length:=fun i j hi hj=>by
  have h4:(i+1)*ti.size≤n*ti.size:=Nat.mul_le_mul_right _ hi
  rw [Nat.add_mul,Nat.one_mul] at h4
  simp only [Array.length_toList,hus];omega
 let T:Nat→Prop:=fun x=>x=w.heap.size∨∃ i j,i < n∧j < ti.size∧U (i*ti.size+j) x
 have hB:BlkR w F μ K T w.heap.size (.cells us et) (.row false ti.size n e):=by
  refine ⟨us,et,fun i j=>U (i*ti.size+j),rfl,{ size:=by rw [hus];exact Nat.le_refl _,cell:=fun i j hi hj=>?_,dj:=fun i j i' j' hi hj hi' hj' x hx hx'=>?_,nb:=fun i j hi hj hx=>?_,all:=fun _=>Iff.rfl }⟩
  ·have:=u1 _ (at_ i j hi hj)
   have e2:(i*ti.size+j) / ti.size=i:=by
    rw [Nat.add_comm,Nat.add_mul_div_right _ _ (by omega),Nat.div_eq_of_lt hj];omega
   rw [mod_pos hj,e2,getD_toList] at this
   exact this
  ·have h5:=u3 _ _ x (at_ i j hi hj) (at_ i' j' hi' hj') hx hx'
   have h6:=mod_pos (i:=i) hj
   have h7:=mod_pos (i:=i') hj'
   have ej:j=j':=by rw [← h6,← h7,h5]
   subst ej
   refine ⟨Nat.eq_of_mul_eq_mul_right (show 0 < ti.size by omega) (by omega),rfl⟩
  ·have:=old _ _ (at_ i j hi hj) hx
   omega
 obtain ⟨O',ft',q1,q2⟩:=alloc_step (L:=L) (S:=T) (o:=.cells us et) (b:=.row false ti.size n e) hs.hr hN (fun x hx=>by
  rcases hx with h | ⟨i,j,hi,hj,h⟩
  ·exact .inl h
  ·obtain ⟨id2,a1,a2,a3⟩:=u2 _ x (at_ i j hi hj) h
   exact .inr ⟨id2,hL _ (hlen▸at_ i j hi hj) id2 a1,a2,a3⟩) (.inl rfl) hB
 unfold Oper.wp
 rw [hrun,Oper.upon_value]
 exact hk _ _ F O' _ ft' (ms_new hus (heap_new w _) (mu1_new _ _ _)) q1 q2
end Go.Proofs.Ytljfmaaadnoggaa.Abs
