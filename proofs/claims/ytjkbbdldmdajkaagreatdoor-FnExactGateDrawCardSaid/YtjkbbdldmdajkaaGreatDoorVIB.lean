/- Rows whose parts are rows of the call's own: several parts opened and closed; stores, literals, whole slices. No condition. -/
import Derived.Test.YtjkbbdldmdajkaaGreatDoorVIA
set_option linter.unusedSimpArgs false
set_option linter.unusedVariables false
namespace Go.Proofs.YtjkbbdldmdajkaaGreatDoor.c5
open Go Go.RowKit
variable {w w' ss:World} {F F' zT O O' uo:Nat→Prop} {μ aZ jE:Nat→Nat} {K K' C9:Nat→Prop} {H H' H'':Hp} {ft bX:Nat→Nat→Prop} {P:Program}
structure Prt where
 j:Nat
 bB:Nat
 n:Nat
 e:Nat→Nat→AV
def T6 (i:Nat):Nat→List Prt→(Nat→Nat→AV)→Nat→Nat→AV
 | _,[],e=>e
 | N,p::r,e=>T6 i (N+1) r fun i' j'=>if i'=i∧j'=p.j then dh true N p.n p.bB else e i' j'
def Ol:Nat→List Prt→List (Nat×Option jz)
 | _,[]=>[]
 | N,p::r=>(N,some (.row true p.bB p.n p.e))::Ol (N+1) r
theorem Wd {N id:Nat} (h:id < N):∀ {L:List Prt} {N':Nat},N≤N'→H.c_ (Ol N' L) id=H id
 | [],_,_=>rfl
 | p::r,N',hN=>by
  show (if id=N' then _ else H.c_ (Ol (N'+1) r) id)=_;rw [if_neg (by omega)];exact Wd h (by omega)
theorem PN {id bB n i:Nat} {v:Bool}:∀ (L:List Prt) {N:Nat} {e:Nat→Nat→AV} {H:Hp} {K:Nat→Prop} {μ:Nat→Nat} {ft:Nat→Nat→Prop},HR w F O μ K H ft→(∀ k,k∈List.range' N L.length→¬ K k)→H id=some (.de v bB n e)→i < n→
  (∀ p,p∈L→p.j < bB∧e i p.j=.os p.bB p.n p.e)→(L.map (·.j)).Nodup→
  ∃ aZ bX,HR w F O aZ (plus K (List.range' N L.length)) (H.c_ ((id,some (.de v bB n (T6 i N L e)))::Ol N L)) bX∧Fr w F O μ K w F O aZ
 | [],N,e,H,K,μ,ft,hr,hN,hb,hi,hp,hd=>by
  refine ⟨μ,ft,?_,Fr.refl _ _ _ _ _⟩;have e1:plus K (List.range' N ([]:List Prt).length)=K:=jm K;rw [e1];refine hr.imp fun k b' ck=>?_;simp only [Ol,T6,Hp.c_] at ck;by_cases q:k=id
  ·rw [if_pos q] at ck;cases ck;exact ⟨_,q▸hb,eg.refl _⟩
  ·rw [if_neg q] at ck;exact ⟨_,ck,eg.refl _⟩
 | p::r,N,e,H,K,μ,ft,hr,hN,hb,hi,hp,hd=>by
  have XR:=hr.known id _ hb;have hNN:¬ K N:=hN N (by simp only [List.mem_range'_1,List.length_cons];omega);have oV:id≠N:=fun h=>hNN (h▸XR);obtain ⟨p1,p2⟩:=hp p (by simp);have Nf:p.j ∉ r.map (·.j)∧(r.map (·.j)).Nodup:=by simpa only [List.map_cons,List.nodup_cons] using hd
  obtain ⟨Hz,S3,h1,h2⟩:=XQ (N:=N) (e1:=fun i' j'=>if i'=i∧j'=p.j then dh true N p.n p.bB else e i' j') hr hNN hb hi p1 p2 (by simp) (fun i' j' _ _ h=>if_neg h);obtain ⟨zl,EJ,k1,k2⟩:=PN r (N:=N+1) h1 (fun k hk h=>by
   simp only [List.mem_range'_1] at hk;rcases h with h | h
   ·exact hN k (by simp only [List.mem_range'_1,List.length_cons];omega) h
   ·simp at h;omega) (by rw [show (H.c_ [(id,some (.de v bB n fun i' j'=>if i'=i∧j'=p.j then dh true N p.n p.bB else e i' j')),(N,some (.row true p.bB p.n p.e))]) id=_ from if_pos rfl]) hi (fun q hq=>by
    have hqj:q.j≠p.j:=fun h=>Nf.1 (h▸List.mem_map.2 ⟨q,hq,rfl⟩);have:=hp q (by simp [hq]);exact ⟨this.1,by rw [if_neg (fun h=>hqj h.2)];exact this.2⟩) Nf.2
  have eK:plus (plus K [N]) (List.range' (N+1) r.length)=plus K (List.range' N (p::r).length):=by
   funext k;simp only [plus,List.mem_singleton,List.mem_range'_1,List.length_cons,eq_iff_iff];constructor
   ·rintro ((h | h) | h)
    ·exact .inl h
    ·exact .inr (by omega)
    ·exact .inr (by omega)
   ·rintro (h | h)
    ·exact .inl (.inl h)
    ·by_cases q:k=N
     ·exact .inl (.inr q)
     ·exact .inr (by omega)
  rw [eK] at k1;refine ⟨zl,EJ,k1.imp fun k b' ck=>⟨b',?_,eg.refl _⟩,h2.trans (k2.LH fun k hk=>.inl hk)⟩;simp only [T6,Ol,Hp.c_] at ck ⊢;by_cases q:k=id
  ·rw [if_pos q] at ck ⊢;exact ck
  ·rw [if_neg q] at ck ⊢;by_cases q2:k=N
   ·rw [if_pos q2] at ck;subst q2;rw [Wd (Nat.lt_succ_self k) (Nat.le_refl _)];simp only [Hp.c_,if_neg q,if_true];exact ck
   ·rw [if_neg q2] at ck;have key:∀ (r:List Prt) (N1:Nat),H.c_ (Ol N1 r) k=some b'→(H.c_ [(id,some (.de v bB n fun i' j'=>if i'=i∧j'=p.j then dh true N p.n p.bB else e i' j')),(N,some (.row true p.bB p.n p.e))]).c_ (Ol N1 r) k=some b':=by
     intro r
     induction r with
     | nil=>intro N1 h;simp only [Ol,Hp.c_] at h ⊢;rw [if_neg q,if_neg q2];exact h
     | cons x r ih=>
      intro N1 h;simp only [Ol,Hp.c_] at h ⊢;by_cases q3:k=N1
      ·rw [if_pos q3] at h ⊢;exact h
      ·rw [if_neg q3] at h ⊢;exact ih _ h
    exact key r (N+1) ck
structure Hol extends Prt where
 M:Nat
def clE (i:Nat):List Hol→(Nat→Nat→AV)→Nat→Nat→AV
 | [],e=>e
 | p::r,e=>clE i r fun i' j'=>if i'=i∧j'=p.j then .os p.bB p.n p.e else e i' j'
theorem Ng {id bB n i:Nat} {v:Bool}:∀ (L:List Hol) {e:Nat→Nat→AV} {H:Hp} {ft:Nat→Nat→Prop},HR w F O μ K H ft→H id=some (.de v bB n e)→i < n→
  (∀ p,p∈L→p.j < bB∧e i p.j=dh true p.M p.n p.bB∧H p.M=some (.row true p.bB p.n p.e))→(L.map (·.j)).Nodup→(L.map (·.M)).Nodup→
  ∃ bX,HR w F O μ K (H.c_ ((id,some (.de v bB n (clE i L e)))::gA (L.map (·.M)))) bX
 | [],e,H,ft,hr,hb,hi,hp,hd,hm=>by
  refine ⟨ft,hr.imp fun k b' ck=>⟨b',?_,eg.refl _⟩⟩;simp only [List.map_nil,gA,clE,Hp.c_] at ck;by_cases q:k=id
  ·rw [if_pos q] at ck;rw [q,hb];exact ck
  ·rw [if_neg q] at ck;exact ck
 | p::r,e,H,ft,hr,hb,hi,hp,hd,hm=>by
  obtain ⟨p1,p2,p3⟩:=hp p (by simp);have oV:∀ {M:Nat} {z n':Nat} {f},H M=some (.row true z n' f)→M≠id:=fun h q=>by rw [q,hb] at h;cases h
  have Nf:p.j ∉ r.map (·.j)∧(r.map (·.j)).Nodup:=by simpa only [List.map_cons,List.nodup_cons] using hd
  have XS:p.M ∉ r.map (·.M)∧(r.map (·.M)).Nodup:=by simpa only [List.map_cons,List.nodup_cons] using hm
  obtain ⟨S3,h1⟩:=UW (e1:=fun i' j'=>if i'=i∧j'=p.j then .os p.bB p.n p.e else e i' j') hr hb p3 hi p1 p2 (by simp) fun i' j' _ _ h=>if_neg h;obtain ⟨EJ,h2⟩:=Ng r h1 (by rw [show (H.c_ [(id,some (.de v bB n fun i' j'=>if i'=i∧j'=p.j then .os p.bB p.n p.e else e i' j')),(p.M,none)]) id=_ from if_pos rfl]) hi (fun q hq=>by
   have hqj:q.j≠p.j:=fun h=>Nf.1 (h▸List.mem_map.2 ⟨q,hq,rfl⟩);have hqM:q.M≠p.M:=fun h=>XS.1 (h▸List.mem_map.2 ⟨q,hq,rfl⟩);obtain ⟨k1,k2,k3⟩:=hp q (by simp [hq]);refine ⟨k1,by rw [if_neg (fun h=>hqj h.2)];exact k2,?_⟩;show (if q.M=id then _ else if q.M=p.M then none else H q.M)=_;rw [if_neg (oV k3),if_neg hqM];exact k3) Nf.2 XS.2
  refine ⟨EJ,h2.imp fun k b' ck=>⟨b',?_,eg.refl _⟩⟩;simp only [List.map_cons,clE,Hp.c_] at ck ⊢;by_cases q:k=id
  ·rw [if_pos q] at ck ⊢;exact ck
  ·rw [if_neg q] at ck ⊢;rw [x9] at ck ⊢;simp only [List.mem_cons] at ck;split at ck
   ·cases ck
   ·rename_i q2;rw [if_neg (fun h=>q2 (.inr h))];show (if k=id then _ else if k=p.M then none else H k)=_;rw [if_neg q,if_neg (fun h=>q2 (.inl h))];exact ck
theorem abw {s:fG} {x:Operand} {n id bB i j m:Nat} {v:Bool} {e:Nat→Nat→AV} (hx:dT s x (.rp id bB i j)) (hb:s.H id=some (.de v bB m e)) (hi:i < m) (hle:j+n≤bB)
  (hc:∀ k,k < n→(e i (j+k)).JZ=false):Rdb s x n fun k=>e i (j+k):=fun {w F O μ K ft act} hs=>by
 have h:=hx hs;obtain ⟨ob,po,cs,t,S',rfl,hB⟩:=hs.hr.du id _ hb (EM (by omega));generalize act.eval x=u at h;cases h with
 | rp _ _ _ _ bZ=>
  refine ⟨_,_,fun k=>cs.getD (i*bB+j+k) undef,rfl,fun k hk=>?_⟩;have h2:(i+1)*bB≤m*bB:=Nat.mul_le_mul_right _ hi;rw [Nat.add_mul,Nat.one_mul] at h2;have fh:=hB.size;have dY:i*bB+j+k < cs.size:=by omega
  refine ⟨by simp [World.cell?,po,dY],?_⟩;have h5:=(hB.cell i (j+k) hi (by omega)).1;rw [← Nat.add_assoc] at h5;rcases h5 with h5 | h5
  ·exact (h5.closed (hc k hk)).1.up
  ·exact h5.1
theorem dg.ghost {o:Oper} {s s1:fG} {v:AV} {up1:List (Nat×Option jz)} {ad0:List Nat} (hH:s1.H=s.H.c_ up1)
  (hg:∀ {w F O μ K ft a},SR w F O μ K s ft a→(∀ id,id∈ad0→¬ K id)→∃ aZ bX,SR w F O aZ (plus K ad0) s1 bX a∧Fr w F O μ K w F O aZ) (h:dg P o s1 ⟨v,[],[]⟩):dg P o s ⟨v,up1,ad0⟩:=by
 intro w F O μ K ft a hs hn Kn Q hk;obtain ⟨Hz,S3,h1,h2⟩:=hg hs hn;refine h w F O Hz _ S3 a h1 (fun _ h=>by cases h) Kn Q fun u w' F' O' aZ bX k1 k2 k3=>?_;simp only [jm,Hp.QT,hH] at k1 k2;exact hk u w' F' O' aZ bX k1 k2 (h2.trans (k3.LH fun id h=>.inl h))
inductive UX (s:fG):AV→AV→List Nat→Prop
 | Ip (a e:AV) (hc:PI a) (h1:One a) (hi:g8 a e):UX s a e []
 | fb (bB:Nat) (e:Nat→Nat→AV):UX s .fb (.os bB 0 e) []
 | own (id n bB:Nat) (e:Nat→Nat→AV) (hb:s.H id=some (.row true bB n e)):UX s (dh true id n bB) (.os bB n e) [id]
theorem UX.ok {s:fG} {a e:AV} {g:List Nat} {act:Act} {v:Value} (h:UX s a e g) (hs:SR w F O μ K s ft act) (hv:VR w F μ K a v):
  ∃ S:Nat→Prop,jy w F μ S e v∧v.oneCell'=true∧∀ x,S x→∃ id,id∈g∧s.H.live id∧ft id x:=by
 cases h with
 | Ip a e hc h1 hi=>exact ⟨fun _=>False,.Ip _ _ _ (hi (hc hv)) (fun _ h=>h),h1 hv,fun x h=>h.elim⟩
 | fb bB e=>
  rw [hv.pr];exact ⟨fun _=>False,.AK _ _ _ _ fun _ h=>h,rfl,fun x h=>h.elim⟩
 | own id n bB e hb=>
  rcases qP hv with ⟨⟨a,rfl⟩,rfl,_⟩ | ⟨cap,sz,t',rfl,q2,q3,q4,q5,q6⟩
  ·exact ⟨fun _=>False,.AK _ _ _ _ fun _ h=>h,rfl,fun x h=>h.elim⟩
  ·have Jb:=q6 rfl;have hl:(jz.row true bB n e).eQ=true:=by simpa [jz.eQ] using Jb
   obtain ⟨ob,po,cs,t2,S',rfl,hB⟩:=hs.hr.du id _ hb hl;have C2:cap*bB≤cs.size:=by
    simp only [World.shape?,po,Option.some.injEq,Prod.mk.injEq] at q4;rw [q4.2];exact q5
   exact ⟨ft id,.os (ft id) bB n e (μ id) cap cs t2 S' Jb po q2 C2 (fun i j hi hj=>(hB.cell i j hi hj).2) (fun i j hi hj=>(hB.cell i j hi hj).1) hB.dj hB.nb hB.all,rfl,fun x hx=>⟨id,by simp,⟨_,hb,hl⟩,hx⟩⟩
structure S4 (s:fG) (l:List AV) (e:Nat→AV) (g:Nat→List Nat):Prop where
 abx:∀ k,k < l.length→UX s (l.getD k .top) (e k) (g k)
 dj:∀ k k' id,k < l.length→k' < l.length→id∈g k→id∈g k'→k=k'
theorem S4.ok {s:fG} {l:List AV} {e:Nat→AV} {g:Nat→List Nat} {act:Act} {vs:List Value} (h:S4 s l e g) (hs:SR w F O μ K s ft act) (hv:gZ w F μ K l vs):
  ∃ U:Nat→Nat→Prop,(∀ k,k < vs.length→jy w F μ (U k) (e k) (vs.getD k undef)∧(vs.getD k undef).oneCell'=true)∧(∀ k x,k < vs.length→U k x→∃ id,id∈g k∧s.H.live id∧ft id x)∧
   ∀ k k' x,k < vs.length→k' < vs.length→U k x→U k' x→k=k':=by
 have key:∀ k,∃ S:Nat→Prop,k < vs.length→jy w F μ S (e k) (vs.getD k undef)∧(vs.getD k undef).oneCell'=true∧∀ x,S x→∃ id,id∈g k∧s.H.live id∧ft id x:=fun k=>by
  by_cases hk:k < vs.length
  ·obtain ⟨S,q⟩:=(h.abx k (hv.1▸hk)).ok hs (hv.2 k (hv.1▸hk));exact ⟨S,fun _=>q⟩
  ·exact ⟨fun _=>False,fun h=>absurd h hk⟩
 refine ⟨fun k=>Classical.choose (key k),fun k hk=>⟨(Classical.choose_spec (key k) hk).1,(Classical.choose_spec (key k) hk).2.1⟩,fun k x hk hx=>(Classical.choose_spec (key k) hk).2.2 x hx,fun k k' x hk FG hx la=>?_⟩;obtain ⟨id,a1,a2,a3⟩:=(Classical.choose_spec (key k) hk).2.2 x hx;obtain ⟨b9,b1,b2,b3⟩:=(Classical.choose_spec (key k') FG).2.2 x la;have:=hs.hr.dj id b9 a2 b2 x a3 b3;subst this;exact h.dj k k' id (hv.1▸hk) (hv.1▸FG) a1 b1
theorem UY {b bB m i j:Nat} {e e':Nat→Nat→AV} {cs:Array Value} {vs:List Value} {S:Nat→Nat→Nat→Prop} {T:Nat→Prop} {U:Nat→Nat→Prop} (hB:MW b cs bB m S T fun T i j v=>jy w F μ T (e i j) v)
  (hv:∀ k,k < vs.length→jy w F μ (U k) (e' i (j+k)) (vs.getD k undef)∧(vs.getD k undef).oneCell'=true) (hd:∀ k k' x,k < vs.length→k' < vs.length→U k x→U k' x→k=k') (hT:∀ k x,k < vs.length→U k x→¬ T x)
  (hi:i < m) (hj:j+vs.length≤bB) (Ls:∀ i' j',i' < m→j' < bB→¬ (i'=i∧j≤j'∧j' < j+vs.length)→e' i' j'=e i' j'):
  i*bB+j+vs.length≤cs.size∧∃ S' T',(∀ x,T' x→T x∨∃ k,k < vs.length∧U k x)∧T' b∧MW b (sc cs (i*bB+j) vs) bB m S' T' fun T i j v=>jy w F μ T (e' i j) v:=by
 have h2:(i+1)*bB≤m*bB:=Nat.mul_le_mul_right _ hi;rw [Nat.add_mul,Nat.one_mul] at h2;have fh:=hB.size;have h3:i*bB+j+vs.length≤cs.size:=by omega
 let hit:Nat→Nat→Prop:=fun i' j'=>i'=i∧j≤j'∧j' < j+vs.length
 let S':Nat→Nat→Nat→Prop:=fun i' j' x=>(¬ hit i' j'∧S i' j' x)∨(hit i' j'∧U (j'-j) x)
 have inT:∀ i' j',i' < m→j' < bB→∀ x,S i' j' x→T x:=fun i' j' a1 a2 x hx=>(hB.all x).2 (.inr ⟨i',j',a1,a2,hx⟩);refine ⟨h3,S',fun x=>x=b∨∃ i' j',i' < m∧j' < bB∧S' i' j' x,?_,.inl rfl,?_⟩
 ·rintro x (h | ⟨i',j',k1,k2,⟨_,k3⟩ | ⟨k0,k3⟩⟩)
  ·exact .inl ((hB.all x).2 (.inl h))
  ·exact .inl (inT i' j' k1 k2 x k3)
  ·exact .inr ⟨j'-j,by have:=k0.2;omega,k3⟩
 ·refine { size:=by rw [iJ];exact fh,cell:=fun i' j' da mi=>?_,dj:=?_,nb:=?_,all:=fun _=>Iff.rfl }
  ·rw [tI _ _ _ h3];by_cases hh:hit i' j'
   ·obtain ⟨rfl,hh1,YJ⟩:=hh;have eS:S' i' j'=U (j'-j):=by
     funext x;simp only [S',eq_iff_iff];exact ⟨fun h=>h.elim (fun h=>absurd ⟨rfl,hh1,YJ⟩ h.1) fun h=>h.2,fun h=>.inr ⟨⟨rfl,hh1,YJ⟩,h⟩⟩
    rw [eS,if_pos (by omega),show i'*bB+j'-(i'*bB+j)=j'-j by omega];have:=hv (j'-j) (by omega);rwa [show j+(j'-j)=j' by omega] at this
   ·have eS:S' i' j'=S i' j':=by
     funext x;simp only [S',eq_iff_iff];exact ⟨fun h=>h.elim (fun h=>h.2) fun h=>absurd h.1 hh,fun h=>.inl ⟨hh,h⟩⟩
    rw [eS,Ls i' j' da mi hh,if_neg ?_]
    ·exact hB.cell i' j' da mi
    ·rintro ⟨q1,q2⟩
     by_cases e1:i'=i
     ·subst e1;exact hh ⟨rfl,by omega,by omega⟩
     ·rcases Nat.lt_or_gt_of_ne e1 with h | h
      ·have h4:(i'+1)*bB≤i*bB:=Nat.mul_le_mul_right _ h;rw [Nat.add_mul,Nat.one_mul] at h4;omega
      ·have h4:(i+1)*bB≤i'*bB:=Nat.mul_le_mul_right _ h;rw [Nat.add_mul,Nat.one_mul] at h4;omega
  ·rintro i1 j1 i2 j2 a1 a2 a3 a4 x (⟨h,hx⟩ | ⟨h,hx⟩) (⟨h',la⟩ | ⟨h',la⟩)
   ·exact hB.dj i1 j1 i2 j2 a1 a2 a3 a4 x hx la
   ·exact absurd (inT i1 j1 a1 a2 x hx) (hT _ x (by have:=h'.2;omega) la)
   ·exact absurd (inT i2 j2 a3 a4 x la) (hT _ x (by have:=h.2;omega) hx)
   ·have:=hd _ _ x (by have:=h.2;omega) (by have:=h'.2;omega) hx la;obtain ⟨rfl,h1,h2⟩:=h;obtain ⟨rfl,h3,h4⟩:=h';exact ⟨rfl,by omega⟩
  ·rintro i' j' a1 a2 (⟨_,hx⟩ | ⟨h,hx⟩)
   ·exact hB.nb i' j' a1 a2 hx
   ·exact hT _ b (by have:=h.2;omega) hx ((hB.all b).2 (.inl rfl))
theorem OP {o:Oper} {s:fG} {x y:Operand} {t:TypeId} {ti:TypeInfo} {a:AV} {l:List AV} {id bB i j m:Nat} {v:Bool} {e e':Nat→Nat→AV} {g:Nat→List Nat} {L:List Nat} (ho:o.op=.store t x y) (hi:P.info? t=some ti) (hx:dT s x (.rp id bB i j)) (hy:dT s y a) (hl:BN a l)
  (fh:l.length=ti.size) (hb:s.H id=some (.row v bB m e)) (him:i < m) (hle:j+l.length≤bB) (hg:S4 s l (fun k=>e' i (j+k)) g) (hL:∀ k,k < l.length→∀ b9,b9∈g k→b9∈L) (bZ:id ∉ L)
  (Ls:∀ i' j',i' < m→j' < bB→¬ (i'=i∧j≤j'∧j' < j+l.length)→e' i' j'=e i' j'):
  dg P o s ⟨.lit undef,(id,some (.row v bB m e'))::gA L,[]⟩:=by
 intro w F O μ K ft act hs _ Kn Q hk;have ZI:=hl (hy hs);have M5:(jz.row v bB m e).eQ=true:=by cases v<;>simp [jz.eQ];omega
 have gC:s.H.live id:=⟨_,hb,M5⟩;obtain ⟨ob,po,cs,et,S,rfl,hB⟩:=hs.hr.du id _ hb M5;obtain ⟨U,u1,u2,u3⟩:=hg.ok hs ZI;have hlen:(act.eval y).cells.toList.length=l.length:=ZI.1.symm;have hv:=hx hs;generalize Ea:act.eval x=u at hv;cases hv with
 | rp _ _ _ _ OQ=>
  obtain ⟨k1,S',T',k2,k3,k4⟩:=UY (e':=e') hB u1 u3 (fun k x hk hx hT=>by
   obtain ⟨BP,a1,a2,a3⟩:=u2 k x hk hx;have:=hs.hr.dj BP id a2 gC x a3 hT;exact bZ (this▸hL k (hlen▸hk) BP a1)) him (by rw [hlen];exact hle) (by rw [hlen];exact Ls)
  have M6:∀ z,z∈(act.eval y).cells.toList→z.oneCell'=true:=fun z hz=>by
   obtain ⟨k,hk,rfl⟩:=List.getElem_of_mem hz;have:=(u1 k hk).2;rwa [List.getD,List.getElem?_eq_getElem hk] at this
  have kT:(execOp act.eval o).run P w=.ok .skip (jA w (μ id) (.cells (sc cs (i*bB+j) (act.eval y).cells.toList) et (0,0))):=by
   have:=D_ (P:=P) hi po (v:=act.eval y) (by rw [← Array.length_toList,hlen];exact fh) M6 (o:=i*bB+j) (by simpa using k1);simp [execOp,ho,Ea,this]
  obtain ⟨O',bX,q1,q2⟩:=lV (L:=L) (b':=.row v bB m e') hs.hr hb M5 po (vd (iJ _ _ _)) bZ (fun x hx=>by
   rcases k2 x hx with h | ⟨k,hk,h⟩
   ·exact ⟨id,.inl rfl,gC,h⟩
   ·obtain ⟨BP,a1,a2,a3⟩:=u2 k x hk h;exact ⟨BP,.inr (hL k (hlen▸hk) BP a1),a2,a3⟩) k3 ⟨_,et,S',rfl,k4⟩
  unfold Oper.wp;rw [kT,Oper.upon_skip];exact hk undef _ F O' μ bX (.lit _) (by rw [jm];exact q1) q2
theorem Nh {o:Oper} {s:fG} {t et:TypeId} {ti:TypeInfo} {n:Nat} {ps:List (Nat×Operand)} {q:List (Nat×List AV)} {zs r:List AV} {N:Nat} {e:Nat→Nat→AV} {g:Nat→List Nat} {L:List Nat} (ho:o.op=.buildSlice t n ⟨ps⟩) (ht:P.underlying t=some (.slice et))
  (hi:P.info? et=some ti) (hz:zk P et=some zs) (hl:zs.length=ti.size) (GN:ti.size≠0) (hn:n*ti.size≤16777216) (hq:Eb s ps q)
  (hr:nJ (fun i=>some (i*ti.size,ti.size)) ((List.range n).flatMap fun _=>zs) q=some r) (hg:S4 s r (fun k=>e (k / ti.size) (k % ti.size)) g) (hL:∀ k,k < r.length→∀ b9,b9∈g k→b9∈L):
  dg P o s ⟨.ms N 0 n ti.size,(N,some (.row false ti.size n e))::gA L,[N]⟩:=by
 intro w F O μ K ft a hs BQ Kn Q hk;have hN:¬ K N:=BQ N (by simp);obtain ⟨us,Q4,k2,kT⟩:=sf hs ho ht hi hz hl GN hn hq hr;obtain ⟨U,u1,u2,u3⟩:=hg.ok hs k2;have hlen:us.toList.length=r.length:=k2.1.symm;have F_:∀ k x,k < us.toList.length→U k x→x < w.heap.size:=fun k x hk hx=>by
  obtain ⟨BP,a1,a2,a3⟩:=u2 k x hk hx;exact hs.hr.qS x (hs.hr.own BP a2 x a3)
 have at_:∀ i j,i < n→j < ti.size→i*ti.size+j < us.toList.length:=fun i j hi hj=>by
  have h4:(i+1)*ti.size≤n*ti.size:=Nat.mul_le_mul_right _ hi;rw [Nat.add_mul,Nat.one_mul] at h4;simp only [Array.length_toList,Q4];omega
 let T:Nat→Prop:=fun x=>x=w.heap.size∨∃ i j,i < n∧j < ti.size∧U (i*ti.size+j) x
 have hB:hP w F μ K T w.heap.size (.cells us et) (.row false ti.size n e):=by
  refine ⟨us,et,fun i j=>U (i*ti.size+j),rfl,{ size:=by rw [Q4];exact Nat.le_refl _,cell:=fun i j hi hj=>?_,dj:=fun i j i' j' hi hj da mi x hx la=>?_,nb:=fun i j hi hj hx=>?_,all:=fun _=>Iff.rfl }⟩
  ·have:=u1 _ (at_ i j hi hj);have e2:(i*ti.size+j) / ti.size=i:=by
    rw [Nat.add_comm,Nat.add_mul_div_right _ _ (by omega),Nat.div_eq_of_lt hj];omega
   rw [Iz hj,e2,jo] at this;exact this
  ·have h5:=u3 _ _ x (at_ i j hi hj) (at_ i' j' da mi) hx la;have h6:=Iz (i:=i) hj;have h7:=Iz (i:=i') mi;have ej:j=j':=by rw [← h6,← h7,h5]
   subst ej;refine ⟨Nat.eq_of_mul_eq_mul_right (show 0 < ti.size by omega) (by omega),rfl⟩
  ·have:=F_ _ _ (at_ i j hi hj) hx;omega
 obtain ⟨O',bX,q1,q2⟩:=G8 (L:=L) (S:=T) (o:=.cells us et) (b:=.row false ti.size n e) hs.hr hN (fun x hx=>by
  rcases hx with h | ⟨i,j,hi,hj,h⟩
  ·exact .inl h
  ·obtain ⟨BP,a1,a2,a3⟩:=u2 _ x (at_ i j hi hj) h;exact .inr ⟨BP,hL _ (hlen▸at_ i j hi hj) BP a1,a2,a3⟩) (.inl rfl) hB
 unfold Oper.wp;rw [kT,Oper.upon_value];exact hk _ _ F O' _ bX (US Q4 (D4 w _) (gq _ _ _)) q1 q2
end Go.Proofs.YtjkbbdldmdajkaaGreatDoor.c5
