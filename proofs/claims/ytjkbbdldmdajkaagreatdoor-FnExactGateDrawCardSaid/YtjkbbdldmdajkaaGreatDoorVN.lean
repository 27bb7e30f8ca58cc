/- Frames: a state as its pattern tells it, its blocks numbered anew. No condition. -/
import Derived.Test.YtjkbbdldmdajkaaGreatDoorVM
set_option linter.unusedSimpArgs false
set_option linter.unusedVariables false
namespace Go.Proofs.YtjkbbdldmdajkaaGreatDoor.c5
open Go Go.RowKit
variable {w w' ss:World} {F F' zT O O' uo:Nat→Prop} {μ aZ jE:Nat→Nat} {K K' C9:Nat→Prop} {ft bX:Nat→Nat→Prop} {P:Program} {R:Type}
mutual
def sA.lt (m:Nat):sA→Bool
 | .ow j=>j.blt m
 | .bs j _ _=>j.blt m
 | .bp j _=>j.blt m
 | .mp j=>j.blt m
 | .agg ps=>Wq m ps
 | .rb ps _=>Wq m ps
 | .ov ps=>Wq m ps
 | .oR _ p=>p.lt m
 | .fn _ xs ys=>Wq m xs&&Wq m ys
 | _=>true
def Wq (m:Nat):List sA→Bool
 | []=>true
 | p::r=>p.lt m&&Wq m r
end
def Bp.lt (m:Nat):Bp→Bool
 | .box ps=>Wq m ps
 | _=>true
mutual
theorem inst_wf {ρ:Nat→Nat} {m N:Nat} {H:List (Nat×aX)} (Ec:∀ j,j < m→ρ j < N):∀ {p:sA} {l l':List cG} {a:TA},instP ρ p l=some (a,l')→p.lt m=true→a.wf H N
 | .any,l,l',a,h,_=>by simp only [instP] at h;cases h;simp only [TA.wf]
 | .d t,l,l',a,h,_=>by
  simp only [instP] at h;split at h
  ·split at h
   ·cases h;exact Wp _ _ _
   ·cases h
  ·cases h
 | .agg ps,l,l',a,h,hl=>by
  simp only [instP] at h;simp only [sA.lt] at hl;split at h
  ·rename_i as l2 hi;cases h;simp only [TA.wf];exact instL_wf Ec hi hl
  ·cases h
 | .rb ps off,l,l',a,h,hl=>by
  simp only [instP] at h;simp only [sA.lt] at hl;split at h
  ·rename_i as l2 hi;cases h;simp only [TA.wf];exact instL_wf Ec hi hl
  ·cases h
 | .ov ps,l,l',a,h,hl=>by
  simp only [instP] at h;simp only [sA.lt] at hl;split at h
  ·rename_i as l2 hi;cases h;simp only [TA.wf];exact instL_wf Ec hi hl
  ·cases h
 | .ow j,l,l',a,h,hl=>by
  simp only [instP] at h;simp only [sA.lt] at hl;cases h;simp only [TA.wf];exact Ec j (Nat.le_of_ble_eq_true hl)
 | .bs j n bB,l,l',a,h,_=>by simp only [instP] at h;cases h;simp only [TA.wf]
 | .bp j off,l,l',a,h,_=>by simp only [instP] at h;cases h;simp only [TA.wf]
 | .mp j,l,l',a,h,_=>by simp only [instP] at h;cases h;simp only [TA.wf]
 | .fp t off,l,l',a,h,_=>by
  simp only [instP] at h;split at h
  ·split at h
   ·cases h;simp only [TA.wf]
   ·cases h
  ·cases h
 | .oR t p,l,l',a,h,hl=>by
  simp only [instP] at h;simp only [sA.lt] at hl;split at h
  ·rename_i b l2 hi;cases h;simp only [TA.wf];exact inst_wf Ec hi hl
  ·cases h
 | .fn f xs ys,l,l',a,h,hl=>by
  simp only [instP] at h;simp only [sA.lt,Bool.and_eq_true] at hl;split at h
  ·rename_i as l2 hi;split at h
   ·rename_i bs l3 hj;cases h;simp only [TA.wf];exact ⟨instL_wf Ec hi hl.1,instL_wf Ec hj hl.2⟩
   ·cases h
  ·cases h
 | .Qg,l,l',a,h,_=>by simp only [instP] at h;cases h;simp only [TA.wf]
 | .kb b,l,l',a,h,_=>by simp only [instP] at h;cases h;simp only [TA.wf]
theorem instL_wf {ρ:Nat→Nat} {m N:Nat} {H:List (Nat×aX)} (Ec:∀ j,j < m→ρ j < N):∀ {ps:List sA} {l l':List cG} {as:List TA},instL ρ ps l=some (as,l')→Wq m ps=true→hU H N as
 | [],l,l',as,h,_=>by simp only [instL] at h;cases h;simp only [hU]
 | p::ps,l,l',as,h,hl=>by
  simp only [instL] at h;simp only [Wq,Bool.and_eq_true] at hl;split at h
  ·rename_i a l2 hi;split at h
   ·rename_i bs l3 hj;cases h;simp only [hU];exact ⟨inst_wf Ec hi hl.1,instL_wf Ec hj hl.2⟩
   ·cases h
  ·cases h
end
theorem instBs_wf {ρ:Nat→Nat} {m N:Nat} {H:List (Nat×aX)} (Ec:∀ j,j < m→ρ j < N):∀ {bs:List Bp} {j0:Nat} {l l':List cG} {q:List (Nat×aX)},instBs ρ bs j0 l=some (q,l')→bs.all (Bp.lt m)=true→∀ p,p∈q→hU H N p.2.refs
 | [],j0,l,l',q,h,_,p,hp=>by simp only [instBs] at h;cases h;cases hp
 | b::r,j0,l,l',q,h,hl,p,hp=>by
  simp only [List.all_cons,Bool.and_eq_true] at hl;by_cases hg:b=.gone
  ·subst hg;simp only [instBs] at h;exact instBs_wf Ec h hl.2 p hp
  ·rw [instBs_cons hg] at h;split at h
   ·rename_i x l2 hb;split at h
    ·rename_i q2 l3 hr;cases h;rcases List.mem_cons.1 hp with e | e
     ·subst e;cases b with
      | gone=>exact absurd rfl hg
      | row t v=>
       simp only [instB] at hb;split at hb
       ·split at hb
        ·cases hb;simp only [aX.refs,hU]
        ·cases hb
       ·cases hb
      | dmap i=>
       simp only [instB] at hb;split at hb
       ·split at hb
        ·cases hb;simp only [aX.refs,hU]
        ·cases hb
       ·cases hb
      | c7 t=>
       simp only [instB] at hb;split at hb
       ·split at hb
        ·cases hb;exact cZ.2 fun a ha=>by
          obtain ⟨y,_,rfl⟩:=List.mem_map.1 ha;simp only [TA.wf]
        ·cases hb
       ·cases hb
      | box ps=>
       simp only [instB] at hb;split at hb
       ·rename_i as l5 hi;cases hb;simp only [Bp.lt] at hl;exact instL_wf Ec hi hl.1
       ·cases hb
     ·exact instBs_wf Ec hr hl.2 p e
    ·cases h
   ·cases h
theorem kU {H:List (Nat×aX)} {id:Nat} {b:aX} (h:aS H id=some b):(id,b)∈H:=by
 induction H with
 | nil=>cases h
 | cons p H ih=>
  obtain ⟨j,x⟩:=p;simp only [aS] at h;split at h
  ·rename_i e;cases h;rw [Nat.eq_of_beq_eq_true e];simp
  ·exact List.mem_cons_of_mem _ (ih h)
theorem J7 {s:bL} {act:Act} (hs:SR w F O μ K s.st ft act) {id:Nat} {t:Ty} {v:RV} {xs:List t.dn} (hb:aS s.H id=some (.row t v xs)) {u:Value} (hv:VR w F μ K (dh v.b id xs.length (ff t)) u) (hF:∀ b,F b→F' b)
  (hF2:s.st.H.live id→∀ b,ft id b→F' b) {K2:Nat→Prop}:VR w F' aZ K2 (.fs (ff t) xs.length (cz t xs)) u:=by
 rcases qP hv with ⟨⟨_,rfl⟩,h2,h3⟩ | ⟨cap,sz,t',rfl,h2,bZ,h4,h5,h6⟩
 ·rw [h2];exact .u_ _ _ _ _
 ·have ck:s.st.H id=some (.row v.b (ff t) xs.length (bV v t xs)):=dx hb;have hl:(jz.row v.b (ff t) xs.length (bV v t xs)).eQ=true:=by
   cases Z_:v.b with
   | false=>rfl
   | true=>simpa [jz.eQ] using h6 Z_
  have gC:s.st.H.live id:=⟨_,ck,hl⟩;obtain ⟨ob,po,cs,t2,S,rfl,hB⟩:=hs.hr.du id _ ck hl;have C2:cap*ff t≤cs.size:=by
   simp only [World.shape?,po,Option.some.injEq,Prod.mk.injEq] at h4;rw [h4.2];exact h5
  refine .fs _ _ _ (μ id) 0 cap (fun i j=>cs.getD (i*ff t+j) undef) (hF2 gC _ (hs.hr.self id gC)) h2 (fun i j hi hj=>⟨?_,(hB.cell i j hi hj).2⟩) fun i j hi hj=>?_
  ·have h7:(i+1)*ff t≤xs.length*ff t:=Nat.mul_le_mul_right _ hi;rw [Nat.add_mul,Nat.one_mul] at h7;have h8:xs.length*ff t≤cap*ff t:=Nat.mul_le_mul_right _ h2;have:i*ff t+j < cs.size:=by omega
   simp [World.cell?,po,this]
  ·have h9:=(hB.cell i j hi hj).1;cases hd:v.d with
   | false=>
    have e:bV v t xs i j=cz t xs i j:=by simp only [bV,hd]
    rw [e] at h9;exact (h9.closed (Ee _ _ _ _)).1.mono (fun _ _=>rfl) hF (fun _ h=>h.elim) (fun _ h=>h) fun _ h=>h.elim
   | true=>exact h9.freeze hF _ (BS t xs i j) (by simp only [bV,hd]) fun b Ue=>hF2 gC b ((hB.all b).2 (.inr ⟨i,j,hi,hj,Ue⟩))
structure jC where
 YK:List (Nat×sA)
 cE:List Bp
def jC.ey (f:jC):List Ty:=zN (f.YK.map (·.2))++NB f.cE
def LH (m:Nat):Xs:=⟨(List.range m).map fun j=>(j,j),[]⟩
def Xs.vq (e:Xs) (m N:Nat):Bool:=e.tK.all (fun p=>p.1.blt m&&p.2.blt N)&&e.fz.all fun id=>!(e.tK.any fun p=>Nat.beq p.2 id)
def ad5 (s:bL) (m0:Nat) (f:jC):Option (List cG):=
 match BY s.H (f.YK.map (·.2)) (f.YK.map fun p=>look s.tm p.1) (LH m0) with
 | some (e1,d1)=>match Ei s.H f.cE 0 e1 with
  | some (e2,d2)=>if e2.vq f.cE.length s.N&&(Wq f.cE.length (f.YK.map (·.2))&&f.cE.all (Bp.lt f.cE.length)) then some (d1++d2) else none
  | none=>none
 | none=>none
def instF (nt:Nat) (f:jC) (ds:List cG):Option bL:=
 match instL id (f.YK.map (·.2)) ds with
 | some (as,l)=>match instBs id f.cE 0 l with
  | some (H,[])=>some ⟨nt,f.cE.length,(f.YK.map (·.1)).zip as,H⟩
  | _=>none
 | none=>none
theorem Tl {H H':List (Nat×aX)}:∀ {ks:List Nat} {as:List TA} {vs:List Value} {f:Nat→Value},gZ w F μ K (di H as) vs→vs=ks.map f→∀ t,VR w F μ K ((look (ks.zip as) t).av H) (f t)
 | [],as,vs,f,h,hv,t=>by simp only [List.zip_nil_left,look,TA.av];exact .top _
 | k::ks,[],vs,f,h,hv,t=>by simp only [List.zip_nil_right,look,TA.av];exact .top _
 | k::ks,a::as,vs,f,h,hv,t=>by
  simp only [di] at h;obtain ⟨v,r,rfl,h1,h2⟩:=h.cons_inv;simp only [List.map_cons,List.cons.injEq] at hv;simp only [List.zip_cons_cons,look];cases e:Nat.beq t k with
  | true=>rw [Nat.eq_of_beq_eq_true e,← hv.1];exact h1
  | false=>exact Tl (H':=H') h2 hv.2 t
theorem KY {H:List (Nat×aX)} {N:Nat}:∀ {ks:List Nat} {as:List TA},hU H N as→∀ t,(look (ks.zip as) t).wf H N
 | [],as,h,t=>by simp only [List.zip_nil_left,look,TA.wf]
 | k::ks,[],h,t=>by simp only [List.zip_nil_right,look,TA.wf]
 | k::ks,a::as,h,t=>by
  simp only [hU] at h;simp only [List.zip_cons_cons,look];cases Nat.beq t k with
  | true=>exact h.1
  | false=>exact KY h.2 t
theorem Ws {m j:Nat} (h:j < m):dU (LH m).tK j=some j:=by
 have key:∀ (l:List Nat),j∈l→dU (l.map fun j=>(j,j)) j=some j:=by
  intro l
  induction l with
  | nil=>intro h;cases h
  | cons x l ih=>
   intro h;simp only [List.map_cons,dU];cases e:Nat.beq j x with
   | true=>simp only [Nat.eq_of_beq_eq_true e]
   | false=>exact ih ((List.mem_cons.1 h).resolve_left (Nat.ne_of_beq_eq_false e))
 exact key _ (by simpa using h)
theorem Wt (m:Nat):(LH m).inj:=by
 have key:∀ (l:List Nat) (j id:Nat),dU (l.map fun j=>(j,j)) j=some id→id=j:=by
  intro l
  induction l with
  | nil=>intro j id h;cases h
  | cons x l ih=>
   intro j id h;simp only [List.map_cons,dU] at h;split at h
   ·rename_i e;cases h;exact (Nat.eq_of_beq_eq_true e).symm
   ·exact ih j id h
 intro j j' id h h';rw [← key _ j id h,← key _ j' id h']
def muX (e:Xs) (μ:Nat→Nat):Nat→Nat:=fun j=>μ ((dU e.tK j).getD 0)
def frX (s:bL) (e:Xs) (F:Nat→Prop) (ft:Nat→Nat→Prop):Nat→Prop:=fun b=>F b∨∃ id,id∈e.fz∧s.st.H.live id∧ft id b
theorem Tm {s:bL} {act:Act} {e:Xs} (hs:SR w F O μ K s.st ft act) {id:Nat} (bZ:id∈e.fz) {l:List TA} (hl:aS s.H id=some (.box l)):
  ∃ cs t,w.heap[μ id]?=some (.cells cs t (0,0))∧frX s e F ft (μ id)∧l.length≤cs.size∧∀ j,j < l.length→VR w F μ K ((l.getD j .top).av s.H) (cs.getD j undef):=by
 have hb:s.st.H id=some (.box (di s.H l)):=dx hl;have gC:s.st.H.live id:=⟨_,hb,rfl⟩;obtain ⟨o,ho,cs,t,rfl,hS,h3,h4⟩:=hs.hr.du id _ hb rfl;rw [bC] at h3;refine ⟨cs,t,ho,.inr ⟨id,bZ,gC,hs.hr.self id gC⟩,h3,fun j hj=>?_⟩;have:=h4 j (by rw [bC];exact hj);rwa [dq _ _ _ hj] at this
theorem IP {s:bL} {act:Act} {e:Xs} {m:Nat} {H':List (Nat×aX)} (hs:SR w F O μ K s.st ft act) (hg:e.vq m s.N=true) (hH:∀ p,p∈H'→NF s.H H' e id p) (hi:e.inj):
  Reads w F μ K s.H e (frX s e F ft) (muX e μ) (fun j=>j < m) H' id where
 fF:=fun b h=>.inl h
 num:=fun j b9 hj _=>by
  simp only [Xs.vq,Bool.and_eq_true] at hg;have h0:=List.all_eq_true.1 hg.1 _ (mv hj);simp only [Bool.and_eq_true] at h0;exact ⟨Nat.le_of_ble_eq_true h0.1,by simp only [muX,id,hj,Option.getD_some]⟩
 row:=fun j b9 hj x hx=>by
  cases hb:aS H' j with
  | none=>simp only [id,hb,fv] at hx;cases hx
  | some B'=>
   obtain ⟨j2,BP,B,h1,h2,h3,_,_,h4,_⟩:=hH _ (kU hb);simp only [id] at h1;subst h1;rw [hj] at h2;cases h2;rw [h3];simp only [id,hb] at hx;exact h4 x hx
 fz:=fun b9 bZ t v xs hb u hv K2=>J7 hs hb hv (fun b h=>.inl h) fun hl b ck=>.inr ⟨b9,bZ,hl,ck⟩
 bx:=fun b9 bZ l hl=>Tm hs bZ hl
theorem Tn {s:bL} {act:Act} {e:Xs} {m:Nat} {H':List (Nat×aX)} (hs:SR w F O μ (below s.N) s.st ft act) (hg:e.vq m s.N=true) (hi:e.inj) (hH:∀ p,p∈H'→NF s.H H' e id p) (dY:∀ p,p∈H'→p.1 < m)
  (nG:∀ j,j < m→∃ b9,dU e.tK j=some b9∧b9 < s.N):
  HR w (frX s e F ft) (fun x=>∃ j b9,dU e.tK j=some b9∧s.st.H.live b9∧ft b9 x) (muX e μ) (below m) (sx H') (fun j=>ft ((dU e.tK j).getD 0))∧
   ∀ x,(∃ j b9,dU e.tK j=some b9∧s.st.H.live b9∧ft b9 x)→O x:=by
 have rd:=IP (H':=H') hs hg hH hi;have hr:=hs.hr;have lv:∀ j b,(sx H') j=some b→∃ (b9:Nat) (B B':aX),dU e.tK j=some b9∧s.st.H b9=some (B.du s.H)∧b=B'.du H'∧(b.eQ=true→(B.du s.H).eQ=true)∧
   ∀ {S n o},hP w F μ (below s.N) S n o (B.du s.H)→hP w (frX s e F ft) (muX e μ) (fun j=>j < m) S n o b:=by
  intro j b hb;obtain ⟨B',hl,hv,rfl⟩:=ij hb;obtain ⟨j2,BP,B,h1,h2,h3,h3v,_,_,h5,h6⟩:=hH _ (kU hl);simp only [id] at h1;subst h1;exact ⟨BP,B,B',h2,dx h3 h3v,rfl,h5,fun {S n o} hB=>h6 rd hB⟩
 have live:∀ j,Hp.live (sx H') j→∃ b9,dU e.tK j=some b9∧s.st.H.live b9:=by
  rintro j ⟨b,hb,hl⟩
  obtain ⟨b9,B,B',h1,h2,h3,h4,_⟩:=lv j b hb;exact ⟨b9,h1,B.du s.H,h2,h4 hl⟩
 have sub:∀ x,(∃ j b9,dU e.tK j=some b9∧s.st.H.live b9∧ft b9 x)→O x:=fun x ⟨j,b9,_,h2,h3⟩=>hr.own b9 h2 x h3;refine ⟨{ lt:=fun j hj=>?_,known:=fun j b hb=>?_,du:=fun j b hb hl=>?_,self:=fun j hl=>?_,own:=fun j hl x hx=>?_,dj:=fun j j' hl BM x hx la=>?_,yl:=?_,wf:=?_,qS:=fun b h=>hr.qS b (sub b h),pos:=hr.pos.mono (Nat.le_refl _) (fun _ h=>.inl h) fun _ _=>rfl },sub⟩
 ·obtain ⟨b9,h1,h2⟩:=nG j hj;simp only [muX,h1,Option.getD_some];exact hr.lt b9 h2
 ·obtain ⟨B',hl,_⟩:=ij hb;exact dY _ (kU hl)
 ·obtain ⟨b9,B,B',h1,h2,h3,h4,h5⟩:=lv j b hb;obtain ⟨o,ho,hB⟩:=hr.du b9 (B.du s.H) h2 (h4 hl);refine ⟨o,by simp only [muX,h1,Option.getD_some];exact ho,?_⟩;simp only [muX,h1,Option.getD_some];exact h5 hB
 ·obtain ⟨b9,h1,h2⟩:=live j hl;simp only [muX,h1,Option.getD_some];exact hr.self b9 h2
 ·obtain ⟨b9,h1,h2⟩:=live j hl;simp only [h1,Option.getD_some] at hx;exact ⟨j,b9,h1,h2,hx⟩
 ·obtain ⟨b9,h1,h2⟩:=live j hl;obtain ⟨BP,k1,k2⟩:=live j' BM;simp only [h1,k1,Option.getD_some] at hx la;have:=hr.dj b9 BP h2 k2 x hx la;subst this;exact hi j j' b9 h1 k1
 ·rintro b ⟨j,b9,h1,h2,h3⟩ (h | ⟨BP,k1,k2,k3⟩)
  ·exact hr.yl b (hr.own b9 h2 b h3) h
  ·have:=hr.dj b9 BP h2 k2 b h3 k3;subst this;simp only [Xs.vq,Bool.and_eq_true] at hg;have:=List.all_eq_true.1 hg.2 _ k1;simp only [Bool.not_eq_true',List.any_eq_false] at this;exact this _ (mv h1) (by simp)
 ·rintro b (h | ⟨BP,k1,k2,k3⟩)
  ·exact hr.wf b h
  ·exact hr.qS b (hr.own BP k2 b k3)
theorem aaa {s:bL} {m0:Nat} {f:jC} {ds:List cG} (h:ad5 s m0 f=some ds) (hm0:m0≤s.N):
  ∃ s',instF s.nt f ds=some s'∧s'.ok∧s'.nt=s.nt∧m0≤s'.N∧∀ {w F O μ ft a},SR w F O μ (below s.N) s.st ft a→∃ F' O' aZ bX,SR w F' O' aZ (below s'.N) s'.st bX a∧Fr w F O μ (below m0) w F' O' aZ:=by
 unfold ad5 at h;split at h
 ·rename_i e1 d1 h1;split at h
  ·rename_i e2 d2 h2;split at h
   ·rename_i hc;simp only [Bool.and_eq_true] at hc;cases h;obtain ⟨hg,hl1,Ok⟩:=hc;obtain ⟨bl,bi,ba,bq⟩:=vf (H':=[]) (ρ:=id) h2;obtain ⟨q,q1,_⟩:=bq [];rw [List.append_nil] at q1;obtain ⟨bl,bi,ba,bq⟩:=vf (H':=q) (ρ:=id) h2;obtain ⟨q',q1',q2⟩:=bq [];rw [List.append_nil,q1] at q1';cases q1';obtain ⟨xl,xi,xb⟩:=sm (H':=q) (ρ:=id) h1;obtain ⟨as,a1,a2⟩:=xb d2;have inj:=bi (xi (Wt m0));have pins:∀ j,j < m0→dU e2.tK j=some j:=fun j hj=>(xl.trans bl).tK j j (Ws hj);have hm:m0≤f.cE.length:=by
     rcases Nat.lt_or_ge f.cE.length m0 with h | h
     ·have h3:=pins f.cE.length h;simp only [Xs.vq,Bool.and_eq_true] at hg;have h0:=List.all_eq_true.1 hg.1 _ (mv h3);simp only [Bool.and_eq_true] at h0;have:=Nat.le_of_ble_eq_true h0.1;omega
     ·exact h
    refine ⟨⟨s.nt,f.cE.length,(f.YK.map (·.1)).zip as,q⟩,by simp only [instF,a1,q1],⟨fun t=>KY (instL_wf (m:=f.cE.length) (fun j h=>h) a1 hl1) t,fun id l hl=>?_⟩,rfl,hm,fun {w F O μ ft a} hs=>?_⟩
    ·exact instBs_wf (m:=f.cE.length) (fun j h=>h) q1 Ok _ (kU hl)
    ·have hH:∀ p,p∈q→NF s.H q e2 id p:=fun p hp=>(q2 p hp).1;have nG:∀ j,j < f.cE.length→∃ b9,dU e2.tK j=some b9∧b9 < s.N:=fun j hj=>by
      obtain ⟨b9,h3⟩:=ba j hj;rw [Nat.zero_add] at h3;simp only [Xs.vq,Bool.and_eq_true] at hg;have h0:=List.all_eq_true.1 hg.1 _ (mv h3);simp only [Bool.and_eq_true] at h0;exact ⟨b9,h3,Nat.le_of_ble_eq_true h0.2⟩
     obtain ⟨C_,sub⟩:=Tn (m:=f.cE.length) hs hg inj hH (fun p hp=>by
      obtain ⟨i,hi,e⟩:=(q2 p hp).2;rw [e];simpa using hi) nG
     have rd:=IP (m:=f.cE.length) (H':=q) hs hg hH inj;refine ⟨_,_,_,_,⟨C_,hs.nt,fun t=>?_,hs.df.sub sub fun b hb=>?_⟩,?_⟩
     ·have hv:gZ w F μ (below s.N) (di s.H (f.YK.map fun p=>look s.tm p.1)) ((f.YK.map (·.1)).map fun t=>a.tmps.getD t undef):=by
       refine ⟨by rw [bC];simp,fun i hi=>?_⟩;rw [bC] at hi;rw [dq _ _ _ hi];simp only [List.length_map] at hi;have:=hs.tm (f.YK[i].1);simpa [List.getD,hi,bL.st] using this
      exact Tl (H':=q) (a2 (rd.of bl) hv) rfl t
     ·rcases hb with h | ⟨BP,k1,k2,k3⟩
      ·exact .inl h
      ·exact .inr (hs.hr.own BP k2 b k3)
     ·refine { os:=rfl,tape:=rfl,output:=rfl,size:=Nat.le_refl _,mu:=fun j hj=>?_,zK:=fun b h=>.inl h,shape:=fun _ _=>rfl,same:=fun _ _ _=>rfl,D0:=fun x hx=>.inl (sub x hx),G6:=?_ }
      ·simp only [muX,pins j hj,Option.getD_some]
      ·rintro b (h | ⟨BP,k1,k2,k3⟩)
       ·exact .inl h
       ·exact .inr (.inr (hs.hr.own BP k2 b k3))
   ·cases h
  ·cases h
 ·cases h
end Go.Proofs.YtjkbbdldmdajkaaGreatDoor.c5
