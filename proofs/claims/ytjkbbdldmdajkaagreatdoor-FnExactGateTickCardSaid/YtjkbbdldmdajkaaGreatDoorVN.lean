/- Frames: a state as its pattern tells it, its blocks numbered anew. No condition. -/
import Derived.Test.YtjkbbdldmdajkaaGreatDoorVM
set_option linter.unusedSimpArgs false
set_option linter.unusedVariables false
namespace Go.Proofs.YtjkbbdldmdajkaaGreatDoor.c_
open Go Go.RowKit
variable {w w' xk:World} {F F' Bs O O' v8:Nat→Prop} {μ bC lG:Nat→Nat} {K K' EF:Nat→Prop} {ft bZ:Nat→Nat→Prop} {P:Program} {R:Type}
mutual
def vm.lt (m:Nat):vm→Bool
 | .ow j=>j.blt m
 | .bs j _ _=>j.blt m
 | .bp j _=>j.blt m
 | .mp j=>j.blt m
 | .agg ps=>Y3 m ps
 | .rb ps _=>Y3 m ps
 | .nP ps=>Y3 m ps
 | .pK _ p=>p.lt m
 | .fn _ xs ys=>Y3 m xs&&Y3 m ys
 | _=>true
def Y3 (m:Nat):List vm→Bool
 | []=>true
 | p::r=>p.lt m&&Y3 m r
end
def Bp.lt (m:Nat):Bp→Bool
 | .box ps=>Y3 m ps
 | _=>true
mutual
theorem inst_wf {ρ:Nat→Nat} {m N:Nat} {H:List (Nat×aY)} (ER:∀ j,j < m→ρ j < N):∀ {p:vm} {l l':List cN} {a:TA},instP ρ p l=some (a,l')→p.lt m=true→a.wf H N
 | .any,l,l',a,h,_=>by simp only [instP] at h;cases h;simp only [TA.wf]
 | .d t,l,l',a,h,_=>by
  simp only [instP] at h;split at h
  ·split at h
   ·cases h;exact WM _ _ _
   ·cases h
  ·cases h
 | .agg ps,l,l',a,h,hl=>by
  simp only [instP] at h;simp only [vm.lt] at hl;split at h
  ·rename_i as l2 hi;cases h;simp only [TA.wf];exact instL_wf ER hi hl
  ·cases h
 | .rb ps off,l,l',a,h,hl=>by
  simp only [instP] at h;simp only [vm.lt] at hl;split at h
  ·rename_i as l2 hi;cases h;simp only [TA.wf];exact instL_wf ER hi hl
  ·cases h
 | .nP ps,l,l',a,h,hl=>by
  simp only [instP] at h;simp only [vm.lt] at hl;split at h
  ·rename_i as l2 hi;cases h;simp only [TA.wf];exact instL_wf ER hi hl
  ·cases h
 | .ow j,l,l',a,h,hl=>by
  simp only [instP] at h;simp only [vm.lt] at hl;cases h;simp only [TA.wf];exact ER j (Nat.le_of_ble_eq_true hl)
 | .bs j n bA,l,l',a,h,_=>by simp only [instP] at h;cases h;simp only [TA.wf]
 | .bp j off,l,l',a,h,_=>by simp only [instP] at h;cases h;simp only [TA.wf]
 | .mp j,l,l',a,h,_=>by simp only [instP] at h;cases h;simp only [TA.wf]
 | .fp t off,l,l',a,h,_=>by
  simp only [instP] at h;split at h
  ·split at h
   ·cases h;simp only [TA.wf]
   ·cases h
  ·cases h
 | .pK t p,l,l',a,h,hl=>by
  simp only [instP] at h;simp only [vm.lt] at hl;split at h
  ·rename_i b l2 hi;cases h;simp only [TA.wf];exact inst_wf ER hi hl
  ·cases h
 | .fn f xs ys,l,l',a,h,hl=>by
  simp only [instP] at h;simp only [vm.lt,Bool.and_eq_true] at hl;split at h
  ·rename_i as l2 hi;split at h
   ·rename_i bs l3 hj;cases h;simp only [TA.wf];exact ⟨instL_wf ER hi hl.1,instL_wf ER hj hl.2⟩
   ·cases h
  ·cases h
 | .QH,l,l',a,h,_=>by simp only [instP] at h;cases h;simp only [TA.wf]
 | .kb b,l,l',a,h,_=>by simp only [instP] at h;cases h;simp only [TA.wf]
theorem instL_wf {ρ:Nat→Nat} {m N:Nat} {H:List (Nat×aY)} (ER:∀ j,j < m→ρ j < N):∀ {ps:List vm} {l l':List cN} {as:List TA},instL ρ ps l=some (as,l')→Y3 m ps=true→im H N as
 | [],l,l',as,h,_=>by simp only [instL] at h;cases h;simp only [im]
 | p::ps,l,l',as,h,hl=>by
  simp only [instL] at h;simp only [Y3,Bool.and_eq_true] at hl;split at h
  ·rename_i a l2 hi;split at h
   ·rename_i bs l3 hj;cases h;simp only [im];exact ⟨inst_wf ER hi hl.1,instL_wf ER hj hl.2⟩
   ·cases h
  ·cases h
end
theorem instBs_wf {ρ:Nat→Nat} {m N:Nat} {H:List (Nat×aY)} (ER:∀ j,j < m→ρ j < N):∀ {bs:List Bp} {j0:Nat} {l l':List cN} {q:List (Nat×aY)},instBs ρ bs j0 l=some (q,l')→bs.all (Bp.lt m)=true→∀ p,p∈q→im H N p.2.refs
 | [],j0,l,l',q,h,_,p,hp=>by simp only [instBs] at h;cases h;cases hp
 | b::r,j0,l,l',q,h,hl,p,hp=>by
  simp only [List.all_cons,Bool.and_eq_true] at hl;by_cases hg:b=.gone
  ·subst hg;simp only [instBs] at h;exact instBs_wf ER h hl.2 p hp
  ·rw [instBs_cons hg] at h;split at h
   ·rename_i x l2 hb;split at h
    ·rename_i q2 l3 hr;cases h;rcases List.mem_cons.1 hp with e | e
     ·subst e;cases b with
      | gone=>exact absurd rfl hg
      | row t v=>
       simp only [instB] at hb;split at hb
       ·split at hb
        ·cases hb;simp only [aY.refs,im]
        ·cases hb
       ·cases hb
      | dmap i=>
       simp only [instB] at hb;split at hb
       ·split at hb
        ·cases hb;simp only [aY.refs,im]
        ·cases hb
       ·cases hb
      | cQ t=>
       simp only [instB] at hb;split at hb
       ·split at hb
        ·cases hb;exact db.2 fun a ha=>by
          obtain ⟨y,_,rfl⟩:=List.mem_map.1 ha;simp only [TA.wf]
        ·cases hb
       ·cases hb
      | box ps=>
       simp only [instB] at hb;split at hb
       ·rename_i as l5 hi;cases hb;simp only [Bp.lt] at hl;exact instL_wf ER hi hl.1
       ·cases hb
     ·exact instBs_wf ER hr hl.2 p e
    ·cases h
   ·cases h
theorem lI {H:List (Nat×aY)} {id:Nat} {b:aY} (h:aT H id=some b):(id,b)∈H:=by
 induction H with
 | nil=>cases h
 | cons p H ih=>
  obtain ⟨j,x⟩:=p;simp only [aT] at h;split at h
  ·rename_i e;cases h;rw [Nat.eq_of_beq_eq_true e];simp
  ·exact List.mem_cons_of_mem _ (ih h)
theorem KG {s:bP} {act:Act} (hs:SR w F O μ K s.st ft act) {id:Nat} {t:Ty} {v:RV} {xs:List t.dn} (hb:aT s.H id=some (.row t v xs)) {u:Value} (hv:VR w F μ K (du v.b id xs.length (fy t)) u) (hF:∀ b,F b→F' b)
  (hF2:s.st.H.live id→∀ b,ft id b→F' b) {K2:Nat→Prop}:VR w F' bC K2 (.fs (fy t) xs.length (cC t xs)) u:=by
 rcases rQ hv with ⟨⟨_,rfl⟩,h2,h3⟩ | ⟨cap,sz,t',rfl,h2,bY,h4,h5,h6⟩
 ·rw [h2];exact .v7 _ _ _ _
 ·have cl:s.st.H id=some (.row v.b (fy t) xs.length (bV v t xs)):=dF hb;have hl:(jV.row v.b (fy t) xs.length (bV v t xs)).fc=true:=by
   cases hvb:v.b with
   | false=>rfl
   | true=>simpa [jV.fc] using h6 hvb
  have gQ:s.st.H.live id:=⟨_,cl,hl⟩;obtain ⟨ob,p_,cs,t2,S,rfl,hB⟩:=hs.hr.dC id _ cl hl;have DI:cap*fy t≤cs.size:=by
   simp only [World.shape?,p_,Option.some.injEq,Prod.mk.injEq] at h4;rw [h4.2];exact h5
  refine .fs _ _ _ (μ id) 0 cap (fun i j=>cs.getD (i*fy t+j) undef) (hF2 gQ _ (hs.hr.self id gQ)) h2 (fun i j hi hj=>⟨?_,(hB.cell i j hi hj).2⟩) fun i j hi hj=>?_
  ·have h7:(i+1)*fy t≤xs.length*fy t:=Nat.mul_le_mul_right _ hi;rw [Nat.add_mul,Nat.one_mul] at h7;have h8:xs.length*fy t≤cap*fy t:=Nat.mul_le_mul_right _ h2;have:i*fy t+j < cs.size:=by omega
   simp [World.cell?,p_,this]
  ·have h9:=(hB.cell i j hi hj).1;cases hd:v.d with
   | false=>
    have e:bV v t xs i j=cC t xs i j:=by simp only [bV,hd]
    rw [e] at h9;exact (h9.closed (EU _ _ _ _)).1.mono (fun _ _=>rfl) hF (fun _ h=>h.elim) (fun _ h=>h) fun _ h=>h.elim
   | true=>exact h9.freeze hF _ (Cy t xs i j) (by simp only [bV,hd]) fun b UJ=>hF2 gQ b ((hB.all b).2 (.inr ⟨i,j,hi,hj,UJ⟩))
structure jS where
 Y4:List (Nat×vm)
 dc:List Bp
def jS.eR (f:jS):List Ty:=CE (f.Y4.map (·.2))++RY f.dc
def OT (m:Nat):Xs:=⟨(List.range m).map fun j=>(j,j),[]⟩
def Xs.EY (e:Xs) (m N:Nat):Bool:=e.uP.all (fun p=>p.1.blt m&&p.2.blt N)&&e.fz.all fun id=>!(e.uP.any fun p=>Nat.beq p.2 id)
def aen (s:bP) (m0:Nat) (f:jS):Option (List cN):=
 match CF s.H (f.Y4.map (·.2)) (f.Y4.map fun p=>look s.tm p.1) (OT m0) with
 | some (e1,d1)=>match EX s.H f.dc 0 e1 with
  | some (e2,d2)=>if e2.EY f.dc.length s.N&&(Y3 f.dc.length (f.Y4.map (·.2))&&f.dc.all (Bp.lt f.dc.length)) then some (d1++d2) else none
  | none=>none
 | none=>none
def instF (nt:Nat) (f:jS) (ds:List cN):Option bP:=
 match instL id (f.Y4.map (·.2)) ds with
 | some (as,l)=>match instBs id f.dc 0 l with
  | some (H,[])=>some ⟨nt,f.dc.length,(f.Y4.map (·.1)).zip as,H⟩
  | _=>none
 | none=>none
theorem TT {H H':List (Nat×aY)}:∀ {ks:List Nat} {as:List TA} {vs:List Value} {f:Nat→Value},iL w F μ K (dD H as) vs→vs=ks.map f→∀ t,VR w F μ K ((look (ks.zip as) t).av H) (f t)
 | [],as,vs,f,h,hv,t=>by simp only [List.zip_nil_left,look,TA.av];exact .top _
 | k::ks,[],vs,f,h,hv,t=>by simp only [List.zip_nil_right,look,TA.av];exact .top _
 | k::ks,a::as,vs,f,h,hv,t=>by
  simp only [dD] at h;obtain ⟨v,r,rfl,h1,h2⟩:=h.cons_inv;simp only [List.map_cons,List.cons.injEq] at hv;simp only [List.zip_cons_cons,look];cases e:Nat.beq t k with
  | true=>rw [Nat.eq_of_beq_eq_true e,← hv.1];exact h1
  | false=>exact TT (H':=H') h2 hv.2 t
theorem Lz {H:List (Nat×aY)} {N:Nat}:∀ {ks:List Nat} {as:List TA},im H N as→∀ t,(look (ks.zip as) t).wf H N
 | [],as,h,t=>by simp only [List.zip_nil_left,look,TA.wf]
 | k::ks,[],h,t=>by simp only [List.zip_nil_right,look,TA.wf]
 | k::ks,a::as,h,t=>by
  simp only [im] at h;simp only [List.zip_cons_cons,look];cases Nat.beq t k with
  | true=>exact h.1
  | false=>exact Lz h.2 t
theorem WN {m j:Nat} (h:j < m):ef (OT m).uP j=some j:=by
 have key:∀ (l:List Nat),j∈l→ef (l.map fun j=>(j,j)) j=some j:=by
  intro l
  induction l with
  | nil=>intro h;cases h
  | cons x l ih=>
   intro h;simp only [List.map_cons,ef];cases e:Nat.beq j x with
   | true=>simp only [Nat.eq_of_beq_eq_true e]
   | false=>exact ih ((List.mem_cons.1 h).resolve_left (Nat.ne_of_beq_eq_false e))
 exact key _ (by simpa using h)
theorem WO (m:Nat):(OT m).inj:=by
 have key:∀ (l:List Nat) (j id:Nat),ef (l.map fun j=>(j,j)) j=some id→id=j:=by
  intro l
  induction l with
  | nil=>intro j id h;cases h
  | cons x l ih=>
   intro j id h;simp only [List.map_cons,ef] at h;split at h
   ·rename_i e;cases h;exact (Nat.eq_of_beq_eq_true e).symm
   ·exact ih j id h
 intro j j' id h h';rw [← key _ j id h,← key _ j' id h']
def muX (e:Xs) (μ:Nat→Nat):Nat→Nat:=fun j=>μ ((ef e.uP j).getD 0)
def frX (s:bP) (e:Xs) (F:Nat→Prop) (ft:Nat→Nat→Prop):Nat→Prop:=fun b=>F b∨∃ id,id∈e.fz∧s.st.H.live id∧ft id b
theorem TU {s:bP} {act:Act} {e:Xs} (hs:SR w F O μ K s.st ft act) {id:Nat} (bY:id∈e.fz) {l:List TA} (hl:aT s.H id=some (.box l)):
  ∃ cs t,w.heap[μ id]?=some (.cells cs t (0,0))∧frX s e F ft (μ id)∧l.length≤cs.size∧∀ j,j < l.length→VR w F μ K ((l.getD j .top).av s.H) (cs.getD j undef):=by
 have hb:s.st.H id=some (.box (dD s.H l)):=dF hl;have gQ:s.st.H.live id:=⟨_,hb,rfl⟩;obtain ⟨o,ho,cs,t,rfl,hS,h3,h4⟩:=hs.hr.dC id _ hb rfl;rw [bB] at h3;refine ⟨cs,t,ho,.inr ⟨id,bY,gQ,hs.hr.self id gQ⟩,h3,fun j hj=>?_⟩;have:=h4 j (by rw [bB];exact hj);rwa [dx _ _ _ hj] at this
theorem Jo {s:bP} {act:Act} {e:Xs} {m:Nat} {H':List (Nat×aY)} (hs:SR w F O μ K s.st ft act) (hg:e.EY m s.N=true) (hH:∀ p,p∈H'→Od s.H H' e id p) (hi:e.inj):
  Reads w F μ K s.H e (frX s e F ft) (muX e μ) (fun j=>j < m) H' id where
 fF:=fun b h=>.inl h
 num:=fun j b9 hj _=>by
  simp only [Xs.EY,Bool.and_eq_true] at hg;have h0:=List.all_eq_true.1 hg.1 _ (na hj);simp only [Bool.and_eq_true] at h0;exact ⟨Nat.le_of_ble_eq_true h0.1,by simp only [muX,id,hj,Option.getD_some]⟩
 row:=fun j b9 hj x hx=>by
  cases hb:aT H' j with
  | none=>simp only [id,hb,fH] at hx;cases hx
  | some B'=>
   obtain ⟨j2,Cv,B,h1,h2,h3,_,_,h4,_⟩:=hH _ (lI hb);simp only [id] at h1;subst h1;rw [hj] at h2;cases h2;rw [h3];simp only [id,hb] at hx;exact h4 x hx
 fz:=fun b9 bY t v xs hb u hv K2=>KG hs hb hv (fun b h=>.inl h) fun hl b cl=>.inr ⟨b9,bY,hl,cl⟩
 bx:=fun b9 bY l hl=>TU hs bY hl
theorem TV {s:bP} {act:Act} {e:Xs} {m:Nat} {H':List (Nat×aY)} (hs:SR w F O μ (below s.N) s.st ft act) (hg:e.EY m s.N=true) (hi:e.inj) (hH:∀ p,p∈H'→Od s.H H' e id p) (dQ:∀ p,p∈H'→p.1 < m)
  (oy:∀ j,j < m→∃ b9,ef e.uP j=some b9∧b9 < s.N):
  HR w (frX s e F ft) (fun x=>∃ j b9,ef e.uP j=some b9∧s.st.H.live b9∧ft b9 x) (muX e μ) (below m) (xn H') (fun j=>ft ((ef e.uP j).getD 0))∧
   ∀ x,(∃ j b9,ef e.uP j=some b9∧s.st.H.live b9∧ft b9 x)→O x:=by
 have rd:=Jo (H':=H') hs hg hH hi;have hr:=hs.hr;have lv:∀ j b,(xn H') j=some b→∃ (b9:Nat) (B B':aY),ef e.uP j=some b9∧s.st.H b9=some (B.dC s.H)∧b=B'.dC H'∧(b.fc=true→(B.dC s.H).fc=true)∧
   ∀ {S n o},ik w F μ (below s.N) S n o (B.dC s.H)→ik w (frX s e F ft) (muX e μ) (fun j=>j < m) S n o b:=by
  intro j b hb;obtain ⟨B',hl,hv,rfl⟩:=iA hb;obtain ⟨j2,Cv,B,h1,h2,h3,h3v,_,_,h5,h6⟩:=hH _ (lI hl);simp only [id] at h1;subst h1;exact ⟨Cv,B,B',h2,dF h3 h3v,rfl,h5,fun {S n o} hB=>h6 rd hB⟩
 have live:∀ j,Hp.live (xn H') j→∃ b9,ef e.uP j=some b9∧s.st.H.live b9:=by
  rintro j ⟨b,hb,hl⟩
  obtain ⟨b9,B,B',h1,h2,h3,h4,_⟩:=lv j b hb;exact ⟨b9,h1,B.dC s.H,h2,h4 hl⟩
 have sub:∀ x,(∃ j b9,ef e.uP j=some b9∧s.st.H.live b9∧ft b9 x)→O x:=fun x ⟨j,b9,_,h2,h3⟩=>hr.own b9 h2 x h3;refine ⟨{ lt:=fun j hj=>?_,known:=fun j b hb=>?_,dC:=fun j b hb hl=>?_,self:=fun j hl=>?_,own:=fun j hl x hx=>?_,dj:=fun j j' hl Ct x hx lN=>?_,zc:=?_,wf:=?_,rT:=fun b h=>hr.rT b (sub b h),pos:=hr.pos.mono (Nat.le_refl _) (fun _ h=>.inl h) fun _ _=>rfl },sub⟩
 ·obtain ⟨b9,h1,h2⟩:=oy j hj;simp only [muX,h1,Option.getD_some];exact hr.lt b9 h2
 ·obtain ⟨B',hl,_⟩:=iA hb;exact dQ _ (lI hl)
 ·obtain ⟨b9,B,B',h1,h2,h3,h4,h5⟩:=lv j b hb;obtain ⟨o,ho,hB⟩:=hr.dC b9 (B.dC s.H) h2 (h4 hl);refine ⟨o,by simp only [muX,h1,Option.getD_some];exact ho,?_⟩;simp only [muX,h1,Option.getD_some];exact h5 hB
 ·obtain ⟨b9,h1,h2⟩:=live j hl;simp only [muX,h1,Option.getD_some];exact hr.self b9 h2
 ·obtain ⟨b9,h1,h2⟩:=live j hl;simp only [h1,Option.getD_some] at hx;exact ⟨j,b9,h1,h2,hx⟩
 ·obtain ⟨b9,h1,h2⟩:=live j hl;obtain ⟨Cv,k1,k2⟩:=live j' Ct;simp only [h1,k1,Option.getD_some] at hx lN;have:=hr.dj b9 Cv h2 k2 x hx lN;subst this;exact hi j j' b9 h1 k1
 ·rintro b ⟨j,b9,h1,h2,h3⟩ (h | ⟨Cv,k1,k2,k3⟩)
  ·exact hr.zc b (hr.own b9 h2 b h3) h
  ·have:=hr.dj b9 Cv h2 k2 b h3 k3;subst this;simp only [Xs.EY,Bool.and_eq_true] at hg;have:=List.all_eq_true.1 hg.2 _ k1;simp only [Bool.not_eq_true',List.any_eq_false] at this;exact this _ (na h1) (by simp)
 ·rintro b (h | ⟨Cv,k1,k2,k3⟩)
  ·exact hr.wf b h
  ·exact hr.rT b (hr.own Cv k2 b k3)
theorem aaM {s:bP} {m0:Nat} {f:jS} {ds:List cN} (h:aen s m0 f=some ds) (hm0:m0≤s.N):
  ∃ s',instF s.nt f ds=some s'∧s'.ok∧s'.nt=s.nt∧m0≤s'.N∧∀ {w F O μ ft a},SR w F O μ (below s.N) s.st ft a→∃ F' O' bC bZ,SR w F' O' bC (below s'.N) s'.st bZ a∧Fr w F O μ (below m0) w F' O' bC:=by
 unfold aen at h;split at h
 ·rename_i e1 d1 h1;split at h
  ·rename_i e2 d2 h2;split at h
   ·rename_i hc;simp only [Bool.and_eq_true] at hc;cases h;obtain ⟨hg,hl1,Rb⟩:=hc;obtain ⟨bl,bi,ba,bq⟩:=wb (H':=[]) (ρ:=id) h2;obtain ⟨q,q1,_⟩:=bq [];rw [List.append_nil] at q1;obtain ⟨bl,bi,ba,bq⟩:=wb (H':=q) (ρ:=id) h2;obtain ⟨q',q1',q2⟩:=bq [];rw [List.append_nil,q1] at q1';cases q1';obtain ⟨xl,xi,xb⟩:=tj (H':=q) (ρ:=id) h1;obtain ⟨as,a1,a2⟩:=xb d2;have inj:=bi (xi (WO m0));have pins:∀ j,j < m0→ef e2.uP j=some j:=fun j hj=>(xl.trans bl).uP j j (WN hj);have hm:m0≤f.dc.length:=by
     rcases Nat.lt_or_ge f.dc.length m0 with h | h
     ·have h3:=pins f.dc.length h;simp only [Xs.EY,Bool.and_eq_true] at hg;have h0:=List.all_eq_true.1 hg.1 _ (na h3);simp only [Bool.and_eq_true] at h0;have:=Nat.le_of_ble_eq_true h0.1;omega
     ·exact h
    refine ⟨⟨s.nt,f.dc.length,(f.Y4.map (·.1)).zip as,q⟩,by simp only [instF,a1,q1],⟨fun t=>Lz (instL_wf (m:=f.dc.length) (fun j h=>h) a1 hl1) t,fun id l hl=>?_⟩,rfl,hm,fun {w F O μ ft a} hs=>?_⟩
    ·exact instBs_wf (m:=f.dc.length) (fun j h=>h) q1 Rb _ (lI hl)
    ·have hH:∀ p,p∈q→Od s.H q e2 id p:=fun p hp=>(q2 p hp).1;have oy:∀ j,j < f.dc.length→∃ b9,ef e2.uP j=some b9∧b9 < s.N:=fun j hj=>by
      obtain ⟨b9,h3⟩:=ba j hj;rw [Nat.zero_add] at h3;simp only [Xs.EY,Bool.and_eq_true] at hg;have h0:=List.all_eq_true.1 hg.1 _ (na h3);simp only [Bool.and_eq_true] at h0;exact ⟨b9,h3,Nat.le_of_ble_eq_true h0.2⟩
     obtain ⟨DP,sub⟩:=TV (m:=f.dc.length) hs hg inj hH (fun p hp=>by
      obtain ⟨i,hi,e⟩:=(q2 p hp).2;rw [e];simpa using hi) oy
     have rd:=Jo (m:=f.dc.length) (H':=q) hs hg hH inj;refine ⟨_,_,_,_,⟨DP,hs.nt,fun t=>?_,hs.df.sub sub fun b hb=>?_⟩,?_⟩
     ·have hv:iL w F μ (below s.N) (dD s.H (f.Y4.map fun p=>look s.tm p.1)) ((f.Y4.map (·.1)).map fun t=>a.tmps.getD t undef):=by
       refine ⟨by rw [bB];simp,fun i hi=>?_⟩;rw [bB] at hi;rw [dx _ _ _ hi];simp only [List.length_map] at hi;have:=hs.tm (f.Y4[i].1);simpa [List.getD,hi,bP.st] using this
      exact TT (H':=q) (a2 (rd.of bl) hv) rfl t
     ·rcases hb with h | ⟨Cv,k1,k2,k3⟩
      ·exact .inl h
      ·exact .inr (hs.hr.own Cv k2 b k3)
     ·refine { os:=rfl,tape:=rfl,output:=rfl,size:=Nat.le_refl _,mu:=fun j hj=>?_,Aw:=fun b h=>.inl h,shape:=fun _ _=>rfl,same:=fun _ _ _=>rfl,EE:=fun x hx=>.inl (sub x hx),HK:=?_ }
      ·simp only [muX,pins j hj,Option.getD_some]
      ·rintro b (h | ⟨Cv,k1,k2,k3⟩)
       ·exact .inl h
       ·exact .inr (.inr (hs.hr.own Cv k2 b k3))
   ·cases h
  ·cases h
 ·cases h
end Go.Proofs.YtjkbbdldmdajkaaGreatDoor.c_
