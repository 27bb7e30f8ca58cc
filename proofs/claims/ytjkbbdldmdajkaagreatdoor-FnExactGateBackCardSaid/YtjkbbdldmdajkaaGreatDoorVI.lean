/- What an operation leaves of a typed state: the bridge to the operations' lemmas. No condition. -/
import Derived.Test.YtjkbbdldmdajkaaGreatDoorVH
set_option linter.unusedSimpArgs false
set_option linter.unusedVariables false
namespace Go.Proofs.YtjkbbdldmdajkaaGreatDoor.c_
open Go Go.RowKit
variable {w w' xk:World} {F F' Bs O O' v8:Nat→Prop} {μ bC lG:Nat→Nat} {K K' EF:Nat→Prop} {ft bZ:Nat→Nat→Prop} {P:Program}
theorem NM (H:List (Nat×aY)) (v:Value):(cst v).av H=Wq v:=by
 unfold cst Wq;split<;>simp [TA.av,cR,dD]
def Sub (H H':List (Nat×aY)) (N:Nat):Prop:=∀ id,id < N→fH (aT H' id)=fH (aT H id)
theorem Sub.refl (H:List (Nat×aY)) (N:Nat):Sub H H N:=fun _ _=>rfl
mutual
theorem jR {H H':List (Nat×aY)} {N N':Nat} (h:Sub H H' N) (hN:N≤N'):∀ (a:TA),a.wf H N→a.av H'=a.av H∧a.wf H' N'
 | .ow id,hw=>by
  simp only [TA.wf] at hw;exact ⟨by simp only [TA.av,h id hw],by simp only [TA.wf];omega⟩
 | .rp id i off,hw=>by
  simp only [TA.wf] at hw;exact ⟨by simp only [TA.av,h id hw.1],by simp only [TA.wf,h id hw.1];exact ⟨by omega,hw.2⟩⟩
 | .agg cs,hw=>by
  simp only [TA.wf] at hw;have k:=hG h hN cs hw;exact ⟨by simp only [TA.av,k.1],by simp only [TA.wf];exact k.2⟩
 | .rb cs off,hw=>by
  simp only [TA.wf] at hw;have k:=hG h hN cs hw;exact ⟨by simp only [TA.av,k.1],by simp only [TA.wf];exact k.2⟩
 | .nP cs,hw=>by
  simp only [TA.wf] at hw;have k:=hG h hN cs hw;exact ⟨by simp only [TA.av,k.1],by simp only [TA.wf];exact k.2⟩
 | .pK t a,hw=>by
  simp only [TA.wf] at hw;have k:=jR h hN a hw;exact ⟨by simp only [TA.av,k.1],by simp only [TA.wf];exact k.2⟩
 | .fn f xs ys,hw=>by
  simp only [TA.wf] at hw;have k1:=hG h hN xs hw.1;have k2:=hG h hN ys hw.2;exact ⟨by simp only [TA.av,k1.1,k2.1],by simp only [TA.wf];exact ⟨k1.2,k2.2⟩⟩
 | .top,_=>⟨by simp only [TA.av],by simp only [TA.wf]⟩
 | .lit v,_=>⟨by simp only [TA.av],by simp only [TA.wf]⟩
 | .d x,_=>⟨by simp only [TA.av],by simp only [TA.wf]⟩
 | .fB,_=>⟨by simp only [TA.av],by simp only [TA.wf]⟩
 | .fp t x off,_=>⟨by simp only [TA.av],by simp only [TA.wf]⟩
 | .bs id n bA,_=>⟨by simp only [TA.av],by simp only [TA.wf]⟩
 | .bp id off,_=>⟨by simp only [TA.av],by simp only [TA.wf]⟩
 | .mp id,_=>⟨by simp only [TA.av],by simp only [TA.wf]⟩
theorem hG {H H':List (Nat×aY)} {N N':Nat} (h:Sub H H' N) (hN:N≤N'):∀ (l:List TA),im H N l→dD H' l=dD H l∧im H' N' l
 | [],_=>⟨by simp only [dD],by simp only [im]⟩
 | a::r,hw=>by
  simp only [im] at hw;have k1:=jR h hN a hw.1;have k2:=hG h hN r hw.2;exact ⟨by simp only [dD,k1.1,k2.1],by simp only [im];exact ⟨k1.2,k2.2⟩⟩
end
def eQ (b b':jV):Prop:=(b'.fc=true→b.fc=true)∧∀ {w F μ K S n o},ik w F μ K S n o b→ik w F μ K S n o b'
theorem eQ.refl (b:jV):eQ b b:=⟨fun h=>h,fun h=>h⟩
theorem Tw {l m:List AV} (hl:l.length=m.length) (h:∀ k,k < m.length→il (l.getD k .top) (m.getD k .top)):eQ (.box l) (.box m):=
 ⟨fun _=>rfl,fun ⟨cs,t,h1,h2,h3,h4⟩=>⟨cs,t,h1,h2,hl▸h3,fun j hj=>h j hj (h4 j (hl▸hj))⟩⟩
theorem bB (H:List (Nat×aY)) (l:List TA):(dD H l).length=l.length:=by rw [c7];simp
theorem dx (H:List (Nat×aY)) (l:List TA) (k:Nat) (hk:k < l.length):(dD H l).getD k .top=(l.getD k .top).av H:=by
 rw [c7];simp [List.getD,hk]
theorem Cz {H:List (Nat×aY)} {N:Nat} {l:List TA} (h:im H N l) (k:Nat):(l.getD k .top).wf H N:=by
 by_cases hk:k < l.length
 ·exact db.1 h _ (by simp [List.getD,hk])
 ·have:l.getD k .top=.top:=by simp [List.getD,Nat.le_of_not_lt hk]
  rw [this];simp only [TA.wf]
theorem KB:∀ {l:List (Nat×Nat)} {j id:Nat},ub l j=some id→(j,id)∈l
 | [],_,_,h=>by cases h
 | (i,x)::r,j,id,h=>by
  simp only [ub] at h;split at h
  ·rename_i e;cases h;rw [Nat.eq_of_beq_eq_true e];simp
  ·exact List.mem_cons_of_mem _ (KB h)
theorem qN {H H':List (Nat×aY)} {N:Nat} (h:Sub H H' N) {b:aY} (hw:im H N b.refs):b.dC H'=b.dC H:=by
 cases b with
 | row t v xs=>rfl
 | bY x=>rfl
 | dmap i l=>rfl
 | Tv t l=>rfl
 | box l=>simp only [aY.dC,(hG h (Nat.le_refl _) l hw).1]
 | dq t v xs i os=>
  simp only [aY.dC]
  congr 1
  funext i' j;simp only [te];split
  ·cases q:ub os j with
   | none=>rfl
   | some id=>exact (jR h (Nat.le_refl _) _ (db.1 hw _ (List.mem_map.2 ⟨_,KB q,rfl⟩))).1
  ·rfl
theorem cd {a b:Nat} (h:¬ a=b):Nat.beq a b=false:=by
 cases e:Nat.beq a b with
 | false=>rfl
 | true=>exact absurd (Nat.eq_of_beq_eq_true e) h
theorem Fq (H:List (Nat×aY)) (id:Nat):∀ up:List (Nat×Option aY),(∃ p,up.find? (fun p=>Nat.beq id p.1)=some p∧((∃ b,p.2=some b∧aT (cD H up) id=some b)∨(p.2=none∧∃ x,aT (cD H up) id=some (.bY x))))∨
  (up.find? (fun p=>Nat.beq id p.1)=none∧aT (cD H up) id=aT H id)
 | []=>.inr ⟨rfl,rfl⟩
 | (i,none)::r=>by
  simp only [cD,aT,List.find?_cons];cases e:Nat.beq id i with
  | true=>exact .inl ⟨_,rfl,.inr ⟨rfl,_,rfl⟩⟩
  | false=>exact Fq H id r
 | (i,some b)::r=>by
  simp only [cD,aT,List.find?_cons];cases e:Nat.beq id i with
  | true=>exact .inl ⟨_,rfl,.inl ⟨b,rfl,rfl⟩⟩
  | false=>exact Fq H id r
theorem y5 (H:List (Nat×aY)) (id:Nat):∀ L:List Nat,fH (aT (cD H (L.map fun i=>(i,none))) id)=fH (aT H id)
 | []=>rfl
 | i::r=>by
  simp only [List.map_cons,cD,aT];cases e:Nat.beq id i with
  | true=>rw [Nat.eq_of_beq_eq_true e];simp only [fH];exact y5 H i r
  | false=>exact y5 H id r
theorem oC (H:List (Nat×aY)) (id:Nat):∀ L:List Nat,(id∈L∧∃ x,aT (cD H (L.map fun i=>(i,none))) id=some (.bY x))∨(id ∉ L∧aT (cD H (L.map fun i=>(i,none))) id=aT H id)
 | []=>.inr ⟨by simp,rfl⟩
 | i::r=>by
  simp only [List.map_cons,cD,aT];cases e:Nat.beq id i with
  | true=>exact .inl ⟨by simp [Nat.eq_of_beq_eq_true e],_,rfl⟩
  | false=>
   have qL:=Nat.ne_of_beq_eq_false e;rcases oC H id r with ⟨h1,h2⟩ | ⟨h1,h2⟩
   ·exact .inl ⟨by simp [h1],h2⟩
   ·exact .inr ⟨by simp [h1,qL],h2⟩
theorem xG {H:List (Nat×aY)} {N rU:Nat} {b:aY} {L:List Nat} (h:rU < N→fH (some b)=fH (aT H rU)):Sub H (cD H ((rU,some b)::L.map fun i=>(i,none))) N:=fun id bY=>by
 simp only [cD,aT];cases e:Nat.beq id rU with
 | true=>
  have:=Nat.eq_of_beq_eq_true e;subst this;exact h bY
 | false=>exact y5 H id L
structure cx where
 v:TA
 up:List (Nat×Option aY)
 k:Nat
def bP.next (s:bP) (r:cx):bP:=⟨s.nt,s.N+r.k,s.tm,cD s.H r.up⟩
def bP.put (s:bP) (d:Option Nat) (v:TA):bP:=match d with
 | some t=>{ s with tm:=(t,v)::s.tm }
 | none=>s
def TOk (P:Program) (o:Oper) (s:bP) (r:cx):Prop:=
 ∃ rv L4,dr P o s.st ⟨rv,L4,List.range' s.N r.k⟩∧il rv (r.v.av (s.next r).H)∧(∀ id,id∈L4.map (·.1)→id∈r.up.map (·.1))∧∀ id b',xn (s.next r).H id=some b'→∃ b,(s.st.H.dh L4) id=some b∧eQ b b'
def afo (P:Program) (o:Oper) (s:bP) (r:cx):Prop:=
 ∃ rv L4,Wm P o s.st ⟨rv,L4,List.range' s.N r.k⟩∧il rv (r.v.av (s.next r).H)∧(∀ id,id∈L4.map (·.1)→id∈r.up.map (·.1))∧∀ id b',xn (s.next r).H id=some b'→∃ b,(s.st.H.dh L4) id=some b∧eQ b b'
structure NN (s:bP) (r:cx):Prop where
 sub:Sub s.H (s.next r).H s.N
 v:r.v.wf (s.next r).H (s.N+r.k)
 box:∀ id b,(id,some b)∈r.up→im (s.next r).H (s.N+r.k) (aY.refs b)
theorem HR.imp {H H':Hp} (hr:HR w F O μ K H ft) (h:∀ id b',H' id=some b'→∃ b,H id=some b∧eQ b b'):HR w F O μ K H' ft:=by
 have lv:∀ id,H'.live id→H.live id:=fun id ⟨b',cl,hl⟩=>by
  obtain ⟨b,h1,h2⟩:=h id b' cl;exact ⟨b,h1,h2.1 hl⟩
 refine { lt:=hr.lt,known:=fun id b' cl=>?_,dC:=fun id b' cl hl=>?_,self:=fun id hl=>hr.self id (lv id hl),own:=fun id hl=>hr.own id (lv id hl),dj:=fun id b9 hl Ct=>hr.dj id b9 (lv id hl) (lv b9 Ct),zc:=hr.zc,wf:=hr.wf,rT:=hr.rT,pos:=hr.pos }
 ·obtain ⟨b,h1,_⟩:=h id b' cl;exact hr.known id b h1
 ·obtain ⟨b,h1,h2⟩:=h id b' cl;obtain ⟨o,ho,hB⟩:=hr.dC id b h1 (h2.1 hl);exact ⟨o,ho,h2.2 hB⟩
theorem Wx {o:Oper} {s:bP} {r:cx} (h:TOk P o s r) {a:Act} (hs:SR w F O μ (below s.N) s.st ft a) {Kn:Act→World→Prop} {Q:Exit→Act→World→Prop}
  (hk:∀ v w' F' O' bC bZ,VR w' F' bC (below (s.N+r.k)) (r.v.av (s.next r).H) v→HR w' F' O' bC (below (s.N+r.k)) (s.next r).st.H bZ→Fr w F O μ (below s.N) w' F' O' bC→Kn (a.put o.dst v) w'):o.wp P a w Kn Q:=by
 obtain ⟨rv,L4,h,hv,_,hH⟩:=h;refine h w F O μ (below s.N) ft a hs (fun id bY=>?_) Kn Q fun v w' F' O' bC bZ k1 k2 k3=>?_
 ·simp only [List.mem_range'_1] at bY;simp only [below];omega
 ·simp only [Cw] at k1 k2;exact hk v w' F' O' bC bZ (hv k1) (k2.imp hH) k3
theorem aar {o:Oper} {s:bP} {r:cx} (h:afo P o s r) {a:Act} (hs:SR w F O μ (below s.N) s.st ft a) {Kn:Act→World→Prop} {Q:Exit→Act→World→Prop}
  (hk:∀ v w' F' O' bC bZ,VR w' F' bC (below (s.N+r.k)) (r.v.av (s.next r).H) v→HR w' F' O' bC (below (s.N+r.k)) (s.next r).st.H bZ→Fr w F O μ (below s.N) w' F' O' bC→Q (.panic [{ v,recovered:=false }]) a w'):o.wp P a w Kn Q:=by
 obtain ⟨rv,L4,h,hv,_,hH⟩:=h;refine h w F O μ (below s.N) ft a hs (fun id bY=>?_) Kn Q fun v w' F' O' bC bZ k1 k2 k3=>?_
 ·simp only [List.mem_range'_1] at bY;simp only [below];omega
 ·simp only [Cw] at k1 k2;exact hk v w' F' O' bC bZ (hv k1) (k2.imp hH) k3
theorem afp (s:bP):s.st.H=xn s.H:=rfl
theorem dF {s:bP} {id:Nat} {b:aY} (h:aT s.H id=some b) (hv:b.Uy=true:=by rfl):s.st.H id=some (b.dC s.H):=KA h hv
theorem abY {o:Oper} {s:bP} {rv:AV} {v:TA} (h:dr P o s.st ⟨rv,[],[]⟩) (hv:il rv (v.av s.H)):TOk P o s ⟨v,[],0⟩:=
 ⟨rv,[],h,hv,(fun _ h=>h),fun id b' hb=>⟨b',hb,eQ.refl _⟩⟩
theorem aas {s:bP} {v:TA} (hv:v.wf s.H s.N):NN s ⟨v,[],0⟩:=⟨Sub.refl _ _,hv,fun _ _ h=>by cases h⟩
theorem RD {o:Oper} {s:bP} {rv:AV} {v:TA} {rU k:Nat} {b:aY} {B:jV} {L:List Nat} (hs:s.ok) (h:dr P o s.st ⟨rv,(rU,some B)::gH L,List.range' s.N k⟩)
  (jO:Sub s.H (cD s.H ((rU,some b)::L.map fun i=>(i,none))) s.N) (hv:il rv (v.av (cD s.H ((rU,some b)::L.map fun i=>(i,none)))))
  (hB:eQ B (b.dC (cD s.H ((rU,some b)::L.map fun i=>(i,none))))):TOk P o s ⟨v,(rU,some b)::L.map fun i=>(i,none),k⟩:=by
 refine ⟨rv,_,h,hv,fun id bY=>by simpa [gH] using bY,fun id b' cl=>?_⟩;obtain ⟨c,hc,hcv,rfl⟩:=iA cl;have Vn:(s.st.H.dh ((rU,some B)::gH L)) id=if id=rU then some B else if id∈L then none else s.st.H id:=by
  show (if id=rU then some B else s.st.H.dh (gH L) id)=_;rw [yX]
 rw [Vn];simp only [bP.next,cD,aT] at hc;cases e:Nat.beq id rU with
 | true=>
  rw [e] at hc;cases hc;rw [if_pos (Nat.eq_of_beq_eq_true e)];exact ⟨B,rfl,hB⟩
 | false=>
  rw [e] at hc;rw [if_neg (Nat.ne_of_beq_eq_false e)];rcases oC s.H id L with ⟨h1,x,h2⟩ | ⟨h1,h2⟩
  ·rw [h2] at hc;cases hc;cases hcv
  ·rw [h2] at hc;rw [if_neg h1];refine ⟨_,dF hc hcv,?_⟩;rw [show (s.next _).H=cD s.H ((rU,some b)::L.map fun i=>(i,none)) from rfl,qN jO (hs.H id _ hc)];exact eQ.refl _
theorem RF {s:bP} {r:cx} {a:Act} (hs:SR w F O μ (below s.N) s.st ft a) (ho:s.ok) (hg:NN s r) (hr:HR w' F' O' bC (below (s.N+r.k)) (s.next r).st.H bZ) (hf:Fr w F O μ (below s.N) w' F' O' bC):
  SR w' F' O' bC (below (s.next r).N) (s.next r).st bZ a where
 hr:=hr
 nt:=hs.nt
 tm:=fun t=>by
  show VR w' F' bC _ ((look s.tm t).av (s.next r).H) _;rw [(jR hg.sub (Nat.le_refl _) _ (ho.tm t)).1];exact (hs.tm t).step hs.hr hf fun id (h:id < s.N)=>(by show id < s.N+r.k;omega)
 df:=hs.df.step hf
theorem Jg {s:bP} {r:cx} (ho:s.ok) (hg:NN s r):(s.next r).ok where
 tm:=fun t=>(jR hg.sub (Nat.le_add_right _ _) _ (ho.tm t)).2
 H:=fun id l hl=>by
  simp only [bP.next] at hl;rcases Fq s.H id r.up with ⟨p,hp,⟨b,h1,h2⟩ | ⟨_,x,h2⟩⟩ | ⟨_,h2⟩
  ·rw [h2] at hl;cases hl;have h3:=List.mem_of_find?_eq_some hp;exact hg.box p.1 _ (by rw [← h1];exact h3)
  ·rw [h2] at hl;cases hl;simp only [aY.refs,im]
  ·rw [h2] at hl;exact (hG hg.sub (Nat.le_add_right _ _) _ (ho.H id l hl)).2
theorem Ay {s:bP} {d:Option Nat} {v:TA} (ho:s.ok) (hv:v.wf s.H s.N):(s.put d v).ok:=by
 cases d with
 | none=>exact ho
 | some t=>
  refine ⟨fun u=>?_,ho.H⟩;simp only [bP.put,look];cases e:Nat.beq u t with
  | true=>exact hv
  | false=>exact ho.tm u
def pA (s:bP):Option Nat→Bool
 | some t=>t.blt s.nt
 | none=>true
theorem HP {s:bP} {d:Option Nat} {v:TA} {u:Value} {a:Act} (hs:SR w F O μ K s.st ft a) (hd:pA s d=true) (hv:VR w F μ K (v.av s.H) u):SR w F O μ K (s.put d v).st ft (a.put d u):=by
 cases d with
 | none=>exact hs
 | some t=>
  have dQ:t < s.nt:=Nat.le_of_ble_eq_true hd;refine ⟨hs.hr,by simp only [Act.put,Array.size_setIfInBounds];exact hs.nt,fun k=>?_,hs.df⟩;simp only [bP.put,bP.st,look,Act.put];cases e:Nat.beq k t with
  | true=>
   have e:=Nat.eq_of_beq_eq_true e;subst e;have:k < a.tmps.size:=by rw [hs.nt];exact dQ
   simpa [this] using hv
  | false=>
   have qL:t≠k:=fun h=>by subst h;simp at e
   have:=hs.tm k;simp only [Array.getD_eq_getD_getElem?] at this ⊢;rw [Array.getElem?_setIfInBounds_ne qL];exact this
theorem gE (s:bP) (x:Operand):ee s.st x ((s.val x).av s.H):=by
 intro w F O μ K ft act hs;cases x with
 | tmp t=>exact hs.tm t
 | const v=>simp only [bP.val,NM];exact Kx v
 | func f=>simp only [bP.val,TA.av,dD];exact .fn _ [] [] [] [] rfl rfl (fun i h=>by cases h) (fun i h=>by cases h)
 | global g=>simp only [bP.val,TA.av];exact .top _
theorem bX {s:bP} {x:Operand} {v:TA} (h:s.val x=v):ee s.st x (v.av s.H):=h▸gE s x
theorem gf {s:bP} (ho:s.ok) (x:Operand):(s.val x).wf s.H s.N:=by
 cases x with
 | tmp t=>exact ho.tm t
 | const v=>
  simp only [bP.val];unfold cst;split<;>simp [TA.wf,im]
 | func f=>simp [bP.val,TA.wf,im]
 | global g=>simp [bP.val,TA.wf]
end Go.Proofs.YtjkbbdldmdajkaaGreatDoor.c_
