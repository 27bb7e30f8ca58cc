/- What an operation leaves of a typed state: the bridge to the operations' lemmas. No condition. -/
import Derived.Test.YtjkbbdldmdajkaaGreatDoorVH
set_option linter.unusedSimpArgs false
set_option linter.unusedVariables false
namespace Go.Proofs.YtjkbbdldmdajkaaGreatDoor.c5
open Go Go.RowKit
variable {w w' ss:World} {F F' zT O O' uo:Nat→Prop} {μ aZ jE:Nat→Nat} {K K' C9:Nat→Prop} {ft bX:Nat→Nat→Prop} {P:Program}
theorem Nd (H:List (Nat×aX)) (v:Value):(cst v).av H=V7 v:=by
 unfold cst V7;split<;>simp [TA.av,cL,di]
def Sub (H H':List (Nat×aX)) (N:Nat):Prop:=∀ id,id < N→fv (aS H' id)=fv (aS H id)
theorem Sub.refl (H:List (Nat×aX)) (N:Nat):Sub H H N:=fun _ _=>rfl
mutual
theorem jB {H H':List (Nat×aX)} {N N':Nat} (h:Sub H H' N) (hN:N≤N'):∀ (a:TA),a.wf H N→a.av H'=a.av H∧a.wf H' N'
 | .ow id,hw=>by
  simp only [TA.wf] at hw;exact ⟨by simp only [TA.av,h id hw],by simp only [TA.wf];omega⟩
 | .rp id i off,hw=>by
  simp only [TA.wf] at hw;exact ⟨by simp only [TA.av,h id hw.1],by simp only [TA.wf,h id hw.1];exact ⟨by omega,hw.2⟩⟩
 | .agg cs,hw=>by
  simp only [TA.wf] at hw;have k:=g0 h hN cs hw;exact ⟨by simp only [TA.av,k.1],by simp only [TA.wf];exact k.2⟩
 | .rb cs off,hw=>by
  simp only [TA.wf] at hw;have k:=g0 h hN cs hw;exact ⟨by simp only [TA.av,k.1],by simp only [TA.wf];exact k.2⟩
 | .ov cs,hw=>by
  simp only [TA.wf] at hw;have k:=g0 h hN cs hw;exact ⟨by simp only [TA.av,k.1],by simp only [TA.wf];exact k.2⟩
 | .oR t a,hw=>by
  simp only [TA.wf] at hw;have k:=jB h hN a hw;exact ⟨by simp only [TA.av,k.1],by simp only [TA.wf];exact k.2⟩
 | .fn f xs ys,hw=>by
  simp only [TA.wf] at hw;have k1:=g0 h hN xs hw.1;have k2:=g0 h hN ys hw.2;exact ⟨by simp only [TA.av,k1.1,k2.1],by simp only [TA.wf];exact ⟨k1.2,k2.2⟩⟩
 | .top,_=>⟨by simp only [TA.av],by simp only [TA.wf]⟩
 | .lit v,_=>⟨by simp only [TA.av],by simp only [TA.wf]⟩
 | .d x,_=>⟨by simp only [TA.av],by simp only [TA.wf]⟩
 | .fb,_=>⟨by simp only [TA.av],by simp only [TA.wf]⟩
 | .fp t x off,_=>⟨by simp only [TA.av],by simp only [TA.wf]⟩
 | .bs id n bB,_=>⟨by simp only [TA.av],by simp only [TA.wf]⟩
 | .bp id off,_=>⟨by simp only [TA.av],by simp only [TA.wf]⟩
 | .mp id,_=>⟨by simp only [TA.av],by simp only [TA.wf]⟩
theorem g0 {H H':List (Nat×aX)} {N N':Nat} (h:Sub H H' N) (hN:N≤N'):∀ (l:List TA),hU H N l→di H' l=di H l∧hU H' N' l
 | [],_=>⟨by simp only [di],by simp only [hU]⟩
 | a::r,hw=>by
  simp only [hU] at hw;have k1:=jB h hN a hw.1;have k2:=g0 h hN r hw.2;exact ⟨by simp only [di,k1.1,k2.1],by simp only [hU];exact ⟨k1.2,k2.2⟩⟩
end
def eg (b b':jz):Prop:=(b'.eQ=true→b.eQ=true)∧∀ {w F μ K S n o},hP w F μ K S n o b→hP w F μ K S n o b'
theorem eg.refl (b:jz):eg b b:=⟨fun h=>h,fun h=>h⟩
theorem SY {l m:List AV} (hl:l.length=m.length) (h:∀ k,k < m.length→g8 (l.getD k .top) (m.getD k .top)):eg (.box l) (.box m):=
 ⟨fun _=>rfl,fun ⟨cs,t,h1,h2,h3,h4⟩=>⟨cs,t,h1,h2,hl▸h3,fun j hj=>h j hj (h4 j (hl▸hj))⟩⟩
theorem bC (H:List (Nat×aX)) (l:List TA):(di H l).length=l.length:=by rw [cW];simp
theorem dq (H:List (Nat×aX)) (l:List TA) (k:Nat) (hk:k < l.length):(di H l).getD k .top=(l.getD k .top).av H:=by
 rw [cW];simp [List.getD,hk]
theorem BT {H:List (Nat×aX)} {N:Nat} {l:List TA} (h:hU H N l) (k:Nat):(l.getD k .top).wf H N:=by
 by_cases hk:k < l.length
 ·exact cZ.1 h _ (by simp [List.getD,hk])
 ·have:l.getD k .top=.top:=by simp [List.getD,Nat.le_of_not_lt hk]
  rw [this];simp only [TA.wf]
theorem J3:∀ {l:List (Nat×Nat)} {j id:Nat},tb l j=some id→(j,id)∈l
 | [],_,_,h=>by cases h
 | (i,x)::r,j,id,h=>by
  simp only [tb] at h;split at h
  ·rename_i e;cases h;rw [Nat.eq_of_beq_eq_true e];simp
  ·exact List.mem_cons_of_mem _ (J3 h)
theorem p4 {H H':List (Nat×aX)} {N:Nat} (h:Sub H H' N) {b:aX} (hw:hU H N b.refs):b.du H'=b.du H:=by
 cases b with
 | row t v xs=>rfl
 | bZ x=>rfl
 | dmap i l=>rfl
 | SX t l=>rfl
 | box l=>simp only [aX.du,(g0 h (Nat.le_refl _) l hw).1]
 | de t v xs i os=>
  simp only [aX.du]
  congr 1
  funext i' j;simp only [sg];split
  ·cases q:tb os j with
   | none=>rfl
   | some id=>exact (jB h (Nat.le_refl _) _ (cZ.1 hw _ (List.mem_map.2 ⟨_,J3 q,rfl⟩))).1
  ·rfl
theorem cb {a b:Nat} (h:¬ a=b):Nat.beq a b=false:=by
 cases e:Nat.beq a b with
 | false=>rfl
 | true=>exact absurd (Nat.eq_of_beq_eq_true e) h
theorem EK (H:List (Nat×aX)) (id:Nat):∀ up:List (Nat×Option aX),(∃ p,up.find? (fun p=>Nat.beq id p.1)=some p∧((∃ b,p.2=some b∧aS (cA H up) id=some b)∨(p.2=none∧∃ x,aS (cA H up) id=some (.bZ x))))∨
  (up.find? (fun p=>Nat.beq id p.1)=none∧aS (cA H up) id=aS H id)
 | []=>.inr ⟨rfl,rfl⟩
 | (i,none)::r=>by
  simp only [cA,aS,List.find?_cons];cases e:Nat.beq id i with
  | true=>exact .inl ⟨_,rfl,.inr ⟨rfl,_,rfl⟩⟩
  | false=>exact EK H id r
 | (i,some b)::r=>by
  simp only [cA,aS,List.find?_cons];cases e:Nat.beq id i with
  | true=>exact .inl ⟨_,rfl,.inl ⟨b,rfl,rfl⟩⟩
  | false=>exact EK H id r
theorem ye (H:List (Nat×aX)) (id:Nat):∀ L:List Nat,fv (aS (cA H (L.map fun i=>(i,none))) id)=fv (aS H id)
 | []=>rfl
 | i::r=>by
  simp only [List.map_cons,cA,aS];cases e:Nat.beq id i with
  | true=>rw [Nat.eq_of_beq_eq_true e];simp only [fv];exact ye H i r
  | false=>exact ye H id r
theorem nL (H:List (Nat×aX)) (id:Nat):∀ L:List Nat,(id∈L∧∃ x,aS (cA H (L.map fun i=>(i,none))) id=some (.bZ x))∨(id ∉ L∧aS (cA H (L.map fun i=>(i,none))) id=aS H id)
 | []=>.inr ⟨by simp,rfl⟩
 | i::r=>by
  simp only [List.map_cons,cA,aS];cases e:Nat.beq id i with
  | true=>exact .inl ⟨by simp [Nat.eq_of_beq_eq_true e],_,rfl⟩
  | false=>
   have oV:=Nat.ne_of_beq_eq_false e;rcases nL H id r with ⟨h1,h2⟩ | ⟨h1,h2⟩
   ·exact .inl ⟨by simp [h1],h2⟩
   ·exact .inr ⟨by simp [h1,oV],h2⟩
theorem wK {H:List (Nat×aX)} {N qT:Nat} {b:aX} {L:List Nat} (h:qT < N→fv (some b)=fv (aS H qT)):Sub H (cA H ((qT,some b)::L.map fun i=>(i,none))) N:=fun id bZ=>by
 simp only [cA,aS];cases e:Nat.beq id qT with
 | true=>
  have:=Nat.eq_of_beq_eq_true e;subst this;exact h bZ
 | false=>exact ye H id L
structure cu where
 v:TA
 up:List (Nat×Option aX)
 k:Nat
def bL.next (s:bL) (r:cu):bL:=⟨s.nt,s.N+r.k,s.tm,cA s.H r.up⟩
def bL.put (s:bL) (d:Option Nat) (v:TA):bL:=match d with
 | some t=>{ s with tm:=(t,v)::s.tm }
 | none=>s
def TOk (P:Program) (o:Oper) (s:bL) (r:cu):Prop:=
 ∃ rv Lv,dg P o s.st ⟨rv,Lv,List.range' s.N r.k⟩∧g8 rv (r.v.av (s.next r).H)∧(∀ id,id∈Lv.map (·.1)→id∈r.up.map (·.1))∧∀ id b',sx (s.next r).H id=some b'→∃ b,(s.st.H.c_ Lv) id=some b∧eg b b'
def afi (P:Program) (o:Oper) (s:bL) (r:cu):Prop:=
 ∃ rv Lv,V3 P o s.st ⟨rv,Lv,List.range' s.N r.k⟩∧g8 rv (r.v.av (s.next r).H)∧(∀ id,id∈Lv.map (·.1)→id∈r.up.map (·.1))∧∀ id b',sx (s.next r).H id=some b'→∃ b,(s.st.H.c_ Lv) id=some b∧eg b b'
structure KU (s:bL) (r:cu):Prop where
 sub:Sub s.H (s.next r).H s.N
 v:r.v.wf (s.next r).H (s.N+r.k)
 box:∀ id b,(id,some b)∈r.up→hU (s.next r).H (s.N+r.k) (aX.refs b)
theorem HR.imp {H H':Hp} (hr:HR w F O μ K H ft) (h:∀ id b',H' id=some b'→∃ b,H id=some b∧eg b b'):HR w F O μ K H' ft:=by
 have lv:∀ id,H'.live id→H.live id:=fun id ⟨b',ck,hl⟩=>by
  obtain ⟨b,h1,h2⟩:=h id b' ck;exact ⟨b,h1,h2.1 hl⟩
 refine { lt:=hr.lt,known:=fun id b' ck=>?_,du:=fun id b' ck hl=>?_,self:=fun id hl=>hr.self id (lv id hl),own:=fun id hl=>hr.own id (lv id hl),dj:=fun id b9 hl BM=>hr.dj id b9 (lv id hl) (lv b9 BM),yl:=hr.yl,wf:=hr.wf,qS:=hr.qS,pos:=hr.pos }
 ·obtain ⟨b,h1,_⟩:=h id b' ck;exact hr.known id b h1
 ·obtain ⟨b,h1,h2⟩:=h id b' ck;obtain ⟨o,ho,hB⟩:=hr.du id b h1 (h2.1 hl);exact ⟨o,ho,h2.2 hB⟩
theorem Wc {o:Oper} {s:bL} {r:cu} (h:TOk P o s r) {a:Act} (hs:SR w F O μ (below s.N) s.st ft a) {Kn:Act→World→Prop} {Q:Exit→Act→World→Prop}
  (hk:∀ v w' F' O' aZ bX,VR w' F' aZ (below (s.N+r.k)) (r.v.av (s.next r).H) v→HR w' F' O' aZ (below (s.N+r.k)) (s.next r).st.H bX→Fr w F O μ (below s.N) w' F' O' aZ→Kn (a.put o.dst v) w'):o.wp P a w Kn Q:=by
 obtain ⟨rv,Lv,h,hv,_,hH⟩:=h;refine h w F O μ (below s.N) ft a hs (fun id bZ=>?_) Kn Q fun v w' F' O' aZ bX k1 k2 k3=>?_
 ·simp only [List.mem_range'_1] at bZ;simp only [below];omega
 ·simp only [yb] at k1 k2;exact hk v w' F' O' aZ bX (hv k1) (k2.imp hH) k3
theorem ZO {o:Oper} {s:bL} {r:cu} (h:afi P o s r) {a:Act} (hs:SR w F O μ (below s.N) s.st ft a) {Kn:Act→World→Prop} {Q:Exit→Act→World→Prop}
  (hk:∀ v w' F' O' aZ bX,VR w' F' aZ (below (s.N+r.k)) (r.v.av (s.next r).H) v→HR w' F' O' aZ (below (s.N+r.k)) (s.next r).st.H bX→Fr w F O μ (below s.N) w' F' O' aZ→Q (.panic [{ v,recovered:=false }]) a w'):o.wp P a w Kn Q:=by
 obtain ⟨rv,Lv,h,hv,_,hH⟩:=h;refine h w F O μ (below s.N) ft a hs (fun id bZ=>?_) Kn Q fun v w' F' O' aZ bX k1 k2 k3=>?_
 ·simp only [List.mem_range'_1] at bZ;simp only [below];omega
 ·simp only [yb] at k1 k2;exact hk v w' F' O' aZ bX (hv k1) (k2.imp hH) k3
theorem afj (s:bL):s.st.H=sx s.H:=rfl
theorem dx {s:bL} {id:Nat} {b:aX} (h:aS s.H id=some b) (hv:b.T5=true:=by rfl):s.st.H id=some (b.du s.H):=J2 h hv
theorem abu {o:Oper} {s:bL} {rv:AV} {v:TA} (h:dg P o s.st ⟨rv,[],[]⟩) (hv:g8 rv (v.av s.H)):TOk P o s ⟨v,[],0⟩:=
 ⟨rv,[],h,hv,(fun _ h=>h),fun id b' hb=>⟨b',hb,eg.refl _⟩⟩
theorem ZP {s:bL} {v:TA} (hv:v.wf s.H s.N):KU s ⟨v,[],0⟩:=⟨Sub.refl _ _,hv,fun _ _ h=>by cases h⟩
theorem Q5 {o:Oper} {s:bL} {rv:AV} {v:TA} {qT k:Nat} {b:aX} {B:jz} {L:List Nat} (hs:s.ok) (h:dg P o s.st ⟨rv,(qT,some B)::gA L,List.range' s.N k⟩)
  (jx:Sub s.H (cA s.H ((qT,some b)::L.map fun i=>(i,none))) s.N) (hv:g8 rv (v.av (cA s.H ((qT,some b)::L.map fun i=>(i,none)))))
  (hB:eg B (b.du (cA s.H ((qT,some b)::L.map fun i=>(i,none))))):TOk P o s ⟨v,(qT,some b)::L.map fun i=>(i,none),k⟩:=by
 refine ⟨rv,_,h,hv,fun id bZ=>by simpa [gA] using bZ,fun id b' ck=>?_⟩;obtain ⟨c,hc,hcv,rfl⟩:=ij ck;have UU:(s.st.H.c_ ((qT,some B)::gA L)) id=if id=qT then some B else if id∈L then none else s.st.H id:=by
  show (if id=qT then some B else s.st.H.c_ (gA L) id)=_;rw [x9]
 rw [UU];simp only [bL.next,cA,aS] at hc;cases e:Nat.beq id qT with
 | true=>
  rw [e] at hc;cases hc;rw [if_pos (Nat.eq_of_beq_eq_true e)];exact ⟨B,rfl,hB⟩
 | false=>
  rw [e] at hc;rw [if_neg (Nat.ne_of_beq_eq_false e)];rcases nL s.H id L with ⟨h1,x,h2⟩ | ⟨h1,h2⟩
  ·rw [h2] at hc;cases hc;cases hcv
  ·rw [h2] at hc;rw [if_neg h1];refine ⟨_,dx hc hcv,?_⟩;rw [show (s.next _).H=cA s.H ((qT,some b)::L.map fun i=>(i,none)) from rfl,p4 jx (hs.H id _ hc)];exact eg.refl _
theorem LM {s:bL} {r:cu} {a:Act} (hs:SR w F O μ (below s.N) s.st ft a) (ho:s.ok) (hg:KU s r) (hr:HR w' F' O' aZ (below (s.N+r.k)) (s.next r).st.H bX) (hf:Fr w F O μ (below s.N) w' F' O' aZ):
  SR w' F' O' aZ (below (s.next r).N) (s.next r).st bX a where
 hr:=hr
 nt:=hs.nt
 tm:=fun t=>by
  show VR w' F' aZ _ ((look s.tm t).av (s.next r).H) _;rw [(jB hg.sub (Nat.le_refl _) _ (ho.tm t)).1];exact (hs.tm t).step hs.hr hf fun id (h:id < s.N)=>(by show id < s.N+r.k;omega)
 df:=hs.df.step hf
theorem EL {s:bL} {r:cu} (ho:s.ok) (hg:KU s r):(s.next r).ok where
 tm:=fun t=>(jB hg.sub (Nat.le_add_right _ _) _ (ho.tm t)).2
 H:=fun id l hl=>by
  simp only [bL.next] at hl;rcases EK s.H id r.up with ⟨p,hp,⟨b,h1,h2⟩ | ⟨_,x,h2⟩⟩ | ⟨_,h2⟩
  ·rw [h2] at hl;cases hl;have h3:=List.mem_of_find?_eq_some hp;exact hg.box p.1 _ (by rw [← h1];exact h3)
  ·rw [h2] at hl;cases hl;simp only [aX.refs,hU]
  ·rw [h2] at hl;exact (g0 hg.sub (Nat.le_add_right _ _) _ (ho.H id l hl)).2
theorem zM {s:bL} {d:Option Nat} {v:TA} (ho:s.ok) (hv:v.wf s.H s.N):(s.put d v).ok:=by
 cases d with
 | none=>exact ho
 | some t=>
  refine ⟨fun u=>?_,ho.H⟩;simp only [bL.put,look];cases e:Nat.beq u t with
  | true=>exact hv
  | false=>exact ho.tm u
def oL (s:bL):Option Nat→Bool
 | some t=>t.blt s.nt
 | none=>true
theorem Ha {s:bL} {d:Option Nat} {v:TA} {u:Value} {a:Act} (hs:SR w F O μ K s.st ft a) (hd:oL s d=true) (hv:VR w F μ K (v.av s.H) u):SR w F O μ K (s.put d v).st ft (a.put d u):=by
 cases d with
 | none=>exact hs
 | some t=>
  have dY:t < s.nt:=Nat.le_of_ble_eq_true hd;refine ⟨hs.hr,by simp only [Act.put,Array.size_setIfInBounds];exact hs.nt,fun k=>?_,hs.df⟩;simp only [bL.put,bL.st,look,Act.put];cases e:Nat.beq k t with
  | true=>
   have e:=Nat.eq_of_beq_eq_true e;subst e;have:k < a.tmps.size:=by rw [hs.nt];exact dY
   simpa [this] using hv
  | false=>
   have oV:t≠k:=fun h=>by subst h;simp at e
   have:=hs.tm k;simp only [Array.getD_eq_getD_getElem?] at this ⊢;rw [Array.getElem?_setIfInBounds_ne oV];exact this
theorem gu (s:bL) (x:Operand):dT s.st x ((s.val x).av s.H):=by
 intro w F O μ K ft act hs;cases x with
 | tmp t=>exact hs.tm t
 | const v=>simp only [bL.val,Nd];exact J0 v
 | func f=>simp only [bL.val,TA.av,di];exact .fn _ [] [] [] [] rfl rfl (fun i h=>by cases h) (fun i h=>by cases h)
 | global g=>simp only [bL.val,TA.av];exact .top _
theorem bY {s:bL} {x:Operand} {v:TA} (h:s.val x=v):dT s.st x (v.av s.H):=h▸gu s x
theorem fS {s:bL} (ho:s.ok) (x:Operand):(s.val x).wf s.H s.N:=by
 cases x with
 | tmp t=>exact ho.tm t
 | const v=>
  simp only [bL.val];unfold cst;split<;>simp [TA.wf,hU]
 | func f=>simp [bL.val,TA.wf,hU]
 | global g=>simp [bL.val,TA.wf]
end Go.Proofs.YtjkbbdldmdajkaaGreatDoor.c5
