/- What an operation leaves of a typed state: the bridge to the operations' lemmas. No condition. -/
import Derived.Test.YtljfmaaadnoggaaGreatDoorVH
set_option linter.unusedSimpArgs false
set_option linter.unusedVariables false
namespace Go.Proofs.YtljfmaaadnoggaaGreatDoor.cX
open Go Go.RowKit
variable {w w' xW:World} {F F' Cq O O' wx:Nat→Prop} {μ bC kZ:Nat→Nat} {K K' Gg:Nat→Prop} {ft b8:Nat→Nat→Prop} {P:Program}
theorem PS (H:List (Nat×aY)) (v:Value):(cst v).av H=Y5 v:=by
 unfold cst Y5
 split<;>simp [TA.av,cN,dU]
def Sub (H H':List (Nat×aY)) (N:Nat):Prop:=∀ id,id < N→fM (aR H' id)=fM (aR H id)
theorem Sub.refl (H:List (Nat×aY)) (N:Nat):Sub H H N:=fun _ _=>rfl
mutual
theorem jQ {H H':List (Nat×aY)} {N N':Nat} (h:Sub H H' N) (hN:N≤N'):∀ (a:TA),a.wf H N→a.av H'=a.av H∧a.wf H' N'
 | .ow id,hw=>by
  simp only [TA.wf] at hw
  exact ⟨by simp only [TA.av,h id hw],by simp only [TA.wf];omega⟩
 | .rp id i off,hw=>by
  simp only [TA.wf] at hw
  exact ⟨by simp only [TA.av,h id hw.1],by simp only [TA.wf,h id hw.1];exact ⟨by omega,hw.2⟩⟩
 | .agg cs,hw=>by
  simp only [TA.wf] at hw
  have k:=iK h hN cs hw
  exact ⟨by simp only [TA.av,k.1],by simp only [TA.wf];exact k.2⟩
 | .ph cs,hw=>by
  simp only [TA.wf] at hw
  have k:=iK h hN cs hw
  exact ⟨by simp only [TA.av,k.1],by simp only [TA.wf];exact k.2⟩
 | .pe t a,hw=>by
  simp only [TA.wf] at hw
  have k:=jQ h hN a hw
  exact ⟨by simp only [TA.av,k.1],by simp only [TA.wf];exact k.2⟩
 | .fn f xs ys,hw=>by
  simp only [TA.wf] at hw
  have k1:=iK h hN xs hw.1
  have k2:=iK h hN ys hw.2
  exact ⟨by simp only [TA.av,k1.1,k2.1],by simp only [TA.wf];exact ⟨k1.2,k2.2⟩⟩
 | .top,_=>⟨by simp only [TA.av],by simp only [TA.wf]⟩
 | .lit v,_=>⟨by simp only [TA.av],by simp only [TA.wf]⟩
 | .d x,_=>⟨by simp only [TA.av],by simp only [TA.wf]⟩
 | .ff,_=>⟨by simp only [TA.av],by simp only [TA.wf]⟩
 | .fp t x off,_=>⟨by simp only [TA.av],by simp only [TA.wf]⟩
 | .bs id n bB,_=>⟨by simp only [TA.av],by simp only [TA.wf]⟩
 | .bp id off,_=>⟨by simp only [TA.av],by simp only [TA.wf]⟩
 | .mp id,_=>⟨by simp only [TA.av],by simp only [TA.wf]⟩
theorem iK {H H':List (Nat×aY)} {N N':Nat} (h:Sub H H' N) (hN:N≤N'):∀ (l:List TA),iw H N l→dU H' l=dU H l∧iw H' N' l
 | [],_=>⟨by simp only [dU],by simp only [iw]⟩
 | a::r,hw=>by
  simp only [iw] at hw
  have k1:=jQ h hN a hw.1
  have k2:=iK h hN r hw.2
  exact ⟨by simp only [dU,k1.1,k2.1],by simp only [iw];exact ⟨k1.2,k2.2⟩⟩
end
def eV (b b':kq):Prop:=(b'.fa=true→b.fa=true)∧∀ {w F μ K S n o},h_ w F μ K S n o b→h_ w F μ K S n o b'
theorem eV.refl (b:kq):eV b b:=⟨fun h=>h,fun h=>h⟩
theorem VU {l m:List AV} (hl:l.length=m.length) (h:∀ k,k < m.length→iu (l.getD k .top) (m.getD k .top)):eV (.box l) (.box m):=
 ⟨fun _=>rfl,fun ⟨cs,t,h1,h2,h3,h4⟩=>⟨cs,t,h1,h2,hl▸h3,fun j hj=>h j hj (h4 j (hl▸hj))⟩⟩
theorem bI (H:List (Nat×aY)) (l:List TA):(dU H l).length=l.length:=by rw [cV];simp
theorem dH (H:List (Nat×aY)) (l:List TA) (k:Nat) (hk:k < l.length):(dU H l).getD k .top=(l.getD k .top).av H:=by
 rw [cV];simp [List.getD,hk]
theorem Dz {H:List (Nat×aY)} {N:Nat} {l:List TA} (h:iw H N l) (k:Nat):(l.getD k .top).wf H N:=by
 by_cases hk:k < l.length
 ·exact c8.1 h _ (by simp [List.getD,hk])
 ·have:l.getD k .top=.top:=by simp [List.getD,Nat.le_of_not_lt hk]
  rw [this];simp only [TA.wf]
theorem MD:∀ {l:List (Nat×Nat)} {j id:Nat},uh l j=some id→(j,id)∈l
 | [],_,_,h=>by cases h
 | (i,x)::r,j,id,h=>by
  simp only [uh] at h
  split at h
  ·rename_i e
   cases h
   rw [Nat.eq_of_beq_eq_true e];simp
  ·exact List.mem_cons_of_mem _ (MD h)
theorem qy {H H':List (Nat×aY)} {N:Nat} (h:Sub H H' N) {b:aY} (hw:iw H N b.refs):b.dw H'=b.dw H:=by
 cases b with
 | row t v xs=>rfl
 | cb x=>rfl
 | dmap i l=>rfl
 | VT t l=>rfl
 | box l=>simp only [aY.dw,(iK h (Nat.le_refl _) l hw).1]
 | da t v xs i os=>
  simp only [aY.dw]
  congr 1
  funext i' j
  simp only [tp]
  split
  ·cases q:uh os j with
   | none=>rfl
   | some id=>exact (jQ h (Nat.le_refl _) _ (c8.1 hw _ (List.mem_map.2 ⟨_,MD q,rfl⟩))).1
  ·rfl
theorem cl {a b:Nat} (h:¬ a=b):Nat.beq a b=false:=by
 cases e:Nat.beq a b with
 | false=>rfl
 | true=>exact absurd (Nat.eq_of_beq_eq_true e) h
theorem G6 (H:List (Nat×aY)) (id:Nat):∀ up:List (Nat×Option aY),(∃ p,up.find? (fun p=>Nat.beq id p.1)=some p∧((∃ b,p.2=some b∧aR (cD H up) id=some b)∨(p.2=none∧∃ x,aR (cD H up) id=some (.cb x))))∨
  (up.find? (fun p=>Nat.beq id p.1)=none∧aR (cD H up) id=aR H id)
 | []=>.inr ⟨rfl,rfl⟩
 | (i,none)::r=>by
  simp only [cD,aR,List.find?_cons]
  cases e:Nat.beq id i with
  | true=>exact .inl ⟨_,rfl,.inr ⟨rfl,_,rfl⟩⟩
  | false=>exact G6 H id r
 | (i,some b)::r=>by
  simp only [cD,aR,List.find?_cons]
  cases e:Nat.beq id i with
  | true=>exact .inl ⟨_,rfl,.inl ⟨b,rfl,rfl⟩⟩
  | false=>exact G6 H id r
theorem zX (H:List (Nat×aY)) (id:Nat):∀ L:List Nat,fM (aR (cD H (L.map fun i=>(i,none))) id)=fM (aR H id)
 | []=>rfl
 | i::r=>by
  simp only [List.map_cons,cD,aR]
  cases e:Nat.beq id i with
  | true=>rw [Nat.eq_of_beq_eq_true e];simp only [fM];exact zX H i r
  | false=>exact zX H id r
theorem n_ (H:List (Nat×aY)) (id:Nat):∀ L:List Nat,(id∈L∧∃ x,aR (cD H (L.map fun i=>(i,none))) id=some (.cb x))∨(id ∉ L∧aR (cD H (L.map fun i=>(i,none))) id=aR H id)
 | []=>.inr ⟨by simp,rfl⟩
 | i::r=>by
  simp only [List.map_cons,cD,aR]
  cases e:Nat.beq id i with
  | true=>exact .inl ⟨by simp [Nat.eq_of_beq_eq_true e],_,rfl⟩
  | false=>
   have pw:=Nat.ne_of_beq_eq_false e
   rcases n_ H id r with ⟨h1,h2⟩ | ⟨h1,h2⟩
   ·exact .inl ⟨by simp [h1],h2⟩
   ·exact .inr ⟨by simp [h1,pw],h2⟩
theorem A8 {H:List (Nat×aY)} {N rJ:Nat} {b:aY} {L:List Nat} (h:rJ < N→fM (some b)=fM (aR H rJ)):Sub H (cD H ((rJ,some b)::L.map fun i=>(i,none))) N:=fun id cb=>by
 simp only [cD,aR]
 cases e:Nat.beq id rJ with
 | true=>
  have:=Nat.eq_of_beq_eq_true e
  subst this
  exact h cb
 | false=>exact zX H id L
structure cE where
 v:TA
 up:List (Nat×Option aY)
 k:Nat
def bQ.next (s:bQ) (r:cE):bQ:=⟨s.nt,s.N+r.k,s.tm,cD s.H r.up⟩
def bQ.put (s:bQ) (d:Option Nat) (v:TA):bQ:=match d with
 | some t=>{ s with tm:=(t,v)::s.tm }
 | none=>s
def TOk (P:Program) (o:Oper) (s:bQ) (r:cE):Prop:=
 ∃ rv N8,de P o s.st ⟨rv,N8,List.range' s.N r.k⟩∧iu rv (r.v.av (s.next r).H)∧(∀ id,id∈N8.map (·.1)→id∈r.up.map (·.1))∧∀ id b',xX (s.next r).H id=some b'→∃ b,(s.st.H.c_ N8) id=some b∧eV b b'
def ahL (P:Program) (o:Oper) (s:bQ) (r:cE):Prop:=
 ∃ rv N8,Y0 P o s.st ⟨rv,N8,List.range' s.N r.k⟩∧iu rv (r.v.av (s.next r).H)∧(∀ id,id∈N8.map (·.1)→id∈r.up.map (·.1))∧∀ id b',xX (s.next r).H id=some b'→∃ b,(s.st.H.c_ N8) id=some b∧eV b b'
structure PT (s:bQ) (r:cE):Prop where
 sub:Sub s.H (s.next r).H s.N
 v:r.v.wf (s.next r).H (s.N+r.k)
 box:∀ id b,(id,some b)∈r.up→iw (s.next r).H (s.N+r.k) (aY.refs b)
theorem HR.imp {H H':Hp} (hr:HR w F O μ K H ft) (h:∀ id b',H' id=some b'→∃ b,H id=some b∧eV b b'):HR w F O μ K H' ft:=by
 have lv:∀ id,H'.live id→H.live id:=fun id ⟨b',cu,hl⟩=>by
  obtain ⟨b,h1,h2⟩:=h id b' cu
  exact ⟨b,h1,h2.1 hl⟩
 refine { lt:=hr.lt,known:=fun id b' cu=>?_,dw:=fun id b' cu hl=>?_,self:=fun id hl=>hr.self id (lv id hl),own:=fun id hl=>hr.own id (lv id hl),dj:=fun id cg hl Ds=>hr.dj id cg (lv id hl) (lv cg Ds),z8:=hr.z8,wf:=hr.wf,rH:=hr.rH,pos:=hr.pos }
 ·obtain ⟨b,h1,_⟩:=h id b' cu
  exact hr.known id b h1
 ·obtain ⟨b,h1,h2⟩:=h id b' cu
  obtain ⟨o,ho,hB⟩:=hr.dw id b h1 (h2.1 hl)
  exact ⟨o,ho,h2.2 hB⟩
theorem Za {o:Oper} {s:bQ} {r:cE} (h:TOk P o s r) {a:Act} (hs:SR w F O μ (below s.N) s.st ft a) {Kn:Act→World→Prop} {Q:Exit→Act→World→Prop}
  (hk:∀ v w' F' O' bC b8,VR w' F' bC (below (s.N+r.k)) (r.v.av (s.next r).H) v→HR w' F' O' bC (below (s.N+r.k)) (s.next r).st.H b8→Fr w F O μ (below s.N) w' F' O' bC→Kn (a.put o.dst v) w'):o.wp P a w Kn Q:=by
 obtain ⟨rv,N8,h,hv,_,hH⟩:=h
 refine h w F O μ (below s.N) ft a hs (fun id cb=>?_) Kn Q fun v w' F' O' bC b8 k1 k2 k3=>?_
 ·simp only [List.mem_range'_1] at cb
  simp only [below];omega
 ·simp only [Dw] at k1 k2
  exact hk v w' F' O' bC b8 (hv k1) (k2.imp hH) k3
theorem acm {o:Oper} {s:bQ} {r:cE} (h:ahL P o s r) {a:Act} (hs:SR w F O μ (below s.N) s.st ft a) {Kn:Act→World→Prop} {Q:Exit→Act→World→Prop}
  (hk:∀ v w' F' O' bC b8,VR w' F' bC (below (s.N+r.k)) (r.v.av (s.next r).H) v→HR w' F' O' bC (below (s.N+r.k)) (s.next r).st.H b8→Fr w F O μ (below s.N) w' F' O' bC→Q (.panic [{ v,recovered:=false }]) a w'):o.wp P a w Kn Q:=by
 obtain ⟨rv,N8,h,hv,_,hH⟩:=h
 refine h w F O μ (below s.N) ft a hs (fun id cb=>?_) Kn Q fun v w' F' O' bC b8 k1 k2 k3=>?_
 ·simp only [List.mem_range'_1] at cb
  simp only [below];omega
 ·simp only [Dw] at k1 k2
  exact hk v w' F' O' bC b8 (hv k1) (k2.imp hH) k3
theorem ahM (s:bQ):s.st.H=xX s.H:=rfl
theorem dz {s:bQ} {id:Nat} {b:aY} (h:aR s.H id=some b) (hv:b.WT=true:=by rfl):s.st.H id=some (b.dw s.H):=MC h hv
theorem adR {o:Oper} {s:bQ} {rv:AV} {v:TA} (h:de P o s.st ⟨rv,[],[]⟩) (hv:iu rv (v.av s.H)):TOk P o s ⟨v,[],0⟩:=
 ⟨rv,[],h,hv,(fun _ h=>h),fun id b' hb=>⟨b',hb,eV.refl _⟩⟩
theorem acn {s:bQ} {v:TA} (hv:v.wf s.H s.N):PT s ⟨v,[],0⟩:=⟨Sub.refl _ _,hv,fun _ _ h=>by cases h⟩
theorem TX {o:Oper} {s:bQ} {rv:AV} {v:TA} {rJ k:Nat} {b:aY} {B:kq} {L:List Nat} (hs:s.ok) (h:de P o s.st ⟨rv,(rJ,some B)::gX L,List.range' s.N k⟩)
  (jM:Sub s.H (cD s.H ((rJ,some b)::L.map fun i=>(i,none))) s.N) (hv:iu rv (v.av (cD s.H ((rJ,some b)::L.map fun i=>(i,none)))))
  (hB:eV B (b.dw (cD s.H ((rJ,some b)::L.map fun i=>(i,none))))):TOk P o s ⟨v,(rJ,some b)::L.map fun i=>(i,none),k⟩:=by
 refine ⟨rv,_,h,hv,fun id cb=>by simpa [gX] using cb,fun id b' cu=>?_⟩
 obtain ⟨c,hc,hcv,rfl⟩:=iv cu
 have XP:(s.st.H.c_ ((rJ,some B)::gX L)) id=if id=rJ then some B else if id∈L then none else s.st.H id:=by
  show (if id=rJ then some B else s.st.H.c_ (gX L) id)=_
  rw [zT]
 rw [XP]
 simp only [bQ.next,cD,aR] at hc
 cases e:Nat.beq id rJ with
 | true=>
  rw [e] at hc
  cases hc
  rw [if_pos (Nat.eq_of_beq_eq_true e)]
  exact ⟨B,rfl,hB⟩
 | false=>
  rw [e] at hc
  rw [if_neg (Nat.ne_of_beq_eq_false e)]
  rcases n_ s.H id L with ⟨h1,x,h2⟩ | ⟨h1,h2⟩
  ·rw [h2] at hc;cases hc;cases hcv
  ·rw [h2] at hc
   rw [if_neg h1]
   refine ⟨_,dz hc hcv,?_⟩
   rw [show (s.next _).H=cD s.H ((rJ,some b)::L.map fun i=>(i,none)) from rfl,qy jM (hs.H id _ hc)]
   exact eV.refl _
theorem TY {s:bQ} {r:cE} {a:Act} (hs:SR w F O μ (below s.N) s.st ft a) (ho:s.ok) (hg:PT s r) (hr:HR w' F' O' bC (below (s.N+r.k)) (s.next r).st.H b8) (hf:Fr w F O μ (below s.N) w' F' O' bC):
  SR w' F' O' bC (below (s.next r).N) (s.next r).st b8 a where
 hr:=hr
 nt:=hs.nt
 tm:=fun t=>by
  show VR w' F' bC _ ((look s.tm t).av (s.next r).H) _
  rw [(jQ hg.sub (Nat.le_refl _) _ (ho.tm t)).1]
  exact (hs.tm t).step hs.hr hf fun id (h:id < s.N)=>(by show id < s.N+r.k;omega)
 df:=hs.df.step hf
theorem Lb {s:bQ} {r:cE} (ho:s.ok) (hg:PT s r):(s.next r).ok where
 tm:=fun t=>(jQ hg.sub (Nat.le_add_right _ _) _ (ho.tm t)).2
 H:=fun id l hl=>by
  simp only [bQ.next] at hl
  rcases G6 s.H id r.up with ⟨p,hp,⟨b,h1,h2⟩ | ⟨_,x,h2⟩⟩ | ⟨_,h2⟩
  ·rw [h2] at hl
   cases hl
   have h3:=List.mem_of_find?_eq_some hp
   exact hg.box p.1 _ (by rw [← h1];exact h3)
  ·rw [h2] at hl;cases hl;simp only [aY.refs,iw]
  ·rw [h2] at hl
   exact (iK hg.sub (Nat.le_add_right _ _) _ (ho.H id l hl)).2
theorem Bz {s:bQ} {d:Option Nat} {v:TA} (ho:s.ok) (hv:v.wf s.H s.N):(s.put d v).ok:=by
 cases d with
 | none=>exact ho
 | some t=>
  refine ⟨fun u=>?_,ho.H⟩
  simp only [bQ.put,look]
  cases e:Nat.beq u t with
  | true=>exact hv
  | false=>exact ho.tm u
def pc (s:bQ):Option Nat→Bool
 | some t=>t.blt s.nt
 | none=>true
theorem JH {s:bQ} {d:Option Nat} {v:TA} {u:Value} {a:Act} (hs:SR w F O μ K s.st ft a) (hd:pc s d=true) (hv:VR w F μ K (v.av s.H) u):SR w F O μ K (s.put d v).st ft (a.put d u):=by
 cases d with
 | none=>exact hs
 | some t=>
  have dQ:t < s.nt:=Nat.le_of_ble_eq_true hd
  refine ⟨hs.hr,by simp only [Act.put,Array.size_setIfInBounds];exact hs.nt,fun k=>?_,hs.df⟩
  simp only [bQ.put,bQ.st,look,Act.put]
  cases e:Nat.beq k t with
  | true=>
   have e:=Nat.eq_of_beq_eq_true e
   subst e
   have:k < a.tmps.size:=by rw [hs.nt];exact dQ
   simpa [this] using hv
  | false=>
   have pw:t≠k:=fun h=>by subst h;simp at e
   have:=hs.tm k
   simp only [Array.getD_eq_getD_getElem?] at this ⊢
   rw [Array.getElem?_setIfInBounds_ne pw]
   exact this
theorem gj (s:bQ) (x:Operand):ec s.st x ((s.val x).av s.H):=by
 intro w F O μ K ft act hs
 cases x with
 | tmp t=>exact hs.tm t
 | const v=>simp only [bQ.val,PS];exact Mz v
 | func f=>simp only [bQ.val,TA.av,dU];exact .fn _ [] [] [] [] rfl rfl (fun i h=>by cases h) (fun i h=>by cases h)
 | global g=>simp only [bQ.val,TA.av];exact .top _
theorem b9 {s:bQ} {x:Operand} {v:TA} (h:s.val x=v):ec s.st x (v.av s.H):=h▸gj s x
theorem gy {s:bQ} (ho:s.ok) (x:Operand):(s.val x).wf s.H s.N:=by
 cases x with
 | tmp t=>exact ho.tm t
 | const v=>
  simp only [bQ.val]
  unfold cst
  split<;>simp [TA.wf,iw]
 | func f=>simp [bQ.val,TA.wf,iw]
 | global g=>simp [bQ.val,TA.wf]
end Go.Proofs.YtljfmaaadnoggaaGreatDoor.cX
