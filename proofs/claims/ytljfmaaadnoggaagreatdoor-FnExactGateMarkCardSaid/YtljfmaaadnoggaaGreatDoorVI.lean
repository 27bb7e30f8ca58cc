/- What an operation leaves of a typed state: the bridge to the operations' lemmas. No condition. -/
import Derived.Test.YtljfmaaadnoggaaGreatDoorVH
set_option linter.unusedSimpArgs false
set_option linter.unusedVariables false
namespace Go.Proofs.YtljfmaaadnoggaaGreatDoor.cU
open Go Go.RowKit
variable {w w' vP:World} {F F' Am O O' ux:Nat→Prop} {μ bB jV:Nat→Nat} {K K' DQ:Nat→Prop} {ft b7:Nat→Nat→Prop} {P:Program}
theorem Nf (H:List (Nat×aW)) (v:Value):(cst v).av H=VU v:=by
 unfold cst VU
 split<;>simp [TA.av,cK,dJ]
def Sub (H H':List (Nat×aW)) (N:Nat):Prop:=∀ id,id < N→fj (aR H' id)=fj (aR H id)
theorem Sub.refl (H:List (Nat×aW)) (N:Nat):Sub H H N:=fun _ _=>rfl
mutual
theorem iX {H H':List (Nat×aW)} {N N':Nat} (h:Sub H H' N) (hN:N≤N'):∀ (a:TA),a.wf H N→a.av H'=a.av H∧a.wf H' N'
 | .ow id,hw=>by
  simp only [TA.wf] at hw
  exact ⟨by simp only [TA.av,h id hw],by simp only [TA.wf];omega⟩
 | .rp id i off,hw=>by
  simp only [TA.wf] at hw
  exact ⟨by simp only [TA.av,h id hw.1],by simp only [TA.wf,h id hw.1];exact ⟨by omega,hw.2⟩⟩
 | .agg cs,hw=>by
  simp only [TA.wf] at hw
  have k:=g7 h hN cs hw
  exact ⟨by simp only [TA.av,k.1],by simp only [TA.wf];exact k.2⟩
 | .n9 cs,hw=>by
  simp only [TA.wf] at hw
  have k:=g7 h hN cs hw
  exact ⟨by simp only [TA.av,k.1],by simp only [TA.wf];exact k.2⟩
 | .nX t a,hw=>by
  simp only [TA.wf] at hw
  have k:=iX h hN a hw
  exact ⟨by simp only [TA.av,k.1],by simp only [TA.wf];exact k.2⟩
 | .fn f xs ys,hw=>by
  simp only [TA.wf] at hw
  have k1:=g7 h hN xs hw.1
  have k2:=g7 h hN ys hw.2
  exact ⟨by simp only [TA.av,k1.1,k2.1],by simp only [TA.wf];exact ⟨k1.2,k2.2⟩⟩
 | .top,_=>⟨by simp only [TA.av],by simp only [TA.wf]⟩
 | .lit v,_=>⟨by simp only [TA.av],by simp only [TA.wf]⟩
 | .d x,_=>⟨by simp only [TA.av],by simp only [TA.wf]⟩
 | .eQ,_=>⟨by simp only [TA.av],by simp only [TA.wf]⟩
 | .fp t x off,_=>⟨by simp only [TA.av],by simp only [TA.wf]⟩
 | .bs id n aZ,_=>⟨by simp only [TA.av],by simp only [TA.wf]⟩
 | .bp id off,_=>⟨by simp only [TA.av],by simp only [TA.wf]⟩
 | .mp id,_=>⟨by simp only [TA.av],by simp only [TA.wf]⟩
theorem g7 {H H':List (Nat×aW)} {N N':Nat} (h:Sub H H' N) (hN:N≤N'):∀ (l:List TA),gQ H N l→dJ H' l=dJ H l∧gQ H' N' l
 | [],_=>⟨by simp only [dJ],by simp only [gQ]⟩
 | a::r,hw=>by
  simp only [gQ] at hw
  have k1:=iX h hN a hw.1
  have k2:=g7 h hN r hw.2
  exact ⟨by simp only [dJ,k1.1,k2.1],by simp only [gQ];exact ⟨k1.2,k2.2⟩⟩
end
def eD (b b':ju):Prop:=(b'.eI=true→b.eI=true)∧∀ {w F μ K S n o},gO w F μ K S n o b→gO w F μ K S n o b'
theorem eD.refl (b:ju):eD b b:=⟨fun h=>h,fun h=>h⟩
theorem SU {l m:List AV} (hl:l.length=m.length) (h:∀ k,k < m.length→gZ (l.getD k .top) (m.getD k .top)):eD (.box l) (.box m):=
 ⟨fun _=>rfl,fun ⟨cs,t,h1,h2,h3,h4⟩=>⟨cs,t,h1,h2,hl▸h3,fun j hj=>h j hj (h4 j (hl▸hj))⟩⟩
theorem bE (H:List (Nat×aW)) (l:List TA):(dJ H l).length=l.length:=by rw [cR];simp
theorem dy (H:List (Nat×aW)) (l:List TA) (k:Nat) (hk:k < l.length):(dJ H l).getD k .top=(l.getD k .top).av H:=by
 rw [cR];simp [List.getD,hk]
theorem Bs {H:List (Nat×aW)} {N:Nat} {l:List TA} (h:gQ H N l) (k:Nat):(l.getD k .top).wf H N:=by
 by_cases hk:k < l.length
 ·exact cZ.1 h _ (by simp [List.getD,hk])
 ·have:l.getD k .top=.top:=by simp [List.getD,Nat.le_of_not_lt hk]
  rw [this];simp only [TA.wf]
theorem Kh:∀ {l:List (Nat×Nat)} {j id:Nat},su l j=some id→(j,id)∈l
 | [],_,_,h=>by cases h
 | (i,x)::r,j,id,h=>by
  simp only [su] at h
  split at h
  ·rename_i e
   cases h
   rw [Nat.eq_of_beq_eq_true e];simp
  ·exact List.mem_cons_of_mem _ (Kh h)
theorem o_ {H H':List (Nat×aW)} {N:Nat} (h:Sub H H' N) {b:aW} (hw:gQ H N b.refs):b.di H'=b.di H:=by
 cases b with
 | row t v xs=>rfl
 | bY x=>rfl
 | dmap i l=>rfl
 | SS t l=>rfl
 | box l=>simp only [aW.di,(g7 h (Nat.le_refl _) l hw).1]
 | c5 t v xs i os=>
  simp only [aW.di]
  congr 1
  funext i' j
  simp only [rF]
  split
  ·cases q:su os j with
   | none=>rfl
   | some id=>exact (iX h (Nat.le_refl _) _ (cZ.1 hw _ (List.mem_map.2 ⟨_,Kh q,rfl⟩))).1
  ·rfl
theorem ca {a b:Nat} (h:¬ a=b):Nat.beq a b=false:=by
 cases e:Nat.beq a b with
 | false=>rfl
 | true=>exact absurd (Nat.eq_of_beq_eq_true e) h
theorem Ex (H:List (Nat×aW)) (id:Nat):∀ up:List (Nat×Option aW),(∃ p,up.find? (fun p=>Nat.beq id p.1)=some p∧((∃ b,p.2=some b∧aR (cz H up) id=some b)∨(p.2=none∧∃ x,aR (cz H up) id=some (.bY x))))∨
  (up.find? (fun p=>Nat.beq id p.1)=none∧aR (cz H up) id=aR H id)
 | []=>.inr ⟨rfl,rfl⟩
 | (i,none)::r=>by
  simp only [cz,aR,List.find?_cons]
  cases e:Nat.beq id i with
  | true=>exact .inl ⟨_,rfl,.inr ⟨rfl,_,rfl⟩⟩
  | false=>exact Ex H id r
 | (i,some b)::r=>by
  simp only [cz,aR,List.find?_cons]
  cases e:Nat.beq id i with
  | true=>exact .inl ⟨_,rfl,.inl ⟨b,rfl,rfl⟩⟩
  | false=>exact Ex H id r
theorem xQ (H:List (Nat×aW)) (id:Nat):∀ L:List Nat,fj (aR (cz H (L.map fun i=>(i,none))) id)=fj (aR H id)
 | []=>rfl
 | i::r=>by
  simp only [List.map_cons,cz,aR]
  cases e:Nat.beq id i with
  | true=>rw [Nat.eq_of_beq_eq_true e];simp only [fj];exact xQ H i r
  | false=>exact xQ H id r
theorem mL (H:List (Nat×aW)) (id:Nat):∀ L:List Nat,(id∈L∧∃ x,aR (cz H (L.map fun i=>(i,none))) id=some (.bY x))∨(id ∉ L∧aR (cz H (L.map fun i=>(i,none))) id=aR H id)
 | []=>.inr ⟨by simp,rfl⟩
 | i::r=>by
  simp only [List.map_cons,cz,aR]
  cases e:Nat.beq id i with
  | true=>exact .inl ⟨by simp [Nat.eq_of_beq_eq_true e],_,rfl⟩
  | false=>
   have o8:=Nat.ne_of_beq_eq_false e
   rcases mL H id r with ⟨h1,h2⟩ | ⟨h1,h2⟩
   ·exact .inl ⟨by simp [h1],h2⟩
   ·exact .inr ⟨by simp [h1,o8],h2⟩
theorem y8 {H:List (Nat×aW)} {N p4:Nat} {b:aW} {L:List Nat} (h:p4 < N→fj (some b)=fj (aR H p4)):Sub H (cz H ((p4,some b)::L.map fun i=>(i,none))) N:=fun id bY=>by
 simp only [cz,aR]
 cases e:Nat.beq id p4 with
 | true=>
  have:=Nat.eq_of_beq_eq_true e
  subst this
  exact h bY
 | false=>exact xQ H id L
structure cC where
 v:TA
 up:List (Nat×Option aW)
 k:Nat
def bK.next (s:bK) (r:cC):bK:=⟨s.nt,s.N+r.k,s.tm,cz s.H r.up⟩
def bK.put (s:bK) (d:Option Nat) (v:TA):bK:=match d with
 | some t=>{ s with tm:=(t,v)::s.tm }
 | none=>s
def TOk (P:Program) (o:Oper) (s:bK) (r:cC):Prop:=
 ∃ rv LO,db P o s.st ⟨rv,LO,List.range' s.N r.k⟩∧gZ rv (r.v.av (s.next r).H)∧(∀ id,id∈LO.map (·.1)→id∈r.up.map (·.1))∧∀ id b',vS (s.next r).H id=some b'→∃ b,(s.st.H.c7 LO) id=some b∧eD b b'
def aer (P:Program) (o:Oper) (s:bK) (r:cC):Prop:=
 ∃ rv LO,VP P o s.st ⟨rv,LO,List.range' s.N r.k⟩∧gZ rv (r.v.av (s.next r).H)∧(∀ id,id∈LO.map (·.1)→id∈r.up.map (·.1))∧∀ id b',vS (s.next r).H id=some b'→∃ b,(s.st.H.c7 LO) id=some b∧eD b b'
structure Ng (s:bK) (r:cC):Prop where
 sub:Sub s.H (s.next r).H s.N
 v:r.v.wf (s.next r).H (s.N+r.k)
 box:∀ id b,(id,some b)∈r.up→gQ (s.next r).H (s.N+r.k) (aW.refs b)
theorem HR.imp {H H':Hp} (hr:HR w F O μ K H ft) (h:∀ id b',H' id=some b'→∃ b,H id=some b∧eD b b'):HR w F O μ K H' ft:=by
 have lv:∀ id,H'.live id→H.live id:=fun id ⟨b',cd,hl⟩=>by
  obtain ⟨b,h1,h2⟩:=h id b' cd
  exact ⟨b,h1,h2.1 hl⟩
 refine { lt:=hr.lt,known:=fun id b' cd=>?_,di:=fun id b' cd hl=>?_,self:=fun id hl=>hr.self id (lv id hl),own:=fun id hl=>hr.own id (lv id hl),dj:=fun id b9 hl Bk=>hr.dj id b9 (lv id hl) (lv b9 Bk),xW:=hr.xW,wf:=hr.wf,p0:=hr.p0,pos:=hr.pos }
 ·obtain ⟨b,h1,_⟩:=h id b' cd
  exact hr.known id b h1
 ·obtain ⟨b,h1,h2⟩:=h id b' cd
  obtain ⟨o,ho,hB⟩:=hr.di id b h1 (h2.1 hl)
  exact ⟨o,ho,h2.2 hB⟩
theorem V0 {o:Oper} {s:bK} {r:cC} (h:TOk P o s r) {a:Act} (hs:SR w F O μ (below s.N) s.st ft a) {Kn:Act→World→Prop} {Q:Exit→Act→World→Prop}
  (hk:∀ v w' F' O' bB b7,VR w' F' bB (below (s.N+r.k)) (r.v.av (s.next r).H) v→HR w' F' O' bB (below (s.N+r.k)) (s.next r).st.H b7→Fr w F O μ (below s.N) w' F' O' bB→Kn (a.put o.dst v) w'):o.wp P a w Kn Q:=by
 obtain ⟨rv,LO,h,hv,_,hH⟩:=h
 refine h w F O μ (below s.N) ft a hs (fun id bY=>?_) Kn Q fun v w' F' O' bB b7 k1 k2 k3=>?_
 ·simp only [List.mem_range'_1] at bY
  simp only [below];omega
 ·simp only [Bo] at k1 k2
  exact hk v w' F' O' bB b7 (hv k1) (k2.imp hH) k3
theorem Zt {o:Oper} {s:bK} {r:cC} (h:aer P o s r) {a:Act} (hs:SR w F O μ (below s.N) s.st ft a) {Kn:Act→World→Prop} {Q:Exit→Act→World→Prop}
  (hk:∀ v w' F' O' bB b7,VR w' F' bB (below (s.N+r.k)) (r.v.av (s.next r).H) v→HR w' F' O' bB (below (s.N+r.k)) (s.next r).st.H b7→Fr w F O μ (below s.N) w' F' O' bB→Q (.panic [{ v,recovered:=false }]) a w'):o.wp P a w Kn Q:=by
 obtain ⟨rv,LO,h,hv,_,hH⟩:=h
 refine h w F O μ (below s.N) ft a hs (fun id bY=>?_) Kn Q fun v w' F' O' bB b7 k1 k2 k3=>?_
 ·simp only [List.mem_range'_1] at bY
  simp only [below];omega
 ·simp only [Bo] at k1 k2
  exact hk v w' F' O' bB b7 (hv k1) (k2.imp hH) k3
theorem aes (s:bK):s.st.H=vS s.H:=rfl
theorem dz {s:bK} {id:Nat} {b:aW} (h:aR s.H id=some b) (hv:b.TW=true:=by rfl):s.st.H id=some (b.di s.H):=Kg h hv
theorem aaZ {o:Oper} {s:bK} {rv:AV} {v:TA} (h:db P o s.st ⟨rv,[],[]⟩) (hv:gZ rv (v.av s.H)):TOk P o s ⟨v,[],0⟩:=
 ⟨rv,[],h,hv,(fun _ h=>h),fun id b' hb=>⟨b',hb,eD.refl _⟩⟩
theorem Zu {s:bK} {v:TA} (hv:v.wf s.H s.N):Ng s ⟨v,[],0⟩:=⟨Sub.refl _ _,hv,fun _ _ h=>by cases h⟩
theorem Q6 {o:Oper} {s:bK} {rv:AV} {v:TA} {p4 k:Nat} {b:aW} {B:ju} {L:List Nat} (hs:s.ok) (h:db P o s.st ⟨rv,(p4,some B)::gx L,List.range' s.N k⟩)
  (iV:Sub s.H (cz s.H ((p4,some b)::L.map fun i=>(i,none))) s.N) (hv:gZ rv (v.av (cz s.H ((p4,some b)::L.map fun i=>(i,none)))))
  (hB:eD B (b.di (cz s.H ((p4,some b)::L.map fun i=>(i,none))))):TOk P o s ⟨v,(p4,some b)::L.map fun i=>(i,none),k⟩:=by
 refine ⟨rv,_,h,hv,fun id bY=>by simpa [gx] using bY,fun id b' cd=>?_⟩
 obtain ⟨c,hc,hcv,rfl⟩:=gP cd
 have UP:(s.st.H.c7 ((p4,some B)::gx L)) id=if id=p4 then some B else if id∈L then none else s.st.H id:=by
  show (if id=p4 then some B else s.st.H.c7 (gx L) id)=_
  rw [xM]
 rw [UP]
 simp only [bK.next,cz,aR] at hc
 cases e:Nat.beq id p4 with
 | true=>
  rw [e] at hc
  cases hc
  rw [if_pos (Nat.eq_of_beq_eq_true e)]
  exact ⟨B,rfl,hB⟩
 | false=>
  rw [e] at hc
  rw [if_neg (Nat.ne_of_beq_eq_false e)]
  rcases mL s.H id L with ⟨h1,x,h2⟩ | ⟨h1,h2⟩
  ·rw [h2] at hc;cases hc;cases hcv
  ·rw [h2] at hc
   rw [if_neg h1]
   refine ⟨_,dz hc hcv,?_⟩
   rw [show (s.next _).H=cz s.H ((p4,some b)::L.map fun i=>(i,none)) from rfl,o_ iV (hs.H id _ hc)]
   exact eD.refl _
theorem Q7 {s:bK} {r:cC} {a:Act} (hs:SR w F O μ (below s.N) s.st ft a) (ho:s.ok) (hg:Ng s r) (hr:HR w' F' O' bB (below (s.N+r.k)) (s.next r).st.H b7) (hf:Fr w F O μ (below s.N) w' F' O' bB):
  SR w' F' O' bB (below (s.next r).N) (s.next r).st b7 a where
 hr:=hr
 nt:=hs.nt
 tm:=fun t=>by
  show VR w' F' bB _ ((look s.tm t).av (s.next r).H) _
  rw [(iX hg.sub (Nat.le_refl _) _ (ho.tm t)).1]
  exact (hs.tm t).step hs.hr hf fun id (h:id < s.N)=>(by show id < s.N+r.k;omega)
 df:=hs.df.step hf
theorem IS {s:bK} {r:cC} (ho:s.ok) (hg:Ng s r):(s.next r).ok where
 tm:=fun t=>(iX hg.sub (Nat.le_add_right _ _) _ (ho.tm t)).2
 H:=fun id l hl=>by
  simp only [bK.next] at hl
  rcases Ex s.H id r.up with ⟨p,hp,⟨b,h1,h2⟩ | ⟨_,x,h2⟩⟩ | ⟨_,h2⟩
  ·rw [h2] at hl
   cases hl
   have h3:=List.mem_of_find?_eq_some hp
   exact hg.box p.1 _ (by rw [← h1];exact h3)
  ·rw [h2] at hl;cases hl;simp only [aW.refs,gQ]
  ·rw [h2] at hl
   exact (g7 hg.sub (Nat.le_add_right _ _) _ (ho.H id l hl)).2
theorem zw {s:bK} {d:Option Nat} {v:TA} (ho:s.ok) (hv:v.wf s.H s.N):(s.put d v).ok:=by
 cases d with
 | none=>exact ho
 | some t=>
  refine ⟨fun u=>?_,ho.H⟩
  simp only [bK.put,look]
  cases e:Nat.beq u t with
  | true=>exact hv
  | false=>exact ho.tm u
def nU (s:bK):Option Nat→Bool
 | some t=>t.blt s.nt
 | none=>true
theorem Hh {s:bK} {d:Option Nat} {v:TA} {u:Value} {a:Act} (hs:SR w F O μ K s.st ft a) (hd:nU s d=true) (hv:VR w F μ K (v.av s.H) u):SR w F O μ K (s.put d v).st ft (a.put d u):=by
 cases d with
 | none=>exact hs
 | some t=>
  have dL:t < s.nt:=Nat.le_of_ble_eq_true hd
  refine ⟨hs.hr,by simp only [Act.put,Array.size_setIfInBounds];exact hs.nt,fun k=>?_,hs.df⟩
  simp only [bK.put,bK.st,look,Act.put]
  cases e:Nat.beq k t with
  | true=>
   have e:=Nat.eq_of_beq_eq_true e
   subst e
   have:k < a.tmps.size:=by rw [hs.nt];exact dL
   simpa [this] using hv
  | false=>
   have o8:t≠k:=fun h=>by subst h;simp at e
   have:=hs.tm k
   simp only [Array.getD_eq_getD_getElem?] at this ⊢
   rw [Array.getElem?_setIfInBounds_ne o8]
   exact this
theorem fQ (s:bK) (x:Operand):dT s.st x ((s.val x).av s.H):=by
 intro w F O μ K ft act hs
 cases x with
 | tmp t=>exact hs.tm t
 | const v=>simp only [bK.val,Nf];exact Kd v
 | func f=>simp only [bK.val,TA.av,dJ];exact .fn _ [] [] [] [] rfl rfl (fun i h=>by cases h) (fun i h=>by cases h)
 | global g=>simp only [bK.val,TA.av];exact .top _
theorem b8 {s:bK} {x:Operand} {v:TA} (h:s.val x=v):dT s.st x (v.av s.H):=h▸fQ s x
theorem fX {s:bK} (ho:s.ok) (x:Operand):(s.val x).wf s.H s.N:=by
 cases x with
 | tmp t=>exact ho.tm t
 | const v=>
  simp only [bK.val]
  unfold cst
  split<;>simp [TA.wf,gQ]
 | func f=>simp [bK.val,TA.wf,gQ]
 | global g=>simp [bK.val,TA.wf]
end Go.Proofs.YtljfmaaadnoggaaGreatDoor.cU
