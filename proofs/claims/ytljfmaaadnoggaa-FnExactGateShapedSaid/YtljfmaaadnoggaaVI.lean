/- What an operation leaves of a typed state: the bridge to the operations' lemmas. No condition. -/
import Derived.Test.YtljfmaaadnoggaaVH
set_option linter.unusedSimpArgs false
set_option linter.unusedVariables false
namespace Go.Proofs.Ytljfmaaadnoggaa.Abs
open Go Go.RowKit
variable {w w' w'':World} {F F' F'' O O' O'':Nat→Prop} {μ μ' μ'':Nat→Nat} {K K' K'':Nat→Prop} {ft ft':Nat→Nat→Prop} {P:Program}
theorem cst_av (H:List (Nat×TBlk)) (v:Value):(cst v).av H=ofV v:=by
 unfold cst ofV
 split<;>simp [TA.av,dav,avL]
def Sub (H H':List (Nat×TBlk)) (N:Nat):Prop:=∀ id,id < N→shp (lookH H' id)=shp (lookH H id)
theorem Sub.refl (H:List (Nat×TBlk)) (N:Nat):Sub H H N:=fun _ _=>rfl
mutual
theorem av_sub {H H':List (Nat×TBlk)} {N N':Nat} (h:Sub H H' N) (hN:N≤N'):∀ (a:TA),a.wf H N→a.av H'=a.av H∧a.wf H' N'
 | .ow id,hw=>by
  simp only [TA.wf] at hw
  exact ⟨by simp only [TA.av,h id hw],by simp only [TA.wf];omega⟩
 | .rp id i off,hw=>by
  simp only [TA.wf] at hw
  exact ⟨by simp only [TA.av,h id hw.1],by simp only [TA.wf,h id hw.1];exact ⟨by omega,hw.2⟩⟩
 | .agg cs,hw=>by
  simp only [TA.wf] at hw
  have k:=avL_sub h hN cs hw
  exact ⟨by simp only [TA.av,k.1],by simp only [TA.wf];exact k.2⟩
 | .tup cs,hw=>by
  simp only [TA.wf] at hw
  have k:=avL_sub h hN cs hw
  exact ⟨by simp only [TA.av,k.1],by simp only [TA.wf];exact k.2⟩
 | .ifc t a,hw=>by
  simp only [TA.wf] at hw
  have k:=av_sub h hN a hw
  exact ⟨by simp only [TA.av,k.1],by simp only [TA.wf];exact k.2⟩
 | .fn f xs ys,hw=>by
  simp only [TA.wf] at hw
  have k1:=avL_sub h hN xs hw.1
  have k2:=avL_sub h hN ys hw.2
  exact ⟨by simp only [TA.av,k1.1,k2.1],by simp only [TA.wf];exact ⟨k1.2,k2.2⟩⟩
 | .top,_=>⟨by simp only [TA.av],by simp only [TA.wf]⟩
 | .lit v,_=>⟨by simp only [TA.av],by simp only [TA.wf]⟩
 | .d x,_=>⟨by simp only [TA.av],by simp only [TA.wf]⟩
 | .nils,_=>⟨by simp only [TA.av],by simp only [TA.wf]⟩
 | .fp t x off,_=>⟨by simp only [TA.av],by simp only [TA.wf]⟩
 | .bs id n esz,_=>⟨by simp only [TA.av],by simp only [TA.wf]⟩
 | .bp id off,_=>⟨by simp only [TA.av],by simp only [TA.wf]⟩
 | .mp id,_=>⟨by simp only [TA.av],by simp only [TA.wf]⟩
theorem avL_sub {H H':List (Nat×TBlk)} {N N':Nat} (h:Sub H H' N) (hN:N≤N'):∀ (l:List TA),wfL H N l→avL H' l=avL H l∧wfL H' N' l
 | [],_=>⟨by simp only [avL],by simp only [wfL]⟩
 | a::r,hw=>by
  simp only [wfL] at hw
  have k1:=av_sub h hN a hw.1
  have k2:=avL_sub h hN r hw.2
  exact ⟨by simp only [avL,k1.1,k2.1],by simp only [wfL];exact ⟨k1.2,k2.2⟩⟩
end
def BImp (b b':Blk):Prop:=(b'.lies=true→b.lies=true)∧∀ {w F μ K S n o},BlkR w F μ K S n o b→BlkR w F μ K S n o b'
theorem BImp.refl (b:Blk):BImp b b:=⟨fun h=>h,fun h=>h⟩
theorem bimp_box {l m:List AV} (hl:l.length=m.length) (h:∀ k,k < m.length→Imp (l.getD k .top) (m.getD k .top)):BImp (.box l) (.box m):=
 ⟨fun _=>rfl,fun ⟨cs,t,h1,h2,h3,h4⟩=>⟨cs,t,h1,h2,hl▸h3,fun j hj=>h j hj (h4 j (hl▸hj))⟩⟩
theorem avL_length (H:List (Nat×TBlk)) (l:List TA):(avL H l).length=l.length:=by rw [avL_map];simp
theorem avL_getD (H:List (Nat×TBlk)) (l:List TA) (k:Nat) (hk:k < l.length):(avL H l).getD k .top=(l.getD k .top).av H:=by
 rw [avL_map];simp [List.getD,hk]
theorem getD_wf {H:List (Nat×TBlk)} {N:Nat} {l:List TA} (h:wfL H N l) (k:Nat):(l.getD k .top).wf H N:=by
 by_cases hk:k < l.length
 ·exact wfL_iff.1 h _ (by simp [List.getD,hk])
 ·have:l.getD k .top=.top:=by simp [List.getD,Nat.le_of_not_lt hk]
  rw [this];simp only [TA.wf]
theorem holOf_mem:∀ {l:List (Nat×Nat)} {j id:Nat},holOf l j=some id→(j,id)∈l
 | [],_,_,h=>by cases h
 | (i,x)::r,j,id,h=>by
  simp only [holOf] at h
  split at h
  ·rename_i e
   cases h
   rw [Nat.eq_of_beq_eq_true e];simp
  ·exact List.mem_cons_of_mem _ (holOf_mem h)
theorem blk_sub {H H':List (Nat×TBlk)} {N:Nat} (h:Sub H H' N) {b:TBlk} (hw:wfL H N b.refs):b.blk H'=b.blk H:=by
 cases b with
 | row t v xs=>rfl
 | hid x=>rfl
 | dmap i l=>rfl
 | fmap t l=>rfl
 | box l=>simp only [TBlk.blk,(avL_sub h (Nat.le_refl _) l hw).1]
 | hrow t v xs i os=>
  simp only [TBlk.blk]
  congr 1
  funext i' j
  simp only [hcells]
  split
  ·cases q:holOf os j with
   | none=>rfl
   | some id=>exact (av_sub h (Nat.le_refl _) _ (wfL_iff.1 hw _ (List.mem_map.2 ⟨_,holOf_mem q,rfl⟩))).1
  ·rfl
theorem nbeq_ne {a b:Nat} (h:¬ a=b):Nat.beq a b=false:=by
 cases e:Nat.beq a b with
 | false=>rfl
 | true=>exact absurd (Nat.eq_of_beq_eq_true e) h
theorem lookH_upd (H:List (Nat×TBlk)) (id:Nat):∀ up:List (Nat×Option TBlk),(∃ p,up.find? (fun p=>Nat.beq id p.1)=some p∧((∃ b,p.2=some b∧lookH (updH H up) id=some b)∨(p.2=none∧∃ x,lookH (updH H up) id=some (.hid x))))∨
  (up.find? (fun p=>Nat.beq id p.1)=none∧lookH (updH H up) id=lookH H id)
 | []=>.inr ⟨rfl,rfl⟩
 | (i,none)::r=>by
  simp only [updH,lookH,List.find?_cons]
  cases e:Nat.beq id i with
  | true=>exact .inl ⟨_,rfl,.inr ⟨rfl,_,rfl⟩⟩
  | false=>exact lookH_upd H id r
 | (i,some b)::r=>by
  simp only [updH,lookH,List.find?_cons]
  cases e:Nat.beq id i with
  | true=>exact .inl ⟨_,rfl,.inl ⟨b,rfl,rfl⟩⟩
  | false=>exact lookH_upd H id r
theorem shp_strike (H:List (Nat×TBlk)) (id:Nat):∀ L:List Nat,shp (lookH (updH H (L.map fun i=>(i,none))) id)=shp (lookH H id)
 | []=>rfl
 | i::r=>by
  simp only [List.map_cons,updH,lookH]
  cases e:Nat.beq id i with
  | true=>rw [Nat.eq_of_beq_eq_true e];simp only [shp];exact shp_strike H i r
  | false=>exact shp_strike H id r
theorem look_strike (H:List (Nat×TBlk)) (id:Nat):∀ L:List Nat,(id∈L∧∃ x,lookH (updH H (L.map fun i=>(i,none))) id=some (.hid x))∨(id ∉ L∧lookH (updH H (L.map fun i=>(i,none))) id=lookH H id)
 | []=>.inr ⟨by simp,rfl⟩
 | i::r=>by
  simp only [List.map_cons,updH,lookH]
  cases e:Nat.beq id i with
  | true=>exact .inl ⟨by simp [Nat.eq_of_beq_eq_true e],_,rfl⟩
  | false=>
   have hne:=Nat.ne_of_beq_eq_false e
   rcases look_strike H id r with ⟨h1,h2⟩ | ⟨h1,h2⟩
   ·exact .inl ⟨by simp [h1],h2⟩
   ·exact .inr ⟨by simp [h1,hne],h2⟩
theorem sub_put {H:List (Nat×TBlk)} {N id0:Nat} {b:TBlk} {L:List Nat} (h:id0 < N→shp (some b)=shp (lookH H id0)):Sub H (updH H ((id0,some b)::L.map fun i=>(i,none))) N:=fun id hid=>by
 simp only [updH,lookH]
 cases e:Nat.beq id id0 with
 | true=>
  have:=Nat.eq_of_beq_eq_true e
  subst this
  exact h hid
 | false=>exact shp_strike H id L
structure TRes where
 v:TA
 up:List (Nat×Option TBlk)
 k:Nat
def TSt.next (s:TSt) (r:TRes):TSt:=⟨s.nt,s.N+r.k,s.tm,updH s.H r.up⟩
def TSt.put (s:TSt) (d:Option Nat) (v:TA):TSt:=match d with
 | some t=>{ s with tm:=(t,v)::s.tm }
 | none=>s
def TOk (P:Program) (o:Oper) (s:TSt) (r:TRes):Prop:=
 ∃ rv upA,OpOk P o s.st ⟨rv,upA,List.range' s.N r.k⟩∧Imp rv (r.v.av (s.next r).H)∧(∀ id,id∈upA.map (·.1)→id∈r.up.map (·.1))∧∀ id b',hpT (s.next r).H id=some b'→∃ b,(s.st.H.upd upA) id=some b∧BImp b b'
def TPan (P:Program) (o:Oper) (s:TSt) (r:TRes):Prop:=
 ∃ rv upA,OpPan P o s.st ⟨rv,upA,List.range' s.N r.k⟩∧Imp rv (r.v.av (s.next r).H)∧(∀ id,id∈upA.map (·.1)→id∈r.up.map (·.1))∧∀ id b',hpT (s.next r).H id=some b'→∃ b,(s.st.H.upd upA) id=some b∧BImp b b'
structure TGood (s:TSt) (r:TRes):Prop where
 sub:Sub s.H (s.next r).H s.N
 v:r.v.wf (s.next r).H (s.N+r.k)
 box:∀ id b,(id,some b)∈r.up→wfL (s.next r).H (s.N+r.k) (TBlk.refs b)
theorem HR.imp {H H':Hp} (hr:HR w F O μ K H ft) (h:∀ id b',H' id=some b'→∃ b,H id=some b∧BImp b b'):HR w F O μ K H' ft:=by
 have lv:∀ id,H'.live id→H.live id:=fun id ⟨b',hb',hl⟩=>by
  obtain ⟨b,h1,h2⟩:=h id b' hb'
  exact ⟨b,h1,h2.1 hl⟩
 refine { lt:=hr.lt,known:=fun id b' hb'=>?_,blk:=fun id b' hb' hl=>?_,self:=fun id hl=>hr.self id (lv id hl),own:=fun id hl=>hr.own id (lv id hl),dj:=fun id id' hl hl'=>hr.dj id id' (lv id hl) (lv id' hl'),nof:=hr.nof,wf:=hr.wf,owf:=hr.owf,pos:=hr.pos }
 ·obtain ⟨b,h1,_⟩:=h id b' hb'
  exact hr.known id b h1
 ·obtain ⟨b,h1,h2⟩:=h id b' hb'
  obtain ⟨o,ho,hB⟩:=hr.blk id b h1 (h2.1 hl)
  exact ⟨o,ho,h2.2 hB⟩
theorem tok_run {o:Oper} {s:TSt} {r:TRes} (h:TOk P o s r) {a:Act} (hs:SR w F O μ (below s.N) s.st ft a) {Kn:Act→World→Prop} {Q:Exit→Act→World→Prop}
  (hk:∀ v w' F' O' μ' ft',VR w' F' μ' (below (s.N+r.k)) (r.v.av (s.next r).H) v→HR w' F' O' μ' (below (s.N+r.k)) (s.next r).st.H ft'→Fr w F O μ (below s.N) w' F' O' μ'→Kn (a.put o.dst v) w'):o.wp P a w Kn Q:=by
 obtain ⟨rv,upA,h,hv,_,hH⟩:=h
 refine h w F O μ (below s.N) ft a hs (fun id hid=>?_) Kn Q fun v w' F' O' μ' ft' k1 k2 k3=>?_
 ·simp only [List.mem_range'_1] at hid
  simp only [below];omega
 ·simp only [below_plus] at k1 k2
  exact hk v w' F' O' μ' ft' (hv k1) (k2.imp hH) k3
theorem tpan_run {o:Oper} {s:TSt} {r:TRes} (h:TPan P o s r) {a:Act} (hs:SR w F O μ (below s.N) s.st ft a) {Kn:Act→World→Prop} {Q:Exit→Act→World→Prop}
  (hk:∀ v w' F' O' μ' ft',VR w' F' μ' (below (s.N+r.k)) (r.v.av (s.next r).H) v→HR w' F' O' μ' (below (s.N+r.k)) (s.next r).st.H ft'→Fr w F O μ (below s.N) w' F' O' μ'→Q (.panic [{ v,recovered:=false }]) a w'):o.wp P a w Kn Q:=by
 obtain ⟨rv,upA,h,hv,_,hH⟩:=h
 refine h w F O μ (below s.N) ft a hs (fun id hid=>?_) Kn Q fun v w' F' O' μ' ft' k1 k2 k3=>?_
 ·simp only [List.mem_range'_1] at hid
  simp only [below];omega
 ·simp only [below_plus] at k1 k2
  exact hk v w' F' O' μ' ft' (hv k1) (k2.imp hH) k3
theorem st_H (s:TSt):s.st.H=hpT s.H:=rfl
theorem st_at {s:TSt} {id:Nat} {b:TBlk} (h:lookH s.H id=some b) (hv:b.vis=true:=by rfl):s.st.H id=some (b.blk s.H):=hpT_of h hv
theorem tok_val {o:Oper} {s:TSt} {rv:AV} {v:TA} (h:OpOk P o s.st ⟨rv,[],[]⟩) (hv:Imp rv (v.av s.H)):TOk P o s ⟨v,[],0⟩:=
 ⟨rv,[],h,hv,(fun _ h=>h),fun id b' hb=>⟨b',hb,BImp.refl _⟩⟩
theorem good_val {s:TSt} {v:TA} (hv:v.wf s.H s.N):TGood s ⟨v,[],0⟩:=⟨Sub.refl _ _,hv,fun _ _ h=>by cases h⟩
theorem tok_put {o:Oper} {s:TSt} {rv:AV} {v:TA} {id0 k:Nat} {b:TBlk} {B:Blk} {L:List Nat} (hs:s.ok) (h:OpOk P o s.st ⟨rv,(id0,some B)::strike L,List.range' s.N k⟩)
  (hsub:Sub s.H (updH s.H ((id0,some b)::L.map fun i=>(i,none))) s.N) (hv:Imp rv (v.av (updH s.H ((id0,some b)::L.map fun i=>(i,none)))))
  (hB:BImp B (b.blk (updH s.H ((id0,some b)::L.map fun i=>(i,none))))):TOk P o s ⟨v,(id0,some b)::L.map fun i=>(i,none),k⟩:=by
 refine ⟨rv,_,h,hv,fun id hid=>by simpa [strike] using hid,fun id b' hb'=>?_⟩
 obtain ⟨c,hc,hcv,rfl⟩:=hpT_some hb'
 have hup:(s.st.H.upd ((id0,some B)::strike L)) id=if id=id0 then some B else if id∈L then none else s.st.H id:=by
  show (if id=id0 then some B else s.st.H.upd (strike L) id)=_
  rw [strike_upd]
 rw [hup]
 simp only [TSt.next,updH,lookH] at hc
 cases e:Nat.beq id id0 with
 | true=>
  rw [e] at hc
  cases hc
  rw [if_pos (Nat.eq_of_beq_eq_true e)]
  exact ⟨B,rfl,hB⟩
 | false=>
  rw [e] at hc
  rw [if_neg (Nat.ne_of_beq_eq_false e)]
  rcases look_strike s.H id L with ⟨h1,x,h2⟩ | ⟨h1,h2⟩
  ·rw [h2] at hc;cases hc;cases hcv
  ·rw [h2] at hc
   rw [if_neg h1]
   refine ⟨_,st_at hc hcv,?_⟩
   rw [show (s.next _).H=updH s.H ((id0,some b)::L.map fun i=>(i,none)) from rfl,blk_sub hsub (hs.H id _ hc)]
   exact BImp.refl _
theorem next_SR {s:TSt} {r:TRes} {a:Act} (hs:SR w F O μ (below s.N) s.st ft a) (ho:s.ok) (hg:TGood s r) (hr:HR w' F' O' μ' (below (s.N+r.k)) (s.next r).st.H ft') (hf:Fr w F O μ (below s.N) w' F' O' μ'):
  SR w' F' O' μ' (below (s.next r).N) (s.next r).st ft' a where
 hr:=hr
 nt:=hs.nt
 tm:=fun t=>by
  show VR w' F' μ' _ ((look s.tm t).av (s.next r).H) _
  rw [(av_sub hg.sub (Nat.le_refl _) _ (ho.tm t)).1]
  exact (hs.tm t).step hs.hr hf fun id (h:id < s.N)=>(by show id < s.N+r.k;omega)
 df:=hs.df.step hf
theorem next_ok {s:TSt} {r:TRes} (ho:s.ok) (hg:TGood s r):(s.next r).ok where
 tm:=fun t=>(av_sub hg.sub (Nat.le_add_right _ _) _ (ho.tm t)).2
 H:=fun id l hl=>by
  simp only [TSt.next] at hl
  rcases lookH_upd s.H id r.up with ⟨p,hp,⟨b,h1,h2⟩ | ⟨_,x,h2⟩⟩ | ⟨_,h2⟩
  ·rw [h2] at hl
   cases hl
   have h3:=List.mem_of_find?_eq_some hp
   exact hg.box p.1 _ (by rw [← h1];exact h3)
  ·rw [h2] at hl;cases hl;simp only [TBlk.refs,wfL]
  ·rw [h2] at hl
   exact (avL_sub hg.sub (Nat.le_add_right _ _) _ (ho.H id l hl)).2
theorem put_ok {s:TSt} {d:Option Nat} {v:TA} (ho:s.ok) (hv:v.wf s.H s.N):(s.put d v).ok:=by
 cases d with
 | none=>exact ho
 | some t=>
  refine ⟨fun u=>?_,ho.H⟩
  simp only [TSt.put,look]
  cases e:Nat.beq u t with
  | true=>exact hv
  | false=>exact ho.tm u
def okDst (s:TSt):Option Nat→Bool
 | some t=>t.blt s.nt
 | none=>true
theorem put_SR {s:TSt} {d:Option Nat} {v:TA} {u:Value} {a:Act} (hs:SR w F O μ K s.st ft a) (hd:okDst s d=true) (hv:VR w F μ K (v.av s.H) u):SR w F O μ K (s.put d v).st ft (a.put d u):=by
 cases d with
 | none=>exact hs
 | some t=>
  have hlt:t < s.nt:=Nat.le_of_ble_eq_true hd
  refine ⟨hs.hr,by simp only [Act.put,Array.size_setIfInBounds];exact hs.nt,fun k=>?_,hs.df⟩
  simp only [TSt.put,TSt.st,look,Act.put]
  cases e:Nat.beq k t with
  | true=>
   have e:=Nat.eq_of_beq_eq_true e
   subst e
   have:k < a.tmps.size:=by rw [hs.nt];exact hlt
   simpa [this] using hv
  | false=>
   have hne:t≠k:=fun h=>by subst h;simp at e
   have:=hs.tm k
   simp only [Array.getD_eq_getD_getElem?] at this ⊢
   rw [Array.getElem?_setIfInBounds_ne hne]
   exact this
theorem opd_val (s:TSt) (x:Operand):Opd s.st x ((s.val x).av s.H):=by
 intro w F O μ K ft act hs
 cases x with
 | tmp t=>exact hs.tm t
 | const v=>simp only [TSt.val,cst_av];exact ofV_ok v
 | func f=>simp only [TSt.val,TA.av,avL];exact .fn _ [] [] [] [] rfl rfl (fun i h=>by cases h) (fun i h=>by cases h)
 | global g=>simp only [TSt.val,TA.av];exact .top _
theorem opd_at {s:TSt} {x:Operand} {v:TA} (h:s.val x=v):Opd s.st x (v.av s.H):=h▸opd_val s x
theorem val_wf {s:TSt} (ho:s.ok) (x:Operand):(s.val x).wf s.H s.N:=by
 cases x with
 | tmp t=>exact ho.tm t
 | const v=>
  simp only [TSt.val]
  unfold cst
  split<;>simp [TA.wf,wfL]
 | func f=>simp [TSt.val,TA.wf,wfL]
 | global g=>simp [TSt.val,TA.wf]
end Go.Proofs.Ytljfmaaadnoggaa.Abs
