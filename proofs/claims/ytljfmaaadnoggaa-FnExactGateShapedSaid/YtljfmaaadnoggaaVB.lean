/- What one operation does to an abstract state; the steps of memory. No condition. -/
import Derived.Test.YtljfmaaadnoggaaVA
set_option linter.unusedSimpArgs false
set_option linter.unusedVariables false
namespace Go.Proofs.Ytljfmaaadnoggaa.Abs
open Go Go.RowKit
variable {w w' w'':World} {F F' F'' O O' O'':Nat→Prop} {μ μ' μ'':Nat→Nat} {K K' K'':Nat→Prop} {H H' H'':Hp} {ft ft':Nat→Nat→Prop} {P:Program}
def VRs (w:World) (F:Nat→Prop) (μ:Nat→Nat) (K:Nat→Prop) (l:List AV) (vs:List Value):Prop:=
 l.length=vs.length∧∀ i,i < l.length→VR w F μ K (l.getD i .top) (vs.getD i undef)
theorem VRs.step {l:List AV} {vs:List Value} (hv:VRs w F μ K l vs) (hr:HR w F O μ K H ft) (h:Fr w F O μ K w' F' O' μ') (hK:∀ id,K id→K' id):VRs w' F' μ' K' l vs:=
 ⟨hv.1,fun i hi=>(hv.2 i hi).step hr h hK⟩
theorem VRs.nil:VRs w F μ K [] []:=⟨rfl,fun i h=>by cases h⟩
theorem VRs.cons {x:AV} {v:Value} {l:List AV} {vs:List Value} (h:VR w F μ K x v) (hs:VRs w F μ K l vs):VRs w F μ K (x::l) (v::vs):=
 ⟨by simp [hs.1],fun i hi=>by
  cases i with
  | zero=>simpa using h
  | succ i=>simpa using hs.2 i (by simpa using hi)⟩
theorem VRs.uncons {x:AV} {v:Value} {l:List AV} {vs:List Value} (h:VRs w F μ K (x::l) (v::vs)):VR w F μ K x v∧VRs w F μ K l vs:=
 ⟨by simpa using h.2 0 (by simp),by simpa using h.1,fun i hi=>by simpa using h.2 (i+1) (by simpa using hi)⟩
theorem VRs.nil_inv {vs:List Value} (h:VRs w F μ K [] vs):vs=[]:=List.length_eq_zero_iff.1 h.1.symm
theorem VRs.cons_inv {x:AV} {l:List AV} {vs:List Value} (h:VRs w F μ K (x::l) vs):∃ v r,vs=v::r∧VR w F μ K x v∧VRs w F μ K l r:=by
 cases vs with
 | nil=>exact absurd h.1 (by simp)
 | cons v r=>exact ⟨v,r,rfl,h.uncons⟩
theorem VRs.app {l m:List AV} {vs us:List Value} (h:VRs w F μ K l vs) (h':VRs w F μ K m us):VRs w F μ K (l++m) (vs++us):=by
 induction l generalizing vs with
 | nil=>rw [h.nil_inv];exact h'
 | cons x l ih=>
  obtain ⟨v,r,rfl,h1,h2⟩:=h.cons_inv
  exact .cons h1 (ih h2)
theorem VR.int_inv {k:IntKind} {n:Int} {v:Value} (h:VR w F μ K (.int k n) v):v=.int k n:=by cases h;rfl
theorem VR.bool_inv {b:Bool} {v:Value} (h:VR w F μ K (.bool b) v):v=.bool b:=by cases h;rfl
theorem VR.str_inv {s:List UInt8} {v:Value} (h:VR w F μ K (.str s) v):v=.string ⟨⟨s⟩⟩:=by cases h;rfl
theorem VR.nils_inv {v:Value} (h:VR w F μ K .nils v):v=.slice none 0 0:=by cases h;rfl
theorem VR.lit_inv {u v:Value} (h:VR w F μ K (.lit u) v):v=u:=by cases h;rfl
theorem VR.wh_inv {a:AV} {c:Bool} {v:Value} (h:VR w F μ K (.wh c a) v) (hc:c=true):VR w F μ K a v:=by cases h with | wh _ _ _ h=>exact h hc
theorem VR.agg_inv {cs:List AV} {v:Value} (h:VR w F μ K (.agg cs) v):∃ vs:List Value,v=.agg ⟨vs⟩∧VRs w F μ K cs vs:=by
 cases h with | agg _ vs hl hv=>exact ⟨vs,rfl,hl,hv⟩
theorem VR.tup_inv {cs:List AV} {v:Value} (h:VR w F μ K (.tup cs) v):∃ vs:List Value,v=.tuple ⟨vs⟩∧VRs w F μ K cs vs:=by
 cases h with | tup _ vs hl hv=>exact ⟨vs,rfl,hl,hv⟩
theorem VR.ifc_inv {t:TypeId} {b:AV} {v:Value} (h:VR w F μ K (.ifc t b) v):∃ u,v=.iface t u∧VR w F μ K b u:=by
 cases h with | ifc _ _ u h=>exact ⟨u,rfl,h⟩
theorem VR.fn_inv {f:Fn} {xs ys:List AV} {v:Value} (h:VR w F μ K (.fn f xs ys) v):∃ vs us,v=.func f ⟨vs⟩ ⟨us⟩∧VRs w F μ K xs vs∧VRs w F μ K ys us:=by
 cases h with | fn _ _ _ vs us h h' hv hu=>exact ⟨vs,us,rfl,⟨h,hv⟩,h',hu⟩
theorem VR.mkAgg {cs:List AV} {vs:List Value} (h:VRs w F μ K cs vs):VR w F μ K (.agg cs) (.agg ⟨vs⟩):=.agg cs vs h.1 h.2
theorem VR.mkTup {cs:List AV} {vs:List Value} (h:VRs w F μ K cs vs):VR w F μ K (.tup cs) (.tuple ⟨vs⟩):=.tup cs vs h.1 h.2
theorem VR.mkFn {f:Fn} {xs ys:List AV} {vs us:List Value} (h:VRs w F μ K xs vs) (h':VRs w F μ K ys us):VR w F μ K (.fn f xs ys) (.func f ⟨vs⟩ ⟨us⟩):=.fn f xs ys vs us h.1 h'.1 h.2 h'.2
def Opd (s:SSt) (x:Operand) (a:AV):Prop:=∀ {w F O μ K ft act},SR w F O μ K s ft act→VR w F μ K a (act.eval x)
def Opds (s:SSt) (xs:List Operand) (l:List AV):Prop:=∀ {w F O μ K ft act},SR w F O μ K s ft act→VRs w F μ K l (xs.map act.eval)
theorem Opds.nil {s:SSt}:Opds s [] []:=fun _=>.nil
theorem Opds.cons {s:SSt} {x:Operand} {a:AV} {xs:List Operand} {l:List AV} (h:Opd s x a) (h':Opds s xs l):Opds s (x::xs) (a::l):=fun hs=>.cons (h hs) (h' hs)
structure Res where
 v:AV
 up:List (Nat×Option Blk)
 new:List Nat
def OpOk (P:Program) (o:Oper) (s:SSt) (r:Res):Prop:=
 ∀ (w:World) (F O:Nat→Prop) (μ:Nat→Nat) (K:Nat→Prop) (ft:Nat→Nat→Prop) (a:Act),SR w F O μ K s ft a→(∀ id,id∈r.new→¬ K id)→∀ (Kn:Act→World→Prop) (Q:Exit→Act→World→Prop),
  (∀ v w' F' O' μ' ft',VR w' F' μ' (plus K r.new) r.v v→HR w' F' O' μ' (plus K r.new) (s.H.upd r.up) ft'→Fr w F O μ K w' F' O' μ'→Kn (a.put o.dst v) w')→o.wp P a w Kn Q
def OpPan (P:Program) (o:Oper) (s:SSt) (r:Res):Prop:=
 ∀ (w:World) (F O:Nat→Prop) (μ:Nat→Nat) (K:Nat→Prop) (ft:Nat→Nat→Prop) (a:Act),SR w F O μ K s ft a→(∀ id,id∈r.new→¬ K id)→∀ (Kn:Act→World→Prop) (Q:Exit→Act→World→Prop),
  (∀ v w' F' O' μ' ft',VR w' F' μ' (plus K r.new) r.v v→HR w' F' O' μ' (plus K r.new) (s.H.upd r.up) ft'→Fr w F O μ K w' F' O' μ'→Q (.panic [{ v,recovered:=false }]) a w')→o.wp P a w Kn Q
def Imp (a b:AV):Prop:=∀ {w F μ K v},VR w F μ K a v→VR w F μ K b v
theorem Imp.refl (a:AV):Imp a a:=fun h=>h
theorem Imp.top (a:AV):Imp a .top:=fun _=>.top _
theorem Imp.nils (esz:Nat) (e:Nat→Nat→AV):Imp .nils (.fs esz 0 e):=fun h=>by cases h;exact .fsnil _ _ _ _
theorem Imp.wh (c:Bool) (a:AV):Imp a (.wh c a):=fun h=>.wh c a _ fun _=>h
structure Less (s' s:SSt):Prop where
 nt:s'.nt=s.nt
 tm:∀ t,Imp (s.tm t) (s'.tm t)
 H:Part s'.H s.H
theorem SR.less {s s':SSt} {a:Act} (h:SR w F O μ K s ft a) (l:Less s' s):SR w F (foot s'.H ft) μ K s' ft a where
 hr:=h.hr.part l.H
 nt:=h.nt.trans l.nt.symm
 tm:=fun t=>l.tm t (h.tm t)
 df:=h.df.sub (fun b ⟨id,hl,hx⟩=>h.hr.own id (l.H.live hl) b hx) fun b hb=>.inl hb
theorem OpOk.more {o:Oper} {s s':SSt} {r:Res} (h:OpOk P o s r) (l:Less s s'):OpOk P o s' r:=by
 intro w F O μ K ft a hs hn Kn Q hk
 refine h w F _ μ K ft a (hs.less l) hn Kn Q fun v w' F' O' μ' ft' hv hr hf=>?_
 obtain ⟨O'',ft'',h1,h2⟩:=frame hs.hr l.H (fun id h=>.inl h) hr hf
 exact hk v w' F' O'' μ' ft'' hv h1 h2
theorem OpPan.more {o:Oper} {s s':SSt} {r:Res} (h:OpPan P o s r) (l:Less s s'):OpPan P o s' r:=by
 intro w F O μ K ft a hs hn Kn Q hk
 refine h w F _ μ K ft a (hs.less l) hn Kn Q fun v w' F' O' μ' ft' hv hr hf=>?_
 obtain ⟨O'',ft'',h1,h2⟩:=frame hs.hr l.H (fun id h=>.inl h) hr hf
 exact hk v w' F' O'' μ' ft'' hv h1 h2
theorem OpOk.imp {o:Oper} {s:SSt} {r:Res} {v:AV} (h:OpOk P o s r) (hi:Imp r.v v):OpOk P o s { r with v:=v }:=
 fun w F O μ K ft a hs hn Kn Q hk=>h w F O μ K ft a hs hn Kn Q fun v w' F' O' μ' ft' hv hr hf=>hk v w' F' O' μ' ft' (hi hv) hr hf
theorem VR.drew {a:AV} {v:Value} (n:Nat) (h:VR w F μ K a v):VR { w with drawn:=n } F μ K a v:=
 h.mono (fun _ _=>rfl) (fun _ h=>h) (fun _ _=>rfl) (fun _ h=>h) (fun _ _=>rfl)
theorem HR.drew (n:Nat) (h:HR w F O μ K H ft):HR { w with drawn:=n } F O μ K H ft:=by
 have hb:∀ id b,H id=some b→b.lies=true→∃ o,({ w with drawn:=n }:World).heap[μ id]?=some o∧BlkR { w with drawn:=n } F μ K (ft id) (μ id) o b:=by
  intro id b hb hl
  obtain ⟨o,ho,hB⟩:=h.blk id b hb hl
  exact ⟨o,ho,hB.mono (fun _ _=>rfl) (fun _ h=>h) (fun _ _=>rfl) (fun _ h=>h) (fun _ _=>rfl) fun _ _ _=>rfl⟩
 exact ⟨h.lt,h.known,hb,h.self,h.own,h.dj,h.nof,h.wf,h.owf,h.pos.mono (Nat.le_refl _) (fun _ h=>h) fun _ _=>rfl⟩
theorem Fr.drew (n:Nat):Fr w F O μ K { w with drawn:=n } F O μ:={ Fr.refl w F O μ K with }
structure Gw (w w':World):Prop where
 os:w'.os=w.os
 tape:w'.tape=w.tape
 output:w'.output=w.output
 size:w.heap.size≤w'.heap.size
 same:∀ b,b < w.heap.size→w'.heap[b]?=w.heap[b]?
theorem Gw.refl (w:World):Gw w w:=⟨rfl,rfl,rfl,Nat.le_refl _,fun _ _=>rfl⟩
theorem Gw.trans {w1 w2 w3:World} (h:Gw w1 w2) (k:Gw w2 w3):Gw w1 w3:=
 ⟨k.os.trans h.os,k.tape.trans h.tape,k.output.trans h.output,Nat.le_trans h.size k.size,fun b hb=>(k.same b (Nat.lt_of_lt_of_le hb h.size)).trans (h.same b hb)⟩
theorem Gw.shape (h:Gw w w') {b:Nat} (hb:b < w.heap.size):w'.shape? b=w.shape? b:=by
 unfold World.shape?
 rw [h.same b hb]
theorem Gw.fr (h:Gw w w'):Fr w F O μ K w' F O μ:=
 ⟨h.os,h.tape,h.output,h.size,fun _ _=>rfl,fun _ h=>h,fun _ hb=>h.shape hb,fun b hb _=>h.same b hb,fun _ h=>.inl h,fun _ h=>.inl h⟩
theorem HR.gw (hr:HR w F O μ K H ft) (h:Gw w w'):HR w' F O μ K H ft where
 lt:=fun id hid=>Nat.lt_of_lt_of_le (hr.lt id hid) h.size
 known:=hr.known
 blk:=fun id b hb hl=>by
  obtain ⟨o,ho,hB⟩:=hr.blk id b hb hl
  refine ⟨o,by rw [h.same _ (hr.lt id (hr.known id b hb))];exact ho,hB.mono (fun x hx=>h.same x (hr.wf x hx)) (fun _ h=>h) (fun _ _=>rfl) (fun _ h=>h) (fun i hi=>h.shape (hr.lt i hi)) fun x hx _=>h.same x (hr.owf x (hr.own id ⟨b,hb,hl⟩ x hx))⟩
 self:=hr.self
 own:=hr.own
 dj:=hr.dj
 nof:=hr.nof
 wf:=fun b hb=>Nat.lt_of_lt_of_le (hr.wf b hb) h.size
 owf:=fun b hb=>Nat.lt_of_lt_of_le (hr.owf b hb) h.size
 pos:=hr.pos.mono h.size (fun _ h=>h) fun b hb=>h.same b (hr.wf b hb)
structure Kp (w w':World) (F O:Nat→Prop):Prop where
 os:w'.os=w.os
 tape:w'.tape=w.tape
 output:w'.output=w.output
 size:w.heap.size≤w'.heap.size
 keep:∀ b,F b∨O b→w'.heap[b]?=w.heap[b]?
 shape:∀ b,b < w.heap.size→w'.shape? b=w.shape? b
theorem Kp.refl (w:World) (F O:Nat→Prop):Kp w w F O:=⟨rfl,rfl,rfl,Nat.le_refl _,fun _ _=>rfl,fun _ _=>rfl⟩
theorem Kp.trans (h:Kp w w' F O) (k:Kp w' w'' F O):Kp w w'' F O:=
 ⟨k.os.trans h.os,k.tape.trans h.tape,k.output.trans h.output,Nat.le_trans h.size k.size,fun b hb=>(k.keep b hb).trans (h.keep b hb),fun b hb=>(k.shape b (Nat.lt_of_lt_of_le hb h.size)).trans (h.shape b hb)⟩
theorem Kp.sub (h:Kp w w' F O) (hF:∀ b,F' b→F b∨O b) (hO:∀ b,O' b→F b∨O b):Kp w w' F' O':=
 { h with keep:=fun b hb=>h.keep b (hb.elim (hF b) (hO b)) }
theorem HR.kp (hr:HR w F O μ K H ft) (h:Kp w w' F O):HR w' F O μ K H ft where
 lt:=fun id hid=>Nat.lt_of_lt_of_le (hr.lt id hid) h.size
 known:=hr.known
 blk:=fun id b hb hl=>by
  obtain ⟨o,ho,hB⟩:=hr.blk id b hb hl
  have hlv:H.live id:=⟨b,hb,hl⟩
  refine ⟨o,by rw [h.keep _ (.inr (hr.own id hlv _ (hr.self id hlv)))];exact ho,hB.mono (fun x hx=>h.keep x (.inl hx)) (fun _ h=>h) (fun _ _=>rfl) (fun _ h=>h) (fun i hi=>h.shape _ (hr.lt i hi)) fun x hx _=>h.keep x (.inr (hr.own id hlv x hx))⟩
 self:=hr.self
 own:=hr.own
 dj:=hr.dj
 nof:=hr.nof
 wf:=fun b hb=>Nat.lt_of_lt_of_le (hr.wf b hb) h.size
 owf:=fun b hb=>Nat.lt_of_lt_of_le (hr.owf b hb) h.size
 pos:=hr.pos.mono h.size (fun _ h=>h) fun b hb=>h.keep b (.inl hb)
theorem VR.kp {a:AV} {v:Value} (hv:VR w F μ K a v) (hr:HR w F O μ K H ft) (h:Kp w w' F O):VR w' F μ K a v:=
 hv.mono (fun b hb=>h.keep b (.inl hb)) (fun _ h=>h) (fun _ _=>rfl) (fun _ h=>h) fun id hid=>h.shape _ (hr.lt id hid)
def mu1 (μ:Nat→Nat) (N B:Nat):Nat→Nat:=fun id=>if id=N then B else μ id
theorem mu1_new (μ:Nat→Nat) (N B:Nat):mu1 μ N B N=B:=by simp [mu1]
theorem mu1_old {μ:Nat→Nat} {N B id:Nat} (h:id≠N):mu1 μ N B id=μ id:=by simp [mu1,h]
theorem mu1_known {μ:Nat→Nat} {N B:Nat} (h:K N→μ N=B) {id:Nat} (hid:K id):mu1 μ N B id=μ id:=by
 by_cases e:id=N
 ·subst e;rw [mu1_new];exact (h hid).symm
 ·exact mu1_old e
structure Put (w w':World) (B:Nat) (o:Obj):Prop where
 os:w'.os=w.os
 tape:w'.tape=w.tape
 output:w'.output=w.output
 size:w.heap.size≤w'.heap.size
 lt:B < w'.heap.size
 at_:w'.heap[B]?=some o
 other:∀ x,x < w.heap.size→x≠B→w'.heap[x]?=w.heap[x]?
 shape:∀ x,x < w.heap.size→w'.shape? x=w.shape? x
def strike (L:List Nat):List (Nat×Option Blk):=L.map fun i=>(i,none)
theorem strike_upd (L:List Nat) (id:Nat):H.upd (strike L) id=if id∈L then none else H id:=by
 induction L with
 | nil=>simp [strike,Hp.upd]
 | cons x L ih=>
  simp only [strike,List.map_cons,Hp.upd,List.mem_cons] at ih ⊢
  by_cases e:id=x
  ·simp [e]
  ·simp [e,ih]
theorem put_step {M B:Nat} {o:Obj} {b:Blk} {L:List Nat} {S:Nat→Prop} (hr:HR w F O μ K H ft) (hp:Put w w' B o)
  (hO:O B∨w.heap.size≤B) (hM:K M→μ M=B) (hS:∀ x,S x→x=B∨∃ id,(id=M∨id∈L)∧H.live id∧ft id x) (hSB:S B)
  (hX:∀ id,H.live id→id≠M→id ∉ L→¬ ft id B) (hB:BlkR w F μ K S B o b):
  HR w' F (fun x=>O x∨x=B) (mu1 μ M B) (plus K [M]) (H.upd ((M,some b)::strike L)) (fun id=>if id=M then S else ft id)∧Fr w F O μ K w' F (fun x=>O x∨x=B) (mu1 μ M B):=by
 have upd:∀ id,H.upd ((M,some b)::strike L) id=if id=M then some b else if id∈L then none else H id:=fun id=>by
  show (if id=M then some b else H.upd (strike L) id)=_
  rw [strike_upd]
 have notF:¬ F B:=fun hF=>by
  rcases hO with h | h
  ·exact hr.nof B h hF
  ·have:=hr.wf B hF;omega
 have frz:∀ x,F x→w'.heap[x]?=w.heap[x]?:=fun x hx=>hp.other x (hr.wf x hx) fun e=>notF (e▸hx)
 have mu:∀ id,K id→mu1 μ M B id=μ id:=fun id hid=>mu1_known hM hid
 have cases':∀ id,(H.upd ((M,some b)::strike L)).live id→id=M∨(id≠M∧id ∉ L∧H.live id):=by
  rintro id ⟨b',hb',hl⟩
  rw [upd] at hb'
  by_cases e:id=M
  ·exact .inl e
  ·rw [if_neg e] at hb'
   by_cases e2:id∈L
   ·rw [if_pos e2] at hb';cases hb'
   ·rw [if_neg e2] at hb'
    exact .inr ⟨e,e2,b',hb',hl⟩
 have old:∀ id,H.live id→∀ x,ft id x→x≠B→w'.heap[x]?=w.heap[x]?:=fun id hl x hx e=>hp.other x (hr.owf x (hr.own id hl x hx)) e
 refine ⟨{ lt:=?_,known:=?_,blk:=?_,self:=?_,own:=?_,dj:=?_,nof:=?_,wf:=?_,owf:=?_,pos:=hr.pos.mono hp.size (fun _ h=>h) frz },
  { os:=hp.os,tape:=hp.tape,output:=hp.output,size:=hp.size,mu:=mu,froz:=fun _ h=>h,shape:=hp.shape,same:=?_,onew:=?_,fnew:=fun _ h=>.inl h }⟩
 ·rintro id (h | h)
  ·rw [mu id h];exact Nat.lt_of_lt_of_le (hr.lt id h) hp.size
  ·obtain rfl:id=M:=by simpa using h
   rw [mu1_new];exact hp.lt
 ·intro id b' hb'
  rw [upd] at hb'
  by_cases e:id=M
  ·exact .inr (by simp [e])
  ·rw [if_neg e] at hb'
   split at hb'
   ·cases hb'
   ·exact .inl (hr.known id b' hb')
 ·intro id b' hb' hl
  rw [upd] at hb'
  by_cases e:id=M
  ·subst e
   rw [if_pos rfl] at hb'
   cases hb'
   simp only [if_true,mu1_new]
   refine ⟨o,hp.at_,hB.mono frz (fun _ h=>h) mu (fun _ h=>.inl h) (fun id hid=>hp.shape _ (hr.lt id hid)) fun x hx hne=>?_⟩
   rcases hS x hx with h | ⟨id',_,h2,h3⟩
   ·exact absurd h hne
   ·exact old id' h2 x h3 hne
  ·rw [if_neg e] at hb'
   split at hb'
   ·cases hb'
   ·rename_i e2
    simp only [if_neg e]
    have hlv:H.live id:=⟨b',hb',hl⟩
    obtain ⟨o0,ho0,hB0⟩:=hr.blk id b' hb' hl
    rw [mu id (hr.known id b' hb')]
    refine ⟨o0,by rw [old id hlv _ (hr.self id hlv) fun e3=>hX id hlv e e2 (e3▸hr.self id hlv)];exact ho0,hB0.mono frz (fun _ h=>h) mu (fun _ h=>.inl h) (fun id hid=>hp.shape _ (hr.lt id hid)) fun x hx _=>?_⟩
    exact old id hlv x hx fun e3=>hX id hlv e e2 (e3▸hx)
 ·intro id hl
  rcases cases' id hl with e | ⟨e,_,h⟩
  ·subst e;simp only [if_true,mu1_new];exact hSB
  ·simp only [if_neg e];rw [mu id (hr.live_known h)];exact hr.self id h
 ·intro id hl x hx
  rcases cases' id hl with e | ⟨e,_,h⟩
  ·subst e
   simp only [if_true] at hx
   rcases hS x hx with h | ⟨id',_,h2,h3⟩
   ·exact .inr h
   ·exact .inl (hr.own id' h2 x h3)
  ·simp only [if_neg e] at hx
   exact .inl (hr.own id h x hx)
 ·have cr:∀ id,id≠M→id ∉ L→H.live id→∀ x,S x→ft id x→False:=by
   intro id e e2 hl x hx hx'
   rcases hS x hx with h | ⟨id',h1,h2,h3⟩
   ·exact hX id hl e e2 (h▸hx')
   ·have:=hr.dj id id' hl h2 x hx' h3
    subst this
    rcases h1 with h1 | h1
    ·exact e h1
    ·exact e2 h1
  intro id id' hl hl' x hx hx'
  rcases cases' id hl with e | ⟨e,e2,h⟩<;>rcases cases' id' hl' with k | ⟨k,k2,h'⟩
  ·rw [e,k]
  ·rw [if_pos e] at hx;rw [if_neg k] at hx'
   exact (cr id' k k2 h' x hx hx').elim
  ·rw [if_neg e] at hx;rw [if_pos k] at hx'
   exact (cr id e e2 h x hx' hx).elim
  ·rw [if_neg e] at hx;rw [if_neg k] at hx'
   exact hr.dj id id' h h' x hx hx'
 ·rintro x (h | h)
  ·exact hr.nof x h
  ·exact h▸notF
 ·exact fun x hx=>Nat.lt_of_lt_of_le (hr.wf x hx) hp.size
 ·rintro x (h | h)
  ·exact Nat.lt_of_lt_of_le (hr.owf x h) hp.size
  ·exact h▸hp.lt
 ·exact fun x hx hn=>hp.other x hx fun e=>by
   rcases hO with h | h
   ·exact hn (e▸h)
   ·omega
 ·rintro x (h | h)
  ·exact .inl h
  ·rcases hO with h2 | h2
   ·exact .inl (h▸h2)
   ·exact .inr (h▸h2)
theorem plus_known {M:Nat} (h:K M):plus K [M]=K:=by
 funext id
 simp only [plus,List.mem_singleton,eq_iff_iff]
 exact ⟨fun h'=>h'.elim (fun h=>h) fun e=>e▸h,.inl⟩
theorem heap_new (w:World) (o:Obj):(w.alloc o).heap[w.heap.size]?=some o:=by
 show (w.heap.push o)[_]?=_
 simp
theorem put_alloc (w:World) (o:Obj):Put w (w.alloc o) w.heap.size o where
 os:=rfl
 tape:=rfl
 output:=rfl
 size:=by simp
 lt:=by simp
 at_:=heap_new w o
 other:=fun x hx _=>Below.heap_alloc _ _ _ hx
 shape:=fun x hx=>by unfold World.shape?;rw [Below.heap_alloc _ _ _ hx]
theorem Gw.alloc (w:World) (o:Obj):Gw w (w.alloc o):=
 have p:=put_alloc w o
 ⟨p.os,p.tape,p.output,p.size,fun b hb=>p.other b hb (Nat.ne_of_lt hb)⟩
theorem alloc_step {N:Nat} {o:Obj} {b:Blk} {L:List Nat} {S:Nat→Prop} (hr:HR w F O μ K H ft) (hN:¬ K N) (hS:∀ x,S x→x=w.heap.size∨∃ id,id∈L∧H.live id∧ft id x) (hSB:S w.heap.size)
  (hB:BlkR w F μ K S w.heap.size o b):
  ∃ O' ft',HR (w.alloc o) F O' (mu1 μ N w.heap.size) (plus K [N]) (H.upd ((N,some b)::strike L)) ft'∧Fr w F O μ K (w.alloc o) F O' (mu1 μ N w.heap.size):=
 ⟨_,_,put_step hr (put_alloc w o) (.inr (Nat.le_refl _)) (fun h=>absurd h hN) (fun x hx=>(hS x hx).imp id fun ⟨id,h1,h2⟩=>⟨id,.inr h1,h2⟩) hSB
  (fun id hl _ _ hx=>by have:=hr.owf _ (hr.own id hl _ hx);omega) hB⟩
def wput (w:World) (b:Nat) (o:Obj):World:={ w with heap:=w.heap.setIfInBounds b o }
theorem wput_size (w:World) (b:Nat) (o:Obj):(wput w b o).heap.size=w.heap.size:=by simp [wput]
theorem wput_same {b:Nat} (h:b < w.heap.size) (o:Obj):(wput w b o).heap[b]?=some o:=by simp [wput,h]
theorem wput_other {b k:Nat} (h:k≠b) (o:Obj):(wput w b o).heap[k]?=w.heap[k]?:=by simp [wput,Array.getElem?_setIfInBounds_ne (Ne.symm h)]
theorem wput_wput (w:World) (b:Nat) (o o':Obj):wput (wput w b o) b o'=wput w b o':=by
 unfold wput
 congr 1
 simp
theorem wput_id {b:Nat} {o:Obj} (h:w.heap[b]?=some o):wput w b o=w:=by
 have hlt:b < w.heap.size:=(Array.getElem?_eq_some_iff.1 h).1
 have he:w.heap.setIfInBounds b o=w.heap:=by
  refine Array.ext_getElem? fun k=>?_
  by_cases e:b=k
  ·subst e;rw [h];simp [hlt]
  ·simp [Array.getElem?_setIfInBounds_ne e]
 unfold wput
 rw [he]
def sameShape:Obj→Obj→Prop
 | .cells c t _,.cells c' t' _=>t=t'∧c.size=c'.size
 | .cells ..,_ | _,.cells ..=>False
 | _,_=>True
theorem shape_of {a b:Nat} {o o':Obj} (h:w.heap[b]?=some o) (h':w'.heap[a]?=some o') (hs:sameShape o o'):w'.shape? a=w.shape? b:=by
 unfold World.shape?
 rw [h,h']
 cases o<;>cases o'<;>simp [sameShape] at hs ⊢
 exact ⟨hs.1.symm,hs.2.symm⟩
theorem put_wput {b:Nat} {o o':Obj} (h:w.heap[b]?=some o) (hs:sameShape o o'):Put w (wput w b o') b o' where
 os:=rfl
 tape:=rfl
 output:=rfl
 size:=by rw [wput_size];exact Nat.le_refl _
 lt:=by rw [wput_size];exact (Array.getElem?_eq_some_iff.1 h).1
 at_:=wput_same (Array.getElem?_eq_some_iff.1 h).1 o'
 other:=fun x _ hne=>wput_other hne o'
 shape:=fun x _=>by
  by_cases e:x=b
  ·subst e
   exact shape_of h (wput_same (Array.getElem?_eq_some_iff.1 h).1 o') hs
  ·unfold World.shape?
   rw [wput_other e]
theorem write_step {N:Nat} {o o':Obj} {b b':Blk} {L:List Nat} {S:Nat→Prop} (hr:HR w F O μ K H ft) (hb:H N=some b) (hl:b.lies=true) (ho:w.heap[μ N]?=some o) (hs:sameShape o o')
  (hNL:N ∉ L) (hS:∀ x,S x→∃ id,(id=N∨id∈L)∧H.live id∧ft id x) (hSB:S (μ N)) (hB:BlkR w F μ K S (μ N) o' b'):
  ∃ O' ft',HR (wput w (μ N) o') F O' μ K (H.upd ((N,some b')::strike L)) ft'∧Fr w F O μ K (wput w (μ N) o') F O' μ:=by
 have hlv:H.live N:=⟨b,hb,hl⟩
 have hk:=hr.live_known hlv
 have e1:mu1 μ N (μ N)=μ:=by
  funext id
  by_cases e:id=N
  ·subst e;exact mu1_new _ _ _
  ·exact mu1_old e
 have h:=put_step (M:=N) (L:=L) (S:=S) hr (put_wput ho hs) (.inl (hr.own N hlv _ (hr.self N hlv))) (fun _=>rfl) (fun x hx=>.inr (hS x hx)) hSB
  (fun id h1 h2 _ h4=>h2 (hr.dj id N h1 hlv _ h4 (hr.self N hlv))) hB
 rw [e1,plus_known hk] at h
 exact ⟨_,_,h⟩
theorem grow_step {N M:Nat} {o o':Obj} {b b':Blk} {L:List Nat} {S:Nat→Prop} (hr:HR w F O μ K H ft) (hM:¬ K M) (hb:H N=some b) (hl:b.lies=true) (ho:w.heap[μ N]?=some o) (hs:sameShape o o')
  (hS:∀ x,S x→∃ id,(id=N∨id∈L)∧H.live id∧ft id x) (hSB:S (μ N)) (hB:BlkR w F μ K S (μ N) o' b'):
  ∃ O' ft',HR (wput w (μ N) o') F O' (mu1 μ M (μ N)) (plus K [M]) (H.upd ((M,some b')::strike (N::L))) ft'∧Fr w F O μ K (wput w (μ N) o') F O' (mu1 μ M (μ N)):=by
 have hlv:H.live N:=⟨b,hb,hl⟩
 exact ⟨_,_,put_step (M:=M) (L:=N::L) (S:=S) hr (put_wput ho hs) (.inl (hr.own N hlv _ (hr.self N hlv))) (fun h=>absurd h hM)
  (fun x hx=>.inr (by obtain ⟨id,h1,h2⟩:=hS x hx;exact ⟨id,.inr (by simpa using h1),h2⟩)) hSB
  (fun id h1 _ h3 h4=>h3 (by rw [hr.dj id N h1 hlv _ h4 (hr.self N hlv)];simp)) hB⟩
theorem virt_step {N:Nat} {esz:Nat} {e:Nat→Nat→AV} (hr:HR w F O μ K H ft) (hN:¬ K N):
  HR w F O (mu1 μ N 0) (plus K [N]) (H.upd [(N,some (.row true esz 0 e))]) ft∧Fr w F O μ K w F O (mu1 μ N 0):=by
 have mu:∀ id,K id→mu1 μ N 0 id=μ id:=fun id hid=>mu1_old fun e=>hN (e▸hid)
 have cases':∀ id b,(H.upd [(N,some (.row true esz 0 e))]) id=some b→b.lies=true→H id=some b:=by
  intro id b hb hl
  rw [Hp.upd_one] at hb
  split at hb
  ·cases hb;cases hl
  ·exact hb
 have casesL:∀ id,(H.upd [(N,some (.row true esz 0 e))]).live id→H.live id:=fun id ⟨b,hb,hl⟩=>⟨b,cases' id b hb hl,hl⟩
 refine ⟨{ lt:=?_,known:=?_,blk:=?_,self:=?_,own:=fun id hl=>hr.own id (casesL id hl),dj:=fun id id' hl hl'=>hr.dj id id' (casesL id hl) (casesL id' hl'),nof:=hr.nof,wf:=hr.wf,owf:=hr.owf,pos:=hr.pos },
  { Fr.refl w F O μ K with mu:=mu }⟩
 ·rintro id (h | h)
  ·rw [mu id h];exact hr.lt id h
  ·obtain rfl:id=N:=by simpa using h
   rw [mu1_new];exact hr.pos.lt
 ·intro id b hb
  rw [Hp.upd_one] at hb
  split at hb
  ·rename_i e;exact .inr (by simp [e])
  ·exact .inl (hr.known id b hb)
 ·intro id b hb hl
  have hb':=cases' id b hb hl
  obtain ⟨o,ho,hB⟩:=hr.blk id b hb' hl
  rw [mu id (hr.known id b hb')]
  exact ⟨o,ho,hB.mono (fun _ _=>rfl) (fun _ h=>h) mu (fun _ h=>.inl h) (fun _ _=>rfl) fun _ _ _=>rfl⟩
 ·intro id hl
  rw [mu id (hr.live_known (casesL id hl))]
  exact hr.self id (casesL id hl)
theorem part_strike (H:Hp) (L:List Nat):Part (H.upd (strike L)) H:=fun id=>by
 rw [strike_upd]
 split
 ·exact .inl rfl
 ·exact .inr rfl
theorem opok_value {o:Oper} {s:SSt} {rv:AV}
  (h:∀ {w F O μ K ft a},SR w F O μ K s ft a→∃ v,(execOp a.eval o).run P w=.ok (.value v) w∧VR w F μ K rv v):OpOk P o s ⟨rv,[],[]⟩:=by
 intro w F O μ K ft a hs _ Kn Q hk
 obtain ⟨v,hv,hr⟩:=h hs
 unfold Oper.wp
 rw [hv,Oper.upon_value]
 refine hk v w F O μ ft ?_ ?_ (Fr.refl w F O μ K)<;>simp only [plus_nil,Hp.upd_nil]
 ·exact hr
 ·exact hs.hr
theorem opok_alloc {o:Oper} {s:SSt} {rv:AV} {N:Nat} {b:Blk}
  (h:∀ {w F O μ K ft a},SR w F O μ K s ft a→∃ v ob n,(execOp a.eval o).run P w=.ok (.value v) (({ w with drawn:=n }:World).alloc ob)∧BlkR w F μ K (fun x=>x=w.heap.size) w.heap.size ob b∧
   ∀ w' μ',(∀ x u,VR w F μ K x u→VR w' F μ' (plus K [N]) x u)→w'.heap[w.heap.size]?=some ob→μ' N=w.heap.size→VR w' F μ' (plus K [N]) rv v):OpOk P o s ⟨rv,[(N,some b)],[N]⟩:=by
 intro w F O μ K ft a hs hn Kn Q hk
 obtain ⟨v,ob,n,hv,hb,hr⟩:=h hs
 have hN:¬ K N:=hn N (by simp)
 have hs':HR { w with drawn:=n } F O μ K s.H ft:=hs.hr.drew n
 obtain ⟨O',ft',h1,h2⟩:=alloc_step (w:={ w with drawn:=n }) (L:=[]) (S:=fun x=>x=w.heap.size) hs' hN (fun x hx=>.inl hx) rfl (o:=ob) (b:=b)
  (hb.mono (fun _ _=>rfl) (fun _ h=>h) (fun _ _=>rfl) (fun _ h=>h) (fun _ _=>rfl) fun _ _ _=>rfl)
 unfold Oper.wp
 rw [hv,Oper.upon_value]
 have h3:=(Fr.drew (w:=w) (F:=F) (O:=O) (μ:=μ) (K:=K) n).trans h2
 exact hk v _ F O' _ ft' (hr _ _ (fun x u hx=>hx.step hs.hr h3 fun _ h=>.inl h) (heap_new ({ w with drawn:=n }:World) ob) (mu1_new _ _ _)) h1 h3
end Go.Proofs.Ytljfmaaadnoggaa.Abs
