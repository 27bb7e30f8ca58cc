/- What one operation does to an abstract state; the steps of memory. No condition. -/
import Derived.Test.YtjkbbdldmdajkaaGreatDoorVA
set_option linter.unusedSimpArgs false
set_option linter.unusedVariables false
namespace Go.Proofs.YtjkbbdldmdajkaaGreatDoor.c_
open Go Go.RowKit
variable {w w' xh:World} {F F' Bn O O' vW:Nat→Prop} {μ bD lF:Nat→Nat} {K K' EB:Nat→Prop} {H H' H'':Hp} {ft bY:Nat→Nat→Prop} {P:Program}
def iU (w:World) (F:Nat→Prop) (μ:Nat→Nat) (K:Nat→Prop) (l:List AV) (vs:List Value):Prop:=
 l.length=vs.length∧∀ i,i < l.length→VR w F μ K (l.getD i .top) (vs.getD i undef)
theorem iU.step {l:List AV} {vs:List Value} (hv:iU w F μ K l vs) (hr:HR w F O μ K H ft) (h:Fr w F O μ K w' F' O' bD) (hK:∀ id,K id→K' id):iU w' F' bD K' l vs:=
 ⟨hv.1,fun i hi=>(hv.2 i hi).step hr h hK⟩
theorem iU.nil:iU w F μ K [] []:=⟨rfl,fun i h=>by cases h⟩
theorem iU.cons {x:AV} {v:Value} {l:List AV} {vs:List Value} (h:VR w F μ K x v) (hs:iU w F μ K l vs):iU w F μ K (x::l) (v::vs):=
 ⟨by simp [hs.1],fun i hi=>by
  cases i with
  | zero=>simpa using h
  | succ i=>simpa using hs.2 i (by simpa using hi)⟩
theorem iU.adW {x:AV} {v:Value} {l:List AV} {vs:List Value} (h:iU w F μ K (x::l) (v::vs)):VR w F μ K x v∧iU w F μ K l vs:=
 ⟨by simpa using h.2 0 (by simp),by simpa using h.1,fun i hi=>by simpa using h.2 (i+1) (by simpa using hi)⟩
theorem iU.iJ {vs:List Value} (h:iU w F μ K [] vs):vs=[]:=List.length_eq_zero_iff.1 h.1.symm
theorem iU.cons_inv {x:AV} {l:List AV} {vs:List Value} (h:iU w F μ K (x::l) vs):∃ v r,vs=v::r∧VR w F μ K x v∧iU w F μ K l r:=by
 cases vs with
 | nil=>exact absurd h.1 (by simp)
 | cons v r=>exact ⟨v,r,rfl,h.adW⟩
theorem iU.app {l m:List AV} {vs us:List Value} (h:iU w F μ K l vs) (h':iU w F μ K m us):iU w F μ K (l++m) (vs++us):=by
 induction l generalizing vs with
 | nil=>rw [h.iJ];exact h'
 | cons x l ih=>
  obtain ⟨v,r,rfl,h1,h2⟩:=h.cons_inv;exact .cons h1 (ih h2)
theorem VR.dd {k:IntKind} {n:Int} {v:Value} (h:VR w F μ K (.int k n) v):v=.int k n:=by cases h;rfl
theorem VR.fe {b:Bool} {v:Value} (h:VR w F μ K (.bool b) v):v=.bool b:=by cases h;rfl
theorem VR.jF {s:List UInt8} {v:Value} (h:VR w F μ K (.str s) v):v=.string ⟨⟨s⟩⟩:=by cases h;rfl
theorem VR.qa {v:Value} (h:VR w F μ K .fA v):v=.slice none 0 0:=by cases h;rfl
theorem VR.IY {u v:Value} (h:VR w F μ K (.lit u) v):v=u:=by cases h;rfl
theorem VR.aac {a:AV} {c:Bool} {v:Value} (h:VR w F μ K (.wh c a) v) (hc:c=true):VR w F μ K a v:=by cases h with | wh _ _ _ h=>exact h hc
theorem VR.fS {cs:List AV} {v:Value} (h:VR w F μ K (.agg cs) v):∃ vs:List Value,v=.agg ⟨vs⟩∧iU w F μ K cs vs:=by
 cases h with | agg _ vs hl hv=>exact ⟨vs,rfl,hl,hv⟩
theorem VR.IZ {cs:List AV} {v:Value} (h:VR w F μ K (.nO cs) v):∃ vs:List Value,v=.tuple ⟨vs⟩∧iU w F μ K cs vs:=by
 cases h with | nO _ vs hl hv=>exact ⟨vs,rfl,hl,hv⟩
theorem VR.Cn {t:TypeId} {b:AV} {v:Value} (h:VR w F μ K (.pJ t b) v):∃ u,v=.iface t u∧VR w F μ K b u:=by
 cases h with | pJ _ _ u h=>exact ⟨u,rfl,h⟩
theorem VR.Ko {f:Fn} {xs ys:List AV} {v:Value} (h:VR w F μ K (.fn f xs ys) v):∃ vs us,v=.func f ⟨vs⟩ ⟨us⟩∧iU w F μ K xs vs∧iU w F μ K ys us:=by
 cases h with | fn _ _ _ vs us h h' hv hu=>exact ⟨vs,us,rfl,⟨h,hv⟩,h',hu⟩
theorem VR.rO {cs:List AV} {vs:List Value} (h:iU w F μ K cs vs):VR w F μ K (.agg cs) (.agg ⟨vs⟩):=.agg cs vs h.1 h.2
theorem VR.Lr {cs:List AV} {vs:List Value} (h:iU w F μ K cs vs):VR w F μ K (.nO cs) (.tuple ⟨vs⟩):=.nO cs vs h.1 h.2
theorem VR.aad {f:Fn} {xs ys:List AV} {vs us:List Value} (h:iU w F μ K xs vs) (h':iU w F μ K ys us):VR w F μ K (.fn f xs ys) (.func f ⟨vs⟩ ⟨us⟩):=.fn f xs ys vs us h.1 h'.1 h.2 h'.2
def ee (s:fU) (x:Operand) (a:AV):Prop:=∀ {w F O μ K ft act},SR w F O μ K s ft act→VR w F μ K a (act.eval x)
def Pl (s:fU) (xs:List Operand) (l:List AV):Prop:=∀ {w F O μ K ft act},SR w F O μ K s ft act→iU w F μ K l (xs.map act.eval)
theorem Pl.nil {s:fU}:Pl s [] []:=fun _=>.nil
theorem Pl.cons {s:fU} {x:Operand} {a:AV} {xs:List Operand} {l:List AV} (h:ee s x a) (h':Pl s xs l):Pl s (x::xs) (a::l):=fun hs=>.cons (h hs) (h' hs)
structure Res where
 v:AV
 up:List (Nat×Option jV)
 new:List Nat
def dr (P:Program) (o:Oper) (s:fU) (r:Res):Prop:=
 ∀ (w:World) (F O:Nat→Prop) (μ:Nat→Nat) (K:Nat→Prop) (ft:Nat→Nat→Prop) (a:Act),SR w F O μ K s ft a→(∀ id,id∈r.new→¬ K id)→∀ (Kn:Act→World→Prop) (Q:Exit→Act→World→Prop),
  (∀ v w' F' O' bD bY,VR w' F' bD (plus K r.new) r.v v→HR w' F' O' bD (plus K r.new) (s.H.dh r.up) bY→Fr w F O μ K w' F' O' bD→Kn (a.put o.dst v) w')→o.wp P a w Kn Q
def Wj (P:Program) (o:Oper) (s:fU) (r:Res):Prop:=
 ∀ (w:World) (F O:Nat→Prop) (μ:Nat→Nat) (K:Nat→Prop) (ft:Nat→Nat→Prop) (a:Act),SR w F O μ K s ft a→(∀ id,id∈r.new→¬ K id)→∀ (Kn:Act→World→Prop) (Q:Exit→Act→World→Prop),
  (∀ v w' F' O' bD bY,VR w' F' bD (plus K r.new) r.v v→HR w' F' O' bD (plus K r.new) (s.H.dh r.up) bY→Fr w F O μ K w' F' O' bD→Q (.panic [{ v,recovered:=false }]) a w')→o.wp P a w Kn Q
def ik (a b:AV):Prop:=∀ {w F μ K v},VR w F μ K a v→VR w F μ K b v
theorem ik.refl (a:AV):ik a a:=fun h=>h
theorem ik.top (a:AV):ik a .top:=fun _=>.top _
theorem ik.fA (bA:Nat) (e:Nat→Nat→AV):ik .fA (.fs bA 0 e):=fun h=>by cases h;exact .vV _ _ _ _
theorem ik.wh (c:Bool) (a:AV):ik a (.wh c a):=fun h=>.wh c a _ fun _=>h
structure XW (s' s:fU):Prop where
 nt:s'.nt=s.nt
 tm:∀ t,ik (s.tm t) (s'.tm t)
 H:Part s'.H s.H
theorem SR.less {s s':fU} {a:Act} (h:SR w F O μ K s ft a) (l:XW s' s):SR w F (LV s'.H ft) μ K s' ft a where
 hr:=h.hr.part l.H
 nt:=h.nt.trans l.nt.symm
 tm:=fun t=>l.tm t (h.tm t)
 df:=h.df.sub (fun b ⟨id,hl,hx⟩=>h.hr.own id (l.H.live hl) b hx) fun b hb=>.inl hb
theorem dr.more {o:Oper} {s s':fU} {r:Res} (h:dr P o s r) (l:XW s s'):dr P o s' r:=by
 intro w F O μ K ft a hs hn Kn Q hk;refine h w F _ μ K ft a (hs.less l) hn Kn Q fun v w' F' O' bD bY hv hr hf=>?_;obtain ⟨vW,Km,h1,h2⟩:=frame hs.hr l.H (fun id h=>.inl h) hr hf;exact hk v w' F' vW bD Km hv h1 h2
theorem Wj.more {o:Oper} {s s':fU} {r:Res} (h:Wj P o s r) (l:XW s s'):Wj P o s' r:=by
 intro w F O μ K ft a hs hn Kn Q hk;refine h w F _ μ K ft a (hs.less l) hn Kn Q fun v w' F' O' bD bY hv hr hf=>?_;obtain ⟨vW,Km,h1,h2⟩:=frame hs.hr l.H (fun id h=>.inl h) hr hf;exact hk v w' F' vW bD Km hv h1 h2
theorem dr.imp {o:Oper} {s:fU} {r:Res} {v:AV} (h:dr P o s r) (hi:ik r.v v):dr P o s { r with v:=v }:=
 fun w F O μ K ft a hs hn Kn Q hk=>h w F O μ K ft a hs hn Kn Q fun v w' F' O' bD bY hv hr hf=>hk v w' F' O' bD bY (hi hv) hr hf
theorem VR.drew {a:AV} {v:Value} (n:Nat) (h:VR w F μ K a v):VR { w with drawn:=n } F μ K a v:=
 h.mono (fun _ _=>rfl) (fun _ h=>h) (fun _ _=>rfl) (fun _ h=>h) (fun _ _=>rfl)
theorem HR.drew (n:Nat) (h:HR w F O μ K H ft):HR { w with drawn:=n } F O μ K H ft:=by
 have hb:∀ id b,H id=some b→b.fc=true→∃ o,({ w with drawn:=n }:World).heap[μ id]?=some o∧ij { w with drawn:=n } F μ K (ft id) (μ id) o b:=by
  intro id b hb hl;obtain ⟨o,ho,hB⟩:=h.dC id b hb hl;exact ⟨o,ho,hB.mono (fun _ _=>rfl) (fun _ h=>h) (fun _ _=>rfl) (fun _ h=>h) (fun _ _=>rfl) fun _ _ _=>rfl⟩
 exact ⟨h.lt,h.known,hb,h.self,h.own,h.dj,h.y9,h.wf,h.rR,h.pos.mono (Nat.le_refl _) (fun _ h=>h) fun _ _=>rfl⟩
theorem Fr.drew (n:Nat):Fr w F O μ K { w with drawn:=n } F O μ:={ Fr.refl w F O μ K with }
structure Gw (w w':World):Prop where
 os:w'.os=w.os
 tape:w'.tape=w.tape
 output:w'.output=w.output
 size:w.heap.size≤w'.heap.size
 same:∀ b,b < w.heap.size→w'.heap[b]?=w.heap[b]?
theorem Gw.refl (w:World):Gw w w:=⟨rfl,rfl,rfl,Nat.le_refl _,fun _ _=>rfl⟩
theorem Gw.trans {w1 w2 w3:World} (h:Gw w1 w2) (k:Gw w2 w3):Gw w1 w3:=
 ⟨k.os.trans h.os,k.tape.trans h.tape,k.output.trans h.output,Nat.le_trans h.size k.size,fun b hb=>(k.same b (Nat.lt_of_lt_of_le hb h.size)).trans (h.same b hb)⟩
theorem Gw.shape (h:Gw w w') {b:Nat} (hb:b < w.heap.size):w'.shape? b=w.shape? b:=by
 unfold World.shape?;rw [h.same b hb]
theorem Gw.fr (h:Gw w w'):Fr w F O μ K w' F O μ:=
 ⟨h.os,h.tape,h.output,h.size,fun _ _=>rfl,fun _ h=>h,fun _ hb=>h.shape hb,fun b hb _=>h.same b hb,fun _ h=>.inl h,fun _ h=>.inl h⟩
theorem HR.gw (hr:HR w F O μ K H ft) (h:Gw w w'):HR w' F O μ K H ft where
 lt:=fun id bZ=>Nat.lt_of_lt_of_le (hr.lt id bZ) h.size
 known:=hr.known
 dC:=fun id b hb hl=>by
  obtain ⟨o,ho,hB⟩:=hr.dC id b hb hl;refine ⟨o,by rw [h.same _ (hr.lt id (hr.known id b hb))];exact ho,hB.mono (fun x hx=>h.same x (hr.wf x hx)) (fun _ h=>h) (fun _ _=>rfl) (fun _ h=>h) (fun i hi=>h.shape (hr.lt i hi)) fun x hx _=>h.same x (hr.rR x (hr.own id ⟨b,hb,hl⟩ x hx))⟩
 self:=hr.self
 own:=hr.own
 dj:=hr.dj
 y9:=hr.y9
 wf:=fun b hb=>Nat.lt_of_lt_of_le (hr.wf b hb) h.size
 rR:=fun b hb=>Nat.lt_of_lt_of_le (hr.rR b hb) h.size
 pos:=hr.pos.mono h.size (fun _ h=>h) fun b hb=>h.same b (hr.wf b hb)
structure Kp (w w':World) (F O:Nat→Prop):Prop where
 os:w'.os=w.os
 tape:w'.tape=w.tape
 output:w'.output=w.output
 size:w.heap.size≤w'.heap.size
 LW:∀ b,F b∨O b→w'.heap[b]?=w.heap[b]?
 shape:∀ b,b < w.heap.size→w'.shape? b=w.shape? b
theorem Kp.refl (w:World) (F O:Nat→Prop):Kp w w F O:=⟨rfl,rfl,rfl,Nat.le_refl _,fun _ _=>rfl,fun _ _=>rfl⟩
theorem Kp.trans (h:Kp w w' F O) (k:Kp w' xh F O):Kp w xh F O:=
 ⟨k.os.trans h.os,k.tape.trans h.tape,k.output.trans h.output,Nat.le_trans h.size k.size,fun b hb=>(k.LW b hb).trans (h.LW b hb),fun b hb=>(k.shape b (Nat.lt_of_lt_of_le hb h.size)).trans (h.shape b hb)⟩
theorem Kp.sub (h:Kp w w' F O) (hF:∀ b,F' b→F b∨O b) (hO:∀ b,O' b→F b∨O b):Kp w w' F' O':=
 { h with LW:=fun b hb=>h.LW b (hb.elim (hF b) (hO b)) }
theorem HR.kp (hr:HR w F O μ K H ft) (h:Kp w w' F O):HR w' F O μ K H ft where
 lt:=fun id bZ=>Nat.lt_of_lt_of_le (hr.lt id bZ) h.size
 known:=hr.known
 dC:=fun id b hb hl=>by
  obtain ⟨o,ho,hB⟩:=hr.dC id b hb hl;have hU:H.live id:=⟨b,hb,hl⟩;refine ⟨o,by rw [h.LW _ (.inr (hr.own id hU _ (hr.self id hU)))];exact ho,hB.mono (fun x hx=>h.LW x (.inl hx)) (fun _ h=>h) (fun _ _=>rfl) (fun _ h=>h) (fun i hi=>h.shape _ (hr.lt i hi)) fun x hx _=>h.LW x (.inr (hr.own id hU x hx))⟩
 self:=hr.self
 own:=hr.own
 dj:=hr.dj
 y9:=hr.y9
 wf:=fun b hb=>Nat.lt_of_lt_of_le (hr.wf b hb) h.size
 rR:=fun b hb=>Nat.lt_of_lt_of_le (hr.rR b hb) h.size
 pos:=hr.pos.mono h.size (fun _ h=>h) fun b hb=>h.LW b (.inl hb)
theorem VR.kp {a:AV} {v:Value} (hv:VR w F μ K a v) (hr:HR w F O μ K H ft) (h:Kp w w' F O):VR w' F μ K a v:=
 hv.mono (fun b hb=>h.LW b (.inl hb)) (fun _ h=>h) (fun _ _=>rfl) (fun _ h=>h) fun id bZ=>h.shape _ (hr.lt id bZ)
def Ia (μ:Nat→Nat) (N B:Nat):Nat→Nat:=fun id=>if id=N then B else μ id
theorem gA (μ:Nat→Nat) (N B:Nat):Ia μ N B N=B:=by simp [Ia]
theorem I0 {μ:Nat→Nat} {N B id:Nat} (h:id≠N):Ia μ N B id=μ id:=by simp [Ia,h]
theorem XX {μ:Nat→Nat} {N B:Nat} (h:K N→μ N=B) {id:Nat} (bZ:K id):Ia μ N B id=μ id:=by
 by_cases e:id=N
 ·subst e;rw [gA];exact (h bZ).symm
 ·exact I0 e
structure tl (w w':World) (B:Nat) (o:Obj):Prop where
 os:w'.os=w.os
 tape:w'.tape=w.tape
 output:w'.output=w.output
 size:w.heap.size≤w'.heap.size
 lt:B < w'.heap.size
 at_:w'.heap[B]?=some o
 other:∀ x,x < w.heap.size→x≠B→w'.heap[x]?=w.heap[x]?
 shape:∀ x,x < w.heap.size→w'.shape? x=w.shape? x
def gF (L:List Nat):List (Nat×Option jV):=L.map fun i=>(i,none)
theorem yU (L:List Nat) (id:Nat):H.dh (gF L) id=if id∈L then none else H id:=by
 induction L with
 | nil=>simp [gF,Hp.dh]
 | cons x L ih=>
  simp only [gF,List.map_cons,Hp.dh,List.mem_cons] at ih ⊢;by_cases e:id=x
  ·simp [e]
  ·simp [e,ih]
theorem EC {M B:Nat} {o:Obj} {b:jV} {L:List Nat} {S:Nat→Prop} (hr:HR w F O μ K H ft) (hp:tl w w' B o)
  (hO:O B∨w.heap.size≤B) (hM:K M→μ M=B) (hS:∀ x,S x→x=B∨∃ id,(id=M∨id∈L)∧H.live id∧ft id x) (hSB:S B)
  (hX:∀ id,H.live id→id≠M→id ∉ L→¬ ft id B) (hB:ij w F μ K S B o b):
  HR w' F (fun x=>O x∨x=B) (Ia μ M B) (plus K [M]) (H.dh ((M,some b)::gF L)) (fun id=>if id=M then S else ft id)∧Fr w F O μ K w' F (fun x=>O x∨x=B) (Ia μ M B):=by
 have dh:∀ id,H.dh ((M,some b)::gF L) id=if id=M then some b else if id∈L then none else H id:=fun id=>by
  show (if id=M then some b else H.dh (gF L) id)=_;rw [yU]
 have ae_:¬ F B:=fun hF=>by
  rcases hO with h | h
  ·exact hr.y9 B h hF
  ·have:=hr.wf B hF;omega
 have re:∀ x,F x→w'.heap[x]?=w.heap[x]?:=fun x hx=>hp.other x (hr.wf x hx) fun e=>ae_ (e▸hx);have mu:∀ id,K id→Ia μ M B id=μ id:=fun id bZ=>XX hM bZ;have yT:∀ id,(H.dh ((M,some b)::gF L)).live id→id=M∨(id≠M∧id ∉ L∧H.live id):=by
  rintro id ⟨b',cl,hl⟩
  rw [dh] at cl;by_cases e:id=M
  ·exact .inl e
  ·rw [if_neg e] at cl;by_cases e2:id∈L
   ·rw [if_pos e2] at cl;cases cl
   ·rw [if_neg e2] at cl;exact .inr ⟨e,e2,b',cl,hl⟩
 have Ff:∀ id,H.live id→∀ x,ft id x→x≠B→w'.heap[x]?=w.heap[x]?:=fun id hl x hx e=>hp.other x (hr.rR x (hr.own id hl x hx)) e;refine ⟨{ lt:=?_,known:=?_,dC:=?_,self:=?_,own:=?_,dj:=?_,y9:=?_,wf:=?_,rR:=?_,pos:=hr.pos.mono hp.size (fun _ h=>h) re },
  { os:=hp.os,tape:=hp.tape,output:=hp.output,size:=hp.size,mu:=mu,As:=fun _ h=>h,shape:=hp.shape,same:=?_,EA:=?_,HF:=fun _ h=>.inl h }⟩
 ·rintro id (h | h)
  ·rw [mu id h];exact Nat.lt_of_lt_of_le (hr.lt id h) hp.size
  ·obtain rfl:id=M:=by simpa using h
   rw [gA];exact hp.lt
 ·intro id b' cl;rw [dh] at cl;by_cases e:id=M
  ·exact .inr (by simp [e])
  ·rw [if_neg e] at cl;split at cl
   ·cases cl
   ·exact .inl (hr.known id b' cl)
 ·intro id b' cl hl;rw [dh] at cl;by_cases e:id=M
  ·subst e;rw [if_pos rfl] at cl;cases cl;simp only [if_true,gA];refine ⟨o,hp.at_,hB.mono re (fun _ h=>h) mu (fun _ h=>.inl h) (fun id bZ=>hp.shape _ (hr.lt id bZ)) fun x hx qJ=>?_⟩;rcases hS x hx with h | ⟨b9,_,h2,h3⟩
   ·exact absurd h qJ
   ·exact Ff b9 h2 x h3 qJ
  ·rw [if_neg e] at cl;split at cl
   ·cases cl
   ·rename_i e2;simp only [if_neg e];have hU:H.live id:=⟨b',cl,hl⟩;obtain ⟨o0,ho0,hB0⟩:=hr.dC id b' cl hl;rw [mu id (hr.known id b' cl)];refine ⟨o0,by rw [Ff id hU _ (hr.self id hU) fun e3=>hX id hU e e2 (e3▸hr.self id hU)];exact ho0,hB0.mono re (fun _ h=>h) mu (fun _ h=>.inl h) (fun id bZ=>hp.shape _ (hr.lt id bZ)) fun x hx _=>?_⟩;exact Ff id hU x hx fun e3=>hX id hU e e2 (e3▸hx)
 ·intro id hl;rcases yT id hl with e | ⟨e,_,h⟩
  ·subst e;simp only [if_true,gA];exact hSB
  ·simp only [if_neg e];rw [mu id (hr.q9 h)];exact hr.self id h
 ·intro id hl x hx;rcases yT id hl with e | ⟨e,_,h⟩
  ·subst e;simp only [if_true] at hx;rcases hS x hx with h | ⟨b9,_,h2,h3⟩
   ·exact .inr h
   ·exact .inl (hr.own b9 h2 x h3)
  ·simp only [if_neg e] at hx;exact .inl (hr.own id h x hx)
 ·have cr:∀ id,id≠M→id ∉ L→H.live id→∀ x,S x→ft id x→False:=by
   intro id e e2 hl x hx lM;rcases hS x hx with h | ⟨b9,h1,h2,h3⟩
   ·exact hX id hl e e2 (h▸lM)
   ·have:=hr.dj id b9 hl h2 x lM h3;subst this;rcases h1 with h1 | h1
    ·exact e h1
    ·exact e2 h1
  intro id b9 hl Cs x hx lM;rcases yT id hl with e | ⟨e,e2,h⟩<;>rcases yT b9 Cs with k | ⟨k,k2,h'⟩
  ·rw [e,k]
  ·rw [if_pos e] at hx;rw [if_neg k] at lM;exact (cr b9 k k2 h' x hx lM).elim
  ·rw [if_neg e] at hx;rw [if_pos k] at lM;exact (cr id e e2 h x lM hx).elim
  ·rw [if_neg e] at hx;rw [if_neg k] at lM;exact hr.dj id b9 h h' x hx lM
 ·rintro x (h | h)
  ·exact hr.y9 x h
  ·exact h▸ae_
 ·exact fun x hx=>Nat.lt_of_lt_of_le (hr.wf x hx) hp.size
 ·rintro x (h | h)
  ·exact Nat.lt_of_lt_of_le (hr.rR x h) hp.size
  ·exact h▸hp.lt
 ·exact fun x hx hn=>hp.other x hx fun e=>by
   rcases hO with h | h
   ·exact hn (e▸h)
   ·omega
 ·rintro x (h | h)
  ·exact .inl h
  ·rcases hO with h2 | h2
   ·exact .inl (h▸h2)
   ·exact .inr (h▸h2)
theorem U_ {M:Nat} (h:K M):plus K [M]=K:=by
 funext id;simp only [plus,List.mem_singleton,eq_iff_iff];exact ⟨fun h'=>h'.elim (fun h=>h) fun e=>e▸h,.inl⟩
theorem ED (w:World) (o:Obj):(w.alloc o).heap[w.heap.size]?=some o:=by
 show (w.heap.push o)[_]?=_;simp
theorem Kq (w:World) (o:Obj):tl w (w.alloc o) w.heap.size o where
 os:=rfl
 tape:=rfl
 output:=rfl
 size:=by simp
 lt:=by simp
 at_:=ED w o
 other:=fun x hx _=>Below.heap_alloc _ _ _ hx
 shape:=fun x hx=>by unfold World.shape?;rw [Below.heap_alloc _ _ _ hx]
theorem Gw.alloc (w:World) (o:Obj):Gw w (w.alloc o):=
 have p:=Kq w o
 ⟨p.os,p.tape,p.output,p.size,fun b hb=>p.other b hb (Nat.ne_of_lt hb)⟩
theorem HG {N:Nat} {o:Obj} {b:jV} {L:List Nat} {S:Nat→Prop} (hr:HR w F O μ K H ft) (hN:¬ K N) (hS:∀ x,S x→x=w.heap.size∨∃ id,id∈L∧H.live id∧ft id x) (hSB:S w.heap.size)
  (hB:ij w F μ K S w.heap.size o b):
  ∃ O' bY,HR (w.alloc o) F O' (Ia μ N w.heap.size) (plus K [N]) (H.dh ((N,some b)::gF L)) bY∧Fr w F O μ K (w.alloc o) F O' (Ia μ N w.heap.size):=
 ⟨_,_,EC hr (Kq w o) (.inr (Nat.le_refl _)) (fun h=>absurd h hN) (fun x hx=>(hS x hx).imp id fun ⟨id,h1,h2⟩=>⟨id,.inr h1,h2⟩) hSB
  (fun id hl _ _ hx=>by have:=hr.rR _ (hr.own id hl _ hx);omega) hB⟩
def jQ (w:World) (b:Nat) (o:Obj):World:={ w with heap:=w.heap.setIfInBounds b o }
theorem P6 (w:World) (b:Nat) (o:Obj):(jQ w b o).heap.size=w.heap.size:=by simp [jQ]
theorem xJ {b:Nat} (h:b < w.heap.size) (o:Obj):(jQ w b o).heap[b]?=some o:=by simp [jQ,h]
theorem Nw {b k:Nat} (h:k≠b) (o:Obj):(jQ w b o).heap[k]?=w.heap[k]?:=by simp [jQ,Array.getElem?_setIfInBounds_ne (Ne.symm h)]
theorem Kr (w:World) (b:Nat) (o o':Obj):jQ (jQ w b o) b o'=jQ w b o':=by
 unfold jQ
 congr 1
 simp
theorem abM {b:Nat} {o:Obj} (h:w.heap[b]?=some o):jQ w b o=w:=by
 have dT:b < w.heap.size:=(Array.getElem?_eq_some_iff.1 h).1;have he:w.heap.setIfInBounds b o=w.heap:=by
  refine Array.ext_getElem? fun k=>?_;by_cases e:b=k
  ·subst e;rw [h];simp [dT]
  ·simp [Array.getElem?_setIfInBounds_ne e]
 unfold jQ;rw [he]
def sameShape:Obj→Obj→Prop
 | .cells c t _,.cells c' t' _=>t=t'∧c.size=c'.size
 | .cells ..,_ | _,.cells ..=>False
 | _,_=>True
theorem aae {a b:Nat} {o o':Obj} (h:w.heap[b]?=some o) (h':w'.heap[a]?=some o') (hs:sameShape o o'):w'.shape? a=w.shape? b:=by
 unfold World.shape?;rw [h,h'];cases o<;>cases o'<;>simp [sameShape] at hs ⊢;exact ⟨hs.1.symm,hs.2.symm⟩
theorem Te {b:Nat} {o o':Obj} (h:w.heap[b]?=some o) (hs:sameShape o o'):tl w (jQ w b o') b o' where
 os:=rfl
 tape:=rfl
 output:=rfl
 size:=by rw [P6];exact Nat.le_refl _
 lt:=by rw [P6];exact (Array.getElem?_eq_some_iff.1 h).1
 at_:=xJ (Array.getElem?_eq_some_iff.1 h).1 o'
 other:=fun x _ qJ=>Nw qJ o'
 shape:=fun x _=>by
  by_cases e:x=b
  ·subst e;exact aae h (xJ (Array.getElem?_eq_some_iff.1 h).1 o') hs
  ·unfold World.shape?;rw [Nw e]
theorem mo {N:Nat} {o o':Obj} {b b':jV} {L:List Nat} {S:Nat→Prop} (hr:HR w F O μ K H ft) (hb:H N=some b) (hl:b.fc=true) (ho:w.heap[μ N]?=some o) (hs:sameShape o o')
  (hNL:N ∉ L) (hS:∀ x,S x→∃ id,(id=N∨id∈L)∧H.live id∧ft id x) (hSB:S (μ N)) (hB:ij w F μ K S (μ N) o' b'):
  ∃ O' bY,HR (jQ w (μ N) o') F O' μ K (H.dh ((N,some b')::gF L)) bY∧Fr w F O μ K (jQ w (μ N) o') F O' μ:=by
 have hU:H.live N:=⟨b,hb,hl⟩;have hk:=hr.q9 hU;have e1:Ia μ N (μ N)=μ:=by
  funext id;by_cases e:id=N
  ·subst e;exact gA _ _ _
  ·exact I0 e
 have h:=EC (M:=N) (L:=L) (S:=S) hr (Te ho hs) (.inl (hr.own N hU _ (hr.self N hU))) (fun _=>rfl) (fun x hx=>.inr (hS x hx)) hSB
  (fun id h1 h2 _ h4=>h2 (hr.dj id N h1 hU _ h4 (hr.self N hU))) hB
 rw [e1,U_ hk] at h;exact ⟨_,_,h⟩
theorem XY {N M:Nat} {o o':Obj} {b b':jV} {L:List Nat} {S:Nat→Prop} (hr:HR w F O μ K H ft) (hM:¬ K M) (hb:H N=some b) (hl:b.fc=true) (ho:w.heap[μ N]?=some o) (hs:sameShape o o')
  (hS:∀ x,S x→∃ id,(id=N∨id∈L)∧H.live id∧ft id x) (hSB:S (μ N)) (hB:ij w F μ K S (μ N) o' b'):
  ∃ O' bY,HR (jQ w (μ N) o') F O' (Ia μ M (μ N)) (plus K [M]) (H.dh ((M,some b')::gF (N::L))) bY∧Fr w F O μ K (jQ w (μ N) o') F O' (Ia μ M (μ N)):=by
 have hU:H.live N:=⟨b,hb,hl⟩;exact ⟨_,_,EC (M:=M) (L:=N::L) (S:=S) hr (Te ho hs) (.inl (hr.own N hU _ (hr.self N hU))) (fun h=>absurd h hM)
  (fun x hx=>.inr (by obtain ⟨id,h1,h2⟩:=hS x hx;exact ⟨id,.inr (by simpa using h1),h2⟩)) hSB
  (fun id h1 _ h3 h4=>h3 (by rw [hr.dj id N h1 hU _ h4 (hr.self N hU)];simp)) hB⟩
theorem xK {N:Nat} {bA:Nat} {e:Nat→Nat→AV} (hr:HR w F O μ K H ft) (hN:¬ K N):
  HR w F O (Ia μ N 0) (plus K [N]) (H.dh [(N,some (.row true bA 0 e))]) ft∧Fr w F O μ K w F O (Ia μ N 0):=by
 have mu:∀ id,K id→Ia μ N 0 id=μ id:=fun id bZ=>I0 fun e=>hN (e▸bZ);have yT:∀ id b,(H.dh [(N,some (.row true bA 0 e))]) id=some b→b.fc=true→H id=some b:=by
  intro id b hb hl;rw [Hp.Cr] at hb;split at hb
  ·cases hb;cases hl
  ·exact hb
 have gG:∀ id,(H.dh [(N,some (.row true bA 0 e))]).live id→H.live id:=fun id ⟨b,hb,hl⟩=>⟨b,yT id b hb hl,hl⟩;refine ⟨{ lt:=?_,known:=?_,dC:=?_,self:=?_,own:=fun id hl=>hr.own id (gG id hl),dj:=fun id b9 hl Cs=>hr.dj id b9 (gG id hl) (gG b9 Cs),y9:=hr.y9,wf:=hr.wf,rR:=hr.rR,pos:=hr.pos },
  { Fr.refl w F O μ K with mu:=mu }⟩
 ·rintro id (h | h)
  ·rw [mu id h];exact hr.lt id h
  ·obtain rfl:id=N:=by simpa using h
   rw [gA];exact hr.pos.lt
 ·intro id b hb;rw [Hp.Cr] at hb;split at hb
  ·rename_i e;exact .inr (by simp [e])
  ·exact .inl (hr.known id b hb)
 ·intro id b hb hl;have cl:=yT id b hb hl;obtain ⟨o,ho,hB⟩:=hr.dC id b cl hl;rw [mu id (hr.known id b cl)];exact ⟨o,ho,hB.mono (fun _ _=>rfl) (fun _ h=>h) mu (fun _ h=>.inl h) (fun _ _=>rfl) fun _ _ _=>rfl⟩
 ·intro id hl;rw [mu id (hr.q9 (gG id hl))];exact hr.self id (gG id hl)
theorem EE (H:Hp) (L:List Nat):Part (H.dh (gF L)) H:=fun id=>by
 rw [yU];split
 ·exact .inl rfl
 ·exact .inr rfl
theorem b6 {o:Oper} {s:fU} {rv:AV}
  (h:∀ {w F O μ K ft a},SR w F O μ K s ft a→∃ v,(execOp a.eval o).run P w=.ok (.value v) w∧VR w F μ K rv v):dr P o s ⟨rv,[],[]⟩:=by
 intro w F O μ K ft a hs _ Kn Q hk;obtain ⟨v,hv,hr⟩:=h hs;unfold Oper.wp;rw [hv,Oper.upon_value];refine hk v w F O μ ft ?_ ?_ (Fr.refl w F O μ K)<;>simp only [jE,Hp.Rn]
 ·exact hr
 ·exact hs.hr
theorem rf {o:Oper} {s:fU} {rv:AV} {N:Nat} {b:jV}
  (h:∀ {w F O μ K ft a},SR w F O μ K s ft a→∃ v ob n,(execOp a.eval o).run P w=.ok (.value v) (({ w with drawn:=n }:World).alloc ob)∧ij w F μ K (fun x=>x=w.heap.size) w.heap.size ob b∧
   ∀ w' bD,(∀ x u,VR w F μ K x u→VR w' F bD (plus K [N]) x u)→w'.heap[w.heap.size]?=some ob→bD N=w.heap.size→VR w' F bD (plus K [N]) rv v):dr P o s ⟨rv,[(N,some b)],[N]⟩:=by
 intro w F O μ K ft a hs hn Kn Q hk;obtain ⟨v,ob,n,hv,hb,hr⟩:=h hs;have hN:¬ K N:=hn N (by simp);have IA:HR { w with drawn:=n } F O μ K s.H ft:=hs.hr.drew n;obtain ⟨O',bY,h1,h2⟩:=HG (w:={ w with drawn:=n }) (L:=[]) (S:=fun x=>x=w.heap.size) IA hN (fun x hx=>.inl hx) rfl (o:=ob) (b:=b)
  (hb.mono (fun _ _=>rfl) (fun _ h=>h) (fun _ _=>rfl) (fun _ h=>h) (fun _ _=>rfl) fun _ _ _=>rfl)
 unfold Oper.wp;rw [hv,Oper.upon_value];have h3:=(Fr.drew (w:=w) (F:=F) (O:=O) (μ:=μ) (K:=K) n).trans h2;exact hk v _ F O' _ bY (hr _ _ (fun x u hx=>hx.step hs.hr h3 fun _ h=>.inl h) (ED ({ w with drawn:=n }:World) ob) (gA _ _ _)) h1 h3
end Go.Proofs.YtjkbbdldmdajkaaGreatDoor.c_
