/- What one operation does to an abstract state; the steps of memory. No condition. -/
import Derived.Test.YtljfmaaadnoggaaGreatDoorVA
set_option linter.unusedSimpArgs false
set_option linter.unusedVariables false
namespace Go.Proofs.YtljfmaaadnoggaaGreatDoor.cU
open Go Go.RowKit
variable {w w' vP:World} {F F' Am O O' ux:Nat→Prop} {μ bB jV:Nat→Nat} {K K' DQ:Nat→Prop} {H H' H'':Hp} {ft b7:Nat→Nat→Prop} {P:Program}
def hP (w:World) (F:Nat→Prop) (μ:Nat→Nat) (K:Nat→Prop) (l:List AV) (vs:List Value):Prop:=
 l.length=vs.length∧∀ i,i < l.length→VR w F μ K (l.getD i .top) (vs.getD i undef)
theorem hP.step {l:List AV} {vs:List Value} (hv:hP w F μ K l vs) (hr:HR w F O μ K H ft) (h:Fr w F O μ K w' F' O' bB) (hK:∀ id,K id→K' id):hP w' F' bB K' l vs:=
 ⟨hv.1,fun i hi=>(hv.2 i hi).step hr h hK⟩
theorem hP.nil:hP w F μ K [] []:=⟨rfl,fun i h=>by cases h⟩
theorem hP.cons {x:AV} {v:Value} {l:List AV} {vs:List Value} (h:VR w F μ K x v) (hs:hP w F μ K l vs):hP w F μ K (x::l) (v::vs):=
 ⟨by simp [hs.1],fun i hi=>by
  cases i with
  | zero=>simpa using h
  | succ i=>simpa using hs.2 i (by simpa using hi)⟩
theorem hP.ac2 {x:AV} {v:Value} {l:List AV} {vs:List Value} (h:hP w F μ K (x::l) (v::vs)):VR w F μ K x v∧hP w F μ K l vs:=
 ⟨by simpa using h.2 0 (by simp),by simpa using h.1,fun i hi=>by simpa using h.2 (i+1) (by simpa using hi)⟩
theorem hP.gY {vs:List Value} (h:hP w F μ K [] vs):vs=[]:=List.length_eq_zero_iff.1 h.1.symm
theorem hP.cons_inv {x:AV} {l:List AV} {vs:List Value} (h:hP w F μ K (x::l) vs):∃ v r,vs=v::r∧VR w F μ K x v∧hP w F μ K l r:=by
 cases vs with
 | nil=>exact absurd h.1 (by simp)
 | cons v r=>exact ⟨v,r,rfl,h.ac2⟩
theorem hP.app {l m:List AV} {vs us:List Value} (h:hP w F μ K l vs) (h':hP w F μ K m us):hP w F μ K (l++m) (vs++us):=by
 induction l generalizing vs with
 | nil=>rw [h.gY];exact h'
 | cons x l ih=>
  obtain ⟨v,r,rfl,h1,h2⟩:=h.cons_inv
  exact .cons h1 (ih h2)
theorem VR.c_ {k:IntKind} {n:Int} {v:Value} (h:VR w F μ K (.int k n) v):v=.int k n:=by cases h;rfl
theorem VR.ey {b:Bool} {v:Value} (h:VR w F μ K (.bool b) v):v=.bool b:=by cases h;rfl
theorem VR.iM {s:List UInt8} {v:Value} (h:VR w F μ K (.str s) v):v=.string ⟨⟨s⟩⟩:=by cases h;rfl
theorem VR.oD {v:Value} (h:VR w F μ K .eQ v):v=.slice none 0 0:=by cases h;rfl
theorem VR.IA {u v:Value} (h:VR w F μ K (.lit u) v):v=u:=by cases h;rfl
theorem VR.Zf {a:AV} {c:Bool} {v:Value} (h:VR w F μ K (.wh c a) v) (hc:c=true):VR w F μ K a v:=by cases h with | wh _ _ _ h=>exact h hc
theorem VR.fh {cs:List AV} {v:Value} (h:VR w F μ K (.agg cs) v):∃ vs:List Value,v=.agg ⟨vs⟩∧hP w F μ K cs vs:=by
 cases h with | agg _ vs hl hv=>exact ⟨vs,rfl,hl,hv⟩
theorem VR.IB {cs:List AV} {v:Value} (h:VR w F μ K (.n9 cs) v):∃ vs:List Value,v=.tuple ⟨vs⟩∧hP w F μ K cs vs:=by
 cases h with | n9 _ vs hl hv=>exact ⟨vs,rfl,hl,hv⟩
theorem VR.Bf {t:TypeId} {b:AV} {v:Value} (h:VR w F μ K (.nX t b) v):∃ u,v=.iface t u∧VR w F μ K b u:=by
 cases h with | nX _ _ u h=>exact ⟨u,rfl,h⟩
theorem VR.J7 {f:Fn} {xs ys:List AV} {v:Value} (h:VR w F μ K (.fn f xs ys) v):∃ vs us,v=.func f ⟨vs⟩ ⟨us⟩∧hP w F μ K xs vs∧hP w F μ K ys us:=by
 cases h with | fn _ _ _ vs us h h' hv hu=>exact ⟨vs,us,rfl,⟨h,hv⟩,h',hu⟩
theorem VR.pY {cs:List AV} {vs:List Value} (h:hP w F μ K cs vs):VR w F μ K (.agg cs) (.agg ⟨vs⟩):=.agg cs vs h.1 h.2
theorem VR.Le {cs:List AV} {vs:List Value} (h:hP w F μ K cs vs):VR w F μ K (.n9 cs) (.tuple ⟨vs⟩):=.n9 cs vs h.1 h.2
theorem VR.Zg {f:Fn} {xs ys:List AV} {vs us:List Value} (h:hP w F μ K xs vs) (h':hP w F μ K ys us):VR w F μ K (.fn f xs ys) (.func f ⟨vs⟩ ⟨us⟩):=.fn f xs ys vs us h.1 h'.1 h.2 h'.2
def dT (s:fy) (x:Operand) (a:AV):Prop:=∀ {w F O μ K ft act},SR w F O μ K s ft act→VR w F μ K a (act.eval x)
def OL (s:fy) (xs:List Operand) (l:List AV):Prop:=∀ {w F O μ K ft act},SR w F O μ K s ft act→hP w F μ K l (xs.map act.eval)
theorem OL.nil {s:fy}:OL s [] []:=fun _=>.nil
theorem OL.cons {s:fy} {x:Operand} {a:AV} {xs:List Operand} {l:List AV} (h:dT s x a) (h':OL s xs l):OL s (x::xs) (a::l):=fun hs=>.cons (h hs) (h' hs)
structure Res where
 v:AV
 up:List (Nat×Option ju)
 new:List Nat
def db (P:Program) (o:Oper) (s:fy) (r:Res):Prop:=
 ∀ (w:World) (F O:Nat→Prop) (μ:Nat→Nat) (K:Nat→Prop) (ft:Nat→Nat→Prop) (a:Act),SR w F O μ K s ft a→(∀ id,id∈r.new→¬ K id)→∀ (Kn:Act→World→Prop) (Q:Exit→Act→World→Prop),
  (∀ v w' F' O' bB b7,VR w' F' bB (plus K r.new) r.v v→HR w' F' O' bB (plus K r.new) (s.H.c7 r.up) b7→Fr w F O μ K w' F' O' bB→Kn (a.put o.dst v) w')→o.wp P a w Kn Q
def VP (P:Program) (o:Oper) (s:fy) (r:Res):Prop:=
 ∀ (w:World) (F O:Nat→Prop) (μ:Nat→Nat) (K:Nat→Prop) (ft:Nat→Nat→Prop) (a:Act),SR w F O μ K s ft a→(∀ id,id∈r.new→¬ K id)→∀ (Kn:Act→World→Prop) (Q:Exit→Act→World→Prop),
  (∀ v w' F' O' bB b7,VR w' F' bB (plus K r.new) r.v v→HR w' F' O' bB (plus K r.new) (s.H.c7 r.up) b7→Fr w F O μ K w' F' O' bB→Q (.panic [{ v,recovered:=false }]) a w')→o.wp P a w Kn Q
def gZ (a b:AV):Prop:=∀ {w F μ K v},VR w F μ K a v→VR w F μ K b v
theorem gZ.refl (a:AV):gZ a a:=fun h=>h
theorem gZ.top (a:AV):gZ a .top:=fun _=>.top _
theorem gZ.eQ (aZ:Nat) (e:Nat→Nat→AV):gZ .eQ (.fs aZ 0 e):=fun h=>by cases h;exact .uw _ _ _ _
theorem gZ.wh (c:Bool) (a:AV):gZ a (.wh c a):=fun h=>.wh c a _ fun _=>h
structure Xh (s' s:fy):Prop where
 nt:s'.nt=s.nt
 tm:∀ t,gZ (s.tm t) (s'.tm t)
 H:Part s'.H s.H
theorem SR.less {s s':fy} {a:Act} (h:SR w F O μ K s ft a) (l:Xh s' s):SR w F (LG s'.H ft) μ K s' ft a where
 hr:=h.hr.part l.H
 nt:=h.nt.trans l.nt.symm
 tm:=fun t=>l.tm t (h.tm t)
 df:=h.df.sub (fun b ⟨id,hl,hx⟩=>h.hr.own id (l.H.live hl) b hx) fun b hb=>.inl hb
theorem db.more {o:Oper} {s s':fy} {r:Res} (h:db P o s r) (l:Xh s s'):db P o s' r:=by
 intro w F O μ K ft a hs hn Kn Q hk
 refine h w F _ μ K ft a (hs.less l) hn Kn Q fun v w' F' O' bB b7 hv hr hf=>?_
 obtain ⟨ux,J6,h1,h2⟩:=frame hs.hr l.H (fun id h=>.inl h) hr hf
 exact hk v w' F' ux bB J6 hv h1 h2
theorem VP.more {o:Oper} {s s':fy} {r:Res} (h:VP P o s r) (l:Xh s s'):VP P o s' r:=by
 intro w F O μ K ft a hs hn Kn Q hk
 refine h w F _ μ K ft a (hs.less l) hn Kn Q fun v w' F' O' bB b7 hv hr hf=>?_
 obtain ⟨ux,J6,h1,h2⟩:=frame hs.hr l.H (fun id h=>.inl h) hr hf
 exact hk v w' F' ux bB J6 hv h1 h2
theorem db.imp {o:Oper} {s:fy} {r:Res} {v:AV} (h:db P o s r) (hi:gZ r.v v):db P o s { r with v:=v }:=
 fun w F O μ K ft a hs hn Kn Q hk=>h w F O μ K ft a hs hn Kn Q fun v w' F' O' bB b7 hv hr hf=>hk v w' F' O' bB b7 (hi hv) hr hf
theorem VR.drew {a:AV} {v:Value} (n:Nat) (h:VR w F μ K a v):VR { w with drawn:=n } F μ K a v:=
 h.mono (fun _ _=>rfl) (fun _ h=>h) (fun _ _=>rfl) (fun _ h=>h) (fun _ _=>rfl)
theorem HR.drew (n:Nat) (h:HR w F O μ K H ft):HR { w with drawn:=n } F O μ K H ft:=by
 have hb:∀ id b,H id=some b→b.eI=true→∃ o,({ w with drawn:=n }:World).heap[μ id]?=some o∧gO { w with drawn:=n } F μ K (ft id) (μ id) o b:=by
  intro id b hb hl
  obtain ⟨o,ho,hB⟩:=h.di id b hb hl
  exact ⟨o,ho,hB.mono (fun _ _=>rfl) (fun _ h=>h) (fun _ _=>rfl) (fun _ h=>h) (fun _ _=>rfl) fun _ _ _=>rfl⟩
 exact ⟨h.lt,h.known,hb,h.self,h.own,h.dj,h.xW,h.wf,h.p0,h.pos.mono (Nat.le_refl _) (fun _ h=>h) fun _ _=>rfl⟩
theorem Fr.drew (n:Nat):Fr w F O μ K { w with drawn:=n } F O μ:={ Fr.refl w F O μ K with }
structure Gw (w w':World):Prop where
 os:w'.os=w.os
 tape:w'.tape=w.tape
 output:w'.output=w.output
 size:w.heap.size≤w'.heap.size
 same:∀ b,b < w.heap.size→w'.heap[b]?=w.heap[b]?
theorem Gw.refl (w:World):Gw w w:=⟨rfl,rfl,rfl,Nat.le_refl _,fun _ _=>rfl⟩
theorem Gw.trans {w1 w2 w3:World} (h:Gw w1 w2) (k:Gw w2 w3):Gw w1 w3:=
 ⟨k.os.trans h.os,k.tape.trans h.tape,k.output.trans h.output,Nat.le_trans h.size k.size,fun b hb=>(k.same b (Nat.lt_of_lt_of_le hb h.size)).trans (h.same b hb)⟩
theorem Gw.shape (h:Gw w w') {b:Nat} (hb:b < w.heap.size):w'.shape? b=w.shape? b:=by
 unfold World.shape?
 rw [h.same b hb]
theorem Gw.fr (h:Gw w w'):Fr w F O μ K w' F O μ:=
 ⟨h.os,h.tape,h.output,h.size,fun _ _=>rfl,fun _ h=>h,fun _ hb=>h.shape hb,fun b hb _=>h.same b hb,fun _ h=>.inl h,fun _ h=>.inl h⟩
theorem HR.gw (hr:HR w F O μ K H ft) (h:Gw w w'):HR w' F O μ K H ft where
 lt:=fun id bY=>Nat.lt_of_lt_of_le (hr.lt id bY) h.size
 known:=hr.known
 di:=fun id b hb hl=>by
  obtain ⟨o,ho,hB⟩:=hr.di id b hb hl
  refine ⟨o,by rw [h.same _ (hr.lt id (hr.known id b hb))];exact ho,hB.mono (fun x hx=>h.same x (hr.wf x hx)) (fun _ h=>h) (fun _ _=>rfl) (fun _ h=>h) (fun i hi=>h.shape (hr.lt i hi)) fun x hx _=>h.same x (hr.p0 x (hr.own id ⟨b,hb,hl⟩ x hx))⟩
 self:=hr.self
 own:=hr.own
 dj:=hr.dj
 xW:=hr.xW
 wf:=fun b hb=>Nat.lt_of_lt_of_le (hr.wf b hb) h.size
 p0:=fun b hb=>Nat.lt_of_lt_of_le (hr.p0 b hb) h.size
 pos:=hr.pos.mono h.size (fun _ h=>h) fun b hb=>h.same b (hr.wf b hb)
structure Kp (w w':World) (F O:Nat→Prop):Prop where
 os:w'.os=w.os
 tape:w'.tape=w.tape
 output:w'.output=w.output
 size:w.heap.size≤w'.heap.size
 LH:∀ b,F b∨O b→w'.heap[b]?=w.heap[b]?
 shape:∀ b,b < w.heap.size→w'.shape? b=w.shape? b
theorem Kp.refl (w:World) (F O:Nat→Prop):Kp w w F O:=⟨rfl,rfl,rfl,Nat.le_refl _,fun _ _=>rfl,fun _ _=>rfl⟩
theorem Kp.trans (h:Kp w w' F O) (k:Kp w' vP F O):Kp w vP F O:=
 ⟨k.os.trans h.os,k.tape.trans h.tape,k.output.trans h.output,Nat.le_trans h.size k.size,fun b hb=>(k.LH b hb).trans (h.LH b hb),fun b hb=>(k.shape b (Nat.lt_of_lt_of_le hb h.size)).trans (h.shape b hb)⟩
theorem Kp.sub (h:Kp w w' F O) (hF:∀ b,F' b→F b∨O b) (hO:∀ b,O' b→F b∨O b):Kp w w' F' O':=
 { h with LH:=fun b hb=>h.LH b (hb.elim (hF b) (hO b)) }
theorem HR.kp (hr:HR w F O μ K H ft) (h:Kp w w' F O):HR w' F O μ K H ft where
 lt:=fun id bY=>Nat.lt_of_lt_of_le (hr.lt id bY) h.size
 known:=hr.known
 di:=fun id b hb hl=>by
  obtain ⟨o,ho,hB⟩:=hr.di id b hb hl
  have ic:H.live id:=⟨b,hb,hl⟩
  refine ⟨o,by rw [h.LH _ (.inr (hr.own id ic _ (hr.self id ic)))];exact ho,hB.mono (fun x hx=>h.LH x (.inl hx)) (fun _ h=>h) (fun _ _=>rfl) (fun _ h=>h) (fun i hi=>h.shape _ (hr.lt i hi)) fun x hx _=>h.LH x (.inr (hr.own id ic x hx))⟩
 self:=hr.self
 own:=hr.own
 dj:=hr.dj
 xW:=hr.xW
 wf:=fun b hb=>Nat.lt_of_lt_of_le (hr.wf b hb) h.size
 p0:=fun b hb=>Nat.lt_of_lt_of_le (hr.p0 b hb) h.size
 pos:=hr.pos.mono h.size (fun _ h=>h) fun b hb=>h.LH b (.inl hb)
theorem VR.kp {a:AV} {v:Value} (hv:VR w F μ K a v) (hr:HR w F O μ K H ft) (h:Kp w w' F O):VR w' F μ K a v:=
 hv.mono (fun b hb=>h.LH b (.inl hb)) (fun _ h=>h) (fun _ _=>rfl) (fun _ h=>h) fun id bY=>h.shape _ (hr.lt id bY)
def IC (μ:Nat→Nat) (N B:Nat):Nat→Nat:=fun id=>if id=N then B else μ id
theorem g0 (μ:Nat→Nat) (N B:Nat):IC μ N B N=B:=by simp [IC]
theorem ID {μ:Nat→Nat} {N B id:Nat} (h:id≠N):IC μ N B id=μ id:=by simp [IC,h]
theorem Xi {μ:Nat→Nat} {N B:Nat} (h:K N→μ N=B) {id:Nat} (bY:K id):IC μ N B id=μ id:=by
 by_cases e:id=N
 ·subst e;rw [g0];exact (h bY).symm
 ·exact ID e
structure rN (w w':World) (B:Nat) (o:Obj):Prop where
 os:w'.os=w.os
 tape:w'.tape=w.tape
 output:w'.output=w.output
 size:w.heap.size≤w'.heap.size
 lt:B < w'.heap.size
 at_:w'.heap[B]?=some o
 other:∀ x,x < w.heap.size→x≠B→w'.heap[x]?=w.heap[x]?
 shape:∀ x,x < w.heap.size→w'.shape? x=w.shape? x
def gx (L:List Nat):List (Nat×Option ju):=L.map fun i=>(i,none)
theorem xM (L:List Nat) (id:Nat):H.c7 (gx L) id=if id∈L then none else H id:=by
 induction L with
 | nil=>simp [gx,Hp.c7]
 | cons x L ih=>
  simp only [gx,List.map_cons,Hp.c7,List.mem_cons] at ih ⊢
  by_cases e:id=x
  ·simp [e]
  ·simp [e,ih]
theorem IE {M B:Nat} {o:Obj} {b:ju} {L:List Nat} {S:Nat→Prop} (hr:HR w F O μ K H ft) (hp:rN w w' B o)
  (hO:O B∨w.heap.size≤B) (hM:K M→μ M=B) (hS:∀ x,S x→x=B∨∃ id,(id=M∨id∈L)∧H.live id∧ft id x) (hSB:S B)
  (hX:∀ id,H.live id→id≠M→id ∉ L→¬ ft id B) (hB:gO w F μ K S B o b):
  HR w' F (fun x=>O x∨x=B) (IC μ M B) (plus K [M]) (H.c7 ((M,some b)::gx L)) (fun id=>if id=M then S else ft id)∧Fr w F O μ K w' F (fun x=>O x∨x=B) (IC μ M B):=by
 have c7:∀ id,H.c7 ((M,some b)::gx L) id=if id=M then some b else if id∈L then none else H id:=fun id=>by
  show (if id=M then some b else H.c7 (gx L) id)=_
  rw [xM]
 have aeg:¬ F B:=fun hF=>by
  rcases hO with h | h
  ·exact hr.xW B h hF
  ·have:=hr.wf B hF;omega
 have pz:∀ x,F x→w'.heap[x]?=w.heap[x]?:=fun x hx=>hp.other x (hr.wf x hx) fun e=>aeg (e▸hx)
 have mu:∀ id,K id→IC μ M B id=μ id:=fun id bY=>Xi hM bY
 have xL:∀ id,(H.c7 ((M,some b)::gx L)).live id→id=M∨(id≠M∧id ∉ L∧H.live id):=by
  rintro id ⟨b',cd,hl⟩
  rw [c7] at cd
  by_cases e:id=M
  ·exact .inl e
  ·rw [if_neg e] at cd
   by_cases e2:id∈L
   ·rw [if_pos e2] at cd;cases cd
   ·rw [if_neg e2] at cd
    exact .inr ⟨e,e2,b',cd,hl⟩
 have F8:∀ id,H.live id→∀ x,ft id x→x≠B→w'.heap[x]?=w.heap[x]?:=fun id hl x hx e=>hp.other x (hr.p0 x (hr.own id hl x hx)) e
 refine ⟨{ lt:=?_,known:=?_,di:=?_,self:=?_,own:=?_,dj:=?_,xW:=?_,wf:=?_,p0:=?_,pos:=hr.pos.mono hp.size (fun _ h=>h) pz },
  { os:=hp.os,tape:=hp.tape,output:=hp.output,size:=hp.size,mu:=mu,zr:=fun _ h=>h,shape:=hp.shape,same:=?_,DP:=?_,Ha:=fun _ h=>.inl h }⟩
 ·rintro id (h | h)
  ·rw [mu id h];exact Nat.lt_of_lt_of_le (hr.lt id h) hp.size
  ·obtain rfl:id=M:=by simpa using h
   rw [g0];exact hp.lt
 ·intro id b' cd
  rw [c7] at cd
  by_cases e:id=M
  ·exact .inr (by simp [e])
  ·rw [if_neg e] at cd
   split at cd
   ·cases cd
   ·exact .inl (hr.known id b' cd)
 ·intro id b' cd hl
  rw [c7] at cd
  by_cases e:id=M
  ·subst e
   rw [if_pos rfl] at cd
   cases cd
   simp only [if_true,g0]
   refine ⟨o,hp.at_,hB.mono pz (fun _ h=>h) mu (fun _ h=>.inl h) (fun id bY=>hp.shape _ (hr.lt id bY)) fun x hx o8=>?_⟩
   rcases hS x hx with h | ⟨b9,_,h2,h3⟩
   ·exact absurd h o8
   ·exact F8 b9 h2 x h3 o8
  ·rw [if_neg e] at cd
   split at cd
   ·cases cd
   ·rename_i e2
    simp only [if_neg e]
    have ic:H.live id:=⟨b',cd,hl⟩
    obtain ⟨o0,ho0,hB0⟩:=hr.di id b' cd hl
    rw [mu id (hr.known id b' cd)]
    refine ⟨o0,by rw [F8 id ic _ (hr.self id ic) fun e3=>hX id ic e e2 (e3▸hr.self id ic)];exact ho0,hB0.mono pz (fun _ h=>h) mu (fun _ h=>.inl h) (fun id bY=>hp.shape _ (hr.lt id bY)) fun x hx _=>?_⟩
    exact F8 id ic x hx fun e3=>hX id ic e e2 (e3▸hx)
 ·intro id hl
  rcases xL id hl with e | ⟨e,_,h⟩
  ·subst e;simp only [if_true,g0];exact hSB
  ·simp only [if_neg e];rw [mu id (hr.pw h)];exact hr.self id h
 ·intro id hl x hx
  rcases xL id hl with e | ⟨e,_,h⟩
  ·subst e
   simp only [if_true] at hx
   rcases hS x hx with h | ⟨b9,_,h2,h3⟩
   ·exact .inr h
   ·exact .inl (hr.own b9 h2 x h3)
  ·simp only [if_neg e] at hx
   exact .inl (hr.own id h x hx)
 ·have cr:∀ id,id≠M→id ∉ L→H.live id→∀ x,S x→ft id x→False:=by
   intro id e e2 hl x hx j7
   rcases hS x hx with h | ⟨b9,h1,h2,h3⟩
   ·exact hX id hl e e2 (h▸j7)
   ·have:=hr.dj id b9 hl h2 x j7 h3
    subst this
    rcases h1 with h1 | h1
    ·exact e h1
    ·exact e2 h1
  intro id b9 hl Bk x hx j7
  rcases xL id hl with e | ⟨e,e2,h⟩<;>rcases xL b9 Bk with k | ⟨k,k2,h'⟩
  ·rw [e,k]
  ·rw [if_pos e] at hx;rw [if_neg k] at j7
   exact (cr b9 k k2 h' x hx j7).elim
  ·rw [if_neg e] at hx;rw [if_pos k] at j7
   exact (cr id e e2 h x j7 hx).elim
  ·rw [if_neg e] at hx;rw [if_neg k] at j7
   exact hr.dj id b9 h h' x hx j7
 ·rintro x (h | h)
  ·exact hr.xW x h
  ·exact h▸aeg
 ·exact fun x hx=>Nat.lt_of_lt_of_le (hr.wf x hx) hp.size
 ·rintro x (h | h)
  ·exact Nat.lt_of_lt_of_le (hr.p0 x h) hp.size
  ·exact h▸hp.lt
 ·exact fun x hx hn=>hp.other x hx fun e=>by
   rcases hO with h | h
   ·exact hn (e▸h)
   ·omega
 ·rintro x (h | h)
  ·exact .inl h
  ·rcases hO with h2 | h2
   ·exact .inl (h▸h2)
   ·exact .inr (h▸h2)
theorem UD {M:Nat} (h:K M):plus K [M]=K:=by
 funext id
 simp only [plus,List.mem_singleton,eq_iff_iff]
 exact ⟨fun h'=>h'.elim (fun h=>h) fun e=>e▸h,.inl⟩
theorem DR (w:World) (o:Obj):(w.alloc o).heap[w.heap.size]?=some o:=by
 show (w.heap.push o)[_]?=_
 simp
theorem J8 (w:World) (o:Obj):rN w (w.alloc o) w.heap.size o where
 os:=rfl
 tape:=rfl
 output:=rfl
 size:=by simp
 lt:=by simp
 at_:=DR w o
 other:=fun x hx _=>Below.heap_alloc _ _ _ hx
 shape:=fun x hx=>by unfold World.shape?;rw [Below.heap_alloc _ _ _ hx]
theorem Gw.alloc (w:World) (o:Obj):Gw w (w.alloc o):=
 have p:=J8 w o
 ⟨p.os,p.tape,p.output,p.size,fun b hb=>p.other b hb (Nat.ne_of_lt hb)⟩
theorem Hb {N:Nat} {o:Obj} {b:ju} {L:List Nat} {S:Nat→Prop} (hr:HR w F O μ K H ft) (hN:¬ K N) (hS:∀ x,S x→x=w.heap.size∨∃ id,id∈L∧H.live id∧ft id x) (hSB:S w.heap.size)
  (hB:gO w F μ K S w.heap.size o b):
  ∃ O' b7,HR (w.alloc o) F O' (IC μ N w.heap.size) (plus K [N]) (H.c7 ((N,some b)::gx L)) b7∧Fr w F O μ K (w.alloc o) F O' (IC μ N w.heap.size):=
 ⟨_,_,IE hr (J8 w o) (.inr (Nat.le_refl _)) (fun h=>absurd h hN) (fun x hx=>(hS x hx).imp id fun ⟨id,h1,h2⟩=>⟨id,.inr h1,h2⟩) hSB
  (fun id hl _ _ hx=>by have:=hr.p0 _ (hr.own id hl _ hx);omega) hB⟩
def iZ (w:World) (b:Nat) (o:Obj):World:={ w with heap:=w.heap.setIfInBounds b o }
theorem PJ (w:World) (b:Nat) (o:Obj):(iZ w b o).heap.size=w.heap.size:=by simp [iZ]
theorem wo {b:Nat} (h:b < w.heap.size) (o:Obj):(iZ w b o).heap[b]?=some o:=by simp [iZ,h]
theorem M3 {b k:Nat} (h:k≠b) (o:Obj):(iZ w b o).heap[k]?=w.heap[k]?:=by simp [iZ,Array.getElem?_setIfInBounds_ne (Ne.symm h)]
theorem J9 (w:World) (b:Nat) (o o':Obj):iZ (iZ w b o) b o'=iZ w b o':=by
 unfold iZ
 congr 1
 simp
theorem aaQ {b:Nat} {o:Obj} (h:w.heap[b]?=some o):iZ w b o=w:=by
 have dL:b < w.heap.size:=(Array.getElem?_eq_some_iff.1 h).1
 have he:w.heap.setIfInBounds b o=w.heap:=by
  refine Array.ext_getElem? fun k=>?_
  by_cases e:b=k
  ·subst e;rw [h];simp [dL]
  ·simp [Array.getElem?_setIfInBounds_ne e]
 unfold iZ
 rw [he]
def sameShape:Obj→Obj→Prop
 | .cells c t _,.cells c' t' _=>t=t'∧c.size=c'.size
 | .cells ..,_ | _,.cells ..=>False
 | _,_=>True
theorem Zh {a b:Nat} {o o':Obj} (h:w.heap[b]?=some o) (h':w'.heap[a]?=some o') (hs:sameShape o o'):w'.shape? a=w.shape? b:=by
 unfold World.shape?
 rw [h,h']
 cases o<;>cases o'<;>simp [sameShape] at hs ⊢
 exact ⟨hs.1.symm,hs.2.symm⟩
theorem SF {b:Nat} {o o':Obj} (h:w.heap[b]?=some o) (hs:sameShape o o'):rN w (iZ w b o') b o' where
 os:=rfl
 tape:=rfl
 output:=rfl
 size:=by rw [PJ];exact Nat.le_refl _
 lt:=by rw [PJ];exact (Array.getElem?_eq_some_iff.1 h).1
 at_:=wo (Array.getElem?_eq_some_iff.1 h).1 o'
 other:=fun x _ o8=>M3 o8 o'
 shape:=fun x _=>by
  by_cases e:x=b
  ·subst e
   exact Zh h (wo (Array.getElem?_eq_some_iff.1 h).1 o') hs
  ·unfold World.shape?
   rw [M3 e]
theorem mD {N:Nat} {o o':Obj} {b b':ju} {L:List Nat} {S:Nat→Prop} (hr:HR w F O μ K H ft) (hb:H N=some b) (hl:b.eI=true) (ho:w.heap[μ N]?=some o) (hs:sameShape o o')
  (hNL:N ∉ L) (hS:∀ x,S x→∃ id,(id=N∨id∈L)∧H.live id∧ft id x) (hSB:S (μ N)) (hB:gO w F μ K S (μ N) o' b'):
  ∃ O' b7,HR (iZ w (μ N) o') F O' μ K (H.c7 ((N,some b')::gx L)) b7∧Fr w F O μ K (iZ w (μ N) o') F O' μ:=by
 have ic:H.live N:=⟨b,hb,hl⟩
 have hk:=hr.pw ic
 have e1:IC μ N (μ N)=μ:=by
  funext id
  by_cases e:id=N
  ·subst e;exact g0 _ _ _
  ·exact ID e
 have h:=IE (M:=N) (L:=L) (S:=S) hr (SF ho hs) (.inl (hr.own N ic _ (hr.self N ic))) (fun _=>rfl) (fun x hx=>.inr (hS x hx)) hSB
  (fun id h1 h2 _ h4=>h2 (hr.dj id N h1 ic _ h4 (hr.self N ic))) hB
 rw [e1,UD hk] at h
 exact ⟨_,_,h⟩
theorem Xj {N M:Nat} {o o':Obj} {b b':ju} {L:List Nat} {S:Nat→Prop} (hr:HR w F O μ K H ft) (hM:¬ K M) (hb:H N=some b) (hl:b.eI=true) (ho:w.heap[μ N]?=some o) (hs:sameShape o o')
  (hS:∀ x,S x→∃ id,(id=N∨id∈L)∧H.live id∧ft id x) (hSB:S (μ N)) (hB:gO w F μ K S (μ N) o' b'):
  ∃ O' b7,HR (iZ w (μ N) o') F O' (IC μ M (μ N)) (plus K [M]) (H.c7 ((M,some b')::gx (N::L))) b7∧Fr w F O μ K (iZ w (μ N) o') F O' (IC μ M (μ N)):=by
 have ic:H.live N:=⟨b,hb,hl⟩
 exact ⟨_,_,IE (M:=M) (L:=N::L) (S:=S) hr (SF ho hs) (.inl (hr.own N ic _ (hr.self N ic))) (fun h=>absurd h hM)
  (fun x hx=>.inr (by obtain ⟨id,h1,h2⟩:=hS x hx;exact ⟨id,.inr (by simpa using h1),h2⟩)) hSB
  (fun id h1 _ h3 h4=>h3 (by rw [hr.dj id N h1 ic _ h4 (hr.self N ic)];simp)) hB⟩
theorem Eu {N:Nat} {aZ:Nat} {e:Nat→Nat→AV} (hr:HR w F O μ K H ft) (hN:¬ K N):
  HR w F O (IC μ N 0) (plus K [N]) (H.c7 [(N,some (.row true aZ 0 e))]) ft∧Fr w F O μ K w F O (IC μ N 0):=by
 have mu:∀ id,K id→IC μ N 0 id=μ id:=fun id bY=>ID fun e=>hN (e▸bY)
 have xL:∀ id b,(H.c7 [(N,some (.row true aZ 0 e))]) id=some b→b.eI=true→H id=some b:=by
  intro id b hb hl
  rw [Hp.Bj] at hb
  split at hb
  ·cases hb;cases hl
  ·exact hb
 have fW:∀ id,(H.c7 [(N,some (.row true aZ 0 e))]).live id→H.live id:=fun id ⟨b,hb,hl⟩=>⟨b,xL id b hb hl,hl⟩
 refine ⟨{ lt:=?_,known:=?_,di:=?_,self:=?_,own:=fun id hl=>hr.own id (fW id hl),dj:=fun id b9 hl Bk=>hr.dj id b9 (fW id hl) (fW b9 Bk),xW:=hr.xW,wf:=hr.wf,p0:=hr.p0,pos:=hr.pos },
  { Fr.refl w F O μ K with mu:=mu }⟩
 ·rintro id (h | h)
  ·rw [mu id h];exact hr.lt id h
  ·obtain rfl:id=N:=by simpa using h
   rw [g0];exact hr.pos.lt
 ·intro id b hb
  rw [Hp.Bj] at hb
  split at hb
  ·rename_i e;exact .inr (by simp [e])
  ·exact .inl (hr.known id b hb)
 ·intro id b hb hl
  have cd:=xL id b hb hl
  obtain ⟨o,ho,hB⟩:=hr.di id b cd hl
  rw [mu id (hr.known id b cd)]
  exact ⟨o,ho,hB.mono (fun _ _=>rfl) (fun _ h=>h) mu (fun _ h=>.inl h) (fun _ _=>rfl) fun _ _ _=>rfl⟩
 ·intro id hl
  rw [mu id (hr.pw (fW id hl))]
  exact hr.self id (fW id hl)
theorem SG (H:Hp) (L:List Nat):Part (H.c7 (gx L)) H:=fun id=>by
 rw [xM]
 split
 ·exact .inl rfl
 ·exact .inr rfl
theorem bZ {o:Oper} {s:fy} {rv:AV}
  (h:∀ {w F O μ K ft a},SR w F O μ K s ft a→∃ v,(execOp a.eval o).run P w=.ok (.value v) w∧VR w F μ K rv v):db P o s ⟨rv,[],[]⟩:=by
 intro w F O μ K ft a hs _ Kn Q hk
 obtain ⟨v,hv,hr⟩:=h hs
 unfold Oper.wp
 rw [hv,Oper.upon_value]
 refine hk v w F O μ ft ?_ ?_ (Fr.refl w F O μ K)<;>simp only [la,Hp.QT]
 ·exact hr
 ·exact hs.hr
theorem sQ {o:Oper} {s:fy} {rv:AV} {N:Nat} {b:ju}
  (h:∀ {w F O μ K ft a},SR w F O μ K s ft a→∃ v ob n,(execOp a.eval o).run P w=.ok (.value v) (({ w with drawn:=n }:World).alloc ob)∧gO w F μ K (fun x=>x=w.heap.size) w.heap.size ob b∧
   ∀ w' bB,(∀ x u,VR w F μ K x u→VR w' F bB (plus K [N]) x u)→w'.heap[w.heap.size]?=some ob→bB N=w.heap.size→VR w' F bB (plus K [N]) rv v):db P o s ⟨rv,[(N,some b)],[N]⟩:=by
 intro w F O μ K ft a hs hn Kn Q hk
 obtain ⟨v,ob,n,hv,hb,hr⟩:=h hs
 have hN:¬ K N:=hn N (by simp)
 have Ig:HR { w with drawn:=n } F O μ K s.H ft:=hs.hr.drew n
 obtain ⟨O',b7,h1,h2⟩:=Hb (w:={ w with drawn:=n }) (L:=[]) (S:=fun x=>x=w.heap.size) Ig hN (fun x hx=>.inl hx) rfl (o:=ob) (b:=b)
  (hb.mono (fun _ _=>rfl) (fun _ h=>h) (fun _ _=>rfl) (fun _ h=>h) (fun _ _=>rfl) fun _ _ _=>rfl)
 unfold Oper.wp
 rw [hv,Oper.upon_value]
 have h3:=(Fr.drew (w:=w) (F:=F) (O:=O) (μ:=μ) (K:=K) n).trans h2
 exact hk v _ F O' _ b7 (hr _ _ (fun x u hx=>hx.step hs.hr h3 fun _ h=>.inl h) (DR ({ w with drawn:=n }:World) ob) (g0 _ _ _)) h1 h3
end Go.Proofs.YtljfmaaadnoggaaGreatDoor.cU
