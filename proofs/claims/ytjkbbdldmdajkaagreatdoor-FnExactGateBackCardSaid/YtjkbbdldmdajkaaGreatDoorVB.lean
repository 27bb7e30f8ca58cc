/- What one operation does to an abstract state; the steps of memory. No condition. -/
import Derived.Test.YtjkbbdldmdajkaaGreatDoorVA
set_option linter.unusedSimpArgs false
set_option linter.unusedVariables false
namespace Go.Proofs.YtjkbbdldmdajkaaGreatDoor.c_
open Go Go.RowKit
variable {w w' xk:World} {F F' Bs O O' v8:Nat→Prop} {μ bC lG:Nat→Nat} {K K' EF:Nat→Prop} {H H' H'':Hp} {ft bZ:Nat→Nat→Prop} {P:Program}
def iL (w:World) (F:Nat→Prop) (μ:Nat→Nat) (K:Nat→Prop) (l:List AV) (vs:List Value):Prop:=
 l.length=vs.length∧∀ i,i < l.length→VR w F μ K (l.getD i .top) (vs.getD i undef)
theorem iL.step {l:List AV} {vs:List Value} (hv:iL w F μ K l vs) (hr:HR w F O μ K H ft) (h:Fr w F O μ K w' F' O' bC) (hK:∀ id,K id→K' id):iL w' F' bC K' l vs:=
 ⟨hv.1,fun i hi=>(hv.2 i hi).step hr h hK⟩
theorem iL.nil:iL w F μ K [] []:=⟨rfl,fun i h=>by cases h⟩
theorem iL.cons {x:AV} {v:Value} {l:List AV} {vs:List Value} (h:VR w F μ K x v) (hs:iL w F μ K l vs):iL w F μ K (x::l) (v::vs):=
 ⟨by simp [hs.1],fun i hi=>by
  cases i with
  | zero=>simpa using h
  | succ i=>simpa using hs.2 i (by simpa using hi)⟩
theorem iL.adZ {x:AV} {v:Value} {l:List AV} {vs:List Value} (h:iL w F μ K (x::l) (v::vs)):VR w F μ K x v∧iL w F μ K l vs:=
 ⟨by simpa using h.2 0 (by simp),by simpa using h.1,fun i hi=>by simpa using h.2 (i+1) (by simpa using hi)⟩
theorem iL.iK {vs:List Value} (h:iL w F μ K [] vs):vs=[]:=List.length_eq_zero_iff.1 h.1.symm
theorem iL.cons_inv {x:AV} {l:List AV} {vs:List Value} (h:iL w F μ K (x::l) vs):∃ v r,vs=v::r∧VR w F μ K x v∧iL w F μ K l r:=by
 cases vs with
 | nil=>exact absurd h.1 (by simp)
 | cons v r=>exact ⟨v,r,rfl,h.adZ⟩
theorem iL.app {l m:List AV} {vs us:List Value} (h:iL w F μ K l vs) (h':iL w F μ K m us):iL w F μ K (l++m) (vs++us):=by
 induction l generalizing vs with
 | nil=>rw [h.iK];exact h'
 | cons x l ih=>
  obtain ⟨v,r,rfl,h1,h2⟩:=h.cons_inv;exact .cons h1 (ih h2)
theorem VR.de {k:IntKind} {n:Int} {v:Value} (h:VR w F μ K (.int k n) v):v=.int k n:=by cases h;rfl
theorem VR.fe {b:Bool} {v:Value} (h:VR w F μ K (.bool b) v):v=.bool b:=by cases h;rfl
theorem VR.jF {s:List UInt8} {v:Value} (h:VR w F μ K (.str s) v):v=.string ⟨⟨s⟩⟩:=by cases h;rfl
theorem VR.qd {v:Value} (h:VR w F μ K .fB v):v=.slice none 0 0:=by cases h;rfl
theorem VR.I0 {u v:Value} (h:VR w F μ K (.lit u) v):v=u:=by cases h;rfl
theorem VR.aag {a:AV} {c:Bool} {v:Value} (h:VR w F μ K (.wh c a) v) (hc:c=true):VR w F μ K a v:=by cases h with | wh _ _ _ h=>exact h hc
theorem VR.fU {cs:List AV} {v:Value} (h:VR w F μ K (.agg cs) v):∃ vs:List Value,v=.agg ⟨vs⟩∧iL w F μ K cs vs:=by
 cases h with | agg _ vs hl hv=>exact ⟨vs,rfl,hl,hv⟩
theorem VR.I1 {cs:List AV} {v:Value} (h:VR w F μ K (.nP cs) v):∃ vs:List Value,v=.tuple ⟨vs⟩∧iL w F μ K cs vs:=by
 cases h with | nP _ vs hl hv=>exact ⟨vs,rfl,hl,hv⟩
theorem VR.Co {t:TypeId} {b:AV} {v:Value} (h:VR w F μ K (.pK t b) v):∃ u,v=.iface t u∧VR w F μ K b u:=by
 cases h with | pK _ _ u h=>exact ⟨u,rfl,h⟩
theorem VR.Kq {f:Fn} {xs ys:List AV} {v:Value} (h:VR w F μ K (.fn f xs ys) v):∃ vs us,v=.func f ⟨vs⟩ ⟨us⟩∧iL w F μ K xs vs∧iL w F μ K ys us:=by
 cases h with | fn _ _ _ vs us h h' hv hu=>exact ⟨vs,us,rfl,⟨h,hv⟩,h',hu⟩
theorem VR.rP {cs:List AV} {vs:List Value} (h:iL w F μ K cs vs):VR w F μ K (.agg cs) (.agg ⟨vs⟩):=.agg cs vs h.1 h.2
theorem VR.Ls {cs:List AV} {vs:List Value} (h:iL w F μ K cs vs):VR w F μ K (.nP cs) (.tuple ⟨vs⟩):=.nP cs vs h.1 h.2
theorem VR.aah {f:Fn} {xs ys:List AV} {vs us:List Value} (h:iL w F μ K xs vs) (h':iL w F μ K ys us):VR w F μ K (.fn f xs ys) (.func f ⟨vs⟩ ⟨us⟩):=.fn f xs ys vs us h.1 h'.1 h.2 h'.2
def ee (s:fT) (x:Operand) (a:AV):Prop:=∀ {w F O μ K ft act},SR w F O μ K s ft act→VR w F μ K a (act.eval x)
def Pn (s:fT) (xs:List Operand) (l:List AV):Prop:=∀ {w F O μ K ft act},SR w F O μ K s ft act→iL w F μ K l (xs.map act.eval)
theorem Pn.nil {s:fT}:Pn s [] []:=fun _=>.nil
theorem Pn.cons {s:fT} {x:Operand} {a:AV} {xs:List Operand} {l:List AV} (h:ee s x a) (h':Pn s xs l):Pn s (x::xs) (a::l):=fun hs=>.cons (h hs) (h' hs)
structure Res where
 v:AV
 up:List (Nat×Option jV)
 new:List Nat
def dr (P:Program) (o:Oper) (s:fT) (r:Res):Prop:=
 ∀ (w:World) (F O:Nat→Prop) (μ:Nat→Nat) (K:Nat→Prop) (ft:Nat→Nat→Prop) (a:Act),SR w F O μ K s ft a→(∀ id,id∈r.new→¬ K id)→∀ (Kn:Act→World→Prop) (Q:Exit→Act→World→Prop),
  (∀ v w' F' O' bC bZ,VR w' F' bC (plus K r.new) r.v v→HR w' F' O' bC (plus K r.new) (s.H.dh r.up) bZ→Fr w F O μ K w' F' O' bC→Kn (a.put o.dst v) w')→o.wp P a w Kn Q
def Wm (P:Program) (o:Oper) (s:fT) (r:Res):Prop:=
 ∀ (w:World) (F O:Nat→Prop) (μ:Nat→Nat) (K:Nat→Prop) (ft:Nat→Nat→Prop) (a:Act),SR w F O μ K s ft a→(∀ id,id∈r.new→¬ K id)→∀ (Kn:Act→World→Prop) (Q:Exit→Act→World→Prop),
  (∀ v w' F' O' bC bZ,VR w' F' bC (plus K r.new) r.v v→HR w' F' O' bC (plus K r.new) (s.H.dh r.up) bZ→Fr w F O μ K w' F' O' bC→Q (.panic [{ v,recovered:=false }]) a w')→o.wp P a w Kn Q
def il (a b:AV):Prop:=∀ {w F μ K v},VR w F μ K a v→VR w F μ K b v
theorem il.refl (a:AV):il a a:=fun h=>h
theorem il.top (a:AV):il a .top:=fun _=>.top _
theorem il.fB (bA:Nat) (e:Nat→Nat→AV):il .fB (.fs bA 0 e):=fun h=>by cases h;exact .v7 _ _ _ _
theorem il.wh (c:Bool) (a:AV):il a (.wh c a):=fun h=>.wh c a _ fun _=>h
structure XZ (s' s:fT):Prop where
 nt:s'.nt=s.nt
 tm:∀ t,il (s.tm t) (s'.tm t)
 H:Part s'.H s.H
theorem SR.less {s s':fT} {a:Act} (h:SR w F O μ K s ft a) (l:XZ s' s):SR w F (LW s'.H ft) μ K s' ft a where
 hr:=h.hr.part l.H
 nt:=h.nt.trans l.nt.symm
 tm:=fun t=>l.tm t (h.tm t)
 df:=h.df.sub (fun b ⟨id,hl,hx⟩=>h.hr.own id (l.H.live hl) b hx) fun b hb=>.inl hb
theorem dr.more {o:Oper} {s s':fT} {r:Res} (h:dr P o s r) (l:XZ s s'):dr P o s' r:=by
 intro w F O μ K ft a hs hn Kn Q hk;refine h w F _ μ K ft a (hs.less l) hn Kn Q fun v w' F' O' bC bZ hv hr hf=>?_;obtain ⟨v8,Ko,h1,h2⟩:=frame hs.hr l.H (fun id h=>.inl h) hr hf;exact hk v w' F' v8 bC Ko hv h1 h2
theorem Wm.more {o:Oper} {s s':fT} {r:Res} (h:Wm P o s r) (l:XZ s s'):Wm P o s' r:=by
 intro w F O μ K ft a hs hn Kn Q hk;refine h w F _ μ K ft a (hs.less l) hn Kn Q fun v w' F' O' bC bZ hv hr hf=>?_;obtain ⟨v8,Ko,h1,h2⟩:=frame hs.hr l.H (fun id h=>.inl h) hr hf;exact hk v w' F' v8 bC Ko hv h1 h2
theorem dr.imp {o:Oper} {s:fT} {r:Res} {v:AV} (h:dr P o s r) (hi:il r.v v):dr P o s { r with v:=v }:=
 fun w F O μ K ft a hs hn Kn Q hk=>h w F O μ K ft a hs hn Kn Q fun v w' F' O' bC bZ hv hr hf=>hk v w' F' O' bC bZ (hi hv) hr hf
theorem VR.drew {a:AV} {v:Value} (n:Nat) (h:VR w F μ K a v):VR { w with drawn:=n } F μ K a v:=
 h.mono (fun _ _=>rfl) (fun _ h=>h) (fun _ _=>rfl) (fun _ h=>h) (fun _ _=>rfl)
theorem HR.drew (n:Nat) (h:HR w F O μ K H ft):HR { w with drawn:=n } F O μ K H ft:=by
 have hb:∀ id b,H id=some b→b.fc=true→∃ o,({ w with drawn:=n }:World).heap[μ id]?=some o∧ik { w with drawn:=n } F μ K (ft id) (μ id) o b:=by
  intro id b hb hl;obtain ⟨o,ho,hB⟩:=h.dC id b hb hl;exact ⟨o,ho,hB.mono (fun _ _=>rfl) (fun _ h=>h) (fun _ _=>rfl) (fun _ h=>h) (fun _ _=>rfl) fun _ _ _=>rfl⟩
 exact ⟨h.lt,h.known,hb,h.self,h.own,h.dj,h.zc,h.wf,h.rT,h.pos.mono (Nat.le_refl _) (fun _ h=>h) fun _ _=>rfl⟩
theorem Fr.drew (n:Nat):Fr w F O μ K { w with drawn:=n } F O μ:={ Fr.refl w F O μ K with }
structure Gw (w w':World):Prop where
 os:w'.os=w.os
 tape:w'.tape=w.tape
 output:w'.output=w.output
 size:w.heap.size≤w'.heap.size
 same:∀ b,b < w.heap.size→w'.heap[b]?=w.heap[b]?
theorem Gw.refl (w:World):Gw w w:=⟨rfl,rfl,rfl,Nat.le_refl _,fun _ _=>rfl⟩
theorem Gw.trans {w1 w2 w3:World} (h:Gw w1 w2) (k:Gw w2 w3):Gw w1 w3:=
 ⟨k.os.trans h.os,k.tape.trans h.tape,k.output.trans h.output,Nat.le_trans h.size k.size,fun b hb=>(k.same b (Nat.lt_of_lt_of_le hb h.size)).trans (h.same b hb)⟩
theorem Gw.shape (h:Gw w w') {b:Nat} (hb:b < w.heap.size):w'.shape? b=w.shape? b:=by
 unfold World.shape?;rw [h.same b hb]
theorem Gw.fr (h:Gw w w'):Fr w F O μ K w' F O μ:=
 ⟨h.os,h.tape,h.output,h.size,fun _ _=>rfl,fun _ h=>h,fun _ hb=>h.shape hb,fun b hb _=>h.same b hb,fun _ h=>.inl h,fun _ h=>.inl h⟩
theorem HR.gw (hr:HR w F O μ K H ft) (h:Gw w w'):HR w' F O μ K H ft where
 lt:=fun id bY=>Nat.lt_of_lt_of_le (hr.lt id bY) h.size
 known:=hr.known
 dC:=fun id b hb hl=>by
  obtain ⟨o,ho,hB⟩:=hr.dC id b hb hl;refine ⟨o,by rw [h.same _ (hr.lt id (hr.known id b hb))];exact ho,hB.mono (fun x hx=>h.same x (hr.wf x hx)) (fun _ h=>h) (fun _ _=>rfl) (fun _ h=>h) (fun i hi=>h.shape (hr.lt i hi)) fun x hx _=>h.same x (hr.rT x (hr.own id ⟨b,hb,hl⟩ x hx))⟩
 self:=hr.self
 own:=hr.own
 dj:=hr.dj
 zc:=hr.zc
 wf:=fun b hb=>Nat.lt_of_lt_of_le (hr.wf b hb) h.size
 rT:=fun b hb=>Nat.lt_of_lt_of_le (hr.rT b hb) h.size
 pos:=hr.pos.mono h.size (fun _ h=>h) fun b hb=>h.same b (hr.wf b hb)
structure Kp (w w':World) (F O:Nat→Prop):Prop where
 os:w'.os=w.os
 tape:w'.tape=w.tape
 output:w'.output=w.output
 size:w.heap.size≤w'.heap.size
 LX:∀ b,F b∨O b→w'.heap[b]?=w.heap[b]?
 shape:∀ b,b < w.heap.size→w'.shape? b=w.shape? b
theorem Kp.refl (w:World) (F O:Nat→Prop):Kp w w F O:=⟨rfl,rfl,rfl,Nat.le_refl _,fun _ _=>rfl,fun _ _=>rfl⟩
theorem Kp.trans (h:Kp w w' F O) (k:Kp w' xk F O):Kp w xk F O:=
 ⟨k.os.trans h.os,k.tape.trans h.tape,k.output.trans h.output,Nat.le_trans h.size k.size,fun b hb=>(k.LX b hb).trans (h.LX b hb),fun b hb=>(k.shape b (Nat.lt_of_lt_of_le hb h.size)).trans (h.shape b hb)⟩
theorem Kp.sub (h:Kp w w' F O) (hF:∀ b,F' b→F b∨O b) (hO:∀ b,O' b→F b∨O b):Kp w w' F' O':=
 { h with LX:=fun b hb=>h.LX b (hb.elim (hF b) (hO b)) }
theorem HR.kp (hr:HR w F O μ K H ft) (h:Kp w w' F O):HR w' F O μ K H ft where
 lt:=fun id bY=>Nat.lt_of_lt_of_le (hr.lt id bY) h.size
 known:=hr.known
 dC:=fun id b hb hl=>by
  obtain ⟨o,ho,hB⟩:=hr.dC id b hb hl;have gQ:H.live id:=⟨b,hb,hl⟩;refine ⟨o,by rw [h.LX _ (.inr (hr.own id gQ _ (hr.self id gQ)))];exact ho,hB.mono (fun x hx=>h.LX x (.inl hx)) (fun _ h=>h) (fun _ _=>rfl) (fun _ h=>h) (fun i hi=>h.shape _ (hr.lt i hi)) fun x hx _=>h.LX x (.inr (hr.own id gQ x hx))⟩
 self:=hr.self
 own:=hr.own
 dj:=hr.dj
 zc:=hr.zc
 wf:=fun b hb=>Nat.lt_of_lt_of_le (hr.wf b hb) h.size
 rT:=fun b hb=>Nat.lt_of_lt_of_le (hr.rT b hb) h.size
 pos:=hr.pos.mono h.size (fun _ h=>h) fun b hb=>h.LX b (.inl hb)
theorem VR.kp {a:AV} {v:Value} (hv:VR w F μ K a v) (hr:HR w F O μ K H ft) (h:Kp w w' F O):VR w' F μ K a v:=
 hv.mono (fun b hb=>h.LX b (.inl hb)) (fun _ h=>h) (fun _ _=>rfl) (fun _ h=>h) fun id bY=>h.shape _ (hr.lt id bY)
def Ic (μ:Nat→Nat) (N B:Nat):Nat→Nat:=fun id=>if id=N then B else μ id
theorem gC (μ:Nat→Nat) (N B:Nat):Ic μ N B N=B:=by simp [Ic]
theorem I2 {μ:Nat→Nat} {N B id:Nat} (h:id≠N):Ic μ N B id=μ id:=by simp [Ic,h]
theorem X0 {μ:Nat→Nat} {N B:Nat} (h:K N→μ N=B) {id:Nat} (bY:K id):Ic μ N B id=μ id:=by
 by_cases e:id=N
 ·subst e;rw [gC];exact (h bY).symm
 ·exact I2 e
structure tp (w w':World) (B:Nat) (o:Obj):Prop where
 os:w'.os=w.os
 tape:w'.tape=w.tape
 output:w'.output=w.output
 size:w.heap.size≤w'.heap.size
 lt:B < w'.heap.size
 at_:w'.heap[B]?=some o
 other:∀ x,x < w.heap.size→x≠B→w'.heap[x]?=w.heap[x]?
 shape:∀ x,x < w.heap.size→w'.shape? x=w.shape? x
def gH (L:List Nat):List (Nat×Option jV):=L.map fun i=>(i,none)
theorem yX (L:List Nat) (id:Nat):H.dh (gH L) id=if id∈L then none else H id:=by
 induction L with
 | nil=>simp [gH,Hp.dh]
 | cons x L ih=>
  simp only [gH,List.map_cons,Hp.dh,List.mem_cons] at ih ⊢;by_cases e:id=x
  ·simp [e]
  ·simp [e,ih]
theorem EG {M B:Nat} {o:Obj} {b:jV} {L:List Nat} {S:Nat→Prop} (hr:HR w F O μ K H ft) (hp:tp w w' B o)
  (hO:O B∨w.heap.size≤B) (hM:K M→μ M=B) (hS:∀ x,S x→x=B∨∃ id,(id=M∨id∈L)∧H.live id∧ft id x) (hSB:S B)
  (hX:∀ id,H.live id→id≠M→id ∉ L→¬ ft id B) (hB:ik w F μ K S B o b):
  HR w' F (fun x=>O x∨x=B) (Ic μ M B) (plus K [M]) (H.dh ((M,some b)::gH L)) (fun id=>if id=M then S else ft id)∧Fr w F O μ K w' F (fun x=>O x∨x=B) (Ic μ M B):=by
 have dh:∀ id,H.dh ((M,some b)::gH L) id=if id=M then some b else if id∈L then none else H id:=fun id=>by
  show (if id=M then some b else H.dh (gH L) id)=_;rw [yX]
 have afd:¬ F B:=fun hF=>by
  rcases hO with h | h
  ·exact hr.zc B h hF
  ·have:=hr.wf B hF;omega
 have qc:∀ x,F x→w'.heap[x]?=w.heap[x]?:=fun x hx=>hp.other x (hr.wf x hx) fun e=>afd (e▸hx);have mu:∀ id,K id→Ic μ M B id=μ id:=fun id bY=>X0 hM bY;have yW:∀ id,(H.dh ((M,some b)::gH L)).live id→id=M∨(id≠M∧id ∉ L∧H.live id):=by
  rintro id ⟨b',cl,hl⟩
  rw [dh] at cl;by_cases e:id=M
  ·exact .inl e
  ·rw [if_neg e] at cl;by_cases e2:id∈L
   ·rw [if_pos e2] at cl;cases cl
   ·rw [if_neg e2] at cl;exact .inr ⟨e,e2,b',cl,hl⟩
 have Fm:∀ id,H.live id→∀ x,ft id x→x≠B→w'.heap[x]?=w.heap[x]?:=fun id hl x hx e=>hp.other x (hr.rT x (hr.own id hl x hx)) e;refine ⟨{ lt:=?_,known:=?_,dC:=?_,self:=?_,own:=?_,dj:=?_,zc:=?_,wf:=?_,rT:=?_,pos:=hr.pos.mono hp.size (fun _ h=>h) qc },
  { os:=hp.os,tape:=hp.tape,output:=hp.output,size:=hp.size,mu:=mu,Aw:=fun _ h=>h,shape:=hp.shape,same:=?_,EE:=?_,HK:=fun _ h=>.inl h }⟩
 ·rintro id (h | h)
  ·rw [mu id h];exact Nat.lt_of_lt_of_le (hr.lt id h) hp.size
  ·obtain rfl:id=M:=by simpa using h
   rw [gC];exact hp.lt
 ·intro id b' cl;rw [dh] at cl;by_cases e:id=M
  ·exact .inr (by simp [e])
  ·rw [if_neg e] at cl;split at cl
   ·cases cl
   ·exact .inl (hr.known id b' cl)
 ·intro id b' cl hl;rw [dh] at cl;by_cases e:id=M
  ·subst e;rw [if_pos rfl] at cl;cases cl;simp only [if_true,gC];refine ⟨o,hp.at_,hB.mono qc (fun _ h=>h) mu (fun _ h=>.inl h) (fun id bY=>hp.shape _ (hr.lt id bY)) fun x hx qL=>?_⟩;rcases hS x hx with h | ⟨b9,_,h2,h3⟩
   ·exact absurd h qL
   ·exact Fm b9 h2 x h3 qL
  ·rw [if_neg e] at cl;split at cl
   ·cases cl
   ·rename_i e2;simp only [if_neg e];have gQ:H.live id:=⟨b',cl,hl⟩;obtain ⟨o0,ho0,hB0⟩:=hr.dC id b' cl hl;rw [mu id (hr.known id b' cl)];refine ⟨o0,by rw [Fm id gQ _ (hr.self id gQ) fun e3=>hX id gQ e e2 (e3▸hr.self id gQ)];exact ho0,hB0.mono qc (fun _ h=>h) mu (fun _ h=>.inl h) (fun id bY=>hp.shape _ (hr.lt id bY)) fun x hx _=>?_⟩;exact Fm id gQ x hx fun e3=>hX id gQ e e2 (e3▸hx)
 ·intro id hl;rcases yW id hl with e | ⟨e,_,h⟩
  ·subst e;simp only [if_true,gC];exact hSB
  ·simp only [if_neg e];rw [mu id (hr.re h)];exact hr.self id h
 ·intro id hl x hx;rcases yW id hl with e | ⟨e,_,h⟩
  ·subst e;simp only [if_true] at hx;rcases hS x hx with h | ⟨b9,_,h2,h3⟩
   ·exact .inr h
   ·exact .inl (hr.own b9 h2 x h3)
  ·simp only [if_neg e] at hx;exact .inl (hr.own id h x hx)
 ·have cr:∀ id,id≠M→id ∉ L→H.live id→∀ x,S x→ft id x→False:=by
   intro id e e2 hl x hx lN;rcases hS x hx with h | ⟨b9,h1,h2,h3⟩
   ·exact hX id hl e e2 (h▸lN)
   ·have:=hr.dj id b9 hl h2 x lN h3;subst this;rcases h1 with h1 | h1
    ·exact e h1
    ·exact e2 h1
  intro id b9 hl Ct x hx lN;rcases yW id hl with e | ⟨e,e2,h⟩<;>rcases yW b9 Ct with k | ⟨k,k2,h'⟩
  ·rw [e,k]
  ·rw [if_pos e] at hx;rw [if_neg k] at lN;exact (cr b9 k k2 h' x hx lN).elim
  ·rw [if_neg e] at hx;rw [if_pos k] at lN;exact (cr id e e2 h x lN hx).elim
  ·rw [if_neg e] at hx;rw [if_neg k] at lN;exact hr.dj id b9 h h' x hx lN
 ·rintro x (h | h)
  ·exact hr.zc x h
  ·exact h▸afd
 ·exact fun x hx=>Nat.lt_of_lt_of_le (hr.wf x hx) hp.size
 ·rintro x (h | h)
  ·exact Nat.lt_of_lt_of_le (hr.rT x h) hp.size
  ·exact h▸hp.lt
 ·exact fun x hx hn=>hp.other x hx fun e=>by
   rcases hO with h | h
   ·exact hn (e▸h)
   ·omega
 ·rintro x (h | h)
  ·exact .inl h
  ·rcases hO with h2 | h2
   ·exact .inl (h▸h2)
   ·exact .inr (h▸h2)
theorem Vc {M:Nat} (h:K M):plus K [M]=K:=by
 funext id;simp only [plus,List.mem_singleton,eq_iff_iff];exact ⟨fun h'=>h'.elim (fun h=>h) fun e=>e▸h,.inl⟩
theorem EH (w:World) (o:Obj):(w.alloc o).heap[w.heap.size]?=some o:=by
 show (w.heap.push o)[_]?=_;simp
theorem Kr (w:World) (o:Obj):tp w (w.alloc o) w.heap.size o where
 os:=rfl
 tape:=rfl
 output:=rfl
 size:=by simp
 lt:=by simp
 at_:=EH w o
 other:=fun x hx _=>Below.heap_alloc _ _ _ hx
 shape:=fun x hx=>by unfold World.shape?;rw [Below.heap_alloc _ _ _ hx]
theorem Gw.alloc (w:World) (o:Obj):Gw w (w.alloc o):=
 have p:=Kr w o
 ⟨p.os,p.tape,p.output,p.size,fun b hb=>p.other b hb (Nat.ne_of_lt hb)⟩
theorem HL {N:Nat} {o:Obj} {b:jV} {L:List Nat} {S:Nat→Prop} (hr:HR w F O μ K H ft) (hN:¬ K N) (hS:∀ x,S x→x=w.heap.size∨∃ id,id∈L∧H.live id∧ft id x) (hSB:S w.heap.size)
  (hB:ik w F μ K S w.heap.size o b):
  ∃ O' bZ,HR (w.alloc o) F O' (Ic μ N w.heap.size) (plus K [N]) (H.dh ((N,some b)::gH L)) bZ∧Fr w F O μ K (w.alloc o) F O' (Ic μ N w.heap.size):=
 ⟨_,_,EG hr (Kr w o) (.inr (Nat.le_refl _)) (fun h=>absurd h hN) (fun x hx=>(hS x hx).imp id fun ⟨id,h1,h2⟩=>⟨id,.inr h1,h2⟩) hSB
  (fun id hl _ _ hx=>by have:=hr.rT _ (hr.own id hl _ hx);omega) hB⟩
def jQ (w:World) (b:Nat) (o:Obj):World:={ w with heap:=w.heap.setIfInBounds b o }
theorem P_ (w:World) (b:Nat) (o:Obj):(jQ w b o).heap.size=w.heap.size:=by simp [jQ]
theorem xK {b:Nat} (h:b < w.heap.size) (o:Obj):(jQ w b o).heap[b]?=some o:=by simp [jQ,h]
theorem Nx {b k:Nat} (h:k≠b) (o:Obj):(jQ w b o).heap[k]?=w.heap[k]?:=by simp [jQ,Array.getElem?_setIfInBounds_ne (Ne.symm h)]
theorem Kt (w:World) (b:Nat) (o o':Obj):jQ (jQ w b o) b o'=jQ w b o':=by
 unfold jQ
 congr 1
 simp
theorem abP {b:Nat} {o:Obj} (h:w.heap[b]?=some o):jQ w b o=w:=by
 have dQ:b < w.heap.size:=(Array.getElem?_eq_some_iff.1 h).1;have he:w.heap.setIfInBounds b o=w.heap:=by
  refine Array.ext_getElem? fun k=>?_;by_cases e:b=k
  ·subst e;rw [h];simp [dQ]
  ·simp [Array.getElem?_setIfInBounds_ne e]
 unfold jQ;rw [he]
def sameShape:Obj→Obj→Prop
 | .cells c t _,.cells c' t' _=>t=t'∧c.size=c'.size
 | .cells ..,_ | _,.cells ..=>False
 | _,_=>True
theorem aai {a b:Nat} {o o':Obj} (h:w.heap[b]?=some o) (h':w'.heap[a]?=some o') (hs:sameShape o o'):w'.shape? a=w.shape? b:=by
 unfold World.shape?;rw [h,h'];cases o<;>cases o'<;>simp [sameShape] at hs ⊢;exact ⟨hs.1.symm,hs.2.symm⟩
theorem Ti {b:Nat} {o o':Obj} (h:w.heap[b]?=some o) (hs:sameShape o o'):tp w (jQ w b o') b o' where
 os:=rfl
 tape:=rfl
 output:=rfl
 size:=by rw [P_];exact Nat.le_refl _
 lt:=by rw [P_];exact (Array.getElem?_eq_some_iff.1 h).1
 at_:=xK (Array.getElem?_eq_some_iff.1 h).1 o'
 other:=fun x _ qL=>Nx qL o'
 shape:=fun x _=>by
  by_cases e:x=b
  ·subst e;exact aai h (xK (Array.getElem?_eq_some_iff.1 h).1 o') hs
  ·unfold World.shape?;rw [Nx e]
theorem mq {N:Nat} {o o':Obj} {b b':jV} {L:List Nat} {S:Nat→Prop} (hr:HR w F O μ K H ft) (hb:H N=some b) (hl:b.fc=true) (ho:w.heap[μ N]?=some o) (hs:sameShape o o')
  (hNL:N ∉ L) (hS:∀ x,S x→∃ id,(id=N∨id∈L)∧H.live id∧ft id x) (hSB:S (μ N)) (hB:ik w F μ K S (μ N) o' b'):
  ∃ O' bZ,HR (jQ w (μ N) o') F O' μ K (H.dh ((N,some b')::gH L)) bZ∧Fr w F O μ K (jQ w (μ N) o') F O' μ:=by
 have gQ:H.live N:=⟨b,hb,hl⟩;have hk:=hr.re gQ;have e1:Ic μ N (μ N)=μ:=by
  funext id;by_cases e:id=N
  ·subst e;exact gC _ _ _
  ·exact I2 e
 have h:=EG (M:=N) (L:=L) (S:=S) hr (Ti ho hs) (.inl (hr.own N gQ _ (hr.self N gQ))) (fun _=>rfl) (fun x hx=>.inr (hS x hx)) hSB
  (fun id h1 h2 _ h4=>h2 (hr.dj id N h1 gQ _ h4 (hr.self N gQ))) hB
 rw [e1,Vc hk] at h;exact ⟨_,_,h⟩
theorem X2 {N M:Nat} {o o':Obj} {b b':jV} {L:List Nat} {S:Nat→Prop} (hr:HR w F O μ K H ft) (hM:¬ K M) (hb:H N=some b) (hl:b.fc=true) (ho:w.heap[μ N]?=some o) (hs:sameShape o o')
  (hS:∀ x,S x→∃ id,(id=N∨id∈L)∧H.live id∧ft id x) (hSB:S (μ N)) (hB:ik w F μ K S (μ N) o' b'):
  ∃ O' bZ,HR (jQ w (μ N) o') F O' (Ic μ M (μ N)) (plus K [M]) (H.dh ((M,some b')::gH (N::L))) bZ∧Fr w F O μ K (jQ w (μ N) o') F O' (Ic μ M (μ N)):=by
 have gQ:H.live N:=⟨b,hb,hl⟩;exact ⟨_,_,EG (M:=M) (L:=N::L) (S:=S) hr (Ti ho hs) (.inl (hr.own N gQ _ (hr.self N gQ))) (fun h=>absurd h hM)
  (fun x hx=>.inr (by obtain ⟨id,h1,h2⟩:=hS x hx;exact ⟨id,.inr (by simpa using h1),h2⟩)) hSB
  (fun id h1 _ h3 h4=>h3 (by rw [hr.dj id N h1 gQ _ h4 (hr.self N gQ)];simp)) hB⟩
theorem xL {N:Nat} {bA:Nat} {e:Nat→Nat→AV} (hr:HR w F O μ K H ft) (hN:¬ K N):
  HR w F O (Ic μ N 0) (plus K [N]) (H.dh [(N,some (.row true bA 0 e))]) ft∧Fr w F O μ K w F O (Ic μ N 0):=by
 have mu:∀ id,K id→Ic μ N 0 id=μ id:=fun id bY=>I2 fun e=>hN (e▸bY);have yW:∀ id b,(H.dh [(N,some (.row true bA 0 e))]) id=some b→b.fc=true→H id=some b:=by
  intro id b hb hl;rw [Hp.Cs] at hb;split at hb
  ·cases hb;cases hl
  ·exact hb
 have gI:∀ id,(H.dh [(N,some (.row true bA 0 e))]).live id→H.live id:=fun id ⟨b,hb,hl⟩=>⟨b,yW id b hb hl,hl⟩;refine ⟨{ lt:=?_,known:=?_,dC:=?_,self:=?_,own:=fun id hl=>hr.own id (gI id hl),dj:=fun id b9 hl Ct=>hr.dj id b9 (gI id hl) (gI b9 Ct),zc:=hr.zc,wf:=hr.wf,rT:=hr.rT,pos:=hr.pos },
  { Fr.refl w F O μ K with mu:=mu }⟩
 ·rintro id (h | h)
  ·rw [mu id h];exact hr.lt id h
  ·obtain rfl:id=N:=by simpa using h
   rw [gC];exact hr.pos.lt
 ·intro id b hb;rw [Hp.Cs] at hb;split at hb
  ·rename_i e;exact .inr (by simp [e])
  ·exact .inl (hr.known id b hb)
 ·intro id b hb hl;have cl:=yW id b hb hl;obtain ⟨o,ho,hB⟩:=hr.dC id b cl hl;rw [mu id (hr.known id b cl)];exact ⟨o,ho,hB.mono (fun _ _=>rfl) (fun _ h=>h) mu (fun _ h=>.inl h) (fun _ _=>rfl) fun _ _ _=>rfl⟩
 ·intro id hl;rw [mu id (hr.re (gI id hl))];exact hr.self id (gI id hl)
theorem EI (H:Hp) (L:List Nat):Part (H.dh (gH L)) H:=fun id=>by
 rw [yX];split
 ·exact .inl rfl
 ·exact .inr rfl
theorem b6 {o:Oper} {s:fT} {rv:AV}
  (h:∀ {w F O μ K ft a},SR w F O μ K s ft a→∃ v,(execOp a.eval o).run P w=.ok (.value v) w∧VR w F μ K rv v):dr P o s ⟨rv,[],[]⟩:=by
 intro w F O μ K ft a hs _ Kn Q hk;obtain ⟨v,hv,hr⟩:=h hs;unfold Oper.wp;rw [hv,Oper.upon_value];refine hk v w F O μ ft ?_ ?_ (Fr.refl w F O μ K)<;>simp only [jE,Hp.Rq]
 ·exact hr
 ·exact hs.hr
theorem rh {o:Oper} {s:fT} {rv:AV} {N:Nat} {b:jV}
  (h:∀ {w F O μ K ft a},SR w F O μ K s ft a→∃ v ob n,(execOp a.eval o).run P w=.ok (.value v) (({ w with drawn:=n }:World).alloc ob)∧ik w F μ K (fun x=>x=w.heap.size) w.heap.size ob b∧
   ∀ w' bC,(∀ x u,VR w F μ K x u→VR w' F bC (plus K [N]) x u)→w'.heap[w.heap.size]?=some ob→bC N=w.heap.size→VR w' F bC (plus K [N]) rv v):dr P o s ⟨rv,[(N,some b)],[N]⟩:=by
 intro w F O μ K ft a hs hn Kn Q hk;obtain ⟨v,ob,n,hv,hb,hr⟩:=h hs;have hN:¬ K N:=hn N (by simp);have IC:HR { w with drawn:=n } F O μ K s.H ft:=hs.hr.drew n;obtain ⟨O',bZ,h1,h2⟩:=HL (w:={ w with drawn:=n }) (L:=[]) (S:=fun x=>x=w.heap.size) IC hN (fun x hx=>.inl hx) rfl (o:=ob) (b:=b)
  (hb.mono (fun _ _=>rfl) (fun _ h=>h) (fun _ _=>rfl) (fun _ h=>h) (fun _ _=>rfl) fun _ _ _=>rfl)
 unfold Oper.wp;rw [hv,Oper.upon_value];have h3:=(Fr.drew (w:=w) (F:=F) (O:=O) (μ:=μ) (K:=K) n).trans h2;exact hk v _ F O' _ bZ (hr _ _ (fun x u hx=>hx.step hs.hr h3 fun _ h=>.inl h) (EH ({ w with drawn:=n }:World) ob) (gC _ _ _)) h1 h3
end Go.Proofs.YtjkbbdldmdajkaaGreatDoor.c_
