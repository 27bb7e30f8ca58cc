/- What one operation does to an abstract state; the steps of memory. No condition. -/
import Derived.Test.YtljfmaaadnoggaaGreatDoorVA
set_option linter.unusedSimpArgs false
set_option linter.unusedVariables false
namespace Go.Proofs.YtljfmaaadnoggaaGreatDoor.cX
open Go Go.RowKit
variable {w w' xW:World} {F F' Cq O O' wx:Nat→Prop} {μ bC kZ:Nat→Nat} {K K' Gg:Nat→Prop} {H H' H'':Hp} {ft b8:Nat→Nat→Prop} {P:Program}
def iR (w:World) (F:Nat→Prop) (μ:Nat→Nat) (K:Nat→Prop) (l:List AV) (vs:List Value):Prop:=
 l.length=vs.length∧∀ i,i < l.length→VR w F μ K (l.getD i .top) (vs.getD i undef)
theorem iR.step {l:List AV} {vs:List Value} (hv:iR w F μ K l vs) (hr:HR w F O μ K H ft) (h:Fr w F O μ K w' F' O' bC) (hK:∀ id,K id→K' id):iR w' F' bC K' l vs:=
 ⟨hv.1,fun i hi=>(hv.2 i hi).step hr h hK⟩
theorem iR.nil:iR w F μ K [] []:=⟨rfl,fun i h=>by cases h⟩
theorem iR.cons {x:AV} {v:Value} {l:List AV} {vs:List Value} (h:VR w F μ K x v) (hs:iR w F μ K l vs):iR w F μ K (x::l) (v::vs):=
 ⟨by simp [hs.1],fun i hi=>by
  cases i with
  | zero=>simpa using h
  | succ i=>simpa using hs.2 i (by simpa using hi)⟩
theorem iR.agd {x:AV} {v:Value} {l:List AV} {vs:List Value} (h:iR w F μ K (x::l) (v::vs)):VR w F μ K x v∧iR w F μ K l vs:=
 ⟨by simpa using h.2 0 (by simp),by simpa using h.1,fun i hi=>by simpa using h.2 (i+1) (by simpa using hi)⟩
theorem iR.iH {vs:List Value} (h:iR w F μ K [] vs):vs=[]:=List.length_eq_zero_iff.1 h.1.symm
theorem iR.cons_inv {x:AV} {l:List AV} {vs:List Value} (h:iR w F μ K (x::l) vs):∃ v r,vs=v::r∧VR w F μ K x v∧iR w F μ K l r:=by
 cases vs with
 | nil=>exact absurd h.1 (by simp)
 | cons v r=>exact ⟨v,r,rfl,h.agd⟩
theorem iR.app {l m:List AV} {vs us:List Value} (h:iR w F μ K l vs) (h':iR w F μ K m us):iR w F μ K (l++m) (vs++us):=by
 induction l generalizing vs with
 | nil=>rw [h.iH];exact h'
 | cons x l ih=>
  obtain ⟨v,r,rfl,h1,h2⟩:=h.cons_inv
  exact .cons h1 (ih h2)
theorem VR.dd {k:IntKind} {n:Int} {v:Value} (h:VR w F μ K (.int k n) v):v=.int k n:=by cases h;rfl
theorem VR.eR {b:Bool} {v:Value} (h:VR w F μ K (.bool b) v):v=.bool b:=by cases h;rfl
theorem VR.jD {s:List UInt8} {v:Value} (h:VR w F μ K (.str s) v):v=.string ⟨⟨s⟩⟩:=by cases h;rfl
theorem VR.pY {v:Value} (h:VR w F μ K .ff v):v=.slice none 0 0:=by cases h;rfl
theorem VR.KT {u v:Value} (h:VR w F μ K (.lit u) v):v=u:=by cases h;rfl
theorem VR.ab_ {a:AV} {c:Bool} {v:Value} (h:VR w F μ K (.wh c a) v) (hc:c=true):VR w F μ K a v:=by cases h with | wh _ _ _ h=>exact h hc
theorem VR.fK {cs:List AV} {v:Value} (h:VR w F μ K (.agg cs) v):∃ vs:List Value,v=.agg ⟨vs⟩∧iR w F μ K cs vs:=by
 cases h with | agg _ vs hl hv=>exact ⟨vs,rfl,hl,hv⟩
theorem VR.KU {cs:List AV} {v:Value} (h:VR w F μ K (.ph cs) v):∃ vs:List Value,v=.tuple ⟨vs⟩∧iR w F μ K cs vs:=by
 cases h with | ph _ vs hl hv=>exact ⟨vs,rfl,hl,hv⟩
theorem VR.Dm {t:TypeId} {b:AV} {v:Value} (h:VR w F μ K (.pe t b) v):∃ u,v=.iface t u∧VR w F μ K b u:=by
 cases h with | pe _ _ u h=>exact ⟨u,rfl,h⟩
theorem VR.Ms {f:Fn} {xs ys:List AV} {v:Value} (h:VR w F μ K (.fn f xs ys) v):∃ vs us,v=.func f ⟨vs⟩ ⟨us⟩∧iR w F μ K xs vs∧iR w F μ K ys us:=by
 cases h with | fn _ _ _ vs us h h' hv hu=>exact ⟨vs,us,rfl,⟨h,hv⟩,h',hu⟩
theorem VR.rE {cs:List AV} {vs:List Value} (h:iR w F μ K cs vs):VR w F μ K (.agg cs) (.agg ⟨vs⟩):=.agg cs vs h.1 h.2
theorem VR.Nx {cs:List AV} {vs:List Value} (h:iR w F μ K cs vs):VR w F μ K (.ph cs) (.tuple ⟨vs⟩):=.ph cs vs h.1 h.2
theorem VR.aca {f:Fn} {xs ys:List AV} {vs us:List Value} (h:iR w F μ K xs vs) (h':iR w F μ K ys us):VR w F μ K (.fn f xs ys) (.func f ⟨vs⟩ ⟨us⟩):=.fn f xs ys vs us h.1 h'.1 h.2 h'.2
def ec (s:fU) (x:Operand) (a:AV):Prop:=∀ {w F O μ K ft act},SR w F O μ K s ft act→VR w F μ K a (act.eval x)
def Rj (s:fU) (xs:List Operand) (l:List AV):Prop:=∀ {w F O μ K ft act},SR w F O μ K s ft act→iR w F μ K l (xs.map act.eval)
theorem Rj.nil {s:fU}:Rj s [] []:=fun _=>.nil
theorem Rj.cons {s:fU} {x:Operand} {a:AV} {xs:List Operand} {l:List AV} (h:ec s x a) (h':Rj s xs l):Rj s (x::xs) (a::l):=fun hs=>.cons (h hs) (h' hs)
structure Res where
 v:AV
 up:List (Nat×Option kq)
 new:List Nat
def de (P:Program) (o:Oper) (s:fU) (r:Res):Prop:=
 ∀ (w:World) (F O:Nat→Prop) (μ:Nat→Nat) (K:Nat→Prop) (ft:Nat→Nat→Prop) (a:Act),SR w F O μ K s ft a→(∀ id,id∈r.new→¬ K id)→∀ (Kn:Act→World→Prop) (Q:Exit→Act→World→Prop),
  (∀ v w' F' O' bC b8,VR w' F' bC (plus K r.new) r.v v→HR w' F' O' bC (plus K r.new) (s.H.c_ r.up) b8→Fr w F O μ K w' F' O' bC→Kn (a.put o.dst v) w')→o.wp P a w Kn Q
def Y0 (P:Program) (o:Oper) (s:fU) (r:Res):Prop:=
 ∀ (w:World) (F O:Nat→Prop) (μ:Nat→Nat) (K:Nat→Prop) (ft:Nat→Nat→Prop) (a:Act),SR w F O μ K s ft a→(∀ id,id∈r.new→¬ K id)→∀ (Kn:Act→World→Prop) (Q:Exit→Act→World→Prop),
  (∀ v w' F' O' bC b8,VR w' F' bC (plus K r.new) r.v v→HR w' F' O' bC (plus K r.new) (s.H.c_ r.up) b8→Fr w F O μ K w' F' O' bC→Q (.panic [{ v,recovered:=false }]) a w')→o.wp P a w Kn Q
def iu (a b:AV):Prop:=∀ {w F μ K v},VR w F μ K a v→VR w F μ K b v
theorem iu.refl (a:AV):iu a a:=fun h=>h
theorem iu.top (a:AV):iu a .top:=fun _=>.top _
theorem iu.ff (bB:Nat) (e:Nat→Nat→AV):iu .ff (.fs bB 0 e):=fun h=>by cases h;exact .wv _ _ _ _
theorem iu.wh (c:Bool) (a:AV):iu a (.wh c a):=fun h=>.wh c a _ fun _=>h
structure aaw (s' s:fU):Prop where
 nt:s'.nt=s.nt
 tm:∀ t,iu (s.tm t) (s'.tm t)
 H:Part s'.H s.H
theorem SR.less {s s':fU} {a:Act} (h:SR w F O μ K s ft a) (l:aaw s' s):SR w F (NY s'.H ft) μ K s' ft a where
 hr:=h.hr.part l.H
 nt:=h.nt.trans l.nt.symm
 tm:=fun t=>l.tm t (h.tm t)
 df:=h.df.sub (fun b ⟨id,hl,hx⟩=>h.hr.own id (l.H.live hl) b hx) fun b hb=>.inl hb
theorem de.more {o:Oper} {s s':fU} {r:Res} (h:de P o s r) (l:aaw s s'):de P o s' r:=by
 intro w F O μ K ft a hs hn Kn Q hk
 refine h w F _ μ K ft a (hs.less l) hn Kn Q fun v w' F' O' bC b8 hv hr hf=>?_
 obtain ⟨wx,Mr,h1,h2⟩:=frame hs.hr l.H (fun id h=>.inl h) hr hf
 exact hk v w' F' wx bC Mr hv h1 h2
theorem Y0.more {o:Oper} {s s':fU} {r:Res} (h:Y0 P o s r) (l:aaw s s'):Y0 P o s' r:=by
 intro w F O μ K ft a hs hn Kn Q hk
 refine h w F _ μ K ft a (hs.less l) hn Kn Q fun v w' F' O' bC b8 hv hr hf=>?_
 obtain ⟨wx,Mr,h1,h2⟩:=frame hs.hr l.H (fun id h=>.inl h) hr hf
 exact hk v w' F' wx bC Mr hv h1 h2
theorem de.imp {o:Oper} {s:fU} {r:Res} {v:AV} (h:de P o s r) (hi:iu r.v v):de P o s { r with v:=v }:=
 fun w F O μ K ft a hs hn Kn Q hk=>h w F O μ K ft a hs hn Kn Q fun v w' F' O' bC b8 hv hr hf=>hk v w' F' O' bC b8 (hi hv) hr hf
theorem VR.drew {a:AV} {v:Value} (n:Nat) (h:VR w F μ K a v):VR { w with drawn:=n } F μ K a v:=
 h.mono (fun _ _=>rfl) (fun _ h=>h) (fun _ _=>rfl) (fun _ h=>h) (fun _ _=>rfl)
theorem HR.drew (n:Nat) (h:HR w F O μ K H ft):HR { w with drawn:=n } F O μ K H ft:=by
 have hb:∀ id b,H id=some b→b.fa=true→∃ o,({ w with drawn:=n }:World).heap[μ id]?=some o∧h_ { w with drawn:=n } F μ K (ft id) (μ id) o b:=by
  intro id b hb hl
  obtain ⟨o,ho,hB⟩:=h.dw id b hb hl
  exact ⟨o,ho,hB.mono (fun _ _=>rfl) (fun _ h=>h) (fun _ _=>rfl) (fun _ h=>h) (fun _ _=>rfl) fun _ _ _=>rfl⟩
 exact ⟨h.lt,h.known,hb,h.self,h.own,h.dj,h.z8,h.wf,h.rH,h.pos.mono (Nat.le_refl _) (fun _ h=>h) fun _ _=>rfl⟩
theorem Fr.drew (n:Nat):Fr w F O μ K { w with drawn:=n } F O μ:={ Fr.refl w F O μ K with }
structure Gw (w w':World):Prop where
 os:w'.os=w.os
 tape:w'.tape=w.tape
 output:w'.output=w.output
 size:w.heap.size≤w'.heap.size
 same:∀ b,b < w.heap.size→w'.heap[b]?=w.heap[b]?
theorem Gw.refl (w:World):Gw w w:=⟨rfl,rfl,rfl,Nat.le_refl _,fun _ _=>rfl⟩
theorem Gw.trans {w1 w2 w3:World} (h:Gw w1 w2) (k:Gw w2 w3):Gw w1 w3:=
 ⟨k.os.trans h.os,k.tape.trans h.tape,k.output.trans h.output,Nat.le_trans h.size k.size,fun b hb=>(k.same b (Nat.lt_of_lt_of_le hb h.size)).trans (h.same b hb)⟩
theorem Gw.shape (h:Gw w w') {b:Nat} (hb:b < w.heap.size):w'.shape? b=w.shape? b:=by
 unfold World.shape?
 rw [h.same b hb]
theorem Gw.fr (h:Gw w w'):Fr w F O μ K w' F O μ:=
 ⟨h.os,h.tape,h.output,h.size,fun _ _=>rfl,fun _ h=>h,fun _ hb=>h.shape hb,fun b hb _=>h.same b hb,fun _ h=>.inl h,fun _ h=>.inl h⟩
theorem HR.gw (hr:HR w F O μ K H ft) (h:Gw w w'):HR w' F O μ K H ft where
 lt:=fun id cb=>Nat.lt_of_lt_of_le (hr.lt id cb) h.size
 known:=hr.known
 dw:=fun id b hb hl=>by
  obtain ⟨o,ho,hB⟩:=hr.dw id b hb hl
  refine ⟨o,by rw [h.same _ (hr.lt id (hr.known id b hb))];exact ho,hB.mono (fun x hx=>h.same x (hr.wf x hx)) (fun _ h=>h) (fun _ _=>rfl) (fun _ h=>h) (fun i hi=>h.shape (hr.lt i hi)) fun x hx _=>h.same x (hr.rH x (hr.own id ⟨b,hb,hl⟩ x hx))⟩
 self:=hr.self
 own:=hr.own
 dj:=hr.dj
 z8:=hr.z8
 wf:=fun b hb=>Nat.lt_of_lt_of_le (hr.wf b hb) h.size
 rH:=fun b hb=>Nat.lt_of_lt_of_le (hr.rH b hb) h.size
 pos:=hr.pos.mono h.size (fun _ h=>h) fun b hb=>h.same b (hr.wf b hb)
structure Kp (w w':World) (F O:Nat→Prop):Prop where
 os:w'.os=w.os
 tape:w'.tape=w.tape
 output:w'.output=w.output
 size:w.heap.size≤w'.heap.size
 NZ:∀ b,F b∨O b→w'.heap[b]?=w.heap[b]?
 shape:∀ b,b < w.heap.size→w'.shape? b=w.shape? b
theorem Kp.refl (w:World) (F O:Nat→Prop):Kp w w F O:=⟨rfl,rfl,rfl,Nat.le_refl _,fun _ _=>rfl,fun _ _=>rfl⟩
theorem Kp.trans (h:Kp w w' F O) (k:Kp w' xW F O):Kp w xW F O:=
 ⟨k.os.trans h.os,k.tape.trans h.tape,k.output.trans h.output,Nat.le_trans h.size k.size,fun b hb=>(k.NZ b hb).trans (h.NZ b hb),fun b hb=>(k.shape b (Nat.lt_of_lt_of_le hb h.size)).trans (h.shape b hb)⟩
theorem Kp.sub (h:Kp w w' F O) (hF:∀ b,F' b→F b∨O b) (hO:∀ b,O' b→F b∨O b):Kp w w' F' O':=
 { h with NZ:=fun b hb=>h.NZ b (hb.elim (hF b) (hO b)) }
theorem HR.kp (hr:HR w F O μ K H ft) (h:Kp w w' F O):HR w' F O μ K H ft where
 lt:=fun id cb=>Nat.lt_of_lt_of_le (hr.lt id cb) h.size
 known:=hr.known
 dw:=fun id b hb hl=>by
  obtain ⟨o,ho,hB⟩:=hr.dw id b hb hl
  have iM:H.live id:=⟨b,hb,hl⟩
  refine ⟨o,by rw [h.NZ _ (.inr (hr.own id iM _ (hr.self id iM)))];exact ho,hB.mono (fun x hx=>h.NZ x (.inl hx)) (fun _ h=>h) (fun _ _=>rfl) (fun _ h=>h) (fun i hi=>h.shape _ (hr.lt i hi)) fun x hx _=>h.NZ x (.inr (hr.own id iM x hx))⟩
 self:=hr.self
 own:=hr.own
 dj:=hr.dj
 z8:=hr.z8
 wf:=fun b hb=>Nat.lt_of_lt_of_le (hr.wf b hb) h.size
 rH:=fun b hb=>Nat.lt_of_lt_of_le (hr.rH b hb) h.size
 pos:=hr.pos.mono h.size (fun _ h=>h) fun b hb=>h.NZ b (.inl hb)
theorem VR.kp {a:AV} {v:Value} (hv:VR w F μ K a v) (hr:HR w F O μ K H ft) (h:Kp w w' F O):VR w' F μ K a v:=
 hv.mono (fun b hb=>h.NZ b (.inl hb)) (fun _ h=>h) (fun _ _=>rfl) (fun _ h=>h) fun id cb=>h.shape _ (hr.lt id cb)
def KV (μ:Nat→Nat) (N B:Nat):Nat→Nat:=fun id=>if id=N then B else μ id
theorem iI (μ:Nat→Nat) (N B:Nat):KV μ N B N=B:=by simp [KV]
theorem KW {μ:Nat→Nat} {N B id:Nat} (h:id≠N):KV μ N B id=μ id:=by simp [KV,h]
theorem aax {μ:Nat→Nat} {N B:Nat} (h:K N→μ N=B) {id:Nat} (cb:K id):KV μ N B id=μ id:=by
 by_cases e:id=N
 ·subst e;rw [iI];exact (h cb).symm
 ·exact KW e
structure tz (w w':World) (B:Nat) (o:Obj):Prop where
 os:w'.os=w.os
 tape:w'.tape=w.tape
 output:w'.output=w.output
 size:w.heap.size≤w'.heap.size
 lt:B < w'.heap.size
 at_:w'.heap[B]?=some o
 other:∀ x,x < w.heap.size→x≠B→w'.heap[x]?=w.heap[x]?
 shape:∀ x,x < w.heap.size→w'.shape? x=w.shape? x
def gX (L:List Nat):List (Nat×Option kq):=L.map fun i=>(i,none)
theorem zT (L:List Nat) (id:Nat):H.c_ (gX L) id=if id∈L then none else H id:=by
 induction L with
 | nil=>simp [gX,Hp.c_]
 | cons x L ih=>
  simp only [gX,List.map_cons,Hp.c_,List.mem_cons] at ih ⊢
  by_cases e:id=x
  ·simp [e]
  ·simp [e,ih]
theorem KX {M B:Nat} {o:Obj} {b:kq} {L:List Nat} {S:Nat→Prop} (hr:HR w F O μ K H ft) (hp:tz w w' B o)
  (hO:O B∨w.heap.size≤B) (hM:K M→μ M=B) (hS:∀ x,S x→x=B∨∃ id,(id=M∨id∈L)∧H.live id∧ft id x) (hSB:S B)
  (hX:∀ id,H.live id→id≠M→id ∉ L→¬ ft id B) (hB:h_ w F μ K S B o b):
  HR w' F (fun x=>O x∨x=B) (KV μ M B) (plus K [M]) (H.c_ ((M,some b)::gX L)) (fun id=>if id=M then S else ft id)∧Fr w F O μ K w' F (fun x=>O x∨x=B) (KV μ M B):=by
 have c_:∀ id,H.c_ ((M,some b)::gX L) id=if id=M then some b else if id∈L then none else H id:=fun id=>by
  show (if id=M then some b else H.c_ (gX L) id)=_
  rw [zT]
 have ahA:¬ F B:=fun hF=>by
  rcases hO with h | h
  ·exact hr.z8 B h hF
  ·have:=hr.wf B hF;omega
 have qU:∀ x,F x→w'.heap[x]?=w.heap[x]?:=fun x hx=>hp.other x (hr.wf x hx) fun e=>ahA (e▸hx)
 have mu:∀ id,K id→KV μ M B id=μ id:=fun id cb=>aax hM cb
 have zS:∀ id,(H.c_ ((M,some b)::gX L)).live id→id=M∨(id≠M∧id ∉ L∧H.live id):=by
  rintro id ⟨b',cu,hl⟩
  rw [c_] at cu
  by_cases e:id=M
  ·exact .inl e
  ·rw [if_neg e] at cu
   by_cases e2:id∈L
   ·rw [if_pos e2] at cu;cases cu
   ·rw [if_neg e2] at cu
    exact .inr ⟨e,e2,b',cu,hl⟩
 have HN:∀ id,H.live id→∀ x,ft id x→x≠B→w'.heap[x]?=w.heap[x]?:=fun id hl x hx e=>hp.other x (hr.rH x (hr.own id hl x hx)) e
 refine ⟨{ lt:=?_,known:=?_,dw:=?_,self:=?_,own:=?_,dj:=?_,z8:=?_,wf:=?_,rH:=?_,pos:=hr.pos.mono hp.size (fun _ h=>h) qU },
  { os:=hp.os,tape:=hp.tape,output:=hp.output,size:=hp.size,mu:=mu,Bw:=fun _ h=>h,shape:=hp.shape,same:=?_,Gf:=?_,JB:=fun _ h=>.inl h }⟩
 ·rintro id (h | h)
  ·rw [mu id h];exact Nat.lt_of_lt_of_le (hr.lt id h) hp.size
  ·obtain rfl:id=M:=by simpa using h
   rw [iI];exact hp.lt
 ·intro id b' cu
  rw [c_] at cu
  by_cases e:id=M
  ·exact .inr (by simp [e])
  ·rw [if_neg e] at cu
   split at cu
   ·cases cu
   ·exact .inl (hr.known id b' cu)
 ·intro id b' cu hl
  rw [c_] at cu
  by_cases e:id=M
  ·subst e
   rw [if_pos rfl] at cu
   cases cu
   simp only [if_true,iI]
   refine ⟨o,hp.at_,hB.mono qU (fun _ h=>h) mu (fun _ h=>.inl h) (fun id cb=>hp.shape _ (hr.lt id cb)) fun x hx pw=>?_⟩
   rcases hS x hx with h | ⟨cg,_,h2,h3⟩
   ·exact absurd h pw
   ·exact HN cg h2 x h3 pw
  ·rw [if_neg e] at cu
   split at cu
   ·cases cu
   ·rename_i e2
    simp only [if_neg e]
    have iM:H.live id:=⟨b',cu,hl⟩
    obtain ⟨o0,ho0,hB0⟩:=hr.dw id b' cu hl
    rw [mu id (hr.known id b' cu)]
    refine ⟨o0,by rw [HN id iM _ (hr.self id iM) fun e3=>hX id iM e e2 (e3▸hr.self id iM)];exact ho0,hB0.mono qU (fun _ h=>h) mu (fun _ h=>.inl h) (fun id cb=>hp.shape _ (hr.lt id cb)) fun x hx _=>?_⟩
    exact HN id iM x hx fun e3=>hX id iM e e2 (e3▸hx)
 ·intro id hl
  rcases zS id hl with e | ⟨e,_,h⟩
  ·subst e;simp only [if_true,iI];exact hSB
  ·simp only [if_neg e];rw [mu id (hr.qS h)];exact hr.self id h
 ·intro id hl x hx
  rcases zS id hl with e | ⟨e,_,h⟩
  ·subst e
   simp only [if_true] at hx
   rcases hS x hx with h | ⟨cg,_,h2,h3⟩
   ·exact .inr h
   ·exact .inl (hr.own cg h2 x h3)
  ·simp only [if_neg e] at hx
   exact .inl (hr.own id h x hx)
 ·have cr:∀ id,id≠M→id ∉ L→H.live id→∀ x,S x→ft id x→False:=by
   intro id e e2 hl x hx ll
   rcases hS x hx with h | ⟨cg,h1,h2,h3⟩
   ·exact hX id hl e e2 (h▸ll)
   ·have:=hr.dj id cg hl h2 x ll h3
    subst this
    rcases h1 with h1 | h1
    ·exact e h1
    ·exact e2 h1
  intro id cg hl Ds x hx ll
  rcases zS id hl with e | ⟨e,e2,h⟩<;>rcases zS cg Ds with k | ⟨k,k2,h'⟩
  ·rw [e,k]
  ·rw [if_pos e] at hx;rw [if_neg k] at ll
   exact (cr cg k k2 h' x hx ll).elim
  ·rw [if_neg e] at hx;rw [if_pos k] at ll
   exact (cr id e e2 h x ll hx).elim
  ·rw [if_neg e] at hx;rw [if_neg k] at ll
   exact hr.dj id cg h h' x hx ll
 ·rintro x (h | h)
  ·exact hr.z8 x h
  ·exact h▸ahA
 ·exact fun x hx=>Nat.lt_of_lt_of_le (hr.wf x hx) hp.size
 ·rintro x (h | h)
  ·exact Nat.lt_of_lt_of_le (hr.rH x h) hp.size
  ·exact h▸hp.lt
 ·exact fun x hx hn=>hp.other x hx fun e=>by
   rcases hO with h | h
   ·exact hn (e▸h)
   ·omega
 ·rintro x (h | h)
  ·exact .inl h
  ·rcases hO with h2 | h2
   ·exact .inl (h▸h2)
   ·exact .inr (h▸h2)
theorem XD {M:Nat} (h:K M):plus K [M]=K:=by
 funext id
 simp only [plus,List.mem_singleton,eq_iff_iff]
 exact ⟨fun h'=>h'.elim (fun h=>h) fun e=>e▸h,.inl⟩
theorem Gh (w:World) (o:Obj):(w.alloc o).heap[w.heap.size]?=some o:=by
 show (w.heap.push o)[_]?=_
 simp
theorem Mt (w:World) (o:Obj):tz w (w.alloc o) w.heap.size o where
 os:=rfl
 tape:=rfl
 output:=rfl
 size:=by simp
 lt:=by simp
 at_:=Gh w o
 other:=fun x hx _=>Below.heap_alloc _ _ _ hx
 shape:=fun x hx=>by unfold World.shape?;rw [Below.heap_alloc _ _ _ hx]
theorem Gw.alloc (w:World) (o:Obj):Gw w (w.alloc o):=
 have p:=Mt w o
 ⟨p.os,p.tape,p.output,p.size,fun b hb=>p.other b hb (Nat.ne_of_lt hb)⟩
theorem JC {N:Nat} {o:Obj} {b:kq} {L:List Nat} {S:Nat→Prop} (hr:HR w F O μ K H ft) (hN:¬ K N) (hS:∀ x,S x→x=w.heap.size∨∃ id,id∈L∧H.live id∧ft id x) (hSB:S w.heap.size)
  (hB:h_ w F μ K S w.heap.size o b):
  ∃ O' b8,HR (w.alloc o) F O' (KV μ N w.heap.size) (plus K [N]) (H.c_ ((N,some b)::gX L)) b8∧Fr w F O μ K (w.alloc o) F O' (KV μ N w.heap.size):=
 ⟨_,_,KX hr (Mt w o) (.inr (Nat.le_refl _)) (fun h=>absurd h hN) (fun x hx=>(hS x hx).imp id fun ⟨id,h1,h2⟩=>⟨id,.inr h1,h2⟩) hSB
  (fun id hl _ _ hx=>by have:=hr.rH _ (hr.own id hl _ hx);omega) hB⟩
def jP (w:World) (b:Nat) (o:Obj):World:={ w with heap:=w.heap.setIfInBounds b o }
theorem Sf (w:World) (b:Nat) (o:Obj):(jP w b o).heap.size=w.heap.size:=by simp [jP]
theorem yo {b:Nat} (h:b < w.heap.size) (o:Obj):(jP w b o).heap[b]?=some o:=by simp [jP,h]
theorem PF {b k:Nat} (h:k≠b) (o:Obj):(jP w b o).heap[k]?=w.heap[k]?:=by simp [jP,Array.getElem?_setIfInBounds_ne (Ne.symm h)]
theorem Mu (w:World) (b:Nat) (o o':Obj):jP (jP w b o) b o'=jP w b o':=by
 unfold jP
 congr 1
 simp
theorem adI {b:Nat} {o:Obj} (h:w.heap[b]?=some o):jP w b o=w:=by
 have dQ:b < w.heap.size:=(Array.getElem?_eq_some_iff.1 h).1
 have he:w.heap.setIfInBounds b o=w.heap:=by
  refine Array.ext_getElem? fun k=>?_
  by_cases e:b=k
  ·subst e;rw [h];simp [dQ]
  ·simp [Array.getElem?_setIfInBounds_ne e]
 unfold jP
 rw [he]
def sameShape:Obj→Obj→Prop
 | .cells c t _,.cells c' t' _=>t=t'∧c.size=c'.size
 | .cells ..,_ | _,.cells ..=>False
 | _,_=>True
theorem acb {a b:Nat} {o o':Obj} (h:w.heap[b]?=some o) (h':w'.heap[a]?=some o') (hs:sameShape o o'):w'.shape? a=w.shape? b:=by
 unfold World.shape?
 rw [h,h']
 cases o<;>cases o'<;>simp [sameShape] at hs ⊢
 exact ⟨hs.1.symm,hs.2.symm⟩
theorem VF {b:Nat} {o o':Obj} (h:w.heap[b]?=some o) (hs:sameShape o o'):tz w (jP w b o') b o' where
 os:=rfl
 tape:=rfl
 output:=rfl
 size:=by rw [Sf];exact Nat.le_refl _
 lt:=by rw [Sf];exact (Array.getElem?_eq_some_iff.1 h).1
 at_:=yo (Array.getElem?_eq_some_iff.1 h).1 o'
 other:=fun x _ pw=>PF pw o'
 shape:=fun x _=>by
  by_cases e:x=b
  ·subst e
   exact acb h (yo (Array.getElem?_eq_some_iff.1 h).1 o') hs
  ·unfold World.shape?
   rw [PF e]
theorem ma {N:Nat} {o o':Obj} {b b':kq} {L:List Nat} {S:Nat→Prop} (hr:HR w F O μ K H ft) (hb:H N=some b) (hl:b.fa=true) (ho:w.heap[μ N]?=some o) (hs:sameShape o o')
  (hNL:N ∉ L) (hS:∀ x,S x→∃ id,(id=N∨id∈L)∧H.live id∧ft id x) (hSB:S (μ N)) (hB:h_ w F μ K S (μ N) o' b'):
  ∃ O' b8,HR (jP w (μ N) o') F O' μ K (H.c_ ((N,some b')::gX L)) b8∧Fr w F O μ K (jP w (μ N) o') F O' μ:=by
 have iM:H.live N:=⟨b,hb,hl⟩
 have hk:=hr.qS iM
 have e1:KV μ N (μ N)=μ:=by
  funext id
  by_cases e:id=N
  ·subst e;exact iI _ _ _
  ·exact KW e
 have h:=KX (M:=N) (L:=L) (S:=S) hr (VF ho hs) (.inl (hr.own N iM _ (hr.self N iM))) (fun _=>rfl) (fun x hx=>.inr (hS x hx)) hSB
  (fun id h1 h2 _ h4=>h2 (hr.dj id N h1 iM _ h4 (hr.self N iM))) hB
 rw [e1,XD hk] at h
 exact ⟨_,_,h⟩
theorem aay {N M:Nat} {o o':Obj} {b b':kq} {L:List Nat} {S:Nat→Prop} (hr:HR w F O μ K H ft) (hM:¬ K M) (hb:H N=some b) (hl:b.fa=true) (ho:w.heap[μ N]?=some o) (hs:sameShape o o')
  (hS:∀ x,S x→∃ id,(id=N∨id∈L)∧H.live id∧ft id x) (hSB:S (μ N)) (hB:h_ w F μ K S (μ N) o' b'):
  ∃ O' b8,HR (jP w (μ N) o') F O' (KV μ M (μ N)) (plus K [M]) (H.c_ ((M,some b')::gX (N::L))) b8∧Fr w F O μ K (jP w (μ N) o') F O' (KV μ M (μ N)):=by
 have iM:H.live N:=⟨b,hb,hl⟩
 exact ⟨_,_,KX (M:=M) (L:=N::L) (S:=S) hr (VF ho hs) (.inl (hr.own N iM _ (hr.self N iM))) (fun h=>absurd h hM)
  (fun x hx=>.inr (by obtain ⟨id,h1,h2⟩:=hS x hx;exact ⟨id,.inr (by simpa using h1),h2⟩)) hSB
  (fun id h1 _ h3 h4=>h3 (by rw [hr.dj id N h1 iM _ h4 (hr.self N iM)];simp)) hB⟩
theorem G3 {N:Nat} {bB:Nat} {e:Nat→Nat→AV} (hr:HR w F O μ K H ft) (hN:¬ K N):
  HR w F O (KV μ N 0) (plus K [N]) (H.c_ [(N,some (.row true bB 0 e))]) ft∧Fr w F O μ K w F O (KV μ N 0):=by
 have mu:∀ id,K id→KV μ N 0 id=μ id:=fun id cb=>KW fun e=>hN (e▸cb)
 have zS:∀ id b,(H.c_ [(N,some (.row true bB 0 e))]) id=some b→b.fa=true→H id=some b:=by
  intro id b hb hl
  rw [Hp.Dr] at hb
  split at hb
  ·cases hb;cases hl
  ·exact hb
 have gx:∀ id,(H.c_ [(N,some (.row true bB 0 e))]).live id→H.live id:=fun id ⟨b,hb,hl⟩=>⟨b,zS id b hb hl,hl⟩
 refine ⟨{ lt:=?_,known:=?_,dw:=?_,self:=?_,own:=fun id hl=>hr.own id (gx id hl),dj:=fun id cg hl Ds=>hr.dj id cg (gx id hl) (gx cg Ds),z8:=hr.z8,wf:=hr.wf,rH:=hr.rH,pos:=hr.pos },
  { Fr.refl w F O μ K with mu:=mu }⟩
 ·rintro id (h | h)
  ·rw [mu id h];exact hr.lt id h
  ·obtain rfl:id=N:=by simpa using h
   rw [iI];exact hr.pos.lt
 ·intro id b hb
  rw [Hp.Dr] at hb
  split at hb
  ·rename_i e;exact .inr (by simp [e])
  ·exact .inl (hr.known id b hb)
 ·intro id b hb hl
  have cu:=zS id b hb hl
  obtain ⟨o,ho,hB⟩:=hr.dw id b cu hl
  rw [mu id (hr.known id b cu)]
  exact ⟨o,ho,hB.mono (fun _ _=>rfl) (fun _ h=>h) mu (fun _ h=>.inl h) (fun _ _=>rfl) fun _ _ _=>rfl⟩
 ·intro id hl
  rw [mu id (hr.qS (gx id hl))]
  exact hr.self id (gx id hl)
theorem VG (H:Hp) (L:List Nat):Part (H.c_ (gX L)) H:=fun id=>by
 rw [zT]
 split
 ·exact .inl rfl
 ·exact .inr rfl
theorem cd {o:Oper} {s:fU} {rv:AV}
  (h:∀ {w F O μ K ft a},SR w F O μ K s ft a→∃ v,(execOp a.eval o).run P w=.ok (.value v) w∧VR w F μ K rv v):de P o s ⟨rv,[],[]⟩:=by
 intro w F O μ K ft a hs _ Kn Q hk
 obtain ⟨v,hv,hr⟩:=h hs
 unfold Oper.wp
 rw [hv,Oper.upon_value]
 refine hk v w F O μ ft ?_ ?_ (Fr.refl w F O μ K)<;>simp only [jC,Hp.TL]
 ·exact hr
 ·exact hs.hr
theorem uO {o:Oper} {s:fU} {rv:AV} {N:Nat} {b:kq}
  (h:∀ {w F O μ K ft a},SR w F O μ K s ft a→∃ v ob n,(execOp a.eval o).run P w=.ok (.value v) (({ w with drawn:=n }:World).alloc ob)∧h_ w F μ K (fun x=>x=w.heap.size) w.heap.size ob b∧
   ∀ w' bC,(∀ x u,VR w F μ K x u→VR w' F bC (plus K [N]) x u)→w'.heap[w.heap.size]?=some ob→bC N=w.heap.size→VR w' F bC (plus K [N]) rv v):de P o s ⟨rv,[(N,some b)],[N]⟩:=by
 intro w F O μ K ft a hs hn Kn Q hk
 obtain ⟨v,ob,n,hv,hb,hr⟩:=h hs
 have hN:¬ K N:=hn N (by simp)
 have Ky:HR { w with drawn:=n } F O μ K s.H ft:=hs.hr.drew n
 obtain ⟨O',b8,h1,h2⟩:=JC (w:={ w with drawn:=n }) (L:=[]) (S:=fun x=>x=w.heap.size) Ky hN (fun x hx=>.inl hx) rfl (o:=ob) (b:=b)
  (hb.mono (fun _ _=>rfl) (fun _ h=>h) (fun _ _=>rfl) (fun _ h=>h) (fun _ _=>rfl) fun _ _ _=>rfl)
 unfold Oper.wp
 rw [hv,Oper.upon_value]
 have h3:=(Fr.drew (w:=w) (F:=F) (O:=O) (μ:=μ) (K:=K) n).trans h2
 exact hk v _ F O' _ b8 (hr _ _ (fun x u hx=>hx.step hs.hr h3 fun _ h=>.inl h) (Gh ({ w with drawn:=n }:World) ob) (iI _ _ _)) h1 h3
end Go.Proofs.YtljfmaaadnoggaaGreatDoor.cX
