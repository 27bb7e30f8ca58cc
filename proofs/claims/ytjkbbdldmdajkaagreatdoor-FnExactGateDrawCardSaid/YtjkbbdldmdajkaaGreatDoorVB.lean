/- What one operation does to an abstract state; the steps of memory. No condition. -/
import Derived.Test.YtjkbbdldmdajkaaGreatDoorVA
set_option linter.unusedSimpArgs false
set_option linter.unusedVariables false
namespace Go.Proofs.YtjkbbdldmdajkaaGreatDoor.c5
open Go Go.RowKit
variable {w w' ss:World} {F F' zT O O' uo:Nat→Prop} {μ aZ jE:Nat→Nat} {K K' C9:Nat→Prop} {H H' H'':Hp} {ft bX:Nat→Nat→Prop} {P:Program}
def gZ (w:World) (F:Nat→Prop) (μ:Nat→Nat) (K:Nat→Prop) (l:List AV) (vs:List Value):Prop:=
 l.length=vs.length∧∀ i,i < l.length→VR w F μ K (l.getD i .top) (vs.getD i undef)
theorem gZ.step {l:List AV} {vs:List Value} (hv:gZ w F μ K l vs) (hr:HR w F O μ K H ft) (h:Fr w F O μ K w' F' O' aZ) (hK:∀ id,K id→K' id):gZ w' F' aZ K' l vs:=
 ⟨hv.1,fun i hi=>(hv.2 i hi).step hr h hK⟩
theorem gZ.nil:gZ w F μ K [] []:=⟨rfl,fun i h=>by cases h⟩
theorem gZ.cons {x:AV} {v:Value} {l:List AV} {vs:List Value} (h:VR w F μ K x v) (hs:gZ w F μ K l vs):gZ w F μ K (x::l) (v::vs):=
 ⟨by simp [hs.1],fun i hi=>by
  cases i with
  | zero=>simpa using h
  | succ i=>simpa using hs.2 i (by simpa using hi)⟩
theorem gZ.adG {x:AV} {v:Value} {l:List AV} {vs:List Value} (h:gZ w F μ K (x::l) (v::vs)):VR w F μ K x v∧gZ w F μ K l vs:=
 ⟨by simpa using h.2 0 (by simp),by simpa using h.1,fun i hi=>by simpa using h.2 (i+1) (by simpa using hi)⟩
theorem gZ.gY {vs:List Value} (h:gZ w F μ K [] vs):vs=[]:=List.length_eq_zero_iff.1 h.1.symm
theorem gZ.cons_inv {x:AV} {l:List AV} {vs:List Value} (h:gZ w F μ K (x::l) vs):∃ v r,vs=v::r∧VR w F μ K x v∧gZ w F μ K l r:=by
 cases vs with
 | nil=>exact absurd h.1 (by simp)
 | cons v r=>exact ⟨v,r,rfl,h.adG⟩
theorem gZ.app {l m:List AV} {vs us:List Value} (h:gZ w F μ K l vs) (h':gZ w F μ K m us):gZ w F μ K (l++m) (vs++us):=by
 induction l generalizing vs with
 | nil=>rw [h.gY];exact h'
 | cons x l ih=>
  obtain ⟨v,r,rfl,h1,h2⟩:=h.cons_inv;exact .cons h1 (ih h2)
theorem VR.c8 {k:IntKind} {n:Int} {v:Value} (h:VR w F μ K (.int k n) v):v=.int k n:=by cases h;rfl
theorem VR.eR {b:Bool} {v:Value} (h:VR w F μ K (.bool b) v):v=.bool b:=by cases h;rfl
theorem VR.jn {s:List UInt8} {v:Value} (h:VR w F μ K (.str s) v):v=.string ⟨⟨s⟩⟩:=by cases h;rfl
theorem VR.pr {v:Value} (h:VR w F μ K .fb v):v=.slice none 0 0:=by cases h;rfl
theorem VR.Ir {u v:Value} (h:VR w F μ K (.lit u) v):v=u:=by cases h;rfl
theorem VR.ZA {a:AV} {c:Bool} {v:Value} (h:VR w F μ K (.wh c a) v) (hc:c=true):VR w F μ K a v:=by cases h with | wh _ _ _ h=>exact h hc
theorem VR.fH {cs:List AV} {v:Value} (h:VR w F μ K (.agg cs) v):∃ vs:List Value,v=.agg ⟨vs⟩∧gZ w F μ K cs vs:=by
 cases h with | agg _ vs hl hv=>exact ⟨vs,rfl,hl,hv⟩
theorem VR.It {cs:List AV} {v:Value} (h:VR w F μ K (.ov cs) v):∃ vs:List Value,v=.tuple ⟨vs⟩∧gZ w F μ K cs vs:=by
 cases h with | ov _ vs hl hv=>exact ⟨vs,rfl,hl,hv⟩
theorem VR.BH {t:TypeId} {b:AV} {v:Value} (h:VR w F μ K (.oR t b) v):∃ u,v=.iface t u∧VR w F μ K b u:=by
 cases h with | oR _ _ u h=>exact ⟨u,rfl,h⟩
theorem VR.G7 {f:Fn} {xs ys:List AV} {v:Value} (h:VR w F μ K (.fn f xs ys) v):∃ vs us,v=.func f ⟨vs⟩ ⟨us⟩∧gZ w F μ K xs vs∧gZ w F μ K ys us:=by
 cases h with | fn _ _ _ vs us h h' hv hu=>exact ⟨vs,us,rfl,⟨h,hv⟩,h',hu⟩
theorem VR.qO {cs:List AV} {vs:List Value} (h:gZ w F μ K cs vs):VR w F μ K (.agg cs) (.agg ⟨vs⟩):=.agg cs vs h.1 h.2
theorem VR.KR {cs:List AV} {vs:List Value} (h:gZ w F μ K cs vs):VR w F μ K (.ov cs) (.tuple ⟨vs⟩):=.ov cs vs h.1 h.2
theorem VR.ZB {f:Fn} {xs ys:List AV} {vs us:List Value} (h:gZ w F μ K xs vs) (h':gZ w F μ K ys us):VR w F μ K (.fn f xs ys) (.func f ⟨vs⟩ ⟨us⟩):=.fn f xs ys vs us h.1 h'.1 h.2 h'.2
def dT (s:fG) (x:Operand) (a:AV):Prop:=∀ {w F O μ K ft act},SR w F O μ K s ft act→VR w F μ K a (act.eval x)
def OK (s:fG) (xs:List Operand) (l:List AV):Prop:=∀ {w F O μ K ft act},SR w F O μ K s ft act→gZ w F μ K l (xs.map act.eval)
theorem OK.nil {s:fG}:OK s [] []:=fun _=>.nil
theorem OK.cons {s:fG} {x:Operand} {a:AV} {xs:List Operand} {l:List AV} (h:dT s x a) (h':OK s xs l):OK s (x::xs) (a::l):=fun hs=>.cons (h hs) (h' hs)
structure Res where
 v:AV
 up:List (Nat×Option jz)
 new:List Nat
def dg (P:Program) (o:Oper) (s:fG) (r:Res):Prop:=
 ∀ (w:World) (F O:Nat→Prop) (μ:Nat→Nat) (K:Nat→Prop) (ft:Nat→Nat→Prop) (a:Act),SR w F O μ K s ft a→(∀ id,id∈r.new→¬ K id)→∀ (Kn:Act→World→Prop) (Q:Exit→Act→World→Prop),
  (∀ v w' F' O' aZ bX,VR w' F' aZ (plus K r.new) r.v v→HR w' F' O' aZ (plus K r.new) (s.H.c_ r.up) bX→Fr w F O μ K w' F' O' aZ→Kn (a.put o.dst v) w')→o.wp P a w Kn Q
def V3 (P:Program) (o:Oper) (s:fG) (r:Res):Prop:=
 ∀ (w:World) (F O:Nat→Prop) (μ:Nat→Nat) (K:Nat→Prop) (ft:Nat→Nat→Prop) (a:Act),SR w F O μ K s ft a→(∀ id,id∈r.new→¬ K id)→∀ (Kn:Act→World→Prop) (Q:Exit→Act→World→Prop),
  (∀ v w' F' O' aZ bX,VR w' F' aZ (plus K r.new) r.v v→HR w' F' O' aZ (plus K r.new) (s.H.c_ r.up) bX→Fr w F O μ K w' F' O' aZ→Q (.panic [{ v,recovered:=false }]) a w')→o.wp P a w Kn Q
def g8 (a b:AV):Prop:=∀ {w F μ K v},VR w F μ K a v→VR w F μ K b v
theorem g8.refl (a:AV):g8 a a:=fun h=>h
theorem g8.top (a:AV):g8 a .top:=fun _=>.top _
theorem g8.fb (bB:Nat) (e:Nat→Nat→AV):g8 .fb (.fs bB 0 e):=fun h=>by cases h;exact .u_ _ _ _ _
theorem g8.wh (c:Bool) (a:AV):g8 a (.wh c a):=fun h=>.wh c a _ fun _=>h
structure XC (s' s:fG):Prop where
 nt:s'.nt=s.nt
 tm:∀ t,g8 (s.tm t) (s'.tm t)
 H:Part s'.H s.H
theorem SR.less {s s':fG} {a:Act} (h:SR w F O μ K s ft a) (l:XC s' s):SR w F (Lm s'.H ft) μ K s' ft a where
 hr:=h.hr.part l.H
 nt:=h.nt.trans l.nt.symm
 tm:=fun t=>l.tm t (h.tm t)
 df:=h.df.sub (fun b ⟨id,hl,hx⟩=>h.hr.own id (l.H.live hl) b hx) fun b hb=>.inl hb
theorem dg.more {o:Oper} {s s':fG} {r:Res} (h:dg P o s r) (l:XC s s'):dg P o s' r:=by
 intro w F O μ K ft a hs hn Kn Q hk;refine h w F _ μ K ft a (hs.less l) hn Kn Q fun v w' F' O' aZ bX hv hr hf=>?_;obtain ⟨uo,JU,h1,h2⟩:=frame hs.hr l.H (fun id h=>.inl h) hr hf;exact hk v w' F' uo aZ JU hv h1 h2
theorem V3.more {o:Oper} {s s':fG} {r:Res} (h:V3 P o s r) (l:XC s s'):V3 P o s' r:=by
 intro w F O μ K ft a hs hn Kn Q hk;refine h w F _ μ K ft a (hs.less l) hn Kn Q fun v w' F' O' aZ bX hv hr hf=>?_;obtain ⟨uo,JU,h1,h2⟩:=frame hs.hr l.H (fun id h=>.inl h) hr hf;exact hk v w' F' uo aZ JU hv h1 h2
theorem dg.imp {o:Oper} {s:fG} {r:Res} {v:AV} (h:dg P o s r) (hi:g8 r.v v):dg P o s { r with v:=v }:=
 fun w F O μ K ft a hs hn Kn Q hk=>h w F O μ K ft a hs hn Kn Q fun v w' F' O' aZ bX hv hr hf=>hk v w' F' O' aZ bX (hi hv) hr hf
theorem VR.drew {a:AV} {v:Value} (n:Nat) (h:VR w F μ K a v):VR { w with drawn:=n } F μ K a v:=
 h.mono (fun _ _=>rfl) (fun _ h=>h) (fun _ _=>rfl) (fun _ h=>h) (fun _ _=>rfl)
theorem HR.drew (n:Nat) (h:HR w F O μ K H ft):HR { w with drawn:=n } F O μ K H ft:=by
 have hb:∀ id b,H id=some b→b.eQ=true→∃ o,({ w with drawn:=n }:World).heap[μ id]?=some o∧hP { w with drawn:=n } F μ K (ft id) (μ id) o b:=by
  intro id b hb hl;obtain ⟨o,ho,hB⟩:=h.du id b hb hl;exact ⟨o,ho,hB.mono (fun _ _=>rfl) (fun _ h=>h) (fun _ _=>rfl) (fun _ h=>h) (fun _ _=>rfl) fun _ _ _=>rfl⟩
 exact ⟨h.lt,h.known,hb,h.self,h.own,h.dj,h.yl,h.wf,h.qS,h.pos.mono (Nat.le_refl _) (fun _ h=>h) fun _ _=>rfl⟩
theorem Fr.drew (n:Nat):Fr w F O μ K { w with drawn:=n } F O μ:={ Fr.refl w F O μ K with }
structure Gw (w w':World):Prop where
 os:w'.os=w.os
 tape:w'.tape=w.tape
 output:w'.output=w.output
 size:w.heap.size≤w'.heap.size
 same:∀ b,b < w.heap.size→w'.heap[b]?=w.heap[b]?
theorem Gw.refl (w:World):Gw w w:=⟨rfl,rfl,rfl,Nat.le_refl _,fun _ _=>rfl⟩
theorem Gw.trans {w1 w2 w3:World} (h:Gw w1 w2) (k:Gw w2 w3):Gw w1 w3:=
 ⟨k.os.trans h.os,k.tape.trans h.tape,k.output.trans h.output,Nat.le_trans h.size k.size,fun b hb=>(k.same b (Nat.lt_of_lt_of_le hb h.size)).trans (h.same b hb)⟩
theorem Gw.shape (h:Gw w w') {b:Nat} (hb:b < w.heap.size):w'.shape? b=w.shape? b:=by
 unfold World.shape?;rw [h.same b hb]
theorem Gw.fr (h:Gw w w'):Fr w F O μ K w' F O μ:=
 ⟨h.os,h.tape,h.output,h.size,fun _ _=>rfl,fun _ h=>h,fun _ hb=>h.shape hb,fun b hb _=>h.same b hb,fun _ h=>.inl h,fun _ h=>.inl h⟩
theorem HR.gw (hr:HR w F O μ K H ft) (h:Gw w w'):HR w' F O μ K H ft where
 lt:=fun id bZ=>Nat.lt_of_lt_of_le (hr.lt id bZ) h.size
 known:=hr.known
 du:=fun id b hb hl=>by
  obtain ⟨o,ho,hB⟩:=hr.du id b hb hl;refine ⟨o,by rw [h.same _ (hr.lt id (hr.known id b hb))];exact ho,hB.mono (fun x hx=>h.same x (hr.wf x hx)) (fun _ h=>h) (fun _ _=>rfl) (fun _ h=>h) (fun i hi=>h.shape (hr.lt i hi)) fun x hx _=>h.same x (hr.qS x (hr.own id ⟨b,hb,hl⟩ x hx))⟩
 self:=hr.self
 own:=hr.own
 dj:=hr.dj
 yl:=hr.yl
 wf:=fun b hb=>Nat.lt_of_lt_of_le (hr.wf b hb) h.size
 qS:=fun b hb=>Nat.lt_of_lt_of_le (hr.qS b hb) h.size
 pos:=hr.pos.mono h.size (fun _ h=>h) fun b hb=>h.same b (hr.wf b hb)
structure Kp (w w':World) (F O:Nat→Prop):Prop where
 os:w'.os=w.os
 tape:w'.tape=w.tape
 output:w'.output=w.output
 size:w.heap.size≤w'.heap.size
 Ln:∀ b,F b∨O b→w'.heap[b]?=w.heap[b]?
 shape:∀ b,b < w.heap.size→w'.shape? b=w.shape? b
theorem Kp.refl (w:World) (F O:Nat→Prop):Kp w w F O:=⟨rfl,rfl,rfl,Nat.le_refl _,fun _ _=>rfl,fun _ _=>rfl⟩
theorem Kp.trans (h:Kp w w' F O) (k:Kp w' ss F O):Kp w ss F O:=
 ⟨k.os.trans h.os,k.tape.trans h.tape,k.output.trans h.output,Nat.le_trans h.size k.size,fun b hb=>(k.Ln b hb).trans (h.Ln b hb),fun b hb=>(k.shape b (Nat.lt_of_lt_of_le hb h.size)).trans (h.shape b hb)⟩
theorem Kp.sub (h:Kp w w' F O) (hF:∀ b,F' b→F b∨O b) (hO:∀ b,O' b→F b∨O b):Kp w w' F' O':=
 { h with Ln:=fun b hb=>h.Ln b (hb.elim (hF b) (hO b)) }
theorem HR.kp (hr:HR w F O μ K H ft) (h:Kp w w' F O):HR w' F O μ K H ft where
 lt:=fun id bZ=>Nat.lt_of_lt_of_le (hr.lt id bZ) h.size
 known:=hr.known
 du:=fun id b hb hl=>by
  obtain ⟨o,ho,hB⟩:=hr.du id b hb hl;have gC:H.live id:=⟨b,hb,hl⟩;refine ⟨o,by rw [h.Ln _ (.inr (hr.own id gC _ (hr.self id gC)))];exact ho,hB.mono (fun x hx=>h.Ln x (.inl hx)) (fun _ h=>h) (fun _ _=>rfl) (fun _ h=>h) (fun i hi=>h.shape _ (hr.lt i hi)) fun x hx _=>h.Ln x (.inr (hr.own id gC x hx))⟩
 self:=hr.self
 own:=hr.own
 dj:=hr.dj
 yl:=hr.yl
 wf:=fun b hb=>Nat.lt_of_lt_of_le (hr.wf b hb) h.size
 qS:=fun b hb=>Nat.lt_of_lt_of_le (hr.qS b hb) h.size
 pos:=hr.pos.mono h.size (fun _ h=>h) fun b hb=>h.Ln b (.inl hb)
theorem VR.kp {a:AV} {v:Value} (hv:VR w F μ K a v) (hr:HR w F O μ K H ft) (h:Kp w w' F O):VR w' F μ K a v:=
 hv.mono (fun b hb=>h.Ln b (.inl hb)) (fun _ h=>h) (fun _ _=>rfl) (fun _ h=>h) fun id bZ=>h.shape _ (hr.lt id bZ)
def Hy (μ:Nat→Nat) (N B:Nat):Nat→Nat:=fun id=>if id=N then B else μ id
theorem gq (μ:Nat→Nat) (N B:Nat):Hy μ N B N=B:=by simp [Hy]
theorem Iu {μ:Nat→Nat} {N B id:Nat} (h:id≠N):Hy μ N B id=μ id:=by simp [Hy,h]
theorem XD {μ:Nat→Nat} {N B:Nat} (h:K N→μ N=B) {id:Nat} (bZ:K id):Hy μ N B id=μ id:=by
 by_cases e:id=N
 ·subst e;rw [gq];exact (h bZ).symm
 ·exact Iu e
structure sq (w w':World) (B:Nat) (o:Obj):Prop where
 os:w'.os=w.os
 tape:w'.tape=w.tape
 output:w'.output=w.output
 size:w.heap.size≤w'.heap.size
 lt:B < w'.heap.size
 at_:w'.heap[B]?=some o
 other:∀ x,x < w.heap.size→x≠B→w'.heap[x]?=w.heap[x]?
 shape:∀ x,x < w.heap.size→w'.shape? x=w.shape? x
def gA (L:List Nat):List (Nat×Option jz):=L.map fun i=>(i,none)
theorem x9 (L:List Nat) (id:Nat):H.c_ (gA L) id=if id∈L then none else H id:=by
 induction L with
 | nil=>simp [gA,Hp.c_]
 | cons x L ih=>
  simp only [gA,List.map_cons,Hp.c_,List.mem_cons] at ih ⊢;by_cases e:id=x
  ·simp [e]
  ·simp [e,ih]
theorem D3 {M B:Nat} {o:Obj} {b:jz} {L:List Nat} {S:Nat→Prop} (hr:HR w F O μ K H ft) (hp:sq w w' B o)
  (hO:O B∨w.heap.size≤B) (hM:K M→μ M=B) (hS:∀ x,S x→x=B∨∃ id,(id=M∨id∈L)∧H.live id∧ft id x) (hSB:S B)
  (hX:∀ id,H.live id→id≠M→id ∉ L→¬ ft id B) (hB:hP w F μ K S B o b):
  HR w' F (fun x=>O x∨x=B) (Hy μ M B) (plus K [M]) (H.c_ ((M,some b)::gA L)) (fun id=>if id=M then S else ft id)∧Fr w F O μ K w' F (fun x=>O x∨x=B) (Hy μ M B):=by
 have c_:∀ id,H.c_ ((M,some b)::gA L) id=if id=M then some b else if id∈L then none else H id:=fun id=>by
  show (if id=M then some b else H.c_ (gA L) id)=_;rw [x9]
 have ae8:¬ F B:=fun hF=>by
  rcases hO with h | h
  ·exact hr.yl B h hF
  ·have:=hr.wf B hF;omega
 have pq:∀ x,F x→w'.heap[x]?=w.heap[x]?:=fun x hx=>hp.other x (hr.wf x hx) fun e=>ae8 (e▸hx);have mu:∀ id,K id→Hy μ M B id=μ id:=fun id bZ=>XD hM bZ;have x8:∀ id,(H.c_ ((M,some b)::gA L)).live id→id=M∨(id≠M∧id ∉ L∧H.live id):=by
  rintro id ⟨b',ck,hl⟩
  rw [c_] at ck;by_cases e:id=M
  ·exact .inl e
  ·rw [if_neg e] at ck;by_cases e2:id∈L
   ·rw [if_pos e2] at ck;cases ck
   ·rw [if_neg e2] at ck;exact .inr ⟨e,e2,b',ck,hl⟩
 have F_:∀ id,H.live id→∀ x,ft id x→x≠B→w'.heap[x]?=w.heap[x]?:=fun id hl x hx e=>hp.other x (hr.qS x (hr.own id hl x hx)) e;refine ⟨{ lt:=?_,known:=?_,du:=?_,self:=?_,own:=?_,dj:=?_,yl:=?_,wf:=?_,qS:=?_,pos:=hr.pos.mono hp.size (fun _ h=>h) pq },
  { os:=hp.os,tape:=hp.tape,output:=hp.output,size:=hp.size,mu:=mu,zK:=fun _ h=>h,shape:=hp.shape,same:=?_,D0:=?_,G6:=fun _ h=>.inl h }⟩
 ·rintro id (h | h)
  ·rw [mu id h];exact Nat.lt_of_lt_of_le (hr.lt id h) hp.size
  ·obtain rfl:id=M:=by simpa using h
   rw [gq];exact hp.lt
 ·intro id b' ck;rw [c_] at ck;by_cases e:id=M
  ·exact .inr (by simp [e])
  ·rw [if_neg e] at ck;split at ck
   ·cases ck
   ·exact .inl (hr.known id b' ck)
 ·intro id b' ck hl;rw [c_] at ck;by_cases e:id=M
  ·subst e;rw [if_pos rfl] at ck;cases ck;simp only [if_true,gq];refine ⟨o,hp.at_,hB.mono pq (fun _ h=>h) mu (fun _ h=>.inl h) (fun id bZ=>hp.shape _ (hr.lt id bZ)) fun x hx oV=>?_⟩;rcases hS x hx with h | ⟨b9,_,h2,h3⟩
   ·exact absurd h oV
   ·exact F_ b9 h2 x h3 oV
  ·rw [if_neg e] at ck;split at ck
   ·cases ck
   ·rename_i e2;simp only [if_neg e];have gC:H.live id:=⟨b',ck,hl⟩;obtain ⟨o0,ho0,hB0⟩:=hr.du id b' ck hl;rw [mu id (hr.known id b' ck)];refine ⟨o0,by rw [F_ id gC _ (hr.self id gC) fun e3=>hX id gC e e2 (e3▸hr.self id gC)];exact ho0,hB0.mono pq (fun _ h=>h) mu (fun _ h=>.inl h) (fun id bZ=>hp.shape _ (hr.lt id bZ)) fun x hx _=>?_⟩;exact F_ id gC x hx fun e3=>hX id gC e e2 (e3▸hx)
 ·intro id hl;rcases x8 id hl with e | ⟨e,_,h⟩
  ·subst e;simp only [if_true,gq];exact hSB
  ·simp only [if_neg e];rw [mu id (hr.qg h)];exact hr.self id h
 ·intro id hl x hx;rcases x8 id hl with e | ⟨e,_,h⟩
  ·subst e;simp only [if_true] at hx;rcases hS x hx with h | ⟨b9,_,h2,h3⟩
   ·exact .inr h
   ·exact .inl (hr.own b9 h2 x h3)
  ·simp only [if_neg e] at hx;exact .inl (hr.own id h x hx)
 ·have cr:∀ id,id≠M→id ∉ L→H.live id→∀ x,S x→ft id x→False:=by
   intro id e e2 hl x hx la;rcases hS x hx with h | ⟨b9,h1,h2,h3⟩
   ·exact hX id hl e e2 (h▸la)
   ·have:=hr.dj id b9 hl h2 x la h3;subst this;rcases h1 with h1 | h1
    ·exact e h1
    ·exact e2 h1
  intro id b9 hl BM x hx la;rcases x8 id hl with e | ⟨e,e2,h⟩<;>rcases x8 b9 BM with k | ⟨k,k2,h'⟩
  ·rw [e,k]
  ·rw [if_pos e] at hx;rw [if_neg k] at la;exact (cr b9 k k2 h' x hx la).elim
  ·rw [if_neg e] at hx;rw [if_pos k] at la;exact (cr id e e2 h x la hx).elim
  ·rw [if_neg e] at hx;rw [if_neg k] at la;exact hr.dj id b9 h h' x hx la
 ·rintro x (h | h)
  ·exact hr.yl x h
  ·exact h▸ae8
 ·exact fun x hx=>Nat.lt_of_lt_of_le (hr.wf x hx) hp.size
 ·rintro x (h | h)
  ·exact Nat.lt_of_lt_of_le (hr.qS x h) hp.size
  ·exact h▸hp.lt
 ·exact fun x hx hn=>hp.other x hx fun e=>by
   rcases hO with h | h
   ·exact hn (e▸h)
   ·omega
 ·rintro x (h | h)
  ·exact .inl h
  ·rcases hO with h2 | h2
   ·exact .inl (h▸h2)
   ·exact .inr (h▸h2)
theorem UJ {M:Nat} (h:K M):plus K [M]=K:=by
 funext id;simp only [plus,List.mem_singleton,eq_iff_iff];exact ⟨fun h'=>h'.elim (fun h=>h) fun e=>e▸h,.inl⟩
theorem D4 (w:World) (o:Obj):(w.alloc o).heap[w.heap.size]?=some o:=by
 show (w.heap.push o)[_]?=_;simp
theorem JV (w:World) (o:Obj):sq w (w.alloc o) w.heap.size o where
 os:=rfl
 tape:=rfl
 output:=rfl
 size:=by simp
 lt:=by simp
 at_:=D4 w o
 other:=fun x hx _=>Below.heap_alloc _ _ _ hx
 shape:=fun x hx=>by unfold World.shape?;rw [Below.heap_alloc _ _ _ hx]
theorem Gw.alloc (w:World) (o:Obj):Gw w (w.alloc o):=
 have p:=JV w o
 ⟨p.os,p.tape,p.output,p.size,fun b hb=>p.other b hb (Nat.ne_of_lt hb)⟩
theorem G8 {N:Nat} {o:Obj} {b:jz} {L:List Nat} {S:Nat→Prop} (hr:HR w F O μ K H ft) (hN:¬ K N) (hS:∀ x,S x→x=w.heap.size∨∃ id,id∈L∧H.live id∧ft id x) (hSB:S w.heap.size)
  (hB:hP w F μ K S w.heap.size o b):
  ∃ O' bX,HR (w.alloc o) F O' (Hy μ N w.heap.size) (plus K [N]) (H.c_ ((N,some b)::gA L)) bX∧Fr w F O μ K (w.alloc o) F O' (Hy μ N w.heap.size):=
 ⟨_,_,D3 hr (JV w o) (.inr (Nat.le_refl _)) (fun h=>absurd h hN) (fun x hx=>(hS x hx).imp id fun ⟨id,h1,h2⟩=>⟨id,.inr h1,h2⟩) hSB
  (fun id hl _ _ hx=>by have:=hr.qS _ (hr.own id hl _ hx);omega) hB⟩
def jA (w:World) (b:Nat) (o:Obj):World:={ w with heap:=w.heap.setIfInBounds b o }
theorem PG (w:World) (b:Nat) (o:Obj):(jA w b o).heap.size=w.heap.size:=by simp [jA]
theorem wO {b:Nat} (h:b < w.heap.size) (o:Obj):(jA w b o).heap[b]?=some o:=by simp [jA,h]
theorem MY {b k:Nat} (h:k≠b) (o:Obj):(jA w b o).heap[k]?=w.heap[k]?:=by simp [jA,Array.getElem?_setIfInBounds_ne (Ne.symm h)]
theorem JW (w:World) (b:Nat) (o o':Obj):jA (jA w b o) b o'=jA w b o':=by
 unfold jA
 congr 1
 simp
theorem abk {b:Nat} {o:Obj} (h:w.heap[b]?=some o):jA w b o=w:=by
 have dY:b < w.heap.size:=(Array.getElem?_eq_some_iff.1 h).1;have he:w.heap.setIfInBounds b o=w.heap:=by
  refine Array.ext_getElem? fun k=>?_;by_cases e:b=k
  ·subst e;rw [h];simp [dY]
  ·simp [Array.getElem?_setIfInBounds_ne e]
 unfold jA;rw [he]
def sameShape:Obj→Obj→Prop
 | .cells c t _,.cells c' t' _=>t=t'∧c.size=c'.size
 | .cells ..,_ | _,.cells ..=>False
 | _,_=>True
theorem ZC {a b:Nat} {o o':Obj} (h:w.heap[b]?=some o) (h':w'.heap[a]?=some o') (hs:sameShape o o'):w'.shape? a=w.shape? b:=by
 unfold World.shape?;rw [h,h'];cases o<;>cases o'<;>simp [sameShape] at hs ⊢;exact ⟨hs.1.symm,hs.2.symm⟩
theorem SJ {b:Nat} {o o':Obj} (h:w.heap[b]?=some o) (hs:sameShape o o'):sq w (jA w b o') b o' where
 os:=rfl
 tape:=rfl
 output:=rfl
 size:=by rw [PG];exact Nat.le_refl _
 lt:=by rw [PG];exact (Array.getElem?_eq_some_iff.1 h).1
 at_:=wO (Array.getElem?_eq_some_iff.1 h).1 o'
 other:=fun x _ oV=>MY oV o'
 shape:=fun x _=>by
  by_cases e:x=b
  ·subst e;exact ZC h (wO (Array.getElem?_eq_some_iff.1 h).1 o') hs
  ·unfold World.shape?;rw [MY e]
theorem lV {N:Nat} {o o':Obj} {b b':jz} {L:List Nat} {S:Nat→Prop} (hr:HR w F O μ K H ft) (hb:H N=some b) (hl:b.eQ=true) (ho:w.heap[μ N]?=some o) (hs:sameShape o o')
  (hNL:N ∉ L) (hS:∀ x,S x→∃ id,(id=N∨id∈L)∧H.live id∧ft id x) (hSB:S (μ N)) (hB:hP w F μ K S (μ N) o' b'):
  ∃ O' bX,HR (jA w (μ N) o') F O' μ K (H.c_ ((N,some b')::gA L)) bX∧Fr w F O μ K (jA w (μ N) o') F O' μ:=by
 have gC:H.live N:=⟨b,hb,hl⟩;have hk:=hr.qg gC;have e1:Hy μ N (μ N)=μ:=by
  funext id;by_cases e:id=N
  ·subst e;exact gq _ _ _
  ·exact Iu e
 have h:=D3 (M:=N) (L:=L) (S:=S) hr (SJ ho hs) (.inl (hr.own N gC _ (hr.self N gC))) (fun _=>rfl) (fun x hx=>.inr (hS x hx)) hSB
  (fun id h1 h2 _ h4=>h2 (hr.dj id N h1 gC _ h4 (hr.self N gC))) hB
 rw [e1,UJ hk] at h;exact ⟨_,_,h⟩
theorem XE {N M:Nat} {o o':Obj} {b b':jz} {L:List Nat} {S:Nat→Prop} (hr:HR w F O μ K H ft) (hM:¬ K M) (hb:H N=some b) (hl:b.eQ=true) (ho:w.heap[μ N]?=some o) (hs:sameShape o o')
  (hS:∀ x,S x→∃ id,(id=N∨id∈L)∧H.live id∧ft id x) (hSB:S (μ N)) (hB:hP w F μ K S (μ N) o' b'):
  ∃ O' bX,HR (jA w (μ N) o') F O' (Hy μ M (μ N)) (plus K [M]) (H.c_ ((M,some b')::gA (N::L))) bX∧Fr w F O μ K (jA w (μ N) o') F O' (Hy μ M (μ N)):=by
 have gC:H.live N:=⟨b,hb,hl⟩;exact ⟨_,_,D3 (M:=M) (L:=N::L) (S:=S) hr (SJ ho hs) (.inl (hr.own N gC _ (hr.self N gC))) (fun h=>absurd h hM)
  (fun x hx=>.inr (by obtain ⟨id,h1,h2⟩:=hS x hx;exact ⟨id,.inr (by simpa using h1),h2⟩)) hSB
  (fun id h1 _ h3 h4=>h3 (by rw [hr.dj id N h1 gC _ h4 (hr.self N gC)];simp)) hB⟩
theorem wP {N:Nat} {bB:Nat} {e:Nat→Nat→AV} (hr:HR w F O μ K H ft) (hN:¬ K N):
  HR w F O (Hy μ N 0) (plus K [N]) (H.c_ [(N,some (.row true bB 0 e))]) ft∧Fr w F O μ K w F O (Hy μ N 0):=by
 have mu:∀ id,K id→Hy μ N 0 id=μ id:=fun id bZ=>Iu fun e=>hN (e▸bZ);have x8:∀ id b,(H.c_ [(N,some (.row true bB 0 e))]) id=some b→b.eQ=true→H id=some b:=by
  intro id b hb hl;rw [Hp.BL] at hb;split at hb
  ·cases hb;cases hl
  ·exact hb
 have gB:∀ id,(H.c_ [(N,some (.row true bB 0 e))]).live id→H.live id:=fun id ⟨b,hb,hl⟩=>⟨b,x8 id b hb hl,hl⟩;refine ⟨{ lt:=?_,known:=?_,du:=?_,self:=?_,own:=fun id hl=>hr.own id (gB id hl),dj:=fun id b9 hl BM=>hr.dj id b9 (gB id hl) (gB b9 BM),yl:=hr.yl,wf:=hr.wf,qS:=hr.qS,pos:=hr.pos },
  { Fr.refl w F O μ K with mu:=mu }⟩
 ·rintro id (h | h)
  ·rw [mu id h];exact hr.lt id h
  ·obtain rfl:id=N:=by simpa using h
   rw [gq];exact hr.pos.lt
 ·intro id b hb;rw [Hp.BL] at hb;split at hb
  ·rename_i e;exact .inr (by simp [e])
  ·exact .inl (hr.known id b hb)
 ·intro id b hb hl;have ck:=x8 id b hb hl;obtain ⟨o,ho,hB⟩:=hr.du id b ck hl;rw [mu id (hr.known id b ck)];exact ⟨o,ho,hB.mono (fun _ _=>rfl) (fun _ h=>h) mu (fun _ h=>.inl h) (fun _ _=>rfl) fun _ _ _=>rfl⟩
 ·intro id hl;rw [mu id (hr.qg (gB id hl))];exact hr.self id (gB id hl)
theorem D5 (H:Hp) (L:List Nat):Part (H.c_ (gA L)) H:=fun id=>by
 rw [x9];split
 ·exact .inl rfl
 ·exact .inr rfl
theorem b7 {o:Oper} {s:fG} {rv:AV}
  (h:∀ {w F O μ K ft a},SR w F O μ K s ft a→∃ v,(execOp a.eval o).run P w=.ok (.value v) w∧VR w F μ K rv v):dg P o s ⟨rv,[],[]⟩:=by
 intro w F O μ K ft a hs _ Kn Q hk;obtain ⟨v,hv,hr⟩:=h hs;unfold Oper.wp;rw [hv,Oper.upon_value];refine hk v w F O μ ft ?_ ?_ (Fr.refl w F O μ K)<;>simp only [jm,Hp.QT]
 ·exact hr
 ·exact hs.hr
theorem qk {o:Oper} {s:fG} {rv:AV} {N:Nat} {b:jz}
  (h:∀ {w F O μ K ft a},SR w F O μ K s ft a→∃ v ob n,(execOp a.eval o).run P w=.ok (.value v) (({ w with drawn:=n }:World).alloc ob)∧hP w F μ K (fun x=>x=w.heap.size) w.heap.size ob b∧
   ∀ w' aZ,(∀ x u,VR w F μ K x u→VR w' F aZ (plus K [N]) x u)→w'.heap[w.heap.size]?=some ob→aZ N=w.heap.size→VR w' F aZ (plus K [N]) rv v):dg P o s ⟨rv,[(N,some b)],[N]⟩:=by
 intro w F O μ K ft a hs hn Kn Q hk;obtain ⟨v,ob,n,hv,hb,hr⟩:=h hs;have hN:¬ K N:=hn N (by simp);have H3:HR { w with drawn:=n } F O μ K s.H ft:=hs.hr.drew n;obtain ⟨O',bX,h1,h2⟩:=G8 (w:={ w with drawn:=n }) (L:=[]) (S:=fun x=>x=w.heap.size) H3 hN (fun x hx=>.inl hx) rfl (o:=ob) (b:=b)
  (hb.mono (fun _ _=>rfl) (fun _ h=>h) (fun _ _=>rfl) (fun _ h=>h) (fun _ _=>rfl) fun _ _ _=>rfl)
 unfold Oper.wp;rw [hv,Oper.upon_value];have h3:=(Fr.drew (w:=w) (F:=F) (O:=O) (μ:=μ) (K:=K) n).trans h2;exact hk v _ F O' _ bX (hr _ _ (fun x u hx=>hx.step hs.hr h3 fun _ h=>.inl h) (D4 ({ w with drawn:=n }:World) ob) (gq _ _ _)) h1 h3
end Go.Proofs.YtjkbbdldmdajkaaGreatDoor.c5
