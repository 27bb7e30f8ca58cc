/- My abstract values over the model's memory: what a value stands for, frozen memory, memory of the call's own; what a step may turn. No condition. -/
import Derived.Below
import Derived.Tactics
import Derived.Laws.World
import Derived.Laws.Entries
import Derived.Orders
set_option linter.unusedSimpArgs false
set_option linter.unusedVariables false
namespace Go.Proofs.YtjkbbdldmdajkaaGreatDoor.c_
open Go Go.RowKit
inductive AV where
 | top
 | lit (v:Value)
 | int (k:IntKind) (n:Int)
 | bool (b:Bool)
 | str (s:List UInt8)
 | fB
 | agg (cs:List AV)
 | nP (vs:List AV)
 | fs (bA n:Nat) (e:Nat→Nat→AV)
 | fp (bA:Nat) (e:Nat→AV) (off:Nat)
 | rb (cs:List AV) (off:Nat)
 | os (bA n:Nat) (e:Nat→Nat→AV)
 | ms (id i n bA:Nat)
 | vs (id n bA:Nat)
 | bp (id off:Nat)
 | rp (id bA i j:Nat)
 | mp (id:Nat)
 | pK (t:TypeId) (v:AV)
 | fn (f:Fn) (first cap:List AV)
 | wh (c:Bool) (a:AV)
instance:Inhabited AV:=⟨.top⟩
def AV.U_:AV→Prop
 | .top=>True
 | .int _ _=>True
 | .bool _=>True
 | .str _=>True
 | .fs _ _ e=>∀ i j,(e i j).U_
 | _=>False
def AV.deep:AV→AV
 | .fs bA n e=>.os bA n fun i j=>(e i j).deep
 | a=>a
def Dc:Nat→Prop:=fun _=>False
inductive VR (w:World) (F:Nat→Prop) (μ:Nat→Nat):(Nat→Prop)→AV→Value→Prop
 | top {K:Nat→Prop} (v:Value):VR w F μ K .top v
 | lit {K:Nat→Prop} (v:Value):VR w F μ K (.lit v) v
 | int {K:Nat→Prop} (k:IntKind) (n:Int):VR w F μ K (.int k n) (.int k n)
 | bool {K:Nat→Prop} (b:Bool):VR w F μ K (.bool b) (.bool b)
 | str {K:Nat→Prop} (s:List UInt8):VR w F μ K (.str s) (.string ⟨⟨s⟩⟩)
 | fB {K:Nat→Prop}:VR w F μ K .fB (.slice none 0 0)
 | agg {K:Nat→Prop} (cs:List AV) (vs:List Value) (h:cs.length=vs.length) (hv:∀ i,i < cs.length→VR w F μ K (cs.getD i .top) (vs.getD i undef)):VR w F μ K (.agg cs) (.agg ⟨vs⟩)
 | nP {K:Nat→Prop} (cs:List AV) (vs:List Value) (h:cs.length=vs.length) (hv:∀ i,i < cs.length→VR w F μ K (cs.getD i .top) (vs.getD i undef)):VR w F μ K (.nP cs) (.tuple ⟨vs⟩)
 | fs {K:Nat→Prop} (bA n:Nat) (e:Nat→Nat→AV) (b o cap:Nat) (u:Nat→Nat→Value) (hF:F b) (hc:n≤cap)
   (hu:∀ i j,i < n→j < bA→w.cell? ⟨b,o+i*bA+j,none⟩=some (u i j)∧(u i j).oneCell'=true) (hv:∀ i j,i < n→j < bA→VR w F μ Dc (e i j) (u i j)):
   VR w F μ K (.fs bA n e) (.slice (some ⟨b,o,none⟩) n cap)
 | v7 {K:Nat→Prop} (bA:Nat) (e:Nat→Nat→AV) (a:Option Addr) (cap:Nat):VR w F μ K (.fs bA 0 e) (.slice a 0 cap)
 | fp {K:Nat→Prop} (bA:Nat) (e:Nat→AV) (off b o:Nat) (u:Nat→Value) (hF:F b) (hu:∀ j,off+j < bA→w.cell? ⟨b,o+j,none⟩=some (u j))
   (hv:∀ j,off+j < bA→VR w F μ Dc (e (off+j)) (u j)):VR w F μ K (.fp bA e off) (.pointer (some ⟨b,o,none⟩))
 | rb {K:Nat→Prop} (cs:List AV) (off b:Nat) (u:Nat→Value) (hF:F b) (hu:∀ j,j < cs.length→w.cell? ⟨b,j,none⟩=some (u j)) (hv:∀ j,j < cs.length→VR w F μ K (cs.getD j .top) (u j)):VR w F μ K (.rb cs off) (.pointer (some ⟨b,off,none⟩))
 | ms {K:Nat→Prop} (id i n bA cap sz:Nat) (t:TypeId) (bY:K id) (hc:n≤cap) (hs:w.shape? (μ id)=some (t,sz)) (fV:(i+cap)*bA≤sz):
   VR w F μ K (.ms id i n bA) (.slice (some ⟨μ id,i*bA,none⟩) n cap)
 | vs {K:Nat→Prop} (id n bA cap sz:Nat) (t:TypeId) (hn:n≠0) (bY:K id) (hc:n≤cap) (hs:w.shape? (μ id)=some (t,sz)) (fV:cap*bA≤sz):
   VR w F μ K (.vs id n bA) (.slice (some ⟨μ id,0,none⟩) n cap)
 | s9 {K:Nat→Prop} (id bA:Nat) (a:Option Addr):VR w F μ K (.vs id 0 bA) (.slice a 0 0)
 | bp {K:Nat→Prop} (id off:Nat) (bY:K id):VR w F μ K (.bp id off) (.pointer (some ⟨μ id,off,none⟩))
 | rp {K:Nat→Prop} (id bA i j:Nat) (bY:K id):VR w F μ K (.rp id bA i j) (.pointer (some ⟨μ id,i*bA+j,none⟩))
 | mp {K:Nat→Prop} (id:Nat) (bY:K id):VR w F μ K (.mp id) (.map (some (μ id)))
 | pK {K:Nat→Prop} (t:TypeId) (a:AV) (v:Value) (h:VR w F μ K a v):VR w F μ K (.pK t a) (.iface t v)
 | fn {K:Nat→Prop} (f:Fn) (xs ys:List AV) (vs us:List Value) (h:xs.length=vs.length) (h':ys.length=us.length)
   (hv:∀ i,i < xs.length→VR w F μ K (xs.getD i .top) (vs.getD i undef)) (hu:∀ i,i < ys.length→VR w F μ K (ys.getD i .top) (us.getD i undef)):
   VR w F μ K (.fn f xs ys) (.func f ⟨vs⟩ ⟨us⟩)
 | wh {K:Nat→Prop} (c:Bool) (a:AV) (v:Value) (h:c=true→VR w F μ K a v):VR w F μ K (.wh c a) v
theorem VR.mono {w w':World} {F F':Nat→Prop} {μ bC:Nat→Nat} {K K':Nat→Prop} {a:AV} {v:Value} (h:VR w F μ K a v)
  (hw:∀ b,F b→w'.heap[b]?=w.heap[b]?) (hF:∀ b,F b→F' b) (P9:∀ id,K id→bC id=μ id) (hK:∀ id,K id→K' id)
  (hs:∀ id,K id→w'.shape? (μ id)=w.shape? (μ id)):VR w' F' bC K' a v:=by
 induction h generalizing K' with
 | top v=>exact .top v
 | lit v=>exact .lit v
 | int k n=>exact .int k n
 | bool b=>exact .bool b
 | str s=>exact .str s
 | fB=>exact .fB
 | agg cs vs h _ ih=>exact .agg cs vs h fun i hi=>ih i hi P9 hK hs
 | nP cs vs h _ ih=>exact .nP cs vs h fun i hi=>ih i hi P9 hK hs
 | fs bA n e b o cap u hb hc hu _ ih=>
  exact .fs bA n e b o cap u (hF b hb) hc (fun i j hi hj=>by rw [World.cell?_of_block (hw b hb)];exact hu i j hi hj) fun i j hi hj=>ih i j hi hj (fun _ h=>h.elim) (fun _ h=>h) (fun _ h=>h.elim)
 | v7 bA e a cap=>exact .v7 bA e a cap
 | fp bA e off b o u hb hu _ ih=>
  exact .fp bA e off b o u (hF b hb) (fun j hj=>by rw [World.cell?_of_block (hw b hb)];exact hu j hj) fun j hj=>ih j hj (fun _ h=>h.elim) (fun _ h=>h) (fun _ h=>h.elim)
 | rb cs off b u hb hu _ ih=>exact .rb cs off b u (hF b hb) (fun j hj=>by rw [World.cell?_of_block (hw b hb)];exact hu j hj) fun j hj=>ih j hj P9 hK hs
 | ms id i n bA cap sz t bY hc rR fV=>
  rw [← P9 id bY];exact .ms id i n bA cap sz t (hK id bY) hc (by rw [P9 id bY,hs id bY];exact rR) fV
 | vs id n bA cap sz t hn bY hc rR fV=>
  rw [← P9 id bY];exact .vs id n bA cap sz t hn (hK id bY) hc (by rw [P9 id bY,hs id bY];exact rR) fV
 | s9 id bA a=>exact .s9 id bA a
 | bp id off bY=>rw [← P9 id bY];exact .bp id off (hK id bY)
 | rp id bA i j bY=>rw [← P9 id bY];exact .rp id bA i j (hK id bY)
 | mp id bY=>rw [← P9 id bY];exact .mp id (hK id bY)
 | pK t a v _ ih=>exact .pK t a v (ih P9 hK hs)
 | fn f xs ys vs us h h' _ _ ih ih'=>exact .fn f xs ys vs us h h' (fun i hi=>ih i hi P9 hK hs) (fun i hi=>ih' i hi P9 hK hs)
 | wh c a v _ ih=>exact .wh c a v fun hc=>ih hc P9 hK hs
theorem VR.up {w:World} {F:Nat→Prop} {μ bC:Nat→Nat} {K:Nat→Prop} {a:AV} {v:Value} (h:VR w F μ Dc a v):VR w F bC K a v:=
 h.mono (fun _ _=>rfl) (fun _ h=>h) (fun _ h=>h.elim) (fun _ h=>h.elim) (fun _ h=>h.elim)
structure Nw (b:Nat) (cs:Array Value) (bA n:Nat) (S:Nat→Nat→Nat→Prop) (T:Nat→Prop) (R:(Nat→Prop)→Nat→Nat→Value→Prop):Prop where
 size:n*bA≤cs.size
 cell:∀ i j,i < n→j < bA→R (S i j) i j (cs.getD (i*bA+j) undef)∧(cs.getD (i*bA+j) undef).oneCell'=true
 dj:∀ i j i' j',i < n→j < bA→i' < n→j' < bA→∀ x,S i j x→S i' j' x→i=i'∧j=j'
 nb:∀ i j,i < n→j < bA→¬ S i j b
 all:∀ x,T x↔x=b∨∃ i j,i < n∧j < bA∧S i j x
inductive jP (w:World) (F:Nat→Prop) (μ:Nat→Nat):(Nat→Prop)→AV→Value→Prop
 | IY (S:Nat→Prop) (a:AV) (v:Value) (h:VR w F μ Dc a v) (hS:∀ x,¬ S x):jP w F μ S a v
 | Br (S:Nat→Prop) (bA:Nat) (e:Nat→Nat→AV) (a:Option Addr) (hS:∀ x,¬ S x):jP w F μ S (.os bA 0 e) (.slice a 0 0)
 | os (T:Nat→Prop) (bA n:Nat) (e:Nat→Nat→AV) (b cap:Nat) (cs:Array Value) (t:TypeId) (S:Nat→Nat→Nat→Prop) (JJ:n≠0) (hb:w.heap[b]?=some (.cells cs t (0,0))) (hc:n≤cap) (DI:cap*bA≤cs.size)
   (h1:∀ i j,i < n→j < bA→(cs.getD (i*bA+j) undef).oneCell'=true)
   (h2:∀ i j,i < n→j < bA→jP w F μ (S i j) (e i j) (cs.getD (i*bA+j) undef))
   (hd:∀ i j i' j',i < n→j < bA→i' < n→j' < bA→∀ x,S i j x→S i' j' x→i=i'∧j=j')
   (hn:∀ i j,i < n→j < bA→¬ S i j b) (hT:∀ x,T x↔x=b∨∃ i j,i < n∧j < bA∧S i j x):
   jP w F μ T (.os bA n e) (.slice (some ⟨b,0,none⟩) n cap)
theorem jP.mono {w w':World} {F F':Nat→Prop} {μ bC:Nat→Nat} {S:Nat→Prop} {a:AV} {v:Value} (h:jP w F μ S a v)
  (hw:∀ b,F b→w'.heap[b]?=w.heap[b]?) (hF:∀ b,F b→F' b) (hS:∀ b,S b→w'.heap[b]?=w.heap[b]?):jP w' F' bC S a v:=by
 induction h with
 | IY S a v h hn=>exact .IY S a v ((h.up (bC:=bC)).mono hw hF (fun _ h=>h.elim) (fun _ h=>h) (fun _ h=>h.elim)) hn
 | Br S bA e a hn=>exact .Br S bA e a hn
 | os T bA n e b cap cs t S JJ hb hc DI h1 _ hd hn hT ih=>
  exact .os T bA n e b cap cs t S JJ (by rw [hS b ((hT b).2 (.inl rfl))];exact hb) hc DI h1 (fun i j hi hj=>ih i j hi hj fun x hx=>hS x ((hT x).2 (.inr ⟨i,j,hi,hj,hx⟩))) hd hn hT
inductive jV where
 | box (l:List AV)
 | row (v:Bool) (bA n:Nat) (e:Nat→Nat→AV)
 | dq (v:Bool) (bA n:Nat) (e:Nat→Nat→AV)
 | map (l:List (AV×AV))
 | HJ (l:List (AV×AV)) (j st:Nat)
def ik (w:World) (F:Nat→Prop) (μ:Nat→Nat) (K:Nat→Prop) (S:Nat→Prop) (b:Nat) (o:Obj):jV→Prop
 | .box l=>∃ cs t,o=.cells cs t (0,0)∧(∀ x,S x↔x=b)∧l.length≤cs.size∧∀ j,j < l.length→VR w F μ K (l.getD j .top) (cs.getD j undef)
 | .row _ bA n e=>∃ cs t S',o=.cells cs t (0,0)∧Nw b cs bA n S' S fun T i j v=>jP w F μ T (e i j) v
 | .dq _ bA n e=>∃ cs t S',o=.cells cs t (0,0)∧Nw b cs bA n S' S fun T i j v=>jP w F μ T (e i j) v∨(VR w F μ K (e i j) v∧∀ x,¬ T x)
 | .map l=>∃ es clock,o=.map es clock∧(∀ x,S x↔x=b)∧es.size=l.length∧(∀ i,i < l.length→(es.getD i default).born < clock∧VR w F μ Dc (l.getD i (.top,.top)).1 (es.getD i default).key∧VR w F μ Dc (l.getD i (.top,.top)).2 (es.getD i default).val)∧
   ∀ i j,i < j→j < es.size→(es.getD i default).born < (es.getD j default).born
 | .HJ l j0 st=>∃ es clock,o=.map es clock∧(∀ x,S x↔x=b)∧es.size=l.length∧(∀ i,i < l.length→(es.getD i default).born < clock∧VR w F μ Dc (l.getD i (.top,.top)).1 (es.getD i default).key∧VR w F μ Dc (l.getD i (.top,.top)).2 (es.getD i default).val)∧
   (∀ i j,i < j→j < es.size→(es.getD i default).born < (es.getD j default).born)∧j0 < es.size∧(es.getD j0 default).born=st
theorem ik.mono {w w':World} {F F':Nat→Prop} {μ bC:Nat→Nat} {K K':Nat→Prop} {S:Nat→Prop} {b:Nat} {o:Obj} {B:jV} (h:ik w F μ K S b o B)
  (hw:∀ b,F b→w'.heap[b]?=w.heap[b]?) (hF:∀ b,F b→F' b) (P9:∀ id,K id→bC id=μ id) (hK:∀ id,K id→K' id)
  (hs:∀ id,K id→w'.shape? (μ id)=w.shape? (μ id)) (hS:∀ x,S x→x≠b→w'.heap[x]?=w.heap[x]?):ik w' F' bC K' S b o B:=by
 cases B with
 | box l=>
  obtain ⟨cs,t,h1,h2,h3,h4⟩:=h;exact ⟨cs,t,h1,h2,h3,fun j hj=>(h4 j hj).mono hw hF P9 hK hs⟩
 | row v bA n e=>
  obtain ⟨cs,t,S',h1,h2⟩:=h;exact ⟨cs,t,S',h1,{ h2 with cell:=fun i j hi hj=>⟨(h2.cell i j hi hj).1.mono hw hF fun x hx=>hS x ((h2.all x).2 (.inr ⟨i,j,hi,hj,hx⟩)) fun e=>h2.nb i j hi hj (e▸hx),(h2.cell i j hi hj).2⟩ }⟩
 | dq v bA n e=>
  obtain ⟨cs,t,S',h1,h2⟩:=h;exact ⟨cs,t,S',h1,{ h2 with cell:=fun i j hi hj=>⟨(h2.cell i j hi hj).1.imp (fun k=>k.mono hw hF fun x hx=>hS x ((h2.all x).2 (.inr ⟨i,j,hi,hj,hx⟩)) fun e=>h2.nb i j hi hj (e▸hx)) fun k=>⟨k.1.mono hw hF P9 hK hs,k.2⟩,(h2.cell i j hi hj).2⟩ }⟩
 | map l=>
  obtain ⟨es,clock,h1,h2,h3,h4,h5⟩:=h;exact ⟨es,clock,h1,h2,h3,fun i hi=>⟨(h4 i hi).1,((h4 i hi).2.1.up (bC:=bC)).mono hw hF (fun _ h=>h.elim) (fun _ h=>h) (fun _ h=>h.elim),
   ((h4 i hi).2.2.up (bC:=bC)).mono hw hF (fun _ h=>h.elim) (fun _ h=>h) (fun _ h=>h.elim)⟩,h5⟩
 | HJ l j0 st=>
  obtain ⟨es,clock,h1,h2,h3,h4,h5,h6⟩:=h;exact ⟨es,clock,h1,h2,h3,fun i hi=>⟨(h4 i hi).1,((h4 i hi).2.1.up (bC:=bC)).mono hw hF (fun _ h=>h.elim) (fun _ h=>h) (fun _ h=>h.elim),
   ((h4 i hi).2.2.up (bC:=bC)).mono hw hF (fun _ h=>h.elim) (fun _ h=>h) (fun _ h=>h.elim)⟩,h5,h6⟩
abbrev Hp:=Nat→Option jV
def jV.fc:jV→Bool
 | .row true _ n _=>n != 0
 | .dq true _ n _=>n != 0
 | _=>true
def Hp.live (H:Hp) (id:Nat):Prop:=∃ b,H id=some b∧b.fc=true
def Tc:List (Nat×List Value):=[(0,[.iface 296 (.agg #[.pointer (some ⟨1,250,none⟩)])])]
structure Pos (w:World) (F:Nat→Prop):Prop where
 lt:0 < w.heap.size
 laid:∀ p,p∈Tc→F p.1∧∃ t z,w.heap[p.1]?=some (.cells ⟨p.2⟩ t z)
theorem Pos.mono {w w':World} {F F':Nat→Prop} (h:Pos w F) (hs:w.heap.size≤w'.heap.size) (hF:∀ b,F b→F' b) (hw:∀ b,F b→w'.heap[b]?=w.heap[b]?):Pos w' F':=
 ⟨Nat.lt_of_lt_of_le h.lt hs,fun p hp=>⟨hF _ (h.laid p hp).1,by rw [hw _ (h.laid p hp).1];exact (h.laid p hp).2⟩⟩
theorem Pos.var {P:Program} {w:World} {F:Nat→Prop} {name:String} {g:Nat} {cs:List Value} (h:Pos w F) (hm:(g,cs)∈Tc) (hg:P.globalNamed name=some g):w.var? P name=some ⟨cs⟩:=by
 obtain ⟨_,t,z,e⟩:=h.laid _ hm;simp only at e;simp [World.var?,hg,e]
theorem Pos.cell {w:World} {F:Nat→Prop} {g i:Nat} {cs:List Value} (h:Pos w F) (hm:(g,cs)∈Tc):w.cell? ⟨g,i,none⟩=cs[i]?:=by
 obtain ⟨_,t,z,e⟩:=h.laid _ hm;simp only at e;simp [World.cell?,e]
structure HR (w:World) (F O:Nat→Prop) (μ:Nat→Nat) (K:Nat→Prop) (H:Hp) (ft:Nat→Nat→Prop):Prop where
 lt:∀ id,K id→μ id < w.heap.size
 known:∀ id b,H id=some b→K id
 dC:∀ id b,H id=some b→b.fc=true→∃ o,w.heap[μ id]?=some o∧ik w F μ K (ft id) (μ id) o b
 self:∀ id,H.live id→ft id (μ id)
 own:∀ id,H.live id→∀ x,ft id x→O x
 dj:∀ id b9,H.live id→H.live b9→∀ x,ft id x→ft b9 x→id=b9
 zc:∀ b,O b→¬ F b
 wf:∀ b,F b→b < w.heap.size
 rT:∀ b,O b→b < w.heap.size
 pos:Pos w F
structure Fr (w:World) (F O:Nat→Prop) (μ:Nat→Nat) (K:Nat→Prop) (w':World) (F' O':Nat→Prop) (bC:Nat→Nat):Prop where
 os:w'.os=w.os
 tape:w'.tape=w.tape
 output:w'.output=w.output
 size:w.heap.size≤w'.heap.size
 mu:∀ id,K id→bC id=μ id
 Aw:∀ b,F b→F' b
 shape:∀ b,b < w.heap.size→w'.shape? b=w.shape? b
 same:∀ b,b < w.heap.size→¬ O b→w'.heap[b]?=w.heap[b]?
 EE:∀ b,O' b→O b∨w.heap.size≤b
 HK:∀ b,F' b→F b∨w.heap.size≤b∨O b
variable {w w' xk:World} {F F' Bs O O' v8:Nat→Prop} {μ bC lG:Nat→Nat} {K K' EF:Nat→Prop} {H H' H'':Hp} {ft bZ:Nat→Nat→Prop}
theorem Fr.refl (w:World) (F O:Nat→Prop) (μ:Nat→Nat) (K:Nat→Prop):Fr w F O μ K w F O μ:=
 ⟨rfl,rfl,rfl,Nat.le_refl _,fun _ _=>rfl,fun _ h=>h,fun _ _=>rfl,fun _ _ _=>rfl,fun _ h=>.inl h,fun _ h=>.inl h⟩
theorem Fr.trans (h:Fr w F O μ K w' F' O' bC) (k:Fr w' F' O' bC K xk Bs v8 lG):Fr w F O μ K xk Bs v8 lG where
 os:=k.os.trans h.os
 tape:=k.tape.trans h.tape
 output:=k.output.trans h.output
 size:=Nat.le_trans h.size k.size
 mu:=fun id bY=>(k.mu id bY).trans (h.mu id bY)
 Aw:=fun b hb=>k.Aw b (h.Aw b hb)
 shape:=fun b hb=>(k.shape b (Nat.lt_of_lt_of_le hb h.size)).trans (h.shape b hb)
 same:=fun b hb hn=>(k.same b (Nat.lt_of_lt_of_le hb h.size) fun ho=>by
   rcases h.EE b ho with h1 | h1
   ·exact hn h1
   ·omega).trans (h.same b hb hn)
 EE:=fun b hb=>by
  rcases k.EE b hb with h1 | h1
  ·exact h.EE b h1
  ·exact .inr (Nat.le_trans h.size h1)
 HK:=fun b hb=>by
  rcases k.HK b hb with h1 | h1 | h1
  ·exact h.HK b h1
  ·exact .inr (.inl (Nat.le_trans h.size h1))
  ·rcases h.EE b h1 with h2 | h2
   ·exact .inr (.inr h2)
   ·exact .inr (.inl h2)
theorem Fr.OT (h:Fr w F O μ K w' F' O' bC) (hK:∀ id,K' id→K id):Fr w F O μ K' w' F' O' bC:=
 { h with mu:=fun id bY=>h.mu id (hK id bY) }
theorem HR.re (h:HR w F O μ K H ft) {id:Nat} (hl:H.live id):K id:=by
 obtain ⟨b,hb,_⟩:=hl;exact h.known id b hb
theorem Fr.frozen (h:Fr w F O μ K w' F' O' bC) (hr:HR w F O μ K' H ft) (b:Nat) (hb:F b):w'.heap[b]?=w.heap[b]?:=
 h.same b (hr.wf b hb) fun ho=>hr.zc b ho hb
theorem VR.step {a:AV} {v:Value} (hv:VR w F μ K a v) (hr:HR w F O μ K H ft) (h:Fr w F O μ K w' F' O' bC) (hK:∀ id,K id→K' id):VR w' F' bC K' a v:=
 hv.mono (h.frozen hr) h.Aw h.mu hK fun id bY=>h.shape _ (hr.lt id bY)
def yV (b:Nat):Deferred:={ target:=.collected b,args:=#[] }
structure wx (w:World) (F O:Nat→Prop) (ds:List Deferred):Prop where
 nd:ds.Nodup
 all:∀ d,d∈ds→∃ b,d=yV b∧¬ O b∧¬ F b∧w.heap[b]?=some (Obj.deferred (some []))
theorem wx.nil:wx w F O []:=⟨List.nodup_nil,fun _ h=>by cases h⟩
theorem wx.step {ds:List Deferred} (h:wx w F O ds) (hf:Fr w F O μ K w' F' O' bC):wx w' F' O' ds where
 nd:=h.nd
 all:=fun d hd=>by
  obtain ⟨b,h1,h2,h3,h4⟩:=h.all d hd;have hb:b < w.heap.size:=(Array.getElem?_eq_some_iff.1 h4).1;refine ⟨b,h1,fun ho=>?_,fun hF=>?_,by rw [hf.same b hb h2];exact h4⟩
  ·rcases hf.EE b ho with h5 | h5
   ·exact h2 h5
   ·omega
  ·rcases hf.HK b hF with h5 | h5 | h5
   ·exact h3 h5
   ·omega
   ·exact h2 h5
theorem wx.sub {ds:List Deferred} (h:wx w F O ds) (hO:∀ b,O' b→O b) (hF:∀ b,F' b→F b∨O b):wx w F' O' ds where
 nd:=h.nd
 all:=fun d hd=>by
  obtain ⟨b,h1,h2,h3,h4⟩:=h.all d hd;exact ⟨b,h1,fun ho=>h2 (hO b ho),fun hf=>(hF b hf).elim h3 h2,h4⟩
theorem wx.same {ds:List Deferred} (h:wx w F O ds) (hh:∀ b:Nat,w.heap[b]?=some (Obj.deferred (some []))→w'.heap[b]?=w.heap[b]?):wx w' F O ds where
 nd:=h.nd
 all:=fun d hd=>by
  obtain ⟨b,h1,h2,h3,h4⟩:=h.all d hd;exact ⟨b,h1,h2,h3,by rw [hh b h4];exact h4⟩
structure fT where
 nt:Nat
 N:Nat
 tm:Nat→AV
 H:Hp
structure SR (w:World) (F O:Nat→Prop) (μ:Nat→Nat) (K:Nat→Prop) (s:fT) (ft:Nat→Nat→Prop) (a:Act):Prop where
 hr:HR w F O μ K s.H ft
 nt:a.tmps.size=s.nt
 tm:∀ t,VR w F μ K (s.tm t) (a.tmps.getD t undef)
 df:wx w F O a.defers
def Part (H0 H:Hp):Prop:=∀ id,H0 id=none∨H0 id=H id
theorem Part.live {H0 H:Hp} (h:Part H0 H) {id:Nat} (hl:H0.live id):H.live id:=by
 obtain ⟨b,hb,hl⟩:=hl;rcases h id with e | e
 ·rw [e] at hb;cases hb
 ·exact ⟨b,e▸hb,hl⟩
def Hp.dh (H:Hp):List (Nat×Option jV)→Hp
 | []=>H
 | (i,b)::r=>fun id=>if id=i then b else Hp.dh H r id
def Hp.ahw:Hp:=fun _=>none
def plus (K:Nat→Prop) (l:List Nat):Nat→Prop:=fun id=>K id∨id∈l
theorem jE (K:Nat→Prop):plus K []=K:=by
 funext id;simp [plus]
theorem Hp.Rq (H:Hp):H.dh []=H:=rfl
theorem Hp.Cs (H:Hp) (i:Nat) (b:Option jV) (id:Nat):H.dh [(i,b)] id=if id=i then b else H id:=rfl
theorem Hp.Rr (H:Hp) (id:Nat):∀ up:List (Nat×Option jV),(id∈up.map (·.1)∧∀ H':Hp,H'.dh up id=H.dh up id)∨(id ∉ up.map (·.1)∧∀ H':Hp,H'.dh up id=H' id)
 | []=>.inr ⟨by simp,fun _=>rfl⟩
 | (i,b)::r=>by
  by_cases e:id=i
  ·exact .inl ⟨by simp [e],fun H'=>by simp [Hp.dh,e]⟩
  ·rcases Hp.Rr H id r with ⟨h,h'⟩ | ⟨h,h'⟩
   ·exact .inl ⟨by simp [h],fun H'=>by simp [Hp.dh,e,h']⟩
   ·refine .inr ⟨?_,fun H'=>by simp [Hp.dh,e,h']⟩;intro hm;simp only [List.map_cons,List.mem_cons] at hm;rcases hm with hm | hm
    ·exact e hm
    ·exact h hm
def LW (H:Hp) (ft:Nat→Nat→Prop):Nat→Prop:=fun x=>∃ id,H.live id∧ft id x
theorem HR.part {H0:Hp} (h:HR w F O μ K H ft) (l:Part H0 H):HR w F (LW H0 ft) μ K H0 ft where
 lt:=h.lt
 known:=fun id b hb=>h.known id b (by
  rcases l id with e | e
  ·rw [e] at hb;cases hb
  ·rw [← e];exact hb)
 dC:=fun id b hb=>h.dC id b (by
  rcases l id with e | e
  ·rw [e] at hb;cases hb
  ·rw [← e];exact hb)
 self:=fun id hl=>h.self id (l.live hl)
 own:=fun id hl x hx=>⟨id,hl,hx⟩
 dj:=fun id b9 hl Ct=>h.dj id b9 (l.live hl) (l.live Ct)
 zc:=fun b ⟨id,hl,hx⟩=>h.zc b (h.own id (l.live hl) b hx)
 wf:=h.wf
 rT:=fun b ⟨id,hl,hx⟩=>h.rT b (h.own id (l.live hl) b hx)
 pos:=h.pos
theorem HR.aaf {H0:Hp} (h:HR w F O μ K H ft) (l:Part H0 H):HR w F O μ K H0 ft:=
 { h.part l with own:=fun id hl x hx=>h.own id (l.live hl) x hx,zc:=h.zc,rT:=h.rT }
open Classical in
theorem Va {H0:Hp} {up:List (Nat×Option jV)} {F1 YZ F2:Nat→Prop} (hr:HR w F O μ K H ft) (l:Part H0 H) (hKK:∀ id,K id→K' id)
  (DP:HR w' YZ O' bC K' (H0.dh up) bZ) (hf:Fr w F1 (LW H0 ft) μ K w' YZ O' bC)
  (h01:∀ b,F b→F1 b) (h02:∀ b,F b→F2 b) (h21:∀ b,F2 b→YZ b) (h2:∀ b,F2 b→F b∨w.heap.size≤b∨LW H0 ft b)
  (Vb:∀ id b,(H0.dh up) id=some b→b.fc=true→∃ o,w'.heap[bC id]?=some o∧ik w' F2 bC K' (bZ id) (bC id) o b):
  ∃ v8 Ko,HR w' F2 v8 bC K' (H.dh up) Ko∧Fr w F O μ K w' F2 v8 bC:=by
 have kn:∀ {id},H.live id→K id:=fun ⟨b,hb,_⟩=>hr.known _ b hb;have sub:∀ x,LW H0 ft x→O x:=fun x ⟨id,hl,hx⟩=>hr.own id (l.live hl) x hx;have qc:∀ b,F b→w'.heap[b]?=w.heap[b]?:=fun b hb=>hf.same b (hr.wf b hb) fun h=>hr.zc b (sub b h) hb;have yW:∀ id b,(H.dh up) id=some b→(H0.dh up) id=some b∨(H id=some b∧H0 id=none∧(H0.dh up) id=none):=by
  intro id b hb;rcases Hp.Rr H id up with ⟨hm,he⟩ | ⟨hm,he⟩
  ·exact .inl (by rw [he H0];exact hb)
  ·have h1:=he H;have h2:=he H0;rw [h1] at hb;rcases l id with e | e
   ·exact .inr ⟨hb,e,h2.trans e⟩
   ·exact .inl (by rw [h2,e];exact hb)
 let IZ:Nat→Prop:=fun id=>(H0.dh up) id≠none
 let Ko:Nat→Nat→Prop:=fun id=>if IZ id then bZ id else ft id
 let v8:Nat→Prop:=fun x=>O' x∨(O x∧¬ LW H0 ft x)
 have gI:∀ id,(H.dh up).live id→((H0.dh up).live id∧Ko id=bZ id)∨((H.live id∧H0 id=none)∧Ko id=ft id):=by
  rintro id ⟨b,hb,hl⟩
  rcases yW id b hb with h1 | ⟨h1,h2,h3⟩
  ·exact .inl ⟨⟨b,h1,hl⟩,if_pos (by simp only [IZ,h1];simp)⟩
  ·exact .inr ⟨⟨⟨b,h1,hl⟩,h2⟩,if_neg (by simp only [IZ,h3];simp)⟩
 have out:∀ id,H.live id→H0 id=none→∀ x,ft id x→¬ LW H0 ft x:=fun id h1 h2 x hx ⟨rU,h0,hx0⟩=>by
  have:=hr.dj rU id (l.live h0) h1 x hx0 hx;subst this;obtain ⟨b,hb,_⟩:=h0;rw [h2] at hb;cases hb
 have same:∀ id,H.live id→H0 id=none→∀ x,ft id x→w'.heap[x]?=w.heap[x]?:=fun id h1 h2 x hx=>
  hf.same _ (hr.rT x (hr.own id h1 x hx)) (out id h1 h2 x hx)
 have ac9:∀ id b9,(H0.dh up).live id→H.live b9→H0 b9=none→∀ x,bZ id x→ft b9 x→False:=by
  intro id b9 h1 h2 h3 x hx lN;rcases hf.EE x (DP.own id h1 x hx) with h4 | h4
  ·exact out b9 h2 h3 x lN h4
  ·have:=hr.rT x (hr.own b9 h2 x lN);omega
 refine ⟨v8,Ko,{ lt:=DP.lt,known:=?_,dC:=?_,self:=?_,own:=?_,dj:=?_,zc:=?_,wf:=fun b hb=>DP.wf b (h21 b hb),rT:=?_,pos:=hr.pos.mono hf.size h02 qc },
  { os:=hf.os,tape:=hf.tape,output:=hf.output,size:=hf.size,mu:=hf.mu,Aw:=h02,shape:=hf.shape,same:=?_,EE:=?_,HK:=?_ }⟩
 ·intro id b hb;rcases yW id b hb with h1 | ⟨h1,_⟩
  ·exact DP.known id b h1
  ·exact hKK id (hr.known id b h1)
 ·intro id b hb hl;rcases yW id b hb with h1 | ⟨h1,h2,h3⟩
  ·have e:Ko id=bZ id:=if_pos (by simp only [IZ,h1];simp);rw [e];exact Vb id b h1 hl
  ·have e:Ko id=ft id:=if_neg (by simp only [IZ,h3];simp);rw [e];obtain ⟨o,ho,hB⟩:=hr.dC id b h1 hl;have gQ:H.live id:=⟨b,h1,hl⟩;rw [hf.mu id (kn gQ)];refine ⟨o,by rw [same id gQ h2 _ (hr.self id gQ)];exact ho,hB.mono qc h02 hf.mu hKK (fun id bY=>hf.shape _ (hr.lt id bY)) fun x hx _=>same id gQ h2 x hx⟩
 ·intro id hl;rcases gI id hl with ⟨h1,e⟩ | ⟨⟨h1,h2⟩,e⟩<;>rw [e]
  ·exact DP.self id h1
  ·rw [hf.mu id (kn h1)];exact hr.self id h1
 ·intro id hl x hx;rcases gI id hl with ⟨h1,e⟩ | ⟨⟨h1,h2⟩,e⟩<;>rw [e] at hx
  ·exact .inl (DP.own id h1 x hx)
  ·exact .inr ⟨hr.own id h1 x hx,out id h1 h2 x hx⟩
 ·intro id b9 hl Ct x hx lN;rcases gI id hl with ⟨h1,e⟩ | ⟨⟨h1,h2⟩,e⟩<;>rcases gI b9 Ct with ⟨k1,e'⟩ | ⟨⟨k1,k2⟩,e'⟩<;>rw [e] at hx<;>rw [e'] at lN
  ·exact DP.dj id b9 h1 k1 x hx lN
  ·exact (ac9 id b9 h1 k1 k2 x hx lN).elim
  ·exact (ac9 b9 id k1 h1 h2 x lN hx).elim
  ·exact hr.dj id b9 h1 k1 x hx lN
 ·rintro b (h1 | ⟨h1,h3⟩) hF
  ·exact DP.zc b h1 (h21 b hF)
  ·rcases h2 b hF with h4 | h4 | h4
   ·exact hr.zc b h1 h4
   ·have:=hr.rT b h1;omega
   ·exact h3 h4
 ·rintro b (h1 | ⟨h1,_⟩)
  ·exact DP.rT b h1
  ·exact Nat.lt_of_lt_of_le (hr.rT b h1) hf.size
 ·exact fun b hb hn=>hf.same b hb fun h=>hn (sub b h)
 ·rintro b (h1 | ⟨h1,_⟩)
  ·rcases hf.EE b h1 with h2 | h2
   ·exact .inl (sub b h2)
   ·exact .inr h2
  ·exact .inl h1
 ·intro b hb;rcases h2 b hb with h1 | h1 | h1
  ·exact .inl h1
  ·exact .inr (.inl h1)
  ·exact .inr (.inr (sub b h1))
theorem frame {H0:Hp} {up:List (Nat×Option jV)} (hr:HR w F O μ K H ft) (l:Part H0 H) (hKK:∀ id,K id→K' id)
  (DP:HR w' F' O' bC K' (H0.dh up) bZ) (hf:Fr w F (LW H0 ft) μ K w' F' O' bC):
  ∃ v8 Ko,HR w' F' v8 bC K' (H.dh up) Ko∧Fr w F O μ K w' F' v8 bC:=
 Va hr l hKK DP hf (fun _ h=>h) hf.Aw (fun _ h=>h) (fun b hb=>hf.HK b hb) DP.dC
end Go.Proofs.YtjkbbdldmdajkaaGreatDoor.c_
