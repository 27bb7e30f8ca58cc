/- My abstract values over the model's memory: what a value stands for, frozen memory, memory of the call's own; what a step may turn. No condition. -/
import Derived.Below
import Derived.Tactics
import Derived.Laws.World
import Derived.Laws.Entries
import Derived.Orders
set_option linter.unusedSimpArgs false
set_option linter.unusedVariables false
namespace Go.Proofs.YtljfmaaadnoggaaGreatDoor.cX
open Go Go.RowKit
inductive AV where
 | top
 | lit (v:Value)
 | int (k:IntKind) (n:Int)
 | bool (b:Bool)
 | str (s:List UInt8)
 | ff
 | agg (cs:List AV)
 | ph (vs:List AV)
 | fs (bB n:Nat) (e:Nat→Nat→AV)
 | fp (bB:Nat) (e:Nat→AV) (off:Nat)
 | os (bB n:Nat) (e:Nat→Nat→AV)
 | ms (id i n bB:Nat)
 | vs (id n bB:Nat)
 | bp (id off:Nat)
 | rp (id bB i j:Nat)
 | mp (id:Nat)
 | pe (t:TypeId) (v:AV)
 | fn (f:Fn) (first cap:List AV)
 | wh (c:Bool) (a:AV)
instance:Inhabited AV:=⟨.top⟩
def AV.XA:AV→Prop
 | .top=>True
 | .int _ _=>True
 | .bool _=>True
 | .str _=>True
 | .fs _ _ e=>∀ i j,(e i j).XA
 | _=>False
def AV.deep:AV→AV
 | .fs bB n e=>.os bB n fun i j=>(e i j).deep
 | a=>a
def Ei:Nat→Prop:=fun _=>False
inductive VR (w:World) (F:Nat→Prop) (μ:Nat→Nat):(Nat→Prop)→AV→Value→Prop
 | top {K:Nat→Prop} (v:Value):VR w F μ K .top v
 | lit {K:Nat→Prop} (v:Value):VR w F μ K (.lit v) v
 | int {K:Nat→Prop} (k:IntKind) (n:Int):VR w F μ K (.int k n) (.int k n)
 | bool {K:Nat→Prop} (b:Bool):VR w F μ K (.bool b) (.bool b)
 | str {K:Nat→Prop} (s:List UInt8):VR w F μ K (.str s) (.string ⟨⟨s⟩⟩)
 | ff {K:Nat→Prop}:VR w F μ K .ff (.slice none 0 0)
 | agg {K:Nat→Prop} (cs:List AV) (vs:List Value) (h:cs.length=vs.length) (hv:∀ i,i < cs.length→VR w F μ K (cs.getD i .top) (vs.getD i undef)):VR w F μ K (.agg cs) (.agg ⟨vs⟩)
 | ph {K:Nat→Prop} (cs:List AV) (vs:List Value) (h:cs.length=vs.length) (hv:∀ i,i < cs.length→VR w F μ K (cs.getD i .top) (vs.getD i undef)):VR w F μ K (.ph cs) (.tuple ⟨vs⟩)
 | fs {K:Nat→Prop} (bB n:Nat) (e:Nat→Nat→AV) (b o cap:Nat) (u:Nat→Nat→Value) (hF:F b) (hc:n≤cap)
   (hu:∀ i j,i < n→j < bB→w.cell? ⟨b,o+i*bB+j,none⟩=some (u i j)∧(u i j).oneCell'=true) (hv:∀ i j,i < n→j < bB→VR w F μ Ei (e i j) (u i j)):
   VR w F μ K (.fs bB n e) (.slice (some ⟨b,o,none⟩) n cap)
 | wv {K:Nat→Prop} (bB:Nat) (e:Nat→Nat→AV) (a:Option Addr) (cap:Nat):VR w F μ K (.fs bB 0 e) (.slice a 0 cap)
 | fp {K:Nat→Prop} (bB:Nat) (e:Nat→AV) (off b o:Nat) (u:Nat→Value) (hF:F b) (hu:∀ j,off+j < bB→w.cell? ⟨b,o+j,none⟩=some (u j))
   (hv:∀ j,off+j < bB→VR w F μ Ei (e (off+j)) (u j)):VR w F μ K (.fp bB e off) (.pointer (some ⟨b,o,none⟩))
 | ms {K:Nat→Prop} (id i n bB cap sz:Nat) (t:TypeId) (cb:K id) (hc:n≤cap) (hs:w.shape? (μ id)=some (t,sz)) (fL:(i+cap)*bB≤sz):
   VR w F μ K (.ms id i n bB) (.slice (some ⟨μ id,i*bB,none⟩) n cap)
 | vs {K:Nat→Prop} (id n bB cap sz:Nat) (t:TypeId) (hn:n≠0) (cb:K id) (hc:n≤cap) (hs:w.shape? (μ id)=some (t,sz)) (fL:cap*bB≤sz):
   VR w F μ K (.vs id n bB) (.slice (some ⟨μ id,0,none⟩) n cap)
 | xV {K:Nat→Prop} (id bB:Nat) (a:Option Addr):VR w F μ K (.vs id 0 bB) (.slice a 0 0)
 | bp {K:Nat→Prop} (id off:Nat) (cb:K id):VR w F μ K (.bp id off) (.pointer (some ⟨μ id,off,none⟩))
 | rp {K:Nat→Prop} (id bB i j:Nat) (cb:K id):VR w F μ K (.rp id bB i j) (.pointer (some ⟨μ id,i*bB+j,none⟩))
 | mp {K:Nat→Prop} (id:Nat) (cb:K id):VR w F μ K (.mp id) (.map (some (μ id)))
 | pe {K:Nat→Prop} (t:TypeId) (a:AV) (v:Value) (h:VR w F μ K a v):VR w F μ K (.pe t a) (.iface t v)
 | fn {K:Nat→Prop} (f:Fn) (xs ys:List AV) (vs us:List Value) (h:xs.length=vs.length) (h':ys.length=us.length)
   (hv:∀ i,i < xs.length→VR w F μ K (xs.getD i .top) (vs.getD i undef)) (hu:∀ i,i < ys.length→VR w F μ K (ys.getD i .top) (us.getD i undef)):
   VR w F μ K (.fn f xs ys) (.func f ⟨vs⟩ ⟨us⟩)
 | wh {K:Nat→Prop} (c:Bool) (a:AV) (v:Value) (h:c=true→VR w F μ K a v):VR w F μ K (.wh c a) v
theorem VR.mono {w w':World} {F F':Nat→Prop} {μ bC:Nat→Nat} {K K':Nat→Prop} {a:AV} {v:Value} (h:VR w F μ K a v)
  (hw:∀ b,F b→w'.heap[b]?=w.heap[b]?) (hF:∀ b,F b→F' b) (TK:∀ id,K id→bC id=μ id) (hK:∀ id,K id→K' id)
  (hs:∀ id,K id→w'.shape? (μ id)=w.shape? (μ id)):VR w' F' bC K' a v:=by
 induction h generalizing K' with
 | top v=>exact .top v
 | lit v=>exact .lit v
 | int k n=>exact .int k n
 | bool b=>exact .bool b
 | str s=>exact .str s
 | ff=>exact .ff
 | agg cs vs h _ ih=>exact .agg cs vs h fun i hi=>ih i hi TK hK hs
 | ph cs vs h _ ih=>exact .ph cs vs h fun i hi=>ih i hi TK hK hs
 | fs bB n e b o cap u hb hc hu _ ih=>
  exact .fs bB n e b o cap u (hF b hb) hc (fun i j hi hj=>by rw [World.cell?_of_block (hw b hb)];exact hu i j hi hj) fun i j hi hj=>ih i j hi hj (fun _ h=>h.elim) (fun _ h=>h) (fun _ h=>h.elim)
 | wv bB e a cap=>exact .wv bB e a cap
 | fp bB e off b o u hb hu _ ih=>
  exact .fp bB e off b o u (hF b hb) (fun j hj=>by rw [World.cell?_of_block (hw b hb)];exact hu j hj) fun j hj=>ih j hj (fun _ h=>h.elim) (fun _ h=>h) (fun _ h=>h.elim)
 | ms id i n bB cap sz t cb hc tA fL=>
  rw [← TK id cb]
  exact .ms id i n bB cap sz t (hK id cb) hc (by rw [TK id cb,hs id cb];exact tA) fL
 | vs id n bB cap sz t hn cb hc tA fL=>
  rw [← TK id cb]
  exact .vs id n bB cap sz t hn (hK id cb) hc (by rw [TK id cb,hs id cb];exact tA) fL
 | xV id bB a=>exact .xV id bB a
 | bp id off cb=>rw [← TK id cb];exact .bp id off (hK id cb)
 | rp id bB i j cb=>rw [← TK id cb];exact .rp id bB i j (hK id cb)
 | mp id cb=>rw [← TK id cb];exact .mp id (hK id cb)
 | pe t a v _ ih=>exact .pe t a v (ih TK hK hs)
 | fn f xs ys vs us h h' _ _ ih ih'=>exact .fn f xs ys vs us h h' (fun i hi=>ih i hi TK hK hs) (fun i hi=>ih' i hi TK hK hs)
 | wh c a v _ ih=>exact .wh c a v fun hc=>ih hc TK hK hs
theorem VR.up {w:World} {F:Nat→Prop} {μ bC:Nat→Nat} {K:Nat→Prop} {a:AV} {v:Value} (h:VR w F μ Ei a v):VR w F bC K a v:=
 h.mono (fun _ _=>rfl) (fun _ h=>h) (fun _ h=>h.elim) (fun _ h=>h.elim) (fun _ h=>h.elim)
structure PE (b:Nat) (cs:Array Value) (bB n:Nat) (S:Nat→Nat→Nat→Prop) (T:Nat→Prop) (R:(Nat→Prop)→Nat→Nat→Value→Prop):Prop where
 size:n*bB≤cs.size
 cell:∀ i j,i < n→j < bB→R (S i j) i j (cs.getD (i*bB+j) undef)∧(cs.getD (i*bB+j) undef).oneCell'=true
 dj:∀ i j i' j',i < n→j < bB→i' < n→j' < bB→∀ x,S i j x→S i' j' x→i=i'∧j=j'
 nb:∀ i j,i < n→j < bB→¬ S i j b
 all:∀ x,T x↔x=b∨∃ i j,i < n∧j < bB∧S i j x
inductive jO (w:World) (F:Nat→Prop) (μ:Nat→Nat):(Nat→Prop)→AV→Value→Prop
 | KR (S:Nat→Prop) (a:AV) (v:Value) (h:VR w F μ Ei a v) (hS:∀ x,¬ S x):jO w F μ S a v
 | Cp (S:Nat→Prop) (bB:Nat) (e:Nat→Nat→AV) (a:Option Addr) (hS:∀ x,¬ S x):jO w F μ S (.os bB 0 e) (.slice a 0 0)
 | os (T:Nat→Prop) (bB n:Nat) (e:Nat→Nat→AV) (b cap:Nat) (cs:Array Value) (t:TypeId) (S:Nat→Nat→Nat→Prop) (Nw:n≠0) (hb:w.heap[b]?=some (.cells cs t (0,0))) (hc:n≤cap) (ER:cap*bB≤cs.size)
   (h1:∀ i j,i < n→j < bB→(cs.getD (i*bB+j) undef).oneCell'=true)
   (h2:∀ i j,i < n→j < bB→jO w F μ (S i j) (e i j) (cs.getD (i*bB+j) undef))
   (hd:∀ i j i' j',i < n→j < bB→i' < n→j' < bB→∀ x,S i j x→S i' j' x→i=i'∧j=j')
   (hn:∀ i j,i < n→j < bB→¬ S i j b) (hT:∀ x,T x↔x=b∨∃ i j,i < n∧j < bB∧S i j x):
   jO w F μ T (.os bB n e) (.slice (some ⟨b,0,none⟩) n cap)
theorem jO.mono {w w':World} {F F':Nat→Prop} {μ bC:Nat→Nat} {S:Nat→Prop} {a:AV} {v:Value} (h:jO w F μ S a v)
  (hw:∀ b,F b→w'.heap[b]?=w.heap[b]?) (hF:∀ b,F b→F' b) (hS:∀ b,S b→w'.heap[b]?=w.heap[b]?):jO w' F' bC S a v:=by
 induction h with
 | KR S a v h hn=>exact .KR S a v ((h.up (bC:=bC)).mono hw hF (fun _ h=>h.elim) (fun _ h=>h) (fun _ h=>h.elim)) hn
 | Cp S bB e a hn=>exact .Cp S bB e a hn
 | os T bB n e b cap cs t S Nw hb hc ER h1 _ hd hn hT ih=>
  exact .os T bB n e b cap cs t S Nw (by rw [hS b ((hT b).2 (.inl rfl))];exact hb) hc ER h1 (fun i j hi hj=>ih i j hi hj fun x hx=>hS x ((hT x).2 (.inr ⟨i,j,hi,hj,hx⟩))) hd hn hT
inductive kq where
 | box (l:List AV)
 | row (v:Bool) (bB n:Nat) (e:Nat→Nat→AV)
 | da (v:Bool) (bB n:Nat) (e:Nat→Nat→AV)
 | map (l:List (AV×AV))
 | JA (l:List (AV×AV)) (j st:Nat)
def h_ (w:World) (F:Nat→Prop) (μ:Nat→Nat) (K:Nat→Prop) (S:Nat→Prop) (b:Nat) (o:Obj):kq→Prop
 | .box l=>∃ cs t,o=.cells cs t (0,0)∧(∀ x,S x↔x=b)∧l.length≤cs.size∧∀ j,j < l.length→VR w F μ K (l.getD j .top) (cs.getD j undef)
 | .row _ bB n e=>∃ cs t S',o=.cells cs t (0,0)∧PE b cs bB n S' S fun T i j v=>jO w F μ T (e i j) v
 | .da _ bB n e=>∃ cs t S',o=.cells cs t (0,0)∧PE b cs bB n S' S fun T i j v=>jO w F μ T (e i j) v∨(VR w F μ K (e i j) v∧∀ x,¬ T x)
 | .map l=>∃ es clock,o=.map es clock∧(∀ x,S x↔x=b)∧es.size=l.length∧(∀ i,i < l.length→(es.getD i default).born < clock∧VR w F μ Ei (l.getD i (.top,.top)).1 (es.getD i default).key∧VR w F μ Ei (l.getD i (.top,.top)).2 (es.getD i default).val)∧
   ∀ i j,i < j→j < es.size→(es.getD i default).born < (es.getD j default).born
 | .JA l j0 st=>∃ es clock,o=.map es clock∧(∀ x,S x↔x=b)∧es.size=l.length∧(∀ i,i < l.length→(es.getD i default).born < clock∧VR w F μ Ei (l.getD i (.top,.top)).1 (es.getD i default).key∧VR w F μ Ei (l.getD i (.top,.top)).2 (es.getD i default).val)∧
   (∀ i j,i < j→j < es.size→(es.getD i default).born < (es.getD j default).born)∧j0 < es.size∧(es.getD j0 default).born=st
theorem h_.mono {w w':World} {F F':Nat→Prop} {μ bC:Nat→Nat} {K K':Nat→Prop} {S:Nat→Prop} {b:Nat} {o:Obj} {B:kq} (h:h_ w F μ K S b o B)
  (hw:∀ b,F b→w'.heap[b]?=w.heap[b]?) (hF:∀ b,F b→F' b) (TK:∀ id,K id→bC id=μ id) (hK:∀ id,K id→K' id)
  (hs:∀ id,K id→w'.shape? (μ id)=w.shape? (μ id)) (hS:∀ x,S x→x≠b→w'.heap[x]?=w.heap[x]?):h_ w' F' bC K' S b o B:=by
 cases B with
 | box l=>
  obtain ⟨cs,t,h1,h2,h3,h4⟩:=h
  exact ⟨cs,t,h1,h2,h3,fun j hj=>(h4 j hj).mono hw hF TK hK hs⟩
 | row v bB n e=>
  obtain ⟨cs,t,S',h1,h2⟩:=h
  exact ⟨cs,t,S',h1,{ h2 with cell:=fun i j hi hj=>⟨(h2.cell i j hi hj).1.mono hw hF fun x hx=>hS x ((h2.all x).2 (.inr ⟨i,j,hi,hj,hx⟩)) fun e=>h2.nb i j hi hj (e▸hx),(h2.cell i j hi hj).2⟩ }⟩
 | da v bB n e=>
  obtain ⟨cs,t,S',h1,h2⟩:=h
  exact ⟨cs,t,S',h1,{ h2 with cell:=fun i j hi hj=>⟨(h2.cell i j hi hj).1.imp (fun k=>k.mono hw hF fun x hx=>hS x ((h2.all x).2 (.inr ⟨i,j,hi,hj,hx⟩)) fun e=>h2.nb i j hi hj (e▸hx)) fun k=>⟨k.1.mono hw hF TK hK hs,k.2⟩,(h2.cell i j hi hj).2⟩ }⟩
 | map l=>
  obtain ⟨es,clock,h1,h2,h3,h4,h5⟩:=h
  exact ⟨es,clock,h1,h2,h3,fun i hi=>⟨(h4 i hi).1,((h4 i hi).2.1.up (bC:=bC)).mono hw hF (fun _ h=>h.elim) (fun _ h=>h) (fun _ h=>h.elim),
   ((h4 i hi).2.2.up (bC:=bC)).mono hw hF (fun _ h=>h.elim) (fun _ h=>h) (fun _ h=>h.elim)⟩,h5⟩
 | JA l j0 st=>
  obtain ⟨es,clock,h1,h2,h3,h4,h5,h6⟩:=h
  exact ⟨es,clock,h1,h2,h3,fun i hi=>⟨(h4 i hi).1,((h4 i hi).2.1.up (bC:=bC)).mono hw hF (fun _ h=>h.elim) (fun _ h=>h) (fun _ h=>h.elim),
   ((h4 i hi).2.2.up (bC:=bC)).mono hw hF (fun _ h=>h.elim) (fun _ h=>h) (fun _ h=>h.elim)⟩,h5,h6⟩
abbrev Hp:=Nat→Option kq
def kq.fa:kq→Bool
 | .row true _ n _=>n != 0
 | .da true _ n _=>n != 0
 | _=>true
def Hp.live (H:Hp) (id:Nat):Prop:=∃ b,H id=some b∧b.fa=true
def VA:List (Nat×List Value):=[(0,[.iface 259 (.agg #[.pointer (some ⟨1,209,none⟩)])])]
structure Pos (w:World) (F:Nat→Prop):Prop where
 lt:0 < w.heap.size
 laid:∀ p,p∈VA→F p.1∧∃ t z,w.heap[p.1]?=some (.cells ⟨p.2⟩ t z)
theorem Pos.mono {w w':World} {F F':Nat→Prop} (h:Pos w F) (hs:w.heap.size≤w'.heap.size) (hF:∀ b,F b→F' b) (hw:∀ b,F b→w'.heap[b]?=w.heap[b]?):Pos w' F':=
 ⟨Nat.lt_of_lt_of_le h.lt hs,fun p hp=>⟨hF _ (h.laid p hp).1,by rw [hw _ (h.laid p hp).1];exact (h.laid p hp).2⟩⟩
theorem Pos.var {P:Program} {w:World} {F:Nat→Prop} {name:String} {g:Nat} {cs:List Value} (h:Pos w F) (hm:(g,cs)∈VA) (hg:P.globalNamed name=some g):w.var? P name=some ⟨cs⟩:=by
 obtain ⟨_,t,z,e⟩:=h.laid _ hm
 simp only at e
 simp [World.var?,hg,e]
theorem Pos.cell {w:World} {F:Nat→Prop} {g i:Nat} {cs:List Value} (h:Pos w F) (hm:(g,cs)∈VA):w.cell? ⟨g,i,none⟩=cs[i]?:=by
 obtain ⟨_,t,z,e⟩:=h.laid _ hm
 simp only at e
 simp [World.cell?,e]
structure HR (w:World) (F O:Nat→Prop) (μ:Nat→Nat) (K:Nat→Prop) (H:Hp) (ft:Nat→Nat→Prop):Prop where
 lt:∀ id,K id→μ id < w.heap.size
 known:∀ id b,H id=some b→K id
 dw:∀ id b,H id=some b→b.fa=true→∃ o,w.heap[μ id]?=some o∧h_ w F μ K (ft id) (μ id) o b
 self:∀ id,H.live id→ft id (μ id)
 own:∀ id,H.live id→∀ x,ft id x→O x
 dj:∀ id cg,H.live id→H.live cg→∀ x,ft id x→ft cg x→id=cg
 z8:∀ b,O b→¬ F b
 wf:∀ b,F b→b < w.heap.size
 rH:∀ b,O b→b < w.heap.size
 pos:Pos w F
structure Fr (w:World) (F O:Nat→Prop) (μ:Nat→Nat) (K:Nat→Prop) (w':World) (F' O':Nat→Prop) (bC:Nat→Nat):Prop where
 os:w'.os=w.os
 tape:w'.tape=w.tape
 output:w'.output=w.output
 size:w.heap.size≤w'.heap.size
 mu:∀ id,K id→bC id=μ id
 Bw:∀ b,F b→F' b
 shape:∀ b,b < w.heap.size→w'.shape? b=w.shape? b
 same:∀ b,b < w.heap.size→¬ O b→w'.heap[b]?=w.heap[b]?
 Gf:∀ b,O' b→O b∨w.heap.size≤b
 JB:∀ b,F' b→F b∨w.heap.size≤b∨O b
variable {w w' xW:World} {F F' Cq O O' wx:Nat→Prop} {μ bC kZ:Nat→Nat} {K K' Gg:Nat→Prop} {H H' H'':Hp} {ft b8:Nat→Nat→Prop}
theorem Fr.refl (w:World) (F O:Nat→Prop) (μ:Nat→Nat) (K:Nat→Prop):Fr w F O μ K w F O μ:=
 ⟨rfl,rfl,rfl,Nat.le_refl _,fun _ _=>rfl,fun _ h=>h,fun _ _=>rfl,fun _ _ _=>rfl,fun _ h=>.inl h,fun _ h=>.inl h⟩
theorem Fr.trans (h:Fr w F O μ K w' F' O' bC) (k:Fr w' F' O' bC K xW Cq wx kZ):Fr w F O μ K xW Cq wx kZ where
 os:=k.os.trans h.os
 tape:=k.tape.trans h.tape
 output:=k.output.trans h.output
 size:=Nat.le_trans h.size k.size
 mu:=fun id cb=>(k.mu id cb).trans (h.mu id cb)
 Bw:=fun b hb=>k.Bw b (h.Bw b hb)
 shape:=fun b hb=>(k.shape b (Nat.lt_of_lt_of_le hb h.size)).trans (h.shape b hb)
 same:=fun b hb hn=>(k.same b (Nat.lt_of_lt_of_le hb h.size) fun ho=>by
   rcases h.Gf b ho with h1 | h1
   ·exact hn h1
   ·omega).trans (h.same b hb hn)
 Gf:=fun b hb=>by
  rcases k.Gf b hb with h1 | h1
  ·exact h.Gf b h1
  ·exact .inr (Nat.le_trans h.size h1)
 JB:=fun b hb=>by
  rcases k.JB b hb with h1 | h1 | h1
  ·exact h.JB b h1
  ·exact .inr (.inl (Nat.le_trans h.size h1))
  ·rcases h.Gf b h1 with h2 | h2
   ·exact .inr (.inr h2)
   ·exact .inr (.inl h2)
theorem Fr.QQ (h:Fr w F O μ K w' F' O' bC) (hK:∀ id,K' id→K id):Fr w F O μ K' w' F' O' bC:=
 { h with mu:=fun id cb=>h.mu id (hK id cb) }
theorem HR.qS (h:HR w F O μ K H ft) {id:Nat} (hl:H.live id):K id:=by
 obtain ⟨b,hb,_⟩:=hl
 exact h.known id b hb
theorem Fr.frozen (h:Fr w F O μ K w' F' O' bC) (hr:HR w F O μ K' H ft) (b:Nat) (hb:F b):w'.heap[b]?=w.heap[b]?:=
 h.same b (hr.wf b hb) fun ho=>hr.z8 b ho hb
theorem VR.step {a:AV} {v:Value} (hv:VR w F μ K a v) (hr:HR w F O μ K H ft) (h:Fr w F O μ K w' F' O' bC) (hK:∀ id,K id→K' id):VR w' F' bC K' a v:=
 hv.mono (h.frozen hr) h.Bw h.mu hK fun id cb=>h.shape _ (hr.lt id cb)
def zR (b:Nat):Deferred:={ target:=.collected b,args:=#[] }
structure wP (w:World) (F O:Nat→Prop) (ds:List Deferred):Prop where
 nd:ds.Nodup
 all:∀ d,d∈ds→∃ b,d=zR b∧¬ O b∧¬ F b∧w.heap[b]?=some (Obj.deferred (some []))
theorem wP.nil:wP w F O []:=⟨List.nodup_nil,fun _ h=>by cases h⟩
theorem wP.step {ds:List Deferred} (h:wP w F O ds) (hf:Fr w F O μ K w' F' O' bC):wP w' F' O' ds where
 nd:=h.nd
 all:=fun d hd=>by
  obtain ⟨b,h1,h2,h3,h4⟩:=h.all d hd
  have hb:b < w.heap.size:=(Array.getElem?_eq_some_iff.1 h4).1
  refine ⟨b,h1,fun ho=>?_,fun hF=>?_,by rw [hf.same b hb h2];exact h4⟩
  ·rcases hf.Gf b ho with h5 | h5
   ·exact h2 h5
   ·omega
  ·rcases hf.JB b hF with h5 | h5 | h5
   ·exact h3 h5
   ·omega
   ·exact h2 h5
theorem wP.sub {ds:List Deferred} (h:wP w F O ds) (hO:∀ b,O' b→O b) (hF:∀ b,F' b→F b∨O b):wP w F' O' ds where
 nd:=h.nd
 all:=fun d hd=>by
  obtain ⟨b,h1,h2,h3,h4⟩:=h.all d hd
  exact ⟨b,h1,fun ho=>h2 (hO b ho),fun hf=>(hF b hf).elim h3 h2,h4⟩
theorem wP.same {ds:List Deferred} (h:wP w F O ds) (hh:∀ b:Nat,w.heap[b]?=some (Obj.deferred (some []))→w'.heap[b]?=w.heap[b]?):wP w' F O ds where
 nd:=h.nd
 all:=fun d hd=>by
  obtain ⟨b,h1,h2,h3,h4⟩:=h.all d hd
  exact ⟨b,h1,h2,h3,by rw [hh b h4];exact h4⟩
structure fU where
 nt:Nat
 N:Nat
 tm:Nat→AV
 H:Hp
structure SR (w:World) (F O:Nat→Prop) (μ:Nat→Nat) (K:Nat→Prop) (s:fU) (ft:Nat→Nat→Prop) (a:Act):Prop where
 hr:HR w F O μ K s.H ft
 nt:a.tmps.size=s.nt
 tm:∀ t,VR w F μ K (s.tm t) (a.tmps.getD t undef)
 df:wP w F O a.defers
def Part (H0 H:Hp):Prop:=∀ id,H0 id=none∨H0 id=H id
theorem Part.live {H0 H:Hp} (h:Part H0 H) {id:Nat} (hl:H0.live id):H.live id:=by
 obtain ⟨b,hb,hl⟩:=hl
 rcases h id with e | e
 ·rw [e] at hb;cases hb
 ·exact ⟨b,e▸hb,hl⟩
def Hp.c_ (H:Hp):List (Nat×Option kq)→Hp
 | []=>H
 | (i,b)::r=>fun id=>if id=i then b else Hp.c_ H r id
def Hp.ajT:Hp:=fun _=>none
def plus (K:Nat→Prop) (l:List Nat):Nat→Prop:=fun id=>K id∨id∈l
theorem jC (K:Nat→Prop):plus K []=K:=by
 funext id;simp [plus]
theorem Hp.TL (H:Hp):H.c_ []=H:=rfl
theorem Hp.Dr (H:Hp) (i:Nat) (b:Option kq) (id:Nat):H.c_ [(i,b)] id=if id=i then b else H id:=rfl
theorem Hp.TM (H:Hp) (id:Nat):∀ up:List (Nat×Option kq),(id∈up.map (·.1)∧∀ H':Hp,H'.c_ up id=H.c_ up id)∨(id ∉ up.map (·.1)∧∀ H':Hp,H'.c_ up id=H' id)
 | []=>.inr ⟨by simp,fun _=>rfl⟩
 | (i,b)::r=>by
  by_cases e:id=i
  ·exact .inl ⟨by simp [e],fun H'=>by simp [Hp.c_,e]⟩
  ·rcases Hp.TM H id r with ⟨h,h'⟩ | ⟨h,h'⟩
   ·exact .inl ⟨by simp [h],fun H'=>by simp [Hp.c_,e,h']⟩
   ·refine .inr ⟨?_,fun H'=>by simp [Hp.c_,e,h']⟩
    intro hm
    simp only [List.map_cons,List.mem_cons] at hm
    rcases hm with hm | hm
    ·exact e hm
    ·exact h hm
def NY (H:Hp) (ft:Nat→Nat→Prop):Nat→Prop:=fun x=>∃ id,H.live id∧ft id x
theorem HR.part {H0:Hp} (h:HR w F O μ K H ft) (l:Part H0 H):HR w F (NY H0 ft) μ K H0 ft where
 lt:=h.lt
 known:=fun id b hb=>h.known id b (by
  rcases l id with e | e
  ·rw [e] at hb;cases hb
  ·rw [← e];exact hb)
 dw:=fun id b hb=>h.dw id b (by
  rcases l id with e | e
  ·rw [e] at hb;cases hb
  ·rw [← e];exact hb)
 self:=fun id hl=>h.self id (l.live hl)
 own:=fun id hl x hx=>⟨id,hl,hx⟩
 dj:=fun id cg hl Ds=>h.dj id cg (l.live hl) (l.live Ds)
 z8:=fun b ⟨id,hl,hx⟩=>h.z8 b (h.own id (l.live hl) b hx)
 wf:=h.wf
 rH:=fun b ⟨id,hl,hx⟩=>h.rH b (h.own id (l.live hl) b hx)
 pos:=h.pos
theorem HR.ahz {H0:Hp} (h:HR w F O μ K H ft) (l:Part H0 H):HR w F O μ K H0 ft:=
 { h.part l with own:=fun id hl x hx=>h.own id (l.live hl) x hx,z8:=h.z8,rH:=h.rH }
open Classical in
theorem XB {H0:Hp} {up:List (Nat×Option kq)} {F1 F1' F2:Nat→Prop} (hr:HR w F O μ K H ft) (l:Part H0 H) (hKK:∀ id,K id→K' id)
  (EZ:HR w' F1' O' bC K' (H0.c_ up) b8) (hf:Fr w F1 (NY H0 ft) μ K w' F1' O' bC)
  (h01:∀ b,F b→F1 b) (h02:∀ b,F b→F2 b) (h21:∀ b,F2 b→F1' b) (h2:∀ b,F2 b→F b∨w.heap.size≤b∨NY H0 ft b)
  (XC:∀ id b,(H0.c_ up) id=some b→b.fa=true→∃ o,w'.heap[bC id]?=some o∧h_ w' F2 bC K' (b8 id) (bC id) o b):
  ∃ wx Mr,HR w' F2 wx bC K' (H.c_ up) Mr∧Fr w F O μ K w' F2 wx bC:=by
 have kn:∀ {id},H.live id→K id:=fun ⟨b,hb,_⟩=>hr.known _ b hb
 have sub:∀ x,NY H0 ft x→O x:=fun x ⟨id,hl,hx⟩=>hr.own id (l.live hl) x hx
 have qU:∀ b,F b→w'.heap[b]?=w.heap[b]?:=fun b hb=>hf.same b (hr.wf b hb) fun h=>hr.z8 b (sub b h) hb
 have zS:∀ id b,(H.c_ up) id=some b→(H0.c_ up) id=some b∨(H id=some b∧H0 id=none∧(H0.c_ up) id=none):=by
  intro id b hb
  rcases Hp.TM H id up with ⟨hm,he⟩ | ⟨hm,he⟩
  ·exact .inl (by rw [he H0];exact hb)
  ·have h1:=he H
   have h2:=he H0
   rw [h1] at hb
   rcases l id with e | e
   ·exact .inr ⟨hb,e,h2.trans e⟩
   ·exact .inl (by rw [h2,e];exact hb)
 let KS:Nat→Prop:=fun id=>(H0.c_ up) id≠none
 let Mr:Nat→Nat→Prop:=fun id=>if KS id then b8 id else ft id
 let wx:Nat→Prop:=fun x=>O' x∨(O x∧¬ NY H0 ft x)
 have gx:∀ id,(H.c_ up).live id→((H0.c_ up).live id∧Mr id=b8 id)∨((H.live id∧H0 id=none)∧Mr id=ft id):=by
  rintro id ⟨b,hb,hl⟩
  rcases zS id b hb with h1 | ⟨h1,h2,h3⟩
  ·exact .inl ⟨⟨b,h1,hl⟩,if_pos (by simp only [KS,h1];simp)⟩
  ·exact .inr ⟨⟨⟨b,h1,hl⟩,h2⟩,if_neg (by simp only [KS,h3];simp)⟩
 have out:∀ id,H.live id→H0 id=none→∀ x,ft id x→¬ NY H0 ft x:=fun id h1 h2 x hx ⟨rJ,h0,hx0⟩=>by
  have:=hr.dj rJ id (l.live h0) h1 x hx0 hx
  subst this
  obtain ⟨b,hb,_⟩:=h0
  rw [h2] at hb;cases hb
 have same:∀ id,H.live id→H0 id=none→∀ x,ft id x→w'.heap[x]?=w.heap[x]?:=fun id h1 h2 x hx=>
  hf.same _ (hr.rH x (hr.own id h1 x hx)) (out id h1 h2 x hx)
 have ae3:∀ id cg,(H0.c_ up).live id→H.live cg→H0 cg=none→∀ x,b8 id x→ft cg x→False:=by
  intro id cg h1 h2 h3 x hx ll
  rcases hf.Gf x (EZ.own id h1 x hx) with h4 | h4
  ·exact out cg h2 h3 x ll h4
  ·have:=hr.rH x (hr.own cg h2 x ll);omega
 refine ⟨wx,Mr,{ lt:=EZ.lt,known:=?_,dw:=?_,self:=?_,own:=?_,dj:=?_,z8:=?_,wf:=fun b hb=>EZ.wf b (h21 b hb),rH:=?_,pos:=hr.pos.mono hf.size h02 qU },
  { os:=hf.os,tape:=hf.tape,output:=hf.output,size:=hf.size,mu:=hf.mu,Bw:=h02,shape:=hf.shape,same:=?_,Gf:=?_,JB:=?_ }⟩
 ·intro id b hb
  rcases zS id b hb with h1 | ⟨h1,_⟩
  ·exact EZ.known id b h1
  ·exact hKK id (hr.known id b h1)
 ·intro id b hb hl
  rcases zS id b hb with h1 | ⟨h1,h2,h3⟩
  ·have e:Mr id=b8 id:=if_pos (by simp only [KS,h1];simp)
   rw [e]
   exact XC id b h1 hl
  ·have e:Mr id=ft id:=if_neg (by simp only [KS,h3];simp)
   rw [e]
   obtain ⟨o,ho,hB⟩:=hr.dw id b h1 hl
   have iM:H.live id:=⟨b,h1,hl⟩
   rw [hf.mu id (kn iM)]
   refine ⟨o,by rw [same id iM h2 _ (hr.self id iM)];exact ho,hB.mono qU h02 hf.mu hKK (fun id cb=>hf.shape _ (hr.lt id cb)) fun x hx _=>same id iM h2 x hx⟩
 ·intro id hl
  rcases gx id hl with ⟨h1,e⟩ | ⟨⟨h1,h2⟩,e⟩<;>rw [e]
  ·exact EZ.self id h1
  ·rw [hf.mu id (kn h1)];exact hr.self id h1
 ·intro id hl x hx
  rcases gx id hl with ⟨h1,e⟩ | ⟨⟨h1,h2⟩,e⟩<;>rw [e] at hx
  ·exact .inl (EZ.own id h1 x hx)
  ·exact .inr ⟨hr.own id h1 x hx,out id h1 h2 x hx⟩
 ·intro id cg hl Ds x hx ll
  rcases gx id hl with ⟨h1,e⟩ | ⟨⟨h1,h2⟩,e⟩<;>rcases gx cg Ds with ⟨k1,e'⟩ | ⟨⟨k1,k2⟩,e'⟩<;>rw [e] at hx<;>rw [e'] at ll
  ·exact EZ.dj id cg h1 k1 x hx ll
  ·exact (ae3 id cg h1 k1 k2 x hx ll).elim
  ·exact (ae3 cg id k1 h1 h2 x ll hx).elim
  ·exact hr.dj id cg h1 k1 x hx ll
 ·rintro b (h1 | ⟨h1,h3⟩) hF
  ·exact EZ.z8 b h1 (h21 b hF)
  ·rcases h2 b hF with h4 | h4 | h4
   ·exact hr.z8 b h1 h4
   ·have:=hr.rH b h1;omega
   ·exact h3 h4
 ·rintro b (h1 | ⟨h1,_⟩)
  ·exact EZ.rH b h1
  ·exact Nat.lt_of_lt_of_le (hr.rH b h1) hf.size
 ·exact fun b hb hn=>hf.same b hb fun h=>hn (sub b h)
 ·rintro b (h1 | ⟨h1,_⟩)
  ·rcases hf.Gf b h1 with h2 | h2
   ·exact .inl (sub b h2)
   ·exact .inr h2
  ·exact .inl h1
 ·intro b hb
  rcases h2 b hb with h1 | h1 | h1
  ·exact .inl h1
  ·exact .inr (.inl h1)
  ·exact .inr (.inr (sub b h1))
theorem frame {H0:Hp} {up:List (Nat×Option kq)} (hr:HR w F O μ K H ft) (l:Part H0 H) (hKK:∀ id,K id→K' id)
  (EZ:HR w' F' O' bC K' (H0.c_ up) b8) (hf:Fr w F (NY H0 ft) μ K w' F' O' bC):
  ∃ wx Mr,HR w' F' wx bC K' (H.c_ up) Mr∧Fr w F O μ K w' F' wx bC:=
 XB hr l hKK EZ hf (fun _ h=>h) hf.Bw (fun _ h=>h) (fun b hb=>hf.JB b hb) EZ.dw
end Go.Proofs.YtljfmaaadnoggaaGreatDoor.cX
