/- My abstract values over the model's memory: what a value stands for, frozen memory, memory of the call's own; what a step may turn. No condition. -/
import Derived.Below
import Derived.Tactics
import Derived.Laws.World
import Derived.Laws.Entries
import Derived.Orders
set_option linter.unusedSimpArgs false
set_option linter.unusedVariables false
namespace Go.Proofs.Ytljfmaaadnoggaa.Abs
open Go Go.RowKit
inductive AV where
 | top
 | lit (v:Value)
 | int (k:IntKind) (n:Int)
 | bool (b:Bool)
 | str (s:List UInt8)
 | nils
 | agg (cs:List AV)
 | tup (vs:List AV)
 | fs (esz n:Nat) (e:Nat→Nat→AV)
 | fp (esz:Nat) (e:Nat→AV) (off:Nat)
 | os (esz n:Nat) (e:Nat→Nat→AV)
 | ms (id i n esz:Nat)
 | vs (id n esz:Nat)
 | bp (id off:Nat)
 | rp (id esz i j:Nat)
 | mp (id:Nat)
 | ifc (t:TypeId) (v:AV)
 | fn (f:Fn) (first cap:List AV)
 | wh (c:Bool) (a:AV)
instance:Inhabited AV:=⟨.top⟩
def AV.dat:AV→Prop
 | .top=>True
 | .int _ _=>True
 | .bool _=>True
 | .str _=>True
 | .fs _ _ e=>∀ i j,(e i j).dat
 | _=>False
def AV.deep:AV→AV
 | .fs esz n e=>.os esz n fun i j=>(e i j).deep
 | a=>a
def NoK:Nat→Prop:=fun _=>False
inductive VR (w:World) (F:Nat→Prop) (μ:Nat→Nat):(Nat→Prop)→AV→Value→Prop
 | top {K:Nat→Prop} (v:Value):VR w F μ K .top v
 | lit {K:Nat→Prop} (v:Value):VR w F μ K (.lit v) v
 | int {K:Nat→Prop} (k:IntKind) (n:Int):VR w F μ K (.int k n) (.int k n)
 | bool {K:Nat→Prop} (b:Bool):VR w F μ K (.bool b) (.bool b)
 | str {K:Nat→Prop} (s:List UInt8):VR w F μ K (.str s) (.string ⟨⟨s⟩⟩)
 | nils {K:Nat→Prop}:VR w F μ K .nils (.slice none 0 0)
 | agg {K:Nat→Prop} (cs:List AV) (vs:List Value) (h:cs.length=vs.length) (hv:∀ i,i < cs.length→VR w F μ K (cs.getD i .top) (vs.getD i undef)):VR w F μ K (.agg cs) (.agg ⟨vs⟩)
 | tup {K:Nat→Prop} (cs:List AV) (vs:List Value) (h:cs.length=vs.length) (hv:∀ i,i < cs.length→VR w F μ K (cs.getD i .top) (vs.getD i undef)):VR w F μ K (.tup cs) (.tuple ⟨vs⟩)
 | fs {K:Nat→Prop} (esz n:Nat) (e:Nat→Nat→AV) (b o cap:Nat) (u:Nat→Nat→Value) (hF:F b) (hc:n≤cap)
   (hu:∀ i j,i < n→j < esz→w.cell? ⟨b,o+i*esz+j,none⟩=some (u i j)∧(u i j).oneCell'=true) (hv:∀ i j,i < n→j < esz→VR w F μ NoK (e i j) (u i j)):
   VR w F μ K (.fs esz n e) (.slice (some ⟨b,o,none⟩) n cap)
 | fsnil {K:Nat→Prop} (esz:Nat) (e:Nat→Nat→AV) (a:Option Addr) (cap:Nat):VR w F μ K (.fs esz 0 e) (.slice a 0 cap)
 | fp {K:Nat→Prop} (esz:Nat) (e:Nat→AV) (off b o:Nat) (u:Nat→Value) (hF:F b) (hu:∀ j,off+j < esz→w.cell? ⟨b,o+j,none⟩=some (u j))
   (hv:∀ j,off+j < esz→VR w F μ NoK (e (off+j)) (u j)):VR w F μ K (.fp esz e off) (.pointer (some ⟨b,o,none⟩))
 | ms {K:Nat→Prop} (id i n esz cap sz:Nat) (t:TypeId) (hid:K id) (hc:n≤cap) (hs:w.shape? (μ id)=some (t,sz)) (hsz:(i+cap)*esz≤sz):
   VR w F μ K (.ms id i n esz) (.slice (some ⟨μ id,i*esz,none⟩) n cap)
 | vs {K:Nat→Prop} (id n esz cap sz:Nat) (t:TypeId) (hn:n≠0) (hid:K id) (hc:n≤cap) (hs:w.shape? (μ id)=some (t,sz)) (hsz:cap*esz≤sz):
   VR w F μ K (.vs id n esz) (.slice (some ⟨μ id,0,none⟩) n cap)
 | vsnil {K:Nat→Prop} (id esz:Nat) (a:Option Addr):VR w F μ K (.vs id 0 esz) (.slice a 0 0)
 | bp {K:Nat→Prop} (id off:Nat) (hid:K id):VR w F μ K (.bp id off) (.pointer (some ⟨μ id,off,none⟩))
 | rp {K:Nat→Prop} (id esz i j:Nat) (hid:K id):VR w F μ K (.rp id esz i j) (.pointer (some ⟨μ id,i*esz+j,none⟩))
 | mp {K:Nat→Prop} (id:Nat) (hid:K id):VR w F μ K (.mp id) (.map (some (μ id)))
 | ifc {K:Nat→Prop} (t:TypeId) (a:AV) (v:Value) (h:VR w F μ K a v):VR w F μ K (.ifc t a) (.iface t v)
 | fn {K:Nat→Prop} (f:Fn) (xs ys:List AV) (vs us:List Value) (h:xs.length=vs.length) (h':ys.length=us.length)
   (hv:∀ i,i < xs.length→VR w F μ K (xs.getD i .top) (vs.getD i undef)) (hu:∀ i,i < ys.length→VR w F μ K (ys.getD i .top) (us.getD i undef)):
   VR w F μ K (.fn f xs ys) (.func f ⟨vs⟩ ⟨us⟩)
 | wh {K:Nat→Prop} (c:Bool) (a:AV) (v:Value) (h:c=true→VR w F μ K a v):VR w F μ K (.wh c a) v
theorem VR.mono {w w':World} {F F':Nat→Prop} {μ μ':Nat→Nat} {K K':Nat→Prop} {a:AV} {v:Value} (h:VR w F μ K a v)
  (hw:∀ b,F b→w'.heap[b]?=w.heap[b]?) (hF:∀ b,F b→F' b) (hμ:∀ id,K id→μ' id=μ id) (hK:∀ id,K id→K' id)
  (hs:∀ id,K id→w'.shape? (μ id)=w.shape? (μ id)):VR w' F' μ' K' a v:=by
 induction h generalizing K' with
 | top v=>exact .top v
 | lit v=>exact .lit v
 | int k n=>exact .int k n
 | bool b=>exact .bool b
 | str s=>exact .str s
 | nils=>exact .nils
 | agg cs vs h _ ih=>exact .agg cs vs h fun i hi=>ih i hi hμ hK hs
 | tup cs vs h _ ih=>exact .tup cs vs h fun i hi=>ih i hi hμ hK hs
 | fs esz n e b o cap u hb hc hu _ ih=>
  exact .fs esz n e b o cap u (hF b hb) hc (fun i j hi hj=>by rw [World.cell?_of_block (hw b hb)];exact hu i j hi hj) fun i j hi hj=>ih i j hi hj (fun _ h=>h.elim) (fun _ h=>h) (fun _ h=>h.elim)
 | fsnil esz e a cap=>exact .fsnil esz e a cap
 | fp esz e off b o u hb hu _ ih=>
  exact .fp esz e off b o u (hF b hb) (fun j hj=>by rw [World.cell?_of_block (hw b hb)];exact hu j hj) fun j hj=>ih j hj (fun _ h=>h.elim) (fun _ h=>h) (fun _ h=>h.elim)
 | ms id i n esz cap sz t hid hc hsh hsz=>
  rw [← hμ id hid]
  exact .ms id i n esz cap sz t (hK id hid) hc (by rw [hμ id hid,hs id hid];exact hsh) hsz
 | vs id n esz cap sz t hn hid hc hsh hsz=>
  rw [← hμ id hid]
  exact .vs id n esz cap sz t hn (hK id hid) hc (by rw [hμ id hid,hs id hid];exact hsh) hsz
 | vsnil id esz a=>exact .vsnil id esz a
 | bp id off hid=>rw [← hμ id hid];exact .bp id off (hK id hid)
 | rp id esz i j hid=>rw [← hμ id hid];exact .rp id esz i j (hK id hid)
 | mp id hid=>rw [← hμ id hid];exact .mp id (hK id hid)
 | ifc t a v _ ih=>exact .ifc t a v (ih hμ hK hs)
 | fn f xs ys vs us h h' _ _ ih ih'=>exact .fn f xs ys vs us h h' (fun i hi=>ih i hi hμ hK hs) (fun i hi=>ih' i hi hμ hK hs)
 | wh c a v _ ih=>exact .wh c a v fun hc=>ih hc hμ hK hs
theorem VR.up {w:World} {F:Nat→Prop} {μ μ':Nat→Nat} {K:Nat→Prop} {a:AV} {v:Value} (h:VR w F μ NoK a v):VR w F μ' K a v:=
 h.mono (fun _ _=>rfl) (fun _ h=>h) (fun _ h=>h.elim) (fun _ h=>h.elim) (fun _ h=>h.elim)
structure RowB (b:Nat) (cs:Array Value) (esz n:Nat) (S:Nat→Nat→Nat→Prop) (T:Nat→Prop) (R:(Nat→Prop)→Nat→Nat→Value→Prop):Prop where
 size:n*esz≤cs.size
 cell:∀ i j,i < n→j < esz→R (S i j) i j (cs.getD (i*esz+j) undef)∧(cs.getD (i*esz+j) undef).oneCell'=true
 dj:∀ i j i' j',i < n→j < esz→i' < n→j' < esz→∀ x,S i j x→S i' j' x→i=i'∧j=j'
 nb:∀ i j,i < n→j < esz→¬ S i j b
 all:∀ x,T x↔x=b∨∃ i j,i < n∧j < esz∧S i j x
inductive OwnR (w:World) (F:Nat→Prop) (μ:Nat→Nat):(Nat→Prop)→AV→Value→Prop
 | clo (S:Nat→Prop) (a:AV) (v:Value) (h:VR w F μ NoK a v) (hS:∀ x,¬ S x):OwnR w F μ S a v
 | osnil (S:Nat→Prop) (esz:Nat) (e:Nat→Nat→AV) (a:Option Addr) (hS:∀ x,¬ S x):OwnR w F μ S (.os esz 0 e) (.slice a 0 0)
 | os (T:Nat→Prop) (esz n:Nat) (e:Nat→Nat→AV) (b cap:Nat) (cs:Array Value) (t:TypeId) (S:Nat→Nat→Nat→Prop) (hn0:n≠0) (hb:w.heap[b]?=some (.cells cs t (0,0))) (hc:n≤cap) (hcs:cap*esz≤cs.size)
   (h1:∀ i j,i < n→j < esz→(cs.getD (i*esz+j) undef).oneCell'=true)
   (h2:∀ i j,i < n→j < esz→OwnR w F μ (S i j) (e i j) (cs.getD (i*esz+j) undef))
   (hd:∀ i j i' j',i < n→j < esz→i' < n→j' < esz→∀ x,S i j x→S i' j' x→i=i'∧j=j')
   (hn:∀ i j,i < n→j < esz→¬ S i j b) (hT:∀ x,T x↔x=b∨∃ i j,i < n∧j < esz∧S i j x):
   OwnR w F μ T (.os esz n e) (.slice (some ⟨b,0,none⟩) n cap)
theorem OwnR.mono {w w':World} {F F':Nat→Prop} {μ μ':Nat→Nat} {S:Nat→Prop} {a:AV} {v:Value} (h:OwnR w F μ S a v)
  (hw:∀ b,F b→w'.heap[b]?=w.heap[b]?) (hF:∀ b,F b→F' b) (hS:∀ b,S b→w'.heap[b]?=w.heap[b]?):OwnR w' F' μ' S a v:=by
 induction h with
 | clo S a v h hn=>exact .clo S a v ((h.up (μ':=μ')).mono hw hF (fun _ h=>h.elim) (fun _ h=>h) (fun _ h=>h.elim)) hn
 | osnil S esz e a hn=>exact .osnil S esz e a hn
 | os T esz n e b cap cs t S hn0 hb hc hcs h1 _ hd hn hT ih=>
  exact .os T esz n e b cap cs t S hn0 (by rw [hS b ((hT b).2 (.inl rfl))];exact hb) hc hcs h1 (fun i j hi hj=>ih i j hi hj fun x hx=>hS x ((hT x).2 (.inr ⟨i,j,hi,hj,hx⟩))) hd hn hT
inductive Blk where
 | box (l:List AV)
 | row (v:Bool) (esz n:Nat) (e:Nat→Nat→AV)
 | hrow (v:Bool) (esz n:Nat) (e:Nat→Nat→AV)
 | map (l:List (AV×AV))
 | mapz (l:List (AV×AV)) (j st:Nat)
def BlkR (w:World) (F:Nat→Prop) (μ:Nat→Nat) (K:Nat→Prop) (S:Nat→Prop) (b:Nat) (o:Obj):Blk→Prop
 | .box l=>∃ cs t,o=.cells cs t (0,0)∧(∀ x,S x↔x=b)∧l.length≤cs.size∧∀ j,j < l.length→VR w F μ K (l.getD j .top) (cs.getD j undef)
 | .row _ esz n e=>∃ cs t S',o=.cells cs t (0,0)∧RowB b cs esz n S' S fun T i j v=>OwnR w F μ T (e i j) v
 | .hrow _ esz n e=>∃ cs t S',o=.cells cs t (0,0)∧RowB b cs esz n S' S fun T i j v=>OwnR w F μ T (e i j) v∨(VR w F μ K (e i j) v∧∀ x,¬ T x)
 | .map l=>∃ es clock,o=.map es clock∧(∀ x,S x↔x=b)∧es.size=l.length∧(∀ i,i < l.length→(es.getD i default).born < clock∧VR w F μ NoK (l.getD i (.top,.top)).1 (es.getD i default).key∧VR w F μ NoK (l.getD i (.top,.top)).2 (es.getD i default).val)∧
   ∀ i j,i < j→j < es.size→(es.getD i default).born < (es.getD j default).born
 | .mapz l j0 st=>∃ es clock,o=.map es clock∧(∀ x,S x↔x=b)∧es.size=l.length∧(∀ i,i < l.length→(es.getD i default).born < clock∧VR w F μ NoK (l.getD i (.top,.top)).1 (es.getD i default).key∧VR w F μ NoK (l.getD i (.top,.top)).2 (es.getD i default).val)∧
   (∀ i j,i < j→j < es.size→(es.getD i default).born < (es.getD j default).born)∧j0 < es.size∧(es.getD j0 default).born=st
theorem BlkR.mono {w w':World} {F F':Nat→Prop} {μ μ':Nat→Nat} {K K':Nat→Prop} {S:Nat→Prop} {b:Nat} {o:Obj} {B:Blk} (h:BlkR w F μ K S b o B)
  (hw:∀ b,F b→w'.heap[b]?=w.heap[b]?) (hF:∀ b,F b→F' b) (hμ:∀ id,K id→μ' id=μ id) (hK:∀ id,K id→K' id)
  (hs:∀ id,K id→w'.shape? (μ id)=w.shape? (μ id)) (hS:∀ x,S x→x≠b→w'.heap[x]?=w.heap[x]?):BlkR w' F' μ' K' S b o B:=by
 cases B with
 | box l=>
  obtain ⟨cs,t,h1,h2,h3,h4⟩:=h
  exact ⟨cs,t,h1,h2,h3,fun j hj=>(h4 j hj).mono hw hF hμ hK hs⟩
 | row v esz n e=>
  obtain ⟨cs,t,S',h1,h2⟩:=h
  exact ⟨cs,t,S',h1,{ h2 with cell:=fun i j hi hj=>⟨(h2.cell i j hi hj).1.mono hw hF fun x hx=>hS x ((h2.all x).2 (.inr ⟨i,j,hi,hj,hx⟩)) fun e=>h2.nb i j hi hj (e▸hx),(h2.cell i j hi hj).2⟩ }⟩
 | hrow v esz n e=>
  obtain ⟨cs,t,S',h1,h2⟩:=h
  exact ⟨cs,t,S',h1,{ h2 with cell:=fun i j hi hj=>⟨(h2.cell i j hi hj).1.imp (fun k=>k.mono hw hF fun x hx=>hS x ((h2.all x).2 (.inr ⟨i,j,hi,hj,hx⟩)) fun e=>h2.nb i j hi hj (e▸hx)) fun k=>⟨k.1.mono hw hF hμ hK hs,k.2⟩,(h2.cell i j hi hj).2⟩ }⟩
 | map l=>
  obtain ⟨es,clock,h1,h2,h3,h4,h5⟩:=h
  exact ⟨es,clock,h1,h2,h3,fun i hi=>⟨(h4 i hi).1,((h4 i hi).2.1.up (μ':=μ')).mono hw hF (fun _ h=>h.elim) (fun _ h=>h) (fun _ h=>h.elim),
   ((h4 i hi).2.2.up (μ':=μ')).mono hw hF (fun _ h=>h.elim) (fun _ h=>h) (fun _ h=>h.elim)⟩,h5⟩
 | mapz l j0 st=>
  obtain ⟨es,clock,h1,h2,h3,h4,h5,h6⟩:=h
  exact ⟨es,clock,h1,h2,h3,fun i hi=>⟨(h4 i hi).1,((h4 i hi).2.1.up (μ':=μ')).mono hw hF (fun _ h=>h.elim) (fun _ h=>h) (fun _ h=>h.elim),
   ((h4 i hi).2.2.up (μ':=μ')).mono hw hF (fun _ h=>h.elim) (fun _ h=>h) (fun _ h=>h.elim)⟩,h5,h6⟩
abbrev Hp:=Nat→Option Blk
def Blk.lies:Blk→Bool
 | .row true _ n _=>n != 0
 | .hrow true _ n _=>n != 0
 | _=>true
def Hp.live (H:Hp) (id:Nat):Prop:=∃ b,H id=some b∧b.lies=true
def laidL:List (Nat×List Value):=[]
structure Pos (w:World) (F:Nat→Prop):Prop where
 lt:0 < w.heap.size
 laid:∀ p,p∈laidL→F p.1∧∃ t z,w.heap[p.1]?=some (.cells ⟨p.2⟩ t z)
theorem Pos.mono {w w':World} {F F':Nat→Prop} (h:Pos w F) (hs:w.heap.size≤w'.heap.size) (hF:∀ b,F b→F' b) (hw:∀ b,F b→w'.heap[b]?=w.heap[b]?):Pos w' F':=
 ⟨Nat.lt_of_lt_of_le h.lt hs,fun p hp=>⟨hF _ (h.laid p hp).1,by rw [hw _ (h.laid p hp).1];exact (h.laid p hp).2⟩⟩
theorem Pos.var {P:Program} {w:World} {F:Nat→Prop} {name:String} {g:Nat} {cs:List Value} (h:Pos w F) (hm:(g,cs)∈laidL) (hg:P.globalNamed name=some g):w.var? P name=some ⟨cs⟩:=by
 obtain ⟨_,t,z,e⟩:=h.laid _ hm
 simp only at e
 simp [World.var?,hg,e]
theorem Pos.cell {w:World} {F:Nat→Prop} {g i:Nat} {cs:List Value} (h:Pos w F) (hm:(g,cs)∈laidL):w.cell? ⟨g,i,none⟩=cs[i]?:=by
 obtain ⟨_,t,z,e⟩:=h.laid _ hm
 simp only at e
 simp [World.cell?,e]
structure HR (w:World) (F O:Nat→Prop) (μ:Nat→Nat) (K:Nat→Prop) (H:Hp) (ft:Nat→Nat→Prop):Prop where
 lt:∀ id,K id→μ id < w.heap.size
 known:∀ id b,H id=some b→K id
 blk:∀ id b,H id=some b→b.lies=true→∃ o,w.heap[μ id]?=some o∧BlkR w F μ K (ft id) (μ id) o b
 self:∀ id,H.live id→ft id (μ id)
 own:∀ id,H.live id→∀ x,ft id x→O x
 dj:∀ id id',H.live id→H.live id'→∀ x,ft id x→ft id' x→id=id'
 nof:∀ b,O b→¬ F b
 wf:∀ b,F b→b < w.heap.size
 owf:∀ b,O b→b < w.heap.size
 pos:Pos w F
structure Fr (w:World) (F O:Nat→Prop) (μ:Nat→Nat) (K:Nat→Prop) (w':World) (F' O':Nat→Prop) (μ':Nat→Nat):Prop where
 os:w'.os=w.os
 tape:w'.tape=w.tape
 output:w'.output=w.output
 size:w.heap.size≤w'.heap.size
 mu:∀ id,K id→μ' id=μ id
 froz:∀ b,F b→F' b
 shape:∀ b,b < w.heap.size→w'.shape? b=w.shape? b
 same:∀ b,b < w.heap.size→¬ O b→w'.heap[b]?=w.heap[b]?
 onew:∀ b,O' b→O b∨w.heap.size≤b
 fnew:∀ b,F' b→F b∨w.heap.size≤b∨O b
variable {w w' w'':World} {F F' F'' O O' O'':Nat→Prop} {μ μ' μ'':Nat→Nat} {K K' K'':Nat→Prop} {H H' H'':Hp} {ft ft':Nat→Nat→Prop}
theorem Fr.refl (w:World) (F O:Nat→Prop) (μ:Nat→Nat) (K:Nat→Prop):Fr w F O μ K w F O μ:=
 ⟨rfl,rfl,rfl,Nat.le_refl _,fun _ _=>rfl,fun _ h=>h,fun _ _=>rfl,fun _ _ _=>rfl,fun _ h=>.inl h,fun _ h=>.inl h⟩
theorem Fr.trans (h:Fr w F O μ K w' F' O' μ') (k:Fr w' F' O' μ' K w'' F'' O'' μ''):Fr w F O μ K w'' F'' O'' μ'' where
 os:=k.os.trans h.os
 tape:=k.tape.trans h.tape
 output:=k.output.trans h.output
 size:=Nat.le_trans h.size k.size
 mu:=fun id hid=>(k.mu id hid).trans (h.mu id hid)
 froz:=fun b hb=>k.froz b (h.froz b hb)
 shape:=fun b hb=>(k.shape b (Nat.lt_of_lt_of_le hb h.size)).trans (h.shape b hb)
 same:=fun b hb hn=>(k.same b (Nat.lt_of_lt_of_le hb h.size) fun ho=>by
   rcases h.onew b ho with h1 | h1
   ·exact hn h1
   ·omega).trans (h.same b hb hn)
 onew:=fun b hb=>by
  rcases k.onew b hb with h1 | h1
  ·exact h.onew b h1
  ·exact .inr (Nat.le_trans h.size h1)
 fnew:=fun b hb=>by
  rcases k.fnew b hb with h1 | h1 | h1
  ·exact h.fnew b h1
  ·exact .inr (.inl (Nat.le_trans h.size h1))
  ·rcases h.onew b h1 with h2 | h2
   ·exact .inr (.inr h2)
   ·exact .inr (.inl h2)
theorem Fr.pin (h:Fr w F O μ K w' F' O' μ') (hK:∀ id,K' id→K id):Fr w F O μ K' w' F' O' μ':=
 { h with mu:=fun id hid=>h.mu id (hK id hid) }
theorem HR.live_known (h:HR w F O μ K H ft) {id:Nat} (hl:H.live id):K id:=by
 obtain ⟨b,hb,_⟩:=hl
 exact h.known id b hb
theorem Fr.frozen (h:Fr w F O μ K w' F' O' μ') (hr:HR w F O μ K' H ft) (b:Nat) (hb:F b):w'.heap[b]?=w.heap[b]?:=
 h.same b (hr.wf b hb) fun ho=>hr.nof b ho hb
theorem VR.step {a:AV} {v:Value} (hv:VR w F μ K a v) (hr:HR w F O μ K H ft) (h:Fr w F O μ K w' F' O' μ') (hK:∀ id,K id→K' id):VR w' F' μ' K' a v:=
 hv.mono (h.frozen hr) h.froz h.mu hK fun id hid=>h.shape _ (hr.lt id hid)
def isMark (b:Nat):Deferred:={ target:=.collected b,args:=#[] }
structure DfOk (w:World) (F O:Nat→Prop) (ds:List Deferred):Prop where
 nd:ds.Nodup
 all:∀ d,d∈ds→∃ b,d=isMark b∧¬ O b∧¬ F b∧w.heap[b]?=some (Obj.deferred (some []))
theorem DfOk.nil:DfOk w F O []:=⟨List.nodup_nil,fun _ h=>by cases h⟩
theorem DfOk.step {ds:List Deferred} (h:DfOk w F O ds) (hf:Fr w F O μ K w' F' O' μ'):DfOk w' F' O' ds where
 nd:=h.nd
 all:=fun d hd=>by
  obtain ⟨b,h1,h2,h3,h4⟩:=h.all d hd
  have hb:b < w.heap.size:=(Array.getElem?_eq_some_iff.1 h4).1
  refine ⟨b,h1,fun ho=>?_,fun hF=>?_,by rw [hf.same b hb h2];exact h4⟩
  ·rcases hf.onew b ho with h5 | h5
   ·exact h2 h5
   ·omega
  ·rcases hf.fnew b hF with h5 | h5 | h5
   ·exact h3 h5
   ·omega
   ·exact h2 h5
theorem DfOk.sub {ds:List Deferred} (h:DfOk w F O ds) (hO:∀ b,O' b→O b) (hF:∀ b,F' b→F b∨O b):DfOk w F' O' ds where
 nd:=h.nd
 all:=fun d hd=>by
  obtain ⟨b,h1,h2,h3,h4⟩:=h.all d hd
  exact ⟨b,h1,fun ho=>h2 (hO b ho),fun hf=>(hF b hf).elim h3 h2,h4⟩
theorem DfOk.same {ds:List Deferred} (h:DfOk w F O ds) (hh:∀ b:Nat,w.heap[b]?=some (Obj.deferred (some []))→w'.heap[b]?=w.heap[b]?):DfOk w' F O ds where
 nd:=h.nd
 all:=fun d hd=>by
  obtain ⟨b,h1,h2,h3,h4⟩:=h.all d hd
  exact ⟨b,h1,h2,h3,by rw [hh b h4];exact h4⟩
structure SSt where
 nt:Nat
 N:Nat
 tm:Nat→AV
 H:Hp
structure SR (w:World) (F O:Nat→Prop) (μ:Nat→Nat) (K:Nat→Prop) (s:SSt) (ft:Nat→Nat→Prop) (a:Act):Prop where
 hr:HR w F O μ K s.H ft
 nt:a.tmps.size=s.nt
 tm:∀ t,VR w F μ K (s.tm t) (a.tmps.getD t undef)
 df:DfOk w F O a.defers
def Part (H0 H:Hp):Prop:=∀ id,H0 id=none∨H0 id=H id
theorem Part.live {H0 H:Hp} (h:Part H0 H) {id:Nat} (hl:H0.live id):H.live id:=by
 obtain ⟨b,hb,hl⟩:=hl
 rcases h id with e | e
 ·rw [e] at hb;cases hb
 ·exact ⟨b,e▸hb,hl⟩
def Hp.upd (H:Hp):List (Nat×Option Blk)→Hp
 | []=>H
 | (i,b)::r=>fun id=>if id=i then b else Hp.upd H r id
def Hp.none':Hp:=fun _=>none
def plus (K:Nat→Prop) (l:List Nat):Nat→Prop:=fun id=>K id∨id∈l
theorem plus_nil (K:Nat→Prop):plus K []=K:=by
 funext id;simp [plus]
theorem Hp.upd_nil (H:Hp):H.upd []=H:=rfl
theorem Hp.upd_one (H:Hp) (i:Nat) (b:Option Blk) (id:Nat):H.upd [(i,b)] id=if id=i then b else H id:=rfl
theorem Hp.upd_mem (H:Hp) (id:Nat):∀ up:List (Nat×Option Blk),(id∈up.map (·.1)∧∀ H':Hp,H'.upd up id=H.upd up id)∨(id ∉ up.map (·.1)∧∀ H':Hp,H'.upd up id=H' id)
 | []=>.inr ⟨by simp,fun _=>rfl⟩
 | (i,b)::r=>by
  by_cases e:id=i
  ·exact .inl ⟨by simp [e],fun H'=>by simp [Hp.upd,e]⟩
  ·rcases Hp.upd_mem H id r with ⟨h,h'⟩ | ⟨h,h'⟩
   ·exact .inl ⟨by simp [h],fun H'=>by simp [Hp.upd,e,h']⟩
   ·refine .inr ⟨?_,fun H'=>by simp [Hp.upd,e,h']⟩
    intro hm
    simp only [List.map_cons,List.mem_cons] at hm
    rcases hm with hm | hm
    ·exact e hm
    ·exact h hm
def foot (H:Hp) (ft:Nat→Nat→Prop):Nat→Prop:=fun x=>∃ id,H.live id∧ft id x
theorem HR.part {H0:Hp} (h:HR w F O μ K H ft) (l:Part H0 H):HR w F (foot H0 ft) μ K H0 ft where
 lt:=h.lt
 known:=fun id b hb=>h.known id b (by
  rcases l id with e | e
  ·rw [e] at hb;cases hb
  ·rw [← e];exact hb)
 blk:=fun id b hb=>h.blk id b (by
  rcases l id with e | e
  ·rw [e] at hb;cases hb
  ·rw [← e];exact hb)
 self:=fun id hl=>h.self id (l.live hl)
 own:=fun id hl x hx=>⟨id,hl,hx⟩
 dj:=fun id id' hl hl'=>h.dj id id' (l.live hl) (l.live hl')
 nof:=fun b ⟨id,hl,hx⟩=>h.nof b (h.own id (l.live hl) b hx)
 wf:=h.wf
 owf:=fun b ⟨id,hl,hx⟩=>h.owf b (h.own id (l.live hl) b hx)
 pos:=h.pos
theorem HR.part' {H0:Hp} (h:HR w F O μ K H ft) (l:Part H0 H):HR w F O μ K H0 ft:=
 { h.part l with own:=fun id hl x hx=>h.own id (l.live hl) x hx,nof:=h.nof,owf:=h.owf }
open Classical in
theorem frame2 {H0:Hp} {up:List (Nat×Option Blk)} {F1 F1' F2:Nat→Prop} (hr:HR w F O μ K H ft) (l:Part H0 H) (hKK:∀ id,K id→K' id)
  (hr':HR w' F1' O' μ' K' (H0.upd up) ft') (hf:Fr w F1 (foot H0 ft) μ K w' F1' O' μ')
  (h01:∀ b,F b→F1 b) (h02:∀ b,F b→F2 b) (h21:∀ b,F2 b→F1' b) (h2:∀ b,F2 b→F b∨w.heap.size≤b∨foot H0 ft b)
  (hblk:∀ id b,(H0.upd up) id=some b→b.lies=true→∃ o,w'.heap[μ' id]?=some o∧BlkR w' F2 μ' K' (ft' id) (μ' id) o b):
  ∃ O'' ft'',HR w' F2 O'' μ' K' (H.upd up) ft''∧Fr w F O μ K w' F2 O'' μ':=by
 have kn:∀ {id},H.live id→K id:=fun ⟨b,hb,_⟩=>hr.known _ b hb
 have sub:∀ x,foot H0 ft x→O x:=fun x ⟨id,hl,hx⟩=>hr.own id (l.live hl) x hx
 have frz:∀ b,F b→w'.heap[b]?=w.heap[b]?:=fun b hb=>hf.same b (hr.wf b hb) fun h=>hr.nof b (sub b h) hb
 have cases':∀ id b,(H.upd up) id=some b→(H0.upd up) id=some b∨(H id=some b∧H0 id=none∧(H0.upd up) id=none):=by
  intro id b hb
  rcases Hp.upd_mem H id up with ⟨hm,he⟩ | ⟨hm,he⟩
  ·exact .inl (by rw [he H0];exact hb)
  ·have h1:=he H
   have h2:=he H0
   rw [h1] at hb
   rcases l id with e | e
   ·exact .inr ⟨hb,e,h2.trans e⟩
   ·exact .inl (by rw [h2,e];exact hb)
 let touched:Nat→Prop:=fun id=>(H0.upd up) id≠none
 let ft'':Nat→Nat→Prop:=fun id=>if touched id then ft' id else ft id
 let O'':Nat→Prop:=fun x=>O' x∨(O x∧¬ foot H0 ft x)
 have casesL:∀ id,(H.upd up).live id→((H0.upd up).live id∧ft'' id=ft' id)∨((H.live id∧H0 id=none)∧ft'' id=ft id):=by
  rintro id ⟨b,hb,hl⟩
  rcases cases' id b hb with h1 | ⟨h1,h2,h3⟩
  ·exact .inl ⟨⟨b,h1,hl⟩,if_pos (by simp only [touched,h1];simp)⟩
  ·exact .inr ⟨⟨⟨b,h1,hl⟩,h2⟩,if_neg (by simp only [touched,h3];simp)⟩
 have out:∀ id,H.live id→H0 id=none→∀ x,ft id x→¬ foot H0 ft x:=fun id h1 h2 x hx ⟨id0,h0,hx0⟩=>by
  have:=hr.dj id0 id (l.live h0) h1 x hx0 hx
  subst this
  obtain ⟨b,hb,_⟩:=h0
  rw [h2] at hb;cases hb
 have same:∀ id,H.live id→H0 id=none→∀ x,ft id x→w'.heap[x]?=w.heap[x]?:=fun id h1 h2 x hx=>
  hf.same _ (hr.owf x (hr.own id h1 x hx)) (out id h1 h2 x hx)
 have cross:∀ id id',(H0.upd up).live id→H.live id'→H0 id'=none→∀ x,ft' id x→ft id' x→False:=by
  intro id id' h1 h2 h3 x hx hx'
  rcases hf.onew x (hr'.own id h1 x hx) with h4 | h4
  ·exact out id' h2 h3 x hx' h4
  ·have:=hr.owf x (hr.own id' h2 x hx');omega
 refine ⟨O'',ft'',{ lt:=hr'.lt,known:=?_,blk:=?_,self:=?_,own:=?_,dj:=?_,nof:=?_,wf:=fun b hb=>hr'.wf b (h21 b hb),owf:=?_,pos:=hr.pos.mono hf.size h02 frz },
  { os:=hf.os,tape:=hf.tape,output:=hf.output,size:=hf.size,mu:=hf.mu,froz:=h02,shape:=hf.shape,same:=?_,onew:=?_,fnew:=?_ }⟩
 ·intro id b hb
  rcases cases' id b hb with h1 | ⟨h1,_⟩
  ·exact hr'.known id b h1
  ·exact hKK id (hr.known id b h1)
 ·intro id b hb hl
  rcases cases' id b hb with h1 | ⟨h1,h2,h3⟩
  ·have e:ft'' id=ft' id:=if_pos (by simp only [touched,h1];simp)
   rw [e]
   exact hblk id b h1 hl
  ·have e:ft'' id=ft id:=if_neg (by simp only [touched,h3];simp)
   rw [e]
   obtain ⟨o,ho,hB⟩:=hr.blk id b h1 hl
   have hlv:H.live id:=⟨b,h1,hl⟩
   rw [hf.mu id (kn hlv)]
   refine ⟨o,by rw [same id hlv h2 _ (hr.self id hlv)];exact ho,hB.mono frz h02 hf.mu hKK (fun id hid=>hf.shape _ (hr.lt id hid)) fun x hx _=>same id hlv h2 x hx⟩
 ·intro id hl
  rcases casesL id hl with ⟨h1,e⟩ | ⟨⟨h1,h2⟩,e⟩<;>rw [e]
  ·exact hr'.self id h1
  ·rw [hf.mu id (kn h1)];exact hr.self id h1
 ·intro id hl x hx
  rcases casesL id hl with ⟨h1,e⟩ | ⟨⟨h1,h2⟩,e⟩<;>rw [e] at hx
  ·exact .inl (hr'.own id h1 x hx)
  ·exact .inr ⟨hr.own id h1 x hx,out id h1 h2 x hx⟩
 ·intro id id' hl hl' x hx hx'
  rcases casesL id hl with ⟨h1,e⟩ | ⟨⟨h1,h2⟩,e⟩<;>rcases casesL id' hl' with ⟨k1,e'⟩ | ⟨⟨k1,k2⟩,e'⟩<;>rw [e] at hx<;>rw [e'] at hx'
  ·exact hr'.dj id id' h1 k1 x hx hx'
  ·exact (cross id id' h1 k1 k2 x hx hx').elim
  ·exact (cross id' id k1 h1 h2 x hx' hx).elim
  ·exact hr.dj id id' h1 k1 x hx hx'
 ·rintro b (h1 | ⟨h1,h3⟩) hF
  ·exact hr'.nof b h1 (h21 b hF)
  ·rcases h2 b hF with h4 | h4 | h4
   ·exact hr.nof b h1 h4
   ·have:=hr.owf b h1;omega
   ·exact h3 h4
 ·rintro b (h1 | ⟨h1,_⟩)
  ·exact hr'.owf b h1
  ·exact Nat.lt_of_lt_of_le (hr.owf b h1) hf.size
 ·exact fun b hb hn=>hf.same b hb fun h=>hn (sub b h)
 ·rintro b (h1 | ⟨h1,_⟩)
  ·rcases hf.onew b h1 with h2 | h2
   ·exact .inl (sub b h2)
   ·exact .inr h2
  ·exact .inl h1
 ·intro b hb
  rcases h2 b hb with h1 | h1 | h1
  ·exact .inl h1
  ·exact .inr (.inl h1)
  ·exact .inr (.inr (sub b h1))
theorem frame {H0:Hp} {up:List (Nat×Option Blk)} (hr:HR w F O μ K H ft) (l:Part H0 H) (hKK:∀ id,K id→K' id)
  (hr':HR w' F' O' μ' K' (H0.upd up) ft') (hf:Fr w F (foot H0 ft) μ K w' F' O' μ'):
  ∃ O'' ft'',HR w' F' O'' μ' K' (H.upd up) ft''∧Fr w F O μ K w' F' O'' μ':=
 frame2 hr l hKK hr' hf (fun _ h=>h) hf.froz (fun _ h=>h) (fun b hb=>hf.fnew b hb) hr'.blk
end Go.Proofs.Ytljfmaaadnoggaa.Abs
