/- My abstract values over the model's memory: what a value stands for, frozen memory, memory of the call's own; what a step may turn. No condition. -/
import Derived.Below
import Derived.Tactics
import Derived.Laws.World
import Derived.Laws.Entries
import Derived.Orders
set_option linter.unusedSimpArgs false
set_option linter.unusedVariables false
namespace Go.Proofs.YtljfmaaadnoggaaGreatDoor.cU
open Go Go.RowKit
inductive AV where
 | top
 | lit (v:Value)
 | int (k:IntKind) (n:Int)
 | bool (b:Bool)
 | str (s:List UInt8)
 | eQ
 | agg (cs:List AV)
 | n9 (vs:List AV)
 | fs (aZ n:Nat) (e:Nat→Nat→AV)
 | fp (aZ:Nat) (e:Nat→AV) (off:Nat)
 | os (aZ n:Nat) (e:Nat→Nat→AV)
 | ms (id i n aZ:Nat)
 | vs (id n aZ:Nat)
 | bp (id off:Nat)
 | rp (id aZ i j:Nat)
 | mp (id:Nat)
 | nX (t:TypeId) (v:AV)
 | fn (f:Fn) (first cap:List AV)
 | wh (c:Bool) (a:AV)
instance:Inhabited AV:=⟨.top⟩
def AV.UA:AV→Prop
 | .top=>True
 | .int _ _=>True
 | .bool _=>True
 | .str _=>True
 | .fs _ _ e=>∀ i j,(e i j).UA
 | _=>False
def AV.deep:AV→AV
 | .fs aZ n e=>.os aZ n fun i j=>(e i j).deep
 | a=>a
def B_:Nat→Prop:=fun _=>False
inductive VR (w:World) (F:Nat→Prop) (μ:Nat→Nat):(Nat→Prop)→AV→Value→Prop
 | top {K:Nat→Prop} (v:Value):VR w F μ K .top v
 | lit {K:Nat→Prop} (v:Value):VR w F μ K (.lit v) v
 | int {K:Nat→Prop} (k:IntKind) (n:Int):VR w F μ K (.int k n) (.int k n)
 | bool {K:Nat→Prop} (b:Bool):VR w F μ K (.bool b) (.bool b)
 | str {K:Nat→Prop} (s:List UInt8):VR w F μ K (.str s) (.string ⟨⟨s⟩⟩)
 | eQ {K:Nat→Prop}:VR w F μ K .eQ (.slice none 0 0)
 | agg {K:Nat→Prop} (cs:List AV) (vs:List Value) (h:cs.length=vs.length) (hv:∀ i,i < cs.length→VR w F μ K (cs.getD i .top) (vs.getD i undef)):VR w F μ K (.agg cs) (.agg ⟨vs⟩)
 | n9 {K:Nat→Prop} (cs:List AV) (vs:List Value) (h:cs.length=vs.length) (hv:∀ i,i < cs.length→VR w F μ K (cs.getD i .top) (vs.getD i undef)):VR w F μ K (.n9 cs) (.tuple ⟨vs⟩)
 | fs {K:Nat→Prop} (aZ n:Nat) (e:Nat→Nat→AV) (b o cap:Nat) (u:Nat→Nat→Value) (hF:F b) (hc:n≤cap)
   (hu:∀ i j,i < n→j < aZ→w.cell? ⟨b,o+i*aZ+j,none⟩=some (u i j)∧(u i j).oneCell'=true) (hv:∀ i j,i < n→j < aZ→VR w F μ B_ (e i j) (u i j)):
   VR w F μ K (.fs aZ n e) (.slice (some ⟨b,o,none⟩) n cap)
 | uw {K:Nat→Prop} (aZ:Nat) (e:Nat→Nat→AV) (a:Option Addr) (cap:Nat):VR w F μ K (.fs aZ 0 e) (.slice a 0 cap)
 | fp {K:Nat→Prop} (aZ:Nat) (e:Nat→AV) (off b o:Nat) (u:Nat→Value) (hF:F b) (hu:∀ j,off+j < aZ→w.cell? ⟨b,o+j,none⟩=some (u j))
   (hv:∀ j,off+j < aZ→VR w F μ B_ (e (off+j)) (u j)):VR w F μ K (.fp aZ e off) (.pointer (some ⟨b,o,none⟩))
 | ms {K:Nat→Prop} (id i n aZ cap sz:Nat) (t:TypeId) (bY:K id) (hc:n≤cap) (hs:w.shape? (μ id)=some (t,sz)) (fw:(i+cap)*aZ≤sz):
   VR w F μ K (.ms id i n aZ) (.slice (some ⟨μ id,i*aZ,none⟩) n cap)
 | vs {K:Nat→Prop} (id n aZ cap sz:Nat) (t:TypeId) (hn:n≠0) (bY:K id) (hc:n≤cap) (hs:w.shape? (μ id)=some (t,sz)) (fw:cap*aZ≤sz):
   VR w F μ K (.vs id n aZ) (.slice (some ⟨μ id,0,none⟩) n cap)
 | vO {K:Nat→Prop} (id aZ:Nat) (a:Option Addr):VR w F μ K (.vs id 0 aZ) (.slice a 0 0)
 | bp {K:Nat→Prop} (id off:Nat) (bY:K id):VR w F μ K (.bp id off) (.pointer (some ⟨μ id,off,none⟩))
 | rp {K:Nat→Prop} (id aZ i j:Nat) (bY:K id):VR w F μ K (.rp id aZ i j) (.pointer (some ⟨μ id,i*aZ+j,none⟩))
 | mp {K:Nat→Prop} (id:Nat) (bY:K id):VR w F μ K (.mp id) (.map (some (μ id)))
 | nX {K:Nat→Prop} (t:TypeId) (a:AV) (v:Value) (h:VR w F μ K a v):VR w F μ K (.nX t a) (.iface t v)
 | fn {K:Nat→Prop} (f:Fn) (xs ys:List AV) (vs us:List Value) (h:xs.length=vs.length) (h':ys.length=us.length)
   (hv:∀ i,i < xs.length→VR w F μ K (xs.getD i .top) (vs.getD i undef)) (hu:∀ i,i < ys.length→VR w F μ K (ys.getD i .top) (us.getD i undef)):
   VR w F μ K (.fn f xs ys) (.func f ⟨vs⟩ ⟨us⟩)
 | wh {K:Nat→Prop} (c:Bool) (a:AV) (v:Value) (h:c=true→VR w F μ K a v):VR w F μ K (.wh c a) v
theorem VR.mono {w w':World} {F F':Nat→Prop} {μ bB:Nat→Nat} {K K':Nat→Prop} {a:AV} {v:Value} (h:VR w F μ K a v)
  (hw:∀ b,F b→w'.heap[b]?=w.heap[b]?) (hF:∀ b,F b→F' b) (QS:∀ id,K id→bB id=μ id) (hK:∀ id,K id→K' id)
  (hs:∀ id,K id→w'.shape? (μ id)=w.shape? (μ id)):VR w' F' bB K' a v:=by
 induction h generalizing K' with
 | top v=>exact .top v
 | lit v=>exact .lit v
 | int k n=>exact .int k n
 | bool b=>exact .bool b
 | str s=>exact .str s
 | eQ=>exact .eQ
 | agg cs vs h _ ih=>exact .agg cs vs h fun i hi=>ih i hi QS hK hs
 | n9 cs vs h _ ih=>exact .n9 cs vs h fun i hi=>ih i hi QS hK hs
 | fs aZ n e b o cap u hb hc hu _ ih=>
  exact .fs aZ n e b o cap u (hF b hb) hc (fun i j hi hj=>by rw [World.cell?_of_block (hw b hb)];exact hu i j hi hj) fun i j hi hj=>ih i j hi hj (fun _ h=>h.elim) (fun _ h=>h) (fun _ h=>h.elim)
 | uw aZ e a cap=>exact .uw aZ e a cap
 | fp aZ e off b o u hb hu _ ih=>
  exact .fp aZ e off b o u (hF b hb) (fun j hj=>by rw [World.cell?_of_block (hw b hb)];exact hu j hj) fun j hj=>ih j hj (fun _ h=>h.elim) (fun _ h=>h) (fun _ h=>h.elim)
 | ms id i n aZ cap sz t bY hc rO fw=>
  rw [← QS id bY]
  exact .ms id i n aZ cap sz t (hK id bY) hc (by rw [QS id bY,hs id bY];exact rO) fw
 | vs id n aZ cap sz t hn bY hc rO fw=>
  rw [← QS id bY]
  exact .vs id n aZ cap sz t hn (hK id bY) hc (by rw [QS id bY,hs id bY];exact rO) fw
 | vO id aZ a=>exact .vO id aZ a
 | bp id off bY=>rw [← QS id bY];exact .bp id off (hK id bY)
 | rp id aZ i j bY=>rw [← QS id bY];exact .rp id aZ i j (hK id bY)
 | mp id bY=>rw [← QS id bY];exact .mp id (hK id bY)
 | nX t a v _ ih=>exact .nX t a v (ih QS hK hs)
 | fn f xs ys vs us h h' _ _ ih ih'=>exact .fn f xs ys vs us h h' (fun i hi=>ih i hi QS hK hs) (fun i hi=>ih' i hi QS hK hs)
 | wh c a v _ ih=>exact .wh c a v fun hc=>ih hc QS hK hs
theorem VR.up {w:World} {F:Nat→Prop} {μ bB:Nat→Nat} {K:Nat→Prop} {a:AV} {v:Value} (h:VR w F μ B_ a v):VR w F bB K a v:=
 h.mono (fun _ _=>rfl) (fun _ h=>h) (fun _ h=>h.elim) (fun _ h=>h.elim) (fun _ h=>h.elim)
structure M1 (b:Nat) (cs:Array Value) (aZ n:Nat) (S:Nat→Nat→Nat→Prop) (T:Nat→Prop) (R:(Nat→Prop)→Nat→Nat→Value→Prop):Prop where
 size:n*aZ≤cs.size
 cell:∀ i j,i < n→j < aZ→R (S i j) i j (cs.getD (i*aZ+j) undef)∧(cs.getD (i*aZ+j) undef).oneCell'=true
 dj:∀ i j i' j',i < n→j < aZ→i' < n→j' < aZ→∀ x,S i j x→S i' j' x→i=i'∧j=j'
 nb:∀ i j,i < n→j < aZ→¬ S i j b
 all:∀ x,T x↔x=b∨∃ i j,i < n∧j < aZ∧S i j x
inductive iW (w:World) (F:Nat→Prop) (μ:Nat→Nat):(Nat→Prop)→AV→Value→Prop
 | Iy (S:Nat→Prop) (a:AV) (v:Value) (h:VR w F μ B_ a v) (hS:∀ x,¬ S x):iW w F μ S a v
 | Al (S:Nat→Prop) (aZ:Nat) (e:Nat→Nat→AV) (a:Option Addr) (hS:∀ x,¬ S x):iW w F μ S (.os aZ 0 e) (.slice a 0 0)
 | os (T:Nat→Prop) (aZ n:Nat) (e:Nat→Nat→AV) (b cap:Nat) (cs:Array Value) (t:TypeId) (S:Nat→Nat→Nat→Prop) (Lc:n≠0) (hb:w.heap[b]?=some (.cells cs t (0,0))) (hc:n≤cap) (CF:cap*aZ≤cs.size)
   (h1:∀ i j,i < n→j < aZ→(cs.getD (i*aZ+j) undef).oneCell'=true)
   (h2:∀ i j,i < n→j < aZ→iW w F μ (S i j) (e i j) (cs.getD (i*aZ+j) undef))
   (hd:∀ i j i' j',i < n→j < aZ→i' < n→j' < aZ→∀ x,S i j x→S i' j' x→i=i'∧j=j')
   (hn:∀ i j,i < n→j < aZ→¬ S i j b) (hT:∀ x,T x↔x=b∨∃ i j,i < n∧j < aZ∧S i j x):
   iW w F μ T (.os aZ n e) (.slice (some ⟨b,0,none⟩) n cap)
theorem iW.mono {w w':World} {F F':Nat→Prop} {μ bB:Nat→Nat} {S:Nat→Prop} {a:AV} {v:Value} (h:iW w F μ S a v)
  (hw:∀ b,F b→w'.heap[b]?=w.heap[b]?) (hF:∀ b,F b→F' b) (hS:∀ b,S b→w'.heap[b]?=w.heap[b]?):iW w' F' bB S a v:=by
 induction h with
 | Iy S a v h hn=>exact .Iy S a v ((h.up (bB:=bB)).mono hw hF (fun _ h=>h.elim) (fun _ h=>h) (fun _ h=>h.elim)) hn
 | Al S aZ e a hn=>exact .Al S aZ e a hn
 | os T aZ n e b cap cs t S Lc hb hc CF h1 _ hd hn hT ih=>
  exact .os T aZ n e b cap cs t S Lc (by rw [hS b ((hT b).2 (.inl rfl))];exact hb) hc CF h1 (fun i j hi hj=>ih i j hi hj fun x hx=>hS x ((hT x).2 (.inr ⟨i,j,hi,hj,hx⟩))) hd hn hT
inductive ju where
 | box (l:List AV)
 | row (v:Bool) (aZ n:Nat) (e:Nat→Nat→AV)
 | c5 (v:Bool) (aZ n:Nat) (e:Nat→Nat→AV)
 | map (l:List (AV×AV))
 | G_ (l:List (AV×AV)) (j st:Nat)
def gO (w:World) (F:Nat→Prop) (μ:Nat→Nat) (K:Nat→Prop) (S:Nat→Prop) (b:Nat) (o:Obj):ju→Prop
 | .box l=>∃ cs t,o=.cells cs t (0,0)∧(∀ x,S x↔x=b)∧l.length≤cs.size∧∀ j,j < l.length→VR w F μ K (l.getD j .top) (cs.getD j undef)
 | .row _ aZ n e=>∃ cs t S',o=.cells cs t (0,0)∧M1 b cs aZ n S' S fun T i j v=>iW w F μ T (e i j) v
 | .c5 _ aZ n e=>∃ cs t S',o=.cells cs t (0,0)∧M1 b cs aZ n S' S fun T i j v=>iW w F μ T (e i j) v∨(VR w F μ K (e i j) v∧∀ x,¬ T x)
 | .map l=>∃ es clock,o=.map es clock∧(∀ x,S x↔x=b)∧es.size=l.length∧(∀ i,i < l.length→(es.getD i default).born < clock∧VR w F μ B_ (l.getD i (.top,.top)).1 (es.getD i default).key∧VR w F μ B_ (l.getD i (.top,.top)).2 (es.getD i default).val)∧
   ∀ i j,i < j→j < es.size→(es.getD i default).born < (es.getD j default).born
 | .G_ l j0 st=>∃ es clock,o=.map es clock∧(∀ x,S x↔x=b)∧es.size=l.length∧(∀ i,i < l.length→(es.getD i default).born < clock∧VR w F μ B_ (l.getD i (.top,.top)).1 (es.getD i default).key∧VR w F μ B_ (l.getD i (.top,.top)).2 (es.getD i default).val)∧
   (∀ i j,i < j→j < es.size→(es.getD i default).born < (es.getD j default).born)∧j0 < es.size∧(es.getD j0 default).born=st
theorem gO.mono {w w':World} {F F':Nat→Prop} {μ bB:Nat→Nat} {K K':Nat→Prop} {S:Nat→Prop} {b:Nat} {o:Obj} {B:ju} (h:gO w F μ K S b o B)
  (hw:∀ b,F b→w'.heap[b]?=w.heap[b]?) (hF:∀ b,F b→F' b) (QS:∀ id,K id→bB id=μ id) (hK:∀ id,K id→K' id)
  (hs:∀ id,K id→w'.shape? (μ id)=w.shape? (μ id)) (hS:∀ x,S x→x≠b→w'.heap[x]?=w.heap[x]?):gO w' F' bB K' S b o B:=by
 cases B with
 | box l=>
  obtain ⟨cs,t,h1,h2,h3,h4⟩:=h
  exact ⟨cs,t,h1,h2,h3,fun j hj=>(h4 j hj).mono hw hF QS hK hs⟩
 | row v aZ n e=>
  obtain ⟨cs,t,S',h1,h2⟩:=h
  exact ⟨cs,t,S',h1,{ h2 with cell:=fun i j hi hj=>⟨(h2.cell i j hi hj).1.mono hw hF fun x hx=>hS x ((h2.all x).2 (.inr ⟨i,j,hi,hj,hx⟩)) fun e=>h2.nb i j hi hj (e▸hx),(h2.cell i j hi hj).2⟩ }⟩
 | c5 v aZ n e=>
  obtain ⟨cs,t,S',h1,h2⟩:=h
  exact ⟨cs,t,S',h1,{ h2 with cell:=fun i j hi hj=>⟨(h2.cell i j hi hj).1.imp (fun k=>k.mono hw hF fun x hx=>hS x ((h2.all x).2 (.inr ⟨i,j,hi,hj,hx⟩)) fun e=>h2.nb i j hi hj (e▸hx)) fun k=>⟨k.1.mono hw hF QS hK hs,k.2⟩,(h2.cell i j hi hj).2⟩ }⟩
 | map l=>
  obtain ⟨es,clock,h1,h2,h3,h4,h5⟩:=h
  exact ⟨es,clock,h1,h2,h3,fun i hi=>⟨(h4 i hi).1,((h4 i hi).2.1.up (bB:=bB)).mono hw hF (fun _ h=>h.elim) (fun _ h=>h) (fun _ h=>h.elim),
   ((h4 i hi).2.2.up (bB:=bB)).mono hw hF (fun _ h=>h.elim) (fun _ h=>h) (fun _ h=>h.elim)⟩,h5⟩
 | G_ l j0 st=>
  obtain ⟨es,clock,h1,h2,h3,h4,h5,h6⟩:=h
  exact ⟨es,clock,h1,h2,h3,fun i hi=>⟨(h4 i hi).1,((h4 i hi).2.1.up (bB:=bB)).mono hw hF (fun _ h=>h.elim) (fun _ h=>h) (fun _ h=>h.elim),
   ((h4 i hi).2.2.up (bB:=bB)).mono hw hF (fun _ h=>h.elim) (fun _ h=>h) (fun _ h=>h.elim)⟩,h5,h6⟩
abbrev Hp:=Nat→Option ju
def ju.eI:ju→Bool
 | .row true _ n _=>n != 0
 | .c5 true _ n _=>n != 0
 | _=>true
def Hp.live (H:Hp) (id:Nat):Prop:=∃ b,H id=some b∧b.eI=true
def SA:List (Nat×List Value):=[(0,[.iface 259 (.agg #[.pointer (some ⟨1,209,none⟩)])])]
structure Pos (w:World) (F:Nat→Prop):Prop where
 lt:0 < w.heap.size
 laid:∀ p,p∈SA→F p.1∧∃ t z,w.heap[p.1]?=some (.cells ⟨p.2⟩ t z)
theorem Pos.mono {w w':World} {F F':Nat→Prop} (h:Pos w F) (hs:w.heap.size≤w'.heap.size) (hF:∀ b,F b→F' b) (hw:∀ b,F b→w'.heap[b]?=w.heap[b]?):Pos w' F':=
 ⟨Nat.lt_of_lt_of_le h.lt hs,fun p hp=>⟨hF _ (h.laid p hp).1,by rw [hw _ (h.laid p hp).1];exact (h.laid p hp).2⟩⟩
theorem Pos.var {P:Program} {w:World} {F:Nat→Prop} {name:String} {g:Nat} {cs:List Value} (h:Pos w F) (hm:(g,cs)∈SA) (hg:P.globalNamed name=some g):w.var? P name=some ⟨cs⟩:=by
 obtain ⟨_,t,z,e⟩:=h.laid _ hm
 simp only at e
 simp [World.var?,hg,e]
theorem Pos.cell {w:World} {F:Nat→Prop} {g i:Nat} {cs:List Value} (h:Pos w F) (hm:(g,cs)∈SA):w.cell? ⟨g,i,none⟩=cs[i]?:=by
 obtain ⟨_,t,z,e⟩:=h.laid _ hm
 simp only at e
 simp [World.cell?,e]
structure HR (w:World) (F O:Nat→Prop) (μ:Nat→Nat) (K:Nat→Prop) (H:Hp) (ft:Nat→Nat→Prop):Prop where
 lt:∀ id,K id→μ id < w.heap.size
 known:∀ id b,H id=some b→K id
 di:∀ id b,H id=some b→b.eI=true→∃ o,w.heap[μ id]?=some o∧gO w F μ K (ft id) (μ id) o b
 self:∀ id,H.live id→ft id (μ id)
 own:∀ id,H.live id→∀ x,ft id x→O x
 dj:∀ id b9,H.live id→H.live b9→∀ x,ft id x→ft b9 x→id=b9
 xW:∀ b,O b→¬ F b
 wf:∀ b,F b→b < w.heap.size
 p0:∀ b,O b→b < w.heap.size
 pos:Pos w F
structure Fr (w:World) (F O:Nat→Prop) (μ:Nat→Nat) (K:Nat→Prop) (w':World) (F' O':Nat→Prop) (bB:Nat→Nat):Prop where
 os:w'.os=w.os
 tape:w'.tape=w.tape
 output:w'.output=w.output
 size:w.heap.size≤w'.heap.size
 mu:∀ id,K id→bB id=μ id
 zr:∀ b,F b→F' b
 shape:∀ b,b < w.heap.size→w'.shape? b=w.shape? b
 same:∀ b,b < w.heap.size→¬ O b→w'.heap[b]?=w.heap[b]?
 DP:∀ b,O' b→O b∨w.heap.size≤b
 Ha:∀ b,F' b→F b∨w.heap.size≤b∨O b
variable {w w' vP:World} {F F' Am O O' ux:Nat→Prop} {μ bB jV:Nat→Nat} {K K' DQ:Nat→Prop} {H H' H'':Hp} {ft b7:Nat→Nat→Prop}
theorem Fr.refl (w:World) (F O:Nat→Prop) (μ:Nat→Nat) (K:Nat→Prop):Fr w F O μ K w F O μ:=
 ⟨rfl,rfl,rfl,Nat.le_refl _,fun _ _=>rfl,fun _ h=>h,fun _ _=>rfl,fun _ _ _=>rfl,fun _ h=>.inl h,fun _ h=>.inl h⟩
theorem Fr.trans (h:Fr w F O μ K w' F' O' bB) (k:Fr w' F' O' bB K vP Am ux jV):Fr w F O μ K vP Am ux jV where
 os:=k.os.trans h.os
 tape:=k.tape.trans h.tape
 output:=k.output.trans h.output
 size:=Nat.le_trans h.size k.size
 mu:=fun id bY=>(k.mu id bY).trans (h.mu id bY)
 zr:=fun b hb=>k.zr b (h.zr b hb)
 shape:=fun b hb=>(k.shape b (Nat.lt_of_lt_of_le hb h.size)).trans (h.shape b hb)
 same:=fun b hb hn=>(k.same b (Nat.lt_of_lt_of_le hb h.size) fun ho=>by
   rcases h.DP b ho with h1 | h1
   ·exact hn h1
   ·omega).trans (h.same b hb hn)
 DP:=fun b hb=>by
  rcases k.DP b hb with h1 | h1
  ·exact h.DP b h1
  ·exact .inr (Nat.le_trans h.size h1)
 Ha:=fun b hb=>by
  rcases k.Ha b hb with h1 | h1 | h1
  ·exact h.Ha b h1
  ·exact .inr (.inl (Nat.le_trans h.size h1))
  ·rcases h.DP b h1 with h2 | h2
   ·exact .inr (.inr h2)
   ·exact .inr (.inl h2)
theorem Fr.Of (h:Fr w F O μ K w' F' O' bB) (hK:∀ id,K' id→K id):Fr w F O μ K' w' F' O' bB:=
 { h with mu:=fun id bY=>h.mu id (hK id bY) }
theorem HR.pw (h:HR w F O μ K H ft) {id:Nat} (hl:H.live id):K id:=by
 obtain ⟨b,hb,_⟩:=hl
 exact h.known id b hb
theorem Fr.frozen (h:Fr w F O μ K w' F' O' bB) (hr:HR w F O μ K' H ft) (b:Nat) (hb:F b):w'.heap[b]?=w.heap[b]?:=
 h.same b (hr.wf b hb) fun ho=>hr.xW b ho hb
theorem VR.step {a:AV} {v:Value} (hv:VR w F μ K a v) (hr:HR w F O μ K H ft) (h:Fr w F O μ K w' F' O' bB) (hK:∀ id,K id→K' id):VR w' F' bB K' a v:=
 hv.mono (h.frozen hr) h.zr h.mu hK fun id bY=>h.shape _ (hr.lt id bY)
def xK (b:Nat):Deferred:={ target:=.collected b,args:=#[] }
structure uO (w:World) (F O:Nat→Prop) (ds:List Deferred):Prop where
 nd:ds.Nodup
 all:∀ d,d∈ds→∃ b,d=xK b∧¬ O b∧¬ F b∧w.heap[b]?=some (Obj.deferred (some []))
theorem uO.nil:uO w F O []:=⟨List.nodup_nil,fun _ h=>by cases h⟩
theorem uO.step {ds:List Deferred} (h:uO w F O ds) (hf:Fr w F O μ K w' F' O' bB):uO w' F' O' ds where
 nd:=h.nd
 all:=fun d hd=>by
  obtain ⟨b,h1,h2,h3,h4⟩:=h.all d hd
  have hb:b < w.heap.size:=(Array.getElem?_eq_some_iff.1 h4).1
  refine ⟨b,h1,fun ho=>?_,fun hF=>?_,by rw [hf.same b hb h2];exact h4⟩
  ·rcases hf.DP b ho with h5 | h5
   ·exact h2 h5
   ·omega
  ·rcases hf.Ha b hF with h5 | h5 | h5
   ·exact h3 h5
   ·omega
   ·exact h2 h5
theorem uO.sub {ds:List Deferred} (h:uO w F O ds) (hO:∀ b,O' b→O b) (hF:∀ b,F' b→F b∨O b):uO w F' O' ds where
 nd:=h.nd
 all:=fun d hd=>by
  obtain ⟨b,h1,h2,h3,h4⟩:=h.all d hd
  exact ⟨b,h1,fun ho=>h2 (hO b ho),fun hf=>(hF b hf).elim h3 h2,h4⟩
theorem uO.same {ds:List Deferred} (h:uO w F O ds) (hh:∀ b:Nat,w.heap[b]?=some (Obj.deferred (some []))→w'.heap[b]?=w.heap[b]?):uO w' F O ds where
 nd:=h.nd
 all:=fun d hd=>by
  obtain ⟨b,h1,h2,h3,h4⟩:=h.all d hd
  exact ⟨b,h1,h2,h3,by rw [hh b h4];exact h4⟩
structure fy where
 nt:Nat
 N:Nat
 tm:Nat→AV
 H:Hp
structure SR (w:World) (F O:Nat→Prop) (μ:Nat→Nat) (K:Nat→Prop) (s:fy) (ft:Nat→Nat→Prop) (a:Act):Prop where
 hr:HR w F O μ K s.H ft
 nt:a.tmps.size=s.nt
 tm:∀ t,VR w F μ K (s.tm t) (a.tmps.getD t undef)
 df:uO w F O a.defers
def Part (H0 H:Hp):Prop:=∀ id,H0 id=none∨H0 id=H id
theorem Part.live {H0 H:Hp} (h:Part H0 H) {id:Nat} (hl:H0.live id):H.live id:=by
 obtain ⟨b,hb,hl⟩:=hl
 rcases h id with e | e
 ·rw [e] at hb;cases hb
 ·exact ⟨b,e▸hb,hl⟩
def Hp.c7 (H:Hp):List (Nat×Option ju)→Hp
 | []=>H
 | (i,b)::r=>fun id=>if id=i then b else Hp.c7 H r id
def Hp.agW:Hp:=fun _=>none
def plus (K:Nat→Prop) (l:List Nat):Nat→Prop:=fun id=>K id∨id∈l
theorem la (K:Nat→Prop):plus K []=K:=by
 funext id;simp [plus]
theorem Hp.QT (H:Hp):H.c7 []=H:=rfl
theorem Hp.Bj (H:Hp) (i:Nat) (b:Option ju) (id:Nat):H.c7 [(i,b)] id=if id=i then b else H id:=rfl
theorem Hp.QU (H:Hp) (id:Nat):∀ up:List (Nat×Option ju),(id∈up.map (·.1)∧∀ H':Hp,H'.c7 up id=H.c7 up id)∨(id ∉ up.map (·.1)∧∀ H':Hp,H'.c7 up id=H' id)
 | []=>.inr ⟨by simp,fun _=>rfl⟩
 | (i,b)::r=>by
  by_cases e:id=i
  ·exact .inl ⟨by simp [e],fun H'=>by simp [Hp.c7,e]⟩
  ·rcases Hp.QU H id r with ⟨h,h'⟩ | ⟨h,h'⟩
   ·exact .inl ⟨by simp [h],fun H'=>by simp [Hp.c7,e,h']⟩
   ·refine .inr ⟨?_,fun H'=>by simp [Hp.c7,e,h']⟩
    intro hm
    simp only [List.map_cons,List.mem_cons] at hm
    rcases hm with hm | hm
    ·exact e hm
    ·exact h hm
def LG (H:Hp) (ft:Nat→Nat→Prop):Nat→Prop:=fun x=>∃ id,H.live id∧ft id x
theorem HR.part {H0:Hp} (h:HR w F O μ K H ft) (l:Part H0 H):HR w F (LG H0 ft) μ K H0 ft where
 lt:=h.lt
 known:=fun id b hb=>h.known id b (by
  rcases l id with e | e
  ·rw [e] at hb;cases hb
  ·rw [← e];exact hb)
 di:=fun id b hb=>h.di id b (by
  rcases l id with e | e
  ·rw [e] at hb;cases hb
  ·rw [← e];exact hb)
 self:=fun id hl=>h.self id (l.live hl)
 own:=fun id hl x hx=>⟨id,hl,hx⟩
 dj:=fun id b9 hl Bk=>h.dj id b9 (l.live hl) (l.live Bk)
 xW:=fun b ⟨id,hl,hx⟩=>h.xW b (h.own id (l.live hl) b hx)
 wf:=h.wf
 p0:=fun b ⟨id,hl,hx⟩=>h.p0 b (h.own id (l.live hl) b hx)
 pos:=h.pos
theorem HR.aef {H0:Hp} (h:HR w F O μ K H ft) (l:Part H0 H):HR w F O μ K H0 ft:=
 { h.part l with own:=fun id hl x hx=>h.own id (l.live hl) x hx,xW:=h.xW,p0:=h.p0 }
open Classical in
theorem UB {H0:Hp} {up:List (Nat×Option ju)} {F1 Yi F2:Nat→Prop} (hr:HR w F O μ K H ft) (l:Part H0 H) (hKK:∀ id,K id→K' id)
  (CL:HR w' Yi O' bB K' (H0.c7 up) b7) (hf:Fr w F1 (LG H0 ft) μ K w' Yi O' bB)
  (h01:∀ b,F b→F1 b) (h02:∀ b,F b→F2 b) (h21:∀ b,F2 b→Yi b) (h2:∀ b,F2 b→F b∨w.heap.size≤b∨LG H0 ft b)
  (UC:∀ id b,(H0.c7 up) id=some b→b.eI=true→∃ o,w'.heap[bB id]?=some o∧gO w' F2 bB K' (b7 id) (bB id) o b):
  ∃ ux J6,HR w' F2 ux bB K' (H.c7 up) J6∧Fr w F O μ K w' F2 ux bB:=by
 have kn:∀ {id},H.live id→K id:=fun ⟨b,hb,_⟩=>hr.known _ b hb
 have sub:∀ x,LG H0 ft x→O x:=fun x ⟨id,hl,hx⟩=>hr.own id (l.live hl) x hx
 have pz:∀ b,F b→w'.heap[b]?=w.heap[b]?:=fun b hb=>hf.same b (hr.wf b hb) fun h=>hr.xW b (sub b h) hb
 have xL:∀ id b,(H.c7 up) id=some b→(H0.c7 up) id=some b∨(H id=some b∧H0 id=none∧(H0.c7 up) id=none):=by
  intro id b hb
  rcases Hp.QU H id up with ⟨hm,he⟩ | ⟨hm,he⟩
  ·exact .inl (by rw [he H0];exact hb)
  ·have h1:=he H
   have h2:=he H0
   rw [h1] at hb
   rcases l id with e | e
   ·exact .inr ⟨hb,e,h2.trans e⟩
   ·exact .inl (by rw [h2,e];exact hb)
 let Iz:Nat→Prop:=fun id=>(H0.c7 up) id≠none
 let J6:Nat→Nat→Prop:=fun id=>if Iz id then b7 id else ft id
 let ux:Nat→Prop:=fun x=>O' x∨(O x∧¬ LG H0 ft x)
 have fW:∀ id,(H.c7 up).live id→((H0.c7 up).live id∧J6 id=b7 id)∨((H.live id∧H0 id=none)∧J6 id=ft id):=by
  rintro id ⟨b,hb,hl⟩
  rcases xL id b hb with h1 | ⟨h1,h2,h3⟩
  ·exact .inl ⟨⟨b,h1,hl⟩,if_pos (by simp only [Iz,h1];simp)⟩
  ·exact .inr ⟨⟨⟨b,h1,hl⟩,h2⟩,if_neg (by simp only [Iz,h3];simp)⟩
 have out:∀ id,H.live id→H0 id=none→∀ x,ft id x→¬ LG H0 ft x:=fun id h1 h2 x hx ⟨p4,h0,hx0⟩=>by
  have:=hr.dj p4 id (l.live h0) h1 x hx0 hx
  subst this
  obtain ⟨b,hb,_⟩:=h0
  rw [h2] at hb;cases hb
 have same:∀ id,H.live id→H0 id=none→∀ x,ft id x→w'.heap[x]?=w.heap[x]?:=fun id h1 h2 x hx=>
  hf.same _ (hr.p0 x (hr.own id h1 x hx)) (out id h1 h2 x hx)
 have aca:∀ id b9,(H0.c7 up).live id→H.live b9→H0 b9=none→∀ x,b7 id x→ft b9 x→False:=by
  intro id b9 h1 h2 h3 x hx j7
  rcases hf.DP x (CL.own id h1 x hx) with h4 | h4
  ·exact out b9 h2 h3 x j7 h4
  ·have:=hr.p0 x (hr.own b9 h2 x j7);omega
 refine ⟨ux,J6,{ lt:=CL.lt,known:=?_,di:=?_,self:=?_,own:=?_,dj:=?_,xW:=?_,wf:=fun b hb=>CL.wf b (h21 b hb),p0:=?_,pos:=hr.pos.mono hf.size h02 pz },
  { os:=hf.os,tape:=hf.tape,output:=hf.output,size:=hf.size,mu:=hf.mu,zr:=h02,shape:=hf.shape,same:=?_,DP:=?_,Ha:=?_ }⟩
 ·intro id b hb
  rcases xL id b hb with h1 | ⟨h1,_⟩
  ·exact CL.known id b h1
  ·exact hKK id (hr.known id b h1)
 ·intro id b hb hl
  rcases xL id b hb with h1 | ⟨h1,h2,h3⟩
  ·have e:J6 id=b7 id:=if_pos (by simp only [Iz,h1];simp)
   rw [e]
   exact UC id b h1 hl
  ·have e:J6 id=ft id:=if_neg (by simp only [Iz,h3];simp)
   rw [e]
   obtain ⟨o,ho,hB⟩:=hr.di id b h1 hl
   have ic:H.live id:=⟨b,h1,hl⟩
   rw [hf.mu id (kn ic)]
   refine ⟨o,by rw [same id ic h2 _ (hr.self id ic)];exact ho,hB.mono pz h02 hf.mu hKK (fun id bY=>hf.shape _ (hr.lt id bY)) fun x hx _=>same id ic h2 x hx⟩
 ·intro id hl
  rcases fW id hl with ⟨h1,e⟩ | ⟨⟨h1,h2⟩,e⟩<;>rw [e]
  ·exact CL.self id h1
  ·rw [hf.mu id (kn h1)];exact hr.self id h1
 ·intro id hl x hx
  rcases fW id hl with ⟨h1,e⟩ | ⟨⟨h1,h2⟩,e⟩<;>rw [e] at hx
  ·exact .inl (CL.own id h1 x hx)
  ·exact .inr ⟨hr.own id h1 x hx,out id h1 h2 x hx⟩
 ·intro id b9 hl Bk x hx j7
  rcases fW id hl with ⟨h1,e⟩ | ⟨⟨h1,h2⟩,e⟩<;>rcases fW b9 Bk with ⟨k1,e'⟩ | ⟨⟨k1,k2⟩,e'⟩<;>rw [e] at hx<;>rw [e'] at j7
  ·exact CL.dj id b9 h1 k1 x hx j7
  ·exact (aca id b9 h1 k1 k2 x hx j7).elim
  ·exact (aca b9 id k1 h1 h2 x j7 hx).elim
  ·exact hr.dj id b9 h1 k1 x hx j7
 ·rintro b (h1 | ⟨h1,h3⟩) hF
  ·exact CL.xW b h1 (h21 b hF)
  ·rcases h2 b hF with h4 | h4 | h4
   ·exact hr.xW b h1 h4
   ·have:=hr.p0 b h1;omega
   ·exact h3 h4
 ·rintro b (h1 | ⟨h1,_⟩)
  ·exact CL.p0 b h1
  ·exact Nat.lt_of_lt_of_le (hr.p0 b h1) hf.size
 ·exact fun b hb hn=>hf.same b hb fun h=>hn (sub b h)
 ·rintro b (h1 | ⟨h1,_⟩)
  ·rcases hf.DP b h1 with h2 | h2
   ·exact .inl (sub b h2)
   ·exact .inr h2
  ·exact .inl h1
 ·intro b hb
  rcases h2 b hb with h1 | h1 | h1
  ·exact .inl h1
  ·exact .inr (.inl h1)
  ·exact .inr (.inr (sub b h1))
theorem frame {H0:Hp} {up:List (Nat×Option ju)} (hr:HR w F O μ K H ft) (l:Part H0 H) (hKK:∀ id,K id→K' id)
  (CL:HR w' F' O' bB K' (H0.c7 up) b7) (hf:Fr w F (LG H0 ft) μ K w' F' O' bB):
  ∃ ux J6,HR w' F' ux bB K' (H.c7 up) J6∧Fr w F O μ K w' F' ux bB:=
 UB hr l hKK CL hf (fun _ h=>h) hf.zr (fun _ h=>h) (fun b hb=>hf.Ha b hb) CL.di
end Go.Proofs.YtljfmaaadnoggaaGreatDoor.cU
