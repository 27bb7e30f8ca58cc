/- My abstract values over the model's memory: what a value stands for, frozen memory, memory of the call's own; what a step may turn. No condition. -/
import Derived.Below
import Derived.Tactics
import Derived.Laws.World
import Derived.Laws.Entries
import Derived.Orders
set_option linter.unusedSimpArgs false
set_option linter.unusedVariables false
namespace Go.Proofs.YtjkbbdldmdajkaaGreatDoor.c5
open Go Go.RowKit
inductive AV where
 | top
 | lit (v:Value)
 | int (k:IntKind) (n:Int)
 | bool (b:Bool)
 | str (s:List UInt8)
 | fb
 | agg (cs:List AV)
 | ov (vs:List AV)
 | fs (bB n:Nat) (e:Nat→Nat→AV)
 | fp (bB:Nat) (e:Nat→AV) (off:Nat)
 | rb (cs:List AV) (off:Nat)
 | os (bB n:Nat) (e:Nat→Nat→AV)
 | ms (id i n bB:Nat)
 | vs (id n bB:Nat)
 | bp (id off:Nat)
 | rp (id bB i j:Nat)
 | mp (id:Nat)
 | oR (t:TypeId) (v:AV)
 | fn (f:Fn) (first cap:List AV)
 | wh (c:Bool) (a:AV)
instance:Inhabited AV:=⟨.top⟩
def AV.UH:AV→Prop
 | .top=>True
 | .int _ _=>True
 | .bool _=>True
 | .str _=>True
 | .fs _ _ e=>∀ i j,(e i j).UH
 | _=>False
def AV.deep:AV→AV
 | .fs bB n e=>.os bB n fun i j=>(e i j).deep
 | a=>a
def Cv:Nat→Prop:=fun _=>False
inductive VR (w:World) (F:Nat→Prop) (μ:Nat→Nat):(Nat→Prop)→AV→Value→Prop
 | top {K:Nat→Prop} (v:Value):VR w F μ K .top v
 | lit {K:Nat→Prop} (v:Value):VR w F μ K (.lit v) v
 | int {K:Nat→Prop} (k:IntKind) (n:Int):VR w F μ K (.int k n) (.int k n)
 | bool {K:Nat→Prop} (b:Bool):VR w F μ K (.bool b) (.bool b)
 | str {K:Nat→Prop} (s:List UInt8):VR w F μ K (.str s) (.string ⟨⟨s⟩⟩)
 | fb {K:Nat→Prop}:VR w F μ K .fb (.slice none 0 0)
 | agg {K:Nat→Prop} (cs:List AV) (vs:List Value) (h:cs.length=vs.length) (hv:∀ i,i < cs.length→VR w F μ K (cs.getD i .top) (vs.getD i undef)):VR w F μ K (.agg cs) (.agg ⟨vs⟩)
 | ov {K:Nat→Prop} (cs:List AV) (vs:List Value) (h:cs.length=vs.length) (hv:∀ i,i < cs.length→VR w F μ K (cs.getD i .top) (vs.getD i undef)):VR w F μ K (.ov cs) (.tuple ⟨vs⟩)
 | fs {K:Nat→Prop} (bB n:Nat) (e:Nat→Nat→AV) (b o cap:Nat) (u:Nat→Nat→Value) (hF:F b) (hc:n≤cap)
   (hu:∀ i j,i < n→j < bB→w.cell? ⟨b,o+i*bB+j,none⟩=some (u i j)∧(u i j).oneCell'=true) (hv:∀ i j,i < n→j < bB→VR w F μ Cv (e i j) (u i j)):
   VR w F μ K (.fs bB n e) (.slice (some ⟨b,o,none⟩) n cap)
 | u_ {K:Nat→Prop} (bB:Nat) (e:Nat→Nat→AV) (a:Option Addr) (cap:Nat):VR w F μ K (.fs bB 0 e) (.slice a 0 cap)
 | fp {K:Nat→Prop} (bB:Nat) (e:Nat→AV) (off b o:Nat) (u:Nat→Value) (hF:F b) (hu:∀ j,off+j < bB→w.cell? ⟨b,o+j,none⟩=some (u j))
   (hv:∀ j,off+j < bB→VR w F μ Cv (e (off+j)) (u j)):VR w F μ K (.fp bB e off) (.pointer (some ⟨b,o,none⟩))
 | rb {K:Nat→Prop} (cs:List AV) (off b:Nat) (u:Nat→Value) (hF:F b) (hu:∀ j,j < cs.length→w.cell? ⟨b,j,none⟩=some (u j)) (hv:∀ j,j < cs.length→VR w F μ K (cs.getD j .top) (u j)):VR w F μ K (.rb cs off) (.pointer (some ⟨b,off,none⟩))
 | ms {K:Nat→Prop} (id i n bB cap sz:Nat) (t:TypeId) (bZ:K id) (hc:n≤cap) (hs:w.shape? (μ id)=some (t,sz)) (fh:(i+cap)*bB≤sz):
   VR w F μ K (.ms id i n bB) (.slice (some ⟨μ id,i*bB,none⟩) n cap)
 | vs {K:Nat→Prop} (id n bB cap sz:Nat) (t:TypeId) (hn:n≠0) (bZ:K id) (hc:n≤cap) (hs:w.shape? (μ id)=some (t,sz)) (fh:cap*bB≤sz):
   VR w F μ K (.vs id n bB) (.slice (some ⟨μ id,0,none⟩) n cap)
 | sb {K:Nat→Prop} (id bB:Nat) (a:Option Addr):VR w F μ K (.vs id 0 bB) (.slice a 0 0)
 | bp {K:Nat→Prop} (id off:Nat) (bZ:K id):VR w F μ K (.bp id off) (.pointer (some ⟨μ id,off,none⟩))
 | rp {K:Nat→Prop} (id bB i j:Nat) (bZ:K id):VR w F μ K (.rp id bB i j) (.pointer (some ⟨μ id,i*bB+j,none⟩))
 | mp {K:Nat→Prop} (id:Nat) (bZ:K id):VR w F μ K (.mp id) (.map (some (μ id)))
 | oR {K:Nat→Prop} (t:TypeId) (a:AV) (v:Value) (h:VR w F μ K a v):VR w F μ K (.oR t a) (.iface t v)
 | fn {K:Nat→Prop} (f:Fn) (xs ys:List AV) (vs us:List Value) (h:xs.length=vs.length) (h':ys.length=us.length)
   (hv:∀ i,i < xs.length→VR w F μ K (xs.getD i .top) (vs.getD i undef)) (hu:∀ i,i < ys.length→VR w F μ K (ys.getD i .top) (us.getD i undef)):
   VR w F μ K (.fn f xs ys) (.func f ⟨vs⟩ ⟨us⟩)
 | wh {K:Nat→Prop} (c:Bool) (a:AV) (v:Value) (h:c=true→VR w F μ K a v):VR w F μ K (.wh c a) v
theorem VR.mono {w w':World} {F F':Nat→Prop} {μ aZ:Nat→Nat} {K K':Nat→Prop} {a:AV} {v:Value} (h:VR w F μ K a v)
  (hw:∀ b,F b→w'.heap[b]?=w.heap[b]?) (hF:∀ b,F b→F' b) (PF:∀ id,K id→aZ id=μ id) (hK:∀ id,K id→K' id)
  (hs:∀ id,K id→w'.shape? (μ id)=w.shape? (μ id)):VR w' F' aZ K' a v:=by
 induction h generalizing K' with
 | top v=>exact .top v
 | lit v=>exact .lit v
 | int k n=>exact .int k n
 | bool b=>exact .bool b
 | str s=>exact .str s
 | fb=>exact .fb
 | agg cs vs h _ ih=>exact .agg cs vs h fun i hi=>ih i hi PF hK hs
 | ov cs vs h _ ih=>exact .ov cs vs h fun i hi=>ih i hi PF hK hs
 | fs bB n e b o cap u hb hc hu _ ih=>
  exact .fs bB n e b o cap u (hF b hb) hc (fun i j hi hj=>by rw [World.cell?_of_block (hw b hb)];exact hu i j hi hj) fun i j hi hj=>ih i j hi hj (fun _ h=>h.elim) (fun _ h=>h) (fun _ h=>h.elim)
 | u_ bB e a cap=>exact .u_ bB e a cap
 | fp bB e off b o u hb hu _ ih=>
  exact .fp bB e off b o u (hF b hb) (fun j hj=>by rw [World.cell?_of_block (hw b hb)];exact hu j hj) fun j hj=>ih j hj (fun _ h=>h.elim) (fun _ h=>h) (fun _ h=>h.elim)
 | rb cs off b u hb hu _ ih=>exact .rb cs off b u (hF b hb) (fun j hj=>by rw [World.cell?_of_block (hw b hb)];exact hu j hj) fun j hj=>ih j hj PF hK hs
 | ms id i n bB cap sz t bZ hc qQ fh=>
  rw [← PF id bZ];exact .ms id i n bB cap sz t (hK id bZ) hc (by rw [PF id bZ,hs id bZ];exact qQ) fh
 | vs id n bB cap sz t hn bZ hc qQ fh=>
  rw [← PF id bZ];exact .vs id n bB cap sz t hn (hK id bZ) hc (by rw [PF id bZ,hs id bZ];exact qQ) fh
 | sb id bB a=>exact .sb id bB a
 | bp id off bZ=>rw [← PF id bZ];exact .bp id off (hK id bZ)
 | rp id bB i j bZ=>rw [← PF id bZ];exact .rp id bB i j (hK id bZ)
 | mp id bZ=>rw [← PF id bZ];exact .mp id (hK id bZ)
 | oR t a v _ ih=>exact .oR t a v (ih PF hK hs)
 | fn f xs ys vs us h h' _ _ ih ih'=>exact .fn f xs ys vs us h h' (fun i hi=>ih i hi PF hK hs) (fun i hi=>ih' i hi PF hK hs)
 | wh c a v _ ih=>exact .wh c a v fun hc=>ih hc PF hK hs
theorem VR.up {w:World} {F:Nat→Prop} {μ aZ:Nat→Nat} {K:Nat→Prop} {a:AV} {v:Value} (h:VR w F μ Cv a v):VR w F aZ K a v:=
 h.mono (fun _ _=>rfl) (fun _ h=>h) (fun _ h=>h.elim) (fun _ h=>h.elim) (fun _ h=>h.elim)
structure MW (b:Nat) (cs:Array Value) (bB n:Nat) (S:Nat→Nat→Nat→Prop) (T:Nat→Prop) (R:(Nat→Prop)→Nat→Nat→Value→Prop):Prop where
 size:n*bB≤cs.size
 cell:∀ i j,i < n→j < bB→R (S i j) i j (cs.getD (i*bB+j) undef)∧(cs.getD (i*bB+j) undef).oneCell'=true
 dj:∀ i j i' j',i < n→j < bB→i' < n→j' < bB→∀ x,S i j x→S i' j' x→i=i'∧j=j'
 nb:∀ i j,i < n→j < bB→¬ S i j b
 all:∀ x,T x↔x=b∨∃ i j,i < n∧j < bB∧S i j x
inductive jy (w:World) (F:Nat→Prop) (μ:Nat→Nat):(Nat→Prop)→AV→Value→Prop
 | Ip (S:Nat→Prop) (a:AV) (v:Value) (h:VR w F μ Cv a v) (hS:∀ x,¬ S x):jy w F μ S a v
 | AK (S:Nat→Prop) (bB:Nat) (e:Nat→Nat→AV) (a:Option Addr) (hS:∀ x,¬ S x):jy w F μ S (.os bB 0 e) (.slice a 0 0)
 | os (T:Nat→Prop) (bB n:Nat) (e:Nat→Nat→AV) (b cap:Nat) (cs:Array Value) (t:TypeId) (S:Nat→Nat→Nat→Prop) (Jb:n≠0) (hb:w.heap[b]?=some (.cells cs t (0,0))) (hc:n≤cap) (C2:cap*bB≤cs.size)
   (h1:∀ i j,i < n→j < bB→(cs.getD (i*bB+j) undef).oneCell'=true)
   (h2:∀ i j,i < n→j < bB→jy w F μ (S i j) (e i j) (cs.getD (i*bB+j) undef))
   (hd:∀ i j i' j',i < n→j < bB→i' < n→j' < bB→∀ x,S i j x→S i' j' x→i=i'∧j=j')
   (hn:∀ i j,i < n→j < bB→¬ S i j b) (hT:∀ x,T x↔x=b∨∃ i j,i < n∧j < bB∧S i j x):
   jy w F μ T (.os bB n e) (.slice (some ⟨b,0,none⟩) n cap)
theorem jy.mono {w w':World} {F F':Nat→Prop} {μ aZ:Nat→Nat} {S:Nat→Prop} {a:AV} {v:Value} (h:jy w F μ S a v)
  (hw:∀ b,F b→w'.heap[b]?=w.heap[b]?) (hF:∀ b,F b→F' b) (hS:∀ b,S b→w'.heap[b]?=w.heap[b]?):jy w' F' aZ S a v:=by
 induction h with
 | Ip S a v h hn=>exact .Ip S a v ((h.up (aZ:=aZ)).mono hw hF (fun _ h=>h.elim) (fun _ h=>h) (fun _ h=>h.elim)) hn
 | AK S bB e a hn=>exact .AK S bB e a hn
 | os T bB n e b cap cs t S Jb hb hc C2 h1 _ hd hn hT ih=>
  exact .os T bB n e b cap cs t S Jb (by rw [hS b ((hT b).2 (.inl rfl))];exact hb) hc C2 h1 (fun i j hi hj=>ih i j hi hj fun x hx=>hS x ((hT x).2 (.inr ⟨i,j,hi,hj,hx⟩))) hd hn hT
inductive jz where
 | box (l:List AV)
 | row (v:Bool) (bB n:Nat) (e:Nat→Nat→AV)
 | de (v:Bool) (bB n:Nat) (e:Nat→Nat→AV)
 | map (l:List (AV×AV))
 | G5 (l:List (AV×AV)) (j st:Nat)
def hP (w:World) (F:Nat→Prop) (μ:Nat→Nat) (K:Nat→Prop) (S:Nat→Prop) (b:Nat) (o:Obj):jz→Prop
 | .box l=>∃ cs t,o=.cells cs t (0,0)∧(∀ x,S x↔x=b)∧l.length≤cs.size∧∀ j,j < l.length→VR w F μ K (l.getD j .top) (cs.getD j undef)
 | .row _ bB n e=>∃ cs t S',o=.cells cs t (0,0)∧MW b cs bB n S' S fun T i j v=>jy w F μ T (e i j) v
 | .de _ bB n e=>∃ cs t S',o=.cells cs t (0,0)∧MW b cs bB n S' S fun T i j v=>jy w F μ T (e i j) v∨(VR w F μ K (e i j) v∧∀ x,¬ T x)
 | .map l=>∃ es clock,o=.map es clock∧(∀ x,S x↔x=b)∧es.size=l.length∧(∀ i,i < l.length→(es.getD i default).born < clock∧VR w F μ Cv (l.getD i (.top,.top)).1 (es.getD i default).key∧VR w F μ Cv (l.getD i (.top,.top)).2 (es.getD i default).val)∧
   ∀ i j,i < j→j < es.size→(es.getD i default).born < (es.getD j default).born
 | .G5 l j0 st=>∃ es clock,o=.map es clock∧(∀ x,S x↔x=b)∧es.size=l.length∧(∀ i,i < l.length→(es.getD i default).born < clock∧VR w F μ Cv (l.getD i (.top,.top)).1 (es.getD i default).key∧VR w F μ Cv (l.getD i (.top,.top)).2 (es.getD i default).val)∧
   (∀ i j,i < j→j < es.size→(es.getD i default).born < (es.getD j default).born)∧j0 < es.size∧(es.getD j0 default).born=st
theorem hP.mono {w w':World} {F F':Nat→Prop} {μ aZ:Nat→Nat} {K K':Nat→Prop} {S:Nat→Prop} {b:Nat} {o:Obj} {B:jz} (h:hP w F μ K S b o B)
  (hw:∀ b,F b→w'.heap[b]?=w.heap[b]?) (hF:∀ b,F b→F' b) (PF:∀ id,K id→aZ id=μ id) (hK:∀ id,K id→K' id)
  (hs:∀ id,K id→w'.shape? (μ id)=w.shape? (μ id)) (hS:∀ x,S x→x≠b→w'.heap[x]?=w.heap[x]?):hP w' F' aZ K' S b o B:=by
 cases B with
 | box l=>
  obtain ⟨cs,t,h1,h2,h3,h4⟩:=h;exact ⟨cs,t,h1,h2,h3,fun j hj=>(h4 j hj).mono hw hF PF hK hs⟩
 | row v bB n e=>
  obtain ⟨cs,t,S',h1,h2⟩:=h;exact ⟨cs,t,S',h1,{ h2 with cell:=fun i j hi hj=>⟨(h2.cell i j hi hj).1.mono hw hF fun x hx=>hS x ((h2.all x).2 (.inr ⟨i,j,hi,hj,hx⟩)) fun e=>h2.nb i j hi hj (e▸hx),(h2.cell i j hi hj).2⟩ }⟩
 | de v bB n e=>
  obtain ⟨cs,t,S',h1,h2⟩:=h;exact ⟨cs,t,S',h1,{ h2 with cell:=fun i j hi hj=>⟨(h2.cell i j hi hj).1.imp (fun k=>k.mono hw hF fun x hx=>hS x ((h2.all x).2 (.inr ⟨i,j,hi,hj,hx⟩)) fun e=>h2.nb i j hi hj (e▸hx)) fun k=>⟨k.1.mono hw hF PF hK hs,k.2⟩,(h2.cell i j hi hj).2⟩ }⟩
 | map l=>
  obtain ⟨es,clock,h1,h2,h3,h4,h5⟩:=h;exact ⟨es,clock,h1,h2,h3,fun i hi=>⟨(h4 i hi).1,((h4 i hi).2.1.up (aZ:=aZ)).mono hw hF (fun _ h=>h.elim) (fun _ h=>h) (fun _ h=>h.elim),
   ((h4 i hi).2.2.up (aZ:=aZ)).mono hw hF (fun _ h=>h.elim) (fun _ h=>h) (fun _ h=>h.elim)⟩,h5⟩
 | G5 l j0 st=>
  obtain ⟨es,clock,h1,h2,h3,h4,h5,h6⟩:=h;exact ⟨es,clock,h1,h2,h3,fun i hi=>⟨(h4 i hi).1,((h4 i hi).2.1.up (aZ:=aZ)).mono hw hF (fun _ h=>h.elim) (fun _ h=>h) (fun _ h=>h.elim),
   ((h4 i hi).2.2.up (aZ:=aZ)).mono hw hF (fun _ h=>h.elim) (fun _ h=>h) (fun _ h=>h.elim)⟩,h5,h6⟩
abbrev Hp:=Nat→Option jz
def jz.eQ:jz→Bool
 | .row true _ n _=>n != 0
 | .de true _ n _=>n != 0
 | _=>true
def Hp.live (H:Hp) (id:Nat):Prop:=∃ b,H id=some b∧b.eQ=true
def SB:List (Nat×List Value):=[(0,[.iface 296 (.agg #[.pointer (some ⟨1,250,none⟩)])])]
structure Pos (w:World) (F:Nat→Prop):Prop where
 lt:0 < w.heap.size
 laid:∀ p,p∈SB→F p.1∧∃ t z,w.heap[p.1]?=some (.cells ⟨p.2⟩ t z)
theorem Pos.mono {w w':World} {F F':Nat→Prop} (h:Pos w F) (hs:w.heap.size≤w'.heap.size) (hF:∀ b,F b→F' b) (hw:∀ b,F b→w'.heap[b]?=w.heap[b]?):Pos w' F':=
 ⟨Nat.lt_of_lt_of_le h.lt hs,fun p hp=>⟨hF _ (h.laid p hp).1,by rw [hw _ (h.laid p hp).1];exact (h.laid p hp).2⟩⟩
theorem Pos.var {P:Program} {w:World} {F:Nat→Prop} {name:String} {g:Nat} {cs:List Value} (h:Pos w F) (hm:(g,cs)∈SB) (hg:P.globalNamed name=some g):w.var? P name=some ⟨cs⟩:=by
 obtain ⟨_,t,z,e⟩:=h.laid _ hm;simp only at e;simp [World.var?,hg,e]
theorem Pos.cell {w:World} {F:Nat→Prop} {g i:Nat} {cs:List Value} (h:Pos w F) (hm:(g,cs)∈SB):w.cell? ⟨g,i,none⟩=cs[i]?:=by
 obtain ⟨_,t,z,e⟩:=h.laid _ hm;simp only at e;simp [World.cell?,e]
structure HR (w:World) (F O:Nat→Prop) (μ:Nat→Nat) (K:Nat→Prop) (H:Hp) (ft:Nat→Nat→Prop):Prop where
 lt:∀ id,K id→μ id < w.heap.size
 known:∀ id b,H id=some b→K id
 du:∀ id b,H id=some b→b.eQ=true→∃ o,w.heap[μ id]?=some o∧hP w F μ K (ft id) (μ id) o b
 self:∀ id,H.live id→ft id (μ id)
 own:∀ id,H.live id→∀ x,ft id x→O x
 dj:∀ id b9,H.live id→H.live b9→∀ x,ft id x→ft b9 x→id=b9
 yl:∀ b,O b→¬ F b
 wf:∀ b,F b→b < w.heap.size
 qS:∀ b,O b→b < w.heap.size
 pos:Pos w F
structure Fr (w:World) (F O:Nat→Prop) (μ:Nat→Nat) (K:Nat→Prop) (w':World) (F' O':Nat→Prop) (aZ:Nat→Nat):Prop where
 os:w'.os=w.os
 tape:w'.tape=w.tape
 output:w'.output=w.output
 size:w.heap.size≤w'.heap.size
 mu:∀ id,K id→aZ id=μ id
 zK:∀ b,F b→F' b
 shape:∀ b,b < w.heap.size→w'.shape? b=w.shape? b
 same:∀ b,b < w.heap.size→¬ O b→w'.heap[b]?=w.heap[b]?
 D0:∀ b,O' b→O b∨w.heap.size≤b
 G6:∀ b,F' b→F b∨w.heap.size≤b∨O b
variable {w w' ss:World} {F F' zT O O' uo:Nat→Prop} {μ aZ jE:Nat→Nat} {K K' C9:Nat→Prop} {H H' H'':Hp} {ft bX:Nat→Nat→Prop}
theorem Fr.refl (w:World) (F O:Nat→Prop) (μ:Nat→Nat) (K:Nat→Prop):Fr w F O μ K w F O μ:=
 ⟨rfl,rfl,rfl,Nat.le_refl _,fun _ _=>rfl,fun _ h=>h,fun _ _=>rfl,fun _ _ _=>rfl,fun _ h=>.inl h,fun _ h=>.inl h⟩
theorem Fr.trans (h:Fr w F O μ K w' F' O' aZ) (k:Fr w' F' O' aZ K ss zT uo jE):Fr w F O μ K ss zT uo jE where
 os:=k.os.trans h.os
 tape:=k.tape.trans h.tape
 output:=k.output.trans h.output
 size:=Nat.le_trans h.size k.size
 mu:=fun id bZ=>(k.mu id bZ).trans (h.mu id bZ)
 zK:=fun b hb=>k.zK b (h.zK b hb)
 shape:=fun b hb=>(k.shape b (Nat.lt_of_lt_of_le hb h.size)).trans (h.shape b hb)
 same:=fun b hb hn=>(k.same b (Nat.lt_of_lt_of_le hb h.size) fun ho=>by
   rcases h.D0 b ho with h1 | h1
   ·exact hn h1
   ·omega).trans (h.same b hb hn)
 D0:=fun b hb=>by
  rcases k.D0 b hb with h1 | h1
  ·exact h.D0 b h1
  ·exact .inr (Nat.le_trans h.size h1)
 G6:=fun b hb=>by
  rcases k.G6 b hb with h1 | h1 | h1
  ·exact h.G6 b h1
  ·exact .inr (.inl (Nat.le_trans h.size h1))
  ·rcases h.D0 b h1 with h2 | h2
   ·exact .inr (.inr h2)
   ·exact .inr (.inl h2)
theorem Fr.LH (h:Fr w F O μ K w' F' O' aZ) (hK:∀ id,K' id→K id):Fr w F O μ K' w' F' O' aZ:=
 { h with mu:=fun id bZ=>h.mu id (hK id bZ) }
theorem HR.qg (h:HR w F O μ K H ft) {id:Nat} (hl:H.live id):K id:=by
 obtain ⟨b,hb,_⟩:=hl;exact h.known id b hb
theorem Fr.frozen (h:Fr w F O μ K w' F' O' aZ) (hr:HR w F O μ K' H ft) (b:Nat) (hb:F b):w'.heap[b]?=w.heap[b]?:=
 h.same b (hr.wf b hb) fun ho=>hr.yl b ho hb
theorem VR.step {a:AV} {v:Value} (hv:VR w F μ K a v) (hr:HR w F O μ K H ft) (h:Fr w F O μ K w' F' O' aZ) (hK:∀ id,K id→K' id):VR w' F' aZ K' a v:=
 hv.mono (h.frozen hr) h.zK h.mu hK fun id bZ=>h.shape _ (hr.lt id bZ)
def mB (b:Nat):Deferred:={ target:=.collected b,args:=#[] }
structure qj (w:World) (F O:Nat→Prop) (ds:List Deferred):Prop where
 nd:ds.Nodup
 all:∀ d,d∈ds→∃ b,d=mB b∧¬ O b∧¬ F b∧w.heap[b]?=some (Obj.deferred (some []))
theorem qj.nil:qj w F O []:=⟨List.nodup_nil,fun _ h=>by cases h⟩
theorem qj.step {ds:List Deferred} (h:qj w F O ds) (hf:Fr w F O μ K w' F' O' aZ):qj w' F' O' ds where
 nd:=h.nd
 all:=fun d hd=>by
  obtain ⟨b,h1,h2,h3,h4⟩:=h.all d hd;have hb:b < w.heap.size:=(Array.getElem?_eq_some_iff.1 h4).1;refine ⟨b,h1,fun ho=>?_,fun hF=>?_,by rw [hf.same b hb h2];exact h4⟩
  ·rcases hf.D0 b ho with h5 | h5
   ·exact h2 h5
   ·omega
  ·rcases hf.G6 b hF with h5 | h5 | h5
   ·exact h3 h5
   ·omega
   ·exact h2 h5
theorem qj.sub {ds:List Deferred} (h:qj w F O ds) (hO:∀ b,O' b→O b) (hF:∀ b,F' b→F b∨O b):qj w F' O' ds where
 nd:=h.nd
 all:=fun d hd=>by
  obtain ⟨b,h1,h2,h3,h4⟩:=h.all d hd;exact ⟨b,h1,fun ho=>h2 (hO b ho),fun hf=>(hF b hf).elim h3 h2,h4⟩
theorem qj.same {ds:List Deferred} (h:qj w F O ds) (hh:∀ b:Nat,w.heap[b]?=some (Obj.deferred (some []))→w'.heap[b]?=w.heap[b]?):qj w' F O ds where
 nd:=h.nd
 all:=fun d hd=>by
  obtain ⟨b,h1,h2,h3,h4⟩:=h.all d hd;exact ⟨b,h1,h2,h3,by rw [hh b h4];exact h4⟩
def isM (d:Deferred):Bool:=match d.target with
 | .collected _=>true
 | _=>false
def SI (ds:List Deferred):List Deferred:=ds.filter isM
def wk (ds:List Deferred):List Deferred:=ds.filter fun d=>!isM d
theorem ae6 (b:Nat) (ds:List Deferred):SI (mB b::ds)=mB b::SI ds:=rfl
theorem ae7 (b:Nat) (ds:List Deferred):wk (mB b::ds)=wk ds:=rfl
theorem BK:∀ {ds:List Deferred},wk ds=[]→SI ds=ds
 | [],_=>rfl
 | d::r,h=>by
  simp only [wk,List.filter_cons] at h;cases hd:isM d with
  | false=>rw [hd] at h;cases h
  | true=>
   rw [hd] at h;simp only [SI,List.filter_cons,hd,if_true];exact congrArg (d::·) (BK h)
theorem V2 {b:Nat} {ds:List Deferred}:mB b∈SI ds↔mB b∈ds:=by simp [SI,isM,mB]
structure fG where
 nt:Nat
 N:Nat
 tm:Nat→AV
 H:Hp
structure SR (w:World) (F O:Nat→Prop) (μ:Nat→Nat) (K:Nat→Prop) (s:fG) (ft:Nat→Nat→Prop) (a:Act):Prop where
 hr:HR w F O μ K s.H ft
 nt:a.tmps.size=s.nt
 tm:∀ t,VR w F μ K (s.tm t) (a.tmps.getD t undef)
 df:qj w F O (SI a.defers)
def Part (H0 H:Hp):Prop:=∀ id,H0 id=none∨H0 id=H id
theorem Part.live {H0 H:Hp} (h:Part H0 H) {id:Nat} (hl:H0.live id):H.live id:=by
 obtain ⟨b,hb,hl⟩:=hl;rcases h id with e | e
 ·rw [e] at hb;cases hb
 ·exact ⟨b,e▸hb,hl⟩
def Hp.c_ (H:Hp):List (Nat×Option jz)→Hp
 | []=>H
 | (i,b)::r=>fun id=>if id=i then b else Hp.c_ H r id
def Hp.ahV:Hp:=fun _=>none
def plus (K:Nat→Prop) (l:List Nat):Nat→Prop:=fun id=>K id∨id∈l
theorem jm (K:Nat→Prop):plus K []=K:=by
 funext id;simp [plus]
theorem Hp.QT (H:Hp):H.c_ []=H:=rfl
theorem Hp.BL (H:Hp) (i:Nat) (b:Option jz) (id:Nat):H.c_ [(i,b)] id=if id=i then b else H id:=rfl
theorem Hp.QU (H:Hp) (id:Nat):∀ up:List (Nat×Option jz),(id∈up.map (·.1)∧∀ H':Hp,H'.c_ up id=H.c_ up id)∨(id ∉ up.map (·.1)∧∀ H':Hp,H'.c_ up id=H' id)
 | []=>.inr ⟨by simp,fun _=>rfl⟩
 | (i,b)::r=>by
  by_cases e:id=i
  ·exact .inl ⟨by simp [e],fun H'=>by simp [Hp.c_,e]⟩
  ·rcases Hp.QU H id r with ⟨h,h'⟩ | ⟨h,h'⟩
   ·exact .inl ⟨by simp [h],fun H'=>by simp [Hp.c_,e,h']⟩
   ·refine .inr ⟨?_,fun H'=>by simp [Hp.c_,e,h']⟩;intro hm;simp only [List.map_cons,List.mem_cons] at hm;rcases hm with hm | hm
    ·exact e hm
    ·exact h hm
def Lm (H:Hp) (ft:Nat→Nat→Prop):Nat→Prop:=fun x=>∃ id,H.live id∧ft id x
theorem HR.part {H0:Hp} (h:HR w F O μ K H ft) (l:Part H0 H):HR w F (Lm H0 ft) μ K H0 ft where
 lt:=h.lt
 known:=fun id b hb=>h.known id b (by
  rcases l id with e | e
  ·rw [e] at hb;cases hb
  ·rw [← e];exact hb)
 du:=fun id b hb=>h.du id b (by
  rcases l id with e | e
  ·rw [e] at hb;cases hb
  ·rw [← e];exact hb)
 self:=fun id hl=>h.self id (l.live hl)
 own:=fun id hl x hx=>⟨id,hl,hx⟩
 dj:=fun id b9 hl BM=>h.dj id b9 (l.live hl) (l.live BM)
 yl:=fun b ⟨id,hl,hx⟩=>h.yl b (h.own id (l.live hl) b hx)
 wf:=h.wf
 qS:=fun b ⟨id,hl,hx⟩=>h.qS b (h.own id (l.live hl) b hx)
 pos:=h.pos
theorem HR.Zz {H0:Hp} (h:HR w F O μ K H ft) (l:Part H0 H):HR w F O μ K H0 ft:=
 { h.part l with own:=fun id hl x hx=>h.own id (l.live hl) x hx,yl:=h.yl,qS:=h.qS }
open Classical in
theorem UI {H0:Hp} {up:List (Nat×Option jz)} {F1 YF F2:Nat→Prop} (hr:HR w F O μ K H ft) (l:Part H0 H) (hKK:∀ id,K id→K' id)
  (C_:HR w' YF O' aZ K' (H0.c_ up) bX) (hf:Fr w F1 (Lm H0 ft) μ K w' YF O' aZ)
  (h01:∀ b,F b→F1 b) (h02:∀ b,F b→F2 b) (h21:∀ b,F2 b→YF b) (h2:∀ b,F2 b→F b∨w.heap.size≤b∨Lm H0 ft b)
  (MX:∀ id b,(H0.c_ up) id=some b→b.eQ=true→∃ o,w'.heap[aZ id]?=some o∧hP w' F2 aZ K' (bX id) (aZ id) o b):
  ∃ uo JU,HR w' F2 uo aZ K' (H.c_ up) JU∧Fr w F O μ K w' F2 uo aZ:=by
 have kn:∀ {id},H.live id→K id:=fun ⟨b,hb,_⟩=>hr.known _ b hb;have sub:∀ x,Lm H0 ft x→O x:=fun x ⟨id,hl,hx⟩=>hr.own id (l.live hl) x hx;have pq:∀ b,F b→w'.heap[b]?=w.heap[b]?:=fun b hb=>hf.same b (hr.wf b hb) fun h=>hr.yl b (sub b h) hb;have x8:∀ id b,(H.c_ up) id=some b→(H0.c_ up) id=some b∨(H id=some b∧H0 id=none∧(H0.c_ up) id=none):=by
  intro id b hb;rcases Hp.QU H id up with ⟨hm,he⟩ | ⟨hm,he⟩
  ·exact .inl (by rw [he H0];exact hb)
  ·have h1:=he H;have h2:=he H0;rw [h1] at hb;rcases l id with e | e
   ·exact .inr ⟨hb,e,h2.trans e⟩
   ·exact .inl (by rw [h2,e];exact hb)
 let Iq:Nat→Prop:=fun id=>(H0.c_ up) id≠none
 let JU:Nat→Nat→Prop:=fun id=>if Iq id then bX id else ft id
 let uo:Nat→Prop:=fun x=>O' x∨(O x∧¬ Lm H0 ft x)
 have gB:∀ id,(H.c_ up).live id→((H0.c_ up).live id∧JU id=bX id)∨((H.live id∧H0 id=none)∧JU id=ft id):=by
  rintro id ⟨b,hb,hl⟩
  rcases x8 id b hb with h1 | ⟨h1,h2,h3⟩
  ·exact .inl ⟨⟨b,h1,hl⟩,if_pos (by simp only [Iq,h1];simp)⟩
  ·exact .inr ⟨⟨⟨b,h1,hl⟩,h2⟩,if_neg (by simp only [Iq,h3];simp)⟩
 have out:∀ id,H.live id→H0 id=none→∀ x,ft id x→¬ Lm H0 ft x:=fun id h1 h2 x hx ⟨qT,h0,hx0⟩=>by
  have:=hr.dj qT id (l.live h0) h1 x hx0 hx;subst this;obtain ⟨b,hb,_⟩:=h0;rw [h2] at hb;cases hb
 have same:∀ id,H.live id→H0 id=none→∀ x,ft id x→w'.heap[x]?=w.heap[x]?:=fun id h1 h2 x hx=>
  hf.same _ (hr.qS x (hr.own id h1 x hx)) (out id h1 h2 x hx)
 have acI:∀ id b9,(H0.c_ up).live id→H.live b9→H0 b9=none→∀ x,bX id x→ft b9 x→False:=by
  intro id b9 h1 h2 h3 x hx la;rcases hf.D0 x (C_.own id h1 x hx) with h4 | h4
  ·exact out b9 h2 h3 x la h4
  ·have:=hr.qS x (hr.own b9 h2 x la);omega
 refine ⟨uo,JU,{ lt:=C_.lt,known:=?_,du:=?_,self:=?_,own:=?_,dj:=?_,yl:=?_,wf:=fun b hb=>C_.wf b (h21 b hb),qS:=?_,pos:=hr.pos.mono hf.size h02 pq },
  { os:=hf.os,tape:=hf.tape,output:=hf.output,size:=hf.size,mu:=hf.mu,zK:=h02,shape:=hf.shape,same:=?_,D0:=?_,G6:=?_ }⟩
 ·intro id b hb;rcases x8 id b hb with h1 | ⟨h1,_⟩
  ·exact C_.known id b h1
  ·exact hKK id (hr.known id b h1)
 ·intro id b hb hl;rcases x8 id b hb with h1 | ⟨h1,h2,h3⟩
  ·have e:JU id=bX id:=if_pos (by simp only [Iq,h1];simp);rw [e];exact MX id b h1 hl
  ·have e:JU id=ft id:=if_neg (by simp only [Iq,h3];simp);rw [e];obtain ⟨o,ho,hB⟩:=hr.du id b h1 hl;have gC:H.live id:=⟨b,h1,hl⟩;rw [hf.mu id (kn gC)];refine ⟨o,by rw [same id gC h2 _ (hr.self id gC)];exact ho,hB.mono pq h02 hf.mu hKK (fun id bZ=>hf.shape _ (hr.lt id bZ)) fun x hx _=>same id gC h2 x hx⟩
 ·intro id hl;rcases gB id hl with ⟨h1,e⟩ | ⟨⟨h1,h2⟩,e⟩<;>rw [e]
  ·exact C_.self id h1
  ·rw [hf.mu id (kn h1)];exact hr.self id h1
 ·intro id hl x hx;rcases gB id hl with ⟨h1,e⟩ | ⟨⟨h1,h2⟩,e⟩<;>rw [e] at hx
  ·exact .inl (C_.own id h1 x hx)
  ·exact .inr ⟨hr.own id h1 x hx,out id h1 h2 x hx⟩
 ·intro id b9 hl BM x hx la;rcases gB id hl with ⟨h1,e⟩ | ⟨⟨h1,h2⟩,e⟩<;>rcases gB b9 BM with ⟨k1,e'⟩ | ⟨⟨k1,k2⟩,e'⟩<;>rw [e] at hx<;>rw [e'] at la
  ·exact C_.dj id b9 h1 k1 x hx la
  ·exact (acI id b9 h1 k1 k2 x hx la).elim
  ·exact (acI b9 id k1 h1 h2 x la hx).elim
  ·exact hr.dj id b9 h1 k1 x hx la
 ·rintro b (h1 | ⟨h1,h3⟩) hF
  ·exact C_.yl b h1 (h21 b hF)
  ·rcases h2 b hF with h4 | h4 | h4
   ·exact hr.yl b h1 h4
   ·have:=hr.qS b h1;omega
   ·exact h3 h4
 ·rintro b (h1 | ⟨h1,_⟩)
  ·exact C_.qS b h1
  ·exact Nat.lt_of_lt_of_le (hr.qS b h1) hf.size
 ·exact fun b hb hn=>hf.same b hb fun h=>hn (sub b h)
 ·rintro b (h1 | ⟨h1,_⟩)
  ·rcases hf.D0 b h1 with h2 | h2
   ·exact .inl (sub b h2)
   ·exact .inr h2
  ·exact .inl h1
 ·intro b hb;rcases h2 b hb with h1 | h1 | h1
  ·exact .inl h1
  ·exact .inr (.inl h1)
  ·exact .inr (.inr (sub b h1))
theorem frame {H0:Hp} {up:List (Nat×Option jz)} (hr:HR w F O μ K H ft) (l:Part H0 H) (hKK:∀ id,K id→K' id)
  (C_:HR w' F' O' aZ K' (H0.c_ up) bX) (hf:Fr w F (Lm H0 ft) μ K w' F' O' aZ):
  ∃ uo JU,HR w' F' uo aZ K' (H.c_ up) JU∧Fr w F O μ K w' F' uo aZ:=
 UI hr l hKK C_ hf (fun _ h=>h) hf.zK (fun _ h=>h) (fun b hb=>hf.G6 b hb) C_.du
end Go.Proofs.YtjkbbdldmdajkaaGreatDoor.c5
