/- Operations that make or write memory: variables, boxes, stores; rows that are made. No condition. -/
import Derived.Test.YtjkbbdldmdajkaaGreatDoorVD
set_option linter.unusedSimpArgs false
set_option linter.unusedVariables false
namespace Go.Proofs.YtjkbbdldmdajkaaGreatDoor.c_
open Go Go.RowKit
variable {w w' xh:World} {F F' Bn O O' vW:Nat→Prop} {μ bD lF:Nat→Nat} {K K' EB:Nat→Prop} {H H' H'':Hp} {ft bY:Nat→Nat→Prop} {P:Program}
def Wn:Value→AV
 | .bool b=>.bool b
 | .int k n=>.int k n
 | .string s=>.str s.data.toList
 | .slice none 0 0=>.fA
 | .func f ⟨[]⟩ ⟨[]⟩=>.fn f [] []
 | .agg ⟨[]⟩=>.agg []
 | v=>.lit v
theorem Kw (v:Value):VR w F μ K (Wn v) v:=by
 unfold Wn;split
 ·exact .bool _
 ·exact .int _ _
 ·exact .str _
 ·exact .fA
 ·exact .fn _ [] [] [] [] rfl rfl (fun i h=>by cases h) (fun i h=>by cases h)
 ·exact .agg [] [] rfl fun i h=>by cases h
 ·exact .lit _
theorem Fg (l:List Value):iU w F μ K (l.map Wn) l:=by
 induction l with
 | nil=>exact .nil
 | cons v l ih=>exact .cons (Kw v) ih
def P8 (a:AV):Prop:=∀ {w F μ K v},VR w F μ K a v→VR w F μ C8 a v
def One (a:AV):Prop:=∀ {w F μ K v},VR w F μ K a v→v.oneCell'=true
theorem XZ {v:Value} (h:v.oneCell'=true):v.cells=#[v]:=by
 cases v<;>first | rfl | (simp [Value.oneCell'] at h)
def Ct (a:AV) (l:List AV):Prop:=∀ {w F μ K v},VR w F μ K a v→iU w F μ K l v.cells.toList
theorem Vf (cs:List AV):Ct (.agg cs) cs:=fun h=>by
 obtain ⟨vs,rfl,hv⟩:=h.fS;exact hv
theorem Vg {a:AV} (h:One a):Ct a [a]:=fun hv=>by
 rw [XZ (h hv)];exact .cons hv .nil
theorem iU.IW {l:List AV} {vs:List Value} (h:iU w F μ K l vs) (hc:∀ a,a∈l→P8 a):iU w F μ C8 l vs:=
 ⟨h.1,fun i hi=>hc _ (by simp [List.getD,hi]) (h.2 i hi)⟩
theorem iU.one {l:List AV} {vs:List Value} (h:iU w F μ K l vs) (hc:∀ a,a∈l→One a):∀ u,u∈vs→u.oneCell'=true:=by
 intro u hu;obtain ⟨i,hi,rfl⟩:=List.getElem_of_mem hu;have di:i < l.length:=h.1▸hi;have:=hc (l.getD i .top) (by simp [List.getD,di]) (h.2 i di);simpa [List.getD,hi] using this
theorem jG (cs:Array Value) (i:Nat) (d:Value):cs.toList.getD i d=cs.getD i d:=by
 simp [List.getD]
theorem Vh {l:List AV} {cs:Array Value} {t:TypeId} {b:Nat} (h:iU w F μ K l cs.toList):ij w F μ K (fun x=>x=b) b (.cells cs t) (.box l):=
 ⟨cs,t,rfl,fun _=>Iff.rfl,by have:=h.1;simp at this;omega,fun j hj=>by rw [← jG];exact h.2 j hj⟩
theorem ad8 {o:Oper} {s:fU} {x:Operand} {t:TypeId} {a:AV} {l:List AV} {N:Nat} (ho:o.op=.box t x) (hx:ee s x a) (hl:Ct a l):dr P o s ⟨.bp N 0,[(N,some (.box l))],[N]⟩:=
 rf fun {w F O μ K ft act} hs=>by
  refine ⟨.pointer (some ⟨w.heap.size,0,none⟩),.cells (act.eval x).cells t,w.drawn,?_,Vh (hl (hx hs)),fun w' bD _ _ hm=>?_⟩
  ·simp [execOp,ho,Instr.box,newVar,newRow]
  ·rw [← hm];exact .bp N 0 (.inr (by simp))
def z6 (P:Program) (t:TypeId):Option (List AV):=
 match P.info? t with
 | some i=>match i.zero with
  | some z=>some (z.cells.toList.map Wn)
  | none=>none
 | none=>none
theorem EI {t:TypeId} {l:List AV} (h:z6 P t=some l):∃ z,(∀ w,(zeroValue t).run P w=.ok z w)∧l=z.cells.toList.map Wn:=by
 unfold z6 at h;split at h
 ·rename_i i hi;split at h
  ·rename_i z hz;exact ⟨z,fun w=>Rp hi hz,by simpa using h.symm⟩
  ·cases h
 ·cases h
theorem Tp {o:Oper} {s:fU} {t:TypeId} {l:List AV} {N:Nat} (ho:o.op=.alloc t) (hz:z6 P t=some l):dr P o s ⟨.bp N 0,[(N,some (.box l))],[N]⟩:=
 rf fun {w F O μ K ft act} hs=>by
  obtain ⟨z,hr,rfl⟩:=EI hz;refine ⟨.pointer (some ⟨w.heap.size,0,none⟩),.cells z.cells t,w.drawn,?_,Vh (Fg _),fun w' bD _ _ hm=>?_⟩
  ·simp [execOp,ho,Instr.alloc,newVar,newRow,hr]
  ·rw [← hm];exact .bp N 0 (.inr (by simp))
def zg {α:Type}:List α→Nat→List α→List α
 | l,_,[]=>l
 | l,o,x::r=>zg (l.set o x) (o+1) r
def s9:Array Value→Nat→List Value→Array Value
 | l,_,[]=>l
 | l,o,x::r=>s9 (l.setIfInBounds o x) (o+1) r
theorem vX {α:Type} (l:List α) (o:Nat) (r:List α):(zg l o r).length=l.length:=by
 induction r generalizing l o with
 | nil=>rfl
 | cons x r ih=>simp [zg,ih]
theorem jb (l:Array Value) (o:Nat) (r:List Value):(s9 l o r).size=l.size:=by
 induction r generalizing l o with
 | nil=>rfl
 | cons x r ih=>simp [s9,ih]
theorem uK (l:Array Value) (o:Nat) (r:List Value) (h:o+r.length≤l.size) (j:Nat):
  (s9 l o r).getD j undef=if o≤j∧j < o+r.length then r.getD (j-o) undef else l.getD j undef:=by
 induction r generalizing l o with
 | nil=>simp [s9];intro h1 h2;omega
 | cons x r ih=>
  simp only [List.length_cons] at h;rw [s9,ih _ _ (by simp;omega)];by_cases h1:j=o
  ·subst h1;have:j < l.size:=by omega
   simp [this];omega
  ·by_cases h2:o+1≤j∧j < o+1+r.length
   ·rw [if_pos h2,if_pos (by simp;omega)];rw [show j-o=(j-(o+1))+1 by omega];simp
   ·rw [if_neg h2,if_neg (by simp;omega)];simp [Array.getElem?_setIfInBounds_ne (Ne.symm h1)]
theorem P9 {α:Type} (l:List α) (o:Nat) (r:List α) (d:α) (h:o+r.length≤l.length) (j:Nat):
  (zg l o r).getD j d=if o≤j∧j < o+r.length then r.getD (j-o) d else l.getD j d:=by
 induction r generalizing l o with
 | nil=>simp [zg];intro h1 h2;omega
 | cons x r ih=>
  simp only [List.length_cons] at h;rw [zg,ih _ _ (by simp;omega)];by_cases h1:j=o
  ·subst h1;have:j < l.length:=by omega
   simp [this,List.getD];omega
  ·by_cases h2:o+1≤j∧j < o+1+r.length
   ·rw [if_pos h2,if_pos (by simp;omega)];rw [show j-o=(j-(o+1))+1 by omega];simp
   ·rw [if_neg h2,if_neg (by simp;omega)];simp [List.getD,List.getElem?_set_ne (Ne.symm h1)]
theorem IH {b:Nat} {cs:Array Value} {t:TypeId} (h:w.heap[b]?=some (.cells cs t (0,0))) (o:Nat) (v:Value):
  w.setCell ⟨b,o,none⟩ v=jQ w b (.cells (cs.setIfInBounds o v) t (0,0)):=by
 unfold World.setCell jQ;have dT:b < w.heap.size:=(Array.getElem?_eq_some_iff.1 h).1;have hv:w.heap[b]=.cells cs t (0,0):=(Array.getElem?_eq_some_iff.1 h).2
 congr 1
 refine Array.ext_getElem? fun i=>?_;rw [Array.getElem?_modify];by_cases e:b=i
 ·subst e;simp [dT,hv]
 ·simp [e,Array.getElem?_setIfInBounds_ne e]
theorem s_ {b o:Nat} {t:TypeId}:∀ (vs:List Value) (i:Nat) (w:World) (cs:Array Value),w.heap[b]?=some (.cells cs t (0,0))→(∀ v,v∈vs→v.oneCell'=true)→o+i+vs.length≤cs.size→
  (storeCells ⟨b,o,none⟩ vs i).run P w=.ok () (jQ w b (.cells (s9 cs (o+i) vs) t (0,0)))
 | [],i,w,cs,hc,_,_=>by
  simp only [storeCells,Sem.run_pure,s9];rw [abM hc]
 | v::vs,i,w,cs,hc,h1,hs=>by
  simp only [List.length_cons] at hs;have dT:b < w.heap.size:=(Array.getElem?_eq_some_iff.1 hc).1;have ho:o+i < cs.size:=by omega
  have h2:(store ((⟨b,o,none⟩:Addr).add i) v).run P w=.ok () (jQ w b (.cells (cs.setIfInBounds (o+i) v) t (0,0))):=by
   rw [wu,run_store P w _ v .plain (h1 v (by simp)),IH hc];have:w.cell? ⟨b,o+i,none⟩=some (cs[o+i]):=by simp [World.cell?,hc,ho]
   rw [this];simp [World.frozen?,hc]
  simp only [storeCells,Sem.run_bind,h2,Result.andThen_ok];rw [s_ vs (i+1) _ (cs.setIfInBounds (o+i) v) (xJ dT _) (fun u hu=>h1 u (by simp [hu])) (by simp;omega),Kr];rfl
theorem EJ {t:TypeId} {ti:TypeInfo} (hi:P.info? t=some ti) {b o:Nat} {et:TypeId} {cs:Array Value} (hc:w.heap[b]?=some (.cells cs et (0,0))) {v:Value} (fT:v.cells.size=ti.size)
  (h1:∀ u,u∈v.cells.toList→u.oneCell'=true) (hs:o+v.cells.size≤cs.size):(Instr.storeAt t (.pointer (some ⟨b,o,none⟩)) v).run P w=.ok () (jQ w b (.cells (s9 cs o v.cells.toList) et (0,0))):=by
 simp only [Instr.storeAt,Instr.sureAddr,Sem.run_bind,Sem.run_pure,Result.andThen_ok,storeVar,gB hi,fT,ne_eq,not_true_eq_false,if_false];have:=s_ (P:=P) (b:=b) (o:=o) (t:=et) v.cells.toList 0 w cs hc h1 (by simpa using hs);simpa using this
theorem vY {cs cs':Array Value} {t:TypeId} (h:cs'.size=cs.size):sameShape (.cells cs t (0,0)) (.cells cs' t (0,0)):=⟨rfl,h.symm⟩
theorem Ru {o:Oper} {s:fU} {x y:Operand} {t:TypeId} {ti:TypeInfo} {a:AV} {l l0:List AV} {id off:Nat} (ho:o.op=.store t x y) (hi:P.info? t=some ti) (hx:ee s x (.bp id off)) (hy:ee s y a) (hl:Ct a l)
  (h1:∀ b,b∈l→One b) (fT:l.length=ti.size) (hb:s.H id=some (.box l0)) (hle:off+l.length≤l0.length):dr P o s ⟨.lit undef,[(id,some (.box (zg l0 off l)))],[]⟩:=by
 intro w F O μ K ft act hs _ Kn Q hk;have hly:=hl (hy hs);obtain ⟨ob,p9,cs,et,rfl,hS,DD,hB⟩:=hs.hr.dC id _ hb rfl;have hv:=hx hs;generalize EK:act.eval x=v at hv;cases hv with
 | bp _ _ bZ=>
  have hlen:(act.eval y).cells.toList.length=l.length:=hly.1.symm;have h3:off+(act.eval y).cells.toList.length≤cs.size:=by omega
  have lG:(execOp act.eval o).run P w=.ok .skip (jQ w (μ id) (.cells (s9 cs off (act.eval y).cells.toList) et (0,0))):=by
   have:=EJ (P:=P) hi p9 (v:=act.eval y) (by rw [← Array.length_toList,hlen];exact fT) (hly.one h1) (o:=off) (by simpa using h3);simp [execOp,ho,EK,this]
  have NB:ij w F μ K (fun x=>x=μ id) (μ id) (.cells (s9 cs off (act.eval y).cells.toList) et (0,0)) (.box (zg l0 off l)):=by
   refine ⟨_,et,rfl,fun _=>Iff.rfl,by rw [vX,jb];exact DD,fun j hj=>?_⟩;rw [vX] at hj;rw [P9 _ _ _ _ hle,uK _ _ _ h3,hlen];split
   ·exact hly.2 _ (by omega)
   ·exact hB j hj
  have hU:s.H.live id:=⟨_,hb,rfl⟩;obtain ⟨O',bY,k1,k2⟩:=mo (L:=[]) hs.hr hb rfl p9 (vY (jb _ _ _)) (by simp) (fun y (hy:y=μ id)=>⟨id,.inl rfl,hU,hy▸hs.hr.self id hU⟩) rfl NB;unfold Oper.wp;rw [lG,Oper.upon_skip];exact hk undef _ F O' μ bY (.lit _) (by rw [jE];exact k1) k2
theorem X0 {b:Nat} {bA m i j:Nat} {e e':Nat→Nat→AV} {l:List AV} {cs:Array Value} {vs:List Value} {S:Nat→Nat→Nat→Prop} {T:Nat→Prop} (hB:Nv b cs bA m S T fun T i j v=>jP w F μ T (e i j) v)
  (hl:iU w F μ C8 l vs) (h1:∀ u,u∈vs→u.oneCell'=true) (hi:i < m) (hj:j+l.length≤bA)
  (Rv:∀ k,k < l.length→ik (l.getD k .top) (e' i (j+k))) (L0:∀ i' j',i' < m→j' < bA→¬ (i'=i∧j≤j'∧j' < j+l.length)→e' i' j'=e i' j'):
  i*bA+j+vs.length≤cs.size∧∃ S' T',(∀ x,T' x→T x)∧T' b∧Nv b (s9 cs (i*bA+j) vs) bA m S' T' fun T i j v=>jP w F μ T (e' i j) v:=by
 have h2:(i+1)*bA≤m*bA:=Nat.mul_le_mul_right _ hi;rw [Nat.add_mul,Nat.one_mul] at h2;have hlen:vs.length=l.length:=hl.1.symm;have fT:=hB.size;have h3:i*bA+j+vs.length≤cs.size:=by omega
 let hit:Nat→Nat→Prop:=fun i' j'=>i'=i∧j≤j'∧j' < j+l.length
 let S':Nat→Nat→Nat→Prop:=fun i' j' x=>¬ hit i' j'∧S i' j' x
 refine ⟨h3,S',fun x=>x=b∨∃ i' j',i' < m∧j' < bA∧S' i' j' x,?_,.inl rfl,?_⟩
 ·rintro x (h | ⟨i',j',k1,k2,_,k3⟩)
  ·exact (hB.all x).2 (.inl h)
  ·exact (hB.all x).2 (.inr ⟨i',j',k1,k2,k3⟩)
 ·refine { size:=by rw [jb];exact fT,cell:=fun i' j' di mQ=>?_,dj:=fun i1 j1 i2 j2 a1 a2 a3 a4 x hx lM=>hB.dj i1 j1 i2 j2 a1 a2 a3 a4 x hx.2 lM.2,nb:=fun i' j' di mQ hx=>hB.nb i' j' di mQ hx.2,all:=fun _=>Iff.rfl };rw [uK _ _ _ h3];by_cases e1:i'=i
  ·subst e1;by_cases e2:j≤j'∧j' < j+l.length
   ·rw [if_pos (by omega),show i'*bA+j'-(i'*bA+j)=j'-j by omega];have hk:j'-j < l.length:=by omega
    have Gi:j'-j < vs.length:=by omega
    refine ⟨.IW _ _ _ ?_ fun x hx=>hx.1 ⟨rfl,e2⟩,?_⟩
    ·have:=Rv (j'-j) hk (hl.2 _ hk);rwa [show j+(j'-j)=j' by omega] at this
    ·simpa [List.getD,Gi] using h1 _ (List.getElem_mem Gi)
   ·rw [if_neg (by omega)];have hh:¬ hit i' j':=fun h=>e2 h.2;rw [L0 i' j' di mQ hh];have:=hB.cell i' j' di mQ;have eS:S' i' j'=S i' j':=by
     funext x;simp only [S',eq_iff_iff];exact ⟨fun h=>h.2,fun h=>⟨hh,h⟩⟩
    rw [eS];exact this
  ·have hh:¬ hit i' j':=fun h=>e1 h.1;rw [if_neg ?_]
   ·rw [L0 i' j' di mQ hh];have:=hB.cell i' j' di mQ;have eS:S' i' j'=S i' j':=by
     funext x;simp only [S',eq_iff_iff];exact ⟨fun h=>h.2,fun h=>⟨hh,h⟩⟩
    rw [eS];exact this
   ·rcases Nat.lt_or_gt_of_ne e1 with h | h
    ·have h4:(i'+1)*bA≤i*bA:=Nat.mul_le_mul_right _ h;rw [Nat.add_mul,Nat.one_mul] at h4;omega
    ·have h4:(i+1)*bA≤i'*bA:=Nat.mul_le_mul_right _ h;rw [Nat.add_mul,Nat.one_mul] at h4;omega
theorem Rw {o:Oper} {s:fU} {x y:Operand} {t:TypeId} {ti:TypeInfo} {a:AV} {l:List AV} {id bA i j m:Nat} {v:Bool} {e e':Nat→Nat→AV} (ho:o.op=.store t x y) (hi:P.info? t=some ti) (hx:ee s x (.rp id bA i j)) (hy:ee s y a) (hl:Ct a l)
  (h1:∀ b,b∈l→One b) (OS:∀ b,b∈l→P8 b) (fT:l.length=ti.size) (hb:s.H id=some (.row v bA m e)) (him:i < m) (hle:j+l.length≤bA)
  (Rv:∀ k,k < l.length→ik (l.getD k .top) (e' i (j+k))) (L0:∀ i' j',i' < m→j' < bA→¬ (i'=i∧j≤j'∧j' < j+l.length)→e' i' j'=e i' j'):
  dr P o s ⟨.lit undef,[(id,some (.row v bA m e'))],[]⟩:=by
 intro w F O μ K ft act hs _ Kn Q hk;have hly:=hl (hy hs);have NC:(jV.row v bA m e).fc=true:=by cases v<;>simp [jV.fc];omega
 obtain ⟨ob,p9,cs,et,S,rfl,hB⟩:=hs.hr.dC id _ hb NC;have hv:=hx hs;generalize EK:act.eval x=u at hv;cases hv with
 | rp _ _ _ _ bZ=>
  obtain ⟨k1,S',T',k2,k3,k4⟩:=X0 (e':=e') hB (hly.IW OS) (hly.one h1) him hle Rv L0;have hlen:(act.eval y).cells.toList.length=l.length:=hly.1.symm;have lG:(execOp act.eval o).run P w=.ok .skip (jQ w (μ id) (.cells (s9 cs (i*bA+j) (act.eval y).cells.toList) et (0,0))):=by
   have:=EJ (P:=P) hi p9 (v:=act.eval y) (by rw [← Array.length_toList,hlen];exact fT) (hly.one h1) (o:=i*bA+j) (by simpa using k1);simp [execOp,ho,EK,this]
  have hU:s.H.live id:=⟨_,hb,NC⟩;obtain ⟨O',bY,q1,q2⟩:=mo (L:=[]) (b':=.row v bA m e') hs.hr hb NC p9 (vY (jb _ _ _)) (by simp) (fun x hx=>⟨id,.inl rfl,hU,k2 x hx⟩) k3 ⟨_,et,S',rfl,k4⟩;unfold Oper.wp;rw [lG,Oper.upon_skip];exact hk undef _ F O' μ bY (.lit _) (by rw [jE];exact q1) q2
theorem vc {n:Int} (h0:-9223372036854775808≤n) (h1:n≤9223372036854775807):IntKind.i64.wrap n=n:=by
 simp only [IntKind.wrap,IntKind.bits,IntKind.signed,Bool.true_and];split<;>rename_i h<;>simp at h<;>omega
theorem I5 {i j s:Nat} (hj:j < s):(i*s+j) % s=j:=by
 rw [Nat.add_comm,Nat.add_mul_mod_self_right,Nat.mod_eq_of_lt hj]
theorem Rx {b bA n:Nat} {v:Bool} {e:Nat→Nat→AV} {cs:Array Value} {t:TypeId} (fT:n*bA≤cs.size)
  (h:∀ i j,i < n→j < bA→VR w F μ C8 (e i j) (cs.getD (i*bA+j) undef)∧(cs.getD (i*bA+j) undef).oneCell'=true):ij w F μ K (fun x=>x=b) b (.cells cs t) (.row v bA n e):=
 ⟨cs,t,fun _ _ _=>False,rfl,{ size:=fT,cell:=fun i j hi hj=>⟨.IW _ _ _ (h i j hi hj).1 fun _ h=>h,(h i j hi hj).2⟩,dj:=fun _ _ _ _ _ _ _ _ _ h=>h.elim,nb:=fun _ _ _ _ h=>h,all:=fun x=>⟨.inl,fun h=>h.elim (fun h=>h) fun ⟨_,_,_,_,h⟩=>h.elim⟩ }⟩
theorem Ry {o:Oper} {s:fU} {x y:Operand} {t et:TypeId} {ti:TypeInfo} {l c:Int} {zs:List AV} {N:Nat} {e:Nat→Nat→AV} (nl:Bool) (hnl:nl=true→l=c) (ho:o.op=.makeSlice t x y) (hx:ee s x (.int .i64 l)) (hy:ee s y (.int .i64 c))
  (ht:P.underlying t=some (.slice et)) (hi:P.info? et=some ti) (hz:z6 P et=some zs) (hl:zs.length=ti.size) (ad9:∀ a,a∈zs→P8 a) (ND:∀ a,a∈zs→One a)
  (h0:0≤l) (h1:l≤c) (h2:c*(ti.bytes:Int)≤140737488355328) (h3:c≤140737488355328) (he:∀ i j,i < l.toNat→j < ti.size→ik (zs.getD j .top) (e i j)):
  dr P o s ⟨du nl N l.toNat ti.size,[(N,some (.row nl ti.size l.toNat e))],[N]⟩:=
 rf fun {w F O μ K ft act} gf=>by
  have hvx:=(hx gf).dd;have hvy:=(hy gf).dd;obtain ⟨z,X2,rfl⟩:=EI hz;have hzs:z.cells.size=ti.size:=by simpa using hl
  have wl:IntKind.i64.wrap l=l:=vc (by omega) (by omega);have wc:IntKind.i64.wrap c=c:=vc (by omega) (by omega);have hb:(ti.bytes:Int)*c≤281474976710656:=by rw [Int.mul_comm];omega
  have hc0:0≤c:=by omega
  have afe:((Array.range (c.toNat*z.cells.size)).map (z.cells[· % z.cells.size]!)).size=c.toNat*ti.size:=by simp [hzs]
  refine ⟨.slice (some ⟨w.heap.size,0,none⟩) l.toNat c.toNat,.cells ((Array.range (c.toNat*z.cells.size)).map (z.cells[· % z.cells.size]!)) et,w.drawn,?_,?_,fun w' bD _ sZ hm=>?_⟩
  ·have e1:((decide (c < 0)||decide ((ti.bytes:Int)*c > 2 ^ 48))||decide (l < 0)||decide (l > c))=false:=by
    have:¬ (ti.bytes:Int)*c > 2 ^ 48:=by simp only [Int.reducePow];omega
    simp only [this];simp;omega
   have e0:((decide (c < 0)||decide ((2:Int) ^ 48 < (ti.bytes:Int)*c))||decide (l < 0)||decide (c < l))=false:=e1;simp only [execOp,ho,hvx,hvy,Sem.run_bind,Instr.makeSlice,cb ht,Result.andThen_ok,asInt,asIntOf,Sem.run_pure,Md hi,wl,wc,gt_iff_lt,e0,Bool.false_eq_true,if_false,run_askRoom,gB hi];rw [← hzs];by_cases h:c.toNat*z.cells.size=0
   ·rw [if_pos h,h];have e:∀ f:Nat→Value,(Array.range 0).map f=#[]:=fun f=>by simp
    simp only [Sem.run_bind,Sem.run_pure,Result.andThen_ok,newRow,run_newObj,World.alloc_eq,e]
   ·rw [if_neg h];simp only [Sem.run_bind,Sem.run_pure,Result.andThen_ok,X2,newRow,run_newObj,World.alloc_eq]
  ·refine Rx (by rw [afe];exact Nat.mul_le_mul_right _ (by omega)) fun i j hi hj=>?_;have k1:=(iU.IW (Fg (w:=w) (F:=F) (μ:=μ) (K:=K) z.cells.toList) ad9).2 j (by simpa [hzs] using hj);have k2:(i+1)*ti.size≤c.toNat*ti.size:=Nat.mul_le_mul_right _ (by omega);rw [Nat.add_mul,Nat.one_mul] at k2;have k3:i*z.cells.size+j < c.toNat*z.cells.size:=by rw [hzs];omega
   have mQ:j < z.cells.size:=by omega
   have k4:((Array.range (c.toNat*z.cells.size)).map (z.cells[· % z.cells.size]!)).getD (i*ti.size+j) undef=z.cells.toList.getD j undef:=by
    rw [← hzs];simp [k3,I5 mQ,List.getD,mQ]
   rw [k4];exact ⟨he i j hi hj k1,iU.one (Fg (w:=w) (F:=F) (μ:=μ) (K:=K) z.cells.toList) ND (z.cells.toList.getD j undef) (by simp [List.getD,mQ])⟩
  ·rw [← hm];have abQ:w'.shape? (bD N)=some (et,c.toNat*ti.size):=by
    unfold World.shape?;rw [hm,sZ];simp only [afe]
   cases nl with
   | false=>
    have:=VR.ms (w:=w') (F:=F) (μ:=bD) (K:=plus K [N]) N 0 l.toNat ti.size c.toNat (c.toNat*ti.size) et (.inr (by simp)) (by omega) abQ (by simp);simpa [du] using this
   | true=>
    have e:=hnl rfl;subst e;by_cases h:l.toNat=0
    ·rw [h];exact .s8 _ _ _
    ·exact .vs (w:=w') (F:=F) (μ:=bD) (K:=plus K [N]) N l.toNat ti.size l.toNat (l.toNat*ti.size) et h (.inr (by simp)) (Nat.le_refl _) abQ (Nat.le_refl _)
def oz {α:Type} (place:Nat→Option (Nat×Nat)):List α→List (Nat×List α)→Option (List α)
 | cs,[]=>some cs
 | cs,(i,l)::r=>match place i with
  | none=>none
  | some (off,size)=>if Nat.beq l.length size&&(off+size).ble cs.length then oz place (zg cs off l) r else none
theorem X3 (l:List Value):∀ (k off:Nat) (cs:Array Value),off+k+l.length≤cs.size→(l.zipIdx k).foldl (fun cs (x:Value×Nat)=>cs.setIfInBounds (off+x.2) x.1) cs=s9 cs (off+k) l:=by
 induction l with
 | nil=>intro k off cs _;rfl
 | cons x l ih=>
  intro k off cs h;simp only [List.length_cons] at h;simp only [List.zipIdx_cons,List.foldl_cons,s9];rw [ih (k+1) off _ (by simp;omega)];rfl
inductive EL (s:fU):List (Nat×Operand)→List (Nat×List AV)→Prop
 | nil:EL s [] []
 | cons {i:Nat} {x:Operand} {a:AV} {l:List AV} {r:List (Nat×Operand)} {q:List (Nat×List AV)} (hx:ee s x a) (hl:Ct a l) (h:EL s r q):EL s ((i,x)::r) ((i,l)::q)
theorem I6 {s:fU} {a:Act} (hs:SR w F O μ K s ft a) {place:Nat→Option (Nat×Nat)}:∀ {ps:List (Nat×Operand)} {q:List (Nat×List AV)} {cs:List AV} {us:Array Value} {r:List AV},EL s ps q→oz place cs q=some r→
  iU w F μ K cs us.toList→∃ us',Instr.fill place us (ps.map fun p=>(p.1,a.eval p.2))=some us'∧iU w F μ K r us'.toList
 | [],_,cs,us,r,.nil,h,hu=>by
  simp only [oz,Option.some.injEq] at h;subst h;exact ⟨us,rfl,hu⟩
 | (i,x)::ps,_,cs,us,r,.cons (l:=l) (q:=q) hx OS hq,h,hu=>by
  simp only [oz] at h;split at h
  ·cases h
  ·rename_i off size hp;split at h
   ·rename_i hb;simp only [Bool.and_eq_true] at hb;have h1:=Nat.eq_of_beq_eq_true hb.1;have h2:=Nat.le_of_ble_eq_true hb.2;have hl:iU w F μ K l (a.eval x).cells.toList:=OS (hx hs);have hlen:l.length=(a.eval x).cells.size:=by have:=hl.1;simpa using this
    have DD:cs.length=us.size:=by have:=hu.1;simpa using this
    have h3:off+(a.eval x).cells.size≤us.size:=by omega
    have UR:iU w F μ K (zg cs off l) (s9 us off (a.eval x).cells.toList).toList:=by
     refine ⟨by rw [vX,DD];simp [jb],fun j hj=>?_⟩;rw [vX] at hj;rw [jG,P9 _ _ _ _ (by omega),uK _ _ _ (by simpa using h3)];have e:(a.eval x).cells.toList.length=l.length:=hl.1.symm;rw [e];split
     ·exact hl.2 _ (by omega)
     ·rw [← jG];exact hu.2 j hj
    obtain ⟨us',k1,k2⟩:=I6 hs hq h UR;refine ⟨us',?_,k2⟩;have aff:(a.eval x).cells.zipIdx.foldl (fun cs (x:Value×Nat)=>cs.setIfInBounds (off+x.2) x.1) us=s9 us off (a.eval x).cells.toList:=by
     have:=X3 (a.eval x).cells.toList 0 off us (by simpa using h3);rw [← Array.foldl_toList];simpa using this
    simp only [List.map_cons,Instr.fill,hp];have c2:¬ (us.size < off+(a.eval x).cells.size):=by omega
    rw [if_neg (by simp [c2];omega)];have:((a.eval x).cells.zipIdx.foldl (fun cs x=>match x with | (c,j)=>cs.setIfInBounds (off+j) c) us)=s9 us off (a.eval x).cells.toList:=aff;rw [this];exact k1
   ·cases h
def I7 (P:Program) (fs:List Field):Option (List (Nat×Nat)):=
 match fs with
 | []=>some []
 | f::r=>match P.info? f.type,I7 P r with
  | some i,some q=>some ((f.offset,i.size)::q)
  | _,_=>none
def Rz (f:Field):Sem (Nat×Nat):=do pure (f.offset,← sizeOf f.type)
theorem NF (w:World):∀ {fs:List Field} {q:List (Nat×Nat)},I7 P fs=some q→(fs.mapM Rz).run P w=.ok q w
 | [],q,h=>by cases h;simp
 | f::r,q,h=>by
  simp only [I7] at h;split at h
  ·rename_i i q' hi hq;cases h;have:=NF w hq;simp only [List.mapM_cons,Rz,Sem.run_bind,gB hi,Result.andThen_ok,Sem.run_pure];rw [this];rfl
  ·cases h
theorem aak {o:Oper} {s:fU} {t:TypeId} {fs:Array Field} {ps:List (Nat×Operand)} {q:List (Nat×List AV)} {pl:List (Nat×Nat)} {zs r:List AV} (ho:o.op=.build t ⟨ps⟩) (ht:P.underlying t=some (.struct fs))
  (hz:z6 P t=some zs) (hp:I7 P fs.toList=some pl) (hq:EL s ps q) (hr:oz (pl[·]?) zs q=some r):dr P o s ⟨.agg r,[],[]⟩:=
 b6 fun {w F O μ K ft a} hs=>by
  obtain ⟨z,X2,rfl⟩:=EI hz;obtain ⟨us,k1,k2⟩:=I6 hs hq hr (Fg z.cells.toList);have hm:(fs.mapM Rz).run P w=.ok ⟨pl⟩ w:=by
   rw [Array.mapM_eq_mapM_toList];simp only [Sem.run_map];rw [NF w hp];rfl
  have YS:Instr.fill (fun x=>(⟨pl⟩:Array (Nat×Nat))[x]?) z.cells ((⟨ps⟩:Array (Nat×Operand)).map fun (i,x)=>(i,a.eval x)).toList=some us:=by
   simpa using k1
  refine ⟨.agg us,?_,.rO k2⟩;simp only [execOp,ho,Instr.build,Sem.run_bind,X2,Result.andThen_ok,cb ht];have e:(fs.mapM fun f=>(do pure (f.offset,← sizeOf f.type):Sem (Nat×Nat))).run P w=.ok ⟨pl⟩ w:=hm;rw [e];simp only [Result.andThen_ok];rw [YS];simp
theorem NG (off:Nat):∀ (l:List (Value×Nat)) (c:Array Value),(l.foldl (fun cs x=>cs.setIfInBounds (off+x.2) x.1) c).size=c.size
 | [],_=>rfl
 | x::l,c=>by simp only [List.foldl_cons];rw [NG off l];simp
theorem P_ {place:Nat→Option (Nat×Nat)}:∀ {vs:List (Nat×Value)} {c c':Array Value},Instr.fill place c vs=some c'→c'.size=c.size
 | [],c,c',h=>by cases h;rfl
 | (i,v)::vs,c,c',h=>by
  simp only [Instr.fill] at h;split at h
  ·cases h
  ·split at h
   ·cases h
   ·rw [P_ h,← Array.foldl_toList];exact NG _ _ _
theorem L1 {α:Type} {z:List α} (Tq:0 < z.length):∀ (m k:Nat),k < m*z.length→((List.range m).flatMap fun _=>z)[k]?=z[k % z.length]?:=by
 intro m
 induction m with
 | zero=>intro k hk;omega
 | succ m ih=>
  intro k hk;rw [List.range_succ_eq_map,List.flatMap_cons,List.flatMap_map];by_cases h:k < z.length
  ·rw [List.getElem?_append_left h,Nat.mod_eq_of_lt h]
  ·rw [List.getElem?_append_right (Nat.le_of_not_lt h)];have h3:k-z.length < m*z.length:=by rw [Nat.add_mul,Nat.one_mul] at hk;omega
   have:=ih (k-z.length) h3;rw [this,← Nat.mod_eq_sub_mod (by omega)]
theorem tb {s:fU} {a:Act} {o:Oper} {t et:TypeId} {ti:TypeInfo} {n:Nat} {ps:List (Nat×Operand)} {q:List (Nat×List AV)} {zs r:List AV} (hs:SR w F O μ K s ft a) (ho:o.op=.buildSlice t n ⟨ps⟩) (ht:P.underlying t=some (.slice et))
  (hi:P.info? et=some ti) (hz:z6 P et=some zs) (hl:zs.length=ti.size) (Hn:ti.size≠0) (hn:n*ti.size≤16777216) (hq:EL s ps q)
  (hr:oz (fun i=>some (i*ti.size,ti.size)) ((List.range n).flatMap fun _=>zs) q=some r):
  ∃ us:Array Value,us.size=n*ti.size∧iU w F μ K r us.toList∧(execOp a.eval o).run P w=.ok (.value (.slice (some ⟨w.heap.size,0,none⟩) n n)) (w.alloc (.cells us et)):=by
 obtain ⟨z,X2,rfl⟩:=EI hz;have hzs:z.cells.size=ti.size:=by simpa using hl
 have hz0:iU w F μ K ((List.range n).flatMap fun _=>z.cells.toList.map Wn) ((Array.range (n*ti.size)).map (z.cells[· % z.cells.size]!)).toList:=by
  have e:((Array.range (n*ti.size)).map (z.cells[· % z.cells.size]!)).toList=(List.range n).flatMap fun _=>z.cells.toList:=by
   refine List.ext_getElem ?_ fun k k1 k2=>?_
   ·simp [List.length_flatMap,hzs,List.map_const',List.sum_replicate_nat]
   ·have hk:k < n*z.cells.size:=by simpa [hzs] using k1
    have Tq:0 < z.cells.size:=by omega
    have h4:=L1 (z:=z.cells.toList) (by simpa using Tq) n k (by simpa using hk);have h5:k % z.cells.size < z.cells.size:=Nat.mod_lt _ Tq;have h6:((List.range n).flatMap fun _=>z.cells.toList)[k]=z.cells[k % z.cells.size]:=by
     have:=List.getElem?_eq_getElem k2;rw [h4] at this;simpa [h5] using this.symm
    rw [h6];simp [h5]
  rw [e];have:(List.range n).flatMap (fun _=>z.cells.toList.map Wn)=((List.range n).flatMap fun _=>z.cells.toList).map Wn:=by rw [List.map_flatMap]
  rw [this];exact Fg _
 obtain ⟨us,k1,k2⟩:=I6 hs hq hr hz0;have RA:us.size=n*ti.size:=by
  rw [P_ k1];simp
 refine ⟨us,RA,k2,?_⟩;have hle:¬ n*ti.size > 2 ^ 24:=by simp only [Nat.reducePow];omega
 have YS:Instr.fill (fun i=>some (i*ti.size,ti.size)) ((Array.range (n*ti.size)).map (z.cells[· % z.cells.size]!)) ((⟨ps⟩:Array (Nat×Operand)).map fun (i,x)=>(i,a.eval x)).toList=some us:=by
  simpa using k1
 simp only [execOp,ho,Instr.buildSlice,Sem.run_bind,cb ht,Result.andThen_ok,gB hi,if_neg hle];by_cases h:n*ti.size=0
 ·have e:∀ f g:Nat→Value,(Array.range 0).map f=(Array.range 0).map g:=fun f g=>by simp
  rw [h] at YS;rw [if_pos h,h];simp only [Sem.run_bind,Sem.run_pure,Result.andThen_ok];rw [e _ (z.cells[· % z.cells.size]!),YS];simp [newRow]
 ·rw [if_neg h];simp only [Sem.run_bind,Sem.run_pure,Result.andThen_ok,X2];rw [YS];simp [newRow]
theorem Vi {N n bA:Nat} {et:TypeId} {us:Array Value} (RA:us.size=n*bA) (sZ:w'.heap[w.heap.size]?=some (.cells us et)) (hm:bD N=w.heap.size):VR w' F bD (plus K [N]) (.ms N 0 n bA) (.slice (some ⟨w.heap.size,0,none⟩) n n):=by
 rw [← hm];have abQ:w'.shape? (bD N)=some (et,n*bA):=by
  unfold World.shape?;rw [hm,sZ];simp only [RA]
 have:=VR.ms (w:=w') (F:=F) (μ:=bD) (K:=plus K [N]) N 0 n bA n (n*bA) et (.inr (by simp)) (Nat.le_refl _) abQ (by simp);simpa using this
theorem Pn {o:Oper} {s:fU} {t et:TypeId} {ti:TypeInfo} {n:Nat} {ps:List (Nat×Operand)} {q:List (Nat×List AV)} {zs r:List AV} {N:Nat} {e:Nat→Nat→AV} (ho:o.op=.buildSlice t n ⟨ps⟩) (ht:P.underlying t=some (.slice et))
  (hi:P.info? et=some ti) (hz:z6 P et=some zs) (hl:zs.length=ti.size) (Hn:ti.size≠0) (hn:n*ti.size≤16777216) (hq:EL s ps q)
  (hr:oz (fun i=>some (i*ti.size,ti.size)) ((List.range n).flatMap fun _=>zs) q=some r) (ad9:∀ a,a∈r→P8 a) (ND:∀ a,a∈r→One a) (he:∀ i j,i < n→j < ti.size→ik (r.getD (i*ti.size+j) .top) (e i j)):
  dr P o s ⟨.ms N 0 n ti.size,[(N,some (.row false ti.size n e))],[N]⟩:=
 rf fun {w F O μ K ft a} hs=>by
  obtain ⟨us,RA,k2,lG⟩:=tb hs ho ht hi hz hl Hn hn hq hr;refine ⟨_,.cells us et,w.drawn,lG,?_,fun w' bD _ sZ hm=>Vi RA sZ hm⟩;have k3:=k2.IW ad9;have hrl:r.length=n*ti.size:=by have:=k2.1;simpa [RA] using this
  refine Rx (by rw [RA];exact Nat.le_refl _) fun i j hi hj=>?_;have h4:(i+1)*ti.size≤n*ti.size:=Nat.mul_le_mul_right _ hi;rw [Nat.add_mul,Nat.one_mul] at h4;rw [← jG];have hk:i*ti.size+j < us.toList.length:=by rw [← k3.1];omega
  exact ⟨he i j hi hj (k3.2 _ (by omega)),k2.one ND _ (by simp only [List.getD];rw [List.getElem?_eq_getElem hk];exact List.getElem_mem hk)⟩
theorem NH {o:Oper} {s:fU} {t et:TypeId} {ti:TypeInfo} {zs:List AV} {N:Nat} {e:Nat→Nat→AV} (ho:o.op=.buildSlice t 0 ⟨[]⟩) (ht:P.underlying t=some (.slice et))
  (hi:P.info? et=some ti) (hz:z6 P et=some zs) (hl:zs.length=ti.size) (Hn:ti.size≠0):dr P o s ⟨du true N 0 ti.size,[(N,some (.row true ti.size 0 e))],[N]⟩:=
 rf fun {w F O μ K ft a} hs=>by
  obtain ⟨us,RA,k2,lG⟩:=tb (n:=0) (ps:=[]) (r:=[]) hs ho ht hi hz hl Hn (by omega) .nil (by simp [oz]);exact ⟨_,.cells us et,w.drawn,lG,Rx (by omega) fun i j hi hj=>absurd hi (by omega),fun w' bD _ sZ hm=>.s8 _ _ _⟩
theorem I8 {o:Oper} {s:fU} {t et:TypeId} {ti:TypeInfo} {n:Nat} {ps:List (Nat×Operand)} {q:List (Nat×List AV)} {zs r:List AV} {N:Nat} (ho:o.op=.buildSlice t n ⟨ps⟩) (ht:P.underlying t=some (.slice et))
  (hi:P.info? et=some ti) (hz:z6 P et=some zs) (hl:zs.length=ti.size) (Hn:ti.size≠0) (hn:n*ti.size≤16777216) (hq:EL s ps q)
  (hr:oz (fun i=>some (i*ti.size,ti.size)) ((List.range n).flatMap fun _=>zs) q=some r):
  dr P o s ⟨.ms N 0 n ti.size,[(N,some (.box r))],[N]⟩:=
 rf fun {w F O μ K ft a} hs=>by
  obtain ⟨us,RA,k2,lG⟩:=tb hs ho ht hi hz hl Hn hn hq hr;exact ⟨_,.cells us et,w.drawn,lG,Vh k2,fun w' bD _ sZ hm=>Vi RA sZ hm⟩
end Go.Proofs.YtjkbbdldmdajkaaGreatDoor.c_
