/- Operations that make or write memory: variables, boxes, stores; rows that are made. No condition. -/
import Derived.Test.YtjkbbdldmdajkaaGreatDoorVD
set_option linter.unusedSimpArgs false
set_option linter.unusedVariables false
namespace Go.Proofs.YtjkbbdldmdajkaaGreatDoor.c_
open Go Go.RowKit
variable {w w' xk:World} {F F' Bs O O' v8:Nat→Prop} {μ bC lG:Nat→Nat} {K K' EF:Nat→Prop} {H H' H'':Hp} {ft bZ:Nat→Nat→Prop} {P:Program}
def Wq:Value→AV
 | .bool b=>.bool b
 | .int k n=>.int k n
 | .string s=>.str s.data.toList
 | .slice none 0 0=>.fB
 | .func f ⟨[]⟩ ⟨[]⟩=>.fn f [] []
 | .agg ⟨[]⟩=>.agg []
 | v=>.lit v
theorem Kx (v:Value):VR w F μ K (Wq v) v:=by
 unfold Wq;split
 ·exact .bool _
 ·exact .int _ _
 ·exact .str _
 ·exact .fB
 ·exact .fn _ [] [] [] [] rfl rfl (fun i h=>by cases h) (fun i h=>by cases h)
 ·exact .agg [] [] rfl fun i h=>by cases h
 ·exact .lit _
theorem Fp (l:List Value):iL w F μ K (l.map Wq) l:=by
 induction l with
 | nil=>exact .nil
 | cons v l ih=>exact .cons (Kx v) ih
def Qb (a:AV):Prop:=∀ {w F μ K v},VR w F μ K a v→VR w F μ Dc a v
def One (a:AV):Prop:=∀ {w F μ K v},VR w F μ K a v→v.oneCell'=true
theorem X3 {v:Value} (h:v.oneCell'=true):v.cells=#[v]:=by
 cases v<;>first | rfl | (simp [Value.oneCell'] at h)
def Cu (a:AV) (l:List AV):Prop:=∀ {w F μ K v},VR w F μ K a v→iL w F μ K l v.cells.toList
theorem Vi (cs:List AV):Cu (.agg cs) cs:=fun h=>by
 obtain ⟨vs,rfl,hv⟩:=h.fU;exact hv
theorem Vj {a:AV} (h:One a):Cu a [a]:=fun hv=>by
 rw [X3 (h hv)];exact .cons hv .nil
theorem iL.IY {l:List AV} {vs:List Value} (h:iL w F μ K l vs) (hc:∀ a,a∈l→Qb a):iL w F μ Dc l vs:=
 ⟨h.1,fun i hi=>hc _ (by simp [List.getD,hi]) (h.2 i hi)⟩
theorem iL.one {l:List AV} {vs:List Value} (h:iL w F μ K l vs) (hc:∀ a,a∈l→One a):∀ u,u∈vs→u.oneCell'=true:=by
 intro u hu;obtain ⟨i,hi,rfl⟩:=List.getElem_of_mem hu;have di:i < l.length:=h.1▸hi;have:=hc (l.getD i .top) (by simp [List.getD,di]) (h.2 i di);simpa [List.getD,hi] using this
theorem jG (cs:Array Value) (i:Nat) (d:Value):cs.toList.getD i d=cs.getD i d:=by
 simp [List.getD]
theorem Vk {l:List AV} {cs:Array Value} {t:TypeId} {b:Nat} (h:iL w F μ K l cs.toList):ik w F μ K (fun x=>x=b) b (.cells cs t) (.box l):=
 ⟨cs,t,rfl,fun _=>Iff.rfl,by have:=h.1;simp at this;omega,fun j hj=>by rw [← jG];exact h.2 j hj⟩
theorem aeb {o:Oper} {s:fT} {x:Operand} {t:TypeId} {a:AV} {l:List AV} {N:Nat} (ho:o.op=.box t x) (hx:ee s x a) (hl:Cu a l):dr P o s ⟨.bp N 0,[(N,some (.box l))],[N]⟩:=
 rh fun {w F O μ K ft act} hs=>by
  refine ⟨.pointer (some ⟨w.heap.size,0,none⟩),.cells (act.eval x).cells t,w.drawn,?_,Vk (hl (hx hs)),fun w' bC _ _ hm=>?_⟩
  ·simp [execOp,ho,Instr.box,newVar,newRow]
  ·rw [← hm];exact .bp N 0 (.inr (by simp))
def z_ (P:Program) (t:TypeId):Option (List AV):=
 match P.info? t with
 | some i=>match i.zero with
  | some z=>some (z.cells.toList.map Wq)
  | none=>none
 | none=>none
theorem EM {t:TypeId} {l:List AV} (h:z_ P t=some l):∃ z,(∀ w,(zeroValue t).run P w=.ok z w)∧l=z.cells.toList.map Wq:=by
 unfold z_ at h;split at h
 ·rename_i i hi;split at h
  ·rename_i z hz;exact ⟨z,fun w=>Rs hi hz,by simpa using h.symm⟩
  ·cases h
 ·cases h
theorem Ts {o:Oper} {s:fT} {t:TypeId} {l:List AV} {N:Nat} (ho:o.op=.alloc t) (hz:z_ P t=some l):dr P o s ⟨.bp N 0,[(N,some (.box l))],[N]⟩:=
 rh fun {w F O μ K ft act} hs=>by
  obtain ⟨z,hr,rfl⟩:=EM hz;refine ⟨.pointer (some ⟨w.heap.size,0,none⟩),.cells z.cells t,w.drawn,?_,Vk (Fp _),fun w' bC _ _ hm=>?_⟩
  ·simp [execOp,ho,Instr.alloc,newVar,newRow,hr]
  ·rw [← hm];exact .bp N 0 (.inr (by simp))
def zk {α:Type}:List α→Nat→List α→List α
 | l,_,[]=>l
 | l,o,x::r=>zk (l.set o x) (o+1) r
def s_:Array Value→Nat→List Value→Array Value
 | l,_,[]=>l
 | l,o,x::r=>s_ (l.setIfInBounds o x) (o+1) r
theorem v9 {α:Type} (l:List α) (o:Nat) (r:List α):(zk l o r).length=l.length:=by
 induction r generalizing l o with
 | nil=>rfl
 | cons x r ih=>simp [zk,ih]
theorem jb (l:Array Value) (o:Nat) (r:List Value):(s_ l o r).size=l.size:=by
 induction r generalizing l o with
 | nil=>rfl
 | cons x r ih=>simp [s_,ih]
theorem uN (l:Array Value) (o:Nat) (r:List Value) (h:o+r.length≤l.size) (j:Nat):
  (s_ l o r).getD j undef=if o≤j∧j < o+r.length then r.getD (j-o) undef else l.getD j undef:=by
 induction r generalizing l o with
 | nil=>simp [s_];intro h1 h2;omega
 | cons x r ih=>
  simp only [List.length_cons] at h;rw [s_,ih _ _ (by simp;omega)];by_cases h1:j=o
  ·subst h1;have:j < l.size:=by omega
   simp [this];omega
  ·by_cases h2:o+1≤j∧j < o+1+r.length
   ·rw [if_pos h2,if_pos (by simp;omega)];rw [show j-o=(j-(o+1))+1 by omega];simp
   ·rw [if_neg h2,if_neg (by simp;omega)];simp [Array.getElem?_setIfInBounds_ne (Ne.symm h1)]
theorem Qc {α:Type} (l:List α) (o:Nat) (r:List α) (d:α) (h:o+r.length≤l.length) (j:Nat):
  (zk l o r).getD j d=if o≤j∧j < o+r.length then r.getD (j-o) d else l.getD j d:=by
 induction r generalizing l o with
 | nil=>simp [zk];intro h1 h2;omega
 | cons x r ih=>
  simp only [List.length_cons] at h;rw [zk,ih _ _ (by simp;omega)];by_cases h1:j=o
  ·subst h1;have:j < l.length:=by omega
   simp [this,List.getD];omega
  ·by_cases h2:o+1≤j∧j < o+1+r.length
   ·rw [if_pos h2,if_pos (by simp;omega)];rw [show j-o=(j-(o+1))+1 by omega];simp
   ·rw [if_neg h2,if_neg (by simp;omega)];simp [List.getD,List.getElem?_set_ne (Ne.symm h1)]
theorem IJ {b:Nat} {cs:Array Value} {t:TypeId} (h:w.heap[b]?=some (.cells cs t (0,0))) (o:Nat) (v:Value):
  w.setCell ⟨b,o,none⟩ v=jQ w b (.cells (cs.setIfInBounds o v) t (0,0)):=by
 unfold World.setCell jQ;have dQ:b < w.heap.size:=(Array.getElem?_eq_some_iff.1 h).1;have hv:w.heap[b]=.cells cs t (0,0):=(Array.getElem?_eq_some_iff.1 h).2
 congr 1
 refine Array.ext_getElem? fun i=>?_;rw [Array.getElem?_modify];by_cases e:b=i
 ·subst e;simp [dQ,hv]
 ·simp [e,Array.getElem?_setIfInBounds_ne e]
theorem tb {b o:Nat} {t:TypeId}:∀ (vs:List Value) (i:Nat) (w:World) (cs:Array Value),w.heap[b]?=some (.cells cs t (0,0))→(∀ v,v∈vs→v.oneCell'=true)→o+i+vs.length≤cs.size→
  (storeCells ⟨b,o,none⟩ vs i).run P w=.ok () (jQ w b (.cells (s_ cs (o+i) vs) t (0,0)))
 | [],i,w,cs,hc,_,_=>by
  simp only [storeCells,Sem.run_pure,s_];rw [abP hc]
 | v::vs,i,w,cs,hc,h1,hs=>by
  simp only [List.length_cons] at hs;have dQ:b < w.heap.size:=(Array.getElem?_eq_some_iff.1 hc).1;have ho:o+i < cs.size:=by omega
  have h2:(store ((⟨b,o,none⟩:Addr).add i) v).run P w=.ok () (jQ w b (.cells (cs.setIfInBounds (o+i) v) t (0,0))):=by
   rw [wy,run_store P w _ v .plain (h1 v (by simp)),IJ hc];have:w.cell? ⟨b,o+i,none⟩=some (cs[o+i]):=by simp [World.cell?,hc,ho]
   rw [this];simp [World.frozen?,hc]
  simp only [storeCells,Sem.run_bind,h2,Result.andThen_ok];rw [tb vs (i+1) _ (cs.setIfInBounds (o+i) v) (xK dQ _) (fun u hu=>h1 u (by simp [hu])) (by simp;omega),Kt];rfl
theorem EN {t:TypeId} {ti:TypeInfo} (hi:P.info? t=some ti) {b o:Nat} {et:TypeId} {cs:Array Value} (hc:w.heap[b]?=some (.cells cs et (0,0))) {v:Value} (fV:v.cells.size=ti.size)
  (h1:∀ u,u∈v.cells.toList→u.oneCell'=true) (hs:o+v.cells.size≤cs.size):(Instr.storeAt t (.pointer (some ⟨b,o,none⟩)) v).run P w=.ok () (jQ w b (.cells (s_ cs o v.cells.toList) et (0,0))):=by
 simp only [Instr.storeAt,Instr.sureAddr,Sem.run_bind,Sem.run_pure,Result.andThen_ok,storeVar,gD hi,fV,ne_eq,not_true_eq_false,if_false];have:=tb (P:=P) (b:=b) (o:=o) (t:=et) v.cells.toList 0 w cs hc h1 (by simpa using hs);simpa using this
theorem v_ {cs cs':Array Value} {t:TypeId} (h:cs'.size=cs.size):sameShape (.cells cs t (0,0)) (.cells cs' t (0,0)):=⟨rfl,h.symm⟩
theorem Rw {o:Oper} {s:fT} {x y:Operand} {t:TypeId} {ti:TypeInfo} {a:AV} {l l0:List AV} {id off:Nat} (ho:o.op=.store t x y) (hi:P.info? t=some ti) (hx:ee s x (.bp id off)) (hy:ee s y a) (hl:Cu a l)
  (h1:∀ b,b∈l→One b) (fV:l.length=ti.size) (hb:s.H id=some (.box l0)) (hle:off+l.length≤l0.length):dr P o s ⟨.lit undef,[(id,some (.box (zk l0 off l)))],[]⟩:=by
 intro w F O μ K ft act hs _ Kn Q hk;have hly:=hl (hy hs);obtain ⟨ob,p_,cs,et,rfl,hS,DI,hB⟩:=hs.hr.dC id _ hb rfl;have hv:=hx hs;generalize EO:act.eval x=v at hv;cases hv with
 | bp _ _ bY=>
  have hlen:(act.eval y).cells.toList.length=l.length:=hly.1.symm;have h3:off+(act.eval y).cells.toList.length≤cs.size:=by omega
  have lH:(execOp act.eval o).run P w=.ok .skip (jQ w (μ id) (.cells (s_ cs off (act.eval y).cells.toList) et (0,0))):=by
   have:=EN (P:=P) hi p_ (v:=act.eval y) (by rw [← Array.length_toList,hlen];exact fV) (hly.one h1) (o:=off) (by simpa using h3);simp [execOp,ho,EO,this]
  have NC:ik w F μ K (fun x=>x=μ id) (μ id) (.cells (s_ cs off (act.eval y).cells.toList) et (0,0)) (.box (zk l0 off l)):=by
   refine ⟨_,et,rfl,fun _=>Iff.rfl,by rw [v9,jb];exact DI,fun j hj=>?_⟩;rw [v9] at hj;rw [Qc _ _ _ _ hle,uN _ _ _ h3,hlen];split
   ·exact hly.2 _ (by omega)
   ·exact hB j hj
  have gQ:s.H.live id:=⟨_,hb,rfl⟩;obtain ⟨O',bZ,k1,k2⟩:=mq (L:=[]) hs.hr hb rfl p_ (v_ (jb _ _ _)) (by simp) (fun y (hy:y=μ id)=>⟨id,.inl rfl,gQ,hy▸hs.hr.self id gQ⟩) rfl NC;unfold Oper.wp;rw [lH,Oper.upon_skip];exact hk undef _ F O' μ bZ (.lit _) (by rw [jE];exact k1) k2
theorem X4 {b:Nat} {bA m i j:Nat} {e e':Nat→Nat→AV} {l:List AV} {cs:Array Value} {vs:List Value} {S:Nat→Nat→Nat→Prop} {T:Nat→Prop} (hB:Nw b cs bA m S T fun T i j v=>jP w F μ T (e i j) v)
  (hl:iL w F μ Dc l vs) (h1:∀ u,u∈vs→u.oneCell'=true) (hi:i < m) (hj:j+l.length≤bA)
  (Rx:∀ k,k < l.length→il (l.getD k .top) (e' i (j+k))) (L1:∀ i' j',i' < m→j' < bA→¬ (i'=i∧j≤j'∧j' < j+l.length)→e' i' j'=e i' j'):
  i*bA+j+vs.length≤cs.size∧∃ S' T',(∀ x,T' x→T x)∧T' b∧Nw b (s_ cs (i*bA+j) vs) bA m S' T' fun T i j v=>jP w F μ T (e' i j) v:=by
 have h2:(i+1)*bA≤m*bA:=Nat.mul_le_mul_right _ hi;rw [Nat.add_mul,Nat.one_mul] at h2;have hlen:vs.length=l.length:=hl.1.symm;have fV:=hB.size;have h3:i*bA+j+vs.length≤cs.size:=by omega
 let hit:Nat→Nat→Prop:=fun i' j'=>i'=i∧j≤j'∧j' < j+l.length
 let S':Nat→Nat→Nat→Prop:=fun i' j' x=>¬ hit i' j'∧S i' j' x
 refine ⟨h3,S',fun x=>x=b∨∃ i' j',i' < m∧j' < bA∧S' i' j' x,?_,.inl rfl,?_⟩
 ·rintro x (h | ⟨i',j',k1,k2,_,k3⟩)
  ·exact (hB.all x).2 (.inl h)
  ·exact (hB.all x).2 (.inr ⟨i',j',k1,k2,k3⟩)
 ·refine { size:=by rw [jb];exact fV,cell:=fun i' j' di mR=>?_,dj:=fun i1 j1 i2 j2 a1 a2 a3 a4 x hx lN=>hB.dj i1 j1 i2 j2 a1 a2 a3 a4 x hx.2 lN.2,nb:=fun i' j' di mR hx=>hB.nb i' j' di mR hx.2,all:=fun _=>Iff.rfl };rw [uN _ _ _ h3];by_cases e1:i'=i
  ·subst e1;by_cases e2:j≤j'∧j' < j+l.length
   ·rw [if_pos (by omega),show i'*bA+j'-(i'*bA+j)=j'-j by omega];have hk:j'-j < l.length:=by omega
    have Gn:j'-j < vs.length:=by omega
    refine ⟨.IY _ _ _ ?_ fun x hx=>hx.1 ⟨rfl,e2⟩,?_⟩
    ·have:=Rx (j'-j) hk (hl.2 _ hk);rwa [show j+(j'-j)=j' by omega] at this
    ·simpa [List.getD,Gn] using h1 _ (List.getElem_mem Gn)
   ·rw [if_neg (by omega)];have hh:¬ hit i' j':=fun h=>e2 h.2;rw [L1 i' j' di mR hh];have:=hB.cell i' j' di mR;have eS:S' i' j'=S i' j':=by
     funext x;simp only [S',eq_iff_iff];exact ⟨fun h=>h.2,fun h=>⟨hh,h⟩⟩
    rw [eS];exact this
  ·have hh:¬ hit i' j':=fun h=>e1 h.1;rw [if_neg ?_]
   ·rw [L1 i' j' di mR hh];have:=hB.cell i' j' di mR;have eS:S' i' j'=S i' j':=by
     funext x;simp only [S',eq_iff_iff];exact ⟨fun h=>h.2,fun h=>⟨hh,h⟩⟩
    rw [eS];exact this
   ·rcases Nat.lt_or_gt_of_ne e1 with h | h
    ·have h4:(i'+1)*bA≤i*bA:=Nat.mul_le_mul_right _ h;rw [Nat.add_mul,Nat.one_mul] at h4;omega
    ·have h4:(i+1)*bA≤i'*bA:=Nat.mul_le_mul_right _ h;rw [Nat.add_mul,Nat.one_mul] at h4;omega
theorem Ry {o:Oper} {s:fT} {x y:Operand} {t:TypeId} {ti:TypeInfo} {a:AV} {l:List AV} {id bA i j m:Nat} {v:Bool} {e e':Nat→Nat→AV} (ho:o.op=.store t x y) (hi:P.info? t=some ti) (hx:ee s x (.rp id bA i j)) (hy:ee s y a) (hl:Cu a l)
  (h1:∀ b,b∈l→One b) (OU:∀ b,b∈l→Qb b) (fV:l.length=ti.size) (hb:s.H id=some (.row v bA m e)) (him:i < m) (hle:j+l.length≤bA)
  (Rx:∀ k,k < l.length→il (l.getD k .top) (e' i (j+k))) (L1:∀ i' j',i' < m→j' < bA→¬ (i'=i∧j≤j'∧j' < j+l.length)→e' i' j'=e i' j'):
  dr P o s ⟨.lit undef,[(id,some (.row v bA m e'))],[]⟩:=by
 intro w F O μ K ft act hs _ Kn Q hk;have hly:=hl (hy hs);have ND:(jV.row v bA m e).fc=true:=by cases v<;>simp [jV.fc];omega
 obtain ⟨ob,p_,cs,et,S,rfl,hB⟩:=hs.hr.dC id _ hb ND;have hv:=hx hs;generalize EO:act.eval x=u at hv;cases hv with
 | rp _ _ _ _ bY=>
  obtain ⟨k1,S',T',k2,k3,k4⟩:=X4 (e':=e') hB (hly.IY OU) (hly.one h1) him hle Rx L1;have hlen:(act.eval y).cells.toList.length=l.length:=hly.1.symm;have lH:(execOp act.eval o).run P w=.ok .skip (jQ w (μ id) (.cells (s_ cs (i*bA+j) (act.eval y).cells.toList) et (0,0))):=by
   have:=EN (P:=P) hi p_ (v:=act.eval y) (by rw [← Array.length_toList,hlen];exact fV) (hly.one h1) (o:=i*bA+j) (by simpa using k1);simp [execOp,ho,EO,this]
  have gQ:s.H.live id:=⟨_,hb,ND⟩;obtain ⟨O',bZ,q1,q2⟩:=mq (L:=[]) (b':=.row v bA m e') hs.hr hb ND p_ (v_ (jb _ _ _)) (by simp) (fun x hx=>⟨id,.inl rfl,gQ,k2 x hx⟩) k3 ⟨_,et,S',rfl,k4⟩;unfold Oper.wp;rw [lH,Oper.upon_skip];exact hk undef _ F O' μ bZ (.lit _) (by rw [jE];exact q1) q2
theorem vg {n:Int} (h0:-9223372036854775808≤n) (h1:n≤9223372036854775807):IntKind.i64.wrap n=n:=by
 simp only [IntKind.wrap,IntKind.bits,IntKind.signed,Bool.true_and];split<;>rename_i h<;>simp at h<;>omega
theorem I7 {i j s:Nat} (hj:j < s):(i*s+j) % s=j:=by
 rw [Nat.add_comm,Nat.add_mul_mod_self_right,Nat.mod_eq_of_lt hj]
theorem Rz {b bA n:Nat} {v:Bool} {e:Nat→Nat→AV} {cs:Array Value} {t:TypeId} (fV:n*bA≤cs.size)
  (h:∀ i j,i < n→j < bA→VR w F μ Dc (e i j) (cs.getD (i*bA+j) undef)∧(cs.getD (i*bA+j) undef).oneCell'=true):ik w F μ K (fun x=>x=b) b (.cells cs t) (.row v bA n e):=
 ⟨cs,t,fun _ _ _=>False,rfl,{ size:=fV,cell:=fun i j hi hj=>⟨.IY _ _ _ (h i j hi hj).1 fun _ h=>h,(h i j hi hj).2⟩,dj:=fun _ _ _ _ _ _ _ _ _ h=>h.elim,nb:=fun _ _ _ _ h=>h,all:=fun x=>⟨.inl,fun h=>h.elim (fun h=>h) fun ⟨_,_,_,_,h⟩=>h.elim⟩ }⟩
theorem RA {o:Oper} {s:fT} {x y:Operand} {t et:TypeId} {ti:TypeInfo} {l c:Int} {zs:List AV} {N:Nat} {e:Nat→Nat→AV} (nl:Bool) (hnl:nl=true→l=c) (ho:o.op=.makeSlice t x y) (hx:ee s x (.int .i64 l)) (hy:ee s y (.int .i64 c))
  (ht:P.underlying t=some (.slice et)) (hi:P.info? et=some ti) (hz:z_ P et=some zs) (hl:zs.length=ti.size) (aec:∀ a,a∈zs→Qb a) (NF:∀ a,a∈zs→One a)
  (h0:0≤l) (h1:l≤c) (h2:c*(ti.bytes:Int)≤140737488355328) (h3:c≤140737488355328) (he:∀ i j,i < l.toNat→j < ti.size→il (zs.getD j .top) (e i j)):
  dr P o s ⟨du nl N l.toNat ti.size,[(N,some (.row nl ti.size l.toNat e))],[N]⟩:=
 rh fun {w F O μ K ft act} gh=>by
  have hvx:=(hx gh).de;have hvy:=(hy gh).de;obtain ⟨z,X5,rfl⟩:=EM hz;have hzs:z.cells.size=ti.size:=by simpa using hl
  have wl:IntKind.i64.wrap l=l:=vg (by omega) (by omega);have wc:IntKind.i64.wrap c=c:=vg (by omega) (by omega);have hb:(ti.bytes:Int)*c≤281474976710656:=by rw [Int.mul_comm];omega
  have hc0:0≤c:=by omega
  have afi:((Array.range (c.toNat*z.cells.size)).map (z.cells[· % z.cells.size]!)).size=c.toNat*ti.size:=by simp [hzs]
  refine ⟨.slice (some ⟨w.heap.size,0,none⟩) l.toNat c.toNat,.cells ((Array.range (c.toNat*z.cells.size)).map (z.cells[· % z.cells.size]!)) et,w.drawn,?_,?_,fun w' bC _ rR hm=>?_⟩
  ·have e1:((decide (c < 0)||decide ((ti.bytes:Int)*c > 2 ^ 48))||decide (l < 0)||decide (l > c))=false:=by
    have:¬ (ti.bytes:Int)*c > 2 ^ 48:=by simp only [Int.reducePow];omega
    simp only [this];simp;omega
   have e0:((decide (c < 0)||decide ((2:Int) ^ 48 < (ti.bytes:Int)*c))||decide (l < 0)||decide (c < l))=false:=e1;simp only [execOp,ho,hvx,hvy,Sem.run_bind,Instr.makeSlice,cb ht,Result.andThen_ok,asInt,asIntOf,Sem.run_pure,Me hi,wl,wc,gt_iff_lt,e0,Bool.false_eq_true,if_false,run_askRoom,gD hi];rw [← hzs];by_cases h:c.toNat*z.cells.size=0
   ·rw [if_pos h,h];have e:∀ f:Nat→Value,(Array.range 0).map f=#[]:=fun f=>by simp
    simp only [Sem.run_bind,Sem.run_pure,Result.andThen_ok,newRow,run_newObj,World.alloc_eq,e]
   ·rw [if_neg h];simp only [Sem.run_bind,Sem.run_pure,Result.andThen_ok,X5,newRow,run_newObj,World.alloc_eq]
  ·refine Rz (by rw [afi];exact Nat.mul_le_mul_right _ (by omega)) fun i j hi hj=>?_;have k1:=(iL.IY (Fp (w:=w) (F:=F) (μ:=μ) (K:=K) z.cells.toList) aec).2 j (by simpa [hzs] using hj);have k2:(i+1)*ti.size≤c.toNat*ti.size:=Nat.mul_le_mul_right _ (by omega);rw [Nat.add_mul,Nat.one_mul] at k2;have k3:i*z.cells.size+j < c.toNat*z.cells.size:=by rw [hzs];omega
   have mR:j < z.cells.size:=by omega
   have k4:((Array.range (c.toNat*z.cells.size)).map (z.cells[· % z.cells.size]!)).getD (i*ti.size+j) undef=z.cells.toList.getD j undef:=by
    rw [← hzs];simp [k3,I7 mR,List.getD,mR]
   rw [k4];exact ⟨he i j hi hj k1,iL.one (Fp (w:=w) (F:=F) (μ:=μ) (K:=K) z.cells.toList) NF (z.cells.toList.getD j undef) (by simp [List.getD,mR])⟩
  ·rw [← hm];have abT:w'.shape? (bC N)=some (et,c.toNat*ti.size):=by
    unfold World.shape?;rw [hm,rR];simp only [afi]
   cases nl with
   | false=>
    have:=VR.ms (w:=w') (F:=F) (μ:=bC) (K:=plus K [N]) N 0 l.toNat ti.size c.toNat (c.toNat*ti.size) et (.inr (by simp)) (by omega) abT (by simp);simpa [du] using this
   | true=>
    have e:=hnl rfl;subst e;by_cases h:l.toNat=0
    ·rw [h];exact .s9 _ _ _
    ·exact .vs (w:=w') (F:=F) (μ:=bC) (K:=plus K [N]) N l.toNat ti.size l.toNat (l.toNat*ti.size) et h (.inr (by simp)) (Nat.le_refl _) abT (Nat.le_refl _)
def oA {α:Type} (place:Nat→Option (Nat×Nat)):List α→List (Nat×List α)→Option (List α)
 | cs,[]=>some cs
 | cs,(i,l)::r=>match place i with
  | none=>none
  | some (off,size)=>if Nat.beq l.length size&&(off+size).ble cs.length then oA place (zk cs off l) r else none
theorem X6 (l:List Value):∀ (k off:Nat) (cs:Array Value),off+k+l.length≤cs.size→(l.zipIdx k).foldl (fun cs (x:Value×Nat)=>cs.setIfInBounds (off+x.2) x.1) cs=s_ cs (off+k) l:=by
 induction l with
 | nil=>intro k off cs _;rfl
 | cons x l ih=>
  intro k off cs h;simp only [List.length_cons] at h;simp only [List.zipIdx_cons,List.foldl_cons,s_];rw [ih (k+1) off _ (by simp;omega)];rfl
inductive EP (s:fT):List (Nat×Operand)→List (Nat×List AV)→Prop
 | nil:EP s [] []
 | cons {i:Nat} {x:Operand} {a:AV} {l:List AV} {r:List (Nat×Operand)} {q:List (Nat×List AV)} (hx:ee s x a) (hl:Cu a l) (h:EP s r q):EP s ((i,x)::r) ((i,l)::q)
theorem I8 {s:fT} {a:Act} (hs:SR w F O μ K s ft a) {place:Nat→Option (Nat×Nat)}:∀ {ps:List (Nat×Operand)} {q:List (Nat×List AV)} {cs:List AV} {us:Array Value} {r:List AV},EP s ps q→oA place cs q=some r→
  iL w F μ K cs us.toList→∃ us',Instr.fill place us (ps.map fun p=>(p.1,a.eval p.2))=some us'∧iL w F μ K r us'.toList
 | [],_,cs,us,r,.nil,h,hu=>by
  simp only [oA,Option.some.injEq] at h;subst h;exact ⟨us,rfl,hu⟩
 | (i,x)::ps,_,cs,us,r,.cons (l:=l) (q:=q) hx OU hq,h,hu=>by
  simp only [oA] at h;split at h
  ·cases h
  ·rename_i off size hp;split at h
   ·rename_i hb;simp only [Bool.and_eq_true] at hb;have h1:=Nat.eq_of_beq_eq_true hb.1;have h2:=Nat.le_of_ble_eq_true hb.2;have hl:iL w F μ K l (a.eval x).cells.toList:=OU (hx hs);have hlen:l.length=(a.eval x).cells.size:=by have:=hl.1;simpa using this
    have DI:cs.length=us.size:=by have:=hu.1;simpa using this
    have h3:off+(a.eval x).cells.size≤us.size:=by omega
    have UU:iL w F μ K (zk cs off l) (s_ us off (a.eval x).cells.toList).toList:=by
     refine ⟨by rw [v9,DI];simp [jb],fun j hj=>?_⟩;rw [v9] at hj;rw [jG,Qc _ _ _ _ (by omega),uN _ _ _ (by simpa using h3)];have e:(a.eval x).cells.toList.length=l.length:=hl.1.symm;rw [e];split
     ·exact hl.2 _ (by omega)
     ·rw [← jG];exact hu.2 j hj
    obtain ⟨us',k1,k2⟩:=I8 hs hq h UU;refine ⟨us',?_,k2⟩;have afj:(a.eval x).cells.zipIdx.foldl (fun cs (x:Value×Nat)=>cs.setIfInBounds (off+x.2) x.1) us=s_ us off (a.eval x).cells.toList:=by
     have:=X6 (a.eval x).cells.toList 0 off us (by simpa using h3);rw [← Array.foldl_toList];simpa using this
    simp only [List.map_cons,Instr.fill,hp];have c2:¬ (us.size < off+(a.eval x).cells.size):=by omega
    rw [if_neg (by simp [c2];omega)];have:((a.eval x).cells.zipIdx.foldl (fun cs x=>match x with | (c,j)=>cs.setIfInBounds (off+j) c) us)=s_ us off (a.eval x).cells.toList:=afj;rw [this];exact k1
   ·cases h
def I9 (P:Program) (fs:List Field):Option (List (Nat×Nat)):=
 match fs with
 | []=>some []
 | f::r=>match P.info? f.type,I9 P r with
  | some i,some q=>some ((f.offset,i.size)::q)
  | _,_=>none
def RB (f:Field):Sem (Nat×Nat):=do pure (f.offset,← sizeOf f.type)
theorem NG (w:World):∀ {fs:List Field} {q:List (Nat×Nat)},I9 P fs=some q→(fs.mapM RB).run P w=.ok q w
 | [],q,h=>by cases h;simp
 | f::r,q,h=>by
  simp only [I9] at h;split at h
  ·rename_i i q' hi hq;cases h;have:=NG w hq;simp only [List.mapM_cons,RB,Sem.run_bind,gD hi,Result.andThen_ok,Sem.run_pure];rw [this];rfl
  ·cases h
theorem aao {o:Oper} {s:fT} {t:TypeId} {fs:Array Field} {ps:List (Nat×Operand)} {q:List (Nat×List AV)} {pl:List (Nat×Nat)} {zs r:List AV} (ho:o.op=.build t ⟨ps⟩) (ht:P.underlying t=some (.struct fs))
  (hz:z_ P t=some zs) (hp:I9 P fs.toList=some pl) (hq:EP s ps q) (hr:oA (pl[·]?) zs q=some r):dr P o s ⟨.agg r,[],[]⟩:=
 b6 fun {w F O μ K ft a} hs=>by
  obtain ⟨z,X5,rfl⟩:=EM hz;obtain ⟨us,k1,k2⟩:=I8 hs hq hr (Fp z.cells.toList);have hm:(fs.mapM RB).run P w=.ok ⟨pl⟩ w:=by
   rw [Array.mapM_eq_mapM_toList];simp only [Sem.run_map];rw [NG w hp];rfl
  have YV:Instr.fill (fun x=>(⟨pl⟩:Array (Nat×Nat))[x]?) z.cells ((⟨ps⟩:Array (Nat×Operand)).map fun (i,x)=>(i,a.eval x)).toList=some us:=by
   simpa using k1
  refine ⟨.agg us,?_,.rP k2⟩;simp only [execOp,ho,Instr.build,Sem.run_bind,X5,Result.andThen_ok,cb ht];have e:(fs.mapM fun f=>(do pure (f.offset,← sizeOf f.type):Sem (Nat×Nat))).run P w=.ok ⟨pl⟩ w:=hm;rw [e];simp only [Result.andThen_ok];rw [YV];simp
theorem NH (off:Nat):∀ (l:List (Value×Nat)) (c:Array Value),(l.foldl (fun cs x=>cs.setIfInBounds (off+x.2) x.1) c).size=c.size
 | [],_=>rfl
 | x::l,c=>by simp only [List.foldl_cons];rw [NH off l];simp
theorem Qd {place:Nat→Option (Nat×Nat)}:∀ {vs:List (Nat×Value)} {c c':Array Value},Instr.fill place c vs=some c'→c'.size=c.size
 | [],c,c',h=>by cases h;rfl
 | (i,v)::vs,c,c',h=>by
  simp only [Instr.fill] at h;split at h
  ·cases h
  ·split at h
   ·cases h
   ·rw [Qd h,← Array.foldl_toList];exact NH _ _ _
theorem L2 {α:Type} {z:List α} (Tt:0 < z.length):∀ (m k:Nat),k < m*z.length→((List.range m).flatMap fun _=>z)[k]?=z[k % z.length]?:=by
 intro m
 induction m with
 | zero=>intro k hk;omega
 | succ m ih=>
  intro k hk;rw [List.range_succ_eq_map,List.flatMap_cons,List.flatMap_map];by_cases h:k < z.length
  ·rw [List.getElem?_append_left h,Nat.mod_eq_of_lt h]
  ·rw [List.getElem?_append_right (Nat.le_of_not_lt h)];have h3:k-z.length < m*z.length:=by rw [Nat.add_mul,Nat.one_mul] at hk;omega
   have:=ih (k-z.length) h3;rw [this,← Nat.mod_eq_sub_mod (by omega)]
theorem td {s:fT} {a:Act} {o:Oper} {t et:TypeId} {ti:TypeInfo} {n:Nat} {ps:List (Nat×Operand)} {q:List (Nat×List AV)} {zs r:List AV} (hs:SR w F O μ K s ft a) (ho:o.op=.buildSlice t n ⟨ps⟩) (ht:P.underlying t=some (.slice et))
  (hi:P.info? et=some ti) (hz:z_ P et=some zs) (hl:zs.length=ti.size) (Ht:ti.size≠0) (hn:n*ti.size≤16777216) (hq:EP s ps q)
  (hr:oA (fun i=>some (i*ti.size,ti.size)) ((List.range n).flatMap fun _=>zs) q=some r):
  ∃ us:Array Value,us.size=n*ti.size∧iL w F μ K r us.toList∧(execOp a.eval o).run P w=.ok (.value (.slice (some ⟨w.heap.size,0,none⟩) n n)) (w.alloc (.cells us et)):=by
 obtain ⟨z,X5,rfl⟩:=EM hz;have hzs:z.cells.size=ti.size:=by simpa using hl
 have hz0:iL w F μ K ((List.range n).flatMap fun _=>z.cells.toList.map Wq) ((Array.range (n*ti.size)).map (z.cells[· % z.cells.size]!)).toList:=by
  have e:((Array.range (n*ti.size)).map (z.cells[· % z.cells.size]!)).toList=(List.range n).flatMap fun _=>z.cells.toList:=by
   refine List.ext_getElem ?_ fun k k1 k2=>?_
   ·simp [List.length_flatMap,hzs,List.map_const',List.sum_replicate_nat]
   ·have hk:k < n*z.cells.size:=by simpa [hzs] using k1
    have Tt:0 < z.cells.size:=by omega
    have h4:=L2 (z:=z.cells.toList) (by simpa using Tt) n k (by simpa using hk);have h5:k % z.cells.size < z.cells.size:=Nat.mod_lt _ Tt;have h6:((List.range n).flatMap fun _=>z.cells.toList)[k]=z.cells[k % z.cells.size]:=by
     have:=List.getElem?_eq_getElem k2;rw [h4] at this;simpa [h5] using this.symm
    rw [h6];simp [h5]
  rw [e];have:(List.range n).flatMap (fun _=>z.cells.toList.map Wq)=((List.range n).flatMap fun _=>z.cells.toList).map Wq:=by rw [List.map_flatMap]
  rw [this];exact Fp _
 obtain ⟨us,k1,k2⟩:=I8 hs hq hr hz0;have RC:us.size=n*ti.size:=by
  rw [Qd k1];simp
 refine ⟨us,RC,k2,?_⟩;have hle:¬ n*ti.size > 2 ^ 24:=by simp only [Nat.reducePow];omega
 have YV:Instr.fill (fun i=>some (i*ti.size,ti.size)) ((Array.range (n*ti.size)).map (z.cells[· % z.cells.size]!)) ((⟨ps⟩:Array (Nat×Operand)).map fun (i,x)=>(i,a.eval x)).toList=some us:=by
  simpa using k1
 simp only [execOp,ho,Instr.buildSlice,Sem.run_bind,cb ht,Result.andThen_ok,gD hi,if_neg hle];by_cases h:n*ti.size=0
 ·have e:∀ f g:Nat→Value,(Array.range 0).map f=(Array.range 0).map g:=fun f g=>by simp
  rw [h] at YV;rw [if_pos h,h];simp only [Sem.run_bind,Sem.run_pure,Result.andThen_ok];rw [e _ (z.cells[· % z.cells.size]!),YV];simp [newRow]
 ·rw [if_neg h];simp only [Sem.run_bind,Sem.run_pure,Result.andThen_ok,X5];rw [YV];simp [newRow]
theorem Vl {N n bA:Nat} {et:TypeId} {us:Array Value} (RC:us.size=n*bA) (rR:w'.heap[w.heap.size]?=some (.cells us et)) (hm:bC N=w.heap.size):VR w' F bC (plus K [N]) (.ms N 0 n bA) (.slice (some ⟨w.heap.size,0,none⟩) n n):=by
 rw [← hm];have abT:w'.shape? (bC N)=some (et,n*bA):=by
  unfold World.shape?;rw [hm,rR];simp only [RC]
 have:=VR.ms (w:=w') (F:=F) (μ:=bC) (K:=plus K [N]) N 0 n bA n (n*bA) et (.inr (by simp)) (Nat.le_refl _) abT (by simp);simpa using this
theorem Pq {o:Oper} {s:fT} {t et:TypeId} {ti:TypeInfo} {n:Nat} {ps:List (Nat×Operand)} {q:List (Nat×List AV)} {zs r:List AV} {N:Nat} {e:Nat→Nat→AV} (ho:o.op=.buildSlice t n ⟨ps⟩) (ht:P.underlying t=some (.slice et))
  (hi:P.info? et=some ti) (hz:z_ P et=some zs) (hl:zs.length=ti.size) (Ht:ti.size≠0) (hn:n*ti.size≤16777216) (hq:EP s ps q)
  (hr:oA (fun i=>some (i*ti.size,ti.size)) ((List.range n).flatMap fun _=>zs) q=some r) (aec:∀ a,a∈r→Qb a) (NF:∀ a,a∈r→One a) (he:∀ i j,i < n→j < ti.size→il (r.getD (i*ti.size+j) .top) (e i j)):
  dr P o s ⟨.ms N 0 n ti.size,[(N,some (.row false ti.size n e))],[N]⟩:=
 rh fun {w F O μ K ft a} hs=>by
  obtain ⟨us,RC,k2,lH⟩:=td hs ho ht hi hz hl Ht hn hq hr;refine ⟨_,.cells us et,w.drawn,lH,?_,fun w' bC _ rR hm=>Vl RC rR hm⟩;have k3:=k2.IY aec;have hrl:r.length=n*ti.size:=by have:=k2.1;simpa [RC] using this
  refine Rz (by rw [RC];exact Nat.le_refl _) fun i j hi hj=>?_;have h4:(i+1)*ti.size≤n*ti.size:=Nat.mul_le_mul_right _ hi;rw [Nat.add_mul,Nat.one_mul] at h4;rw [← jG];have hk:i*ti.size+j < us.toList.length:=by rw [← k3.1];omega
  exact ⟨he i j hi hj (k3.2 _ (by omega)),k2.one NF _ (by simp only [List.getD];rw [List.getElem?_eq_getElem hk];exact List.getElem_mem hk)⟩
theorem NI {o:Oper} {s:fT} {t et:TypeId} {ti:TypeInfo} {zs:List AV} {N:Nat} {e:Nat→Nat→AV} (ho:o.op=.buildSlice t 0 ⟨[]⟩) (ht:P.underlying t=some (.slice et))
  (hi:P.info? et=some ti) (hz:z_ P et=some zs) (hl:zs.length=ti.size) (Ht:ti.size≠0):dr P o s ⟨du true N 0 ti.size,[(N,some (.row true ti.size 0 e))],[N]⟩:=
 rh fun {w F O μ K ft a} hs=>by
  obtain ⟨us,RC,k2,lH⟩:=td (n:=0) (ps:=[]) (r:=[]) hs ho ht hi hz hl Ht (by omega) .nil (by simp [oA]);exact ⟨_,.cells us et,w.drawn,lH,Rz (by omega) fun i j hi hj=>absurd hi (by omega),fun w' bC _ rR hm=>.s9 _ _ _⟩
theorem I_ {o:Oper} {s:fT} {t et:TypeId} {ti:TypeInfo} {n:Nat} {ps:List (Nat×Operand)} {q:List (Nat×List AV)} {zs r:List AV} {N:Nat} (ho:o.op=.buildSlice t n ⟨ps⟩) (ht:P.underlying t=some (.slice et))
  (hi:P.info? et=some ti) (hz:z_ P et=some zs) (hl:zs.length=ti.size) (Ht:ti.size≠0) (hn:n*ti.size≤16777216) (hq:EP s ps q)
  (hr:oA (fun i=>some (i*ti.size,ti.size)) ((List.range n).flatMap fun _=>zs) q=some r):
  dr P o s ⟨.ms N 0 n ti.size,[(N,some (.box r))],[N]⟩:=
 rh fun {w F O μ K ft a} hs=>by
  obtain ⟨us,RC,k2,lH⟩:=td hs ho ht hi hz hl Ht hn hq hr;exact ⟨_,.cells us et,w.drawn,lH,Vk k2,fun w' bC _ rR hm=>Vl RC rR hm⟩
end Go.Proofs.YtjkbbdldmdajkaaGreatDoor.c_
