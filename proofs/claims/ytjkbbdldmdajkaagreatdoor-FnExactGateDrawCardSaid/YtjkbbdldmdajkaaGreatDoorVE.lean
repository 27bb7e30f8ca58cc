/- Operations that make or write memory: variables, boxes, stores; rows that are made. No condition. -/
import Derived.Test.YtjkbbdldmdajkaaGreatDoorVD
set_option linter.unusedSimpArgs false
set_option linter.unusedVariables false
namespace Go.Proofs.YtjkbbdldmdajkaaGreatDoor.c5
open Go Go.RowKit
variable {w w' ss:World} {F F' zT O O' uo:Nat→Prop} {μ aZ jE:Nat→Nat} {K K' C9:Nat→Prop} {H H' H'':Hp} {ft bX:Nat→Nat→Prop} {P:Program}
def V7:Value→AV
 | .bool b=>.bool b
 | .int k n=>.int k n
 | .string s=>.str s.data.toList
 | .slice none 0 0=>.fb
 | .func f ⟨[]⟩ ⟨[]⟩=>.fn f [] []
 | .agg ⟨[]⟩=>.agg []
 | v=>.lit v
theorem J0 (v:Value):VR w F μ K (V7 v) v:=by
 unfold V7;split
 ·exact .bool _
 ·exact .int _ _
 ·exact .str _
 ·exact .fb
 ·exact .fn _ [] [] [] [] rfl rfl (fun i h=>by cases h) (fun i h=>by cases h)
 ·exact .agg [] [] rfl fun i h=>by cases h
 ·exact .lit _
theorem EI (l:List Value):gZ w F μ K (l.map V7) l:=by
 induction l with
 | nil=>exact .nil
 | cons v l ih=>exact .cons (J0 v) ih
def PI (a:AV):Prop:=∀ {w F μ K v},VR w F μ K a v→VR w F μ Cv a v
def One (a:AV):Prop:=∀ {w F μ K v},VR w F μ K a v→v.oneCell'=true
theorem XF {v:Value} (h:v.oneCell'=true):v.cells=#[v]:=by
 cases v<;>first | rfl | (simp [Value.oneCell'] at h)
def BN (a:AV) (l:List AV):Prop:=∀ {w F μ K v},VR w F μ K a v→gZ w F μ K l v.cells.toList
theorem UP (cs:List AV):BN (.agg cs) cs:=fun h=>by
 obtain ⟨vs,rfl,hv⟩:=h.fH;exact hv
theorem UQ {a:AV} (h:One a):BN a [a]:=fun hv=>by
 rw [XF (h hv)];exact .cons hv .nil
theorem gZ.Ip {l:List AV} {vs:List Value} (h:gZ w F μ K l vs) (hc:∀ a,a∈l→PI a):gZ w F μ Cv l vs:=
 ⟨h.1,fun i hi=>hc _ (by simp [List.getD,hi]) (h.2 i hi)⟩
theorem gZ.one {l:List AV} {vs:List Value} (h:gZ w F μ K l vs) (hc:∀ a,a∈l→One a):∀ u,u∈vs→u.oneCell'=true:=by
 intro u hu;obtain ⟨i,hi,rfl⟩:=List.getElem_of_mem hu;have da:i < l.length:=h.1▸hi;have:=hc (l.getD i .top) (by simp [List.getD,da]) (h.2 i da);simpa [List.getD,hi] using this
theorem jo (cs:Array Value) (i:Nat) (d:Value):cs.toList.getD i d=cs.getD i d:=by
 simp [List.getD]
theorem UR {l:List AV} {cs:Array Value} {t:TypeId} {b:Nat} (h:gZ w F μ K l cs.toList):hP w F μ K (fun x=>x=b) b (.cells cs t) (.box l):=
 ⟨cs,t,rfl,fun _=>Iff.rfl,by have:=h.1;simp at this;omega,fun j hj=>by rw [← jo];exact h.2 j hj⟩
theorem adT {o:Oper} {s:fG} {x:Operand} {t:TypeId} {a:AV} {l:List AV} {N:Nat} (ho:o.op=.box t x) (hx:dT s x a) (hl:BN a l):dg P o s ⟨.bp N 0,[(N,some (.box l))],[N]⟩:=
 qk fun {w F O μ K ft act} hs=>by
  refine ⟨.pointer (some ⟨w.heap.size,0,none⟩),.cells (act.eval x).cells t,w.drawn,?_,UR (hl (hx hs)),fun w' aZ _ _ hm=>?_⟩
  ·simp [execOp,ho,Instr.box,newVar,newRow]
  ·rw [← hm];exact .bp N 0 (.inr (by simp))
def zk (P:Program) (t:TypeId):Option (List AV):=
 match P.info? t with
 | some i=>match i.zero with
  | some z=>some (z.cells.toList.map V7)
  | none=>none
 | none=>none
theorem D9 {t:TypeId} {l:List AV} (h:zk P t=some l):∃ z,(∀ w,(zeroValue t).run P w=.ok z w)∧l=z.cells.toList.map V7:=by
 unfold zk at h;split at h
 ·rename_i i hi;split at h
  ·rename_i z hz;exact ⟨z,fun w=>QV hi hz,by simpa using h.symm⟩
  ·cases h
 ·cases h
theorem SU {o:Oper} {s:fG} {t:TypeId} {l:List AV} {N:Nat} (ho:o.op=.alloc t) (hz:zk P t=some l):dg P o s ⟨.bp N 0,[(N,some (.box l))],[N]⟩:=
 qk fun {w F O μ K ft act} hs=>by
  obtain ⟨z,hr,rfl⟩:=D9 hz;refine ⟨.pointer (some ⟨w.heap.size,0,none⟩),.cells z.cells t,w.drawn,?_,UR (EI _),fun w' aZ _ _ hm=>?_⟩
  ·simp [execOp,ho,Instr.alloc,newVar,newRow,hr]
  ·rw [← hm];exact .bp N 0 (.inr (by simp))
def BO {α:Type}:List α→Nat→List α→List α
 | l,_,[]=>l
 | l,o,x::r=>BO (l.set o x) (o+1) r
def sc:Array Value→Nat→List Value→Array Value
 | l,_,[]=>l
 | l,o,x::r=>sc (l.setIfInBounds o x) (o+1) r
theorem vc {α:Type} (l:List α) (o:Nat) (r:List α):(BO l o r).length=l.length:=by
 induction r generalizing l o with
 | nil=>rfl
 | cons x r ih=>simp [BO,ih]
theorem iJ (l:Array Value) (o:Nat) (r:List Value):(sc l o r).size=l.size:=by
 induction r generalizing l o with
 | nil=>rfl
 | cons x r ih=>simp [sc,ih]
theorem tI (l:Array Value) (o:Nat) (r:List Value) (h:o+r.length≤l.size) (j:Nat):
  (sc l o r).getD j undef=if o≤j∧j < o+r.length then r.getD (j-o) undef else l.getD j undef:=by
 induction r generalizing l o with
 | nil=>simp [sc];intro h1 h2;omega
 | cons x r ih=>
  simp only [List.length_cons] at h;rw [sc,ih _ _ (by simp;omega)];by_cases h1:j=o
  ·subst h1;have:j < l.size:=by omega
   simp [this];omega
  ·by_cases h2:o+1≤j∧j < o+1+r.length
   ·rw [if_pos h2,if_pos (by simp;omega)];rw [show j-o=(j-(o+1))+1 by omega];simp
   ·rw [if_neg h2,if_neg (by simp;omega)];simp [Array.getElem?_setIfInBounds_ne (Ne.symm h1)]
theorem PJ {α:Type} (l:List α) (o:Nat) (r:List α) (d:α) (h:o+r.length≤l.length) (j:Nat):
  (BO l o r).getD j d=if o≤j∧j < o+r.length then r.getD (j-o) d else l.getD j d:=by
 induction r generalizing l o with
 | nil=>simp [BO];intro h1 h2;omega
 | cons x r ih=>
  simp only [List.length_cons] at h;rw [BO,ih _ _ (by simp;omega)];by_cases h1:j=o
  ·subst h1;have:j < l.length:=by omega
   simp [this,List.getD];omega
  ·by_cases h2:o+1≤j∧j < o+1+r.length
   ·rw [if_pos h2,if_pos (by simp;omega)];rw [show j-o=(j-(o+1))+1 by omega];simp
   ·rw [if_neg h2,if_neg (by simp;omega)];simp [List.getD,List.getElem?_set_ne (Ne.symm h1)]
theorem Ia {b:Nat} {cs:Array Value} {t:TypeId} (h:w.heap[b]?=some (.cells cs t (0,0))) (o:Nat) (v:Value):
  w.setCell ⟨b,o,none⟩ v=jA w b (.cells (cs.setIfInBounds o v) t (0,0)):=by
 unfold World.setCell jA;have dY:b < w.heap.size:=(Array.getElem?_eq_some_iff.1 h).1;have hv:w.heap[b]=.cells cs t (0,0):=(Array.getElem?_eq_some_iff.1 h).2
 congr 1
 refine Array.ext_getElem? fun i=>?_;rw [Array.getElem?_modify];by_cases e:b=i
 ·subst e;simp [dY,hv]
 ·simp [e,Array.getElem?_setIfInBounds_ne e]
theorem se {b o:Nat} {t:TypeId}:∀ (vs:List Value) (i:Nat) (w:World) (cs:Array Value),w.heap[b]?=some (.cells cs t (0,0))→(∀ v,v∈vs→v.oneCell'=true)→o+i+vs.length≤cs.size→
  (storeCells ⟨b,o,none⟩ vs i).run P w=.ok () (jA w b (.cells (sc cs (o+i) vs) t (0,0)))
 | [],i,w,cs,hc,_,_=>by
  simp only [storeCells,Sem.run_pure,sc];rw [abk hc]
 | v::vs,i,w,cs,hc,h1,hs=>by
  simp only [List.length_cons] at hs;have dY:b < w.heap.size:=(Array.getElem?_eq_some_iff.1 hc).1;have ho:o+i < cs.size:=by omega
  have h2:(store ((⟨b,o,none⟩:Addr).add i) v).run P w=.ok () (jA w b (.cells (cs.setIfInBounds (o+i) v) t (0,0))):=by
   rw [vo,run_store P w _ v .plain (h1 v (by simp)),Ia hc];have:w.cell? ⟨b,o+i,none⟩=some (cs[o+i]):=by simp [World.cell?,hc,ho]
   rw [this];simp [World.frozen?,hc]
  simp only [storeCells,Sem.run_bind,h2,Result.andThen_ok];rw [se vs (i+1) _ (cs.setIfInBounds (o+i) v) (wO dY _) (fun u hu=>h1 u (by simp [hu])) (by simp;omega),JW];rfl
theorem D_ {t:TypeId} {ti:TypeInfo} (hi:P.info? t=some ti) {b o:Nat} {et:TypeId} {cs:Array Value} (hc:w.heap[b]?=some (.cells cs et (0,0))) {v:Value} (fh:v.cells.size=ti.size)
  (h1:∀ u,u∈v.cells.toList→u.oneCell'=true) (hs:o+v.cells.size≤cs.size):(Instr.storeAt t (.pointer (some ⟨b,o,none⟩)) v).run P w=.ok () (jA w b (.cells (sc cs o v.cells.toList) et (0,0))):=by
 simp only [Instr.storeAt,Instr.sureAddr,Sem.run_bind,Sem.run_pure,Result.andThen_ok,storeVar,gr hi,fh,ne_eq,not_true_eq_false,if_false];have:=se (P:=P) (b:=b) (o:=o) (t:=et) v.cells.toList 0 w cs hc h1 (by simpa using hs);simpa using this
theorem vd {cs cs':Array Value} {t:TypeId} (h:cs'.size=cs.size):sameShape (.cells cs t (0,0)) (.cells cs' t (0,0)):=⟨rfl,h.symm⟩
theorem QZ {o:Oper} {s:fG} {x y:Operand} {t:TypeId} {ti:TypeInfo} {a:AV} {l l0:List AV} {id off:Nat} (ho:o.op=.store t x y) (hi:P.info? t=some ti) (hx:dT s x (.bp id off)) (hy:dT s y a) (hl:BN a l)
  (h1:∀ b,b∈l→One b) (fh:l.length=ti.size) (hb:s.H id=some (.box l0)) (hle:off+l.length≤l0.length):dg P o s ⟨.lit undef,[(id,some (.box (BO l0 off l)))],[]⟩:=by
 intro w F O μ K ft act hs _ Kn Q hk;have ZI:=hl (hy hs);obtain ⟨ob,po,cs,et,rfl,hS,C2,hB⟩:=hs.hr.du id _ hb rfl;have hv:=hx hs;generalize Ea:act.eval x=v at hv;cases hv with
 | bp _ _ bZ=>
  have hlen:(act.eval y).cells.toList.length=l.length:=ZI.1.symm;have h3:off+(act.eval y).cells.toList.length≤cs.size:=by omega
  have kT:(execOp act.eval o).run P w=.ok .skip (jA w (μ id) (.cells (sc cs off (act.eval y).cells.toList) et (0,0))):=by
   have:=D_ (P:=P) hi po (v:=act.eval y) (by rw [← Array.length_toList,hlen];exact fh) (ZI.one h1) (o:=off) (by simpa using h3);simp [execOp,ho,Ea,this]
  have M4:hP w F μ K (fun x=>x=μ id) (μ id) (.cells (sc cs off (act.eval y).cells.toList) et (0,0)) (.box (BO l0 off l)):=by
   refine ⟨_,et,rfl,fun _=>Iff.rfl,by rw [vc,iJ];exact C2,fun j hj=>?_⟩;rw [vc] at hj;rw [PJ _ _ _ _ hle,tI _ _ _ h3,hlen];split
   ·exact ZI.2 _ (by omega)
   ·exact hB j hj
  have gC:s.H.live id:=⟨_,hb,rfl⟩;obtain ⟨O',bX,k1,k2⟩:=lV (L:=[]) hs.hr hb rfl po (vd (iJ _ _ _)) (by simp) (fun y (hy:y=μ id)=>⟨id,.inl rfl,gC,hy▸hs.hr.self id gC⟩) rfl M4;unfold Oper.wp;rw [kT,Oper.upon_skip];exact hk undef _ F O' μ bX (.lit _) (by rw [jm];exact k1) k2
theorem XG {b:Nat} {bB m i j:Nat} {e e':Nat→Nat→AV} {l:List AV} {cs:Array Value} {vs:List Value} {S:Nat→Nat→Nat→Prop} {T:Nat→Prop} (hB:MW b cs bB m S T fun T i j v=>jy w F μ T (e i j) v)
  (hl:gZ w F μ Cv l vs) (h1:∀ u,u∈vs→u.oneCell'=true) (hi:i < m) (hj:j+l.length≤bB)
  (PB:∀ k,k < l.length→g8 (l.getD k .top) (e' i (j+k))) (Ls:∀ i' j',i' < m→j' < bB→¬ (i'=i∧j≤j'∧j' < j+l.length)→e' i' j'=e i' j'):
  i*bB+j+vs.length≤cs.size∧∃ S' T',(∀ x,T' x→T x)∧T' b∧MW b (sc cs (i*bB+j) vs) bB m S' T' fun T i j v=>jy w F μ T (e' i j) v:=by
 have h2:(i+1)*bB≤m*bB:=Nat.mul_le_mul_right _ hi;rw [Nat.add_mul,Nat.one_mul] at h2;have hlen:vs.length=l.length:=hl.1.symm;have fh:=hB.size;have h3:i*bB+j+vs.length≤cs.size:=by omega
 let hit:Nat→Nat→Prop:=fun i' j'=>i'=i∧j≤j'∧j' < j+l.length
 let S':Nat→Nat→Nat→Prop:=fun i' j' x=>¬ hit i' j'∧S i' j' x
 refine ⟨h3,S',fun x=>x=b∨∃ i' j',i' < m∧j' < bB∧S' i' j' x,?_,.inl rfl,?_⟩
 ·rintro x (h | ⟨i',j',k1,k2,_,k3⟩)
  ·exact (hB.all x).2 (.inl h)
  ·exact (hB.all x).2 (.inr ⟨i',j',k1,k2,k3⟩)
 ·refine { size:=by rw [iJ];exact fh,cell:=fun i' j' da mi=>?_,dj:=fun i1 j1 i2 j2 a1 a2 a3 a4 x hx la=>hB.dj i1 j1 i2 j2 a1 a2 a3 a4 x hx.2 la.2,nb:=fun i' j' da mi hx=>hB.nb i' j' da mi hx.2,all:=fun _=>Iff.rfl };rw [tI _ _ _ h3];by_cases e1:i'=i
  ·subst e1;by_cases e2:j≤j'∧j' < j+l.length
   ·rw [if_pos (by omega),show i'*bB+j'-(i'*bB+j)=j'-j by omega];have hk:j'-j < l.length:=by omega
    have FG:j'-j < vs.length:=by omega
    refine ⟨.Ip _ _ _ ?_ fun x hx=>hx.1 ⟨rfl,e2⟩,?_⟩
    ·have:=PB (j'-j) hk (hl.2 _ hk);rwa [show j+(j'-j)=j' by omega] at this
    ·simpa [List.getD,FG] using h1 _ (List.getElem_mem FG)
   ·rw [if_neg (by omega)];have hh:¬ hit i' j':=fun h=>e2 h.2;rw [Ls i' j' da mi hh];have:=hB.cell i' j' da mi;have eS:S' i' j'=S i' j':=by
     funext x;simp only [S',eq_iff_iff];exact ⟨fun h=>h.2,fun h=>⟨hh,h⟩⟩
    rw [eS];exact this
  ·have hh:¬ hit i' j':=fun h=>e1 h.1;rw [if_neg ?_]
   ·rw [Ls i' j' da mi hh];have:=hB.cell i' j' da mi;have eS:S' i' j'=S i' j':=by
     funext x;simp only [S',eq_iff_iff];exact ⟨fun h=>h.2,fun h=>⟨hh,h⟩⟩
    rw [eS];exact this
   ·rcases Nat.lt_or_gt_of_ne e1 with h | h
    ·have h4:(i'+1)*bB≤i*bB:=Nat.mul_le_mul_right _ h;rw [Nat.add_mul,Nat.one_mul] at h4;omega
    ·have h4:(i+1)*bB≤i'*bB:=Nat.mul_le_mul_right _ h;rw [Nat.add_mul,Nat.one_mul] at h4;omega
theorem Q0 {o:Oper} {s:fG} {x y:Operand} {t:TypeId} {ti:TypeInfo} {a:AV} {l:List AV} {id bB i j m:Nat} {v:Bool} {e e':Nat→Nat→AV} (ho:o.op=.store t x y) (hi:P.info? t=some ti) (hx:dT s x (.rp id bB i j)) (hy:dT s y a) (hl:BN a l)
  (h1:∀ b,b∈l→One b) (LK:∀ b,b∈l→PI b) (fh:l.length=ti.size) (hb:s.H id=some (.row v bB m e)) (him:i < m) (hle:j+l.length≤bB)
  (PB:∀ k,k < l.length→g8 (l.getD k .top) (e' i (j+k))) (Ls:∀ i' j',i' < m→j' < bB→¬ (i'=i∧j≤j'∧j' < j+l.length)→e' i' j'=e i' j'):
  dg P o s ⟨.lit undef,[(id,some (.row v bB m e'))],[]⟩:=by
 intro w F O μ K ft act hs _ Kn Q hk;have ZI:=hl (hy hs);have M5:(jz.row v bB m e).eQ=true:=by cases v<;>simp [jz.eQ];omega
 obtain ⟨ob,po,cs,et,S,rfl,hB⟩:=hs.hr.du id _ hb M5;have hv:=hx hs;generalize Ea:act.eval x=u at hv;cases hv with
 | rp _ _ _ _ bZ=>
  obtain ⟨k1,S',T',k2,k3,k4⟩:=XG (e':=e') hB (ZI.Ip LK) (ZI.one h1) him hle PB Ls;have hlen:(act.eval y).cells.toList.length=l.length:=ZI.1.symm;have kT:(execOp act.eval o).run P w=.ok .skip (jA w (μ id) (.cells (sc cs (i*bB+j) (act.eval y).cells.toList) et (0,0))):=by
   have:=D_ (P:=P) hi po (v:=act.eval y) (by rw [← Array.length_toList,hlen];exact fh) (ZI.one h1) (o:=i*bB+j) (by simpa using k1);simp [execOp,ho,Ea,this]
  have gC:s.H.live id:=⟨_,hb,M5⟩;obtain ⟨O',bX,q1,q2⟩:=lV (L:=[]) (b':=.row v bB m e') hs.hr hb M5 po (vd (iJ _ _ _)) (by simp) (fun x hx=>⟨id,.inl rfl,gC,k2 x hx⟩) k3 ⟨_,et,S',rfl,k4⟩;unfold Oper.wp;rw [kT,Oper.upon_skip];exact hk undef _ F O' μ bX (.lit _) (by rw [jm];exact q1) q2
theorem pZ {n:Int} (h0:-9223372036854775808≤n) (h1:n≤9223372036854775807):IntKind.i64.wrap n=n:=by
 simp only [IntKind.wrap,IntKind.bits,IntKind.signed,Bool.true_and];split<;>rename_i h<;>simp at h<;>omega
theorem Iz {i j s:Nat} (hj:j < s):(i*s+j) % s=j:=by
 rw [Nat.add_comm,Nat.add_mul_mod_self_right,Nat.mod_eq_of_lt hj]
theorem Q1 {b bB n:Nat} {v:Bool} {e:Nat→Nat→AV} {cs:Array Value} {t:TypeId} (fh:n*bB≤cs.size)
  (h:∀ i j,i < n→j < bB→VR w F μ Cv (e i j) (cs.getD (i*bB+j) undef)∧(cs.getD (i*bB+j) undef).oneCell'=true):hP w F μ K (fun x=>x=b) b (.cells cs t) (.row v bB n e):=
 ⟨cs,t,fun _ _ _=>False,rfl,{ size:=fh,cell:=fun i j hi hj=>⟨.Ip _ _ _ (h i j hi hj).1 fun _ h=>h,(h i j hi hj).2⟩,dj:=fun _ _ _ _ _ _ _ _ _ h=>h.elim,nb:=fun _ _ _ _ h=>h,all:=fun x=>⟨.inl,fun h=>h.elim (fun h=>h) fun ⟨_,_,_,_,h⟩=>h.elim⟩ }⟩
theorem Q2 {o:Oper} {s:fG} {x y:Operand} {t et:TypeId} {ti:TypeInfo} {l c:Int} {zs:List AV} {N:Nat} {e:Nat→Nat→AV} (nl:Bool) (hnl:nl=true→l=c) (ho:o.op=.makeSlice t x y) (hx:dT s x (.int .i64 l)) (hy:dT s y (.int .i64 c))
  (ht:P.underlying t=some (.slice et)) (hi:P.info? et=some ti) (hz:zk P et=some zs) (hl:zs.length=ti.size) (adU:∀ a,a∈zs→PI a) (M6:∀ a,a∈zs→One a)
  (h0:0≤l) (h1:l≤c) (h2:c*(ti.bytes:Int)≤140737488355328) (h3:c≤140737488355328) (he:∀ i j,i < l.toNat→j < ti.size→g8 (zs.getD j .top) (e i j)):
  dg P o s ⟨dh nl N l.toNat ti.size,[(N,some (.row nl ti.size l.toNat e))],[N]⟩:=
 qk fun {w F O μ K ft act} fJ=>by
  have hvx:=(hx fJ).c8;have hvy:=(hy fJ).c8;obtain ⟨z,XH,rfl⟩:=D9 hz;have hzs:z.cells.size=ti.size:=by simpa using hl
  have wl:IntKind.i64.wrap l=l:=pZ (by omega) (by omega);have wc:IntKind.i64.wrap c=c:=pZ (by omega) (by omega);have hb:(ti.bytes:Int)*c≤281474976710656:=by rw [Int.mul_comm];omega
  have hc0:0≤c:=by omega
  have afc:((Array.range (c.toNat*z.cells.size)).map (z.cells[· % z.cells.size]!)).size=c.toNat*ti.size:=by simp [hzs]
  refine ⟨.slice (some ⟨w.heap.size,0,none⟩) l.toNat c.toNat,.cells ((Array.range (c.toNat*z.cells.size)).map (z.cells[· % z.cells.size]!)) et,w.drawn,?_,?_,fun w' aZ _ qQ hm=>?_⟩
  ·have e1:((decide (c < 0)||decide ((ti.bytes:Int)*c > 2 ^ 48))||decide (l < 0)||decide (l > c))=false:=by
    have:¬ (ti.bytes:Int)*c > 2 ^ 48:=by simp only [Int.reducePow];omega
    simp only [this];simp;omega
   have e0:((decide (c < 0)||decide ((2:Int) ^ 48 < (ti.bytes:Int)*c))||decide (l < 0)||decide (c < l))=false:=e1;simp only [execOp,ho,hvx,hvy,Sem.run_bind,Instr.makeSlice,ca ht,Result.andThen_ok,asInt,asIntOf,Sem.run_pure,LI hi,wl,wc,gt_iff_lt,e0,Bool.false_eq_true,if_false,run_askRoom,gr hi];rw [← hzs];by_cases h:c.toNat*z.cells.size=0
   ·rw [if_pos h,h];have e:∀ f:Nat→Value,(Array.range 0).map f=#[]:=fun f=>by simp
    simp only [Sem.run_bind,Sem.run_pure,Result.andThen_ok,newRow,run_newObj,World.alloc_eq,e]
   ·rw [if_neg h];simp only [Sem.run_bind,Sem.run_pure,Result.andThen_ok,XH,newRow,run_newObj,World.alloc_eq]
  ·refine Q1 (by rw [afc];exact Nat.mul_le_mul_right _ (by omega)) fun i j hi hj=>?_;have k1:=(gZ.Ip (EI (w:=w) (F:=F) (μ:=μ) (K:=K) z.cells.toList) adU).2 j (by simpa [hzs] using hj);have k2:(i+1)*ti.size≤c.toNat*ti.size:=Nat.mul_le_mul_right _ (by omega);rw [Nat.add_mul,Nat.one_mul] at k2;have k3:i*z.cells.size+j < c.toNat*z.cells.size:=by rw [hzs];omega
   have mi:j < z.cells.size:=by omega
   have k4:((Array.range (c.toNat*z.cells.size)).map (z.cells[· % z.cells.size]!)).getD (i*ti.size+j) undef=z.cells.toList.getD j undef:=by
    rw [← hzs];simp [k3,Iz mi,List.getD,mi]
   rw [k4];exact ⟨he i j hi hj k1,gZ.one (EI (w:=w) (F:=F) (μ:=μ) (K:=K) z.cells.toList) M6 (z.cells.toList.getD j undef) (by simp [List.getD,mi])⟩
  ·rw [← hm];have abo:w'.shape? (aZ N)=some (et,c.toNat*ti.size):=by
    unfold World.shape?;rw [hm,qQ];simp only [afc]
   cases nl with
   | false=>
    have:=VR.ms (w:=w') (F:=F) (μ:=aZ) (K:=plus K [N]) N 0 l.toNat ti.size c.toNat (c.toNat*ti.size) et (.inr (by simp)) (by omega) abo (by simp);simpa [dh] using this
   | true=>
    have e:=hnl rfl;subst e;by_cases h:l.toNat=0
    ·rw [h];exact .sb _ _ _
    ·exact .vs (w:=w') (F:=F) (μ:=aZ) (K:=plus K [N]) N l.toNat ti.size l.toNat (l.toNat*ti.size) et h (.inr (by simp)) (Nat.le_refl _) abo (Nat.le_refl _)
def nJ {α:Type} (place:Nat→Option (Nat×Nat)):List α→List (Nat×List α)→Option (List α)
 | cs,[]=>some cs
 | cs,(i,l)::r=>match place i with
  | none=>none
  | some (off,size)=>if Nat.beq l.length size&&(off+size).ble cs.length then nJ place (BO cs off l) r else none
theorem XI (l:List Value):∀ (k off:Nat) (cs:Array Value),off+k+l.length≤cs.size→(l.zipIdx k).foldl (fun cs (x:Value×Nat)=>cs.setIfInBounds (off+x.2) x.1) cs=sc cs (off+k) l:=by
 induction l with
 | nil=>intro k off cs _;rfl
 | cons x l ih=>
  intro k off cs h;simp only [List.length_cons] at h;simp only [List.zipIdx_cons,List.foldl_cons,sc];rw [ih (k+1) off _ (by simp;omega)];rfl
inductive Eb (s:fG):List (Nat×Operand)→List (Nat×List AV)→Prop
 | nil:Eb s [] []
 | cons {i:Nat} {x:Operand} {a:AV} {l:List AV} {r:List (Nat×Operand)} {q:List (Nat×List AV)} (hx:dT s x a) (hl:BN a l) (h:Eb s r q):Eb s ((i,x)::r) ((i,l)::q)
theorem IA {s:fG} {a:Act} (hs:SR w F O μ K s ft a) {place:Nat→Option (Nat×Nat)}:∀ {ps:List (Nat×Operand)} {q:List (Nat×List AV)} {cs:List AV} {us:Array Value} {r:List AV},Eb s ps q→nJ place cs q=some r→
  gZ w F μ K cs us.toList→∃ us',Instr.fill place us (ps.map fun p=>(p.1,a.eval p.2))=some us'∧gZ w F μ K r us'.toList
 | [],_,cs,us,r,.nil,h,hu=>by
  simp only [nJ,Option.some.injEq] at h;subst h;exact ⟨us,rfl,hu⟩
 | (i,x)::ps,_,cs,us,r,.cons (l:=l) (q:=q) hx LK hq,h,hu=>by
  simp only [nJ] at h;split at h
  ·cases h
  ·rename_i off size hp;split at h
   ·rename_i hb;simp only [Bool.and_eq_true] at hb;have h1:=Nat.eq_of_beq_eq_true hb.1;have h2:=Nat.le_of_ble_eq_true hb.2;have hl:gZ w F μ K l (a.eval x).cells.toList:=LK (hx hs);have hlen:l.length=(a.eval x).cells.size:=by have:=hl.1;simpa using this
    have C2:cs.length=us.size:=by have:=hu.1;simpa using this
    have h3:off+(a.eval x).cells.size≤us.size:=by omega
    have Uo:gZ w F μ K (BO cs off l) (sc us off (a.eval x).cells.toList).toList:=by
     refine ⟨by rw [vc,C2];simp [iJ],fun j hj=>?_⟩;rw [vc] at hj;rw [jo,PJ _ _ _ _ (by omega),tI _ _ _ (by simpa using h3)];have e:(a.eval x).cells.toList.length=l.length:=hl.1.symm;rw [e];split
     ·exact hl.2 _ (by omega)
     ·rw [← jo];exact hu.2 j hj
    obtain ⟨us',k1,k2⟩:=IA hs hq h Uo;refine ⟨us',?_,k2⟩;have afd:(a.eval x).cells.zipIdx.foldl (fun cs (x:Value×Nat)=>cs.setIfInBounds (off+x.2) x.1) us=sc us off (a.eval x).cells.toList:=by
     have:=XI (a.eval x).cells.toList 0 off us (by simpa using h3);rw [← Array.foldl_toList];simpa using this
    simp only [List.map_cons,Instr.fill,hp];have c2:¬ (us.size < off+(a.eval x).cells.size):=by omega
    rw [if_neg (by simp [c2];omega)];have:((a.eval x).cells.zipIdx.foldl (fun cs x=>match x with | (c,j)=>cs.setIfInBounds (off+j) c) us)=sc us off (a.eval x).cells.toList:=afd;rw [this];exact k1
   ·cases h
def IB (P:Program) (fs:List Field):Option (List (Nat×Nat)):=
 match fs with
 | []=>some []
 | f::r=>match P.info? f.type,IB P r with
  | some i,some q=>some ((f.offset,i.size)::q)
  | _,_=>none
def Q3 (f:Field):Sem (Nat×Nat):=do pure (f.offset,← sizeOf f.type)
theorem M7 (w:World):∀ {fs:List Field} {q:List (Nat×Nat)},IB P fs=some q→(fs.mapM Q3).run P w=.ok q w
 | [],q,h=>by cases h;simp
 | f::r,q,h=>by
  simp only [IB] at h;split at h
  ·rename_i i q' hi hq;cases h;have:=M7 w hq;simp only [List.mapM_cons,Q3,Sem.run_bind,gr hi,Result.andThen_ok,Sem.run_pure];rw [this];rfl
  ·cases h
theorem ZJ {o:Oper} {s:fG} {t:TypeId} {fs:Array Field} {ps:List (Nat×Operand)} {q:List (Nat×List AV)} {pl:List (Nat×Nat)} {zs r:List AV} (ho:o.op=.build t ⟨ps⟩) (ht:P.underlying t=some (.struct fs))
  (hz:zk P t=some zs) (hp:IB P fs.toList=some pl) (hq:Eb s ps q) (hr:nJ (pl[·]?) zs q=some r):dg P o s ⟨.agg r,[],[]⟩:=
 b7 fun {w F O μ K ft a} hs=>by
  obtain ⟨z,XH,rfl⟩:=D9 hz;obtain ⟨us,k1,k2⟩:=IA hs hq hr (EI z.cells.toList);have hm:(fs.mapM Q3).run P w=.ok ⟨pl⟩ w:=by
   rw [Array.mapM_eq_mapM_toList];simp only [Sem.run_map];rw [M7 w hp];rfl
  have YB:Instr.fill (fun x=>(⟨pl⟩:Array (Nat×Nat))[x]?) z.cells ((⟨ps⟩:Array (Nat×Operand)).map fun (i,x)=>(i,a.eval x)).toList=some us:=by
   simpa using k1
  refine ⟨.agg us,?_,.qO k2⟩;simp only [execOp,ho,Instr.build,Sem.run_bind,XH,Result.andThen_ok,ca ht];have e:(fs.mapM fun f=>(do pure (f.offset,← sizeOf f.type):Sem (Nat×Nat))).run P w=.ok ⟨pl⟩ w:=hm;rw [e];simp only [Result.andThen_ok];rw [YB];simp
theorem M8 (off:Nat):∀ (l:List (Value×Nat)) (c:Array Value),(l.foldl (fun cs x=>cs.setIfInBounds (off+x.2) x.1) c).size=c.size
 | [],_=>rfl
 | x::l,c=>by simp only [List.foldl_cons];rw [M8 off l];simp
theorem PK {place:Nat→Option (Nat×Nat)}:∀ {vs:List (Nat×Value)} {c c':Array Value},Instr.fill place c vs=some c'→c'.size=c.size
 | [],c,c',h=>by cases h;rfl
 | (i,v)::vs,c,c',h=>by
  simp only [Instr.fill] at h;split at h
  ·cases h
  ·split at h
   ·cases h
   ·rw [PK h,← Array.foldl_toList];exact M8 _ _ _
theorem Lt {α:Type} {z:List α} (SV:0 < z.length):∀ (m k:Nat),k < m*z.length→((List.range m).flatMap fun _=>z)[k]?=z[k % z.length]?:=by
 intro m
 induction m with
 | zero=>intro k hk;omega
 | succ m ih=>
  intro k hk;rw [List.range_succ_eq_map,List.flatMap_cons,List.flatMap_map];by_cases h:k < z.length
  ·rw [List.getElem?_append_left h,Nat.mod_eq_of_lt h]
  ·rw [List.getElem?_append_right (Nat.le_of_not_lt h)];have h3:k-z.length < m*z.length:=by rw [Nat.add_mul,Nat.one_mul] at hk;omega
   have:=ih (k-z.length) h3;rw [this,← Nat.mod_eq_sub_mod (by omega)]
theorem sf {s:fG} {a:Act} {o:Oper} {t et:TypeId} {ti:TypeInfo} {n:Nat} {ps:List (Nat×Operand)} {q:List (Nat×List AV)} {zs r:List AV} (hs:SR w F O μ K s ft a) (ho:o.op=.buildSlice t n ⟨ps⟩) (ht:P.underlying t=some (.slice et))
  (hi:P.info? et=some ti) (hz:zk P et=some zs) (hl:zs.length=ti.size) (GN:ti.size≠0) (hn:n*ti.size≤16777216) (hq:Eb s ps q)
  (hr:nJ (fun i=>some (i*ti.size,ti.size)) ((List.range n).flatMap fun _=>zs) q=some r):
  ∃ us:Array Value,us.size=n*ti.size∧gZ w F μ K r us.toList∧(execOp a.eval o).run P w=.ok (.value (.slice (some ⟨w.heap.size,0,none⟩) n n)) (w.alloc (.cells us et)):=by
 obtain ⟨z,XH,rfl⟩:=D9 hz;have hzs:z.cells.size=ti.size:=by simpa using hl
 have hz0:gZ w F μ K ((List.range n).flatMap fun _=>z.cells.toList.map V7) ((Array.range (n*ti.size)).map (z.cells[· % z.cells.size]!)).toList:=by
  have e:((Array.range (n*ti.size)).map (z.cells[· % z.cells.size]!)).toList=(List.range n).flatMap fun _=>z.cells.toList:=by
   refine List.ext_getElem ?_ fun k k1 k2=>?_
   ·simp [List.length_flatMap,hzs,List.map_const',List.sum_replicate_nat]
   ·have hk:k < n*z.cells.size:=by simpa [hzs] using k1
    have SV:0 < z.cells.size:=by omega
    have h4:=Lt (z:=z.cells.toList) (by simpa using SV) n k (by simpa using hk);have h5:k % z.cells.size < z.cells.size:=Nat.mod_lt _ SV;have h6:((List.range n).flatMap fun _=>z.cells.toList)[k]=z.cells[k % z.cells.size]:=by
     have:=List.getElem?_eq_getElem k2;rw [h4] at this;simpa [h5] using this.symm
    rw [h6];simp [h5]
  rw [e];have:(List.range n).flatMap (fun _=>z.cells.toList.map V7)=((List.range n).flatMap fun _=>z.cells.toList).map V7:=by rw [List.map_flatMap]
  rw [this];exact EI _
 obtain ⟨us,k1,k2⟩:=IA hs hq hr hz0;have Q4:us.size=n*ti.size:=by
  rw [PK k1];simp
 refine ⟨us,Q4,k2,?_⟩;have hle:¬ n*ti.size > 2 ^ 24:=by simp only [Nat.reducePow];omega
 have YB:Instr.fill (fun i=>some (i*ti.size,ti.size)) ((Array.range (n*ti.size)).map (z.cells[· % z.cells.size]!)) ((⟨ps⟩:Array (Nat×Operand)).map fun (i,x)=>(i,a.eval x)).toList=some us:=by
  simpa using k1
 simp only [execOp,ho,Instr.buildSlice,Sem.run_bind,ca ht,Result.andThen_ok,gr hi,if_neg hle];by_cases h:n*ti.size=0
 ·have e:∀ f g:Nat→Value,(Array.range 0).map f=(Array.range 0).map g:=fun f g=>by simp
  rw [h] at YB;rw [if_pos h,h];simp only [Sem.run_bind,Sem.run_pure,Result.andThen_ok];rw [e _ (z.cells[· % z.cells.size]!),YB];simp [newRow]
 ·rw [if_neg h];simp only [Sem.run_bind,Sem.run_pure,Result.andThen_ok,XH];rw [YB];simp [newRow]
theorem US {N n bB:Nat} {et:TypeId} {us:Array Value} (Q4:us.size=n*bB) (qQ:w'.heap[w.heap.size]?=some (.cells us et)) (hm:aZ N=w.heap.size):VR w' F aZ (plus K [N]) (.ms N 0 n bB) (.slice (some ⟨w.heap.size,0,none⟩) n n):=by
 rw [← hm];have abo:w'.shape? (aZ N)=some (et,n*bB):=by
  unfold World.shape?;rw [hm,qQ];simp only [Q4]
 have:=VR.ms (w:=w') (F:=F) (μ:=aZ) (K:=plus K [N]) N 0 n bB n (n*bB) et (.inr (by simp)) (Nat.le_refl _) abo (by simp);simpa using this
theorem OO {o:Oper} {s:fG} {t et:TypeId} {ti:TypeInfo} {n:Nat} {ps:List (Nat×Operand)} {q:List (Nat×List AV)} {zs r:List AV} {N:Nat} {e:Nat→Nat→AV} (ho:o.op=.buildSlice t n ⟨ps⟩) (ht:P.underlying t=some (.slice et))
  (hi:P.info? et=some ti) (hz:zk P et=some zs) (hl:zs.length=ti.size) (GN:ti.size≠0) (hn:n*ti.size≤16777216) (hq:Eb s ps q)
  (hr:nJ (fun i=>some (i*ti.size,ti.size)) ((List.range n).flatMap fun _=>zs) q=some r) (adU:∀ a,a∈r→PI a) (M6:∀ a,a∈r→One a) (he:∀ i j,i < n→j < ti.size→g8 (r.getD (i*ti.size+j) .top) (e i j)):
  dg P o s ⟨.ms N 0 n ti.size,[(N,some (.row false ti.size n e))],[N]⟩:=
 qk fun {w F O μ K ft a} hs=>by
  obtain ⟨us,Q4,k2,kT⟩:=sf hs ho ht hi hz hl GN hn hq hr;refine ⟨_,.cells us et,w.drawn,kT,?_,fun w' aZ _ qQ hm=>US Q4 qQ hm⟩;have k3:=k2.Ip adU;have hrl:r.length=n*ti.size:=by have:=k2.1;simpa [Q4] using this
  refine Q1 (by rw [Q4];exact Nat.le_refl _) fun i j hi hj=>?_;have h4:(i+1)*ti.size≤n*ti.size:=Nat.mul_le_mul_right _ hi;rw [Nat.add_mul,Nat.one_mul] at h4;rw [← jo];have hk:i*ti.size+j < us.toList.length:=by rw [← k3.1];omega
  exact ⟨he i j hi hj (k3.2 _ (by omega)),k2.one M6 _ (by simp only [List.getD];rw [List.getElem?_eq_getElem hk];exact List.getElem_mem hk)⟩
theorem M9 {o:Oper} {s:fG} {t et:TypeId} {ti:TypeInfo} {zs:List AV} {N:Nat} {e:Nat→Nat→AV} (ho:o.op=.buildSlice t 0 ⟨[]⟩) (ht:P.underlying t=some (.slice et))
  (hi:P.info? et=some ti) (hz:zk P et=some zs) (hl:zs.length=ti.size) (GN:ti.size≠0):dg P o s ⟨dh true N 0 ti.size,[(N,some (.row true ti.size 0 e))],[N]⟩:=
 qk fun {w F O μ K ft a} hs=>by
  obtain ⟨us,Q4,k2,kT⟩:=sf (n:=0) (ps:=[]) (r:=[]) hs ho ht hi hz hl GN (by omega) .nil (by simp [nJ]);exact ⟨_,.cells us et,w.drawn,kT,Q1 (by omega) fun i j hi hj=>absurd hi (by omega),fun w' aZ _ qQ hm=>.sb _ _ _⟩
theorem IC {o:Oper} {s:fG} {t et:TypeId} {ti:TypeInfo} {n:Nat} {ps:List (Nat×Operand)} {q:List (Nat×List AV)} {zs r:List AV} {N:Nat} (ho:o.op=.buildSlice t n ⟨ps⟩) (ht:P.underlying t=some (.slice et))
  (hi:P.info? et=some ti) (hz:zk P et=some zs) (hl:zs.length=ti.size) (GN:ti.size≠0) (hn:n*ti.size≤16777216) (hq:Eb s ps q)
  (hr:nJ (fun i=>some (i*ti.size,ti.size)) ((List.range n).flatMap fun _=>zs) q=some r):
  dg P o s ⟨.ms N 0 n ti.size,[(N,some (.box r))],[N]⟩:=
 qk fun {w F O μ K ft a} hs=>by
  obtain ⟨us,Q4,k2,kT⟩:=sf hs ho ht hi hz hl GN hn hq hr;exact ⟨_,.cells us et,w.drawn,kT,UR k2,fun w' aZ _ qQ hm=>US Q4 qQ hm⟩
end Go.Proofs.YtjkbbdldmdajkaaGreatDoor.c5
