/- Operations that only yield a value, the first part: copies, numbers, texts, tests. No condition. -/
import Derived.Test.YtjkbbdldmdajkaaGreatDoorVB
import Derived.Laws.Cells
import Derived.Laws.Strings
import Derived.Laws.Small
import Derived.Laws.StructEq
namespace Go.Proofs.YtjkbbdldmdajkaaGreatDoor.c5
open Go Go.RowKit
variable {w w' ss:World} {F F' zT O O' uo:Nat→Prop} {μ aZ jE:Nat→Nat} {K K' C9:Nat→Prop} {H H' H'':Hp} {ft bX:Nat→Nat→Prop} {P:Program}
def Iv:TypeDesc→Bool
 | .struct _ | .array _ _=>true
 | _=>false
theorem ca {t:TypeId} {d:TypeDesc} (h:P.underlying t=some d):(underlying t).run P w=.ok d w:=by simp [underlying,h]
theorem LI {t:TypeId} {i:TypeInfo} (h:P.info? t=some i):(typeInfo t).run P w=.ok i w:=by simp [typeInfo,h]
theorem gr {t:TypeId} {i:TypeInfo} (h:P.info? t=some i):(sizeOf t).run P w=.ok i.size w:=by simp [sizeOf,LI h]
theorem LJ {t:TypeId} {d:TypeDesc} (h:P.underlying t=some d):(isAgg t).run P w=.ok (Iv d) w:=by
 simp only [isAgg,Sem.run_bind,ca h,Result.andThen_ok];cases d<;>rfl
theorem QV {t:TypeId} {i:TypeInfo} {z:Value} (h:P.info? t=some i) (hz:i.zero=some z):(zeroValue t).run P w=.ok z w:=by simp [zeroValue,LI h,hz]
theorem V4 {o:Oper} {s:fG} {x:Operand} {v:AV} (ho:o.op=.move x∨o.op=.assign x) (hx:dT s x v):dg P o s ⟨v,[],[]⟩:=
 b7 fun {w F O μ K ft a} hs=>⟨a.eval x,by rcases ho with h | h<;>simp [execOp,h],hx hs⟩
theorem agh {o:Oper} {s:fG} {c x y:Operand} {d:Bool} {p q:Bool} (ho:o.op=.pick c x y) (hc:dT s c (.bool d)) (hx:dT s x (.wh d (.bool p))) (hy:dT s y (.wh (!d) (.bool q))):
  dg P o s ⟨.bool (cond d p q),[],[]⟩:=
 b7 fun {w F O μ K ft a} hs=>by
  have h:=(hc hs).eR;refine ⟨.bool (cond d p q),?_,.bool _⟩;cases d with
  | true=>simp only [execOp,ho,h,asBool,((hx hs).ZA rfl).eR];rfl
  | false=>simp only [execOp,ho,h,asBool,((hy hs).ZA rfl).eR];rfl
theorem MZ {o:Oper} {s:fG} {x:Operand} {i:Nat} {cs:List AV} (ho:o.op=.extract x i) (hx:dT s x (.ov cs)) (hi:i < cs.length):
  dg P o s ⟨cs.getD i .top,[],[]⟩:=
 b7 fun {w F O μ K ft a} hs=>by
  obtain ⟨vs,hv,hl,Iw⟩:=(hx hs).It;refine ⟨vs.getD i undef,?_,Iw i hi⟩;have da:i < vs.length:=hl▸hi;simp [execOp,ho,hv,Instr.extract,da,List.getD]
theorem adH {o:Oper} {s:fG} {x:Operand} {t:TypeId} {b:Bool} (ho:o.op=.unOp .not t x) (hx:dT s x (.bool b)):dg P o s ⟨.bool (!b),[],[]⟩:=
 b7 fun {w F O μ K ft a} hs=>⟨.bool (!b),by simp [execOp,ho,(hx hs).eR,Op.unary],.bool _⟩
theorem adI {o:Oper} {s:fG} {x:Operand} {t:TypeId} {k:IntKind} {n:Int} (ho:o.op=.unOp .neg t x) (hx:dT s x (.int k n)):dg P o s ⟨.int k (k.wrap (0-n)),[],[]⟩:=
 b7 fun {w F O μ K ft a} hs=>⟨.int k (k.wrap (0-n)),by simp [execOp,ho,(hx hs).c8,Op.unary,Op.intArith],.int _ _⟩
theorem JX (op:BinOp) (t:TypeId) (x y:Operand) (k k':IntKind) (m n:Int):(eqGuard op t x y (.int k m) (.int k' n)).run P w=.ok () w:=by
 unfold eqGuard;cases op<;>rfl
theorem PH (op:BinOp) (t:TypeId) (x y:Operand) (m n:ByteArray):(eqGuard op t x y (.string m) (.string n)).run P w=.ok () w:=by
 unfold eqGuard;cases op<;>rfl
theorem UK (op:BinOp) (t:TypeId) (x y:Operand) (m n:Bool):(eqGuard op t x y (.bool m) (.bool n)).run P w=.ok () w:=by
 unfold eqGuard;cases op<;>rfl
def aN (k:IntKind) (m n:Int):Int:=k.wrap (m+n)
def bS (k:IntKind) (m n:Int):Int:=k.wrap (m-n)
def W6 (k:IntKind) (m n:Int):Int:=k.wrap (m*n)
def ag9 (k:IntKind) (n:Int):Int:=k.wrap (0-n)
def yE (k:IntKind) (n:Int):Int:=k.wrap n
def RO (k:IntKind) (m n:Int):Int:=k.wrap (m.tdiv n)
def wv (m n:Int):Int:=m.tmod n
def bI (m n:Int):Bool:=m==n
def bM (m n:Int):Bool:=decide (m < n)
def b6 (m n:Int):Bool:=decide (m≤n)
def ae9 (k:IntKind) (x y:Int):Int:=k.wrap ((BitVec.ofInt k.bits x &&& BitVec.ofInt k.bits y).toNat:Int)
def bOr (k:IntKind) (x y:Int):Int:=k.wrap ((BitVec.ofInt k.bits x ||| BitVec.ofInt k.bits y).toNat:Int)
def ae_ (k:IntKind) (x y:Int):Int:=k.wrap ((BitVec.ofInt k.bits x ^^^ BitVec.ofInt k.bits y).toNat:Int)
def afa (k:IntKind) (x y:Int):Int:=k.wrap (x*2 ^ (min y.toNat k.bits))
def afb (k:IntKind) (x y:Int):Int:=x.fdiv (2 ^ (min y.toNat k.bits))
def seq (m n:List UInt8):Bool:=m==n
def slt (m n:List UInt8):Bool:=Op.bytesLess m n
def beq (m n:Bool):Bool:=m==n
def zZ (m:List UInt8) (i:Int):Int:=((m.getD i.toNat 0).toNat:Int)
def ZD (op:BinOp) (k:IntKind) (m n:Int):Option AV:=
 match op with
 | .add=>some (.int k (aN k m n))
 | .sub=>some (.int k (bS k m n))
 | .mul=>some (.int k (W6 k m n))
 | .and=>some (.int k (ae9 k m n))
 | .or=>some (.int k (bOr k m n))
 | .xor=>some (.int k (ae_ k m n))
 | .eql=>some (.bool (bI m n))
 | .neq=>some (.bool (!bI m n))
 | .lss=>some (.bool (bM m n))
 | .leq=>some (.bool (b6 m n))
 | .gtr=>some (.bool (bM n m))
 | .geq=>some (.bool (b6 n m))
 | _=>none
theorem adJ {o:Oper} {s:fG} {x y:Operand} {op:BinOp} {t u:TypeId} {k:IntKind} {m n:Int} {r:AV} (ho:o.op=.binOp op t x y u) (hx:dT s x (.int k m)) (hy:dT s y (.int k n))
  (hr:ZD op k m n=some r):dg P o s ⟨r,[],[]⟩:=
 b7 fun {w F O μ K ft a} hs=>by
  have h:=(hx hs).c8;have h':=(hy hs).c8;cases op<;>simp [ZD] at hr<;>subst hr <;>
   exact ⟨_,by simp only [execOp,ho,h,h',Sem.run_bind,JX,Result.andThen_ok];simp [binOp,Op.intArith,Op.intCmp,Op.intBits];try rfl,by first | exact .int _ _ | exact .bool _⟩
def ZE (op:BinOp) (k:IntKind) (m n:Int):Option AV:=
 match op with
 | .quo=>some (.int k (RO k m n))
 | .rem=>some (.int k (wv m n))
 | _=>none
theorem adK {o:Oper} {s:fG} {x y:Operand} {op:BinOp} {t u:TypeId} {k:IntKind} {m n:Int} {r:AV} (ho:o.op=.binOp op t x y u) (hx:dT s x (.int k m)) (hy:dT s y (.int k n))
  (hr:ZE op k m n=some r) (hn:n≠0):dg P o s ⟨r,[],[]⟩:=
 b7 fun {w F O μ K ft a} hs=>by
  have h:=(hx hs).c8;have h':=(hy hs).c8;cases op<;>simp [ZE] at hr<;>subst hr <;>
   exact ⟨_,by simp only [execOp,ho,h,h',Sem.run_bind,JX,Result.andThen_ok];simp [binOp,Op.intDiv,hn];try rfl,.int _ _⟩
def QW (op:BinOp) (k:IntKind) (m n:Int):Option AV:=
 match op with
 | .shl=>some (.int k (afa k m n))
 | .shr=>some (.int k (afb k m n))
 | _=>none
theorem ZF {o:Oper} {s:fG} {x y:Operand} {op:BinOp} {t u:TypeId} {k k':IntKind} {m n:Int} {r:AV} (ho:o.op=.binOp op t x y u) (hx:dT s x (.int k m)) (hy:dT s y (.int k' n))
  (hr:QW op k m n=some r) (hn:0≤n):dg P o s ⟨r,[],[]⟩:=
 b7 fun {w F O μ K ft a} hs=>by
  have h:=(hx hs).c8;have h':=(hy hs).c8;have hn':¬ n < 0:=by omega
  cases op<;>simp [QW] at hr<;>subst hr <;>
   exact ⟨_,by simp only [execOp,ho,h,h',Sem.run_bind,JX,Result.andThen_ok];simp [binOp,Op.shift,hn'];rfl,.int _ _⟩
theorem abl {o:Oper} {s:fG} {x:Operand} {t u:TypeId} {d:TypeDesc} {k k':IntKind} {m:Int} (ho:o.op=.convert t u x) (hx:dT s x (.int k m)) (ht:P.underlying t=some d) (hu:P.underlying u=some (.int k')):
  dg P o s ⟨.int k' (yE k' m),[],[]⟩:=
 b7 fun {w F O μ K ft a} hs=>by
  refine ⟨.int k' (k'.wrap m),?_,.int _ _⟩;simp only [execOp,ho,(hx hs).c8,Sem.run_bind,convert,ca ht,ca hu,Result.andThen_ok];simp [Conv.intToInt]
theorem toList_mk (s:List UInt8):(⟨⟨s⟩⟩:ByteArray).toList=s:=by rw [ByteArray.toList_eq]
def ZG (op:BinOp) (m n:List UInt8):Option AV:=
 match op with
 | .eql=>some (.bool (seq m n))
 | .neq=>some (.bool (!seq m n))
 | .lss=>some (.bool (slt m n))
 | .leq=>some (.bool (slt m n||seq m n))
 | .gtr=>some (.bool (!(slt m n||seq m n)))
 | .geq=>some (.bool (!slt m n))
 | _=>none
theorem adL {o:Oper} {s:fG} {x y:Operand} {op:BinOp} {t u:TypeId} {m n:List UInt8} {r:AV} (ho:o.op=.binOp op t x y u) (hx:dT s x (.str m)) (hy:dT s y (.str n))
  (hr:ZG op m n=some r):dg P o s ⟨r,[],[]⟩:=
 b7 fun {w F O μ K ft a} hs=>by
  have h:=(hx hs).jn;have h':=(hy hs).jn;cases op<;>simp [ZG] at hr<;>subst hr <;>
   exact ⟨_,by simp only [execOp,ho,h,h',Sem.run_bind,PH,Result.andThen_ok];simp [binOp,Op.stringOp];try rfl,.bool _⟩
theorem adM {o:Oper} {s:fG} {x y:Operand} {t u:TypeId} {m n:List UInt8} (ho:o.op=.binOp .add t x y u) (hx:dT s x (.str m)) (hy:dT s y (.str n))
  (hl:m.length+n.length < 1099511627776):dg P o s ⟨.str (m++n),[],[]⟩:=
 b7 fun {w F O μ K ft a} hs=>by
  refine ⟨.string ⟨⟨m++n⟩⟩,?_,.str _⟩;simp only [execOp,ho,(hx hs).jn,(hy hs).jn,Sem.run_bind,PH,Result.andThen_ok];have hs:¬ (((⟨⟨m⟩⟩:ByteArray).size+(⟨⟨n⟩⟩:ByteArray).size:Nat):Int) > IntKind.i64.max:=by
   simp [ByteArray.size,IntKind.max,IntKind.signed,IntKind.bits];omega
  have hc:(⟨⟨m⟩⟩:ByteArray)++⟨⟨n⟩⟩=⟨⟨m++n⟩⟩:=by ext1;simp [ByteArray.data_append]
  simp only [binOp,Op.stringOp,if_neg hs,hc];rfl
theorem adN {o:Oper} {s:fG} {x y:Operand} {t:TypeId} {m:List UInt8} {k:IntKind} {i:Int} (ho:o.op=.index t x y) (hx:dT s x (.str m)) (hy:dT s y (.int k i)) (ht:P.underlying t=some .string)
  (h0:0≤i) (h1:i < m.length):dg P o s ⟨.int .u8 (zZ m i),[],[]⟩:=
 b7 fun {w F O μ K ft a} hs=>by
  refine ⟨.int .u8 ((m.getD i.toNat 0).toNat:Int),?_,.int _ _⟩;have dY:i.toNat < m.length:=by omega
  have hg:(⟨⟨m⟩⟩:ByteArray)[i.toNat]?=some (m.getD i.toNat 0):=by
   rw [getElem?_pos _ _ (by simpa [ByteArray.size] using dY)];simp [dY,List.getD];rfl
  simp only [execOp,ho,(hx hs).jn,(hy hs).c8,Instr.index,asIntOf,Sem.run_bind,Sem.run_pure,Result.andThen_ok,ca ht,if_pos h0,hg]
def UL (op:BinOp) (m n:Bool):Option AV:=
 match op with
 | .eql=>some (.bool (beq m n))
 | .neq=>some (.bool (!beq m n))
 | _=>none
theorem abm {o:Oper} {s:fG} {x y:Operand} {op:BinOp} {t u:TypeId} {m n:Bool} {r:AV} (ho:o.op=.binOp op t x y u) (hx:dT s x (.bool m)) (hy:dT s y (.bool n))
  (ht:P.underlying t=some .bool) (hr:UL op m n=some r):dg P o s ⟨r,[],[]⟩:=
 b7 fun {w F O μ K ft a} hs=>by
  have e1:=(hx hs).eR;have e2:=(hy hs).eR;cases op<;>simp [UL] at hr<;>subst hr <;>
   exact ⟨_,by simp only [execOp,ho,e1,e2,Sem.run_bind,UK,Result.andThen_ok,run_eql_bool _ _ _ _ ht,run_neq_bool _ _ _ _ ht];rfl,.bool _⟩
theorem SK {o:Oper} {s:fG} {fn:Fn} {xs ys:List Operand} {l m:List AV} (ho:o.op=.makeFunc fn ⟨xs⟩ ⟨ys⟩) (hx:OK s xs l) (hy:OK s ys m):dg P o s ⟨.fn fn l m,[],[]⟩:=
 b7 fun {w F O μ K ft a} hs=>⟨.func fn ⟨xs.map a.eval⟩ ⟨ys.map a.eval⟩,by simp [execOp,ho,Instr.makeFunc],.ZB (hx hs) (hy hs)⟩
def UM:TypeDesc→Bool
 | .interface _=>true
 | _=>false
theorem JY {o:Oper} {s:fG} {t:TypeId} {d:TypeDesc} {x:Operand} {v:AV} (ho:o.op=.makeInterface t x) (hx:dT s x v) (ht:P.underlying t=some d) (hd:UM d=false):dg P o s ⟨.oR t v,[],[]⟩:=
 b7 fun {w F O μ K ft a} hs=>by
  refine ⟨.iface t (a.eval x),?_,.oR _ _ _ (hx hs)⟩;simp only [execOp,ho,Instr.makeInterface,Sem.run_bind,ca ht,Result.andThen_ok];cases d<;>first | rfl | (simp [UM] at hd)
end Go.Proofs.YtjkbbdldmdajkaaGreatDoor.c5
