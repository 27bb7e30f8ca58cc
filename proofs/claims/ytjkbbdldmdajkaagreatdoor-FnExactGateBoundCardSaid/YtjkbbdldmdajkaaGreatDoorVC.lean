/- Operations that only yield a value, the first part: copies, numbers, texts, tests. No condition. -/
import Derived.Test.YtjkbbdldmdajkaaGreatDoorVB
import Derived.Laws.Cells
import Derived.Laws.Strings
import Derived.Laws.Small
import Derived.Laws.StructEq
namespace Go.Proofs.YtjkbbdldmdajkaaGreatDoor.c_
open Go Go.RowKit
variable {w w' xh:World} {F F' Bn O O' vW:Nat→Prop} {μ bD lF:Nat→Nat} {K K' EB:Nat→Prop} {H H' H'':Hp} {ft bY:Nat→Nat→Prop} {P:Program}
def I1:TypeDesc→Bool
 | .struct _ | .array _ _=>true
 | _=>false
theorem cb {t:TypeId} {d:TypeDesc} (h:P.underlying t=some d):(underlying t).run P w=.ok d w:=by simp [underlying,h]
theorem Md {t:TypeId} {i:TypeInfo} (h:P.info? t=some i):(typeInfo t).run P w=.ok i w:=by simp [typeInfo,h]
theorem gB {t:TypeId} {i:TypeInfo} (h:P.info? t=some i):(sizeOf t).run P w=.ok i.size w:=by simp [sizeOf,Md h]
theorem Me {t:TypeId} {d:TypeDesc} (h:P.underlying t=some d):(isAgg t).run P w=.ok (I1 d) w:=by
 simp only [isAgg,Sem.run_bind,cb h,Result.andThen_ok];cases d<;>rfl
theorem Rp {t:TypeId} {i:TypeInfo} {z:Value} (h:P.info? t=some i) (hz:i.zero=some z):(zeroValue t).run P w=.ok z w:=by simp [zeroValue,Md h,hz]
theorem Wk {o:Oper} {s:fU} {x:Operand} {v:AV} (ho:o.op=.move x∨o.op=.assign x) (hx:ee s x v):dr P o s ⟨v,[],[]⟩:=
 b6 fun {w F O μ K ft a} hs=>⟨a.eval x,by rcases ho with h | h<;>simp [execOp,h],hx hs⟩
theorem agj {o:Oper} {s:fU} {c x y:Operand} {d:Bool} {p q:Bool} (ho:o.op=.pick c x y) (hc:ee s c (.bool d)) (hx:ee s x (.wh d (.bool p))) (hy:ee s y (.wh (!d) (.bool q))):
  dr P o s ⟨.bool (cond d p q),[],[]⟩:=
 b6 fun {w F O μ K ft a} hs=>by
  have h:=(hc hs).fe;refine ⟨.bool (cond d p q),?_,.bool _⟩;cases d with
  | true=>simp only [execOp,ho,h,asBool,((hx hs).aac rfl).fe];rfl
  | false=>simp only [execOp,ho,h,asBool,((hy hs).aac rfl).fe];rfl
theorem Nx {o:Oper} {s:fU} {x:Operand} {i:Nat} {cs:List AV} (ho:o.op=.extract x i) (hx:ee s x (.nO cs)) (hi:i < cs.length):
  dr P o s ⟨cs.getD i .top,[],[]⟩:=
 b6 fun {w F O μ K ft a} hs=>by
  obtain ⟨vs,hv,hl,I2⟩:=(hx hs).IZ;refine ⟨vs.getD i undef,?_,I2 i hi⟩;have di:i < vs.length:=hl▸hi;simp [execOp,ho,hv,Instr.extract,di,List.getD]
theorem adX {o:Oper} {s:fU} {x:Operand} {t:TypeId} {b:Bool} (ho:o.op=.unOp .not t x) (hx:ee s x (.bool b)):dr P o s ⟨.bool (!b),[],[]⟩:=
 b6 fun {w F O μ K ft a} hs=>⟨.bool (!b),by simp [execOp,ho,(hx hs).fe,Op.unary],.bool _⟩
theorem adY {o:Oper} {s:fU} {x:Operand} {t:TypeId} {k:IntKind} {n:Int} (ho:o.op=.unOp .neg t x) (hx:ee s x (.int k n)):dr P o s ⟨.int k (k.wrap (0-n)),[],[]⟩:=
 b6 fun {w F O μ K ft a} hs=>⟨.int k (k.wrap (0-n)),by simp [execOp,ho,(hx hs).dd,Op.unary,Op.intArith],.int _ _⟩
theorem Kt (op:BinOp) (t:TypeId) (x y:Operand) (k k':IntKind) (m n:Int):(eqGuard op t x y (.int k m) (.int k' n)).run P w=.ok () w:=by
 unfold eqGuard;cases op<;>rfl
theorem P7 (op:BinOp) (t:TypeId) (x y:Operand) (m n:ByteArray):(eqGuard op t x y (.string m) (.string n)).run P w=.ok () w:=by
 unfold eqGuard;cases op<;>rfl
theorem Va (op:BinOp) (t:TypeId) (x y:Operand) (m n:Bool):(eqGuard op t x y (.bool m) (.bool n)).run P w=.ok () w:=by
 unfold eqGuard;cases op<;>rfl
def aP (k:IntKind) (m n:Int):Int:=k.wrap (m+n)
def bO (k:IntKind) (m n:Int):Int:=k.wrap (m-n)
def Xk (k:IntKind) (m n:Int):Int:=k.wrap (m*n)
def agO (k:IntKind) (n:Int):Int:=k.wrap (0-n)
def zo (k:IntKind) (n:Int):Int:=k.wrap n
def Sk (k:IntKind) (m n:Int):Int:=k.wrap (m.tdiv n)
def xp (m n:Int):Int:=m.tmod n
def bH (m n:Int):Bool:=m==n
def bK (m n:Int):Bool:=decide (m < n)
def b8 (m n:Int):Bool:=decide (m≤n)
def afa (k:IntKind) (x y:Int):Int:=k.wrap ((BitVec.ofInt k.bits x &&& BitVec.ofInt k.bits y).toNat:Int)
def bOr (k:IntKind) (x y:Int):Int:=k.wrap ((BitVec.ofInt k.bits x ||| BitVec.ofInt k.bits y).toNat:Int)
def afb (k:IntKind) (x y:Int):Int:=k.wrap ((BitVec.ofInt k.bits x ^^^ BitVec.ofInt k.bits y).toNat:Int)
def afc (k:IntKind) (x y:Int):Int:=k.wrap (x*2 ^ (min y.toNat k.bits))
def afd (k:IntKind) (x y:Int):Int:=x.fdiv (2 ^ (min y.toNat k.bits))
def seq (m n:List UInt8):Bool:=m==n
def slt (m n:List UInt8):Bool:=Op.bytesLess m n
def beq (m n:Bool):Bool:=m==n
def AE (m:List UInt8) (i:Int):Int:=((m.getD i.toNat 0).toNat:Int)
def aaf (op:BinOp) (k:IntKind) (m n:Int):Option AV:=
 match op with
 | .add=>some (.int k (aP k m n))
 | .sub=>some (.int k (bO k m n))
 | .mul=>some (.int k (Xk k m n))
 | .and=>some (.int k (afa k m n))
 | .or=>some (.int k (bOr k m n))
 | .xor=>some (.int k (afb k m n))
 | .eql=>some (.bool (bH m n))
 | .neq=>some (.bool (!bH m n))
 | .lss=>some (.bool (bK m n))
 | .leq=>some (.bool (b8 m n))
 | .gtr=>some (.bool (bK n m))
 | .geq=>some (.bool (b8 n m))
 | _=>none
theorem adZ {o:Oper} {s:fU} {x y:Operand} {op:BinOp} {t u:TypeId} {k:IntKind} {m n:Int} {r:AV} (ho:o.op=.binOp op t x y u) (hx:ee s x (.int k m)) (hy:ee s y (.int k n))
  (hr:aaf op k m n=some r):dr P o s ⟨r,[],[]⟩:=
 b6 fun {w F O μ K ft a} hs=>by
  have h:=(hx hs).dd;have h':=(hy hs).dd;cases op<;>simp [aaf] at hr<;>subst hr <;>
   exact ⟨_,by simp only [execOp,ho,h,h',Sem.run_bind,Kt,Result.andThen_ok];simp [binOp,Op.intArith,Op.intCmp,Op.intBits];try rfl,by first | exact .int _ _ | exact .bool _⟩
def aag (op:BinOp) (k:IntKind) (m n:Int):Option AV:=
 match op with
 | .quo=>some (.int k (Sk k m n))
 | .rem=>some (.int k (xp m n))
 | _=>none
theorem ad0 {o:Oper} {s:fU} {x y:Operand} {op:BinOp} {t u:TypeId} {k:IntKind} {m n:Int} {r:AV} (ho:o.op=.binOp op t x y u) (hx:ee s x (.int k m)) (hy:ee s y (.int k n))
  (hr:aag op k m n=some r) (hn:n≠0):dr P o s ⟨r,[],[]⟩:=
 b6 fun {w F O μ K ft a} hs=>by
  have h:=(hx hs).dd;have h':=(hy hs).dd;cases op<;>simp [aag] at hr<;>subst hr <;>
   exact ⟨_,by simp only [execOp,ho,h,h',Sem.run_bind,Kt,Result.andThen_ok];simp [binOp,Op.intDiv,hn];try rfl,.int _ _⟩
def Rq (op:BinOp) (k:IntKind) (m n:Int):Option AV:=
 match op with
 | .shl=>some (.int k (afc k m n))
 | .shr=>some (.int k (afd k m n))
 | _=>none
theorem aah {o:Oper} {s:fU} {x y:Operand} {op:BinOp} {t u:TypeId} {k k':IntKind} {m n:Int} {r:AV} (ho:o.op=.binOp op t x y u) (hx:ee s x (.int k m)) (hy:ee s y (.int k' n))
  (hr:Rq op k m n=some r) (hn:0≤n):dr P o s ⟨r,[],[]⟩:=
 b6 fun {w F O μ K ft a} hs=>by
  have h:=(hx hs).dd;have h':=(hy hs).dd;have hn':¬ n < 0:=by omega
  cases op<;>simp [Rq] at hr<;>subst hr <;>
   exact ⟨_,by simp only [execOp,ho,h,h',Sem.run_bind,Kt,Result.andThen_ok];simp [binOp,Op.shift,hn'];rfl,.int _ _⟩
theorem abN {o:Oper} {s:fU} {x:Operand} {t u:TypeId} {d:TypeDesc} {k k':IntKind} {m:Int} (ho:o.op=.convert t u x) (hx:ee s x (.int k m)) (ht:P.underlying t=some d) (hu:P.underlying u=some (.int k')):
  dr P o s ⟨.int k' (zo k' m),[],[]⟩:=
 b6 fun {w F O μ K ft a} hs=>by
  refine ⟨.int k' (k'.wrap m),?_,.int _ _⟩;simp only [execOp,ho,(hx hs).dd,Sem.run_bind,convert,cb ht,cb hu,Result.andThen_ok];simp [Conv.intToInt]
theorem toList_mk (s:List UInt8):(⟨⟨s⟩⟩:ByteArray).toList=s:=by rw [ByteArray.toList_eq]
def aai (op:BinOp) (m n:List UInt8):Option AV:=
 match op with
 | .eql=>some (.bool (seq m n))
 | .neq=>some (.bool (!seq m n))
 | .lss=>some (.bool (slt m n))
 | .leq=>some (.bool (slt m n||seq m n))
 | .gtr=>some (.bool (!(slt m n||seq m n)))
 | .geq=>some (.bool (!slt m n))
 | _=>none
theorem ad1 {o:Oper} {s:fU} {x y:Operand} {op:BinOp} {t u:TypeId} {m n:List UInt8} {r:AV} (ho:o.op=.binOp op t x y u) (hx:ee s x (.str m)) (hy:ee s y (.str n))
  (hr:aai op m n=some r):dr P o s ⟨r,[],[]⟩:=
 b6 fun {w F O μ K ft a} hs=>by
  have h:=(hx hs).jF;have h':=(hy hs).jF;cases op<;>simp [aai] at hr<;>subst hr <;>
   exact ⟨_,by simp only [execOp,ho,h,h',Sem.run_bind,P7,Result.andThen_ok];simp [binOp,Op.stringOp];try rfl,.bool _⟩
theorem ad2 {o:Oper} {s:fU} {x y:Operand} {t u:TypeId} {m n:List UInt8} (ho:o.op=.binOp .add t x y u) (hx:ee s x (.str m)) (hy:ee s y (.str n))
  (hl:m.length+n.length < 1099511627776):dr P o s ⟨.str (m++n),[],[]⟩:=
 b6 fun {w F O μ K ft a} hs=>by
  refine ⟨.string ⟨⟨m++n⟩⟩,?_,.str _⟩;simp only [execOp,ho,(hx hs).jF,(hy hs).jF,Sem.run_bind,P7,Result.andThen_ok];have hs:¬ (((⟨⟨m⟩⟩:ByteArray).size+(⟨⟨n⟩⟩:ByteArray).size:Nat):Int) > IntKind.i64.max:=by
   simp [ByteArray.size,IntKind.max,IntKind.signed,IntKind.bits];omega
  have hc:(⟨⟨m⟩⟩:ByteArray)++⟨⟨n⟩⟩=⟨⟨m++n⟩⟩:=by ext1;simp [ByteArray.data_append]
  simp only [binOp,Op.stringOp,if_neg hs,hc];rfl
theorem ad3 {o:Oper} {s:fU} {x y:Operand} {t:TypeId} {m:List UInt8} {k:IntKind} {i:Int} (ho:o.op=.index t x y) (hx:ee s x (.str m)) (hy:ee s y (.int k i)) (ht:P.underlying t=some .string)
  (h0:0≤i) (h1:i < m.length):dr P o s ⟨.int .u8 (AE m i),[],[]⟩:=
 b6 fun {w F O μ K ft a} hs=>by
  refine ⟨.int .u8 ((m.getD i.toNat 0).toNat:Int),?_,.int _ _⟩;have dT:i.toNat < m.length:=by omega
  have hg:(⟨⟨m⟩⟩:ByteArray)[i.toNat]?=some (m.getD i.toNat 0):=by
   rw [getElem?_pos _ _ (by simpa [ByteArray.size] using dT)];simp [dT,List.getD];rfl
  simp only [execOp,ho,(hx hs).jF,(hy hs).dd,Instr.index,asIntOf,Sem.run_bind,Sem.run_pure,Result.andThen_ok,cb ht,if_pos h0,hg]
def Vb (op:BinOp) (m n:Bool):Option AV:=
 match op with
 | .eql=>some (.bool (beq m n))
 | .neq=>some (.bool (!beq m n))
 | _=>none
theorem abO {o:Oper} {s:fU} {x y:Operand} {op:BinOp} {t u:TypeId} {m n:Bool} {r:AV} (ho:o.op=.binOp op t x y u) (hx:ee s x (.bool m)) (hy:ee s y (.bool n))
  (ht:P.underlying t=some .bool) (hr:Vb op m n=some r):dr P o s ⟨r,[],[]⟩:=
 b6 fun {w F O μ K ft a} hs=>by
  have e1:=(hx hs).fe;have e2:=(hy hs).fe;cases op<;>simp [Vb] at hr<;>subst hr <;>
   exact ⟨_,by simp only [execOp,ho,e1,e2,Sem.run_bind,Va,Result.andThen_ok,run_eql_bool _ _ _ _ ht,run_neq_bool _ _ _ _ ht];rfl,.bool _⟩
theorem Tg {o:Oper} {s:fU} {fn:Fn} {xs ys:List Operand} {l m:List AV} (ho:o.op=.makeFunc fn ⟨xs⟩ ⟨ys⟩) (hx:Pl s xs l) (hy:Pl s ys m):dr P o s ⟨.fn fn l m,[],[]⟩:=
 b6 fun {w F O μ K ft a} hs=>⟨.func fn ⟨xs.map a.eval⟩ ⟨ys.map a.eval⟩,by simp [execOp,ho,Instr.makeFunc],.aad (hx hs) (hy hs)⟩
def Vc:TypeDesc→Bool
 | .interface _=>true
 | _=>false
theorem Ku {o:Oper} {s:fU} {t:TypeId} {d:TypeDesc} {x:Operand} {v:AV} (ho:o.op=.makeInterface t x) (hx:ee s x v) (ht:P.underlying t=some d) (hd:Vc d=false):dr P o s ⟨.pJ t v,[],[]⟩:=
 b6 fun {w F O μ K ft a} hs=>by
  refine ⟨.iface t (a.eval x),?_,.pJ _ _ _ (hx hs)⟩;simp only [execOp,ho,Instr.makeInterface,Sem.run_bind,cb ht,Result.andThen_ok];cases d<;>first | rfl | (simp [Vc] at hd)
end Go.Proofs.YtjkbbdldmdajkaaGreatDoor.c_
