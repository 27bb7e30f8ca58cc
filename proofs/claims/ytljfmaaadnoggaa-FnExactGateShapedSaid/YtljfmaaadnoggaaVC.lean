/- Operations that only yield a value, the first part: copies, numbers, texts, tests. No condition. -/
import Derived.Test.YtljfmaaadnoggaaVB
import Derived.Laws.Cells
import Derived.Laws.Strings
import Derived.Laws.Small
import Derived.Laws.StructEq
namespace Go.Proofs.Ytljfmaaadnoggaa.Abs
open Go Go.RowKit
variable {w w' w'':World} {F F' F'' O O' O'':Nat→Prop} {μ μ' μ'':Nat→Nat} {K K' K'':Nat→Prop} {H H' H'':Hp} {ft ft':Nat→Nat→Prop} {P:Program}
def aggD:TypeDesc→Bool
 | .struct _ | .array _ _=>true
 | _=>false
theorem run_und {t:TypeId} {d:TypeDesc} (h:P.underlying t=some d):(underlying t).run P w=.ok d w:=by simp [underlying,h]
theorem run_inf {t:TypeId} {i:TypeInfo} (h:P.info? t=some i):(typeInfo t).run P w=.ok i w:=by simp [typeInfo,h]
theorem run_siz {t:TypeId} {i:TypeInfo} (h:P.info? t=some i):(sizeOf t).run P w=.ok i.size w:=by simp [sizeOf,run_inf h]
theorem run_agg {t:TypeId} {d:TypeDesc} (h:P.underlying t=some d):(isAgg t).run P w=.ok (aggD d) w:=by
 simp only [isAgg,Sem.run_bind,run_und h,Result.andThen_ok]
 cases d<;>rfl
theorem run_zer {t:TypeId} {i:TypeInfo} {z:Value} (h:P.info? t=some i) (hz:i.zero=some z):(zeroValue t).run P w=.ok z w:=by simp [zeroValue,run_inf h,hz]
theorem op_move {o:Oper} {s:SSt} {x:Operand} {v:AV} (ho:o.op=.move x∨o.op=.assign x) (hx:Opd s x v):OpOk P o s ⟨v,[],[]⟩:=
 opok_value fun {w F O μ K ft a} hs=>⟨a.eval x,by rcases ho with h | h<;>simp [execOp,h],hx hs⟩
theorem op_pick {o:Oper} {s:SSt} {c x y:Operand} {d:Bool} {p q:Bool} (ho:o.op=.pick c x y) (hc:Opd s c (.bool d)) (hx:Opd s x (.wh d (.bool p))) (hy:Opd s y (.wh (!d) (.bool q))):
  OpOk P o s ⟨.bool (cond d p q),[],[]⟩:=
 opok_value fun {w F O μ K ft a} hs=>by
  have h:=(hc hs).bool_inv
  refine ⟨.bool (cond d p q),?_,.bool _⟩
  cases d with
  | true=>simp only [execOp,ho,h,asBool,((hx hs).wh_inv rfl).bool_inv];rfl
  | false=>simp only [execOp,ho,h,asBool,((hy hs).wh_inv rfl).bool_inv];rfl
theorem op_extract {o:Oper} {s:SSt} {x:Operand} {i:Nat} {cs:List AV} (ho:o.op=.extract x i) (hx:Opd s x (.tup cs)) (hi:i < cs.length):
  OpOk P o s ⟨cs.getD i .top,[],[]⟩:=
 opok_value fun {w F O μ K ft a} hs=>by
  obtain ⟨vs,hv,hl,hv'⟩:=(hx hs).tup_inv
  refine ⟨vs.getD i undef,?_,hv' i hi⟩
  have hi':i < vs.length:=hl▸hi
  simp [execOp,ho,hv,Instr.extract,hi',List.getD]
theorem op_not {o:Oper} {s:SSt} {x:Operand} {t:TypeId} {b:Bool} (ho:o.op=.unOp .not t x) (hx:Opd s x (.bool b)):OpOk P o s ⟨.bool (!b),[],[]⟩:=
 opok_value fun {w F O μ K ft a} hs=>⟨.bool (!b),by simp [execOp,ho,(hx hs).bool_inv,Op.unary],.bool _⟩
theorem op_neg {o:Oper} {s:SSt} {x:Operand} {t:TypeId} {k:IntKind} {n:Int} (ho:o.op=.unOp .neg t x) (hx:Opd s x (.int k n)):OpOk P o s ⟨.int k (k.wrap (0-n)),[],[]⟩:=
 opok_value fun {w F O μ K ft a} hs=>⟨.int k (k.wrap (0-n)),by simp [execOp,ho,(hx hs).int_inv,Op.unary,Op.intArith],.int _ _⟩
theorem guard_int (op:BinOp) (t:TypeId) (x y:Operand) (k k':IntKind) (m n:Int):(eqGuard op t x y (.int k m) (.int k' n)).run P w=.ok () w:=by
 unfold eqGuard;cases op<;>rfl
theorem guard_str (op:BinOp) (t:TypeId) (x y:Operand) (m n:ByteArray):(eqGuard op t x y (.string m) (.string n)).run P w=.ok () w:=by
 unfold eqGuard;cases op<;>rfl
theorem guard_bool (op:BinOp) (t:TypeId) (x y:Operand) (m n:Bool):(eqGuard op t x y (.bool m) (.bool n)).run P w=.ok () w:=by
 unfold eqGuard;cases op<;>rfl
def iadd (k:IntKind) (m n:Int):Int:=k.wrap (m+n)
def isub (k:IntKind) (m n:Int):Int:=k.wrap (m-n)
def imul (k:IntKind) (m n:Int):Int:=k.wrap (m*n)
def ineg (k:IntKind) (n:Int):Int:=k.wrap (0-n)
def iconv (k:IntKind) (n:Int):Int:=k.wrap n
def iquo (k:IntKind) (m n:Int):Int:=k.wrap (m.tdiv n)
def irem (m n:Int):Int:=m.tmod n
def ieq (m n:Int):Bool:=m==n
def ilt (m n:Int):Bool:=decide (m < n)
def ile (m n:Int):Bool:=decide (m≤n)
def bAnd (k:IntKind) (x y:Int):Int:=k.wrap ((BitVec.ofInt k.bits x &&& BitVec.ofInt k.bits y).toNat:Int)
def bOr (k:IntKind) (x y:Int):Int:=k.wrap ((BitVec.ofInt k.bits x ||| BitVec.ofInt k.bits y).toNat:Int)
def bXor (k:IntKind) (x y:Int):Int:=k.wrap ((BitVec.ofInt k.bits x ^^^ BitVec.ofInt k.bits y).toNat:Int)
def bShl (k:IntKind) (x y:Int):Int:=k.wrap (x*2 ^ (min y.toNat k.bits))
def bShr (k:IntKind) (x y:Int):Int:=x.fdiv (2 ^ (min y.toNat k.bits))
def seq (m n:List UInt8):Bool:=m==n
def slt (m n:List UInt8):Bool:=Op.bytesLess m n
def beq (m n:Bool):Bool:=m==n
def sidx (m:List UInt8) (i:Int):Int:=((m.getD i.toNat 0).toNat:Int)
def intOp (op:BinOp) (k:IntKind) (m n:Int):Option AV:=
 match op with
 | .add=>some (.int k (iadd k m n))
 | .sub=>some (.int k (isub k m n))
 | .mul=>some (.int k (imul k m n))
 | .and=>some (.int k (bAnd k m n))
 | .or=>some (.int k (bOr k m n))
 | .xor=>some (.int k (bXor k m n))
 | .eql=>some (.bool (ieq m n))
 | .neq=>some (.bool (!ieq m n))
 | .lss=>some (.bool (ilt m n))
 | .leq=>some (.bool (ile m n))
 | .gtr=>some (.bool (ilt n m))
 | .geq=>some (.bool (ile n m))
 | _=>none
theorem op_int {o:Oper} {s:SSt} {x y:Operand} {op:BinOp} {t u:TypeId} {k:IntKind} {m n:Int} {r:AV} (ho:o.op=.binOp op t x y u) (hx:Opd s x (.int k m)) (hy:Opd s y (.int k n))
  (hr:intOp op k m n=some r):OpOk P o s ⟨r,[],[]⟩:=
 opok_value fun {w F O μ K ft a} hs=>by
  have h:=(hx hs).int_inv
  have h':=(hy hs).int_inv
  cases op<;>simp [intOp] at hr<;>subst hr <;>
   exact ⟨_,by simp only [execOp,ho,h,h',Sem.run_bind,guard_int,Result.andThen_ok];simp [binOp,Op.intArith,Op.intCmp,Op.intBits];try rfl,by first | exact .int _ _ | exact .bool _⟩
def divOp (op:BinOp) (k:IntKind) (m n:Int):Option AV:=
 match op with
 | .quo=>some (.int k (iquo k m n))
 | .rem=>some (.int k (irem m n))
 | _=>none
theorem op_div {o:Oper} {s:SSt} {x y:Operand} {op:BinOp} {t u:TypeId} {k:IntKind} {m n:Int} {r:AV} (ho:o.op=.binOp op t x y u) (hx:Opd s x (.int k m)) (hy:Opd s y (.int k n))
  (hr:divOp op k m n=some r) (hn:n≠0):OpOk P o s ⟨r,[],[]⟩:=
 opok_value fun {w F O μ K ft a} hs=>by
  have h:=(hx hs).int_inv
  have h':=(hy hs).int_inv
  cases op<;>simp [divOp] at hr<;>subst hr <;>
   exact ⟨_,by simp only [execOp,ho,h,h',Sem.run_bind,guard_int,Result.andThen_ok];simp [binOp,Op.intDiv,hn];try rfl,.int _ _⟩
def shiftOp (op:BinOp) (k:IntKind) (m n:Int):Option AV:=
 match op with
 | .shl=>some (.int k (bShl k m n))
 | .shr=>some (.int k (bShr k m n))
 | _=>none
theorem op_shift {o:Oper} {s:SSt} {x y:Operand} {op:BinOp} {t u:TypeId} {k k':IntKind} {m n:Int} {r:AV} (ho:o.op=.binOp op t x y u) (hx:Opd s x (.int k m)) (hy:Opd s y (.int k' n))
  (hr:shiftOp op k m n=some r) (hn:0≤n):OpOk P o s ⟨r,[],[]⟩:=
 opok_value fun {w F O μ K ft a} hs=>by
  have h:=(hx hs).int_inv
  have h':=(hy hs).int_inv
  have hn':¬ n < 0:=by omega
  cases op<;>simp [shiftOp] at hr<;>subst hr <;>
   exact ⟨_,by simp only [execOp,ho,h,h',Sem.run_bind,guard_int,Result.andThen_ok];simp [binOp,Op.shift,hn'];rfl,.int _ _⟩
theorem op_conv {o:Oper} {s:SSt} {x:Operand} {t u:TypeId} {d:TypeDesc} {k k':IntKind} {m:Int} (ho:o.op=.convert t u x) (hx:Opd s x (.int k m)) (ht:P.underlying t=some d) (hu:P.underlying u=some (.int k')):
  OpOk P o s ⟨.int k' (iconv k' m),[],[]⟩:=
 opok_value fun {w F O μ K ft a} hs=>by
  refine ⟨.int k' (k'.wrap m),?_,.int _ _⟩
  simp only [execOp,ho,(hx hs).int_inv,Sem.run_bind,convert,run_und ht,run_und hu,Result.andThen_ok]
  simp [Conv.intToInt]
theorem toList_mk (s:List UInt8):(⟨⟨s⟩⟩:ByteArray).toList=s:=by rw [ByteArray.toList_eq]
def strOp (op:BinOp) (m n:List UInt8):Option AV:=
 match op with
 | .eql=>some (.bool (seq m n))
 | .neq=>some (.bool (!seq m n))
 | .lss=>some (.bool (slt m n))
 | .leq=>some (.bool (slt m n||seq m n))
 | .gtr=>some (.bool (!(slt m n||seq m n)))
 | .geq=>some (.bool (!slt m n))
 | _=>none
theorem op_str {o:Oper} {s:SSt} {x y:Operand} {op:BinOp} {t u:TypeId} {m n:List UInt8} {r:AV} (ho:o.op=.binOp op t x y u) (hx:Opd s x (.str m)) (hy:Opd s y (.str n))
  (hr:strOp op m n=some r):OpOk P o s ⟨r,[],[]⟩:=
 opok_value fun {w F O μ K ft a} hs=>by
  have h:=(hx hs).str_inv
  have h':=(hy hs).str_inv
  cases op<;>simp [strOp] at hr<;>subst hr <;>
   exact ⟨_,by simp only [execOp,ho,h,h',Sem.run_bind,guard_str,Result.andThen_ok];simp [binOp,Op.stringOp];try rfl,.bool _⟩
theorem op_cat {o:Oper} {s:SSt} {x y:Operand} {t u:TypeId} {m n:List UInt8} (ho:o.op=.binOp .add t x y u) (hx:Opd s x (.str m)) (hy:Opd s y (.str n))
  (hl:m.length+n.length < 1099511627776):OpOk P o s ⟨.str (m++n),[],[]⟩:=
 opok_value fun {w F O μ K ft a} hs=>by
  refine ⟨.string ⟨⟨m++n⟩⟩,?_,.str _⟩
  simp only [execOp,ho,(hx hs).str_inv,(hy hs).str_inv,Sem.run_bind,guard_str,Result.andThen_ok]
  have hs:¬ (((⟨⟨m⟩⟩:ByteArray).size+(⟨⟨n⟩⟩:ByteArray).size:Nat):Int) > IntKind.i64.max:=by
   simp [ByteArray.size,IntKind.max,IntKind.signed,IntKind.bits];omega
  have hc:(⟨⟨m⟩⟩:ByteArray)++⟨⟨n⟩⟩=⟨⟨m++n⟩⟩:=by ext1;simp [ByteArray.data_append]
  simp only [binOp,Op.stringOp,if_neg hs,hc]
  rfl
theorem op_idx {o:Oper} {s:SSt} {x y:Operand} {t:TypeId} {m:List UInt8} {k:IntKind} {i:Int} (ho:o.op=.index t x y) (hx:Opd s x (.str m)) (hy:Opd s y (.int k i)) (ht:P.underlying t=some .string)
  (h0:0≤i) (h1:i < m.length):OpOk P o s ⟨.int .u8 (sidx m i),[],[]⟩:=
 opok_value fun {w F O μ K ft a} hs=>by
  refine ⟨.int .u8 ((m.getD i.toNat 0).toNat:Int),?_,.int _ _⟩
  have hlt:i.toNat < m.length:=by omega
  have hg:(⟨⟨m⟩⟩:ByteArray)[i.toNat]?=some (m.getD i.toNat 0):=by
   rw [getElem?_pos _ _ (by simpa [ByteArray.size] using hlt)]
   simp [hlt,List.getD]
   rfl
  simp only [execOp,ho,(hx hs).str_inv,(hy hs).int_inv,Instr.index,asIntOf,Sem.run_bind,Sem.run_pure,Result.andThen_ok,run_und ht,if_pos h0,hg]
def boolOp (op:BinOp) (m n:Bool):Option AV:=
 match op with
 | .eql=>some (.bool (beq m n))
 | .neq=>some (.bool (!beq m n))
 | _=>none
theorem op_bool {o:Oper} {s:SSt} {x y:Operand} {op:BinOp} {t u:TypeId} {m n:Bool} {r:AV} (ho:o.op=.binOp op t x y u) (hx:Opd s x (.bool m)) (hy:Opd s y (.bool n))
  (ht:P.underlying t=some .bool) (hr:boolOp op m n=some r):OpOk P o s ⟨r,[],[]⟩:=
 opok_value fun {w F O μ K ft a} hs=>by
  have e1:=(hx hs).bool_inv
  have e2:=(hy hs).bool_inv
  cases op<;>simp [boolOp] at hr<;>subst hr <;>
   exact ⟨_,by simp only [execOp,ho,e1,e2,Sem.run_bind,guard_bool,Result.andThen_ok,run_eql_bool _ _ _ _ ht,run_neq_bool _ _ _ _ ht];rfl,.bool _⟩
theorem op_makeFunc {o:Oper} {s:SSt} {fn:Fn} {xs ys:List Operand} {l m:List AV} (ho:o.op=.makeFunc fn ⟨xs⟩ ⟨ys⟩) (hx:Opds s xs l) (hy:Opds s ys m):OpOk P o s ⟨.fn fn l m,[],[]⟩:=
 opok_value fun {w F O μ K ft a} hs=>⟨.func fn ⟨xs.map a.eval⟩ ⟨ys.map a.eval⟩,by simp [execOp,ho,Instr.makeFunc],.mkFn (hx hs) (hy hs)⟩
def ifaceD:TypeDesc→Bool
 | .interface _=>true
 | _=>false
theorem op_makeInterface {o:Oper} {s:SSt} {t:TypeId} {d:TypeDesc} {x:Operand} {v:AV} (ho:o.op=.makeInterface t x) (hx:Opd s x v) (ht:P.underlying t=some d) (hd:ifaceD d=false):OpOk P o s ⟨.ifc t v,[],[]⟩:=
 opok_value fun {w F O μ K ft a} hs=>by
  refine ⟨.iface t (a.eval x),?_,.ifc _ _ _ (hx hs)⟩
  simp only [execOp,ho,Instr.makeInterface,Sem.run_bind,run_und ht,Result.andThen_ok]
  cases d<;>first | rfl | (simp [ifaceD] at hd)
end Go.Proofs.Ytljfmaaadnoggaa.Abs
