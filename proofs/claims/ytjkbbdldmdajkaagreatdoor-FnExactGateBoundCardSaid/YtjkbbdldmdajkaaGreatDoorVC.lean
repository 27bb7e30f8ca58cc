/- Operations that only yield a value, the first part: copies, numbers, texts, tests. No condition. -/
import Derived.Test.YtjkbbdldmdajkaaGreatDoorVB
import Derived.Laws.Cells
import Derived.Laws.Strings
import Derived.Laws.Small
import Derived.Laws.StructEq
namespace Go.Proofs.YtjkbbdldmdajkaaGreatDoor.c_
open Go Go.RowKit
variable {w w' xk:World} {F F' Bs O O' v8:Nat→Prop} {μ bC lG:Nat→Nat} {K K' EF:Nat→Prop} {H H' H'':Hp} {ft bZ:Nat→Nat→Prop} {P:Program}
def I3:TypeDesc→Bool
 | .struct _ | .array _ _=>true
 | _=>false
theorem cb {t:TypeId} {d:TypeDesc} (h:P.underlying t=some d):(underlying t).run P w=.ok d w:=by simp [underlying,h]
theorem Me {t:TypeId} {i:TypeInfo} (h:P.info? t=some i):(typeInfo t).run P w=.ok i w:=by simp [typeInfo,h]
theorem gD {t:TypeId} {i:TypeInfo} (h:P.info? t=some i):(sizeOf t).run P w=.ok i.size w:=by simp [sizeOf,Me h]
theorem Mf {t:TypeId} {d:TypeDesc} (h:P.underlying t=some d):(isAgg t).run P w=.ok (I3 d) w:=by
 simp only [isAgg,Sem.run_bind,cb h,Result.andThen_ok];cases d<;>rfl
theorem Rs {t:TypeId} {i:TypeInfo} {z:Value} (h:P.info? t=some i) (hz:i.zero=some z):(zeroValue t).run P w=.ok z w:=by simp [zeroValue,Me h,hz]
theorem Wn {o:Oper} {s:fT} {x:Operand} {v:AV} (ho:o.op=.move x∨o.op=.assign x) (hx:ee s x v):dr P o s ⟨v,[],[]⟩:=
 b6 fun {w F O μ K ft a} hs=>⟨a.eval x,by rcases ho with h | h<;>simp [execOp,h],hx hs⟩
theorem agn {o:Oper} {s:fT} {c x y:Operand} {d:Bool} {p q:Bool} (ho:o.op=.pick c x y) (hc:ee s c (.bool d)) (hx:ee s x (.wh d (.bool p))) (hy:ee s y (.wh (!d) (.bool q))):
  dr P o s ⟨.bool (cond d p q),[],[]⟩:=
 b6 fun {w F O μ K ft a} hs=>by
  have h:=(hc hs).fe;refine ⟨.bool (cond d p q),?_,.bool _⟩;cases d with
  | true=>simp only [execOp,ho,h,asBool,((hx hs).aag rfl).fe];rfl
  | false=>simp only [execOp,ho,h,asBool,((hy hs).aag rfl).fe];rfl
theorem Ny {o:Oper} {s:fT} {x:Operand} {i:Nat} {cs:List AV} (ho:o.op=.extract x i) (hx:ee s x (.nP cs)) (hi:i < cs.length):
  dr P o s ⟨cs.getD i .top,[],[]⟩:=
 b6 fun {w F O μ K ft a} hs=>by
  obtain ⟨vs,hv,hl,I4⟩:=(hx hs).I1;refine ⟨vs.getD i undef,?_,I4 i hi⟩;have di:i < vs.length:=hl▸hi;simp [execOp,ho,hv,Instr.extract,di,List.getD]
theorem ad0 {o:Oper} {s:fT} {x:Operand} {t:TypeId} {b:Bool} (ho:o.op=.unOp .not t x) (hx:ee s x (.bool b)):dr P o s ⟨.bool (!b),[],[]⟩:=
 b6 fun {w F O μ K ft a} hs=>⟨.bool (!b),by simp [execOp,ho,(hx hs).fe,Op.unary],.bool _⟩
theorem ad1 {o:Oper} {s:fT} {x:Operand} {t:TypeId} {k:IntKind} {n:Int} (ho:o.op=.unOp .neg t x) (hx:ee s x (.int k n)):dr P o s ⟨.int k (k.wrap (0-n)),[],[]⟩:=
 b6 fun {w F O μ K ft a} hs=>⟨.int k (k.wrap (0-n)),by simp [execOp,ho,(hx hs).de,Op.unary,Op.intArith],.int _ _⟩
theorem Ku (op:BinOp) (t:TypeId) (x y:Operand) (k k':IntKind) (m n:Int):(eqGuard op t x y (.int k m) (.int k' n)).run P w=.ok () w:=by
 unfold eqGuard;cases op<;>rfl
theorem Qa (op:BinOp) (t:TypeId) (x y:Operand) (m n:ByteArray):(eqGuard op t x y (.string m) (.string n)).run P w=.ok () w:=by
 unfold eqGuard;cases op<;>rfl
theorem Vd (op:BinOp) (t:TypeId) (x y:Operand) (m n:Bool):(eqGuard op t x y (.bool m) (.bool n)).run P w=.ok () w:=by
 unfold eqGuard;cases op<;>rfl
def aP (k:IntKind) (m n:Int):Int:=k.wrap (m+n)
def bO (k:IntKind) (m n:Int):Int:=k.wrap (m-n)
def Xn (k:IntKind) (m n:Int):Int:=k.wrap (m*n)
def agS (k:IntKind) (n:Int):Int:=k.wrap (0-n)
def zu (k:IntKind) (n:Int):Int:=k.wrap n
def Sn (k:IntKind) (m n:Int):Int:=k.wrap (m.tdiv n)
def xr (m n:Int):Int:=m.tmod n
def bH (m n:Int):Bool:=m==n
def bK (m n:Int):Bool:=decide (m < n)
def b8 (m n:Int):Bool:=decide (m≤n)
def afe (k:IntKind) (x y:Int):Int:=k.wrap ((BitVec.ofInt k.bits x &&& BitVec.ofInt k.bits y).toNat:Int)
def bOr (k:IntKind) (x y:Int):Int:=k.wrap ((BitVec.ofInt k.bits x ||| BitVec.ofInt k.bits y).toNat:Int)
def aff (k:IntKind) (x y:Int):Int:=k.wrap ((BitVec.ofInt k.bits x ^^^ BitVec.ofInt k.bits y).toNat:Int)
def afg (k:IntKind) (x y:Int):Int:=k.wrap (x*2 ^ (min y.toNat k.bits))
def afh (k:IntKind) (x y:Int):Int:=x.fdiv (2 ^ (min y.toNat k.bits))
def seq (m n:List UInt8):Bool:=m==n
def slt (m n:List UInt8):Bool:=Op.bytesLess m n
def beq (m n:Bool):Bool:=m==n
def AI (m:List UInt8) (i:Int):Int:=((m.getD i.toNat 0).toNat:Int)
def aaj (op:BinOp) (k:IntKind) (m n:Int):Option AV:=
 match op with
 | .add=>some (.int k (aP k m n))
 | .sub=>some (.int k (bO k m n))
 | .mul=>some (.int k (Xn k m n))
 | .and=>some (.int k (afe k m n))
 | .or=>some (.int k (bOr k m n))
 | .xor=>some (.int k (aff k m n))
 | .eql=>some (.bool (bH m n))
 | .neq=>some (.bool (!bH m n))
 | .lss=>some (.bool (bK m n))
 | .leq=>some (.bool (b8 m n))
 | .gtr=>some (.bool (bK n m))
 | .geq=>some (.bool (b8 n m))
 | _=>none
theorem ad2 {o:Oper} {s:fT} {x y:Operand} {op:BinOp} {t u:TypeId} {k:IntKind} {m n:Int} {r:AV} (ho:o.op=.binOp op t x y u) (hx:ee s x (.int k m)) (hy:ee s y (.int k n))
  (hr:aaj op k m n=some r):dr P o s ⟨r,[],[]⟩:=
 b6 fun {w F O μ K ft a} hs=>by
  have h:=(hx hs).de;have h':=(hy hs).de;cases op<;>simp [aaj] at hr<;>subst hr <;>
   exact ⟨_,by simp only [execOp,ho,h,h',Sem.run_bind,Ku,Result.andThen_ok];simp [binOp,Op.intArith,Op.intCmp,Op.intBits];try rfl,by first | exact .int _ _ | exact .bool _⟩
def aak (op:BinOp) (k:IntKind) (m n:Int):Option AV:=
 match op with
 | .quo=>some (.int k (Sn k m n))
 | .rem=>some (.int k (xr m n))
 | _=>none
theorem ad3 {o:Oper} {s:fT} {x y:Operand} {op:BinOp} {t u:TypeId} {k:IntKind} {m n:Int} {r:AV} (ho:o.op=.binOp op t x y u) (hx:ee s x (.int k m)) (hy:ee s y (.int k n))
  (hr:aak op k m n=some r) (hn:n≠0):dr P o s ⟨r,[],[]⟩:=
 b6 fun {w F O μ K ft a} hs=>by
  have h:=(hx hs).de;have h':=(hy hs).de;cases op<;>simp [aak] at hr<;>subst hr <;>
   exact ⟨_,by simp only [execOp,ho,h,h',Sem.run_bind,Ku,Result.andThen_ok];simp [binOp,Op.intDiv,hn];try rfl,.int _ _⟩
def Rt (op:BinOp) (k:IntKind) (m n:Int):Option AV:=
 match op with
 | .shl=>some (.int k (afg k m n))
 | .shr=>some (.int k (afh k m n))
 | _=>none
theorem aal {o:Oper} {s:fT} {x y:Operand} {op:BinOp} {t u:TypeId} {k k':IntKind} {m n:Int} {r:AV} (ho:o.op=.binOp op t x y u) (hx:ee s x (.int k m)) (hy:ee s y (.int k' n))
  (hr:Rt op k m n=some r) (hn:0≤n):dr P o s ⟨r,[],[]⟩:=
 b6 fun {w F O μ K ft a} hs=>by
  have h:=(hx hs).de;have h':=(hy hs).de;have hn':¬ n < 0:=by omega
  cases op<;>simp [Rt] at hr<;>subst hr <;>
   exact ⟨_,by simp only [execOp,ho,h,h',Sem.run_bind,Ku,Result.andThen_ok];simp [binOp,Op.shift,hn'];rfl,.int _ _⟩
theorem abQ {o:Oper} {s:fT} {x:Operand} {t u:TypeId} {d:TypeDesc} {k k':IntKind} {m:Int} (ho:o.op=.convert t u x) (hx:ee s x (.int k m)) (ht:P.underlying t=some d) (hu:P.underlying u=some (.int k')):
  dr P o s ⟨.int k' (zu k' m),[],[]⟩:=
 b6 fun {w F O μ K ft a} hs=>by
  refine ⟨.int k' (k'.wrap m),?_,.int _ _⟩;simp only [execOp,ho,(hx hs).de,Sem.run_bind,convert,cb ht,cb hu,Result.andThen_ok];simp [Conv.intToInt]
theorem toList_mk (s:List UInt8):(⟨⟨s⟩⟩:ByteArray).toList=s:=by rw [ByteArray.toList_eq]
def aam (op:BinOp) (m n:List UInt8):Option AV:=
 match op with
 | .eql=>some (.bool (seq m n))
 | .neq=>some (.bool (!seq m n))
 | .lss=>some (.bool (slt m n))
 | .leq=>some (.bool (slt m n||seq m n))
 | .gtr=>some (.bool (!(slt m n||seq m n)))
 | .geq=>some (.bool (!slt m n))
 | _=>none
theorem ad4 {o:Oper} {s:fT} {x y:Operand} {op:BinOp} {t u:TypeId} {m n:List UInt8} {r:AV} (ho:o.op=.binOp op t x y u) (hx:ee s x (.str m)) (hy:ee s y (.str n))
  (hr:aam op m n=some r):dr P o s ⟨r,[],[]⟩:=
 b6 fun {w F O μ K ft a} hs=>by
  have h:=(hx hs).jF;have h':=(hy hs).jF;cases op<;>simp [aam] at hr<;>subst hr <;>
   exact ⟨_,by simp only [execOp,ho,h,h',Sem.run_bind,Qa,Result.andThen_ok];simp [binOp,Op.stringOp];try rfl,.bool _⟩
theorem ad5 {o:Oper} {s:fT} {x y:Operand} {t u:TypeId} {m n:List UInt8} (ho:o.op=.binOp .add t x y u) (hx:ee s x (.str m)) (hy:ee s y (.str n))
  (hl:m.length+n.length < 1099511627776):dr P o s ⟨.str (m++n),[],[]⟩:=
 b6 fun {w F O μ K ft a} hs=>by
  refine ⟨.string ⟨⟨m++n⟩⟩,?_,.str _⟩;simp only [execOp,ho,(hx hs).jF,(hy hs).jF,Sem.run_bind,Qa,Result.andThen_ok];have hs:¬ (((⟨⟨m⟩⟩:ByteArray).size+(⟨⟨n⟩⟩:ByteArray).size:Nat):Int) > IntKind.i64.max:=by
   simp [ByteArray.size,IntKind.max,IntKind.signed,IntKind.bits];omega
  have hc:(⟨⟨m⟩⟩:ByteArray)++⟨⟨n⟩⟩=⟨⟨m++n⟩⟩:=by ext1;simp [ByteArray.data_append]
  simp only [binOp,Op.stringOp,if_neg hs,hc];rfl
theorem ad6 {o:Oper} {s:fT} {x y:Operand} {t:TypeId} {m:List UInt8} {k:IntKind} {i:Int} (ho:o.op=.index t x y) (hx:ee s x (.str m)) (hy:ee s y (.int k i)) (ht:P.underlying t=some .string)
  (h0:0≤i) (h1:i < m.length):dr P o s ⟨.int .u8 (AI m i),[],[]⟩:=
 b6 fun {w F O μ K ft a} hs=>by
  refine ⟨.int .u8 ((m.getD i.toNat 0).toNat:Int),?_,.int _ _⟩;have dQ:i.toNat < m.length:=by omega
  have hg:(⟨⟨m⟩⟩:ByteArray)[i.toNat]?=some (m.getD i.toNat 0):=by
   rw [getElem?_pos _ _ (by simpa [ByteArray.size] using dQ)];simp [dQ,List.getD];rfl
  simp only [execOp,ho,(hx hs).jF,(hy hs).de,Instr.index,asIntOf,Sem.run_bind,Sem.run_pure,Result.andThen_ok,cb ht,if_pos h0,hg]
def Ve (op:BinOp) (m n:Bool):Option AV:=
 match op with
 | .eql=>some (.bool (beq m n))
 | .neq=>some (.bool (!beq m n))
 | _=>none
theorem abR {o:Oper} {s:fT} {x y:Operand} {op:BinOp} {t u:TypeId} {m n:Bool} {r:AV} (ho:o.op=.binOp op t x y u) (hx:ee s x (.bool m)) (hy:ee s y (.bool n))
  (ht:P.underlying t=some .bool) (hr:Ve op m n=some r):dr P o s ⟨r,[],[]⟩:=
 b6 fun {w F O μ K ft a} hs=>by
  have e1:=(hx hs).fe;have e2:=(hy hs).fe;cases op<;>simp [Ve] at hr<;>subst hr <;>
   exact ⟨_,by simp only [execOp,ho,e1,e2,Sem.run_bind,Vd,Result.andThen_ok,run_eql_bool _ _ _ _ ht,run_neq_bool _ _ _ _ ht];rfl,.bool _⟩
theorem Tj {o:Oper} {s:fT} {fn:Fn} {xs ys:List Operand} {l m:List AV} (ho:o.op=.makeFunc fn ⟨xs⟩ ⟨ys⟩) (hx:Pn s xs l) (hy:Pn s ys m):dr P o s ⟨.fn fn l m,[],[]⟩:=
 b6 fun {w F O μ K ft a} hs=>⟨.func fn ⟨xs.map a.eval⟩ ⟨ys.map a.eval⟩,by simp [execOp,ho,Instr.makeFunc],.aah (hx hs) (hy hs)⟩
def Vf:TypeDesc→Bool
 | .interface _=>true
 | _=>false
theorem Kv {o:Oper} {s:fT} {t:TypeId} {d:TypeDesc} {x:Operand} {v:AV} (ho:o.op=.makeInterface t x) (hx:ee s x v) (ht:P.underlying t=some d) (hd:Vf d=false):dr P o s ⟨.pK t v,[],[]⟩:=
 b6 fun {w F O μ K ft a} hs=>by
  refine ⟨.iface t (a.eval x),?_,.pK _ _ _ (hx hs)⟩;simp only [execOp,ho,Instr.makeInterface,Sem.run_bind,cb ht,Result.andThen_ok];cases d<;>first | rfl | (simp [Vf] at hd)
end Go.Proofs.YtjkbbdldmdajkaaGreatDoor.c_
