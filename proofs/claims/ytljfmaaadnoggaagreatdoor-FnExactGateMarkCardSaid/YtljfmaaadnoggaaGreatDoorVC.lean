/- Operations that only yield a value, the first part: copies, numbers, texts, tests. No condition. -/
import Derived.Test.YtljfmaaadnoggaaGreatDoorVB
import Derived.Laws.Cells
import Derived.Laws.Strings
import Derived.Laws.Small
import Derived.Laws.StructEq
namespace Go.Proofs.YtljfmaaadnoggaaGreatDoor.cU
open Go Go.RowKit
variable {w w' vP:World} {F F' Am O O' ux:Nat→Prop} {μ bB jV:Nat→Nat} {K K' DQ:Nat→Prop} {H H' H'':Hp} {ft b7:Nat→Nat→Prop} {P:Program}
def IF:TypeDesc→Bool
 | .struct _ | .array _ _=>true
 | _=>false
theorem cl {t:TypeId} {d:TypeDesc} (h:P.underlying t=some d):(underlying t).run P w=.ok d w:=by simp [underlying,h]
theorem LW {t:TypeId} {i:TypeInfo} (h:P.info? t=some i):(typeInfo t).run P w=.ok i w:=by simp [typeInfo,h]
theorem gy {t:TypeId} {i:TypeInfo} (h:P.info? t=some i):(sizeOf t).run P w=.ok i.size w:=by simp [sizeOf,LW h]
theorem LX {t:TypeId} {d:TypeDesc} (h:P.underlying t=some d):(isAgg t).run P w=.ok (IF d) w:=by
 simp only [isAgg,Sem.run_bind,cl h,Result.andThen_ok]
 cases d<;>rfl
theorem QV {t:TypeId} {i:TypeInfo} {z:Value} (h:P.info? t=some i) (hz:i.zero=some z):(zeroValue t).run P w=.ok z w:=by simp [zeroValue,LW h,hz]
theorem VQ {o:Oper} {s:fy} {x:Operand} {v:AV} (ho:o.op=.move x∨o.op=.assign x) (hx:dT s x v):db P o s ⟨v,[],[]⟩:=
 bZ fun {w F O μ K ft a} hs=>⟨a.eval x,by rcases ho with h | h<;>simp [execOp,h],hx hs⟩
theorem afq {o:Oper} {s:fy} {c x y:Operand} {d:Bool} {p q:Bool} (ho:o.op=.pick c x y) (hc:dT s c (.bool d)) (hx:dT s x (.wh d (.bool p))) (hy:dT s y (.wh (!d) (.bool q))):
  db P o s ⟨.bool (cond d p q),[],[]⟩:=
 bZ fun {w F O μ K ft a} hs=>by
  have h:=(hc hs).ey
  refine ⟨.bool (cond d p q),?_,.bool _⟩
  cases d with
  | true=>simp only [execOp,ho,h,asBool,((hx hs).Zf rfl).ey];rfl
  | false=>simp only [execOp,ho,h,asBool,((hy hs).Zf rfl).ey];rfl
theorem M4 {o:Oper} {s:fy} {x:Operand} {i:Nat} {cs:List AV} (ho:o.op=.extract x i) (hx:dT s x (.n9 cs)) (hi:i < cs.length):
  db P o s ⟨cs.getD i .top,[],[]⟩:=
 bZ fun {w F O μ K ft a} hs=>by
  obtain ⟨vs,hv,hl,J_⟩:=(hx hs).IB
  refine ⟨vs.getD i undef,?_,J_ i hi⟩
  have c8:i < vs.length:=hl▸hi
  simp [execOp,ho,hv,Instr.extract,c8,List.getD]
theorem ac3 {o:Oper} {s:fy} {x:Operand} {t:TypeId} {b:Bool} (ho:o.op=.unOp .not t x) (hx:dT s x (.bool b)):db P o s ⟨.bool (!b),[],[]⟩:=
 bZ fun {w F O μ K ft a} hs=>⟨.bool (!b),by simp [execOp,ho,(hx hs).ey,Op.unary],.bool _⟩
theorem ac4 {o:Oper} {s:fy} {x:Operand} {t:TypeId} {k:IntKind} {n:Int} (ho:o.op=.unOp .neg t x) (hx:dT s x (.int k n)):db P o s ⟨.int k (k.wrap (0-n)),[],[]⟩:=
 bZ fun {w F O μ K ft a} hs=>⟨.int k (k.wrap (0-n)),by simp [execOp,ho,(hx hs).c_,Op.unary,Op.intArith],.int _ _⟩
theorem Ka (op:BinOp) (t:TypeId) (x y:Operand) (k k':IntKind) (m n:Int):(eqGuard op t x y (.int k m) (.int k' n)).run P w=.ok () w:=by
 unfold eqGuard;cases op<;>rfl
theorem PK (op:BinOp) (t:TypeId) (x y:Operand) (m n:ByteArray):(eqGuard op t x y (.string m) (.string n)).run P w=.ok () w:=by
 unfold eqGuard;cases op<;>rfl
theorem UE (op:BinOp) (t:TypeId) (x y:Operand) (m n:Bool):(eqGuard op t x y (.bool m) (.bool n)).run P w=.ok () w:=by
 unfold eqGuard;cases op<;>rfl
def aQ (k:IntKind) (m n:Int):Int:=k.wrap (m+n)
def bS (k:IntKind) (m n:Int):Int:=k.wrap (m-n)
def WO (k:IntKind) (m n:Int):Int:=k.wrap (m*n)
def agh (k:IntKind) (n:Int):Int:=k.wrap (0-n)
def yg (k:IntKind) (n:Int):Int:=k.wrap n
def RS (k:IntKind) (m n:Int):Int:=k.wrap (m.tdiv n)
def wI (m n:Int):Int:=m.tmod n
def bM (m n:Int):Bool:=m==n
def bN (m n:Int):Bool:=decide (m < n)
def b_ (m n:Int):Bool:=decide (m≤n)
def aeh (k:IntKind) (x y:Int):Int:=k.wrap ((BitVec.ofInt k.bits x &&& BitVec.ofInt k.bits y).toNat:Int)
def bOr (k:IntKind) (x y:Int):Int:=k.wrap ((BitVec.ofInt k.bits x ||| BitVec.ofInt k.bits y).toNat:Int)
def aei (k:IntKind) (x y:Int):Int:=k.wrap ((BitVec.ofInt k.bits x ^^^ BitVec.ofInt k.bits y).toNat:Int)
def aej (k:IntKind) (x y:Int):Int:=k.wrap (x*2 ^ (min y.toNat k.bits))
def aek (k:IntKind) (x y:Int):Int:=x.fdiv (2 ^ (min y.toNat k.bits))
def seq (m n:List UInt8):Bool:=m==n
def slt (m n:List UInt8):Bool:=Op.bytesLess m n
def beq (m n:Bool):Bool:=m==n
def zI (m:List UInt8) (i:Int):Int:=((m.getD i.toNat 0).toNat:Int)
def Zi (op:BinOp) (k:IntKind) (m n:Int):Option AV:=
 match op with
 | .add=>some (.int k (aQ k m n))
 | .sub=>some (.int k (bS k m n))
 | .mul=>some (.int k (WO k m n))
 | .and=>some (.int k (aeh k m n))
 | .or=>some (.int k (bOr k m n))
 | .xor=>some (.int k (aei k m n))
 | .eql=>some (.bool (bM m n))
 | .neq=>some (.bool (!bM m n))
 | .lss=>some (.bool (bN m n))
 | .leq=>some (.bool (b_ m n))
 | .gtr=>some (.bool (bN n m))
 | .geq=>some (.bool (b_ n m))
 | _=>none
theorem ac5 {o:Oper} {s:fy} {x y:Operand} {op:BinOp} {t u:TypeId} {k:IntKind} {m n:Int} {r:AV} (ho:o.op=.binOp op t x y u) (hx:dT s x (.int k m)) (hy:dT s y (.int k n))
  (hr:Zi op k m n=some r):db P o s ⟨r,[],[]⟩:=
 bZ fun {w F O μ K ft a} hs=>by
  have h:=(hx hs).c_
  have h':=(hy hs).c_
  cases op<;>simp [Zi] at hr<;>subst hr <;>
   exact ⟨_,by simp only [execOp,ho,h,h',Sem.run_bind,Ka,Result.andThen_ok];simp [binOp,Op.intArith,Op.intCmp,Op.intBits];try rfl,by first | exact .int _ _ | exact .bool _⟩
def Zj (op:BinOp) (k:IntKind) (m n:Int):Option AV:=
 match op with
 | .quo=>some (.int k (RS k m n))
 | .rem=>some (.int k (wI m n))
 | _=>none
theorem ac6 {o:Oper} {s:fy} {x y:Operand} {op:BinOp} {t u:TypeId} {k:IntKind} {m n:Int} {r:AV} (ho:o.op=.binOp op t x y u) (hx:dT s x (.int k m)) (hy:dT s y (.int k n))
  (hr:Zj op k m n=some r) (hn:n≠0):db P o s ⟨r,[],[]⟩:=
 bZ fun {w F O μ K ft a} hs=>by
  have h:=(hx hs).c_
  have h':=(hy hs).c_
  cases op<;>simp [Zj] at hr<;>subst hr <;>
   exact ⟨_,by simp only [execOp,ho,h,h',Sem.run_bind,Ka,Result.andThen_ok];simp [binOp,Op.intDiv,hn];try rfl,.int _ _⟩
def QW (op:BinOp) (k:IntKind) (m n:Int):Option AV:=
 match op with
 | .shl=>some (.int k (aej k m n))
 | .shr=>some (.int k (aek k m n))
 | _=>none
theorem Zk {o:Oper} {s:fy} {x y:Operand} {op:BinOp} {t u:TypeId} {k k':IntKind} {m n:Int} {r:AV} (ho:o.op=.binOp op t x y u) (hx:dT s x (.int k m)) (hy:dT s y (.int k' n))
  (hr:QW op k m n=some r) (hn:0≤n):db P o s ⟨r,[],[]⟩:=
 bZ fun {w F O μ K ft a} hs=>by
  have h:=(hx hs).c_
  have h':=(hy hs).c_
  have hn':¬ n < 0:=by omega
  cases op<;>simp [QW] at hr<;>subst hr <;>
   exact ⟨_,by simp only [execOp,ho,h,h',Sem.run_bind,Ka,Result.andThen_ok];simp [binOp,Op.shift,hn'];rfl,.int _ _⟩
theorem aaR {o:Oper} {s:fy} {x:Operand} {t u:TypeId} {d:TypeDesc} {k k':IntKind} {m:Int} (ho:o.op=.convert t u x) (hx:dT s x (.int k m)) (ht:P.underlying t=some d) (hu:P.underlying u=some (.int k')):
  db P o s ⟨.int k' (yg k' m),[],[]⟩:=
 bZ fun {w F O μ K ft a} hs=>by
  refine ⟨.int k' (k'.wrap m),?_,.int _ _⟩
  simp only [execOp,ho,(hx hs).c_,Sem.run_bind,convert,cl ht,cl hu,Result.andThen_ok]
  simp [Conv.intToInt]
theorem toList_mk (s:List UInt8):(⟨⟨s⟩⟩:ByteArray).toList=s:=by rw [ByteArray.toList_eq]
def Zl (op:BinOp) (m n:List UInt8):Option AV:=
 match op with
 | .eql=>some (.bool (seq m n))
 | .neq=>some (.bool (!seq m n))
 | .lss=>some (.bool (slt m n))
 | .leq=>some (.bool (slt m n||seq m n))
 | .gtr=>some (.bool (!(slt m n||seq m n)))
 | .geq=>some (.bool (!slt m n))
 | _=>none
theorem ac7 {o:Oper} {s:fy} {x y:Operand} {op:BinOp} {t u:TypeId} {m n:List UInt8} {r:AV} (ho:o.op=.binOp op t x y u) (hx:dT s x (.str m)) (hy:dT s y (.str n))
  (hr:Zl op m n=some r):db P o s ⟨r,[],[]⟩:=
 bZ fun {w F O μ K ft a} hs=>by
  have h:=(hx hs).iM
  have h':=(hy hs).iM
  cases op<;>simp [Zl] at hr<;>subst hr <;>
   exact ⟨_,by simp only [execOp,ho,h,h',Sem.run_bind,PK,Result.andThen_ok];simp [binOp,Op.stringOp];try rfl,.bool _⟩
theorem ac8 {o:Oper} {s:fy} {x y:Operand} {t u:TypeId} {m n:List UInt8} (ho:o.op=.binOp .add t x y u) (hx:dT s x (.str m)) (hy:dT s y (.str n))
  (hl:m.length+n.length < 1099511627776):db P o s ⟨.str (m++n),[],[]⟩:=
 bZ fun {w F O μ K ft a} hs=>by
  refine ⟨.string ⟨⟨m++n⟩⟩,?_,.str _⟩
  simp only [execOp,ho,(hx hs).iM,(hy hs).iM,Sem.run_bind,PK,Result.andThen_ok]
  have hs:¬ (((⟨⟨m⟩⟩:ByteArray).size+(⟨⟨n⟩⟩:ByteArray).size:Nat):Int) > IntKind.i64.max:=by
   simp [ByteArray.size,IntKind.max,IntKind.signed,IntKind.bits];omega
  have hc:(⟨⟨m⟩⟩:ByteArray)++⟨⟨n⟩⟩=⟨⟨m++n⟩⟩:=by ext1;simp [ByteArray.data_append]
  simp only [binOp,Op.stringOp,if_neg hs,hc]
  rfl
theorem ac9 {o:Oper} {s:fy} {x y:Operand} {t:TypeId} {m:List UInt8} {k:IntKind} {i:Int} (ho:o.op=.index t x y) (hx:dT s x (.str m)) (hy:dT s y (.int k i)) (ht:P.underlying t=some .string)
  (h0:0≤i) (h1:i < m.length):db P o s ⟨.int .u8 (zI m i),[],[]⟩:=
 bZ fun {w F O μ K ft a} hs=>by
  refine ⟨.int .u8 ((m.getD i.toNat 0).toNat:Int),?_,.int _ _⟩
  have dL:i.toNat < m.length:=by omega
  have hg:(⟨⟨m⟩⟩:ByteArray)[i.toNat]?=some (m.getD i.toNat 0):=by
   rw [getElem?_pos _ _ (by simpa [ByteArray.size] using dL)]
   simp [dL,List.getD]
   rfl
  simp only [execOp,ho,(hx hs).iM,(hy hs).c_,Instr.index,asIntOf,Sem.run_bind,Sem.run_pure,Result.andThen_ok,cl ht,if_pos h0,hg]
def UF (op:BinOp) (m n:Bool):Option AV:=
 match op with
 | .eql=>some (.bool (beq m n))
 | .neq=>some (.bool (!beq m n))
 | _=>none
theorem aaS {o:Oper} {s:fy} {x y:Operand} {op:BinOp} {t u:TypeId} {m n:Bool} {r:AV} (ho:o.op=.binOp op t x y u) (hx:dT s x (.bool m)) (hy:dT s y (.bool n))
  (ht:P.underlying t=some .bool) (hr:UF op m n=some r):db P o s ⟨r,[],[]⟩:=
 bZ fun {w F O μ K ft a} hs=>by
  have e1:=(hx hs).ey
  have e2:=(hy hs).ey
  cases op<;>simp [UF] at hr<;>subst hr <;>
   exact ⟨_,by simp only [execOp,ho,e1,e2,Sem.run_bind,UE,Result.andThen_ok,run_eql_bool _ _ _ _ ht,run_neq_bool _ _ _ _ ht];rfl,.bool _⟩
theorem SH {o:Oper} {s:fy} {fn:Fn} {xs ys:List Operand} {l m:List AV} (ho:o.op=.makeFunc fn ⟨xs⟩ ⟨ys⟩) (hx:OL s xs l) (hy:OL s ys m):db P o s ⟨.fn fn l m,[],[]⟩:=
 bZ fun {w F O μ K ft a} hs=>⟨.func fn ⟨xs.map a.eval⟩ ⟨ys.map a.eval⟩,by simp [execOp,ho,Instr.makeFunc],.Zg (hx hs) (hy hs)⟩
def UG:TypeDesc→Bool
 | .interface _=>true
 | _=>false
theorem Kb {o:Oper} {s:fy} {t:TypeId} {d:TypeDesc} {x:Operand} {v:AV} (ho:o.op=.makeInterface t x) (hx:dT s x v) (ht:P.underlying t=some d) (hd:UG d=false):db P o s ⟨.nX t v,[],[]⟩:=
 bZ fun {w F O μ K ft a} hs=>by
  refine ⟨.iface t (a.eval x),?_,.nX _ _ _ (hx hs)⟩
  simp only [execOp,ho,Instr.makeInterface,Sem.run_bind,cl ht,Result.andThen_ok]
  cases d<;>first | rfl | (simp [UG] at hd)
end Go.Proofs.YtljfmaaadnoggaaGreatDoor.cU
