/- Operations that only yield a value, the first part: copies, numbers, texts, tests. No condition. -/
import Derived.Test.YtljfmaaadnoggaaGreatDoorVB
import Derived.Laws.Cells
import Derived.Laws.Strings
import Derived.Laws.Small
import Derived.Laws.StructEq
namespace Go.Proofs.YtljfmaaadnoggaaGreatDoor.cX
open Go Go.RowKit
variable {w w' xW:World} {F F' Cq O O' wx:Nat→Prop} {μ bC kZ:Nat→Nat} {K K' Gg:Nat→Prop} {H H' H'':Hp} {ft b8:Nat→Nat→Prop} {P:Program}
def KY:TypeDesc→Bool
 | .struct _ | .array _ _=>true
 | _=>false
theorem ct {t:TypeId} {d:TypeDesc} (h:P.underlying t=some d):(underlying t).run P w=.ok d w:=by simp [underlying,h]
theorem Oh {t:TypeId} {i:TypeInfo} (h:P.info? t=some i):(typeInfo t).run P w=.ok i w:=by simp [typeInfo,h]
theorem gY {t:TypeId} {i:TypeInfo} (h:P.info? t=some i):(sizeOf t).run P w=.ok i.size w:=by simp [sizeOf,Oh h]
theorem Oj {t:TypeId} {d:TypeDesc} (h:P.underlying t=some d):(isAgg t).run P w=.ok (KY d) w:=by
 simp only [isAgg,Sem.run_bind,ct h,Result.andThen_ok]
 cases d<;>rfl
theorem TN {t:TypeId} {i:TypeInfo} {z:Value} (h:P.info? t=some i) (hz:i.zero=some z):(zeroValue t).run P w=.ok z w:=by simp [zeroValue,Oh h,hz]
theorem Y1 {o:Oper} {s:fU} {x:Operand} {v:AV} (ho:o.op=.move x∨o.op=.assign x) (hx:ec s x v):de P o s ⟨v,[],[]⟩:=
 cd fun {w F O μ K ft a} hs=>⟨a.eval x,by rcases ho with h | h<;>simp [execOp,h],hx hs⟩
theorem aiL {o:Oper} {s:fU} {c x y:Operand} {d:Bool} {p q:Bool} (ho:o.op=.pick c x y) (hc:ec s c (.bool d)) (hx:ec s x (.wh d (.bool p))) (hy:ec s y (.wh (!d) (.bool q))):
  de P o s ⟨.bool (cond d p q),[],[]⟩:=
 cd fun {w F O μ K ft a} hs=>by
  have h:=(hc hs).eR
  refine ⟨.bool (cond d p q),?_,.bool _⟩
  cases d with
  | true=>simp only [execOp,ho,h,asBool,((hx hs).ab_ rfl).eR];rfl
  | false=>simp only [execOp,ho,h,asBool,((hy hs).ab_ rfl).eR];rfl
theorem PG {o:Oper} {s:fU} {x:Operand} {i:Nat} {cs:List AV} (ho:o.op=.extract x i) (hx:ec s x (.ph cs)) (hi:i < cs.length):
  de P o s ⟨cs.getD i .top,[],[]⟩:=
 cd fun {w F O μ K ft a} hs=>by
  obtain ⟨vs,hv,hl,Mv⟩:=(hx hs).KU
  refine ⟨vs.getD i undef,?_,Mv i hi⟩
  have c9:i < vs.length:=hl▸hi
  simp [execOp,ho,hv,Instr.extract,c9,List.getD]
theorem age {o:Oper} {s:fU} {x:Operand} {t:TypeId} {b:Bool} (ho:o.op=.unOp .not t x) (hx:ec s x (.bool b)):de P o s ⟨.bool (!b),[],[]⟩:=
 cd fun {w F O μ K ft a} hs=>⟨.bool (!b),by simp [execOp,ho,(hx hs).eR,Op.unary],.bool _⟩
theorem agf {o:Oper} {s:fU} {x:Operand} {t:TypeId} {k:IntKind} {n:Int} (ho:o.op=.unOp .neg t x) (hx:ec s x (.int k n)):de P o s ⟨.int k (k.wrap (0-n)),[],[]⟩:=
 cd fun {w F O μ K ft a} hs=>⟨.int k (k.wrap (0-n)),by simp [execOp,ho,(hx hs).dd,Op.unary,Op.intArith],.int _ _⟩
theorem Mw (op:BinOp) (t:TypeId) (x y:Operand) (k k':IntKind) (m n:Int):(eqGuard op t x y (.int k m) (.int k' n)).run P w=.ok () w:=by
 unfold eqGuard;cases op<;>rfl
theorem Sg (op:BinOp) (t:TypeId) (x y:Operand) (m n:ByteArray):(eqGuard op t x y (.string m) (.string n)).run P w=.ok () w:=by
 unfold eqGuard;cases op<;>rfl
theorem XE (op:BinOp) (t:TypeId) (x y:Operand) (m n:Bool):(eqGuard op t x y (.bool m) (.bool n)).run P w=.ok () w:=by
 unfold eqGuard;cases op<;>rfl
def aQ (k:IntKind) (m n:Int):Int:=k.wrap (m+n)
def bW (k:IntKind) (m n:Int):Int:=k.wrap (m-n)
def ZX (k:IntKind) (m n:Int):Int:=k.wrap (m*n)
def aje (k:IntKind) (n:Int):Int:=k.wrap (0-n)
def Ao (k:IntKind) (n:Int):Int:=k.wrap n
def UI (k:IntKind) (m n:Int):Int:=k.wrap (m.tdiv n)
def yH (m n:Int):Int:=m.tmod n
def bL (m n:Int):Bool:=m==n
def bO (m n:Int):Bool:=decide (m < n)
def ck (m n:Int):Bool:=decide (m≤n)
def ahB (k:IntKind) (x y:Int):Int:=k.wrap ((BitVec.ofInt k.bits x &&& BitVec.ofInt k.bits y).toNat:Int)
def bOr (k:IntKind) (x y:Int):Int:=k.wrap ((BitVec.ofInt k.bits x ||| BitVec.ofInt k.bits y).toNat:Int)
def ahC (k:IntKind) (x y:Int):Int:=k.wrap ((BitVec.ofInt k.bits x ^^^ BitVec.ofInt k.bits y).toNat:Int)
def ahD (k:IntKind) (x y:Int):Int:=k.wrap (x*2 ^ (min y.toNat k.bits))
def ahE (k:IntKind) (x y:Int):Int:=x.fdiv (2 ^ (min y.toNat k.bits))
def seq (m n:List UInt8):Bool:=m==n
def slt (m n:List UInt8):Bool:=Op.bytesLess m n
def beq (m n:Bool):Bool:=m==n
def BK (m:List UInt8) (i:Int):Int:=((m.getD i.toNat 0).toNat:Int)
def acd (op:BinOp) (k:IntKind) (m n:Int):Option AV:=
 match op with
 | .add=>some (.int k (aQ k m n))
 | .sub=>some (.int k (bW k m n))
 | .mul=>some (.int k (ZX k m n))
 | .and=>some (.int k (ahB k m n))
 | .or=>some (.int k (bOr k m n))
 | .xor=>some (.int k (ahC k m n))
 | .eql=>some (.bool (bL m n))
 | .neq=>some (.bool (!bL m n))
 | .lss=>some (.bool (bO m n))
 | .leq=>some (.bool (ck m n))
 | .gtr=>some (.bool (bO n m))
 | .geq=>some (.bool (ck n m))
 | _=>none
theorem agh {o:Oper} {s:fU} {x y:Operand} {op:BinOp} {t u:TypeId} {k:IntKind} {m n:Int} {r:AV} (ho:o.op=.binOp op t x y u) (hx:ec s x (.int k m)) (hy:ec s y (.int k n))
  (hr:acd op k m n=some r):de P o s ⟨r,[],[]⟩:=
 cd fun {w F O μ K ft a} hs=>by
  have h:=(hx hs).dd
  have h':=(hy hs).dd
  cases op<;>simp [acd] at hr<;>subst hr <;>
   exact ⟨_,by simp only [execOp,ho,h,h',Sem.run_bind,Mw,Result.andThen_ok];simp [binOp,Op.intArith,Op.intCmp,Op.intBits];try rfl,by first | exact .int _ _ | exact .bool _⟩
def ace (op:BinOp) (k:IntKind) (m n:Int):Option AV:=
 match op with
 | .quo=>some (.int k (UI k m n))
 | .rem=>some (.int k (yH m n))
 | _=>none
theorem agi {o:Oper} {s:fU} {x y:Operand} {op:BinOp} {t u:TypeId} {k:IntKind} {m n:Int} {r:AV} (ho:o.op=.binOp op t x y u) (hx:ec s x (.int k m)) (hy:ec s y (.int k n))
  (hr:ace op k m n=some r) (hn:n≠0):de P o s ⟨r,[],[]⟩:=
 cd fun {w F O μ K ft a} hs=>by
  have h:=(hx hs).dd
  have h':=(hy hs).dd
  cases op<;>simp [ace] at hr<;>subst hr <;>
   exact ⟨_,by simp only [execOp,ho,h,h',Sem.run_bind,Mw,Result.andThen_ok];simp [binOp,Op.intDiv,hn];try rfl,.int _ _⟩
def TO (op:BinOp) (k:IntKind) (m n:Int):Option AV:=
 match op with
 | .shl=>some (.int k (ahD k m n))
 | .shr=>some (.int k (ahE k m n))
 | _=>none
theorem acf {o:Oper} {s:fU} {x y:Operand} {op:BinOp} {t u:TypeId} {k k':IntKind} {m n:Int} {r:AV} (ho:o.op=.binOp op t x y u) (hx:ec s x (.int k m)) (hy:ec s y (.int k' n))
  (hr:TO op k m n=some r) (hn:0≤n):de P o s ⟨r,[],[]⟩:=
 cd fun {w F O μ K ft a} hs=>by
  have h:=(hx hs).dd
  have h':=(hy hs).dd
  have hn':¬ n < 0:=by omega
  cases op<;>simp [TO] at hr<;>subst hr <;>
   exact ⟨_,by simp only [execOp,ho,h,h',Sem.run_bind,Mw,Result.andThen_ok];simp [binOp,Op.shift,hn'];rfl,.int _ _⟩
theorem adJ {o:Oper} {s:fU} {x:Operand} {t u:TypeId} {d:TypeDesc} {k k':IntKind} {m:Int} (ho:o.op=.convert t u x) (hx:ec s x (.int k m)) (ht:P.underlying t=some d) (hu:P.underlying u=some (.int k')):
  de P o s ⟨.int k' (Ao k' m),[],[]⟩:=
 cd fun {w F O μ K ft a} hs=>by
  refine ⟨.int k' (k'.wrap m),?_,.int _ _⟩
  simp only [execOp,ho,(hx hs).dd,Sem.run_bind,convert,ct ht,ct hu,Result.andThen_ok]
  simp [Conv.intToInt]
theorem toList_mk (s:List UInt8):(⟨⟨s⟩⟩:ByteArray).toList=s:=by rw [ByteArray.toList_eq]
def acg (op:BinOp) (m n:List UInt8):Option AV:=
 match op with
 | .eql=>some (.bool (seq m n))
 | .neq=>some (.bool (!seq m n))
 | .lss=>some (.bool (slt m n))
 | .leq=>some (.bool (slt m n||seq m n))
 | .gtr=>some (.bool (!(slt m n||seq m n)))
 | .geq=>some (.bool (!slt m n))
 | _=>none
theorem agj {o:Oper} {s:fU} {x y:Operand} {op:BinOp} {t u:TypeId} {m n:List UInt8} {r:AV} (ho:o.op=.binOp op t x y u) (hx:ec s x (.str m)) (hy:ec s y (.str n))
  (hr:acg op m n=some r):de P o s ⟨r,[],[]⟩:=
 cd fun {w F O μ K ft a} hs=>by
  have h:=(hx hs).jD
  have h':=(hy hs).jD
  cases op<;>simp [acg] at hr<;>subst hr <;>
   exact ⟨_,by simp only [execOp,ho,h,h',Sem.run_bind,Sg,Result.andThen_ok];simp [binOp,Op.stringOp];try rfl,.bool _⟩
theorem agk {o:Oper} {s:fU} {x y:Operand} {t u:TypeId} {m n:List UInt8} (ho:o.op=.binOp .add t x y u) (hx:ec s x (.str m)) (hy:ec s y (.str n))
  (hl:m.length+n.length < 1099511627776):de P o s ⟨.str (m++n),[],[]⟩:=
 cd fun {w F O μ K ft a} hs=>by
  refine ⟨.string ⟨⟨m++n⟩⟩,?_,.str _⟩
  simp only [execOp,ho,(hx hs).jD,(hy hs).jD,Sem.run_bind,Sg,Result.andThen_ok]
  have hs:¬ (((⟨⟨m⟩⟩:ByteArray).size+(⟨⟨n⟩⟩:ByteArray).size:Nat):Int) > IntKind.i64.max:=by
   simp [ByteArray.size,IntKind.max,IntKind.signed,IntKind.bits];omega
  have hc:(⟨⟨m⟩⟩:ByteArray)++⟨⟨n⟩⟩=⟨⟨m++n⟩⟩:=by ext1;simp [ByteArray.data_append]
  simp only [binOp,Op.stringOp,if_neg hs,hc]
  rfl
theorem agl {o:Oper} {s:fU} {x y:Operand} {t:TypeId} {m:List UInt8} {k:IntKind} {i:Int} (ho:o.op=.index t x y) (hx:ec s x (.str m)) (hy:ec s y (.int k i)) (ht:P.underlying t=some .string)
  (h0:0≤i) (h1:i < m.length):de P o s ⟨.int .u8 (BK m i),[],[]⟩:=
 cd fun {w F O μ K ft a} hs=>by
  refine ⟨.int .u8 ((m.getD i.toNat 0).toNat:Int),?_,.int _ _⟩
  have dQ:i.toNat < m.length:=by omega
  have hg:(⟨⟨m⟩⟩:ByteArray)[i.toNat]?=some (m.getD i.toNat 0):=by
   rw [getElem?_pos _ _ (by simpa [ByteArray.size] using dQ)]
   simp [dQ,List.getD]
   rfl
  simp only [execOp,ho,(hx hs).jD,(hy hs).dd,Instr.index,asIntOf,Sem.run_bind,Sem.run_pure,Result.andThen_ok,ct ht,if_pos h0,hg]
def XF (op:BinOp) (m n:Bool):Option AV:=
 match op with
 | .eql=>some (.bool (beq m n))
 | .neq=>some (.bool (!beq m n))
 | _=>none
theorem adK {o:Oper} {s:fU} {x y:Operand} {op:BinOp} {t u:TypeId} {m n:Bool} {r:AV} (ho:o.op=.binOp op t x y u) (hx:ec s x (.bool m)) (hy:ec s y (.bool n))
  (ht:P.underlying t=some .bool) (hr:XF op m n=some r):de P o s ⟨r,[],[]⟩:=
 cd fun {w F O μ K ft a} hs=>by
  have e1:=(hx hs).eR
  have e2:=(hy hs).eR
  cases op<;>simp [XF] at hr<;>subst hr <;>
   exact ⟨_,by simp only [execOp,ho,e1,e2,Sem.run_bind,XE,Result.andThen_ok,run_eql_bool _ _ _ _ ht,run_neq_bool _ _ _ _ ht];rfl,.bool _⟩
theorem VH {o:Oper} {s:fU} {fn:Fn} {xs ys:List Operand} {l m:List AV} (ho:o.op=.makeFunc fn ⟨xs⟩ ⟨ys⟩) (hx:Rj s xs l) (hy:Rj s ys m):de P o s ⟨.fn fn l m,[],[]⟩:=
 cd fun {w F O μ K ft a} hs=>⟨.func fn ⟨xs.map a.eval⟩ ⟨ys.map a.eval⟩,by simp [execOp,ho,Instr.makeFunc],.aca (hx hs) (hy hs)⟩
def XG:TypeDesc→Bool
 | .interface _=>true
 | _=>false
theorem Mx {o:Oper} {s:fU} {t:TypeId} {d:TypeDesc} {x:Operand} {v:AV} (ho:o.op=.makeInterface t x) (hx:ec s x v) (ht:P.underlying t=some d) (hd:XG d=false):de P o s ⟨.pe t v,[],[]⟩:=
 cd fun {w F O μ K ft a} hs=>by
  refine ⟨.iface t (a.eval x),?_,.pe _ _ _ (hx hs)⟩
  simp only [execOp,ho,Instr.makeInterface,Sem.run_bind,ct ht,Result.andThen_ok]
  cases d<;>first | rfl | (simp [XG] at hd)
end Go.Proofs.YtljfmaaadnoggaaGreatDoor.cX
