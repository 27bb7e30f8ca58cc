/- Operations that only yield a value: copies, tests, sums, addresses, loads. No condition. -/
import Derived.Test.YtkfdfapickladaaAbsC
import Derived.Laws.Cells
import Derived.Laws.Strings
import Derived.Laws.Small
import Derived.Laws.StructEq
namespace Go.Proofs.Ytkfdfapickladaa.Abs
open Go Go.RowKit

variable {w w' w'' : World} {F F' F'' : Nat → Prop} {μ μ' μ'' : Nat → Nat} {K K' K'' : Nat → Prop} {H H' H'' : Hp} {P : Program}

def aggD : TypeDesc → Bool
  | .struct _ | .array _ _ => true
  | _ => false

theorem run_und {t : TypeId} {d : TypeDesc} (h : P.underlying t = some d) : (underlying t).run P w = .ok d w := by simp [underlying, h]
theorem run_inf {t : TypeId} {i : TypeInfo} (h : P.info? t = some i) : (typeInfo t).run P w = .ok i w := by simp [typeInfo, h]
theorem run_siz {t : TypeId} {i : TypeInfo} (h : P.info? t = some i) : (sizeOf t).run P w = .ok i.size w := by simp [sizeOf, run_inf h]
theorem run_agg {t : TypeId} {d : TypeDesc} (h : P.underlying t = some d) : (isAgg t).run P w = .ok (aggD d) w := by
  simp only [isAgg, Sem.run_bind, run_und h, Result.andThen_ok]
  cases d <;> rfl
theorem run_zer {t : TypeId} {i : TypeInfo} {z : Value} (h : P.info? t = some i) (hz : i.zero = some z) : (zeroValue t).run P w = .ok z w := by simp [zeroValue, run_inf h, hz]

theorem VR.int_inv {k : IntKind} {n : Int} {v : Value} (h : VR w F μ K (.int k n) v) : v = .int k n := by cases h; rfl
theorem VR.bool_inv {b : Bool} {v : Value} (h : VR w F μ K (.bool b) v) : v = .bool b := by cases h; rfl
theorem VR.kb_inv {b : Bool} {v : Value} (h : VR w F μ K (.kb b) v) : v = .bool b := by cases h; rfl
theorem VR.str_inv {s : List UInt8} {v : Value} (h : VR w F μ K (.str s) v) : v = .string ⟨⟨s⟩⟩ := by cases h; rfl
theorem VR.agg_inv {cs : List AV} {v : Value} (h : VR w F μ K (.agg cs) v) : ∃ vs : List Value, v = .agg ⟨vs⟩ ∧ VRs w F μ K cs vs := by
  cases h with | agg _ vs h hv => exact ⟨vs, rfl, h, hv⟩
theorem VR.tup_inv {cs : List AV} {v : Value} (h : VR w F μ K (.tup cs) v) : ∃ vs : List Value, v = .tuple ⟨vs⟩ ∧ VRs w F μ K cs vs := by
  cases h with | tup _ vs h hv => exact ⟨vs, rfl, h, hv⟩
theorem VR.mkAgg {cs : List AV} {vs : List Value} (h : VRs w F μ K cs vs) : VR w F μ K (.agg cs) (.agg ⟨vs⟩) := .agg cs vs h.1 h.2
theorem VR.mkTup {cs : List AV} {vs : List Value} (h : VRs w F μ K cs vs) : VR w F μ K (.tup cs) (.tuple ⟨vs⟩) := .tup cs vs h.1 h.2

/-! ### Copies, extracts, tests -/

theorem op_move {o : Oper} {s : SSt} {x : Operand} (ho : o.op = .move x ∨ o.op = .assign x) : OpOk P o s ⟨s.aval x, [], []⟩ :=
  opok_value fun w F μ K a hs => ⟨a.eval x, by rcases ho with h | h <;> simp [execOp, h], aval_ok hs x⟩

theorem op_pick {o : Oper} {s : SSt} {c x y : Operand} {d : Bool} (ho : o.op = .pick c x y) (hc : s.aval c = .kb d) : OpOk P o s ⟨bif d then s.aval x else s.aval y, [], []⟩ :=
  opok_value fun w F μ K a hs => by
    have h := aval_ok hs c
    rw [hc] at h
    refine ⟨if d then a.eval x else a.eval y, by simp [execOp, ho, h.kb_inv, asBool], ?_⟩
    cases d
    · exact aval_ok hs y
    · exact aval_ok hs x

def boolOf : AV → Option Bool
  | .kb b | .bool b => some b
  | _ => none
theorem boolOf_ok {a : AV} {b : Bool} (h : boolOf a = some b) {v : Value} (hv : VR w F μ K a v) : v = .bool b := by
  cases a <;> simp [boolOf] at h
  · exact h ▸ hv.bool_inv
  · exact h ▸ hv.kb_inv

theorem op_pickB {o : Oper} {s : SSt} {c x y : Operand} {d p q : Bool} (ho : o.op = .pick c x y) (hc : s.aval c = .bool d) (hx : boolOf (s.aval x) = some p) (hy : boolOf (s.aval y) = some q) :
    OpOk P o s ⟨.bool (bif d then p else q), [], []⟩ :=
  opok_value fun w F μ K a hs => by
    have h := aval_ok hs c
    rw [hc] at h
    refine ⟨.bool (bif d then p else q), ?_, .bool _⟩
    have e1 := boolOf_ok hx (aval_ok hs x)
    have e2 := boolOf_ok hy (aval_ok hs y)
    simp only [execOp, ho, h.bool_inv, asBool, e1, e2]
    cases d <;> rfl

theorem op_extract {o : Oper} {s : SSt} {x : Operand} {i : Nat} {cs : List AV} (ho : o.op = .extract x i) (hx : s.aval x = .tup cs) (hi : i < cs.length) :
    OpOk P o s ⟨cs.getD i .top, [], []⟩ :=
  opok_value fun w F μ K a hs => by
    have h := aval_ok hs x
    rw [hx] at h
    obtain ⟨vs, hv, hl, hv'⟩ := h.tup_inv
    refine ⟨vs.getD i undef, ?_, hv' i hi⟩
    have hi' : i < vs.length := hl ▸ hi
    simp [execOp, ho, hv, Instr.extract, hi', List.getD]

theorem op_not {o : Oper} {s : SSt} {x : Operand} {t : TypeId} {b : Bool} (ho : o.op = .unOp .not t x) (hx : boolOf (s.aval x) = some b) : OpOk P o s ⟨.bool (!b), [], []⟩ :=
  opok_value fun w F μ K a hs => ⟨.bool (!b), by simp [execOp, ho, boolOf_ok hx (aval_ok hs x), Op.unary], .bool _⟩
theorem op_notk {o : Oper} {s : SSt} {x : Operand} {t : TypeId} {b : Bool} (ho : o.op = .unOp .not t x) (hx : s.aval x = .kb b) : OpOk P o s ⟨.kb (!b), [], []⟩ :=
  opok_value fun w F μ K a hs => by
    have h := aval_ok hs x
    rw [hx] at h
    exact ⟨.bool (!b), by simp [execOp, ho, h.kb_inv, Op.unary], .kb _⟩
theorem op_neg {o : Oper} {s : SSt} {x : Operand} {t : TypeId} {k : IntKind} {n : Int} (ho : o.op = .unOp .neg t x) (hx : s.aval x = .int k n) : OpOk P o s ⟨.int k (k.wrap (0 - n)), [], []⟩ :=
  opok_value fun w F μ K a hs => by
    have h := aval_ok hs x
    rw [hx] at h
    exact ⟨.int k (k.wrap (0 - n)), by simp [execOp, ho, h.int_inv, Op.unary, Op.intArith], .int _ _⟩

/-! ### Numbers -/

theorem guard_int (op : BinOp) (t : TypeId) (x y : Operand) (k k' : IntKind) (m n : Int) : (eqGuard op t x y (.int k m) (.int k' n)).run P w = .ok () w := by
  unfold eqGuard; cases op <;> rfl
theorem guard_str (op : BinOp) (t : TypeId) (x y : Operand) (m n : ByteArray) : (eqGuard op t x y (.string m) (.string n)).run P w = .ok () w := by
  unfold eqGuard; cases op <;> rfl
theorem guard_bool (op : BinOp) (t : TypeId) (x y : Operand) (m n : Bool) : (eqGuard op t x y (.bool m) (.bool n)).run P w = .ok () w := by
  unfold eqGuard; cases op <;> rfl

/-- What a sum or a test of two numbers comes to. -/
def intOp (op : BinOp) (k : IntKind) (m n : Int) : Option AV :=
  match op with
  | .add => some (.int k (k.wrap (m + n)))
  | .sub => some (.int k (k.wrap (m - n)))
  | .mul => some (.int k (k.wrap (m * n)))
  | .eql => some (.bool (m == n))
  | .neq => some (.bool (m != n))
  | .lss => some (.bool (decide (m < n)))
  | .leq => some (.bool (decide (m ≤ n)))
  | .gtr => some (.bool (decide (m > n)))
  | .geq => some (.bool (decide (m ≥ n)))
  | _ => none

theorem op_int {o : Oper} {s : SSt} {x y : Operand} {op : BinOp} {t u : TypeId} {k : IntKind} {m n : Int} {r : AV} (ho : o.op = .binOp op t x y u) (hx : s.aval x = .int k m) (hy : s.aval y = .int k n)
    (hr : intOp op k m n = some r) : OpOk P o s ⟨r, [], []⟩ :=
  opok_value fun w F μ K a hs => by
    have h := aval_ok hs x
    rw [hx] at h
    have h' := aval_ok hs y
    rw [hy] at h'
    cases op <;> simp [intOp] at hr <;> subst hr <;>
      exact ⟨_, by simp only [execOp, ho, h.int_inv, h'.int_inv, Sem.run_bind, guard_int, Result.andThen_ok]; simp [binOp, Op.intArith, Op.intCmp]; try rfl, by first | exact .int _ _ | exact .bool _⟩

/-- Quotient and rest, by a number that is not 0. -/
def divOp (op : BinOp) (k : IntKind) (m n : Int) : Option AV :=
  match op with
  | .quo => some (.int k (k.wrap (m.tdiv n)))
  | .rem => some (.int k (m.tmod n))
  | _ => none
theorem op_div {o : Oper} {s : SSt} {x y : Operand} {op : BinOp} {t u : TypeId} {k : IntKind} {m n : Int} {r : AV} (ho : o.op = .binOp op t x y u) (hx : s.aval x = .int k m) (hy : s.aval y = .int k n)
    (hr : divOp op k m n = some r) (hn : n ≠ 0) : OpOk P o s ⟨r, [], []⟩ :=
  opok_value fun w F μ K a hs => by
    have h := aval_ok hs x
    rw [hx] at h
    have h' := aval_ok hs y
    rw [hy] at h'
    cases op <;> simp [divOp] at hr <;> subst hr <;>
      exact ⟨_, by simp only [execOp, ho, h.int_inv, h'.int_inv, Sem.run_bind, guard_int, Result.andThen_ok]; simp [binOp, Op.intDiv, hn]; try rfl, .int _ _⟩

theorem op_conv {o : Oper} {s : SSt} {x : Operand} {t u : TypeId} {d : TypeDesc} {k k' : IntKind} {m : Int} (ho : o.op = .convert t u x) (hx : s.aval x = .int k m) (ht : P.underlying t = some d) (hu : P.underlying u = some (.int k')) :
    OpOk P o s ⟨.int k' (k'.wrap m), [], []⟩ :=
  opok_value fun w F μ K a hs => by
    have h := aval_ok hs x
    rw [hx] at h
    refine ⟨.int k' (k'.wrap m), ?_, .int _ _⟩
    simp only [execOp, ho, h.int_inv, Sem.run_bind, convert, run_und ht, run_und hu, Result.andThen_ok]
    simp [Conv.intToInt]

/-! ### Texts -/

theorem toList_mk (s : List UInt8) : (⟨⟨s⟩⟩ : ByteArray).toList = s := by rw [ByteArray.toList_eq]

def strOp (op : BinOp) (m n : List UInt8) : Option AV :=
  match op with
  | .eql => some (.bool (m == n))
  | .neq => some (.bool (!(m == n)))
  | .lss => some (.bool (Op.bytesLess m n))
  | .leq => some (.bool (Op.bytesLess m n || m == n))
  | .gtr => some (.bool (!(Op.bytesLess m n || m == n)))
  | .geq => some (.bool (!Op.bytesLess m n))
  | _ => none
theorem op_str {o : Oper} {s : SSt} {x y : Operand} {op : BinOp} {t u : TypeId} {m n : List UInt8} {r : AV} (ho : o.op = .binOp op t x y u) (hx : s.aval x = .str m) (hy : s.aval y = .str n)
    (hr : strOp op m n = some r) : OpOk P o s ⟨r, [], []⟩ :=
  opok_value fun w F μ K a hs => by
    have h := aval_ok hs x
    rw [hx] at h
    have h' := aval_ok hs y
    rw [hy] at h'
    cases op <;> simp [strOp] at hr <;> subst hr <;>
      exact ⟨_, by simp only [execOp, ho, h.str_inv, h'.str_inv, Sem.run_bind, guard_str, Result.andThen_ok]; simp [binOp, Op.stringOp]; try rfl, .bool _⟩
theorem op_cat {o : Oper} {s : SSt} {x y : Operand} {t u : TypeId} {m n : List UInt8} (ho : o.op = .binOp .add t x y u) (hx : s.aval x = .str m) (hy : s.aval y = .str n)
    (hl : m.length + n.length < 1099511627776) : OpOk P o s ⟨.str (m ++ n), [], []⟩ :=
  opok_value fun w F μ K a hs => by
    have h := aval_ok hs x
    rw [hx] at h
    have h' := aval_ok hs y
    rw [hy] at h'
    refine ⟨.string ⟨⟨m ++ n⟩⟩, ?_, .str _⟩
    simp only [execOp, ho, h.str_inv, h'.str_inv, Sem.run_bind, guard_str, Result.andThen_ok]
    have hs : ¬ (((⟨⟨m⟩⟩ : ByteArray).size + (⟨⟨n⟩⟩ : ByteArray).size : Nat) : Int) > IntKind.i64.max := by
      simp [ByteArray.size, IntKind.max, IntKind.signed, IntKind.bits]; omega
    have hc : (⟨⟨m⟩⟩ : ByteArray) ++ ⟨⟨n⟩⟩ = ⟨⟨m ++ n⟩⟩ := by ext1; simp [ByteArray.data_append]
    simp only [binOp, Op.stringOp, if_neg hs, hc]
    rfl

theorem op_idx {o : Oper} {s : SSt} {x y : Operand} {t : TypeId} {m : List UInt8} {k : IntKind} {i : Int} (ho : o.op = .index t x y) (hx : s.aval x = .str m) (hy : s.aval y = .int k i) (ht : P.underlying t = some .string)
    (h0 : 0 ≤ i) (h1 : i < m.length) : OpOk P o s ⟨.int .u8 ((m.getD i.toNat 0).toNat : Int), [], []⟩ :=
  opok_value fun w F μ K a hs => by
    have h := aval_ok hs x
    rw [hx] at h
    have h' := aval_ok hs y
    rw [hy] at h'
    refine ⟨.int .u8 ((m.getD i.toNat 0).toNat : Int), ?_, .int _ _⟩
    have hlt : i.toNat < m.length := by omega
    have hg : (⟨⟨m⟩⟩ : ByteArray)[i.toNat]? = some (m.getD i.toNat 0) := by
      rw [getElem?_pos _ _ (by simpa [ByteArray.size] using hlt)]
      simp [hlt, List.getD]
      rfl
    simp only [execOp, ho, h.str_inv, h'.int_inv, Instr.index, asIntOf, Sem.run_bind, Sem.run_pure, Result.andThen_ok, run_und ht, if_pos h0, hg]

/-! ### Tests of bools -/

def boolOp (op : BinOp) (m n : Bool) : Option AV :=
  match op with
  | .eql => some (.bool (m == n))
  | .neq => some (.bool (!(m == n)))
  | _ => none
theorem op_bool {o : Oper} {s : SSt} {x y : Operand} {op : BinOp} {t u : TypeId} {m n : Bool} {r : AV} (ho : o.op = .binOp op t x y u) (hx : boolOf (s.aval x) = some m) (hy : boolOf (s.aval y) = some n)
    (ht : P.underlying t = some .bool) (hr : boolOp op m n = some r) : OpOk P o s ⟨r, [], []⟩ :=
  opok_value fun w F μ K a hs => by
    have e1 := boolOf_ok hx (aval_ok hs x)
    have e2 := boolOf_ok hy (aval_ok hs y)
    cases op <;> simp [boolOp] at hr <;> subst hr <;>
      exact ⟨_, by simp only [execOp, ho, e1, e2, Sem.run_bind, guard_bool, Result.andThen_ok, run_eql_bool _ _ _ _ ht, run_neq_bool _ _ _ _ ht]; rfl, .bool _⟩

end Go.Proofs.Ytkfdfapickladaa.Abs
