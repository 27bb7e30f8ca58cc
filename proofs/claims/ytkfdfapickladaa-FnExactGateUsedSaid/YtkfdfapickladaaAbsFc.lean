/- Bits, shifts; function values: made, called; values of an interface. No condition. -/
import Derived.Test.YtkfdfapickladaaAbsFb
namespace Go.Proofs.Ytkfdfapickladaa.Abs
open Go Go.RowKit

variable {w w' w'' : World} {F F' F'' : Nat → Prop} {μ μ' μ'' : Nat → Nat} {K K' K'' : Nat → Prop} {H H' H'' : Hp} {P : Program}

def bAnd (k : IntKind) (x y : Int) : Int := k.wrap ((BitVec.ofInt k.bits x &&& BitVec.ofInt k.bits y).toNat : Int)
def bOr (k : IntKind) (x y : Int) : Int := k.wrap ((BitVec.ofInt k.bits x ||| BitVec.ofInt k.bits y).toNat : Int)
def bXor (k : IntKind) (x y : Int) : Int := k.wrap ((BitVec.ofInt k.bits x ^^^ BitVec.ofInt k.bits y).toNat : Int)
def bShl (k : IntKind) (x y : Int) : Int := k.wrap (x * 2 ^ (min y.toNat k.bits))
def bShr (k : IntKind) (x y : Int) : Int := x.fdiv (2 ^ (min y.toNat k.bits))

def bitOp (op : BinOp) (k : IntKind) (m n : Int) : Option AV :=
  match op with
  | .and => some (.int k (bAnd k m n))
  | .or => some (.int k (bOr k m n))
  | .xor => some (.int k (bXor k m n))
  | _ => none
theorem op_bits {o : Oper} {s : SSt} {x y : Operand} {op : BinOp} {t u : TypeId} {k : IntKind} {m n : Int} {r : AV} (ho : o.op = .binOp op t x y u) (hx : s.aval x = .int k m) (hy : s.aval y = .int k n)
    (hr : bitOp op k m n = some r) : OpOk P o s ⟨r, [], []⟩ :=
  opok_value fun w F μ K a hs => by
    have h := aval_ok hs x
    rw [hx] at h
    have h' := aval_ok hs y
    rw [hy] at h'
    cases op <;> simp [bitOp] at hr <;> subst hr <;>
      exact ⟨_, by simp only [execOp, ho, h.int_inv, h'.int_inv, Sem.run_bind, guard_int, Result.andThen_ok]; simp [binOp, Op.intBits]; rfl, .int _ _⟩

def shiftOp (op : BinOp) (k : IntKind) (m n : Int) : Option AV :=
  match op with
  | .shl => some (.int k (bShl k m n))
  | .shr => some (.int k (bShr k m n))
  | _ => none
theorem op_shift {o : Oper} {s : SSt} {x y : Operand} {op : BinOp} {t u : TypeId} {k k' : IntKind} {m n : Int} {r : AV} (ho : o.op = .binOp op t x y u) (hx : s.aval x = .int k m) (hy : s.aval y = .int k' n)
    (hr : shiftOp op k m n = some r) (hn : 0 ≤ n) : OpOk P o s ⟨r, [], []⟩ :=
  opok_value fun w F μ K a hs => by
    have h := aval_ok hs x
    rw [hx] at h
    have h' := aval_ok hs y
    rw [hy] at h'
    have hn' : ¬ n < 0 := by omega
    cases op <;> simp [shiftOp] at hr <;> subst hr <;>
      exact ⟨_, by simp only [execOp, ho, h.int_inv, h'.int_inv, Sem.run_bind, guard_int, Result.andThen_ok]; simp [binOp, Op.shift, hn']; rfl, .int _ _⟩

/-! ### Function values -/

theorem op_makeFunc {o : Oper} {s : SSt} {fn : Fn} {xs ys : List Operand} (ho : o.op = .makeFunc fn ⟨xs⟩ ⟨ys⟩) : OpOk P o s ⟨.fn fn (xs.map s.aval) (ys.map s.aval), [], []⟩ :=
  opok_value fun w F μ K a hs => by
    have hx := avals_ok hs xs
    have hy := avals_ok hs ys
    exact ⟨.func fn ⟨xs.map a.eval⟩ ⟨ys.map a.eval⟩, by simp [execOp, ho, Instr.makeFunc], .fn fn _ _ _ _ hx.1 hy.1 hx.2 hy.2⟩

theorem VR.fn_inv {f : Fn} {xs ys : List AV} {v : Value} (h : VR w F μ K (.fn f xs ys) v) : ∃ vs us, v = .func f ⟨vs⟩ ⟨us⟩ ∧ VRs w F μ K xs vs ∧ VRs w F μ K ys us := by
  cases h with
  | fn _ _ _ vs us h h' hv hu => exact ⟨vs, us, rfl, ⟨h, hv⟩, ⟨h', hu⟩⟩

theorem VRs.app {l m : List AV} {vs us : List Value} (h : VRs w F μ K l vs) (h' : VRs w F μ K m us) : VRs w F μ K (l ++ m) (vs ++ us) := by
  induction l generalizing vs with
  | nil => rw [h.nil_inv]; exact h'
  | cons x l ih =>
    obtain ⟨v, r, rfl, h1, h2⟩ := h.cons_inv
    exact .cons h1 (ih h2)

theorem op_callv {o : Oper} {s : SSt} {x : Operand} {f : FuncId} {first cap : List AV} {args : List Operand} {ts : Array TypeId} {H0 : Hp} {r : AV} {up : List (Nat × Option Blk)} {new : List Nat} {l : List AV}
    (ho : o.op = .call ⟨.value x, ⟨args⟩, ts⟩) (hx : s.aval x = .fn (.func f) first cap) (hl : ∀ w F μ K vs, VRs w F μ K ((first ++ args.map s.aval) ++ cap) vs → VRs w F μ K l vs) (hp : Part H0 s.H) (hg : GC P f l H0 r up new) : OpOk P o s ⟨r, up, new⟩ := by
  intro w F μ K a hsr hn Kn Q hk
  have hv := aval_ok hsr x
  rw [hx] at hv
  obtain ⟨vs, us, hev, h1, h2⟩ := hv.fn_inv
  have hargs := hl w F μ K _ ((h1.app (avals_ok hsr args)).app h2)
  unfold Oper.wp
  have hrun : (execOp a.eval o).run P w = .ok (.enter f ⟨(vs ++ args.map a.eval) ++ us⟩) w := by
    have := hg.1 ⟨(vs ++ args.map a.eval) ++ us⟩ w
    simp only [execOp, ho, resolve, hev, Deferred.ofValue, Sem.run_bind, Sem.run_pure, Result.andThen_ok, invoke]
    simpa using this
  rw [hrun, Oper.upon_enter]
  refine (hg.2 w F μ K _ hargs (hsr.hr.part hp) hn).mono fun e w' he => ?_
  obtain ⟨v, F', μ', rfl, hv, hr', hf⟩ := he
  obtain ⟨k1, k2⟩ := frame hsr.hr hp hr' hf
  exact hk v w' F' μ' hv k1 k2

/-! ### Interfaces -/

def ifaceD : TypeDesc → Bool
  | .interface _ => true
  | _ => false
theorem op_makeInterface {o : Oper} {s : SSt} {t : TypeId} {d : TypeDesc} {x : Operand} (ho : o.op = .makeInterface t x) (ht : P.underlying t = some d) (hd : ifaceD d = false) : OpOk P o s ⟨.ifc t (s.aval x), [], []⟩ :=
  opok_value fun w F μ K a hs => by
    refine ⟨.iface t (a.eval x), ?_, .ifc _ _ _ (aval_ok hs x)⟩
    simp only [execOp, ho, Instr.makeInterface, Sem.run_bind, run_und ht, Result.andThen_ok]
    cases d <;> first | rfl | (simp [ifaceD] at hd)

theorem VR.ifc_inv {t : TypeId} {b : AV} {v : Value} (h : VR w F μ K (.ifc t b) v) : ∃ u, v = .iface t u ∧ VR w F μ K b u := by
  cases h with | ifc _ _ u h => exact ⟨u, rfl, h⟩

/-- The method of a concrete type that takes its receiver as it is. -/
def MethodIs (P : Program) (t : TypeId) (name : String) (f : FuncId) : Prop := ∀ (v : Value) (w : World), (method (P.types.size + Made.depth) t v name).run P w = .ok (f, v) w

theorem op_invoke {o : Oper} {s : SSt} {x : Operand} {name : String} {f : FuncId} {t : TypeId} {b : AV} {args : List Operand} {ts : Array TypeId} {H0 : Hp} {r : AV} {up : List (Nat × Option Blk)} {new : List Nat} {l : List AV}
    (ho : o.op = .call ⟨.invoke x name, ⟨args⟩, ts⟩) (hx : s.aval x = .ifc t b) (hm : MethodIs P t name f) (hl : ∀ w F μ K vs, VRs w F μ K (b :: args.map s.aval) vs → VRs w F μ K l vs) (hp : Part H0 s.H) (hg : GC P f l H0 r up new) : OpOk P o s ⟨r, up, new⟩ := by
  intro w F μ K a hsr hn Kn Q hk
  have hv := aval_ok hsr x
  rw [hx] at hv
  obtain ⟨u, hev, h1⟩ := hv.ifc_inv
  have hargs := hl w F μ K _ (.cons h1 (avals_ok hsr args))
  unfold Oper.wp
  have hrun : (execOp a.eval o).run P w = .ok (.enter f ⟨u :: args.map a.eval⟩) w := by
    have := hg.1 ⟨u :: args.map a.eval⟩ w
    have e : List.take args.length (args.map a.eval) = args.map a.eval := List.take_of_length_le (by simp)
    simp [execOp, ho, resolve, hev, invoke, callMethod, hm u w, e]
    simpa using this
  rw [hrun, Oper.upon_enter]
  refine (hg.2 w F μ K _ hargs (hsr.hr.part hp) hn).mono fun e w' he => ?_
  obtain ⟨v, F', μ', rfl, hv, hr', hf⟩ := he
  obtain ⟨k1, k2⟩ := frame hsr.hr hp hr' hf
  exact hk v w' F' μ' hv k1 k2

end Go.Proofs.Ytkfdfapickladaa.Abs
