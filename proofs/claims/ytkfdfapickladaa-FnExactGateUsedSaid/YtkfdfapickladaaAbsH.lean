/- The evaluator: what a row of operations does to an abstract state, reckoned by the kernel; it is sound. No condition. -/
import Derived.Test.YtkfdfapickladaaAbsG
namespace Go.Proofs.Ytkfdfapickladaa.Abs
open Go Go.RowKit

variable {w w' w'' : World} {F F' F'' : Nat → Prop} {μ μ' μ'' : Nat → Nat} {K K' K'' : Nat → Prop} {H H' H'' : Hp} {P : Program}

/-- A call that is met: its function, its arguments, the blocks that it is handed, its answer, the blocks that it turned; N, k: the numbers of its new blocks. -/
structure CallR where
  f : FuncId
  l : List AV
  hs : List (Nat × Blk)
  r : AV
  up : List (Nat × Option Blk)
  N : Nat
  k : Nat

def hpl : List (Nat × Blk) → Hp
  | [], _ => none
  | (i, b) :: r, id => match Nat.beq id i with
    | true => some b
    | false => hpl r id
def hsOb (H : Hp) : List (Nat × Blk) → List Prop
  | [] => []
  | (i, b) :: r => (H i = some b) :: hsOb H r
theorem hpl_part : ∀ {l : List (Nat × Blk)}, AllP (hsOb H l) → Part (hpl l) H
  | [], _ => ⟨fun _ => .inl rfl⟩
  | (i, b) :: r, h => ⟨fun id => by
    simp only [hpl]
    cases e : Nat.beq id i with
    | true => rw [Nat.eq_of_beq_eq_true e, h.1]; exact .inr rfl
    | false => exact (hpl_part h.2).H id⟩

def CallsOk (P : Program) : List CallR → Prop
  | [] => True
  | c :: r => GC P c.f c.l (hpl c.hs) c.r c.up (List.range' c.N c.k) ∧ CallsOk P r

structure Ev where
  v : AV
  up : List (Nat × Option Blk)
  k : Nat
  ob : List Prop
  cs : List CallR

def Ev.val (v : AV) (ob : List Prop) (cs : List CallR) : Option Ev := some ⟨v, [], 0, ob, cs⟩

def evBin (P : Program) (op : BinOp) (t : TypeId) (x y : AV) (cs : List CallR) : Option Ev :=
  match x, y with
  | .int k m, .int k' n => match shiftOp op k m n with
    | some r => Ev.val r [0 ≤ n] cs
    | none => if k = k' then (match intOp op k m n with
      | some r => Ev.val r [] cs
      | none => match divOp op k m n with
        | some r => Ev.val r ([n ≠ 0]) cs
        | none => match bitOp op k m n with
          | some r => Ev.val r [] cs
          | none => none) else none
  | .str m, .str n => match strOp op m n with
    | some r => Ev.val r [] cs
    | none => match op with
      | .add => Ev.val (.str (m ++ n)) [m.length + n.length < 1099511627776] cs
      | _ => none
  | x, y => match boolOf x, boolOf y, P.underlying t with
    | some m, some n, some .bool => match boolOp op m n with
      | some r => Ev.val r [] cs
      | none => none
    | _, _, _ => none

def evIdxA (P : Program) (t : TypeId) (x y : AV) (cs : List CallR) : Option Ev :=
  match y, P.underlying t with
  | .int _ i, some (.slice et) => match P.info? et with
    | some ti => match x with
      | .fs esz n e => if Nat.beq ti.size esz then Ev.val (.fp esz (e i.toNat) 0) [0 ≤ i ∧ i < n] cs else none
      | x => match rowOf x with
        | some (id, i0, n, esz) => if Nat.beq ti.size esz then Ev.val (.rp id esz (addNat i0 i.toNat) 0) [0 ≤ i ∧ i < n] cs else none
        | none => none
    | none => none
  | _, _ => none

def evLoad (P : Program) (H : Hp) (t : TypeId) (x : AV) (cs : List CallR) : Option Ev :=
  match P.underlying t, P.info? t with
  | some d, some i => if aggD d then (match cellsAt H x i.size with
      | some (c, ob) => Ev.val (.agg ((List.range i.size).map c)) ob cs
      | none => none) else (match cellsAt H x 1 with
      | some (c, ob) => Ev.val (c 0) ob cs
      | none => none)
  | _, _ => none

def evStore (P : Program) (H : Hp) (t : TypeId) (x y : AV) (cs : List CallR) : Option Ev :=
  match P.info? t, cellsA y with
  | some ti, some l => if l.all oneA && Nat.beq l.length ti.size then (match storeA H x l with
    | some (id, b, ob) => some ⟨.lit undef, [(id, some b)], 0, ob, cs⟩
    | none => none) else none
  | _, _ => none

def evCall (s : SSt) (f : Operand) (args : List Operand) (cs : List CallR) : Option Ev :=
  match f, cs with
  | .func f, c :: r => if Nat.beq f c.f && Nat.beq c.N s.N then some ⟨c.r, c.up, c.k, [(args.map s.aval).map nrm = c.l.map nrmE] ++ hsOb s.H c.hs, r⟩ else none
  | x, c :: r => match s.aval x with
    | .fn (.func f) a b => if Nat.beq f c.f && Nat.beq c.N s.N then some ⟨c.r, c.up, c.k, [((a ++ args.map s.aval) ++ b).map nrm = c.l.map nrmE] ++ hsOb s.H c.hs, r⟩ else none
    | _ => none
  | _, _ => none

def evInvoke (P : Program) (s : SSt) (x : Operand) (name : String) (args : List Operand) (cs : List CallR) : Option Ev :=
  match s.aval x, cs with
  | .ifc t b, c :: r => if Nat.beq c.N s.N then some ⟨c.r, c.up, c.k, [MethodIs P t name c.f, (b :: args.map s.aval).map nrm = c.l.map nrmE] ++ hsOb s.H c.hs, r⟩ else none
  | _, _ => none

def evIface (P : Program) (s : SSt) (t : TypeId) (x : Operand) (cs : List CallR) : Option Ev :=
  match P.underlying t with
  | some d => if ifaceD d then none else Ev.val (.ifc t (s.aval x)) [] cs
  | none => none

def evField (P : Program) (t : TypeId) (x : AV) (k : Nat) (cs : List CallR) : Option Ev :=
  match x, fieldOf P t k with
  | .agg l, some f => match partA P f.type l f.offset with
    | some r => Ev.val r [] cs
    | none => none
  | _, _ => none

def lenOk (x : AV) (d : TypeDesc) : Bool := bif isStr x then stringD d else sliceD d
def evLen (P : Program) (x : AV) (t : TypeId) (cs : List CallR) : Option Ev :=
  match lenA x, P.underlying t with
  | some n, some d => if lenOk x d then Ev.val (.int .i64 n) [] cs else none
  | _, _ => none

def evMake (P : Program) (N : Nat) (t : TypeId) (x y : AV) (cs : List CallR) : Option Ev :=
  match x, y, P.underlying t with
  | .int .i64 l, .int .i64 c, some (.slice et) => match P.info? et, zeroA P et with
    | some ti, some zs => if (Nat.beq zs.length ti.size && zs.all cloA1) && zs.all oneA then
        some ⟨.ms N 0 l.toNat ti.size, [(N, some (.row ti.size l.toNat fun _ j => zs.getD j .top))], 1, [0 ≤ l ∧ l ≤ c ∧ c * (ti.bytes : Int) ≤ 140737488355328 ∧ c ≤ 140737488355328], cs⟩ else none
    | _, _ => none
  | _, _, _ => none

def evBuild (P : Program) (s : SSt) (t : TypeId) (ps : List (Nat × Operand)) (cs : List CallR) : Option Ev :=
  match P.underlying t with
  | some (.struct fs) => match zeroA P t, fieldsP P fs.toList, partsA s ps with
    | some zs, some pl, some q => match fillA (fun i => pl[i]?) zs q with
      | some r => Ev.val (.agg r) [] cs
      | none => none
    | _, _, _ => none
  | _ => none

def evBuildSl (P : Program) (s : SSt) (t : TypeId) (n : Nat) (ps : List (Nat × Operand)) (cs : List CallR) : Option Ev :=
  match P.underlying t with
  | some (.slice et) => match P.info? et, zeroA P et, partsA s ps with
    | some ti, some zs, some q => match fillA (fun i => some (i * ti.size, ti.size)) ((List.range n).flatMap fun _ => zs) q with
      | some r => if (((Nat.beq zs.length ti.size && !Nat.beq ti.size 0) && (n * ti.size).ble 16777216) && r.all cloA1) && r.all oneA then
          some ⟨.ms s.N 0 n ti.size, [(s.N, some (.row ti.size n fun i j => r.getD (i * ti.size + j) .top))], 1, [], cs⟩ else none
      | none => none
    | _, _, _ => none
  | _ => none

def evAppend (P : Program) (s : SSt) (x y : AV) (t u : TypeId) (cs : List CallR) : Option Ev :=
  match P.underlying t, P.underlying u with
  | some (.slice et), some (.slice _) => match P.info? et with
    | some ti => match ti.zero with
      | some z => if (!Nat.beq ti.size 0 && Nat.beq z.cells.size ti.size) && ti.bytes.ble 4294967296 then (match dstRow s.H ti.size x, srcRow s.H ti.size y with
        | some (d, nl, n, e, ob), some (m, f, ob') => some ⟨(if nl then .vs s.N (n + m) ti.size else .ms s.N 0 (n + m) ti.size),
            (s.N, some (if nl then .vrow ti.size (n + m) (joinR n e f) else .row ti.size (n + m) (joinR n e f))) :: killL d, 1, (ob ++ ob') ++ [(n + m) * ti.bytes ≤ 70368744177664 ∧ n + m ≤ 70368744177664], cs⟩
        | _, _ => none) else none
      | none => none
    | none => none
  | _, _ => none

def evSlice (P : Program) (s : SSt) (t : TypeId) (x : AV) (lo hi : Option Operand) (cs : List CallR) : Option Ev :=
  match x, P.underlying t with
  | .str m, some .string => match bndA s 0 lo, bndA s m.length hi with
    | some l, some h => Ev.val (.str (subS m l h)) [0 ≤ l ∧ l ≤ h ∧ h ≤ m.length] cs
    | _, _ => none
  | .fs esz n e, some (.slice et) => match P.info? et, bndA s 0 lo, bndA s n hi with
    | some ti, some l, some h => if Nat.beq ti.size esz then Ev.val (.fs esz (h.toNat - l.toNat) (fun i j => e (l.toNat + i) j)) [0 ≤ l ∧ l ≤ h ∧ h ≤ n] cs else none
    | _, _, _ => none
  | _, _ => none

end Go.Proofs.Ytkfdfapickladaa.Abs
