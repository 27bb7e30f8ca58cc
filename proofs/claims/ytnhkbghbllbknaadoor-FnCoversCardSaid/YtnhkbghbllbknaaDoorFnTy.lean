/- The data of the functions, and their cells. No condition. -/
import Derived.Test.YtnhkbghbllbknaaDoorVG
namespace Go.Proofs.YtnhkbghbllbknaaDoor.Abs
open Go Go.RowKit

/-- Kinds of data: numbers, texts, bools, lists, structs (by their numbers). -/
inductive Ty where
  | int (k : IntKind)
  | str
  | bool
  | sl (t : Ty)
  | st (i : Nat)
  deriving DecidableEq

structure GateRule where
  Verbs : List Int
  Kind : List UInt8
  Team : List UInt8
  Prefix : List UInt8
  deriving DecidableEq
instance : Inhabited GateRule := ⟨⟨([] : List Int), ([] : List UInt8), ([] : List UInt8), ([] : List UInt8)⟩⟩
structure GateAct where
  Verb : Int
  Kind : List UInt8
  Team : List UInt8
  Name : List UInt8
  deriving DecidableEq
instance : Inhabited GateAct := ⟨⟨(0 : Int), ([] : List UInt8), ([] : List UInt8), ([] : List UInt8)⟩⟩
structure GateTeam where
  Name : List UInt8
  Over : List UInt8
  deriving DecidableEq
instance : Inhabited GateTeam := ⟨⟨([] : List UInt8), ([] : List UInt8)⟩⟩
structure L1Rd where
  b : List Int
  p : Int
  deriving DecidableEq
instance : Inhabited L1Rd := ⟨⟨([] : List Int), (0 : Int)⟩⟩
structure GateField where
  Name : List UInt8
  Kind : Int
  Least : Int
  Most : Int
  Words : List (List UInt8)
  To : List UInt8
  Role : Int
  Must : Bool
  Fixed : Bool
  Default : List UInt8
  Weighs : List UInt8
  deriving DecidableEq
instance : Inhabited GateField := ⟨⟨([] : List UInt8), (0 : Int), (0 : Int), (0 : Int), ([] : List (List UInt8)), ([] : List UInt8), (0 : Int), false, false, ([] : List UInt8), ([] : List UInt8)⟩⟩
structure GateShape where
  Kind : List UInt8
  Fields : List GateField
  deriving DecidableEq
instance : Inhabited GateShape := ⟨⟨([] : List UInt8), ([] : List GateField)⟩⟩
structure GateMend where
  Kind : List UInt8
  Field : List UInt8
  When : List UInt8
  Is : List UInt8
  Put : List UInt8
  From : List UInt8
  deriving DecidableEq
instance : Inhabited GateMend := ⟨⟨([] : List UInt8), ([] : List UInt8), ([] : List UInt8), ([] : List UInt8), ([] : List UInt8), ([] : List UInt8)⟩⟩
structure GateLaw where
  Shapes : List GateShape
  Mends : List GateMend
  Teams : List GateTeam
  deriving DecidableEq
instance : Inhabited GateLaw := ⟨⟨([] : List GateShape), ([] : List GateMend), ([] : List GateTeam)⟩⟩
structure Pair where
  Key : List UInt8
  deriving DecidableEq
instance : Inhabited Pair := ⟨⟨([] : List UInt8)⟩⟩
def C : Nat → Type
  | 0 => GateRule
  | 1 => GateAct
  | 2 => GateTeam
  | 3 => L1Rd
  | 4 => GateField
  | 5 => GateShape
  | 6 => GateMend
  | 7 => GateLaw
  | 8 => Pair
  | _ => Unit
def inh : (i : Nat) → C i
  | 0 => (default : GateRule)
  | 1 => (default : GateAct)
  | 2 => (default : GateTeam)
  | 3 => (default : L1Rd)
  | 4 => (default : GateField)
  | 5 => (default : GateShape)
  | 6 => (default : GateMend)
  | 7 => (default : GateLaw)
  | 8 => (default : Pair)
  | _ + 9 => ()
def Ty.dn : Ty → Type
  | .int _ => Int
  | .str => List UInt8
  | .bool => Bool
  | .sl t => List t.dn
  | .st i => C i
def Ty.df : (t : Ty) → t.dn
  | .int _ => (0 : Int)
  | .str => ([] : List UInt8)
  | .bool => false
  | .sl _ => ([] : List _)
  | .st i => inh i
/-- A datum. -/
structure Dyn where
  t : Ty
  x : t.dn
/-- Several data. -/
def Tup : List Ty → Type
  | [] => Unit
  | t :: ts => t.dn × Tup ts
def tupDyn : (ts : List Ty) → Tup ts → List Dyn
  | [], _ => []
  | t :: ts, x => ⟨t, x.1⟩ :: tupDyn ts x.2
def castTup : (ts : List Ty) → List Dyn → Option (Tup ts)
  | [], [] => some ()
  | t :: ts, ⟨u, x⟩ :: l => if h : u = t then (match castTup ts l with
    | some y => some (h ▸ x, y)
    | none => none) else none
  | _, _ => none
theorem castTup_some : ∀ {ts : List Ty} {l : List Dyn} {x : Tup ts}, castTup ts l = some x → tupDyn ts x = l
  | [], [], x, _ => rfl
  | [], _ :: _, x, h => by cases h
  | _ :: _, [], x, h => by cases h
  | t :: ts, ⟨u, y⟩ :: l, x, h => by
    simp only [castTup] at h
    split at h
    · rename_i e
      subst e
      split at h
      · rename_i z hz
        cases h
        simp only [tupDyn, castTup_some hz]
      · cases h
    · cases h
/-- A function of several data. -/
def Fn' : List Ty → Type → Type
  | [], R => R
  | t :: ts, R => t.dn → Fn' ts R
def appT {R : Type} : (ts : List Ty) → Fn' ts R → Tup ts → R
  | [], f, _ => f
  | _ :: ts, f, x => appT ts (f x.1) x.2
def curT {R : Type} : (ts : List Ty) → (Tup ts → R) → Fn' ts R
  | [], f => f ()
  | _ :: ts, f => fun x => curT ts fun y => f (x, y)
theorem appT_curT {R : Type} : ∀ (ts : List Ty) (f : Tup ts → R) (x : Tup ts), appT ts (curT ts f) x = f x
  | [], f, x => rfl
  | _ :: ts, f, (x, y) => appT_curT ts (fun y => f (x, y)) y
def slG {α : Type} (n : Nat) (d : α) (c : α → List AV) (xs : List α) : AV := .fs n xs.length fun i j => (c (xs.getD i d)).getD j .top

def GateRule.c (x : GateRule) : List AV := [slG 1 (0 : Int) (fun y : Int => [.int .i64 y]) x.Verbs, .str x.Kind, .str x.Team, .str x.Prefix]
def GateRule.g (x : GateRule) : List Dyn := [⟨.sl (.int .i64), x.Verbs⟩, ⟨.str, x.Kind⟩, ⟨.str, x.Team⟩, ⟨.str, x.Prefix⟩]
def GateAct.c (x : GateAct) : List AV := [.int .i64 x.Verb, .str x.Kind, .str x.Team, .str x.Name]
def GateAct.g (x : GateAct) : List Dyn := [⟨.int .i64, x.Verb⟩, ⟨.str, x.Kind⟩, ⟨.str, x.Team⟩, ⟨.str, x.Name⟩]
def GateTeam.c (x : GateTeam) : List AV := [.str x.Name, .str x.Over]
def GateTeam.g (x : GateTeam) : List Dyn := [⟨.str, x.Name⟩, ⟨.str, x.Over⟩]
def L1Rd.c (x : L1Rd) : List AV := [slG 1 (0 : Int) (fun y : Int => [.int .u8 y]) x.b, .int .i64 x.p]
def L1Rd.g (x : L1Rd) : List Dyn := [⟨.sl (.int .u8), x.b⟩, ⟨.int .i64, x.p⟩]
def GateField.c (x : GateField) : List AV := [.str x.Name, .int .i64 x.Kind, .int .i64 x.Least, .int .i64 x.Most, slG 1 ([] : List UInt8) (fun y : List UInt8 => [.str y]) x.Words, .str x.To, .int .i64 x.Role, .bool x.Must, .bool x.Fixed, .str x.Default, .str x.Weighs]
def GateField.g (x : GateField) : List Dyn := [⟨.str, x.Name⟩, ⟨.int .i64, x.Kind⟩, ⟨.int .i64, x.Least⟩, ⟨.int .i64, x.Most⟩, ⟨.sl .str, x.Words⟩, ⟨.str, x.To⟩, ⟨.int .i64, x.Role⟩, ⟨.bool, x.Must⟩, ⟨.bool, x.Fixed⟩, ⟨.str, x.Default⟩, ⟨.str, x.Weighs⟩]
def GateShape.c (x : GateShape) : List AV := [.str x.Kind, slG 11 (default : GateField) GateField.c x.Fields]
def GateShape.g (x : GateShape) : List Dyn := [⟨.str, x.Kind⟩, ⟨.sl (.st 4), x.Fields⟩]
def GateMend.c (x : GateMend) : List AV := [.str x.Kind, .str x.Field, .str x.When, .str x.Is, .str x.Put, .str x.From]
def GateMend.g (x : GateMend) : List Dyn := [⟨.str, x.Kind⟩, ⟨.str, x.Field⟩, ⟨.str, x.When⟩, ⟨.str, x.Is⟩, ⟨.str, x.Put⟩, ⟨.str, x.From⟩]
def GateLaw.c (x : GateLaw) : List AV := [slG 2 (default : GateShape) GateShape.c x.Shapes, slG 6 (default : GateMend) GateMend.c x.Mends, slG 2 (default : GateTeam) GateTeam.c x.Teams]
def GateLaw.g (x : GateLaw) : List Dyn := [⟨.sl (.st 5), x.Shapes⟩, ⟨.sl (.st 6), x.Mends⟩, ⟨.sl (.st 2), x.Teams⟩]
def Pair.c (x : Pair) : List AV := [.str x.Key]
def Pair.g (x : Pair) : List Dyn := [⟨.str, x.Key⟩]
def csz : Nat → Nat
  | 0 => 4
  | 1 => 4
  | 2 => 2
  | 3 => 2
  | 4 => 11
  | 5 => 2
  | 6 => 6
  | 7 => 3
  | 8 => 1
  | _ => 0
def cc : (i : Nat) → C i → List AV
  | 0, x => GateRule.c x
  | 1, x => GateAct.c x
  | 2, x => GateTeam.c x
  | 3, x => L1Rd.c x
  | 4, x => GateField.c x
  | 5, x => GateShape.c x
  | 6, x => GateMend.c x
  | 7, x => GateLaw.c x
  | 8, x => Pair.c x
  | _ + 9, _ => []
def get : (i : Nat) → C i → List Dyn
  | 0, x => GateRule.g x
  | 1, x => GateAct.g x
  | 2, x => GateTeam.g x
  | 3, x => L1Rd.g x
  | 4, x => GateField.g x
  | 5, x => GateShape.g x
  | 6, x => GateMend.g x
  | 7, x => GateLaw.g x
  | 8, x => Pair.g x
  | _ + 9, _ => []
def lts : Nat → List Ty
  | 0 => [.sl (.int .i64), .str, .str, .str]
  | 1 => [.int .i64, .str, .str, .str]
  | 2 => [.str, .str]
  | 3 => [.sl (.int .u8), .int .i64]
  | 4 => [.str, .int .i64, .int .i64, .int .i64, .sl .str, .str, .int .i64, .bool, .bool, .str, .str]
  | 5 => [.str, .sl (.st 4)]
  | 6 => [.str, .str, .str, .str, .str, .str]
  | 7 => [.sl (.st 5), .sl (.st 6), .sl (.st 2)]
  | 8 => [.str]
  | _ => []
def con : (i : Nat) → Fn' (lts i) (C i)
  | 0 => (fun (a0 : List Int) => fun (a1 : List UInt8) => fun (a2 : List UInt8) => fun (a3 : List UInt8) => (⟨a0, a1, a2, a3⟩ : GateRule))
  | 1 => (fun (a0 : Int) => fun (a1 : List UInt8) => fun (a2 : List UInt8) => fun (a3 : List UInt8) => (⟨a0, a1, a2, a3⟩ : GateAct))
  | 2 => (fun (a0 : List UInt8) => fun (a1 : List UInt8) => (⟨a0, a1⟩ : GateTeam))
  | 3 => (fun (a0 : List Int) => fun (a1 : Int) => (⟨a0, a1⟩ : L1Rd))
  | 4 => (fun (a0 : List UInt8) => fun (a1 : Int) => fun (a2 : Int) => fun (a3 : Int) => fun (a4 : List (List UInt8)) => fun (a5 : List UInt8) => fun (a6 : Int) => fun (a7 : Bool) => fun (a8 : Bool) => fun (a9 : List UInt8) => fun (a10 : List UInt8) => (⟨a0, a1, a2, a3, a4, a5, a6, a7, a8, a9, a10⟩ : GateField))
  | 5 => (fun (a0 : List UInt8) => fun (a1 : List GateField) => (⟨a0, a1⟩ : GateShape))
  | 6 => (fun (a0 : List UInt8) => fun (a1 : List UInt8) => fun (a2 : List UInt8) => fun (a3 : List UInt8) => fun (a4 : List UInt8) => fun (a5 : List UInt8) => (⟨a0, a1, a2, a3, a4, a5⟩ : GateMend))
  | 7 => (fun (a0 : List GateShape) => fun (a1 : List GateMend) => fun (a2 : List GateTeam) => (⟨a0, a1, a2⟩ : GateLaw))
  | 8 => (fun (a0 : List UInt8) => (⟨a0⟩ : Pair))
  | _ + 9 => ()
/-- How many cells a datum takes; its cells. -/
def tsz : Ty → Nat
  | .st i => csz i
  | _ => 1
def tcells : (t : Ty) → t.dn → List AV
  | .int k, x => [.int k x]
  | .str, x => [.str x]
  | .bool, x => [.bool x]
  | .sl t, x => [slG (tsz t) t.df (tcells t) x]
  | .st i, x => cc i x
/-- The abstract value of a datum. -/
def dav : Dyn → AV
  | ⟨.int k, x⟩ => .int k x
  | ⟨.str, x⟩ => .str x
  | ⟨.bool, x⟩ => .bool x
  | ⟨.sl t, x⟩ => slG (tsz t) t.df (tcells t) x
  | ⟨.st i, x⟩ => .agg (cc i x)

theorem get_cc : ∀ (i : Nat) (x : C i), (get i x).map dav = cc i x
  | 0, _ => rfl
  | 1, _ => rfl
  | 2, _ => rfl
  | 3, _ => rfl
  | 4, _ => rfl
  | 5, _ => rfl
  | 6, _ => rfl
  | 7, _ => rfl
  | 8, _ => rfl
  | _ + 9, _ => rfl
theorem get_con : ∀ (i : Nat) (x : Tup (lts i)), get i (appT (lts i) (con i) x) = tupDyn (lts i) x
  | 0, _ => rfl
  | 1, _ => rfl
  | 2, _ => rfl
  | 3, _ => rfl
  | 4, _ => rfl
  | 5, _ => rfl
  | 6, _ => rfl
  | 7, _ => rfl
  | 8, _ => rfl
  | _ + 9, _ => rfl
theorem get_ts : ∀ (i : Nat) (x : C i), (get i x).map (·.t) = lts i
  | 0, _ => rfl
  | 1, _ => rfl
  | 2, _ => rfl
  | 3, _ => rfl
  | 4, _ => rfl
  | 5, _ => rfl
  | 6, _ => rfl
  | 7, _ => rfl
  | 8, _ => rfl
  | _ + 9, _ => rfl
theorem csz_get : ∀ (i : Nat) (x : C i), (get i x).length = csz i
  | 0, _ => rfl
  | 1, _ => rfl
  | 2, _ => rfl
  | 3, _ => rfl
  | 4, _ => rfl
  | 5, _ => rfl
  | 6, _ => rfl
  | 7, _ => rfl
  | 8, _ => rfl
  | _ + 9, _ => rfl
/-- Are the leaves of a struct no structs? -/
theorem get_leaf : ∀ (i : Nat) (x : C i) (y : Dyn), y ∈ get i x → ∀ j, y.t ≠ .st j
  | 0, x, y, h, j => by
    simp only [get, GateRule.g, List.mem_cons, List.not_mem_nil, or_false] at h
    rcases h with rfl | rfl | rfl | rfl <;> simp
  | 1, x, y, h, j => by
    simp only [get, GateAct.g, List.mem_cons, List.not_mem_nil, or_false] at h
    rcases h with rfl | rfl | rfl | rfl <;> simp
  | 2, x, y, h, j => by
    simp only [get, GateTeam.g, List.mem_cons, List.not_mem_nil, or_false] at h
    rcases h with rfl | rfl <;> simp
  | 3, x, y, h, j => by
    simp only [get, L1Rd.g, List.mem_cons, List.not_mem_nil, or_false] at h
    rcases h with rfl | rfl <;> simp
  | 4, x, y, h, j => by
    simp only [get, GateField.g, List.mem_cons, List.not_mem_nil, or_false] at h
    rcases h with rfl | rfl | rfl | rfl | rfl | rfl | rfl | rfl | rfl | rfl | rfl <;> simp
  | 5, x, y, h, j => by
    simp only [get, GateShape.g, List.mem_cons, List.not_mem_nil, or_false] at h
    rcases h with rfl | rfl <;> simp
  | 6, x, y, h, j => by
    simp only [get, GateMend.g, List.mem_cons, List.not_mem_nil, or_false] at h
    rcases h with rfl | rfl | rfl | rfl | rfl | rfl <;> simp
  | 7, x, y, h, j => by
    simp only [get, GateLaw.g, List.mem_cons, List.not_mem_nil, or_false] at h
    rcases h with rfl | rfl | rfl <;> simp
  | 8, x, y, h, j => by
    simp only [get, Pair.g, List.mem_cons, List.not_mem_nil, or_false] at h
    rcases h with rfl <;> simp
  | _ + 9, _, _, h, _ => by cases h
end Go.Proofs.YtnhkbghbllbknaaDoor.Abs
