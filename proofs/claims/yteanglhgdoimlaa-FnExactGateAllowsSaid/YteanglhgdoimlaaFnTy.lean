/- The data of the functions, and their cells. No condition. -/
import Derived.Test.YteanglhgdoimlaaAbsN
namespace Go.Proofs.Yteanglhgdoimlaa.Fn
open Go Go.RowKit Go.Proofs.Yteanglhgdoimlaa.Abs

def okStr (x : List UInt8) : Prop := x.length ≤ maxLen
def okS {α : Type} (p : α → Prop) (xs : List α) : Prop := xs.length ≤ maxLen ∧ ∀ x, x ∈ xs → p x
def okInt (k : IntKind) (x : Int) : Prop := k.min ≤ x ∧ x ≤ k.max
def wr (k : IntKind) (n : Int) : Int := k.wrap n
def cI64 (x : Int) : List AV := [.int .i64 x]
def cI32 (x : Int) : List AV := [.int .i32 x]
def cI16 (x : Int) : List AV := [.int .i16 x]
def cI8 (x : Int) : List AV := [.int .i8 x]
def cU8 (x : Int) : List AV := [.int .u8 x]
def cU16 (x : Int) : List AV := [.int .u16 x]
def cU32 (x : Int) : List AV := [.int .u32 x]
def cU64 (x : Int) : List AV := [.int .u64 x]
def cStr (x : List UInt8) : List AV := [.str x]
def cBool (x : Bool) : List AV := [.bool x]
structure GateTeam where
  Name : List UInt8
  Over : List UInt8
  deriving DecidableEq
instance : Inhabited GateTeam := ⟨⟨[], []⟩⟩
def GateTeam.c (x : GateTeam) : List AV := [.str x.Name, .str x.Over]
def GateTeam.ok (x : GateTeam) : Prop := okStr x.Name ∧ okStr x.Over
structure GateRule where
  Verbs : List (Int)
  Kind : List UInt8
  Team : List UInt8
  Prefix : List UInt8
  deriving DecidableEq
instance : Inhabited GateRule := ⟨⟨[], [], [], []⟩⟩
def GateRule.c (x : GateRule) : List AV := [sl 1 cI64 x.Verbs, .str x.Kind, .str x.Team, .str x.Prefix]
def GateRule.ok (x : GateRule) : Prop := okS (okInt .i64) x.Verbs ∧ okStr x.Kind ∧ okStr x.Team ∧ okStr x.Prefix
structure GateAct where
  Verb : Int
  Kind : List UInt8
  Team : List UInt8
  Name : List UInt8
  deriving DecidableEq
instance : Inhabited GateAct := ⟨⟨0, [], [], []⟩⟩
def GateAct.c (x : GateAct) : List AV := [.int .i64 x.Verb, .str x.Kind, .str x.Team, .str x.Name]
def GateAct.ok (x : GateAct) : Prop := okInt .i64 x.Verb ∧ okStr x.Kind ∧ okStr x.Team ∧ okStr x.Name
theorem hmix : Try.prog.follows .mixedOrders = true := by kernel_rfl
end Go.Proofs.Yteanglhgdoimlaa.Fn
