/- The data of the functions, and their cells. No condition. -/
import Derived.Test.YtkfdfapickladaaAbsN
namespace Go.Proofs.Ytkfdfapickladaa.Fn
open Go Go.RowKit Go.Proofs.Ytkfdfapickladaa.Abs

def okStr (x : List UInt8) : Prop := x.length ≤ maxLen
def okS {α : Type} (p : α → Prop) (xs : List α) : Prop := xs.length ≤ maxLen ∧ ∀ x, x ∈ xs → p x
def okInt (k : IntKind) (x : Int) : Prop := k.min ≤ x ∧ x ≤ k.max
def wr (k : IntKind) (n : Int) : Int := k.wrap n
def cI64 (x : Int) : List AV := [.int .i64 x]
def cI32 (x : Int) : List AV := [.int .i32 x]
def cI16 (x : Int) : List AV := [.int .i16 x]
def cI8 (x : Int) : List AV := [.int .i8 x]
def cU8 (x : Int) : List AV := [.int .u8 x]
def cU16 (x : Int) : List AV := [.int .u16 x]
def cU32 (x : Int) : List AV := [.int .u32 x]
def cU64 (x : Int) : List AV := [.int .u64 x]
def cStr (x : List UInt8) : List AV := [.str x]
def cBool (x : Bool) : List AV := [.bool x]
structure GateTeam where
  Name : List UInt8
  Over : List UInt8
  deriving DecidableEq
instance : Inhabited GateTeam := ⟨⟨[], []⟩⟩
def GateTeam.c (x : GateTeam) : List AV := [.str x.Name, .str x.Over]
def GateTeam.ok (x : GateTeam) : Prop := okStr x.Name ∧ okStr x.Over
structure GateRule where
  Verbs : List (Int)
  Kind : List UInt8
  Team : List UInt8
  Prefix : List UInt8
  deriving DecidableEq
instance : Inhabited GateRule := ⟨⟨[], [], [], []⟩⟩
def GateRule.c (x : GateRule) : List AV := [sl 1 cI64 x.Verbs, .str x.Kind, .str x.Team, .str x.Prefix]
def GateRule.ok (x : GateRule) : Prop := okS (okInt .i64) x.Verbs ∧ okStr x.Kind ∧ okStr x.Team ∧ okStr x.Prefix
structure GateField where
  Name : List UInt8
  Kind : Int
  Least : Int
  Most : Int
  Words : List (List UInt8)
  To : List UInt8
  Role : Int
  Must : Bool
  Fixed : Bool
  Default : List UInt8
  Weighs : List UInt8
  deriving DecidableEq
instance : Inhabited GateField := ⟨⟨[], 0, 0, 0, [], [], 0, false, false, [], []⟩⟩
def GateField.c (x : GateField) : List AV := [.str x.Name, .int .i64 x.Kind, .int .i64 x.Least, .int .i64 x.Most, sl 1 cStr x.Words, .str x.To, .int .i64 x.Role, .bool x.Must, .bool x.Fixed, .str x.Default, .str x.Weighs]
def GateField.ok (x : GateField) : Prop := okStr x.Name ∧ okInt .i64 x.Kind ∧ okInt .i64 x.Least ∧ okInt .i64 x.Most ∧ okS okStr x.Words ∧ okStr x.To ∧ okInt .i64 x.Role ∧ True ∧ True ∧ okStr x.Default ∧ okStr x.Weighs
structure GateShape where
  Kind : List UInt8
  Fields : List (GateField)
  deriving DecidableEq
instance : Inhabited GateShape := ⟨⟨[], []⟩⟩
def GateShape.c (x : GateShape) : List AV := [.str x.Kind, sl 11 GateField.c x.Fields]
def GateShape.ok (x : GateShape) : Prop := okStr x.Kind ∧ okS GateField.ok x.Fields
structure GateMend where
  Kind : List UInt8
  Field : List UInt8
  When : List UInt8
  Is : List UInt8
  Put : List UInt8
  From : List UInt8
  deriving DecidableEq
instance : Inhabited GateMend := ⟨⟨[], [], [], [], [], []⟩⟩
def GateMend.c (x : GateMend) : List AV := [.str x.Kind, .str x.Field, .str x.When, .str x.Is, .str x.Put, .str x.From]
def GateMend.ok (x : GateMend) : Prop := okStr x.Kind ∧ okStr x.Field ∧ okStr x.When ∧ okStr x.Is ∧ okStr x.Put ∧ okStr x.From
structure GateLaw where
  Shapes : List (GateShape)
  Mends : List (GateMend)
  Teams : List (GateTeam)
  deriving DecidableEq
instance : Inhabited GateLaw := ⟨⟨[], [], []⟩⟩
def GateLaw.c (x : GateLaw) : List AV := [sl 2 GateShape.c x.Shapes, sl 6 GateMend.c x.Mends, sl 2 GateTeam.c x.Teams]
def GateLaw.ok (x : GateLaw) : Prop := okS GateShape.ok x.Shapes ∧ okS GateMend.ok x.Mends ∧ okS GateTeam.ok x.Teams
structure GateObject where
  Kind : List UInt8
  Name : List UInt8
  Team : List UInt8
  Values : List (List UInt8)
  Ending : Bool
  Holds : List (List UInt8)
  Version : Int
  deriving DecidableEq
instance : Inhabited GateObject := ⟨⟨[], [], [], [], false, [], 0⟩⟩
def GateObject.c (x : GateObject) : List AV := [.str x.Kind, .str x.Name, .str x.Team, sl 1 cStr x.Values, .bool x.Ending, sl 1 cStr x.Holds, .int .i64 x.Version]
def GateObject.ok (x : GateObject) : Prop := okStr x.Kind ∧ okStr x.Name ∧ okStr x.Team ∧ okS okStr x.Values ∧ True ∧ okS okStr x.Holds ∧ okInt .i64 x.Version
structure GateGrant where
  Number : Int
  To : List UInt8
  By : List UInt8
  Rule : GateRule
  deriving DecidableEq
instance : Inhabited GateGrant := ⟨⟨0, [], [], default⟩⟩
def GateGrant.c (x : GateGrant) : List AV := [.int .i64 x.Number, .str x.To, .str x.By, sl 1 cI64 x.Rule.Verbs, .str x.Rule.Kind, .str x.Rule.Team, .str x.Rule.Prefix]
def GateGrant.ok (x : GateGrant) : Prop := okInt .i64 x.Number ∧ okStr x.To ∧ okStr x.By ∧ GateRule.ok x.Rule
structure GateLedger where
  Team : List UInt8
  Resource : List UInt8
  Most : Int
  Free : Int
  deriving DecidableEq
instance : Inhabited GateLedger := ⟨⟨[], [], 0, 0⟩⟩
def GateLedger.c (x : GateLedger) : List AV := [.str x.Team, .str x.Resource, .int .i64 x.Most, .int .i64 x.Free]
def GateLedger.ok (x : GateLedger) : Prop := okStr x.Team ∧ okStr x.Resource ∧ okInt .i64 x.Most ∧ okInt .i64 x.Free
structure GatePurse where
  Door : List UInt8
  Team : List UInt8
  Resource : List UInt8
  Amount : Int
  Until : Int
  deriving DecidableEq
instance : Inhabited GatePurse := ⟨⟨[], [], [], 0, 0⟩⟩
def GatePurse.c (x : GatePurse) : List AV := [.str x.Door, .str x.Team, .str x.Resource, .int .i64 x.Amount, .int .i64 x.Until]
def GatePurse.ok (x : GatePurse) : Prop := okStr x.Door ∧ okStr x.Team ∧ okStr x.Resource ∧ okInt .i64 x.Amount ∧ okInt .i64 x.Until
structure GateBook where
  Now : Int
  Tick : Int
  Given : Int
  Objects : List (GateObject)
  Grants : List (GateGrant)
  Ledgers : List (GateLedger)
  Purses : List (GatePurse)
  deriving DecidableEq
instance : Inhabited GateBook := ⟨⟨0, 0, 0, [], [], [], []⟩⟩
def GateBook.c (x : GateBook) : List AV := [.int .i64 x.Now, .int .i64 x.Tick, .int .i64 x.Given, sl 7 GateObject.c x.Objects, sl 7 GateGrant.c x.Grants, sl 4 GateLedger.c x.Ledgers, sl 5 GatePurse.c x.Purses]
def GateBook.ok (x : GateBook) : Prop := okInt .i64 x.Now ∧ okInt .i64 x.Tick ∧ okInt .i64 x.Given ∧ okS GateObject.ok x.Objects ∧ okS GateGrant.ok x.Grants ∧ okS GateLedger.ok x.Ledgers ∧ okS GatePurse.ok x.Purses
theorem hmix : Try.prog.follows .mixedOrders = true := by kernel_rfl
end Go.Proofs.Ytkfdfapickladaa.Fn
