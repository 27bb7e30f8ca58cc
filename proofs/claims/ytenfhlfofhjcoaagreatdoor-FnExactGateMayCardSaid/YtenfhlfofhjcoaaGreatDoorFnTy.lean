/- The data of the functions, and their cells. No condition. -/
import Derived.Test.YtenfhlfofhjcoaaGreatDoorVG
set_option linter.unusedSimpArgs false
set_option linter.unusedVariables false
namespace Go.Proofs.YtenfhlfofhjcoaaGreatDoor.Abs
open Go Go.RowKit
inductive Ty where
 | int (k:IntKind)
 | str
 | bool
 | sl (t:Ty)
 | st (i:Nat)
 deriving DecidableEq
structure GateField where
 Name:List UInt8
 Kind:Int
 Least:Int
 Most:Int
 Words:List (List UInt8)
 To:List UInt8
 Role:Int
 Must:Bool
 Fixed:Bool
 Default:List UInt8
 Weighs:List UInt8
 deriving DecidableEq
instance:Inhabited GateField:=⟨⟨([]:List UInt8),(0:Int),(0:Int),(0:Int),([]:List (List UInt8)),([]:List UInt8),(0:Int),false,false,([]:List UInt8),([]:List UInt8)⟩⟩
structure GateShape where
 Kind:List UInt8
 Fields:List GateField
 deriving DecidableEq
instance:Inhabited GateShape:=⟨⟨([]:List UInt8),([]:List GateField)⟩⟩
structure GateMend where
 Kind:List UInt8
 Field:List UInt8
 When:List UInt8
 Is:List UInt8
 Put:List UInt8
 From:List UInt8
 deriving DecidableEq
instance:Inhabited GateMend:=⟨⟨([]:List UInt8),([]:List UInt8),([]:List UInt8),([]:List UInt8),([]:List UInt8),([]:List UInt8)⟩⟩
structure GateTeam where
 Name:List UInt8
 Over:List UInt8
 deriving DecidableEq
instance:Inhabited GateTeam:=⟨⟨([]:List UInt8),([]:List UInt8)⟩⟩
structure GateLaw where
 Shapes:List GateShape
 Mends:List GateMend
 Teams:List GateTeam
 deriving DecidableEq
instance:Inhabited GateLaw:=⟨⟨([]:List GateShape),([]:List GateMend),([]:List GateTeam)⟩⟩
structure GateObject where
 Kind:List UInt8
 Name:List UInt8
 Team:List UInt8
 Values:List (List UInt8)
 Ending:Bool
 Holds:List (List UInt8)
 Version:Int
 deriving DecidableEq
instance:Inhabited GateObject:=⟨⟨([]:List UInt8),([]:List UInt8),([]:List UInt8),([]:List (List UInt8)),false,([]:List (List UInt8)),(0:Int)⟩⟩
structure GateRule where
 Verbs:List Int
 Kind:List UInt8
 Team:List UInt8
 Prefix:List UInt8
 deriving DecidableEq
instance:Inhabited GateRule:=⟨⟨([]:List Int),([]:List UInt8),([]:List UInt8),([]:List UInt8)⟩⟩
structure GateGrant where
 Number:Int
 To:List UInt8
 By:List UInt8
 Rule:GateRule
 deriving DecidableEq
instance:Inhabited GateGrant:=⟨⟨(0:Int),([]:List UInt8),([]:List UInt8),(default:GateRule)⟩⟩
structure GateLedger where
 Team:List UInt8
 Resource:List UInt8
 Most:Int
 Free:Int
 deriving DecidableEq
instance:Inhabited GateLedger:=⟨⟨([]:List UInt8),([]:List UInt8),(0:Int),(0:Int)⟩⟩
structure GatePurse where
 Door:List UInt8
 Team:List UInt8
 Resource:List UInt8
 Amount:Int
 Until:Int
 deriving DecidableEq
instance:Inhabited GatePurse:=⟨⟨([]:List UInt8),([]:List UInt8),([]:List UInt8),(0:Int),(0:Int)⟩⟩
structure GateBook where
 Now:Int
 Tick:Int
 Given:Int
 Objects:List GateObject
 Grants:List GateGrant
 Ledgers:List GateLedger
 Purses:List GatePurse
 deriving DecidableEq
instance:Inhabited GateBook:=⟨⟨(0:Int),(0:Int),(0:Int),([]:List GateObject),([]:List GateGrant),([]:List GateLedger),([]:List GatePurse)⟩⟩
structure GateAct where
 Verb:Int
 Kind:List UInt8
 Team:List UInt8
 Name:List UInt8
 deriving DecidableEq
instance:Inhabited GateAct:=⟨⟨(0:Int),([]:List UInt8),([]:List UInt8),([]:List UInt8)⟩⟩
structure GateAsk where
 Who:List UInt8
 Verb:Int
 Kind:List UInt8
 Name:List UInt8
 Team:List UInt8
 Values:List (List UInt8)
 Holds:List (List UInt8)
 Seen:Int
 Hold:List UInt8
 To:List UInt8
 Rule:GateRule
 Number:Int
 deriving DecidableEq
instance:Inhabited GateAsk:=⟨⟨([]:List UInt8),(0:Int),([]:List UInt8),([]:List UInt8),([]:List UInt8),([]:List (List UInt8)),([]:List (List UInt8)),(0:Int),([]:List UInt8),([]:List UInt8),(default:GateRule),(0:Int)⟩⟩
structure GateWant where
 Kind:List UInt8
 Name:List UInt8
 Version:Int
 deriving DecidableEq
instance:Inhabited GateWant:=⟨⟨([]:List UInt8),([]:List UInt8),(0:Int)⟩⟩
structure GateSlip where
 Door:List UInt8
 Ask:GateAsk
 Given:Int
 Wants:List GateWant
 deriving DecidableEq
instance:Inhabited GateSlip:=⟨⟨([]:List UInt8),(default:GateAsk),(0:Int),([]:List GateWant)⟩⟩
structure GateDoor where
 Name:List UInt8
 Up:Bool
 View:GateBook
 Slips:List GateSlip
 deriving DecidableEq
instance:Inhabited GateDoor:=⟨⟨([]:List UInt8),false,(default:GateBook),([]:List GateSlip)⟩⟩
structure GateWorld where
 Book:GateBook
 Doors:List GateDoor
 deriving DecidableEq
instance:Inhabited GateWorld:=⟨⟨(default:GateBook),([]:List GateDoor)⟩⟩
structure Account where
 team:List UInt8
 resource:List UInt8
 deriving DecidableEq
instance:Inhabited Account:=⟨⟨([]:List UInt8),([]:List UInt8)⟩⟩
structure Fault where
 code:Int
 place:Int
 deriving DecidableEq
instance:Inhabited Fault:=⟨⟨(0:Int),(0:Int)⟩⟩
structure MakeVerb where
 deriving DecidableEq
instance:Inhabited MakeVerb:=⟨⟨⟩⟩
structure NumberField where
 GateField:GateField
 deriving DecidableEq
instance:Inhabited NumberField:=⟨⟨(default:GateField)⟩⟩
structure Spot where
 kind:List UInt8
 name:List UInt8
 deriving DecidableEq
instance:Inhabited Spot:=⟨⟨([]:List UInt8),([]:List UInt8)⟩⟩
structure GateSaid where
 Code:Int
 Place:Int
 Version:Int
 deriving DecidableEq
instance:Inhabited GateSaid:=⟨⟨(0:Int),(0:Int),(0:Int)⟩⟩
structure Refusal where
 said:GateSaid
 deriving DecidableEq
instance:Inhabited Refusal:=⟨⟨(default:GateSaid)⟩⟩
structure Pair where
 Key:List UInt8
 Val:Int
 deriving DecidableEq
instance:Inhabited Pair:=⟨⟨([]:List UInt8),(0:Int)⟩⟩
structure Pair2 where
 Key:Account
 Val:Int
 deriving DecidableEq
instance:Inhabited Pair2:=⟨⟨(default:Account),(0:Int)⟩⟩
def C:Nat→Type
 | 0=>GateField
 | 1=>GateShape
 | 2=>GateMend
 | 3=>GateTeam
 | 4=>GateLaw
 | 5=>GateObject
 | 6=>GateRule
 | 7=>GateGrant
 | 8=>GateLedger
 | 9=>GatePurse
 | 10=>GateBook
 | 11=>GateAct
 | 12=>GateAsk
 | 13=>GateWant
 | 14=>GateSlip
 | 15=>GateDoor
 | 16=>GateWorld
 | 17=>Account
 | 18=>Fault
 | 19=>MakeVerb
 | 20=>NumberField
 | 21=>Spot
 | 22=>GateSaid
 | 23=>Refusal
 | 24=>Pair
 | 25=>Pair2
 | _=>Unit
def inh:(i:Nat)→C i
 | 0=>(default:GateField)
 | 1=>(default:GateShape)
 | 2=>(default:GateMend)
 | 3=>(default:GateTeam)
 | 4=>(default:GateLaw)
 | 5=>(default:GateObject)
 | 6=>(default:GateRule)
 | 7=>(default:GateGrant)
 | 8=>(default:GateLedger)
 | 9=>(default:GatePurse)
 | 10=>(default:GateBook)
 | 11=>(default:GateAct)
 | 12=>(default:GateAsk)
 | 13=>(default:GateWant)
 | 14=>(default:GateSlip)
 | 15=>(default:GateDoor)
 | 16=>(default:GateWorld)
 | 17=>(default:Account)
 | 18=>(default:Fault)
 | 19=>(default:MakeVerb)
 | 20=>(default:NumberField)
 | 21=>(default:Spot)
 | 22=>(default:GateSaid)
 | 23=>(default:Refusal)
 | 24=>(default:Pair)
 | 25=>(default:Pair2)
 | _+26=>()
def Ty.dn:Ty→Type
 | .int _=>Int
 | .str=>List UInt8
 | .bool=>Bool
 | .sl t=>List t.dn
 | .st i=>C i
def Ty.df:(t:Ty)→t.dn
 | .int _=>(0:Int)
 | .str=>([]:List UInt8)
 | .bool=>false
 | .sl _=>([]:List _)
 | .st i=>inh i
structure Dyn where
 t:Ty
 x:t.dn
def Tup:List Ty→Type
 | []=>Unit
 | t::ts=>t.dn×Tup ts
def tupDyn:(ts:List Ty)→Tup ts→List Dyn
 | [],_=>[]
 | t::ts,x=>⟨t,x.1⟩::tupDyn ts x.2
def castTup:(ts:List Ty)→List Dyn→Option (Tup ts)
 | [],[]=>some ()
 | t::ts,⟨u,x⟩::l=>if h:u=t then (match castTup ts l with
  | some y=>some (h▸x,y)
  | none=>none) else none
 | _,_=>none
theorem castTup_some:∀ {ts:List Ty} {l:List Dyn} {x:Tup ts},castTup ts l=some x→tupDyn ts x=l
 | [],[],x,_=>rfl
 | [],_::_,x,h=>by cases h
 | _::_,[],x,h=>by cases h
 | t::ts,⟨u,y⟩::l,x,h=>by
  simp only [castTup] at h
  split at h
  ·rename_i e
   subst e
   split at h
   ·rename_i z hz
    cases h
    simp only [tupDyn,castTup_some hz]
   ·cases h
  ·cases h
def Fn':List Ty→Type→Type
 | [],R=>R
 | t::ts,R=>t.dn→Fn' ts R
def appT {R:Type}:(ts:List Ty)→Fn' ts R→Tup ts→R
 | [],f,_=>f
 | _::ts,f,x=>appT ts (f x.1) x.2
def curT {R:Type}:(ts:List Ty)→(Tup ts→R)→Fn' ts R
 | [],f=>f ()
 | _::ts,f=>fun x=>curT ts fun y=>f (x,y)
theorem appT_curT {R:Type}:∀ (ts:List Ty) (f:Tup ts→R) (x:Tup ts),appT ts (curT ts f) x=f x
 | [],f,x=>rfl
 | _::ts,f,(x,y)=>appT_curT ts (fun y=>f (x,y)) y
def slG {α:Type} (n:Nat) (d:α) (c:α→List AV) (xs:List α):AV:=.fs n xs.length fun i j=>(c (xs.getD i d)).getD j .top
def GateField.c (x:GateField):List AV:=[.str x.Name,.int .i64 x.Kind,.int .i64 x.Least,.int .i64 x.Most,slG 1 ([]:List UInt8) (fun y:List UInt8=>[.str y]) x.Words,.str x.To,.int .i64 x.Role,.bool x.Must,.bool x.Fixed,.str x.Default,.str x.Weighs]
def GateField.g (x:GateField):List Dyn:=[⟨.str,x.Name⟩,⟨.int .i64,x.Kind⟩,⟨.int .i64,x.Least⟩,⟨.int .i64,x.Most⟩,⟨.sl .str,x.Words⟩,⟨.str,x.To⟩,⟨.int .i64,x.Role⟩,⟨.bool,x.Must⟩,⟨.bool,x.Fixed⟩,⟨.str,x.Default⟩,⟨.str,x.Weighs⟩]
def GateShape.c (x:GateShape):List AV:=[.str x.Kind,slG 11 (default:GateField) GateField.c x.Fields]
def GateShape.g (x:GateShape):List Dyn:=[⟨.str,x.Kind⟩,⟨.sl (.st 0),x.Fields⟩]
def GateMend.c (x:GateMend):List AV:=[.str x.Kind,.str x.Field,.str x.When,.str x.Is,.str x.Put,.str x.From]
def GateMend.g (x:GateMend):List Dyn:=[⟨.str,x.Kind⟩,⟨.str,x.Field⟩,⟨.str,x.When⟩,⟨.str,x.Is⟩,⟨.str,x.Put⟩,⟨.str,x.From⟩]
def GateTeam.c (x:GateTeam):List AV:=[.str x.Name,.str x.Over]
def GateTeam.g (x:GateTeam):List Dyn:=[⟨.str,x.Name⟩,⟨.str,x.Over⟩]
def GateLaw.c (x:GateLaw):List AV:=[slG 2 (default:GateShape) GateShape.c x.Shapes,slG 6 (default:GateMend) GateMend.c x.Mends,slG 2 (default:GateTeam) GateTeam.c x.Teams]
def GateLaw.g (x:GateLaw):List Dyn:=[⟨.sl (.st 1),x.Shapes⟩,⟨.sl (.st 2),x.Mends⟩,⟨.sl (.st 3),x.Teams⟩]
def GateObject.c (x:GateObject):List AV:=[.str x.Kind,.str x.Name,.str x.Team,slG 1 ([]:List UInt8) (fun y:List UInt8=>[.str y]) x.Values,.bool x.Ending,slG 1 ([]:List UInt8) (fun y:List UInt8=>[.str y]) x.Holds,.int .i64 x.Version]
def GateObject.g (x:GateObject):List Dyn:=[⟨.str,x.Kind⟩,⟨.str,x.Name⟩,⟨.str,x.Team⟩,⟨.sl .str,x.Values⟩,⟨.bool,x.Ending⟩,⟨.sl .str,x.Holds⟩,⟨.int .i64,x.Version⟩]
def GateRule.c (x:GateRule):List AV:=[slG 1 (0:Int) (fun y:Int=>[.int .i64 y]) x.Verbs,.str x.Kind,.str x.Team,.str x.Prefix]
def GateRule.g (x:GateRule):List Dyn:=[⟨.sl (.int .i64),x.Verbs⟩,⟨.str,x.Kind⟩,⟨.str,x.Team⟩,⟨.str,x.Prefix⟩]
def GateGrant.c (x:GateGrant):List AV:=[.int .i64 x.Number,.str x.To,.str x.By,slG 1 (0:Int) (fun y:Int=>[.int .i64 y]) x.Rule.Verbs,.str x.Rule.Kind,.str x.Rule.Team,.str x.Rule.Prefix]
def GateGrant.g (x:GateGrant):List Dyn:=[⟨.int .i64,x.Number⟩,⟨.str,x.To⟩,⟨.str,x.By⟩,⟨.sl (.int .i64),x.Rule.Verbs⟩,⟨.str,x.Rule.Kind⟩,⟨.str,x.Rule.Team⟩,⟨.str,x.Rule.Prefix⟩]
def GateLedger.c (x:GateLedger):List AV:=[.str x.Team,.str x.Resource,.int .i64 x.Most,.int .i64 x.Free]
def GateLedger.g (x:GateLedger):List Dyn:=[⟨.str,x.Team⟩,⟨.str,x.Resource⟩,⟨.int .i64,x.Most⟩,⟨.int .i64,x.Free⟩]
def GatePurse.c (x:GatePurse):List AV:=[.str x.Door,.str x.Team,.str x.Resource,.int .i64 x.Amount,.int .i64 x.Until]
def GatePurse.g (x:GatePurse):List Dyn:=[⟨.str,x.Door⟩,⟨.str,x.Team⟩,⟨.str,x.Resource⟩,⟨.int .i64,x.Amount⟩,⟨.int .i64,x.Until⟩]
def GateBook.c (x:GateBook):List AV:=[.int .i64 x.Now,.int .i64 x.Tick,.int .i64 x.Given,slG 7 (default:GateObject) GateObject.c x.Objects,slG 7 (default:GateGrant) GateGrant.c x.Grants,slG 4 (default:GateLedger) GateLedger.c x.Ledgers,slG 5 (default:GatePurse) GatePurse.c x.Purses]
def GateBook.g (x:GateBook):List Dyn:=[⟨.int .i64,x.Now⟩,⟨.int .i64,x.Tick⟩,⟨.int .i64,x.Given⟩,⟨.sl (.st 5),x.Objects⟩,⟨.sl (.st 7),x.Grants⟩,⟨.sl (.st 8),x.Ledgers⟩,⟨.sl (.st 9),x.Purses⟩]
def GateAct.c (x:GateAct):List AV:=[.int .i64 x.Verb,.str x.Kind,.str x.Team,.str x.Name]
def GateAct.g (x:GateAct):List Dyn:=[⟨.int .i64,x.Verb⟩,⟨.str,x.Kind⟩,⟨.str,x.Team⟩,⟨.str,x.Name⟩]
def GateAsk.c (x:GateAsk):List AV:=[.str x.Who,.int .i64 x.Verb,.str x.Kind,.str x.Name,.str x.Team,slG 1 ([]:List UInt8) (fun y:List UInt8=>[.str y]) x.Values,slG 1 ([]:List UInt8) (fun y:List UInt8=>[.str y]) x.Holds,.int .i64 x.Seen,.str x.Hold,.str x.To,slG 1 (0:Int) (fun y:Int=>[.int .i64 y]) x.Rule.Verbs,.str x.Rule.Kind,.str x.Rule.Team,.str x.Rule.Prefix,.int .i64 x.Number]
def GateAsk.g (x:GateAsk):List Dyn:=[⟨.str,x.Who⟩,⟨.int .i64,x.Verb⟩,⟨.str,x.Kind⟩,⟨.str,x.Name⟩,⟨.str,x.Team⟩,⟨.sl .str,x.Values⟩,⟨.sl .str,x.Holds⟩,⟨.int .i64,x.Seen⟩,⟨.str,x.Hold⟩,⟨.str,x.To⟩,⟨.sl (.int .i64),x.Rule.Verbs⟩,⟨.str,x.Rule.Kind⟩,⟨.str,x.Rule.Team⟩,⟨.str,x.Rule.Prefix⟩,⟨.int .i64,x.Number⟩]
def GateWant.c (x:GateWant):List AV:=[.str x.Kind,.str x.Name,.int .i64 x.Version]
def GateWant.g (x:GateWant):List Dyn:=[⟨.str,x.Kind⟩,⟨.str,x.Name⟩,⟨.int .i64,x.Version⟩]
def GateSlip.c (x:GateSlip):List AV:=[.str x.Door,.str x.Ask.Who,.int .i64 x.Ask.Verb,.str x.Ask.Kind,.str x.Ask.Name,.str x.Ask.Team,slG 1 ([]:List UInt8) (fun y:List UInt8=>[.str y]) x.Ask.Values,slG 1 ([]:List UInt8) (fun y:List UInt8=>[.str y]) x.Ask.Holds,.int .i64 x.Ask.Seen,.str x.Ask.Hold,.str x.Ask.To,slG 1 (0:Int) (fun y:Int=>[.int .i64 y]) x.Ask.Rule.Verbs,.str x.Ask.Rule.Kind,.str x.Ask.Rule.Team,.str x.Ask.Rule.Prefix,.int .i64 x.Ask.Number,.int .i64 x.Given,slG 3 (default:GateWant) GateWant.c x.Wants]
def GateSlip.g (x:GateSlip):List Dyn:=[⟨.str,x.Door⟩,⟨.str,x.Ask.Who⟩,⟨.int .i64,x.Ask.Verb⟩,⟨.str,x.Ask.Kind⟩,⟨.str,x.Ask.Name⟩,⟨.str,x.Ask.Team⟩,⟨.sl .str,x.Ask.Values⟩,⟨.sl .str,x.Ask.Holds⟩,⟨.int .i64,x.Ask.Seen⟩,⟨.str,x.Ask.Hold⟩,⟨.str,x.Ask.To⟩,⟨.sl (.int .i64),x.Ask.Rule.Verbs⟩,⟨.str,x.Ask.Rule.Kind⟩,⟨.str,x.Ask.Rule.Team⟩,⟨.str,x.Ask.Rule.Prefix⟩,⟨.int .i64,x.Ask.Number⟩,⟨.int .i64,x.Given⟩,⟨.sl (.st 13),x.Wants⟩]
def GateDoor.c (x:GateDoor):List AV:=[.str x.Name,.bool x.Up,.int .i64 x.View.Now,.int .i64 x.View.Tick,.int .i64 x.View.Given,slG 7 (default:GateObject) GateObject.c x.View.Objects,slG 7 (default:GateGrant) GateGrant.c x.View.Grants,slG 4 (default:GateLedger) GateLedger.c x.View.Ledgers,slG 5 (default:GatePurse) GatePurse.c x.View.Purses,slG 18 (default:GateSlip) GateSlip.c x.Slips]
def GateDoor.g (x:GateDoor):List Dyn:=[⟨.str,x.Name⟩,⟨.bool,x.Up⟩,⟨.int .i64,x.View.Now⟩,⟨.int .i64,x.View.Tick⟩,⟨.int .i64,x.View.Given⟩,⟨.sl (.st 5),x.View.Objects⟩,⟨.sl (.st 7),x.View.Grants⟩,⟨.sl (.st 8),x.View.Ledgers⟩,⟨.sl (.st 9),x.View.Purses⟩,⟨.sl (.st 14),x.Slips⟩]
def GateWorld.c (x:GateWorld):List AV:=[.int .i64 x.Book.Now,.int .i64 x.Book.Tick,.int .i64 x.Book.Given,slG 7 (default:GateObject) GateObject.c x.Book.Objects,slG 7 (default:GateGrant) GateGrant.c x.Book.Grants,slG 4 (default:GateLedger) GateLedger.c x.Book.Ledgers,slG 5 (default:GatePurse) GatePurse.c x.Book.Purses,slG 10 (default:GateDoor) GateDoor.c x.Doors]
def GateWorld.g (x:GateWorld):List Dyn:=[⟨.int .i64,x.Book.Now⟩,⟨.int .i64,x.Book.Tick⟩,⟨.int .i64,x.Book.Given⟩,⟨.sl (.st 5),x.Book.Objects⟩,⟨.sl (.st 7),x.Book.Grants⟩,⟨.sl (.st 8),x.Book.Ledgers⟩,⟨.sl (.st 9),x.Book.Purses⟩,⟨.sl (.st 15),x.Doors⟩]
def Account.c (x:Account):List AV:=[.str x.team,.str x.resource]
def Account.g (x:Account):List Dyn:=[⟨.str,x.team⟩,⟨.str,x.resource⟩]
def Fault.c (x:Fault):List AV:=[.int .i64 x.code,.int .i64 x.place]
def Fault.g (x:Fault):List Dyn:=[⟨.int .i64,x.code⟩,⟨.int .i64,x.place⟩]
def MakeVerb.c (x:MakeVerb):List AV:=[]
def MakeVerb.g (x:MakeVerb):List Dyn:=[]
def NumberField.c (x:NumberField):List AV:=[.str x.GateField.Name,.int .i64 x.GateField.Kind,.int .i64 x.GateField.Least,.int .i64 x.GateField.Most,slG 1 ([]:List UInt8) (fun y:List UInt8=>[.str y]) x.GateField.Words,.str x.GateField.To,.int .i64 x.GateField.Role,.bool x.GateField.Must,.bool x.GateField.Fixed,.str x.GateField.Default,.str x.GateField.Weighs]
def NumberField.g (x:NumberField):List Dyn:=[⟨.str,x.GateField.Name⟩,⟨.int .i64,x.GateField.Kind⟩,⟨.int .i64,x.GateField.Least⟩,⟨.int .i64,x.GateField.Most⟩,⟨.sl .str,x.GateField.Words⟩,⟨.str,x.GateField.To⟩,⟨.int .i64,x.GateField.Role⟩,⟨.bool,x.GateField.Must⟩,⟨.bool,x.GateField.Fixed⟩,⟨.str,x.GateField.Default⟩,⟨.str,x.GateField.Weighs⟩]
def Spot.c (x:Spot):List AV:=[.str x.kind,.str x.name]
def Spot.g (x:Spot):List Dyn:=[⟨.str,x.kind⟩,⟨.str,x.name⟩]
def GateSaid.c (x:GateSaid):List AV:=[.int .i64 x.Code,.int .i64 x.Place,.int .i64 x.Version]
def GateSaid.g (x:GateSaid):List Dyn:=[⟨.int .i64,x.Code⟩,⟨.int .i64,x.Place⟩,⟨.int .i64,x.Version⟩]
def Refusal.c (x:Refusal):List AV:=[.int .i64 x.said.Code,.int .i64 x.said.Place,.int .i64 x.said.Version]
def Refusal.g (x:Refusal):List Dyn:=[⟨.int .i64,x.said.Code⟩,⟨.int .i64,x.said.Place⟩,⟨.int .i64,x.said.Version⟩]
def Pair.c (x:Pair):List AV:=[.str x.Key,.int .i64 x.Val]
def Pair.g (x:Pair):List Dyn:=[⟨.str,x.Key⟩,⟨.int .i64,x.Val⟩]
def Pair2.c (x:Pair2):List AV:=[.str x.Key.team,.str x.Key.resource,.int .i64 x.Val]
def Pair2.g (x:Pair2):List Dyn:=[⟨.str,x.Key.team⟩,⟨.str,x.Key.resource⟩,⟨.int .i64,x.Val⟩]
def csz:Nat→Nat
 | 0=>11
 | 1=>2
 | 2=>6
 | 3=>2
 | 4=>3
 | 5=>7
 | 6=>4
 | 7=>7
 | 8=>4
 | 9=>5
 | 10=>7
 | 11=>4
 | 12=>15
 | 13=>3
 | 14=>18
 | 15=>10
 | 16=>8
 | 17=>2
 | 18=>2
 | 19=>0
 | 20=>11
 | 21=>2
 | 22=>3
 | 23=>3
 | 24=>2
 | 25=>3
 | _=>0
def cc:(i:Nat)→C i→List AV
 | 0,x=>GateField.c x
 | 1,x=>GateShape.c x
 | 2,x=>GateMend.c x
 | 3,x=>GateTeam.c x
 | 4,x=>GateLaw.c x
 | 5,x=>GateObject.c x
 | 6,x=>GateRule.c x
 | 7,x=>GateGrant.c x
 | 8,x=>GateLedger.c x
 | 9,x=>GatePurse.c x
 | 10,x=>GateBook.c x
 | 11,x=>GateAct.c x
 | 12,x=>GateAsk.c x
 | 13,x=>GateWant.c x
 | 14,x=>GateSlip.c x
 | 15,x=>GateDoor.c x
 | 16,x=>GateWorld.c x
 | 17,x=>Account.c x
 | 18,x=>Fault.c x
 | 19,x=>MakeVerb.c x
 | 20,x=>NumberField.c x
 | 21,x=>Spot.c x
 | 22,x=>GateSaid.c x
 | 23,x=>Refusal.c x
 | 24,x=>Pair.c x
 | 25,x=>Pair2.c x
 | _+26,_=>[]
def get:(i:Nat)→C i→List Dyn
 | 0,x=>GateField.g x
 | 1,x=>GateShape.g x
 | 2,x=>GateMend.g x
 | 3,x=>GateTeam.g x
 | 4,x=>GateLaw.g x
 | 5,x=>GateObject.g x
 | 6,x=>GateRule.g x
 | 7,x=>GateGrant.g x
 | 8,x=>GateLedger.g x
 | 9,x=>GatePurse.g x
 | 10,x=>GateBook.g x
 | 11,x=>GateAct.g x
 | 12,x=>GateAsk.g x
 | 13,x=>GateWant.g x
 | 14,x=>GateSlip.g x
 | 15,x=>GateDoor.g x
 | 16,x=>GateWorld.g x
 | 17,x=>Account.g x
 | 18,x=>Fault.g x
 | 19,x=>MakeVerb.g x
 | 20,x=>NumberField.g x
 | 21,x=>Spot.g x
 | 22,x=>GateSaid.g x
 | 23,x=>Refusal.g x
 | 24,x=>Pair.g x
 | 25,x=>Pair2.g x
 | _+26,_=>[]
def kar:Nat→Nat
 | 0=>0
 | 1=>0
 | 2=>0
 | 3=>0
 | 4=>0
 | 5=>0
 | 6=>0
 | 7=>0
 | 8=>0
 | 9=>0
 | 10=>0
 | 11=>0
 | 12=>0
 | 13=>0
 | 14=>0
 | 15=>0
 | 16=>0
 | 17=>0
 | 18=>0
 | 19=>0
 | 20=>0
 | 21=>0
 | 22=>0
 | 23=>0
 | 24=>0
 | 25=>2
 | _=>0
def lts:Nat→List Ty
 | 0=>[.str,.int .i64,.int .i64,.int .i64,.sl .str,.str,.int .i64,.bool,.bool,.str,.str]
 | 1=>[.str,.sl (.st 0)]
 | 2=>[.str,.str,.str,.str,.str,.str]
 | 3=>[.str,.str]
 | 4=>[.sl (.st 1),.sl (.st 2),.sl (.st 3)]
 | 5=>[.str,.str,.str,.sl .str,.bool,.sl .str,.int .i64]
 | 6=>[.sl (.int .i64),.str,.str,.str]
 | 7=>[.int .i64,.str,.str,.sl (.int .i64),.str,.str,.str]
 | 8=>[.str,.str,.int .i64,.int .i64]
 | 9=>[.str,.str,.str,.int .i64,.int .i64]
 | 10=>[.int .i64,.int .i64,.int .i64,.sl (.st 5),.sl (.st 7),.sl (.st 8),.sl (.st 9)]
 | 11=>[.int .i64,.str,.str,.str]
 | 12=>[.str,.int .i64,.str,.str,.str,.sl .str,.sl .str,.int .i64,.str,.str,.sl (.int .i64),.str,.str,.str,.int .i64]
 | 13=>[.str,.str,.int .i64]
 | 14=>[.str,.str,.int .i64,.str,.str,.str,.sl .str,.sl .str,.int .i64,.str,.str,.sl (.int .i64),.str,.str,.str,.int .i64,.int .i64,.sl (.st 13)]
 | 15=>[.str,.bool,.int .i64,.int .i64,.int .i64,.sl (.st 5),.sl (.st 7),.sl (.st 8),.sl (.st 9),.sl (.st 14)]
 | 16=>[.int .i64,.int .i64,.int .i64,.sl (.st 5),.sl (.st 7),.sl (.st 8),.sl (.st 9),.sl (.st 15)]
 | 17=>[.str,.str]
 | 18=>[.int .i64,.int .i64]
 | 19=>[]
 | 20=>[.str,.int .i64,.int .i64,.int .i64,.sl .str,.str,.int .i64,.bool,.bool,.str,.str]
 | 21=>[.str,.str]
 | 22=>[.int .i64,.int .i64,.int .i64]
 | 23=>[.int .i64,.int .i64,.int .i64]
 | 24=>[.str,.int .i64]
 | 25=>[.str,.str,.int .i64]
 | _=>[]
def con:(i:Nat)→Fn' (lts i) (C i)
 | 0=>(fun (a0:List UInt8)=>fun (a1:Int)=>fun (a2:Int)=>fun (a3:Int)=>fun (a4:List (List UInt8))=>fun (a5:List UInt8)=>fun (a6:Int)=>fun (a7:Bool)=>fun (a8:Bool)=>fun (a9:List UInt8)=>fun (a10:List UInt8)=>(⟨a0,a1,a2,a3,a4,a5,a6,a7,a8,a9,a10⟩:GateField))
 | 1=>(fun (a0:List UInt8)=>fun (a1:List GateField)=>(⟨a0,a1⟩:GateShape))
 | 2=>(fun (a0:List UInt8)=>fun (a1:List UInt8)=>fun (a2:List UInt8)=>fun (a3:List UInt8)=>fun (a4:List UInt8)=>fun (a5:List UInt8)=>(⟨a0,a1,a2,a3,a4,a5⟩:GateMend))
 | 3=>(fun (a0:List UInt8)=>fun (a1:List UInt8)=>(⟨a0,a1⟩:GateTeam))
 | 4=>(fun (a0:List GateShape)=>fun (a1:List GateMend)=>fun (a2:List GateTeam)=>(⟨a0,a1,a2⟩:GateLaw))
 | 5=>(fun (a0:List UInt8)=>fun (a1:List UInt8)=>fun (a2:List UInt8)=>fun (a3:List (List UInt8))=>fun (a4:Bool)=>fun (a5:List (List UInt8))=>fun (a6:Int)=>(⟨a0,a1,a2,a3,a4,a5,a6⟩:GateObject))
 | 6=>(fun (a0:List Int)=>fun (a1:List UInt8)=>fun (a2:List UInt8)=>fun (a3:List UInt8)=>(⟨a0,a1,a2,a3⟩:GateRule))
 | 7=>(fun (a0:Int)=>fun (a1:List UInt8)=>fun (a2:List UInt8)=>fun (a3:List Int)=>fun (a4:List UInt8)=>fun (a5:List UInt8)=>fun (a6:List UInt8)=>(⟨a0,a1,a2,(⟨a3,a4,a5,a6⟩:GateRule)⟩:GateGrant))
 | 8=>(fun (a0:List UInt8)=>fun (a1:List UInt8)=>fun (a2:Int)=>fun (a3:Int)=>(⟨a0,a1,a2,a3⟩:GateLedger))
 | 9=>(fun (a0:List UInt8)=>fun (a1:List UInt8)=>fun (a2:List UInt8)=>fun (a3:Int)=>fun (a4:Int)=>(⟨a0,a1,a2,a3,a4⟩:GatePurse))
 | 10=>(fun (a0:Int)=>fun (a1:Int)=>fun (a2:Int)=>fun (a3:List GateObject)=>fun (a4:List GateGrant)=>fun (a5:List GateLedger)=>fun (a6:List GatePurse)=>(⟨a0,a1,a2,a3,a4,a5,a6⟩:GateBook))
 | 11=>(fun (a0:Int)=>fun (a1:List UInt8)=>fun (a2:List UInt8)=>fun (a3:List UInt8)=>(⟨a0,a1,a2,a3⟩:GateAct))
 | 12=>(fun (a0:List UInt8)=>fun (a1:Int)=>fun (a2:List UInt8)=>fun (a3:List UInt8)=>fun (a4:List UInt8)=>fun (a5:List (List UInt8))=>fun (a6:List (List UInt8))=>fun (a7:Int)=>fun (a8:List UInt8)=>fun (a9:List UInt8)=>fun (a10:List Int)=>fun (a11:List UInt8)=>fun (a12:List UInt8)=>fun (a13:List UInt8)=>fun (a14:Int)=>(⟨a0,a1,a2,a3,a4,a5,a6,a7,a8,a9,(⟨a10,a11,a12,a13⟩:GateRule),a14⟩:GateAsk))
 | 13=>(fun (a0:List UInt8)=>fun (a1:List UInt8)=>fun (a2:Int)=>(⟨a0,a1,a2⟩:GateWant))
 | 14=>(fun (a0:List UInt8)=>fun (a1:List UInt8)=>fun (a2:Int)=>fun (a3:List UInt8)=>fun (a4:List UInt8)=>fun (a5:List UInt8)=>fun (a6:List (List UInt8))=>fun (a7:List (List UInt8))=>fun (a8:Int)=>fun (a9:List UInt8)=>fun (a10:List UInt8)=>fun (a11:List Int)=>fun (a12:List UInt8)=>fun (a13:List UInt8)=>fun (a14:List UInt8)=>fun (a15:Int)=>fun (a16:Int)=>fun (a17:List GateWant)=>(⟨a0,(⟨a1,a2,a3,a4,a5,a6,a7,a8,a9,a10,(⟨a11,a12,a13,a14⟩:GateRule),a15⟩:GateAsk),a16,a17⟩:GateSlip))
 | 15=>(fun (a0:List UInt8)=>fun (a1:Bool)=>fun (a2:Int)=>fun (a3:Int)=>fun (a4:Int)=>fun (a5:List GateObject)=>fun (a6:List GateGrant)=>fun (a7:List GateLedger)=>fun (a8:List GatePurse)=>fun (a9:List GateSlip)=>(⟨a0,a1,(⟨a2,a3,a4,a5,a6,a7,a8⟩:GateBook),a9⟩:GateDoor))
 | 16=>(fun (a0:Int)=>fun (a1:Int)=>fun (a2:Int)=>fun (a3:List GateObject)=>fun (a4:List GateGrant)=>fun (a5:List GateLedger)=>fun (a6:List GatePurse)=>fun (a7:List GateDoor)=>(⟨(⟨a0,a1,a2,a3,a4,a5,a6⟩:GateBook),a7⟩:GateWorld))
 | 17=>(fun (a0:List UInt8)=>fun (a1:List UInt8)=>(⟨a0,a1⟩:Account))
 | 18=>(fun (a0:Int)=>fun (a1:Int)=>(⟨a0,a1⟩:Fault))
 | 19=>((⟨⟩:MakeVerb))
 | 20=>(fun (a0:List UInt8)=>fun (a1:Int)=>fun (a2:Int)=>fun (a3:Int)=>fun (a4:List (List UInt8))=>fun (a5:List UInt8)=>fun (a6:Int)=>fun (a7:Bool)=>fun (a8:Bool)=>fun (a9:List UInt8)=>fun (a10:List UInt8)=>(⟨(⟨a0,a1,a2,a3,a4,a5,a6,a7,a8,a9,a10⟩:GateField)⟩:NumberField))
 | 21=>(fun (a0:List UInt8)=>fun (a1:List UInt8)=>(⟨a0,a1⟩:Spot))
 | 22=>(fun (a0:Int)=>fun (a1:Int)=>fun (a2:Int)=>(⟨a0,a1,a2⟩:GateSaid))
 | 23=>(fun (a0:Int)=>fun (a1:Int)=>fun (a2:Int)=>(⟨(⟨a0,a1,a2⟩:GateSaid)⟩:Refusal))
 | 24=>(fun (a0:List UInt8)=>fun (a1:Int)=>(⟨a0,a1⟩:Pair))
 | 25=>(fun (a0:List UInt8)=>fun (a1:List UInt8)=>fun (a2:Int)=>(⟨(⟨a0,a1⟩:Account),a2⟩:Pair2))
 | _+26=>()
def tsz:Ty→Nat
 | .st i=>csz i
 | _=>1
def tcells:(t:Ty)→t.dn→List AV
 | .int k,x=>[.int k x]
 | .str,x=>[.str x]
 | .bool,x=>[.bool x]
 | .sl t,x=>[slG (tsz t) t.df (tcells t) x]
 | .st i,x=>cc i x
def dav:Dyn→AV
 | ⟨.int k,x⟩=>.int k x
 | ⟨.str,x⟩=>.str x
 | ⟨.bool,x⟩=>.bool x
 | ⟨.sl t,x⟩=>slG (tsz t) t.df (tcells t) x
 | ⟨.st i,x⟩=>.agg (cc i x)
theorem get_cc:∀ (i:Nat) (x:C i),(get i x).map dav=cc i x
 | 0,_=>rfl
 | 1,_=>rfl
 | 2,_=>rfl
 | 3,_=>rfl
 | 4,_=>rfl
 | 5,_=>rfl
 | 6,_=>rfl
 | 7,_=>rfl
 | 8,_=>rfl
 | 9,_=>rfl
 | 10,_=>rfl
 | 11,_=>rfl
 | 12,_=>rfl
 | 13,_=>rfl
 | 14,_=>rfl
 | 15,_=>rfl
 | 16,_=>rfl
 | 17,_=>rfl
 | 18,_=>rfl
 | 19,_=>rfl
 | 20,_=>rfl
 | 21,_=>rfl
 | 22,_=>rfl
 | 23,_=>rfl
 | 24,_=>rfl
 | 25,_=>rfl
 | _+26,_=>rfl
theorem get_con:∀ (i:Nat) (x:Tup (lts i)),get i (appT (lts i) (con i) x)=tupDyn (lts i) x
 | 0,_=>rfl
 | 1,_=>rfl
 | 2,_=>rfl
 | 3,_=>rfl
 | 4,_=>rfl
 | 5,_=>rfl
 | 6,_=>rfl
 | 7,_=>rfl
 | 8,_=>rfl
 | 9,_=>rfl
 | 10,_=>rfl
 | 11,_=>rfl
 | 12,_=>rfl
 | 13,_=>rfl
 | 14,_=>rfl
 | 15,_=>rfl
 | 16,_=>rfl
 | 17,_=>rfl
 | 18,_=>rfl
 | 19,_=>rfl
 | 20,_=>rfl
 | 21,_=>rfl
 | 22,_=>rfl
 | 23,_=>rfl
 | 24,_=>rfl
 | 25,_=>rfl
 | _+26,_=>rfl
theorem get_ts:∀ (i:Nat) (x:C i),(get i x).map (·.t)=lts i
 | 0,_=>rfl
 | 1,_=>rfl
 | 2,_=>rfl
 | 3,_=>rfl
 | 4,_=>rfl
 | 5,_=>rfl
 | 6,_=>rfl
 | 7,_=>rfl
 | 8,_=>rfl
 | 9,_=>rfl
 | 10,_=>rfl
 | 11,_=>rfl
 | 12,_=>rfl
 | 13,_=>rfl
 | 14,_=>rfl
 | 15,_=>rfl
 | 16,_=>rfl
 | 17,_=>rfl
 | 18,_=>rfl
 | 19,_=>rfl
 | 20,_=>rfl
 | 21,_=>rfl
 | 22,_=>rfl
 | 23,_=>rfl
 | 24,_=>rfl
 | 25,_=>rfl
 | _+26,_=>rfl
theorem csz_get:∀ (i:Nat) (x:C i),(get i x).length=csz i
 | 0,_=>rfl
 | 1,_=>rfl
 | 2,_=>rfl
 | 3,_=>rfl
 | 4,_=>rfl
 | 5,_=>rfl
 | 6,_=>rfl
 | 7,_=>rfl
 | 8,_=>rfl
 | 9,_=>rfl
 | 10,_=>rfl
 | 11,_=>rfl
 | 12,_=>rfl
 | 13,_=>rfl
 | 14,_=>rfl
 | 15,_=>rfl
 | 16,_=>rfl
 | 17,_=>rfl
 | 18,_=>rfl
 | 19,_=>rfl
 | 20,_=>rfl
 | 21,_=>rfl
 | 22,_=>rfl
 | 23,_=>rfl
 | 24,_=>rfl
 | 25,_=>rfl
 | _+26,_=>rfl
theorem get_leaf:∀ (i:Nat) (x:C i) (y:Dyn),y∈get i x→∀ j,y.t≠.st j
 | 0,x,y,h,j=>by
  simp only [get,GateField.g,List.mem_cons,List.not_mem_nil,or_false] at h
  rcases h with rfl | rfl | rfl | rfl | rfl | rfl | rfl | rfl | rfl | rfl | rfl<;>simp
 | 1,x,y,h,j=>by
  simp only [get,GateShape.g,List.mem_cons,List.not_mem_nil,or_false] at h
  rcases h with rfl | rfl<;>simp
 | 2,x,y,h,j=>by
  simp only [get,GateMend.g,List.mem_cons,List.not_mem_nil,or_false] at h
  rcases h with rfl | rfl | rfl | rfl | rfl | rfl<;>simp
 | 3,x,y,h,j=>by
  simp only [get,GateTeam.g,List.mem_cons,List.not_mem_nil,or_false] at h
  rcases h with rfl | rfl<;>simp
 | 4,x,y,h,j=>by
  simp only [get,GateLaw.g,List.mem_cons,List.not_mem_nil,or_false] at h
  rcases h with rfl | rfl | rfl<;>simp
 | 5,x,y,h,j=>by
  simp only [get,GateObject.g,List.mem_cons,List.not_mem_nil,or_false] at h
  rcases h with rfl | rfl | rfl | rfl | rfl | rfl | rfl<;>simp
 | 6,x,y,h,j=>by
  simp only [get,GateRule.g,List.mem_cons,List.not_mem_nil,or_false] at h
  rcases h with rfl | rfl | rfl | rfl<;>simp
 | 7,x,y,h,j=>by
  simp only [get,GateGrant.g,List.mem_cons,List.not_mem_nil,or_false] at h
  rcases h with rfl | rfl | rfl | rfl | rfl | rfl | rfl<;>simp
 | 8,x,y,h,j=>by
  simp only [get,GateLedger.g,List.mem_cons,List.not_mem_nil,or_false] at h
  rcases h with rfl | rfl | rfl | rfl<;>simp
 | 9,x,y,h,j=>by
  simp only [get,GatePurse.g,List.mem_cons,List.not_mem_nil,or_false] at h
  rcases h with rfl | rfl | rfl | rfl | rfl<;>simp
 | 10,x,y,h,j=>by
  simp only [get,GateBook.g,List.mem_cons,List.not_mem_nil,or_false] at h
  rcases h with rfl | rfl | rfl | rfl | rfl | rfl | rfl<;>simp
 | 11,x,y,h,j=>by
  simp only [get,GateAct.g,List.mem_cons,List.not_mem_nil,or_false] at h
  rcases h with rfl | rfl | rfl | rfl<;>simp
 | 12,x,y,h,j=>by
  simp only [get,GateAsk.g,List.mem_cons,List.not_mem_nil,or_false] at h
  rcases h with rfl | rfl | rfl | rfl | rfl | rfl | rfl | rfl | rfl | rfl | rfl | rfl | rfl | rfl | rfl<;>simp
 | 13,x,y,h,j=>by
  simp only [get,GateWant.g,List.mem_cons,List.not_mem_nil,or_false] at h
  rcases h with rfl | rfl | rfl<;>simp
 | 14,x,y,h,j=>by
  simp only [get,GateSlip.g,List.mem_cons,List.not_mem_nil,or_false] at h
  rcases h with rfl | rfl | rfl | rfl | rfl | rfl | rfl | rfl | rfl | rfl | rfl | rfl | rfl | rfl | rfl | rfl | rfl | rfl<;>simp
 | 15,x,y,h,j=>by
  simp only [get,GateDoor.g,List.mem_cons,List.not_mem_nil,or_false] at h
  rcases h with rfl | rfl | rfl | rfl | rfl | rfl | rfl | rfl | rfl | rfl<;>simp
 | 16,x,y,h,j=>by
  simp only [get,GateWorld.g,List.mem_cons,List.not_mem_nil,or_false] at h
  rcases h with rfl | rfl | rfl | rfl | rfl | rfl | rfl | rfl<;>simp
 | 17,x,y,h,j=>by
  simp only [get,Account.g,List.mem_cons,List.not_mem_nil,or_false] at h
  rcases h with rfl | rfl<;>simp
 | 18,x,y,h,j=>by
  simp only [get,Fault.g,List.mem_cons,List.not_mem_nil,or_false] at h
  rcases h with rfl | rfl<;>simp
 | 19,x,y,h,j=>by cases h
 | 20,x,y,h,j=>by
  simp only [get,NumberField.g,List.mem_cons,List.not_mem_nil,or_false] at h
  rcases h with rfl | rfl | rfl | rfl | rfl | rfl | rfl | rfl | rfl | rfl | rfl<;>simp
 | 21,x,y,h,j=>by
  simp only [get,Spot.g,List.mem_cons,List.not_mem_nil,or_false] at h
  rcases h with rfl | rfl<;>simp
 | 22,x,y,h,j=>by
  simp only [get,GateSaid.g,List.mem_cons,List.not_mem_nil,or_false] at h
  rcases h with rfl | rfl | rfl<;>simp
 | 23,x,y,h,j=>by
  simp only [get,Refusal.g,List.mem_cons,List.not_mem_nil,or_false] at h
  rcases h with rfl | rfl | rfl<;>simp
 | 24,x,y,h,j=>by
  simp only [get,Pair.g,List.mem_cons,List.not_mem_nil,or_false] at h
  rcases h with rfl | rfl<;>simp
 | 25,x,y,h,j=>by
  simp only [get,Pair2.g,List.mem_cons,List.not_mem_nil,or_false] at h
  rcases h with rfl | rfl | rfl<;>simp
 | _+26,_,_,h,_=>by cases h
end Go.Proofs.YtenfhlfofhjcoaaGreatDoor.Abs
