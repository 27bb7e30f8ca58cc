/- The data of the functions, and their cells. No condition. -/
import Derived.Test.YtljfmaaadnoggaaVG
set_option linter.unusedSimpArgs false
set_option linter.unusedVariables false
namespace Go.Proofs.Ytljfmaaadnoggaa.Abs
open Go Go.RowKit
inductive Ty where
 | int (k:IntKind)
 | str
 | bool
 | sl (t:Ty)
 | st (i:Nat)
 deriving DecidableEq
structure GateObject where
 Kind:List UInt8
 Name:List UInt8
 Team:List UInt8
 Values:List (List UInt8)
 Ending:Bool
 Holds:List (List UInt8)
 Version:Int
 deriving DecidableEq
instance:Inhabited GateObject:=⟨⟨([]:List UInt8),([]:List UInt8),([]:List UInt8),([]:List (List UInt8)),false,([]:List (List UInt8)),(0:Int)⟩⟩
structure GateField where
 Name:List UInt8
 Kind:Int
 Least:Int
 Most:Int
 Words:List (List UInt8)
 To:List UInt8
 Role:Int
 Must:Bool
 Fixed:Bool
 Default:List UInt8
 Weighs:List UInt8
 deriving DecidableEq
instance:Inhabited GateField:=⟨⟨([]:List UInt8),(0:Int),(0:Int),(0:Int),([]:List (List UInt8)),([]:List UInt8),(0:Int),false,false,([]:List UInt8),([]:List UInt8)⟩⟩
structure GateShape where
 Kind:List UInt8
 Fields:List GateField
 deriving DecidableEq
instance:Inhabited GateShape:=⟨⟨([]:List UInt8),([]:List GateField)⟩⟩
structure GateMend where
 Kind:List UInt8
 Field:List UInt8
 When:List UInt8
 Is:List UInt8
 Put:List UInt8
 From:List UInt8
 deriving DecidableEq
instance:Inhabited GateMend:=⟨⟨([]:List UInt8),([]:List UInt8),([]:List UInt8),([]:List UInt8),([]:List UInt8),([]:List UInt8)⟩⟩
structure GateTeam where
 Name:List UInt8
 Over:List UInt8
 deriving DecidableEq
instance:Inhabited GateTeam:=⟨⟨([]:List UInt8),([]:List UInt8)⟩⟩
structure GateLaw where
 Shapes:List GateShape
 Mends:List GateMend
 Teams:List GateTeam
 deriving DecidableEq
instance:Inhabited GateLaw:=⟨⟨([]:List GateShape),([]:List GateMend),([]:List GateTeam)⟩⟩
structure L1Rd where
 b:List Int
 p:Int
 deriving DecidableEq
instance:Inhabited L1Rd:=⟨⟨([]:List Int),(0:Int)⟩⟩
structure GateRule where
 Verbs:List Int
 Kind:List UInt8
 Team:List UInt8
 Prefix:List UInt8
 deriving DecidableEq
instance:Inhabited GateRule:=⟨⟨([]:List Int),([]:List UInt8),([]:List UInt8),([]:List UInt8)⟩⟩
structure GateGrant where
 Number:Int
 To:List UInt8
 By:List UInt8
 Rule:GateRule
 deriving DecidableEq
instance:Inhabited GateGrant:=⟨⟨(0:Int),([]:List UInt8),([]:List UInt8),(default:GateRule)⟩⟩
structure GateLedger where
 Team:List UInt8
 Resource:List UInt8
 Most:Int
 Free:Int
 deriving DecidableEq
instance:Inhabited GateLedger:=⟨⟨([]:List UInt8),([]:List UInt8),(0:Int),(0:Int)⟩⟩
structure GatePurse where
 Door:List UInt8
 Team:List UInt8
 Resource:List UInt8
 Amount:Int
 Until:Int
 deriving DecidableEq
instance:Inhabited GatePurse:=⟨⟨([]:List UInt8),([]:List UInt8),([]:List UInt8),(0:Int),(0:Int)⟩⟩
structure GateBook where
 Now:Int
 Tick:Int
 Given:Int
 Objects:List GateObject
 Grants:List GateGrant
 Ledgers:List GateLedger
 Purses:List GatePurse
 deriving DecidableEq
instance:Inhabited GateBook:=⟨⟨(0:Int),(0:Int),(0:Int),([]:List GateObject),([]:List GateGrant),([]:List GateLedger),([]:List GatePurse)⟩⟩
structure NumberField where
 GateField:GateField
 deriving DecidableEq
instance:Inhabited NumberField:=⟨⟨(default:GateField)⟩⟩
structure Spot where
 kind:List UInt8
 name:List UInt8
 deriving DecidableEq
instance:Inhabited Spot:=⟨⟨([]:List UInt8),([]:List UInt8)⟩⟩
structure Pair where
 Key:List UInt8
 Val:Int
 deriving DecidableEq
instance:Inhabited Pair:=⟨⟨([]:List UInt8),(0:Int)⟩⟩
def C:Nat→Type
 | 0=>GateObject
 | 1=>GateField
 | 2=>GateShape
 | 3=>GateMend
 | 4=>GateTeam
 | 5=>GateLaw
 | 6=>L1Rd
 | 7=>GateRule
 | 8=>GateGrant
 | 9=>GateLedger
 | 10=>GatePurse
 | 11=>GateBook
 | 12=>NumberField
 | 13=>Spot
 | 14=>Pair
 | _=>Unit
def inh:(i:Nat)→C i
 | 0=>(default:GateObject)
 | 1=>(default:GateField)
 | 2=>(default:GateShape)
 | 3=>(default:GateMend)
 | 4=>(default:GateTeam)
 | 5=>(default:GateLaw)
 | 6=>(default:L1Rd)
 | 7=>(default:GateRule)
 | 8=>(default:GateGrant)
 | 9=>(default:GateLedger)
 | 10=>(default:GatePurse)
 | 11=>(default:GateBook)
 | 12=>(default:NumberField)
 | 13=>(default:Spot)
 | 14=>(default:Pair)
 | _+15=>()
def Ty.dn:Ty→Type
 | .int _=>Int
 | .str=>List UInt8
 | .bool=>Bool
 | .sl t=>List t.dn
 | .st i=>C i
def Ty.df:(t:Ty)→t.dn
 | .int _=>(0:Int)
 | .str=>([]:List UInt8)
 | .bool=>false
 | .sl _=>([]:List _)
 | .st i=>inh i
structure Dyn where
 t:Ty
 x:t.dn
def Tup:List Ty→Type
 | []=>Unit
 | t::ts=>t.dn×Tup ts
def tupDyn:(ts:List Ty)→Tup ts→List Dyn
 | [],_=>[]
 | t::ts,x=>⟨t,x.1⟩::tupDyn ts x.2
def castTup:(ts:List Ty)→List Dyn→Option (Tup ts)
 | [],[]=>some ()
 | t::ts,⟨u,x⟩::l=>if h:u=t then (match castTup ts l with
  | some y=>some (h▸x,y)
  | none=>none) else none
 | _,_=>none
theorem castTup_some:∀ {ts:List Ty} {l:List Dyn} {x:Tup ts},castTup ts l=some x→tupDyn ts x=l
 | [],[],x,_=>rfl
 | [],_::_,x,h=>by cases h
 | _::_,[],x,h=>by cases h
 | t::ts,⟨u,y⟩::l,x,h=>by
  simp only [castTup] at h
  split at h
  ·rename_i e
   subst e
   split at h
   ·rename_i z hz
    cases h
    simp only [tupDyn,castTup_some hz]
   ·cases h
  ·cases h
def Fn':List Ty→Type→Type
 | [],R=>R
 | t::ts,R=>t.dn→Fn' ts R
def appT {R:Type}:(ts:List Ty)→Fn' ts R→Tup ts→R
 | [],f,_=>f
 | _::ts,f,x=>appT ts (f x.1) x.2
def curT {R:Type}:(ts:List Ty)→(Tup ts→R)→Fn' ts R
 | [],f=>f ()
 | _::ts,f=>fun x=>curT ts fun y=>f (x,y)
theorem appT_curT {R:Type}:∀ (ts:List Ty) (f:Tup ts→R) (x:Tup ts),appT ts (curT ts f) x=f x
 | [],f,x=>rfl
 | _::ts,f,(x,y)=>appT_curT ts (fun y=>f (x,y)) y
def slG {α:Type} (n:Nat) (d:α) (c:α→List AV) (xs:List α):AV:=.fs n xs.length fun i j=>(c (xs.getD i d)).getD j .top
def GateObject.c (x:GateObject):List AV:=[.str x.Kind,.str x.Name,.str x.Team,slG 1 ([]:List UInt8) (fun y:List UInt8=>[.str y]) x.Values,.bool x.Ending,slG 1 ([]:List UInt8) (fun y:List UInt8=>[.str y]) x.Holds,.int .i64 x.Version]
def GateObject.g (x:GateObject):List Dyn:=[⟨.str,x.Kind⟩,⟨.str,x.Name⟩,⟨.str,x.Team⟩,⟨.sl .str,x.Values⟩,⟨.bool,x.Ending⟩,⟨.sl .str,x.Holds⟩,⟨.int .i64,x.Version⟩]
def GateField.c (x:GateField):List AV:=[.str x.Name,.int .i64 x.Kind,.int .i64 x.Least,.int .i64 x.Most,slG 1 ([]:List UInt8) (fun y:List UInt8=>[.str y]) x.Words,.str x.To,.int .i64 x.Role,.bool x.Must,.bool x.Fixed,.str x.Default,.str x.Weighs]
def GateField.g (x:GateField):List Dyn:=[⟨.str,x.Name⟩,⟨.int .i64,x.Kind⟩,⟨.int .i64,x.Least⟩,⟨.int .i64,x.Most⟩,⟨.sl .str,x.Words⟩,⟨.str,x.To⟩,⟨.int .i64,x.Role⟩,⟨.bool,x.Must⟩,⟨.bool,x.Fixed⟩,⟨.str,x.Default⟩,⟨.str,x.Weighs⟩]
def GateShape.c (x:GateShape):List AV:=[.str x.Kind,slG 11 (default:GateField) GateField.c x.Fields]
def GateShape.g (x:GateShape):List Dyn:=[⟨.str,x.Kind⟩,⟨.sl (.st 1),x.Fields⟩]
def GateMend.c (x:GateMend):List AV:=[.str x.Kind,.str x.Field,.str x.When,.str x.Is,.str x.Put,.str x.From]
def GateMend.g (x:GateMend):List Dyn:=[⟨.str,x.Kind⟩,⟨.str,x.Field⟩,⟨.str,x.When⟩,⟨.str,x.Is⟩,⟨.str,x.Put⟩,⟨.str,x.From⟩]
def GateTeam.c (x:GateTeam):List AV:=[.str x.Name,.str x.Over]
def GateTeam.g (x:GateTeam):List Dyn:=[⟨.str,x.Name⟩,⟨.str,x.Over⟩]
def GateLaw.c (x:GateLaw):List AV:=[slG 2 (default:GateShape) GateShape.c x.Shapes,slG 6 (default:GateMend) GateMend.c x.Mends,slG 2 (default:GateTeam) GateTeam.c x.Teams]
def GateLaw.g (x:GateLaw):List Dyn:=[⟨.sl (.st 2),x.Shapes⟩,⟨.sl (.st 3),x.Mends⟩,⟨.sl (.st 4),x.Teams⟩]
def L1Rd.c (x:L1Rd):List AV:=[slG 1 (0:Int) (fun y:Int=>[.int .u8 y]) x.b,.int .i64 x.p]
def L1Rd.g (x:L1Rd):List Dyn:=[⟨.sl (.int .u8),x.b⟩,⟨.int .i64,x.p⟩]
def GateRule.c (x:GateRule):List AV:=[slG 1 (0:Int) (fun y:Int=>[.int .i64 y]) x.Verbs,.str x.Kind,.str x.Team,.str x.Prefix]
def GateRule.g (x:GateRule):List Dyn:=[⟨.sl (.int .i64),x.Verbs⟩,⟨.str,x.Kind⟩,⟨.str,x.Team⟩,⟨.str,x.Prefix⟩]
def GateGrant.c (x:GateGrant):List AV:=[.int .i64 x.Number,.str x.To,.str x.By,slG 1 (0:Int) (fun y:Int=>[.int .i64 y]) x.Rule.Verbs,.str x.Rule.Kind,.str x.Rule.Team,.str x.Rule.Prefix]
def GateGrant.g (x:GateGrant):List Dyn:=[⟨.int .i64,x.Number⟩,⟨.str,x.To⟩,⟨.str,x.By⟩,⟨.sl (.int .i64),x.Rule.Verbs⟩,⟨.str,x.Rule.Kind⟩,⟨.str,x.Rule.Team⟩,⟨.str,x.Rule.Prefix⟩]
def GateLedger.c (x:GateLedger):List AV:=[.str x.Team,.str x.Resource,.int .i64 x.Most,.int .i64 x.Free]
def GateLedger.g (x:GateLedger):List Dyn:=[⟨.str,x.Team⟩,⟨.str,x.Resource⟩,⟨.int .i64,x.Most⟩,⟨.int .i64,x.Free⟩]
def GatePurse.c (x:GatePurse):List AV:=[.str x.Door,.str x.Team,.str x.Resource,.int .i64 x.Amount,.int .i64 x.Until]
def GatePurse.g (x:GatePurse):List Dyn:=[⟨.str,x.Door⟩,⟨.str,x.Team⟩,⟨.str,x.Resource⟩,⟨.int .i64,x.Amount⟩,⟨.int .i64,x.Until⟩]
def GateBook.c (x:GateBook):List AV:=[.int .i64 x.Now,.int .i64 x.Tick,.int .i64 x.Given,slG 7 (default:GateObject) GateObject.c x.Objects,slG 7 (default:GateGrant) GateGrant.c x.Grants,slG 4 (default:GateLedger) GateLedger.c x.Ledgers,slG 5 (default:GatePurse) GatePurse.c x.Purses]
def GateBook.g (x:GateBook):List Dyn:=[⟨.int .i64,x.Now⟩,⟨.int .i64,x.Tick⟩,⟨.int .i64,x.Given⟩,⟨.sl (.st 0),x.Objects⟩,⟨.sl (.st 8),x.Grants⟩,⟨.sl (.st 9),x.Ledgers⟩,⟨.sl (.st 10),x.Purses⟩]
def NumberField.c (x:NumberField):List AV:=[.str x.GateField.Name,.int .i64 x.GateField.Kind,.int .i64 x.GateField.Least,.int .i64 x.GateField.Most,slG 1 ([]:List UInt8) (fun y:List UInt8=>[.str y]) x.GateField.Words,.str x.GateField.To,.int .i64 x.GateField.Role,.bool x.GateField.Must,.bool x.GateField.Fixed,.str x.GateField.Default,.str x.GateField.Weighs]
def NumberField.g (x:NumberField):List Dyn:=[⟨.str,x.GateField.Name⟩,⟨.int .i64,x.GateField.Kind⟩,⟨.int .i64,x.GateField.Least⟩,⟨.int .i64,x.GateField.Most⟩,⟨.sl .str,x.GateField.Words⟩,⟨.str,x.GateField.To⟩,⟨.int .i64,x.GateField.Role⟩,⟨.bool,x.GateField.Must⟩,⟨.bool,x.GateField.Fixed⟩,⟨.str,x.GateField.Default⟩,⟨.str,x.GateField.Weighs⟩]
def Spot.c (x:Spot):List AV:=[.str x.kind,.str x.name]
def Spot.g (x:Spot):List Dyn:=[⟨.str,x.kind⟩,⟨.str,x.name⟩]
def Pair.c (x:Pair):List AV:=[.str x.Key,.int .i64 x.Val]
def Pair.g (x:Pair):List Dyn:=[⟨.str,x.Key⟩,⟨.int .i64,x.Val⟩]
def csz:Nat→Nat
 | 0=>7
 | 1=>11
 | 2=>2
 | 3=>6
 | 4=>2
 | 5=>3
 | 6=>2
 | 7=>4
 | 8=>7
 | 9=>4
 | 10=>5
 | 11=>7
 | 12=>11
 | 13=>2
 | 14=>2
 | _=>0
def cc:(i:Nat)→C i→List AV
 | 0,x=>GateObject.c x
 | 1,x=>GateField.c x
 | 2,x=>GateShape.c x
 | 3,x=>GateMend.c x
 | 4,x=>GateTeam.c x
 | 5,x=>GateLaw.c x
 | 6,x=>L1Rd.c x
 | 7,x=>GateRule.c x
 | 8,x=>GateGrant.c x
 | 9,x=>GateLedger.c x
 | 10,x=>GatePurse.c x
 | 11,x=>GateBook.c x
 | 12,x=>NumberField.c x
 | 13,x=>Spot.c x
 | 14,x=>Pair.c x
 | _+15,_=>[]
def get:(i:Nat)→C i→List Dyn
 | 0,x=>GateObject.g x
 | 1,x=>GateField.g x
 | 2,x=>GateShape.g x
 | 3,x=>GateMend.g x
 | 4,x=>GateTeam.g x
 | 5,x=>GateLaw.g x
 | 6,x=>L1Rd.g x
 | 7,x=>GateRule.g x
 | 8,x=>GateGrant.g x
 | 9,x=>GateLedger.g x
 | 10,x=>GatePurse.g x
 | 11,x=>GateBook.g x
 | 12,x=>NumberField.g x
 | 13,x=>Spot.g x
 | 14,x=>Pair.g x
 | _+15,_=>[]
def kar:Nat→Nat
 | 0=>0
 | 1=>0
 | 2=>0
 | 3=>0
 | 4=>0
 | 5=>0
 | 6=>0
 | 7=>0
 | 8=>0
 | 9=>0
 | 10=>0
 | 11=>0
 | 12=>0
 | 13=>0
 | 14=>0
 | _=>0
def lts:Nat→List Ty
 | 0=>[.str,.str,.str,.sl .str,.bool,.sl .str,.int .i64]
 | 1=>[.str,.int .i64,.int .i64,.int .i64,.sl .str,.str,.int .i64,.bool,.bool,.str,.str]
 | 2=>[.str,.sl (.st 1)]
 | 3=>[.str,.str,.str,.str,.str,.str]
 | 4=>[.str,.str]
 | 5=>[.sl (.st 2),.sl (.st 3),.sl (.st 4)]
 | 6=>[.sl (.int .u8),.int .i64]
 | 7=>[.sl (.int .i64),.str,.str,.str]
 | 8=>[.int .i64,.str,.str,.sl (.int .i64),.str,.str,.str]
 | 9=>[.str,.str,.int .i64,.int .i64]
 | 10=>[.str,.str,.str,.int .i64,.int .i64]
 | 11=>[.int .i64,.int .i64,.int .i64,.sl (.st 0),.sl (.st 8),.sl (.st 9),.sl (.st 10)]
 | 12=>[.str,.int .i64,.int .i64,.int .i64,.sl .str,.str,.int .i64,.bool,.bool,.str,.str]
 | 13=>[.str,.str]
 | 14=>[.str,.int .i64]
 | _=>[]
def con:(i:Nat)→Fn' (lts i) (C i)
 | 0=>(fun (a0:List UInt8)=>fun (a1:List UInt8)=>fun (a2:List UInt8)=>fun (a3:List (List UInt8))=>fun (a4:Bool)=>fun (a5:List (List UInt8))=>fun (a6:Int)=>(⟨a0,a1,a2,a3,a4,a5,a6⟩:GateObject))
 | 1=>(fun (a0:List UInt8)=>fun (a1:Int)=>fun (a2:Int)=>fun (a3:Int)=>fun (a4:List (List UInt8))=>fun (a5:List UInt8)=>fun (a6:Int)=>fun (a7:Bool)=>fun (a8:Bool)=>fun (a9:List UInt8)=>fun (a10:List UInt8)=>(⟨a0,a1,a2,a3,a4,a5,a6,a7,a8,a9,a10⟩:GateField))
 | 2=>(fun (a0:List UInt8)=>fun (a1:List GateField)=>(⟨a0,a1⟩:GateShape))
 | 3=>(fun (a0:List UInt8)=>fun (a1:List UInt8)=>fun (a2:List UInt8)=>fun (a3:List UInt8)=>fun (a4:List UInt8)=>fun (a5:List UInt8)=>(⟨a0,a1,a2,a3,a4,a5⟩:GateMend))
 | 4=>(fun (a0:List UInt8)=>fun (a1:List UInt8)=>(⟨a0,a1⟩:GateTeam))
 | 5=>(fun (a0:List GateShape)=>fun (a1:List GateMend)=>fun (a2:List GateTeam)=>(⟨a0,a1,a2⟩:GateLaw))
 | 6=>(fun (a0:List Int)=>fun (a1:Int)=>(⟨a0,a1⟩:L1Rd))
 | 7=>(fun (a0:List Int)=>fun (a1:List UInt8)=>fun (a2:List UInt8)=>fun (a3:List UInt8)=>(⟨a0,a1,a2,a3⟩:GateRule))
 | 8=>(fun (a0:Int)=>fun (a1:List UInt8)=>fun (a2:List UInt8)=>fun (a3:List Int)=>fun (a4:List UInt8)=>fun (a5:List UInt8)=>fun (a6:List UInt8)=>(⟨a0,a1,a2,(⟨a3,a4,a5,a6⟩:GateRule)⟩:GateGrant))
 | 9=>(fun (a0:List UInt8)=>fun (a1:List UInt8)=>fun (a2:Int)=>fun (a3:Int)=>(⟨a0,a1,a2,a3⟩:GateLedger))
 | 10=>(fun (a0:List UInt8)=>fun (a1:List UInt8)=>fun (a2:List UInt8)=>fun (a3:Int)=>fun (a4:Int)=>(⟨a0,a1,a2,a3,a4⟩:GatePurse))
 | 11=>(fun (a0:Int)=>fun (a1:Int)=>fun (a2:Int)=>fun (a3:List GateObject)=>fun (a4:List GateGrant)=>fun (a5:List GateLedger)=>fun (a6:List GatePurse)=>(⟨a0,a1,a2,a3,a4,a5,a6⟩:GateBook))
 | 12=>(fun (a0:List UInt8)=>fun (a1:Int)=>fun (a2:Int)=>fun (a3:Int)=>fun (a4:List (List UInt8))=>fun (a5:List UInt8)=>fun (a6:Int)=>fun (a7:Bool)=>fun (a8:Bool)=>fun (a9:List UInt8)=>fun (a10:List UInt8)=>(⟨(⟨a0,a1,a2,a3,a4,a5,a6,a7,a8,a9,a10⟩:GateField)⟩:NumberField))
 | 13=>(fun (a0:List UInt8)=>fun (a1:List UInt8)=>(⟨a0,a1⟩:Spot))
 | 14=>(fun (a0:List UInt8)=>fun (a1:Int)=>(⟨a0,a1⟩:Pair))
 | _+15=>()
def tsz:Ty→Nat
 | .st i=>csz i
 | _=>1
def tcells:(t:Ty)→t.dn→List AV
 | .int k,x=>[.int k x]
 | .str,x=>[.str x]
 | .bool,x=>[.bool x]
 | .sl t,x=>[slG (tsz t) t.df (tcells t) x]
 | .st i,x=>cc i x
def dav:Dyn→AV
 | ⟨.int k,x⟩=>.int k x
 | ⟨.str,x⟩=>.str x
 | ⟨.bool,x⟩=>.bool x
 | ⟨.sl t,x⟩=>slG (tsz t) t.df (tcells t) x
 | ⟨.st i,x⟩=>.agg (cc i x)
theorem get_cc:∀ (i:Nat) (x:C i),(get i x).map dav=cc i x
 | 0,_=>rfl
 | 1,_=>rfl
 | 2,_=>rfl
 | 3,_=>rfl
 | 4,_=>rfl
 | 5,_=>rfl
 | 6,_=>rfl
 | 7,_=>rfl
 | 8,_=>rfl
 | 9,_=>rfl
 | 10,_=>rfl
 | 11,_=>rfl
 | 12,_=>rfl
 | 13,_=>rfl
 | 14,_=>rfl
 | _+15,_=>rfl
theorem get_con:∀ (i:Nat) (x:Tup (lts i)),get i (appT (lts i) (con i) x)=tupDyn (lts i) x
 | 0,_=>rfl
 | 1,_=>rfl
 | 2,_=>rfl
 | 3,_=>rfl
 | 4,_=>rfl
 | 5,_=>rfl
 | 6,_=>rfl
 | 7,_=>rfl
 | 8,_=>rfl
 | 9,_=>rfl
 | 10,_=>rfl
 | 11,_=>rfl
 | 12,_=>rfl
 | 13,_=>rfl
 | 14,_=>rfl
 | _+15,_=>rfl
theorem get_ts:∀ (i:Nat) (x:C i),(get i x).map (·.t)=lts i
 | 0,_=>rfl
 | 1,_=>rfl
 | 2,_=>rfl
 | 3,_=>rfl
 | 4,_=>rfl
 | 5,_=>rfl
 | 6,_=>rfl
 | 7,_=>rfl
 | 8,_=>rfl
 | 9,_=>rfl
 | 10,_=>rfl
 | 11,_=>rfl
 | 12,_=>rfl
 | 13,_=>rfl
 | 14,_=>rfl
 | _+15,_=>rfl
theorem csz_get:∀ (i:Nat) (x:C i),(get i x).length=csz i
 | 0,_=>rfl
 | 1,_=>rfl
 | 2,_=>rfl
 | 3,_=>rfl
 | 4,_=>rfl
 | 5,_=>rfl
 | 6,_=>rfl
 | 7,_=>rfl
 | 8,_=>rfl
 | 9,_=>rfl
 | 10,_=>rfl
 | 11,_=>rfl
 | 12,_=>rfl
 | 13,_=>rfl
 | 14,_=>rfl
 | _+15,_=>rfl
theorem get_leaf:∀ (i:Nat) (x:C i) (y:Dyn),y∈get i x→∀ j,y.t≠.st j
 | 0,x,y,h,j=>by
  simp only [get,GateObject.g,List.mem_cons,List.not_mem_nil,or_false] at h
  rcases h with rfl | rfl | rfl | rfl | rfl | rfl | rfl<;>simp
 | 1,x,y,h,j=>by
  simp only [get,GateField.g,List.mem_cons,List.not_mem_nil,or_false] at h
  rcases h with rfl | rfl | rfl | rfl | rfl | rfl | rfl | rfl | rfl | rfl | rfl<;>simp
 | 2,x,y,h,j=>by
  simp only [get,GateShape.g,List.mem_cons,List.not_mem_nil,or_false] at h
  rcases h with rfl | rfl<;>simp
 | 3,x,y,h,j=>by
  simp only [get,GateMend.g,List.mem_cons,List.not_mem_nil,or_false] at h
  rcases h with rfl | rfl | rfl | rfl | rfl | rfl<;>simp
 | 4,x,y,h,j=>by
  simp only [get,GateTeam.g,List.mem_cons,List.not_mem_nil,or_false] at h
  rcases h with rfl | rfl<;>simp
 | 5,x,y,h,j=>by
  simp only [get,GateLaw.g,List.mem_cons,List.not_mem_nil,or_false] at h
  rcases h with rfl | rfl | rfl<;>simp
 | 6,x,y,h,j=>by
  simp only [get,L1Rd.g,List.mem_cons,List.not_mem_nil,or_false] at h
  rcases h with rfl | rfl<;>simp
 | 7,x,y,h,j=>by
  simp only [get,GateRule.g,List.mem_cons,List.not_mem_nil,or_false] at h
  rcases h with rfl | rfl | rfl | rfl<;>simp
 | 8,x,y,h,j=>by
  simp only [get,GateGrant.g,List.mem_cons,List.not_mem_nil,or_false] at h
  rcases h with rfl | rfl | rfl | rfl | rfl | rfl | rfl<;>simp
 | 9,x,y,h,j=>by
  simp only [get,GateLedger.g,List.mem_cons,List.not_mem_nil,or_false] at h
  rcases h with rfl | rfl | rfl | rfl<;>simp
 | 10,x,y,h,j=>by
  simp only [get,GatePurse.g,List.mem_cons,List.not_mem_nil,or_false] at h
  rcases h with rfl | rfl | rfl | rfl | rfl<;>simp
 | 11,x,y,h,j=>by
  simp only [get,GateBook.g,List.mem_cons,List.not_mem_nil,or_false] at h
  rcases h with rfl | rfl | rfl | rfl | rfl | rfl | rfl<;>simp
 | 12,x,y,h,j=>by
  simp only [get,NumberField.g,List.mem_cons,List.not_mem_nil,or_false] at h
  rcases h with rfl | rfl | rfl | rfl | rfl | rfl | rfl | rfl | rfl | rfl | rfl<;>simp
 | 13,x,y,h,j=>by
  simp only [get,Spot.g,List.mem_cons,List.not_mem_nil,or_false] at h
  rcases h with rfl | rfl<;>simp
 | 14,x,y,h,j=>by
  simp only [get,Pair.g,List.mem_cons,List.not_mem_nil,or_false] at h
  rcases h with rfl | rfl<;>simp
 | _+15,_,_,h,_=>by cases h
end Go.Proofs.Ytljfmaaadnoggaa.Abs
