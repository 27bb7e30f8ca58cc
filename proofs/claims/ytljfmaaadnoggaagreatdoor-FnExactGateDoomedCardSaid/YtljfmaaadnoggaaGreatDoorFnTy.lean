/- The data of the functions, and their cells. No condition. -/
import Derived.Test.YtljfmaaadnoggaaGreatDoorVG
set_option linter.unusedSimpArgs false
set_option linter.unusedVariables false
namespace Go.Proofs.YtljfmaaadnoggaaGreatDoor.cX
open Go Go.RowKit
inductive Ty where
 | int (k:IntKind)
 | str
 | bool
 | sl (t:Ty)
 | st (i:Nat)
 deriving DecidableEq
structure aB where
 Name:List UInt8
 Kind:Int
 bP:Int
 b7:Int
 Words:List (List UInt8)
 To:List UInt8
 cz:Int
 cR:Bool
 cv:Bool
 Default:List UInt8
 bA:List UInt8
 deriving DecidableEq
instance:Inhabited aB:=⟨⟨([]:List UInt8),(0:Int),(0:Int),(0:Int),([]:List (List UInt8)),([]:List UInt8),(0:Int),false,false,([]:List UInt8),([]:List UInt8)⟩⟩
structure aC where
 Kind:List UInt8
 aU:List aB
 deriving DecidableEq
instance:Inhabited aC:=⟨⟨([]:List UInt8),([]:List aB)⟩⟩
structure aD where
 Kind:List UInt8
 Field:List UInt8
 cY:List UInt8
 Is:List UInt8
 tz:List UInt8
 cF:List UInt8
 deriving DecidableEq
instance:Inhabited aD:=⟨⟨([]:List UInt8),([]:List UInt8),([]:List UInt8),([]:List UInt8),([]:List UInt8),([]:List UInt8)⟩⟩
structure aJ where
 Name:List UInt8
 g9:List UInt8
 deriving DecidableEq
instance:Inhabited aJ:=⟨⟨([]:List UInt8),([]:List UInt8)⟩⟩
structure aH where
 bS:List aC
 ib:List aD
 eg:List aJ
 deriving DecidableEq
instance:Inhabited aH:=⟨⟨([]:List aC),([]:List aD),([]:List aJ)⟩⟩
structure aA where
 Kind:List UInt8
 Name:List UInt8
 aZ:List UInt8
 aN:List (List UInt8)
 Ending:Bool
 bX:List (List UInt8)
 Version:Int
 deriving DecidableEq
instance:Inhabited aA:=⟨⟨([]:List UInt8),([]:List UInt8),([]:List UInt8),([]:List (List UInt8)),false,([]:List (List UInt8)),(0:Int)⟩⟩
structure bD where
 cB:List Int
 Kind:List UInt8
 aZ:List UInt8
 cT:List UInt8
 deriving DecidableEq
instance:Inhabited bD:=⟨⟨([]:List Int),([]:List UInt8),([]:List UInt8),([]:List UInt8)⟩⟩
structure aK where
 Number:Int
 To:List UInt8
 By:List UInt8
 cP:bD
 deriving DecidableEq
instance:Inhabited aK:=⟨⟨(0:Int),([]:List UInt8),([]:List UInt8),(default:bD)⟩⟩
structure aI where
 aZ:List UInt8
 aX:List UInt8
 b7:Int
 mN:Int
 deriving DecidableEq
instance:Inhabited aI:=⟨⟨([]:List UInt8),([]:List UInt8),(0:Int),(0:Int)⟩⟩
structure aL where
 iP:List UInt8
 aZ:List UInt8
 aX:List UInt8
 cM:Int
 fX:Int
 deriving DecidableEq
instance:Inhabited aL:=⟨⟨([]:List UInt8),([]:List UInt8),([]:List UInt8),(0:Int),(0:Int)⟩⟩
structure aE where
 GL:Int
 pd:Int
 lh:Int
 aF:List aA
 bZ:List aK
 aT:List aI
 bN:List aL
 deriving DecidableEq
instance:Inhabited aE:=⟨⟨(0:Int),(0:Int),(0:Int),([]:List aA),([]:List aK),([]:List aI),([]:List aL)⟩⟩
structure cw where
 dE:List UInt8
 resource:List UInt8
 deriving DecidableEq
instance:Inhabited cw:=⟨⟨([]:List UInt8),([]:List UInt8)⟩⟩
structure cZ where
 code:Int
 place:Int
 deriving DecidableEq
instance:Inhabited cZ:=⟨⟨(0:Int),(0:Int)⟩⟩
structure bG where
 aB:aB
 deriving DecidableEq
instance:Inhabited bG:=⟨⟨(default:aB)⟩⟩
structure IL where
 kind:List UInt8
 name:List UInt8
 deriving DecidableEq
instance:Inhabited IL:=⟨⟨([]:List UInt8),([]:List UInt8)⟩⟩
structure cq where
 Key:List UInt8
 El:Int
 deriving DecidableEq
instance:Inhabited cq:=⟨⟨([]:List UInt8),(0:Int)⟩⟩
structure cK where
 Key:cw
 El:Int
 deriving DecidableEq
instance:Inhabited cK:=⟨⟨(default:cw),(0:Int)⟩⟩
structure aW where
 Key:Int
 El:Int
 deriving DecidableEq
instance:Inhabited aW:=⟨⟨(0:Int),(0:Int)⟩⟩
def C:Nat→Type
 | 0=>aB
 | 1=>aC
 | 2=>aD
 | 3=>aJ
 | 4=>aH
 | 5=>aA
 | 6=>bD
 | 7=>aK
 | 8=>aI
 | 9=>aL
 | 10=>aE
 | 11=>cw
 | 12=>cZ
 | 13=>bG
 | 14=>IL
 | 15=>cq
 | 16=>cK
 | 17=>aW
 | _=>Unit
def inh:(i:Nat)→C i
 | 0=>(default:aB)
 | 1=>(default:aC)
 | 2=>(default:aD)
 | 3=>(default:aJ)
 | 4=>(default:aH)
 | 5=>(default:aA)
 | 6=>(default:bD)
 | 7=>(default:aK)
 | 8=>(default:aI)
 | 9=>(default:aL)
 | 10=>(default:aE)
 | 11=>(default:cw)
 | 12=>(default:cZ)
 | 13=>(default:bG)
 | 14=>(default:IL)
 | 15=>(default:cq)
 | 16=>(default:cK)
 | 17=>(default:aW)
 | _+18=>()
def Ty.dn:Ty→Type
 | .int _=>Int
 | .str=>List UInt8
 | .bool=>Bool
 | .sl t=>List t.dn
 | .st i=>C i
def Ty.df:(t:Ty)→t.dn
 | .int _=>(0:Int)
 | .str=>([]:List UInt8)
 | .bool=>false
 | .sl _=>([]:List _)
 | .st i=>inh i
structure cI where
 t:Ty
 x:t.dn
def Ad:List Ty→Type
 | []=>Unit
 | t::ts=>t.dn×Ad ts
def e_:(ts:List Ty)→Ad ts→List cI
 | [],_=>[]
 | t::ts,x=>⟨t,x.1⟩::e_ ts x.2
def oN:(ts:List Ty)→List cI→Option (Ad ts)
 | [],[]=>some ()
 | t::ts,⟨u,x⟩::l=>if h:u=t then (match oN ts l with
  | some y=>some (h▸x,y)
  | none=>none) else none
 | _,_=>none
theorem l8:∀ {ts:List Ty} {l:List cI} {x:Ad ts},oN ts l=some x→e_ ts x=l
 | [],[],x,_=>rfl
 | [],_::_,x,h=>by cases h
 | _::_,[],x,h=>by cases h
 | t::ts,⟨u,y⟩::l,x,h=>by
  simp only [oN] at h
  split at h
  ·rename_i e
   subst e
   split at h
   ·rename_i z hz
    cases h
    simp only [e_,l8 hz]
   ·cases h
  ·cases h
def Oa:List Ty→Type→Type
 | [],R=>R
 | t::ts,R=>t.dn→Oa ts R
def zA {R:Type}:(ts:List Ty)→Oa ts R→Ad ts→R
 | [],f,_=>f
 | _::ts,f,x=>zA ts (f x.1) x.2
def ZY {R:Type}:(ts:List Ty)→(Ad ts→R)→Oa ts R
 | [],f=>f ()
 | _::ts,f=>fun x=>ZY ts fun y=>f (x,y)
theorem yl {R:Type}:∀ (ts:List Ty) (f:Ad ts→R) (x:Ad ts),zA ts (ZY ts f) x=f x
 | [],f,x=>rfl
 | _::ts,f,(x,y)=>yl ts (fun y=>f (x,y)) y
def FG {α:Type} (n:Nat) (d:α) (c:α→List AV) (xs:List α):AV:=.fs n xs.length fun i j=>(c (xs.getD i d)).getD j .top
def aB.c (x:aB):List AV:=[.str x.Name,.int .i64 x.Kind,.int .i64 x.bP,.int .i64 x.b7,FG 1 ([]:List UInt8) (fun y:List UInt8=>[.str y]) x.Words,.str x.To,.int .i64 x.cz,.bool x.cR,.bool x.cv,.str x.Default,.str x.bA]
def aB.g (x:aB):List cI:=[⟨.str,x.Name⟩,⟨.int .i64,x.Kind⟩,⟨.int .i64,x.bP⟩,⟨.int .i64,x.b7⟩,⟨.sl .str,x.Words⟩,⟨.str,x.To⟩,⟨.int .i64,x.cz⟩,⟨.bool,x.cR⟩,⟨.bool,x.cv⟩,⟨.str,x.Default⟩,⟨.str,x.bA⟩]
def aC.c (x:aC):List AV:=[.str x.Kind,FG 11 (default:aB) aB.c x.aU]
def aC.g (x:aC):List cI:=[⟨.str,x.Kind⟩,⟨.sl (.st 0),x.aU⟩]
def aD.c (x:aD):List AV:=[.str x.Kind,.str x.Field,.str x.cY,.str x.Is,.str x.tz,.str x.cF]
def aD.g (x:aD):List cI:=[⟨.str,x.Kind⟩,⟨.str,x.Field⟩,⟨.str,x.cY⟩,⟨.str,x.Is⟩,⟨.str,x.tz⟩,⟨.str,x.cF⟩]
def aJ.c (x:aJ):List AV:=[.str x.Name,.str x.g9]
def aJ.g (x:aJ):List cI:=[⟨.str,x.Name⟩,⟨.str,x.g9⟩]
def aH.c (x:aH):List AV:=[FG 2 (default:aC) aC.c x.bS,FG 6 (default:aD) aD.c x.ib,FG 2 (default:aJ) aJ.c x.eg]
def aH.g (x:aH):List cI:=[⟨.sl (.st 1),x.bS⟩,⟨.sl (.st 2),x.ib⟩,⟨.sl (.st 3),x.eg⟩]
def aA.c (x:aA):List AV:=[.str x.Kind,.str x.Name,.str x.aZ,FG 1 ([]:List UInt8) (fun y:List UInt8=>[.str y]) x.aN,.bool x.Ending,FG 1 ([]:List UInt8) (fun y:List UInt8=>[.str y]) x.bX,.int .i64 x.Version]
def aA.g (x:aA):List cI:=[⟨.str,x.Kind⟩,⟨.str,x.Name⟩,⟨.str,x.aZ⟩,⟨.sl .str,x.aN⟩,⟨.bool,x.Ending⟩,⟨.sl .str,x.bX⟩,⟨.int .i64,x.Version⟩]
def bD.c (x:bD):List AV:=[FG 1 (0:Int) (fun y:Int=>[.int .i64 y]) x.cB,.str x.Kind,.str x.aZ,.str x.cT]
def bD.g (x:bD):List cI:=[⟨.sl (.int .i64),x.cB⟩,⟨.str,x.Kind⟩,⟨.str,x.aZ⟩,⟨.str,x.cT⟩]
def aK.c (x:aK):List AV:=[.int .i64 x.Number,.str x.To,.str x.By,FG 1 (0:Int) (fun y:Int=>[.int .i64 y]) x.cP.cB,.str x.cP.Kind,.str x.cP.aZ,.str x.cP.cT]
def aK.g (x:aK):List cI:=[⟨.int .i64,x.Number⟩,⟨.str,x.To⟩,⟨.str,x.By⟩,⟨.sl (.int .i64),x.cP.cB⟩,⟨.str,x.cP.Kind⟩,⟨.str,x.cP.aZ⟩,⟨.str,x.cP.cT⟩]
def aI.c (x:aI):List AV:=[.str x.aZ,.str x.aX,.int .i64 x.b7,.int .i64 x.mN]
def aI.g (x:aI):List cI:=[⟨.str,x.aZ⟩,⟨.str,x.aX⟩,⟨.int .i64,x.b7⟩,⟨.int .i64,x.mN⟩]
def aL.c (x:aL):List AV:=[.str x.iP,.str x.aZ,.str x.aX,.int .i64 x.cM,.int .i64 x.fX]
def aL.g (x:aL):List cI:=[⟨.str,x.iP⟩,⟨.str,x.aZ⟩,⟨.str,x.aX⟩,⟨.int .i64,x.cM⟩,⟨.int .i64,x.fX⟩]
def aE.c (x:aE):List AV:=[.int .i64 x.GL,.int .i64 x.pd,.int .i64 x.lh,FG 7 (default:aA) aA.c x.aF,FG 7 (default:aK) aK.c x.bZ,FG 4 (default:aI) aI.c x.aT,FG 5 (default:aL) aL.c x.bN]
def aE.g (x:aE):List cI:=[⟨.int .i64,x.GL⟩,⟨.int .i64,x.pd⟩,⟨.int .i64,x.lh⟩,⟨.sl (.st 5),x.aF⟩,⟨.sl (.st 7),x.bZ⟩,⟨.sl (.st 8),x.aT⟩,⟨.sl (.st 9),x.bN⟩]
def cw.c (x:cw):List AV:=[.str x.dE,.str x.resource]
def cw.g (x:cw):List cI:=[⟨.str,x.dE⟩,⟨.str,x.resource⟩]
def cZ.c (x:cZ):List AV:=[.int .i64 x.code,.int .i64 x.place]
def cZ.g (x:cZ):List cI:=[⟨.int .i64,x.code⟩,⟨.int .i64,x.place⟩]
def bG.c (x:bG):List AV:=[.str x.aB.Name,.int .i64 x.aB.Kind,.int .i64 x.aB.bP,.int .i64 x.aB.b7,FG 1 ([]:List UInt8) (fun y:List UInt8=>[.str y]) x.aB.Words,.str x.aB.To,.int .i64 x.aB.cz,.bool x.aB.cR,.bool x.aB.cv,.str x.aB.Default,.str x.aB.bA]
def bG.g (x:bG):List cI:=[⟨.str,x.aB.Name⟩,⟨.int .i64,x.aB.Kind⟩,⟨.int .i64,x.aB.bP⟩,⟨.int .i64,x.aB.b7⟩,⟨.sl .str,x.aB.Words⟩,⟨.str,x.aB.To⟩,⟨.int .i64,x.aB.cz⟩,⟨.bool,x.aB.cR⟩,⟨.bool,x.aB.cv⟩,⟨.str,x.aB.Default⟩,⟨.str,x.aB.bA⟩]
def IL.c (x:IL):List AV:=[.str x.kind,.str x.name]
def IL.g (x:IL):List cI:=[⟨.str,x.kind⟩,⟨.str,x.name⟩]
def cq.c (x:cq):List AV:=[.str x.Key,.int .i64 x.El]
def cq.g (x:cq):List cI:=[⟨.str,x.Key⟩,⟨.int .i64,x.El⟩]
def cK.c (x:cK):List AV:=[.str x.Key.dE,.str x.Key.resource,.int .i64 x.El]
def cK.g (x:cK):List cI:=[⟨.str,x.Key.dE⟩,⟨.str,x.Key.resource⟩,⟨.int .i64,x.El⟩]
def aW.c (x:aW):List AV:=[.int .i64 x.Key,.int .i64 x.El]
def aW.g (x:aW):List cI:=[⟨.int .i64,x.Key⟩,⟨.int .i64,x.El⟩]
def csz:Nat→Nat
 | 0=>11
 | 1=>2
 | 2=>6
 | 3=>2
 | 4=>3
 | 5=>7
 | 6=>4
 | 7=>7
 | 8=>4
 | 9=>5
 | 10=>7
 | 11=>2
 | 12=>2
 | 13=>11
 | 14=>2
 | 15=>2
 | 16=>3
 | 17=>2
 | _=>0
def cc:(i:Nat)→C i→List AV
 | 0,x=>aB.c x
 | 1,x=>aC.c x
 | 2,x=>aD.c x
 | 3,x=>aJ.c x
 | 4,x=>aH.c x
 | 5,x=>aA.c x
 | 6,x=>bD.c x
 | 7,x=>aK.c x
 | 8,x=>aI.c x
 | 9,x=>aL.c x
 | 10,x=>aE.c x
 | 11,x=>cw.c x
 | 12,x=>cZ.c x
 | 13,x=>bG.c x
 | 14,x=>IL.c x
 | 15,x=>cq.c x
 | 16,x=>cK.c x
 | 17,x=>aW.c x
 | _+18,_=>[]
def get:(i:Nat)→C i→List cI
 | 0,x=>aB.g x
 | 1,x=>aC.g x
 | 2,x=>aD.g x
 | 3,x=>aJ.g x
 | 4,x=>aH.g x
 | 5,x=>aA.g x
 | 6,x=>bD.g x
 | 7,x=>aK.g x
 | 8,x=>aI.g x
 | 9,x=>aL.g x
 | 10,x=>aE.g x
 | 11,x=>cw.g x
 | 12,x=>cZ.g x
 | 13,x=>bG.g x
 | 14,x=>IL.g x
 | 15,x=>cq.g x
 | 16,x=>cK.g x
 | 17,x=>aW.g x
 | _+18,_=>[]
def LD:Nat→Nat
 | 0=>0
 | 1=>0
 | 2=>0
 | 3=>0
 | 4=>0
 | 5=>0
 | 6=>0
 | 7=>0
 | 8=>0
 | 9=>0
 | 10=>0
 | 11=>0
 | 12=>0
 | 13=>0
 | 14=>0
 | 15=>0
 | 16=>2
 | 17=>0
 | _=>0
def BE:Nat→List Ty
 | 0=>[.str,.int .i64,.int .i64,.int .i64,.sl .str,.str,.int .i64,.bool,.bool,.str,.str]
 | 1=>[.str,.sl (.st 0)]
 | 2=>[.str,.str,.str,.str,.str,.str]
 | 3=>[.str,.str]
 | 4=>[.sl (.st 1),.sl (.st 2),.sl (.st 3)]
 | 5=>[.str,.str,.str,.sl .str,.bool,.sl .str,.int .i64]
 | 6=>[.sl (.int .i64),.str,.str,.str]
 | 7=>[.int .i64,.str,.str,.sl (.int .i64),.str,.str,.str]
 | 8=>[.str,.str,.int .i64,.int .i64]
 | 9=>[.str,.str,.str,.int .i64,.int .i64]
 | 10=>[.int .i64,.int .i64,.int .i64,.sl (.st 5),.sl (.st 7),.sl (.st 8),.sl (.st 9)]
 | 11=>[.str,.str]
 | 12=>[.int .i64,.int .i64]
 | 13=>[.str,.int .i64,.int .i64,.int .i64,.sl .str,.str,.int .i64,.bool,.bool,.str,.str]
 | 14=>[.str,.str]
 | 15=>[.str,.int .i64]
 | 16=>[.str,.str,.int .i64]
 | 17=>[.int .i64,.int .i64]
 | _=>[]
def con:(i:Nat)→Oa (BE i) (C i)
 | 0=>(fun (a0:List UInt8)=>fun (a1:Int)=>fun (a2:Int)=>fun (a3:Int)=>fun (a4:List (List UInt8))=>fun (a5:List UInt8)=>fun (a6:Int)=>fun (a7:Bool)=>fun (a8:Bool)=>fun (a9:List UInt8)=>fun (a10:List UInt8)=>(⟨a0,a1,a2,a3,a4,a5,a6,a7,a8,a9,a10⟩:aB))
 | 1=>(fun (a0:List UInt8)=>fun (a1:List aB)=>(⟨a0,a1⟩:aC))
 | 2=>(fun (a0:List UInt8)=>fun (a1:List UInt8)=>fun (a2:List UInt8)=>fun (a3:List UInt8)=>fun (a4:List UInt8)=>fun (a5:List UInt8)=>(⟨a0,a1,a2,a3,a4,a5⟩:aD))
 | 3=>(fun (a0:List UInt8)=>fun (a1:List UInt8)=>(⟨a0,a1⟩:aJ))
 | 4=>(fun (a0:List aC)=>fun (a1:List aD)=>fun (a2:List aJ)=>(⟨a0,a1,a2⟩:aH))
 | 5=>(fun (a0:List UInt8)=>fun (a1:List UInt8)=>fun (a2:List UInt8)=>fun (a3:List (List UInt8))=>fun (a4:Bool)=>fun (a5:List (List UInt8))=>fun (a6:Int)=>(⟨a0,a1,a2,a3,a4,a5,a6⟩:aA))
 | 6=>(fun (a0:List Int)=>fun (a1:List UInt8)=>fun (a2:List UInt8)=>fun (a3:List UInt8)=>(⟨a0,a1,a2,a3⟩:bD))
 | 7=>(fun (a0:Int)=>fun (a1:List UInt8)=>fun (a2:List UInt8)=>fun (a3:List Int)=>fun (a4:List UInt8)=>fun (a5:List UInt8)=>fun (a6:List UInt8)=>(⟨a0,a1,a2,(⟨a3,a4,a5,a6⟩:bD)⟩:aK))
 | 8=>(fun (a0:List UInt8)=>fun (a1:List UInt8)=>fun (a2:Int)=>fun (a3:Int)=>(⟨a0,a1,a2,a3⟩:aI))
 | 9=>(fun (a0:List UInt8)=>fun (a1:List UInt8)=>fun (a2:List UInt8)=>fun (a3:Int)=>fun (a4:Int)=>(⟨a0,a1,a2,a3,a4⟩:aL))
 | 10=>(fun (a0:Int)=>fun (a1:Int)=>fun (a2:Int)=>fun (a3:List aA)=>fun (a4:List aK)=>fun (a5:List aI)=>fun (a6:List aL)=>(⟨a0,a1,a2,a3,a4,a5,a6⟩:aE))
 | 11=>(fun (a0:List UInt8)=>fun (a1:List UInt8)=>(⟨a0,a1⟩:cw))
 | 12=>(fun (a0:Int)=>fun (a1:Int)=>(⟨a0,a1⟩:cZ))
 | 13=>(fun (a0:List UInt8)=>fun (a1:Int)=>fun (a2:Int)=>fun (a3:Int)=>fun (a4:List (List UInt8))=>fun (a5:List UInt8)=>fun (a6:Int)=>fun (a7:Bool)=>fun (a8:Bool)=>fun (a9:List UInt8)=>fun (a10:List UInt8)=>(⟨(⟨a0,a1,a2,a3,a4,a5,a6,a7,a8,a9,a10⟩:aB)⟩:bG))
 | 14=>(fun (a0:List UInt8)=>fun (a1:List UInt8)=>(⟨a0,a1⟩:IL))
 | 15=>(fun (a0:List UInt8)=>fun (a1:Int)=>(⟨a0,a1⟩:cq))
 | 16=>(fun (a0:List UInt8)=>fun (a1:List UInt8)=>fun (a2:Int)=>(⟨(⟨a0,a1⟩:cw),a2⟩:cK))
 | 17=>(fun (a0:Int)=>fun (a1:Int)=>(⟨a0,a1⟩:aW))
 | _+18=>()
def fg:Ty→Nat
 | .st i=>csz i
 | _=>1
def sV:(t:Ty)→t.dn→List AV
 | .int k,x=>[.int k x]
 | .str,x=>[.str x]
 | .bool,x=>[.bool x]
 | .sl t,x=>[FG (fg t) t.df (sV t) x]
 | .st i,x=>cc i x
def cN:cI→AV
 | ⟨.int k,x⟩=>.int k x
 | ⟨.str,x⟩=>.str x
 | ⟨.bool,x⟩=>.bool x
 | ⟨.sl t,x⟩=>FG (fg t) t.df (sV t) x
 | ⟨.st i,x⟩=>.agg (cc i x)
theorem L3:∀ (i:Nat) (x:C i),(get i x).map cN=cc i x
 | 0,_=>rfl
 | 1,_=>rfl
 | 2,_=>rfl
 | 3,_=>rfl
 | 4,_=>rfl
 | 5,_=>rfl
 | 6,_=>rfl
 | 7,_=>rfl
 | 8,_=>rfl
 | 9,_=>rfl
 | 10,_=>rfl
 | 11,_=>rfl
 | 12,_=>rfl
 | 13,_=>rfl
 | 14,_=>rfl
 | 15,_=>rfl
 | 16,_=>rfl
 | 17,_=>rfl
 | _+18,_=>rfl
theorem adr:∀ (i:Nat) (x:Ad (BE i)),get i (zA (BE i) (con i) x)=e_ (BE i) x
 | 0,_=>rfl
 | 1,_=>rfl
 | 2,_=>rfl
 | 3,_=>rfl
 | 4,_=>rfl
 | 5,_=>rfl
 | 6,_=>rfl
 | 7,_=>rfl
 | 8,_=>rfl
 | 9,_=>rfl
 | 10,_=>rfl
 | 11,_=>rfl
 | 12,_=>rfl
 | 13,_=>rfl
 | 14,_=>rfl
 | 15,_=>rfl
 | 16,_=>rfl
 | 17,_=>rfl
 | _+18,_=>rfl
theorem qO:∀ (i:Nat) (x:C i),(get i x).map (·.t)=BE i
 | 0,_=>rfl
 | 1,_=>rfl
 | 2,_=>rfl
 | 3,_=>rfl
 | 4,_=>rfl
 | 5,_=>rfl
 | 6,_=>rfl
 | 7,_=>rfl
 | 8,_=>rfl
 | 9,_=>rfl
 | 10,_=>rfl
 | 11,_=>rfl
 | 12,_=>rfl
 | 13,_=>rfl
 | 14,_=>rfl
 | 15,_=>rfl
 | 16,_=>rfl
 | 17,_=>rfl
 | _+18,_=>rfl
theorem ads:∀ (i:Nat) (x:C i),(get i x).length=csz i
 | 0,_=>rfl
 | 1,_=>rfl
 | 2,_=>rfl
 | 3,_=>rfl
 | 4,_=>rfl
 | 5,_=>rfl
 | 6,_=>rfl
 | 7,_=>rfl
 | 8,_=>rfl
 | 9,_=>rfl
 | 10,_=>rfl
 | 11,_=>rfl
 | 12,_=>rfl
 | 13,_=>rfl
 | 14,_=>rfl
 | 15,_=>rfl
 | 16,_=>rfl
 | 17,_=>rfl
 | _+18,_=>rfl
theorem abk:∀ (i:Nat) (x:C i) (y:cI),y∈get i x→∀ j,y.t≠.st j
 | 0,x,y,h,j=>by
  simp only [get,aB.g,List.mem_cons,List.not_mem_nil,or_false] at h
  rcases h with rfl | rfl | rfl | rfl | rfl | rfl | rfl | rfl | rfl | rfl | rfl<;>simp
 | 1,x,y,h,j=>by
  simp only [get,aC.g,List.mem_cons,List.not_mem_nil,or_false] at h
  rcases h with rfl | rfl<;>simp
 | 2,x,y,h,j=>by
  simp only [get,aD.g,List.mem_cons,List.not_mem_nil,or_false] at h
  rcases h with rfl | rfl | rfl | rfl | rfl | rfl<;>simp
 | 3,x,y,h,j=>by
  simp only [get,aJ.g,List.mem_cons,List.not_mem_nil,or_false] at h
  rcases h with rfl | rfl<;>simp
 | 4,x,y,h,j=>by
  simp only [get,aH.g,List.mem_cons,List.not_mem_nil,or_false] at h
  rcases h with rfl | rfl | rfl<;>simp
 | 5,x,y,h,j=>by
  simp only [get,aA.g,List.mem_cons,List.not_mem_nil,or_false] at h
  rcases h with rfl | rfl | rfl | rfl | rfl | rfl | rfl<;>simp
 | 6,x,y,h,j=>by
  simp only [get,bD.g,List.mem_cons,List.not_mem_nil,or_false] at h
  rcases h with rfl | rfl | rfl | rfl<;>simp
 | 7,x,y,h,j=>by
  simp only [get,aK.g,List.mem_cons,List.not_mem_nil,or_false] at h
  rcases h with rfl | rfl | rfl | rfl | rfl | rfl | rfl<;>simp
 | 8,x,y,h,j=>by
  simp only [get,aI.g,List.mem_cons,List.not_mem_nil,or_false] at h
  rcases h with rfl | rfl | rfl | rfl<;>simp
 | 9,x,y,h,j=>by
  simp only [get,aL.g,List.mem_cons,List.not_mem_nil,or_false] at h
  rcases h with rfl | rfl | rfl | rfl | rfl<;>simp
 | 10,x,y,h,j=>by
  simp only [get,aE.g,List.mem_cons,List.not_mem_nil,or_false] at h
  rcases h with rfl | rfl | rfl | rfl | rfl | rfl | rfl<;>simp
 | 11,x,y,h,j=>by
  simp only [get,cw.g,List.mem_cons,List.not_mem_nil,or_false] at h
  rcases h with rfl | rfl<;>simp
 | 12,x,y,h,j=>by
  simp only [get,cZ.g,List.mem_cons,List.not_mem_nil,or_false] at h
  rcases h with rfl | rfl<;>simp
 | 13,x,y,h,j=>by
  simp only [get,bG.g,List.mem_cons,List.not_mem_nil,or_false] at h
  rcases h with rfl | rfl | rfl | rfl | rfl | rfl | rfl | rfl | rfl | rfl | rfl<;>simp
 | 14,x,y,h,j=>by
  simp only [get,IL.g,List.mem_cons,List.not_mem_nil,or_false] at h
  rcases h with rfl | rfl<;>simp
 | 15,x,y,h,j=>by
  simp only [get,cq.g,List.mem_cons,List.not_mem_nil,or_false] at h
  rcases h with rfl | rfl<;>simp
 | 16,x,y,h,j=>by
  simp only [get,cK.g,List.mem_cons,List.not_mem_nil,or_false] at h
  rcases h with rfl | rfl | rfl<;>simp
 | 17,x,y,h,j=>by
  simp only [get,aW.g,List.mem_cons,List.not_mem_nil,or_false] at h
  rcases h with rfl | rfl<;>simp
 | _+18,_,_,h,_=>by cases h
end Go.Proofs.YtljfmaaadnoggaaGreatDoor.cX
