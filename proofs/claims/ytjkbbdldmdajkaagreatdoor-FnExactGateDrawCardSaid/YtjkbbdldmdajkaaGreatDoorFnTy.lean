/- The data of the functions, and their cells. No condition. -/
import Derived.Test.YtjkbbdldmdajkaaGreatDoorVG
set_option linter.unusedSimpArgs false
set_option linter.unusedVariables false
namespace Go.Proofs.YtjkbbdldmdajkaaGreatDoor.c5
open Go Go.RowKit
inductive Ty where
 | int (k:IntKind)
 | str
 | bool
 | sl (t:Ty)
 | st (i:Nat)
 deriving DecidableEq
structure aB where
 Name:List UInt8
 Kind:Int
 bR:Int
 bU:Int
 Words:List (List UInt8)
 To:List UInt8
 cB:Int
 cV:Bool
 cq:Bool
 Default:List UInt8
 bD:List UInt8
 deriving DecidableEq
instance:Inhabited aB:=⟨⟨([]:List UInt8),(0:Int),(0:Int),(0:Int),([]:List (List UInt8)),([]:List UInt8),(0:Int),false,false,([]:List UInt8),([]:List UInt8)⟩⟩
structure aD where
 Kind:List UInt8
 aW:List aB
 deriving DecidableEq
instance:Inhabited aD:=⟨⟨([]:List UInt8),([]:List aB)⟩⟩
structure aF where
 Kind:List UInt8
 Field:List UInt8
 db:List UInt8
 Is:List UInt8
 sq:List UInt8
 cM:List UInt8
 deriving DecidableEq
instance:Inhabited aF:=⟨⟨([]:List UInt8),([]:List UInt8),([]:List UInt8),([]:List UInt8),([]:List UInt8),([]:List UInt8)⟩⟩
structure aJ where
 Name:List UInt8
 g9:List UInt8
 deriving DecidableEq
instance:Inhabited aJ:=⟨⟨([]:List UInt8),([]:List UInt8)⟩⟩
structure aT where
 cf:List aD
 iA:List aF
 eB:List aJ
 deriving DecidableEq
instance:Inhabited aT:=⟨⟨([]:List aD),([]:List aF),([]:List aJ)⟩⟩
structure aA where
 Kind:List UInt8
 Name:List UInt8
 aY:List UInt8
 aP:List (List UInt8)
 Ending:Bool
 b8:List (List UInt8)
 Version:Int
 deriving DecidableEq
instance:Inhabited aA:=⟨⟨([]:List UInt8),([]:List UInt8),([]:List UInt8),([]:List (List UInt8)),false,([]:List (List UInt8)),(0:Int)⟩⟩
structure bG where
 b_:List Int
 Kind:List UInt8
 aY:List UInt8
 cP:List UInt8
 deriving DecidableEq
instance:Inhabited bG:=⟨⟨([]:List Int),([]:List UInt8),([]:List UInt8),([]:List UInt8)⟩⟩
structure aG where
 Number:Int
 To:List UInt8
 By:List UInt8
 cF:bG
 deriving DecidableEq
instance:Inhabited aG:=⟨⟨(0:Int),([]:List UInt8),([]:List UInt8),(default:bG)⟩⟩
structure aE where
 aY:List UInt8
 aL:List UInt8
 bU:Int
 dP:Int
 deriving DecidableEq
instance:Inhabited aE:=⟨⟨([]:List UInt8),([]:List UInt8),(0:Int),(0:Int)⟩⟩
structure aC where
 cT:List UInt8
 aY:List UInt8
 aL:List UInt8
 cm:Int
 ez:Int
 deriving DecidableEq
instance:Inhabited aC:=⟨⟨([]:List UInt8),([]:List UInt8),([]:List UInt8),(0:Int),(0:Int)⟩⟩
structure aI where
 zR:Int
 ix:Int
 fX:Int
 aO:List aA
 bK:List aG
 aK:List aE
 aU:List aC
 deriving DecidableEq
instance:Inhabited aI:=⟨⟨(0:Int),(0:Int),(0:Int),([]:List aA),([]:List aG),([]:List aE),([]:List aC)⟩⟩
structure Gg where
 kind:List UInt8
 name:List UInt8
 deriving DecidableEq
instance:Inhabited Gg:=⟨⟨([]:List UInt8),([]:List UInt8)⟩⟩
structure cl where
 dH:List UInt8
 resource:List UInt8
 deriving DecidableEq
instance:Inhabited cl:=⟨⟨([]:List UInt8),([]:List UInt8)⟩⟩
structure eD where
 code:Int
 place:Int
 deriving DecidableEq
instance:Inhabited eD:=⟨⟨(0:Int),(0:Int)⟩⟩
structure bH where
 aB:aB
 deriving DecidableEq
instance:Inhabited bH:=⟨⟨(default:aB)⟩⟩
structure cx where
 Key:List UInt8
 L4:Int
 deriving DecidableEq
instance:Inhabited cx:=⟨⟨([]:List UInt8),(0:Int)⟩⟩
structure cU where
 Key:cl
 L4:Int
 deriving DecidableEq
instance:Inhabited cU:=⟨⟨(default:cl),(0:Int)⟩⟩
def C:Nat→Type
 | 0=>aB
 | 1=>aD
 | 2=>aF
 | 3=>aJ
 | 4=>aT
 | 5=>aA
 | 6=>bG
 | 7=>aG
 | 8=>aE
 | 9=>aC
 | 10=>aI
 | 11=>Gg
 | 12=>cl
 | 13=>eD
 | 14=>bH
 | 15=>cx
 | 16=>cU
 | _=>Unit
def inh:(i:Nat)→C i
 | 0=>(default:aB)
 | 1=>(default:aD)
 | 2=>(default:aF)
 | 3=>(default:aJ)
 | 4=>(default:aT)
 | 5=>(default:aA)
 | 6=>(default:bG)
 | 7=>(default:aG)
 | 8=>(default:aE)
 | 9=>(default:aC)
 | 10=>(default:aI)
 | 11=>(default:Gg)
 | 12=>(default:cl)
 | 13=>(default:eD)
 | 14=>(default:bH)
 | 15=>(default:cx)
 | 16=>(default:cU)
 | _+17=>()
def Ty.dn:Ty→Type
 | .int _=>Int
 | .str=>List UInt8
 | .bool=>Bool
 | .sl t=>List t.dn
 | .st i=>C i
def Ty.df:(t:Ty)→t.dn
 | .int _=>(0:Int)
 | .str=>([]:List UInt8)
 | .bool=>false
 | .sl _=>([]:List _)
 | .st i=>inh i
structure cG where
 t:Ty
 x:t.dn
def xP:List Ty→Type
 | []=>Unit
 | t::ts=>t.dn×xP ts
def ew:(ts:List Ty)→xP ts→List cG
 | [],_=>[]
 | t::ts,x=>⟨t,x.1⟩::ew ts x.2
def oj:(ts:List Ty)→List cG→Option (xP ts)
 | [],[]=>some ()
 | t::ts,⟨u,x⟩::l=>if h:u=t then (match oj ts l with
  | some y=>some (h▸x,y)
  | none=>none) else none
 | _,_=>none
theorem lO:∀ {ts:List Ty} {l:List cG} {x:xP ts},oj ts l=some x→ew ts x=l
 | [],[],x,_=>rfl
 | [],_::_,x,h=>by cases h
 | _::_,[],x,h=>by cases h
 | t::ts,⟨u,y⟩::l,x,h=>by
  simp only [oj] at h;split at h
  ·rename_i e;subst e;split at h
   ·rename_i z hz;cases h;simp only [ew,lO hz]
   ·cases h
  ·cases h
def LA:List Ty→Type→Type
 | [],R=>R
 | t::ts,R=>t.dn→LA ts R
def xQ {R:Type}:(ts:List Ty)→LA ts R→xP ts→R
 | [],f,_=>f
 | _::ts,f,x=>xQ ts (f x.1) x.2
def RS {R:Type}:(ts:List Ty)→(xP ts→R)→LA ts R
 | [],f=>f ()
 | _::ts,f=>fun x=>RS ts fun y=>f (x,y)
theorem qJ {R:Type}:∀ (ts:List Ty) (f:xP ts→R) (x:xP ts),xQ ts (RS ts f) x=f x
 | [],f,x=>rfl
 | _::ts,f,(x,y)=>qJ ts (fun y=>f (x,y)) y
def C8 {α:Type} (n:Nat) (d:α) (c:α→List AV) (xs:List α):AV:=.fs n xs.length fun i j=>(c (xs.getD i d)).getD j .top
def aB.c (x:aB):List AV:=[.str x.Name,.int .i64 x.Kind,.int .i64 x.bR,.int .i64 x.bU,C8 1 ([]:List UInt8) (fun y:List UInt8=>[.str y]) x.Words,.str x.To,.int .i64 x.cB,.bool x.cV,.bool x.cq,.str x.Default,.str x.bD]
def aB.g (x:aB):List cG:=[⟨.str,x.Name⟩,⟨.int .i64,x.Kind⟩,⟨.int .i64,x.bR⟩,⟨.int .i64,x.bU⟩,⟨.sl .str,x.Words⟩,⟨.str,x.To⟩,⟨.int .i64,x.cB⟩,⟨.bool,x.cV⟩,⟨.bool,x.cq⟩,⟨.str,x.Default⟩,⟨.str,x.bD⟩]
def aD.c (x:aD):List AV:=[.str x.Kind,C8 11 (default:aB) aB.c x.aW]
def aD.g (x:aD):List cG:=[⟨.str,x.Kind⟩,⟨.sl (.st 0),x.aW⟩]
def aF.c (x:aF):List AV:=[.str x.Kind,.str x.Field,.str x.db,.str x.Is,.str x.sq,.str x.cM]
def aF.g (x:aF):List cG:=[⟨.str,x.Kind⟩,⟨.str,x.Field⟩,⟨.str,x.db⟩,⟨.str,x.Is⟩,⟨.str,x.sq⟩,⟨.str,x.cM⟩]
def aJ.c (x:aJ):List AV:=[.str x.Name,.str x.g9]
def aJ.g (x:aJ):List cG:=[⟨.str,x.Name⟩,⟨.str,x.g9⟩]
def aT.c (x:aT):List AV:=[C8 2 (default:aD) aD.c x.cf,C8 6 (default:aF) aF.c x.iA,C8 2 (default:aJ) aJ.c x.eB]
def aT.g (x:aT):List cG:=[⟨.sl (.st 1),x.cf⟩,⟨.sl (.st 2),x.iA⟩,⟨.sl (.st 3),x.eB⟩]
def aA.c (x:aA):List AV:=[.str x.Kind,.str x.Name,.str x.aY,C8 1 ([]:List UInt8) (fun y:List UInt8=>[.str y]) x.aP,.bool x.Ending,C8 1 ([]:List UInt8) (fun y:List UInt8=>[.str y]) x.b8,.int .i64 x.Version]
def aA.g (x:aA):List cG:=[⟨.str,x.Kind⟩,⟨.str,x.Name⟩,⟨.str,x.aY⟩,⟨.sl .str,x.aP⟩,⟨.bool,x.Ending⟩,⟨.sl .str,x.b8⟩,⟨.int .i64,x.Version⟩]
def bG.c (x:bG):List AV:=[C8 1 (0:Int) (fun y:Int=>[.int .i64 y]) x.b_,.str x.Kind,.str x.aY,.str x.cP]
def bG.g (x:bG):List cG:=[⟨.sl (.int .i64),x.b_⟩,⟨.str,x.Kind⟩,⟨.str,x.aY⟩,⟨.str,x.cP⟩]
def aG.c (x:aG):List AV:=[.int .i64 x.Number,.str x.To,.str x.By,C8 1 (0:Int) (fun y:Int=>[.int .i64 y]) x.cF.b_,.str x.cF.Kind,.str x.cF.aY,.str x.cF.cP]
def aG.g (x:aG):List cG:=[⟨.int .i64,x.Number⟩,⟨.str,x.To⟩,⟨.str,x.By⟩,⟨.sl (.int .i64),x.cF.b_⟩,⟨.str,x.cF.Kind⟩,⟨.str,x.cF.aY⟩,⟨.str,x.cF.cP⟩]
def aE.c (x:aE):List AV:=[.str x.aY,.str x.aL,.int .i64 x.bU,.int .i64 x.dP]
def aE.g (x:aE):List cG:=[⟨.str,x.aY⟩,⟨.str,x.aL⟩,⟨.int .i64,x.bU⟩,⟨.int .i64,x.dP⟩]
def aC.c (x:aC):List AV:=[.str x.cT,.str x.aY,.str x.aL,.int .i64 x.cm,.int .i64 x.ez]
def aC.g (x:aC):List cG:=[⟨.str,x.cT⟩,⟨.str,x.aY⟩,⟨.str,x.aL⟩,⟨.int .i64,x.cm⟩,⟨.int .i64,x.ez⟩]
def aI.c (x:aI):List AV:=[.int .i64 x.zR,.int .i64 x.ix,.int .i64 x.fX,C8 7 (default:aA) aA.c x.aO,C8 7 (default:aG) aG.c x.bK,C8 4 (default:aE) aE.c x.aK,C8 5 (default:aC) aC.c x.aU]
def aI.g (x:aI):List cG:=[⟨.int .i64,x.zR⟩,⟨.int .i64,x.ix⟩,⟨.int .i64,x.fX⟩,⟨.sl (.st 5),x.aO⟩,⟨.sl (.st 7),x.bK⟩,⟨.sl (.st 8),x.aK⟩,⟨.sl (.st 9),x.aU⟩]
def Gg.c (x:Gg):List AV:=[.str x.kind,.str x.name]
def Gg.g (x:Gg):List cG:=[⟨.str,x.kind⟩,⟨.str,x.name⟩]
def cl.c (x:cl):List AV:=[.str x.dH,.str x.resource]
def cl.g (x:cl):List cG:=[⟨.str,x.dH⟩,⟨.str,x.resource⟩]
def eD.c (x:eD):List AV:=[.int .i64 x.code,.int .i64 x.place]
def eD.g (x:eD):List cG:=[⟨.int .i64,x.code⟩,⟨.int .i64,x.place⟩]
def bH.c (x:bH):List AV:=[.str x.aB.Name,.int .i64 x.aB.Kind,.int .i64 x.aB.bR,.int .i64 x.aB.bU,C8 1 ([]:List UInt8) (fun y:List UInt8=>[.str y]) x.aB.Words,.str x.aB.To,.int .i64 x.aB.cB,.bool x.aB.cV,.bool x.aB.cq,.str x.aB.Default,.str x.aB.bD]
def bH.g (x:bH):List cG:=[⟨.str,x.aB.Name⟩,⟨.int .i64,x.aB.Kind⟩,⟨.int .i64,x.aB.bR⟩,⟨.int .i64,x.aB.bU⟩,⟨.sl .str,x.aB.Words⟩,⟨.str,x.aB.To⟩,⟨.int .i64,x.aB.cB⟩,⟨.bool,x.aB.cV⟩,⟨.bool,x.aB.cq⟩,⟨.str,x.aB.Default⟩,⟨.str,x.aB.bD⟩]
def cx.c (x:cx):List AV:=[.str x.Key,.int .i64 x.L4]
def cx.g (x:cx):List cG:=[⟨.str,x.Key⟩,⟨.int .i64,x.L4⟩]
def cU.c (x:cU):List AV:=[.str x.Key.dH,.str x.Key.resource,.int .i64 x.L4]
def cU.g (x:cU):List cG:=[⟨.str,x.Key.dH⟩,⟨.str,x.Key.resource⟩,⟨.int .i64,x.L4⟩]
def csz:Nat→Nat
 | 0=>11
 | 1=>2
 | 2=>6
 | 3=>2
 | 4=>3
 | 5=>7
 | 6=>4
 | 7=>7
 | 8=>4
 | 9=>5
 | 10=>7
 | 11=>2
 | 12=>2
 | 13=>2
 | 14=>11
 | 15=>2
 | 16=>3
 | _=>0
def cc:(i:Nat)→C i→List AV
 | 0,x=>aB.c x
 | 1,x=>aD.c x
 | 2,x=>aF.c x
 | 3,x=>aJ.c x
 | 4,x=>aT.c x
 | 5,x=>aA.c x
 | 6,x=>bG.c x
 | 7,x=>aG.c x
 | 8,x=>aE.c x
 | 9,x=>aC.c x
 | 10,x=>aI.c x
 | 11,x=>Gg.c x
 | 12,x=>cl.c x
 | 13,x=>eD.c x
 | 14,x=>bH.c x
 | 15,x=>cx.c x
 | 16,x=>cU.c x
 | _+17,_=>[]
def get:(i:Nat)→C i→List cG
 | 0,x=>aB.g x
 | 1,x=>aD.g x
 | 2,x=>aF.g x
 | 3,x=>aJ.g x
 | 4,x=>aT.g x
 | 5,x=>aA.g x
 | 6,x=>bG.g x
 | 7,x=>aG.g x
 | 8,x=>aE.g x
 | 9,x=>aC.g x
 | 10,x=>aI.g x
 | 11,x=>Gg.g x
 | 12,x=>cl.g x
 | 13,x=>eD.g x
 | 14,x=>bH.g x
 | 15,x=>cx.g x
 | 16,x=>cU.g x
 | _+17,_=>[]
def I9:Nat→Nat
 | 0=>0
 | 1=>0
 | 2=>0
 | 3=>0
 | 4=>0
 | 5=>0
 | 6=>0
 | 7=>0
 | 8=>0
 | 9=>0
 | 10=>0
 | 11=>0
 | 12=>0
 | 13=>0
 | 14=>0
 | 15=>0
 | 16=>2
 | _=>0
def zS:Nat→List Ty
 | 0=>[.str,.int .i64,.int .i64,.int .i64,.sl .str,.str,.int .i64,.bool,.bool,.str,.str]
 | 1=>[.str,.sl (.st 0)]
 | 2=>[.str,.str,.str,.str,.str,.str]
 | 3=>[.str,.str]
 | 4=>[.sl (.st 1),.sl (.st 2),.sl (.st 3)]
 | 5=>[.str,.str,.str,.sl .str,.bool,.sl .str,.int .i64]
 | 6=>[.sl (.int .i64),.str,.str,.str]
 | 7=>[.int .i64,.str,.str,.sl (.int .i64),.str,.str,.str]
 | 8=>[.str,.str,.int .i64,.int .i64]
 | 9=>[.str,.str,.str,.int .i64,.int .i64]
 | 10=>[.int .i64,.int .i64,.int .i64,.sl (.st 5),.sl (.st 7),.sl (.st 8),.sl (.st 9)]
 | 11=>[.str,.str]
 | 12=>[.str,.str]
 | 13=>[.int .i64,.int .i64]
 | 14=>[.str,.int .i64,.int .i64,.int .i64,.sl .str,.str,.int .i64,.bool,.bool,.str,.str]
 | 15=>[.str,.int .i64]
 | 16=>[.str,.str,.int .i64]
 | _=>[]
def con:(i:Nat)→LA (zS i) (C i)
 | 0=>(fun (a0:List UInt8)=>fun (a1:Int)=>fun (a2:Int)=>fun (a3:Int)=>fun (a4:List (List UInt8))=>fun (a5:List UInt8)=>fun (a6:Int)=>fun (a7:Bool)=>fun (a8:Bool)=>fun (a9:List UInt8)=>fun (a10:List UInt8)=>(⟨a0,a1,a2,a3,a4,a5,a6,a7,a8,a9,a10⟩:aB))
 | 1=>(fun (a0:List UInt8)=>fun (a1:List aB)=>(⟨a0,a1⟩:aD))
 | 2=>(fun (a0:List UInt8)=>fun (a1:List UInt8)=>fun (a2:List UInt8)=>fun (a3:List UInt8)=>fun (a4:List UInt8)=>fun (a5:List UInt8)=>(⟨a0,a1,a2,a3,a4,a5⟩:aF))
 | 3=>(fun (a0:List UInt8)=>fun (a1:List UInt8)=>(⟨a0,a1⟩:aJ))
 | 4=>(fun (a0:List aD)=>fun (a1:List aF)=>fun (a2:List aJ)=>(⟨a0,a1,a2⟩:aT))
 | 5=>(fun (a0:List UInt8)=>fun (a1:List UInt8)=>fun (a2:List UInt8)=>fun (a3:List (List UInt8))=>fun (a4:Bool)=>fun (a5:List (List UInt8))=>fun (a6:Int)=>(⟨a0,a1,a2,a3,a4,a5,a6⟩:aA))
 | 6=>(fun (a0:List Int)=>fun (a1:List UInt8)=>fun (a2:List UInt8)=>fun (a3:List UInt8)=>(⟨a0,a1,a2,a3⟩:bG))
 | 7=>(fun (a0:Int)=>fun (a1:List UInt8)=>fun (a2:List UInt8)=>fun (a3:List Int)=>fun (a4:List UInt8)=>fun (a5:List UInt8)=>fun (a6:List UInt8)=>(⟨a0,a1,a2,(⟨a3,a4,a5,a6⟩:bG)⟩:aG))
 | 8=>(fun (a0:List UInt8)=>fun (a1:List UInt8)=>fun (a2:Int)=>fun (a3:Int)=>(⟨a0,a1,a2,a3⟩:aE))
 | 9=>(fun (a0:List UInt8)=>fun (a1:List UInt8)=>fun (a2:List UInt8)=>fun (a3:Int)=>fun (a4:Int)=>(⟨a0,a1,a2,a3,a4⟩:aC))
 | 10=>(fun (a0:Int)=>fun (a1:Int)=>fun (a2:Int)=>fun (a3:List aA)=>fun (a4:List aG)=>fun (a5:List aE)=>fun (a6:List aC)=>(⟨a0,a1,a2,a3,a4,a5,a6⟩:aI))
 | 11=>(fun (a0:List UInt8)=>fun (a1:List UInt8)=>(⟨a0,a1⟩:Gg))
 | 12=>(fun (a0:List UInt8)=>fun (a1:List UInt8)=>(⟨a0,a1⟩:cl))
 | 13=>(fun (a0:Int)=>fun (a1:Int)=>(⟨a0,a1⟩:eD))
 | 14=>(fun (a0:List UInt8)=>fun (a1:Int)=>fun (a2:Int)=>fun (a3:Int)=>fun (a4:List (List UInt8))=>fun (a5:List UInt8)=>fun (a6:Int)=>fun (a7:Bool)=>fun (a8:Bool)=>fun (a9:List UInt8)=>fun (a10:List UInt8)=>(⟨(⟨a0,a1,a2,a3,a4,a5,a6,a7,a8,a9,a10⟩:aB)⟩:bH))
 | 15=>(fun (a0:List UInt8)=>fun (a1:Int)=>(⟨a0,a1⟩:cx))
 | 16=>(fun (a0:List UInt8)=>fun (a1:List UInt8)=>fun (a2:Int)=>(⟨(⟨a0,a1⟩:cl),a2⟩:cU))
 | _+17=>()
def ff:Ty→Nat
 | .st i=>csz i
 | _=>1
def r9:(t:Ty)→t.dn→List AV
 | .int k,x=>[.int k x]
 | .str,x=>[.str x]
 | .bool,x=>[.bool x]
 | .sl t,x=>[C8 (ff t) t.df (r9 t) x]
 | .st i,x=>cc i x
def cL:cG→AV
 | ⟨.int k,x⟩=>.int k x
 | ⟨.str,x⟩=>.str x
 | ⟨.bool,x⟩=>.bool x
 | ⟨.sl t,x⟩=>C8 (ff t) t.df (r9 t) x
 | ⟨.st i,x⟩=>.agg (cc i x)
theorem Jx:∀ (i:Nat) (x:C i),(get i x).map cL=cc i x
 | 0,_=>rfl
 | 1,_=>rfl
 | 2,_=>rfl
 | 3,_=>rfl
 | 4,_=>rfl
 | 5,_=>rfl
 | 6,_=>rfl
 | 7,_=>rfl
 | 8,_=>rfl
 | 9,_=>rfl
 | 10,_=>rfl
 | 11,_=>rfl
 | 12,_=>rfl
 | 13,_=>rfl
 | 14,_=>rfl
 | 15,_=>rfl
 | 16,_=>rfl
 | _+17,_=>rfl
theorem aaW:∀ (i:Nat) (x:xP (zS i)),get i (xQ (zS i) (con i) x)=ew (zS i) x
 | 0,_=>rfl
 | 1,_=>rfl
 | 2,_=>rfl
 | 3,_=>rfl
 | 4,_=>rfl
 | 5,_=>rfl
 | 6,_=>rfl
 | 7,_=>rfl
 | 8,_=>rfl
 | 9,_=>rfl
 | 10,_=>rfl
 | 11,_=>rfl
 | 12,_=>rfl
 | 13,_=>rfl
 | 14,_=>rfl
 | 15,_=>rfl
 | 16,_=>rfl
 | _+17,_=>rfl
theorem qd:∀ (i:Nat) (x:C i),(get i x).map (·.t)=zS i
 | 0,_=>rfl
 | 1,_=>rfl
 | 2,_=>rfl
 | 3,_=>rfl
 | 4,_=>rfl
 | 5,_=>rfl
 | 6,_=>rfl
 | 7,_=>rfl
 | 8,_=>rfl
 | 9,_=>rfl
 | 10,_=>rfl
 | 11,_=>rfl
 | 12,_=>rfl
 | 13,_=>rfl
 | 14,_=>rfl
 | 15,_=>rfl
 | 16,_=>rfl
 | _+17,_=>rfl
theorem aaX:∀ (i:Nat) (x:C i),(get i x).length=csz i
 | 0,_=>rfl
 | 1,_=>rfl
 | 2,_=>rfl
 | 3,_=>rfl
 | 4,_=>rfl
 | 5,_=>rfl
 | 6,_=>rfl
 | 7,_=>rfl
 | 8,_=>rfl
 | 9,_=>rfl
 | 10,_=>rfl
 | 11,_=>rfl
 | 12,_=>rfl
 | 13,_=>rfl
 | 14,_=>rfl
 | 15,_=>rfl
 | 16,_=>rfl
 | _+17,_=>rfl
theorem YR:∀ (i:Nat) (x:C i) (y:cG),y∈get i x→∀ j,y.t≠.st j
 | 0,x,y,h,j=>by
  simp only [get,aB.g,List.mem_cons,List.not_mem_nil,or_false] at h;rcases h with rfl | rfl | rfl | rfl | rfl | rfl | rfl | rfl | rfl | rfl | rfl<;>simp
 | 1,x,y,h,j=>by
  simp only [get,aD.g,List.mem_cons,List.not_mem_nil,or_false] at h;rcases h with rfl | rfl<;>simp
 | 2,x,y,h,j=>by
  simp only [get,aF.g,List.mem_cons,List.not_mem_nil,or_false] at h;rcases h with rfl | rfl | rfl | rfl | rfl | rfl<;>simp
 | 3,x,y,h,j=>by
  simp only [get,aJ.g,List.mem_cons,List.not_mem_nil,or_false] at h;rcases h with rfl | rfl<;>simp
 | 4,x,y,h,j=>by
  simp only [get,aT.g,List.mem_cons,List.not_mem_nil,or_false] at h;rcases h with rfl | rfl | rfl<;>simp
 | 5,x,y,h,j=>by
  simp only [get,aA.g,List.mem_cons,List.not_mem_nil,or_false] at h;rcases h with rfl | rfl | rfl | rfl | rfl | rfl | rfl<;>simp
 | 6,x,y,h,j=>by
  simp only [get,bG.g,List.mem_cons,List.not_mem_nil,or_false] at h;rcases h with rfl | rfl | rfl | rfl<;>simp
 | 7,x,y,h,j=>by
  simp only [get,aG.g,List.mem_cons,List.not_mem_nil,or_false] at h;rcases h with rfl | rfl | rfl | rfl | rfl | rfl | rfl<;>simp
 | 8,x,y,h,j=>by
  simp only [get,aE.g,List.mem_cons,List.not_mem_nil,or_false] at h;rcases h with rfl | rfl | rfl | rfl<;>simp
 | 9,x,y,h,j=>by
  simp only [get,aC.g,List.mem_cons,List.not_mem_nil,or_false] at h;rcases h with rfl | rfl | rfl | rfl | rfl<;>simp
 | 10,x,y,h,j=>by
  simp only [get,aI.g,List.mem_cons,List.not_mem_nil,or_false] at h;rcases h with rfl | rfl | rfl | rfl | rfl | rfl | rfl<;>simp
 | 11,x,y,h,j=>by
  simp only [get,Gg.g,List.mem_cons,List.not_mem_nil,or_false] at h;rcases h with rfl | rfl<;>simp
 | 12,x,y,h,j=>by
  simp only [get,cl.g,List.mem_cons,List.not_mem_nil,or_false] at h;rcases h with rfl | rfl<;>simp
 | 13,x,y,h,j=>by
  simp only [get,eD.g,List.mem_cons,List.not_mem_nil,or_false] at h;rcases h with rfl | rfl<;>simp
 | 14,x,y,h,j=>by
  simp only [get,bH.g,List.mem_cons,List.not_mem_nil,or_false] at h;rcases h with rfl | rfl | rfl | rfl | rfl | rfl | rfl | rfl | rfl | rfl | rfl<;>simp
 | 15,x,y,h,j=>by
  simp only [get,cx.g,List.mem_cons,List.not_mem_nil,or_false] at h;rcases h with rfl | rfl<;>simp
 | 16,x,y,h,j=>by
  simp only [get,cU.g,List.mem_cons,List.not_mem_nil,or_false] at h;rcases h with rfl | rfl | rfl<;>simp
 | _+17,_,_,h,_=>by cases h
end Go.Proofs.YtjkbbdldmdajkaaGreatDoor.c5
