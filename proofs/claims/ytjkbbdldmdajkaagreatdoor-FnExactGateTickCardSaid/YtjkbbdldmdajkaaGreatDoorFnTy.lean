/- The data of the functions, and their cells. No condition. -/
import Derived.Test.YtjkbbdldmdajkaaGreatDoorVG
set_option linter.unusedSimpArgs false
set_option linter.unusedVariables false
namespace Go.Proofs.YtjkbbdldmdajkaaGreatDoor.c_
open Go Go.RowKit
inductive Ty where
 | int (k:IntKind)
 | str
 | bool
 | sl (t:Ty)
 | st (i:Nat)
 deriving DecidableEq
structure aC where
 Name:List UInt8
 Kind:Int
 bS:Int
 bT:Int
 Words:List (List UInt8)
 To:List UInt8
 cG:Int
 c6:Bool
 ct:Bool
 Default:List UInt8
 bE:List UInt8
 deriving DecidableEq
instance:Inhabited aC:=⟨⟨([]:List UInt8),(0:Int),(0:Int),(0:Int),([]:List (List UInt8)),([]:List UInt8),(0:Int),false,false,([]:List UInt8),([]:List UInt8)⟩⟩
structure aD where
 Kind:List UInt8
 aV:List aC
 deriving DecidableEq
instance:Inhabited aD:=⟨⟨([]:List UInt8),([]:List aC)⟩⟩
structure aH where
 Kind:List UInt8
 Field:List UInt8
 dk:List UInt8
 Is:List UInt8
 tp:List UInt8
 cS:List UInt8
 deriving DecidableEq
instance:Inhabited aH:=⟨⟨([]:List UInt8),([]:List UInt8),([]:List UInt8),([]:List UInt8),([]:List UInt8),([]:List UInt8)⟩⟩
structure aJ where
 Name:List UInt8
 ia:List UInt8
 deriving DecidableEq
instance:Inhabited aJ:=⟨⟨([]:List UInt8),([]:List UInt8)⟩⟩
structure aL where
 cg:List aD
 iO:List aH
 dY:List aJ
 deriving DecidableEq
instance:Inhabited aL:=⟨⟨([]:List aD),([]:List aH),([]:List aJ)⟩⟩
structure aA where
 Kind:List UInt8
 Name:List UInt8
 aX:List UInt8
 aR:List (List UInt8)
 Ending:Bool
 b7:List (List UInt8)
 Version:Int
 deriving DecidableEq
instance:Inhabited aA:=⟨⟨([]:List UInt8),([]:List UInt8),([]:List UInt8),([]:List (List UInt8)),false,([]:List (List UInt8)),(0:Int)⟩⟩
structure bG where
 b_:List Int
 Kind:List UInt8
 aX:List UInt8
 cU:List UInt8
 deriving DecidableEq
instance:Inhabited bG:=⟨⟨([]:List Int),([]:List UInt8),([]:List UInt8),([]:List UInt8)⟩⟩
structure aF where
 Number:Int
 To:List UInt8
 By:List UInt8
 cJ:bG
 deriving DecidableEq
instance:Inhabited aF:=⟨⟨(0:Int),([]:List UInt8),([]:List UInt8),(default:bG)⟩⟩
structure aB where
 aX:List UInt8
 aN:List UInt8
 bT:Int
 gG:Int
 deriving DecidableEq
instance:Inhabited aB:=⟨⟨([]:List UInt8),([]:List UInt8),(0:Int),(0:Int)⟩⟩
structure aE where
 fM:List UInt8
 aX:List UInt8
 aN:List UInt8
 cF:Int
 dX:Int
 deriving DecidableEq
instance:Inhabited aE:=⟨⟨([]:List UInt8),([]:List UInt8),([]:List UInt8),(0:Int),(0:Int)⟩⟩
structure aG where
 vo:Int
 dR:Int
 dP:Int
 aO:List aA
 bI:List aF
 aK:List aB
 aW:List aE
 deriving DecidableEq
instance:Inhabited aG:=⟨⟨(0:Int),(0:Int),(0:Int),([]:List aA),([]:List aF),([]:List aB),([]:List aE)⟩⟩
structure GW where
 kind:List UInt8
 name:List UInt8
 deriving DecidableEq
instance:Inhabited GW:=⟨⟨([]:List UInt8),([]:List UInt8)⟩⟩
structure cq where
 dO:List UInt8
 resource:List UInt8
 deriving DecidableEq
instance:Inhabited cq:=⟨⟨([]:List UInt8),([]:List UInt8)⟩⟩
structure eV where
 code:Int
 place:Int
 deriving DecidableEq
instance:Inhabited eV:=⟨⟨(0:Int),(0:Int)⟩⟩
structure bJ where
 aC:aC
 deriving DecidableEq
instance:Inhabited bJ:=⟨⟨(default:aC)⟩⟩
structure cy where
 Key:List UInt8
 Mv:Int
 deriving DecidableEq
instance:Inhabited cy:=⟨⟨([]:List UInt8),(0:Int)⟩⟩
structure c5 where
 Key:cq
 Mv:Int
 deriving DecidableEq
instance:Inhabited c5:=⟨⟨(default:cq),(0:Int)⟩⟩
def C:Nat→Type
 | 0=>aC
 | 1=>aD
 | 2=>aH
 | 3=>aJ
 | 4=>aL
 | 5=>aA
 | 6=>bG
 | 7=>aF
 | 8=>aB
 | 9=>aE
 | 10=>aG
 | 11=>GW
 | 12=>cq
 | 13=>eV
 | 14=>bJ
 | 15=>cy
 | 16=>c5
 | _=>Unit
def inh:(i:Nat)→C i
 | 0=>(default:aC)
 | 1=>(default:aD)
 | 2=>(default:aH)
 | 3=>(default:aJ)
 | 4=>(default:aL)
 | 5=>(default:aA)
 | 6=>(default:bG)
 | 7=>(default:aF)
 | 8=>(default:aB)
 | 9=>(default:aE)
 | 10=>(default:aG)
 | 11=>(default:GW)
 | 12=>(default:cq)
 | 13=>(default:eV)
 | 14=>(default:bJ)
 | 15=>(default:cy)
 | 16=>(default:c5)
 | _+17=>()
def Ty.dn:Ty→Type
 | .int _=>Int
 | .str=>List UInt8
 | .bool=>Bool
 | .sl t=>List t.dn
 | .st i=>C i
def Ty.df:(t:Ty)→t.dn
 | .int _=>(0:Int)
 | .str=>([]:List UInt8)
 | .bool=>false
 | .sl _=>([]:List _)
 | .st i=>inh i
structure cN where
 t:Ty
 x:t.dn
def zj:List Ty→Type
 | []=>Unit
 | t::ts=>t.dn×zj ts
def fq:(ts:List Ty)→zj ts→List cN
 | [],_=>[]
 | t::ts,x=>⟨t,x.1⟩::fq ts x.2
def o8:(ts:List Ty)→List cN→Option (zj ts)
 | [],[]=>some ()
 | t::ts,⟨u,x⟩::l=>if h:u=t then (match o8 ts l with
  | some y=>some (h▸x,y)
  | none=>none) else none
 | _,_=>none
theorem ml:∀ {ts:List Ty} {l:List cN} {x:zj ts},o8 ts l=some x→fq ts x=l
 | [],[],x,_=>rfl
 | [],_::_,x,h=>by cases h
 | _::_,[],x,h=>by cases h
 | t::ts,⟨u,y⟩::l,x,h=>by
  simp only [o8] at h;split at h
  ·rename_i e;subst e;split at h
   ·rename_i z hz;cases h;simp only [fq,ml hz]
   ·cases h
  ·cases h
def L8:List Ty→Type→Type
 | [],R=>R
 | t::ts,R=>t.dn→L8 ts R
def yJ {R:Type}:(ts:List Ty)→L8 ts R→zj ts→R
 | [],f,_=>f
 | _::ts,f,x=>yJ ts (f x.1) x.2
def Xo {R:Type}:(ts:List Ty)→(zj ts→R)→L8 ts R
 | [],f=>f ()
 | _::ts,f=>fun x=>Xo ts fun y=>f (x,y)
theorem xI {R:Type}:∀ (ts:List Ty) (f:zj ts→R) (x:zj ts),yJ ts (Xo ts f) x=f x
 | [],f,x=>rfl
 | _::ts,f,(x,y)=>xI ts (fun y=>f (x,y)) y
def DO {α:Type} (n:Nat) (d:α) (c:α→List AV) (xs:List α):AV:=.fs n xs.length fun i j=>(c (xs.getD i d)).getD j .top
def aC.c (x:aC):List AV:=[.str x.Name,.int .i64 x.Kind,.int .i64 x.bS,.int .i64 x.bT,DO 1 ([]:List UInt8) (fun y:List UInt8=>[.str y]) x.Words,.str x.To,.int .i64 x.cG,.bool x.c6,.bool x.ct,.str x.Default,.str x.bE]
def aC.g (x:aC):List cN:=[⟨.str,x.Name⟩,⟨.int .i64,x.Kind⟩,⟨.int .i64,x.bS⟩,⟨.int .i64,x.bT⟩,⟨.sl .str,x.Words⟩,⟨.str,x.To⟩,⟨.int .i64,x.cG⟩,⟨.bool,x.c6⟩,⟨.bool,x.ct⟩,⟨.str,x.Default⟩,⟨.str,x.bE⟩]
def aD.c (x:aD):List AV:=[.str x.Kind,DO 11 (default:aC) aC.c x.aV]
def aD.g (x:aD):List cN:=[⟨.str,x.Kind⟩,⟨.sl (.st 0),x.aV⟩]
def aH.c (x:aH):List AV:=[.str x.Kind,.str x.Field,.str x.dk,.str x.Is,.str x.tp,.str x.cS]
def aH.g (x:aH):List cN:=[⟨.str,x.Kind⟩,⟨.str,x.Field⟩,⟨.str,x.dk⟩,⟨.str,x.Is⟩,⟨.str,x.tp⟩,⟨.str,x.cS⟩]
def aJ.c (x:aJ):List AV:=[.str x.Name,.str x.ia]
def aJ.g (x:aJ):List cN:=[⟨.str,x.Name⟩,⟨.str,x.ia⟩]
def aL.c (x:aL):List AV:=[DO 2 (default:aD) aD.c x.cg,DO 6 (default:aH) aH.c x.iO,DO 2 (default:aJ) aJ.c x.dY]
def aL.g (x:aL):List cN:=[⟨.sl (.st 1),x.cg⟩,⟨.sl (.st 2),x.iO⟩,⟨.sl (.st 3),x.dY⟩]
def aA.c (x:aA):List AV:=[.str x.Kind,.str x.Name,.str x.aX,DO 1 ([]:List UInt8) (fun y:List UInt8=>[.str y]) x.aR,.bool x.Ending,DO 1 ([]:List UInt8) (fun y:List UInt8=>[.str y]) x.b7,.int .i64 x.Version]
def aA.g (x:aA):List cN:=[⟨.str,x.Kind⟩,⟨.str,x.Name⟩,⟨.str,x.aX⟩,⟨.sl .str,x.aR⟩,⟨.bool,x.Ending⟩,⟨.sl .str,x.b7⟩,⟨.int .i64,x.Version⟩]
def bG.c (x:bG):List AV:=[DO 1 (0:Int) (fun y:Int=>[.int .i64 y]) x.b_,.str x.Kind,.str x.aX,.str x.cU]
def bG.g (x:bG):List cN:=[⟨.sl (.int .i64),x.b_⟩,⟨.str,x.Kind⟩,⟨.str,x.aX⟩,⟨.str,x.cU⟩]
def aF.c (x:aF):List AV:=[.int .i64 x.Number,.str x.To,.str x.By,DO 1 (0:Int) (fun y:Int=>[.int .i64 y]) x.cJ.b_,.str x.cJ.Kind,.str x.cJ.aX,.str x.cJ.cU]
def aF.g (x:aF):List cN:=[⟨.int .i64,x.Number⟩,⟨.str,x.To⟩,⟨.str,x.By⟩,⟨.sl (.int .i64),x.cJ.b_⟩,⟨.str,x.cJ.Kind⟩,⟨.str,x.cJ.aX⟩,⟨.str,x.cJ.cU⟩]
def aB.c (x:aB):List AV:=[.str x.aX,.str x.aN,.int .i64 x.bT,.int .i64 x.gG]
def aB.g (x:aB):List cN:=[⟨.str,x.aX⟩,⟨.str,x.aN⟩,⟨.int .i64,x.bT⟩,⟨.int .i64,x.gG⟩]
def aE.c (x:aE):List AV:=[.str x.fM,.str x.aX,.str x.aN,.int .i64 x.cF,.int .i64 x.dX]
def aE.g (x:aE):List cN:=[⟨.str,x.fM⟩,⟨.str,x.aX⟩,⟨.str,x.aN⟩,⟨.int .i64,x.cF⟩,⟨.int .i64,x.dX⟩]
def aG.c (x:aG):List AV:=[.int .i64 x.vo,.int .i64 x.dR,.int .i64 x.dP,DO 7 (default:aA) aA.c x.aO,DO 7 (default:aF) aF.c x.bI,DO 4 (default:aB) aB.c x.aK,DO 5 (default:aE) aE.c x.aW]
def aG.g (x:aG):List cN:=[⟨.int .i64,x.vo⟩,⟨.int .i64,x.dR⟩,⟨.int .i64,x.dP⟩,⟨.sl (.st 5),x.aO⟩,⟨.sl (.st 7),x.bI⟩,⟨.sl (.st 8),x.aK⟩,⟨.sl (.st 9),x.aW⟩]
def GW.c (x:GW):List AV:=[.str x.kind,.str x.name]
def GW.g (x:GW):List cN:=[⟨.str,x.kind⟩,⟨.str,x.name⟩]
def cq.c (x:cq):List AV:=[.str x.dO,.str x.resource]
def cq.g (x:cq):List cN:=[⟨.str,x.dO⟩,⟨.str,x.resource⟩]
def eV.c (x:eV):List AV:=[.int .i64 x.code,.int .i64 x.place]
def eV.g (x:eV):List cN:=[⟨.int .i64,x.code⟩,⟨.int .i64,x.place⟩]
def bJ.c (x:bJ):List AV:=[.str x.aC.Name,.int .i64 x.aC.Kind,.int .i64 x.aC.bS,.int .i64 x.aC.bT,DO 1 ([]:List UInt8) (fun y:List UInt8=>[.str y]) x.aC.Words,.str x.aC.To,.int .i64 x.aC.cG,.bool x.aC.c6,.bool x.aC.ct,.str x.aC.Default,.str x.aC.bE]
def bJ.g (x:bJ):List cN:=[⟨.str,x.aC.Name⟩,⟨.int .i64,x.aC.Kind⟩,⟨.int .i64,x.aC.bS⟩,⟨.int .i64,x.aC.bT⟩,⟨.sl .str,x.aC.Words⟩,⟨.str,x.aC.To⟩,⟨.int .i64,x.aC.cG⟩,⟨.bool,x.aC.c6⟩,⟨.bool,x.aC.ct⟩,⟨.str,x.aC.Default⟩,⟨.str,x.aC.bE⟩]
def cy.c (x:cy):List AV:=[.str x.Key,.int .i64 x.Mv]
def cy.g (x:cy):List cN:=[⟨.str,x.Key⟩,⟨.int .i64,x.Mv⟩]
def c5.c (x:c5):List AV:=[.str x.Key.dO,.str x.Key.resource,.int .i64 x.Mv]
def c5.g (x:c5):List cN:=[⟨.str,x.Key.dO⟩,⟨.str,x.Key.resource⟩,⟨.int .i64,x.Mv⟩]
def csz:Nat→Nat
 | 0=>11
 | 1=>2
 | 2=>6
 | 3=>2
 | 4=>3
 | 5=>7
 | 6=>4
 | 7=>7
 | 8=>4
 | 9=>5
 | 10=>7
 | 11=>2
 | 12=>2
 | 13=>2
 | 14=>11
 | 15=>2
 | 16=>3
 | _=>0
def cc:(i:Nat)→C i→List AV
 | 0,x=>aC.c x
 | 1,x=>aD.c x
 | 2,x=>aH.c x
 | 3,x=>aJ.c x
 | 4,x=>aL.c x
 | 5,x=>aA.c x
 | 6,x=>bG.c x
 | 7,x=>aF.c x
 | 8,x=>aB.c x
 | 9,x=>aE.c x
 | 10,x=>aG.c x
 | 11,x=>GW.c x
 | 12,x=>cq.c x
 | 13,x=>eV.c x
 | 14,x=>bJ.c x
 | 15,x=>cy.c x
 | 16,x=>c5.c x
 | _+17,_=>[]
def get:(i:Nat)→C i→List cN
 | 0,x=>aC.g x
 | 1,x=>aD.g x
 | 2,x=>aH.g x
 | 3,x=>aJ.g x
 | 4,x=>aL.g x
 | 5,x=>aA.g x
 | 6,x=>bG.g x
 | 7,x=>aF.g x
 | 8,x=>aB.g x
 | 9,x=>aE.g x
 | 10,x=>aG.g x
 | 11,x=>GW.g x
 | 12,x=>cq.g x
 | 13,x=>eV.g x
 | 14,x=>bJ.g x
 | 15,x=>cy.g x
 | 16,x=>c5.g x
 | _+17,_=>[]
def JG:Nat→Nat
 | 0=>0
 | 1=>0
 | 2=>0
 | 3=>0
 | 4=>0
 | 5=>0
 | 6=>0
 | 7=>0
 | 8=>0
 | 9=>0
 | 10=>0
 | 11=>0
 | 12=>0
 | 13=>0
 | 14=>0
 | 15=>0
 | 16=>2
 | _=>0
def AE:Nat→List Ty
 | 0=>[.str,.int .i64,.int .i64,.int .i64,.sl .str,.str,.int .i64,.bool,.bool,.str,.str]
 | 1=>[.str,.sl (.st 0)]
 | 2=>[.str,.str,.str,.str,.str,.str]
 | 3=>[.str,.str]
 | 4=>[.sl (.st 1),.sl (.st 2),.sl (.st 3)]
 | 5=>[.str,.str,.str,.sl .str,.bool,.sl .str,.int .i64]
 | 6=>[.sl (.int .i64),.str,.str,.str]
 | 7=>[.int .i64,.str,.str,.sl (.int .i64),.str,.str,.str]
 | 8=>[.str,.str,.int .i64,.int .i64]
 | 9=>[.str,.str,.str,.int .i64,.int .i64]
 | 10=>[.int .i64,.int .i64,.int .i64,.sl (.st 5),.sl (.st 7),.sl (.st 8),.sl (.st 9)]
 | 11=>[.str,.str]
 | 12=>[.str,.str]
 | 13=>[.int .i64,.int .i64]
 | 14=>[.str,.int .i64,.int .i64,.int .i64,.sl .str,.str,.int .i64,.bool,.bool,.str,.str]
 | 15=>[.str,.int .i64]
 | 16=>[.str,.str,.int .i64]
 | _=>[]
def con:(i:Nat)→L8 (AE i) (C i)
 | 0=>(fun (a0:List UInt8)=>fun (a1:Int)=>fun (a2:Int)=>fun (a3:Int)=>fun (a4:List (List UInt8))=>fun (a5:List UInt8)=>fun (a6:Int)=>fun (a7:Bool)=>fun (a8:Bool)=>fun (a9:List UInt8)=>fun (a10:List UInt8)=>(⟨a0,a1,a2,a3,a4,a5,a6,a7,a8,a9,a10⟩:aC))
 | 1=>(fun (a0:List UInt8)=>fun (a1:List aC)=>(⟨a0,a1⟩:aD))
 | 2=>(fun (a0:List UInt8)=>fun (a1:List UInt8)=>fun (a2:List UInt8)=>fun (a3:List UInt8)=>fun (a4:List UInt8)=>fun (a5:List UInt8)=>(⟨a0,a1,a2,a3,a4,a5⟩:aH))
 | 3=>(fun (a0:List UInt8)=>fun (a1:List UInt8)=>(⟨a0,a1⟩:aJ))
 | 4=>(fun (a0:List aD)=>fun (a1:List aH)=>fun (a2:List aJ)=>(⟨a0,a1,a2⟩:aL))
 | 5=>(fun (a0:List UInt8)=>fun (a1:List UInt8)=>fun (a2:List UInt8)=>fun (a3:List (List UInt8))=>fun (a4:Bool)=>fun (a5:List (List UInt8))=>fun (a6:Int)=>(⟨a0,a1,a2,a3,a4,a5,a6⟩:aA))
 | 6=>(fun (a0:List Int)=>fun (a1:List UInt8)=>fun (a2:List UInt8)=>fun (a3:List UInt8)=>(⟨a0,a1,a2,a3⟩:bG))
 | 7=>(fun (a0:Int)=>fun (a1:List UInt8)=>fun (a2:List UInt8)=>fun (a3:List Int)=>fun (a4:List UInt8)=>fun (a5:List UInt8)=>fun (a6:List UInt8)=>(⟨a0,a1,a2,(⟨a3,a4,a5,a6⟩:bG)⟩:aF))
 | 8=>(fun (a0:List UInt8)=>fun (a1:List UInt8)=>fun (a2:Int)=>fun (a3:Int)=>(⟨a0,a1,a2,a3⟩:aB))
 | 9=>(fun (a0:List UInt8)=>fun (a1:List UInt8)=>fun (a2:List UInt8)=>fun (a3:Int)=>fun (a4:Int)=>(⟨a0,a1,a2,a3,a4⟩:aE))
 | 10=>(fun (a0:Int)=>fun (a1:Int)=>fun (a2:Int)=>fun (a3:List aA)=>fun (a4:List aF)=>fun (a5:List aB)=>fun (a6:List aE)=>(⟨a0,a1,a2,a3,a4,a5,a6⟩:aG))
 | 11=>(fun (a0:List UInt8)=>fun (a1:List UInt8)=>(⟨a0,a1⟩:GW))
 | 12=>(fun (a0:List UInt8)=>fun (a1:List UInt8)=>(⟨a0,a1⟩:cq))
 | 13=>(fun (a0:Int)=>fun (a1:Int)=>(⟨a0,a1⟩:eV))
 | 14=>(fun (a0:List UInt8)=>fun (a1:Int)=>fun (a2:Int)=>fun (a3:Int)=>fun (a4:List (List UInt8))=>fun (a5:List UInt8)=>fun (a6:Int)=>fun (a7:Bool)=>fun (a8:Bool)=>fun (a9:List UInt8)=>fun (a10:List UInt8)=>(⟨(⟨a0,a1,a2,a3,a4,a5,a6,a7,a8,a9,a10⟩:aC)⟩:bJ))
 | 15=>(fun (a0:List UInt8)=>fun (a1:Int)=>(⟨a0,a1⟩:cy))
 | 16=>(fun (a0:List UInt8)=>fun (a1:List UInt8)=>fun (a2:Int)=>(⟨(⟨a0,a1⟩:cq),a2⟩:c5))
 | _+17=>()
def fy:Ty→Nat
 | .st i=>csz i
 | _=>1
def sW:(t:Ty)→t.dn→List AV
 | .int k,x=>[.int k x]
 | .str,x=>[.str x]
 | .bool,x=>[.bool x]
 | .sl t,x=>[DO (fy t) t.df (sW t) x]
 | .st i,x=>cc i x
def cR:cN→AV
 | ⟨.int k,x⟩=>.int k x
 | ⟨.str,x⟩=>.str x
 | ⟨.bool,x⟩=>.bool x
 | ⟨.sl t,x⟩=>DO (fy t) t.df (sW t) x
 | ⟨.st i,x⟩=>.agg (cc i x)
theorem J2:∀ (i:Nat) (x:C i),(get i x).map cR=cc i x
 | 0,_=>rfl
 | 1,_=>rfl
 | 2,_=>rfl
 | 3,_=>rfl
 | 4,_=>rfl
 | 5,_=>rfl
 | 6,_=>rfl
 | 7,_=>rfl
 | 8,_=>rfl
 | 9,_=>rfl
 | 10,_=>rfl
 | 11,_=>rfl
 | 12,_=>rfl
 | 13,_=>rfl
 | 14,_=>rfl
 | 15,_=>rfl
 | 16,_=>rfl
 | _+17,_=>rfl
theorem abr:∀ (i:Nat) (x:zj (AE i)),get i (yJ (AE i) (con i) x)=fq (AE i) x
 | 0,_=>rfl
 | 1,_=>rfl
 | 2,_=>rfl
 | 3,_=>rfl
 | 4,_=>rfl
 | 5,_=>rfl
 | 6,_=>rfl
 | 7,_=>rfl
 | 8,_=>rfl
 | 9,_=>rfl
 | 10,_=>rfl
 | 11,_=>rfl
 | 12,_=>rfl
 | 13,_=>rfl
 | 14,_=>rfl
 | 15,_=>rfl
 | 16,_=>rfl
 | _+17,_=>rfl
theorem q8:∀ (i:Nat) (x:C i),(get i x).map (·.t)=AE i
 | 0,_=>rfl
 | 1,_=>rfl
 | 2,_=>rfl
 | 3,_=>rfl
 | 4,_=>rfl
 | 5,_=>rfl
 | 6,_=>rfl
 | 7,_=>rfl
 | 8,_=>rfl
 | 9,_=>rfl
 | 10,_=>rfl
 | 11,_=>rfl
 | 12,_=>rfl
 | 13,_=>rfl
 | 14,_=>rfl
 | 15,_=>rfl
 | 16,_=>rfl
 | _+17,_=>rfl
theorem abt:∀ (i:Nat) (x:C i),(get i x).length=csz i
 | 0,_=>rfl
 | 1,_=>rfl
 | 2,_=>rfl
 | 3,_=>rfl
 | 4,_=>rfl
 | 5,_=>rfl
 | 6,_=>rfl
 | 7,_=>rfl
 | 8,_=>rfl
 | 9,_=>rfl
 | 10,_=>rfl
 | 11,_=>rfl
 | 12,_=>rfl
 | 13,_=>rfl
 | 14,_=>rfl
 | 15,_=>rfl
 | 16,_=>rfl
 | _+17,_=>rfl
theorem Zb:∀ (i:Nat) (x:C i) (y:cN),y∈get i x→∀ j,y.t≠.st j
 | 0,x,y,h,j=>by
  simp only [get,aC.g,List.mem_cons,List.not_mem_nil,or_false] at h;rcases h with rfl | rfl | rfl | rfl | rfl | rfl | rfl | rfl | rfl | rfl | rfl<;>simp
 | 1,x,y,h,j=>by
  simp only [get,aD.g,List.mem_cons,List.not_mem_nil,or_false] at h;rcases h with rfl | rfl<;>simp
 | 2,x,y,h,j=>by
  simp only [get,aH.g,List.mem_cons,List.not_mem_nil,or_false] at h;rcases h with rfl | rfl | rfl | rfl | rfl | rfl<;>simp
 | 3,x,y,h,j=>by
  simp only [get,aJ.g,List.mem_cons,List.not_mem_nil,or_false] at h;rcases h with rfl | rfl<;>simp
 | 4,x,y,h,j=>by
  simp only [get,aL.g,List.mem_cons,List.not_mem_nil,or_false] at h;rcases h with rfl | rfl | rfl<;>simp
 | 5,x,y,h,j=>by
  simp only [get,aA.g,List.mem_cons,List.not_mem_nil,or_false] at h;rcases h with rfl | rfl | rfl | rfl | rfl | rfl | rfl<;>simp
 | 6,x,y,h,j=>by
  simp only [get,bG.g,List.mem_cons,List.not_mem_nil,or_false] at h;rcases h with rfl | rfl | rfl | rfl<;>simp
 | 7,x,y,h,j=>by
  simp only [get,aF.g,List.mem_cons,List.not_mem_nil,or_false] at h;rcases h with rfl | rfl | rfl | rfl | rfl | rfl | rfl<;>simp
 | 8,x,y,h,j=>by
  simp only [get,aB.g,List.mem_cons,List.not_mem_nil,or_false] at h;rcases h with rfl | rfl | rfl | rfl<;>simp
 | 9,x,y,h,j=>by
  simp only [get,aE.g,List.mem_cons,List.not_mem_nil,or_false] at h;rcases h with rfl | rfl | rfl | rfl | rfl<;>simp
 | 10,x,y,h,j=>by
  simp only [get,aG.g,List.mem_cons,List.not_mem_nil,or_false] at h;rcases h with rfl | rfl | rfl | rfl | rfl | rfl | rfl<;>simp
 | 11,x,y,h,j=>by
  simp only [get,GW.g,List.mem_cons,List.not_mem_nil,or_false] at h;rcases h with rfl | rfl<;>simp
 | 12,x,y,h,j=>by
  simp only [get,cq.g,List.mem_cons,List.not_mem_nil,or_false] at h;rcases h with rfl | rfl<;>simp
 | 13,x,y,h,j=>by
  simp only [get,eV.g,List.mem_cons,List.not_mem_nil,or_false] at h;rcases h with rfl | rfl<;>simp
 | 14,x,y,h,j=>by
  simp only [get,bJ.g,List.mem_cons,List.not_mem_nil,or_false] at h;rcases h with rfl | rfl | rfl | rfl | rfl | rfl | rfl | rfl | rfl | rfl | rfl<;>simp
 | 15,x,y,h,j=>by
  simp only [get,cy.g,List.mem_cons,List.not_mem_nil,or_false] at h;rcases h with rfl | rfl<;>simp
 | 16,x,y,h,j=>by
  simp only [get,c5.g,List.mem_cons,List.not_mem_nil,or_false] at h;rcases h with rfl | rfl | rfl<;>simp
 | _+17,_,_,h,_=>by cases h
end Go.Proofs.YtjkbbdldmdajkaaGreatDoor.c_
