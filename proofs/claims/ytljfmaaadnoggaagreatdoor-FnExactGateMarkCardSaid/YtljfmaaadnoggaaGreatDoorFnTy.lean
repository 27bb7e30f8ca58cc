/- The data of the functions, and their cells. No condition. -/
import Derived.Test.YtljfmaaadnoggaaGreatDoorVG
set_option linter.unusedSimpArgs false
set_option linter.unusedVariables false
namespace Go.Proofs.YtljfmaaadnoggaaGreatDoor.cU
open Go Go.RowKit
inductive Ty where
 | int (k:IntKind)
 | str
 | bool
 | sl (t:Ty)
 | st (i:Nat)
 deriving DecidableEq
structure aB where
 Name:List UInt8
 Kind:Int
 bP:Int
 bW:Int
 Words:List (List UInt8)
 To:List UInt8
 cu:Int
 cN:Bool
 cg:Bool
 Default:List UInt8
 aY:List UInt8
 deriving DecidableEq
instance:Inhabited aB:=⟨⟨([]:List UInt8),(0:Int),(0:Int),(0:Int),([]:List (List UInt8)),([]:List UInt8),(0:Int),false,false,([]:List UInt8),([]:List UInt8)⟩⟩
structure aC where
 Kind:List UInt8
 aT:List aB
 deriving DecidableEq
instance:Inhabited aC:=⟨⟨([]:List UInt8),([]:List aB)⟩⟩
structure aD where
 Kind:List UInt8
 Field:List UInt8
 cT:List UInt8
 Is:List UInt8
 rN:List UInt8
 cA:List UInt8
 deriving DecidableEq
instance:Inhabited aD:=⟨⟨([]:List UInt8),([]:List UInt8),([]:List UInt8),([]:List UInt8),([]:List UInt8),([]:List UInt8)⟩⟩
structure aH where
 Name:List UInt8
 gC:List UInt8
 deriving DecidableEq
instance:Inhabited aH:=⟨⟨([]:List UInt8),([]:List UInt8)⟩⟩
structure aL where
 bX:List aC
 gH:List aD
 dS:List aH
 deriving DecidableEq
instance:Inhabited aL:=⟨⟨([]:List aC),([]:List aD),([]:List aH)⟩⟩
structure aA where
 Kind:List UInt8
 Name:List UInt8
 aX:List UInt8
 aN:List (List UInt8)
 Ending:Bool
 b6:List (List UInt8)
 Version:Int
 deriving DecidableEq
instance:Inhabited aA:=⟨⟨([]:List UInt8),([]:List UInt8),([]:List UInt8),([]:List (List UInt8)),false,([]:List (List UInt8)),(0:Int)⟩⟩
structure a_ where
 cw:List Int
 Kind:List UInt8
 aX:List UInt8
 cP:List UInt8
 deriving DecidableEq
instance:Inhabited a_:=⟨⟨([]:List Int),([]:List UInt8),([]:List UInt8),([]:List UInt8)⟩⟩
structure aI where
 Number:Int
 To:List UInt8
 By:List UInt8
 cL:a_
 deriving DecidableEq
instance:Inhabited aI:=⟨⟨(0:Int),([]:List UInt8),([]:List UInt8),(default:a_)⟩⟩
structure aF where
 aX:List UInt8
 aV:List UInt8
 bW:Int
 ly:Int
 deriving DecidableEq
instance:Inhabited aF:=⟨⟨([]:List UInt8),([]:List UInt8),(0:Int),(0:Int)⟩⟩
structure aJ where
 hC:List UInt8
 aX:List UInt8
 aV:List UInt8
 cI:Int
 fC:Int
 deriving DecidableEq
instance:Inhabited aJ:=⟨⟨([]:List UInt8),([]:List UInt8),([]:List UInt8),(0:Int),(0:Int)⟩⟩
structure aG where
 Ei:Int
 nW:Int
 jX:Int
 aK:List aA
 bV:List aI
 aS:List aF
 bG:List aJ
 deriving DecidableEq
instance:Inhabited aG:=⟨⟨(0:Int),(0:Int),(0:Int),([]:List aA),([]:List aI),([]:List aF),([]:List aJ)⟩⟩
structure ck where
 dw:List UInt8
 resource:List UInt8
 deriving DecidableEq
instance:Inhabited ck:=⟨⟨([]:List UInt8),([]:List UInt8)⟩⟩
structure cV where
 code:Int
 place:Int
 deriving DecidableEq
instance:Inhabited cV:=⟨⟨(0:Int),(0:Int)⟩⟩
structure bD where
 aB:aB
 deriving DecidableEq
instance:Inhabited bD:=⟨⟨(default:aB)⟩⟩
structure Gi where
 kind:List UInt8
 name:List UInt8
 deriving DecidableEq
instance:Inhabited Gi:=⟨⟨([]:List UInt8),([]:List UInt8)⟩⟩
structure cb where
 Key:List UInt8
 Mb:Int
 deriving DecidableEq
instance:Inhabited cb:=⟨⟨([]:List UInt8),(0:Int)⟩⟩
structure cG where
 Key:ck
 Mb:Int
 deriving DecidableEq
instance:Inhabited cG:=⟨⟨(default:ck),(0:Int)⟩⟩
def C:Nat→Type
 | 0=>aB
 | 1=>aC
 | 2=>aD
 | 3=>aH
 | 4=>aL
 | 5=>aA
 | 6=>a_
 | 7=>aI
 | 8=>aF
 | 9=>aJ
 | 10=>aG
 | 11=>ck
 | 12=>cV
 | 13=>bD
 | 14=>Gi
 | 15=>cb
 | 16=>cG
 | _=>Unit
def inh:(i:Nat)→C i
 | 0=>(default:aB)
 | 1=>(default:aC)
 | 2=>(default:aD)
 | 3=>(default:aH)
 | 4=>(default:aL)
 | 5=>(default:aA)
 | 6=>(default:a_)
 | 7=>(default:aI)
 | 8=>(default:aF)
 | 9=>(default:aJ)
 | 10=>(default:aG)
 | 11=>(default:ck)
 | 12=>(default:cV)
 | 13=>(default:bD)
 | 14=>(default:Gi)
 | 15=>(default:cb)
 | 16=>(default:cG)
 | _+17=>()
def Ty.dn:Ty→Type
 | .int _=>Int
 | .str=>List UInt8
 | .bool=>Bool
 | .sl t=>List t.dn
 | .st i=>C i
def Ty.df:(t:Ty)→t.dn
 | .int _=>(0:Int)
 | .str=>([]:List UInt8)
 | .bool=>false
 | .sl _=>([]:List _)
 | .st i=>inh i
structure cE where
 t:Ty
 x:t.dn
def x4:List Ty→Type
 | []=>Unit
 | t::ts=>t.dn×x4 ts
def eG:(ts:List Ty)→x4 ts→List cE
 | [],_=>[]
 | t::ts,x=>⟨t,x.1⟩::eG ts x.2
def nw:(ts:List Ty)→List cE→Option (x4 ts)
 | [],[]=>some ()
 | t::ts,⟨u,x⟩::l=>if h:u=t then (match nw ts l with
  | some y=>some (h▸x,y)
  | none=>none) else none
 | _,_=>none
theorem kK:∀ {ts:List Ty} {l:List cE} {x:x4 ts},nw ts l=some x→eG ts x=l
 | [],[],x,_=>rfl
 | [],_::_,x,h=>by cases h
 | _::_,[],x,h=>by cases h
 | t::ts,⟨u,y⟩::l,x,h=>by
  simp only [nw] at h
  split at h
  ·rename_i e
   subst e
   split at h
   ·rename_i z hz
    cases h
    simp only [eG,kK hz]
   ·cases h
  ·cases h
def LQ:List Ty→Type→Type
 | [],R=>R
 | t::ts,R=>t.dn→LQ ts R
def xy {R:Type}:(ts:List Ty)→LQ ts R→x4 ts→R
 | [],f,_=>f
 | _::ts,f,x=>xy ts (f x.1) x.2
def WQ {R:Type}:(ts:List Ty)→(x4 ts→R)→LQ ts R
 | [],f=>f ()
 | _::ts,f=>fun x=>WQ ts fun y=>f (x,y)
theorem wj {R:Type}:∀ (ts:List Ty) (f:x4 ts→R) (x:x4 ts),xy ts (WQ ts f) x=f x
 | [],f,x=>rfl
 | _::ts,f,(x,y)=>wj ts (fun y=>f (x,y)) y
def Dp {α:Type} (n:Nat) (d:α) (c:α→List AV) (xs:List α):AV:=.fs n xs.length fun i j=>(c (xs.getD i d)).getD j .top
def aB.c (x:aB):List AV:=[.str x.Name,.int .i64 x.Kind,.int .i64 x.bP,.int .i64 x.bW,Dp 1 ([]:List UInt8) (fun y:List UInt8=>[.str y]) x.Words,.str x.To,.int .i64 x.cu,.bool x.cN,.bool x.cg,.str x.Default,.str x.aY]
def aB.g (x:aB):List cE:=[⟨.str,x.Name⟩,⟨.int .i64,x.Kind⟩,⟨.int .i64,x.bP⟩,⟨.int .i64,x.bW⟩,⟨.sl .str,x.Words⟩,⟨.str,x.To⟩,⟨.int .i64,x.cu⟩,⟨.bool,x.cN⟩,⟨.bool,x.cg⟩,⟨.str,x.Default⟩,⟨.str,x.aY⟩]
def aC.c (x:aC):List AV:=[.str x.Kind,Dp 11 (default:aB) aB.c x.aT]
def aC.g (x:aC):List cE:=[⟨.str,x.Kind⟩,⟨.sl (.st 0),x.aT⟩]
def aD.c (x:aD):List AV:=[.str x.Kind,.str x.Field,.str x.cT,.str x.Is,.str x.rN,.str x.cA]
def aD.g (x:aD):List cE:=[⟨.str,x.Kind⟩,⟨.str,x.Field⟩,⟨.str,x.cT⟩,⟨.str,x.Is⟩,⟨.str,x.rN⟩,⟨.str,x.cA⟩]
def aH.c (x:aH):List AV:=[.str x.Name,.str x.gC]
def aH.g (x:aH):List cE:=[⟨.str,x.Name⟩,⟨.str,x.gC⟩]
def aL.c (x:aL):List AV:=[Dp 2 (default:aC) aC.c x.bX,Dp 6 (default:aD) aD.c x.gH,Dp 2 (default:aH) aH.c x.dS]
def aL.g (x:aL):List cE:=[⟨.sl (.st 1),x.bX⟩,⟨.sl (.st 2),x.gH⟩,⟨.sl (.st 3),x.dS⟩]
def aA.c (x:aA):List AV:=[.str x.Kind,.str x.Name,.str x.aX,Dp 1 ([]:List UInt8) (fun y:List UInt8=>[.str y]) x.aN,.bool x.Ending,Dp 1 ([]:List UInt8) (fun y:List UInt8=>[.str y]) x.b6,.int .i64 x.Version]
def aA.g (x:aA):List cE:=[⟨.str,x.Kind⟩,⟨.str,x.Name⟩,⟨.str,x.aX⟩,⟨.sl .str,x.aN⟩,⟨.bool,x.Ending⟩,⟨.sl .str,x.b6⟩,⟨.int .i64,x.Version⟩]
def a_.c (x:a_):List AV:=[Dp 1 (0:Int) (fun y:Int=>[.int .i64 y]) x.cw,.str x.Kind,.str x.aX,.str x.cP]
def a_.g (x:a_):List cE:=[⟨.sl (.int .i64),x.cw⟩,⟨.str,x.Kind⟩,⟨.str,x.aX⟩,⟨.str,x.cP⟩]
def aI.c (x:aI):List AV:=[.int .i64 x.Number,.str x.To,.str x.By,Dp 1 (0:Int) (fun y:Int=>[.int .i64 y]) x.cL.cw,.str x.cL.Kind,.str x.cL.aX,.str x.cL.cP]
def aI.g (x:aI):List cE:=[⟨.int .i64,x.Number⟩,⟨.str,x.To⟩,⟨.str,x.By⟩,⟨.sl (.int .i64),x.cL.cw⟩,⟨.str,x.cL.Kind⟩,⟨.str,x.cL.aX⟩,⟨.str,x.cL.cP⟩]
def aF.c (x:aF):List AV:=[.str x.aX,.str x.aV,.int .i64 x.bW,.int .i64 x.ly]
def aF.g (x:aF):List cE:=[⟨.str,x.aX⟩,⟨.str,x.aV⟩,⟨.int .i64,x.bW⟩,⟨.int .i64,x.ly⟩]
def aJ.c (x:aJ):List AV:=[.str x.hC,.str x.aX,.str x.aV,.int .i64 x.cI,.int .i64 x.fC]
def aJ.g (x:aJ):List cE:=[⟨.str,x.hC⟩,⟨.str,x.aX⟩,⟨.str,x.aV⟩,⟨.int .i64,x.cI⟩,⟨.int .i64,x.fC⟩]
def aG.c (x:aG):List AV:=[.int .i64 x.Ei,.int .i64 x.nW,.int .i64 x.jX,Dp 7 (default:aA) aA.c x.aK,Dp 7 (default:aI) aI.c x.bV,Dp 4 (default:aF) aF.c x.aS,Dp 5 (default:aJ) aJ.c x.bG]
def aG.g (x:aG):List cE:=[⟨.int .i64,x.Ei⟩,⟨.int .i64,x.nW⟩,⟨.int .i64,x.jX⟩,⟨.sl (.st 5),x.aK⟩,⟨.sl (.st 7),x.bV⟩,⟨.sl (.st 8),x.aS⟩,⟨.sl (.st 9),x.bG⟩]
def ck.c (x:ck):List AV:=[.str x.dw,.str x.resource]
def ck.g (x:ck):List cE:=[⟨.str,x.dw⟩,⟨.str,x.resource⟩]
def cV.c (x:cV):List AV:=[.int .i64 x.code,.int .i64 x.place]
def cV.g (x:cV):List cE:=[⟨.int .i64,x.code⟩,⟨.int .i64,x.place⟩]
def bD.c (x:bD):List AV:=[.str x.aB.Name,.int .i64 x.aB.Kind,.int .i64 x.aB.bP,.int .i64 x.aB.bW,Dp 1 ([]:List UInt8) (fun y:List UInt8=>[.str y]) x.aB.Words,.str x.aB.To,.int .i64 x.aB.cu,.bool x.aB.cN,.bool x.aB.cg,.str x.aB.Default,.str x.aB.aY]
def bD.g (x:bD):List cE:=[⟨.str,x.aB.Name⟩,⟨.int .i64,x.aB.Kind⟩,⟨.int .i64,x.aB.bP⟩,⟨.int .i64,x.aB.bW⟩,⟨.sl .str,x.aB.Words⟩,⟨.str,x.aB.To⟩,⟨.int .i64,x.aB.cu⟩,⟨.bool,x.aB.cN⟩,⟨.bool,x.aB.cg⟩,⟨.str,x.aB.Default⟩,⟨.str,x.aB.aY⟩]
def Gi.c (x:Gi):List AV:=[.str x.kind,.str x.name]
def Gi.g (x:Gi):List cE:=[⟨.str,x.kind⟩,⟨.str,x.name⟩]
def cb.c (x:cb):List AV:=[.str x.Key,.int .i64 x.Mb]
def cb.g (x:cb):List cE:=[⟨.str,x.Key⟩,⟨.int .i64,x.Mb⟩]
def cG.c (x:cG):List AV:=[.str x.Key.dw,.str x.Key.resource,.int .i64 x.Mb]
def cG.g (x:cG):List cE:=[⟨.str,x.Key.dw⟩,⟨.str,x.Key.resource⟩,⟨.int .i64,x.Mb⟩]
def csz:Nat→Nat
 | 0=>11
 | 1=>2
 | 2=>6
 | 3=>2
 | 4=>3
 | 5=>7
 | 6=>4
 | 7=>7
 | 8=>4
 | 9=>5
 | 10=>7
 | 11=>2
 | 12=>2
 | 13=>11
 | 14=>2
 | 15=>2
 | 16=>3
 | _=>0
def cc:(i:Nat)→C i→List AV
 | 0,x=>aB.c x
 | 1,x=>aC.c x
 | 2,x=>aD.c x
 | 3,x=>aH.c x
 | 4,x=>aL.c x
 | 5,x=>aA.c x
 | 6,x=>a_.c x
 | 7,x=>aI.c x
 | 8,x=>aF.c x
 | 9,x=>aJ.c x
 | 10,x=>aG.c x
 | 11,x=>ck.c x
 | 12,x=>cV.c x
 | 13,x=>bD.c x
 | 14,x=>Gi.c x
 | 15,x=>cb.c x
 | 16,x=>cG.c x
 | _+17,_=>[]
def get:(i:Nat)→C i→List cE
 | 0,x=>aB.g x
 | 1,x=>aC.g x
 | 2,x=>aD.g x
 | 3,x=>aH.g x
 | 4,x=>aL.g x
 | 5,x=>aA.g x
 | 6,x=>a_.g x
 | 7,x=>aI.g x
 | 8,x=>aF.g x
 | 9,x=>aJ.g x
 | 10,x=>aG.g x
 | 11,x=>ck.g x
 | 12,x=>cV.g x
 | 13,x=>bD.g x
 | 14,x=>Gi.g x
 | 15,x=>cb.g x
 | 16,x=>cG.g x
 | _+17,_=>[]
def KR:Nat→Nat
 | 0=>0
 | 1=>0
 | 2=>0
 | 3=>0
 | 4=>0
 | 5=>0
 | 6=>0
 | 7=>0
 | 8=>0
 | 9=>0
 | 10=>0
 | 11=>0
 | 12=>0
 | 13=>0
 | 14=>0
 | 15=>0
 | 16=>2
 | _=>0
def Ag:Nat→List Ty
 | 0=>[.str,.int .i64,.int .i64,.int .i64,.sl .str,.str,.int .i64,.bool,.bool,.str,.str]
 | 1=>[.str,.sl (.st 0)]
 | 2=>[.str,.str,.str,.str,.str,.str]
 | 3=>[.str,.str]
 | 4=>[.sl (.st 1),.sl (.st 2),.sl (.st 3)]
 | 5=>[.str,.str,.str,.sl .str,.bool,.sl .str,.int .i64]
 | 6=>[.sl (.int .i64),.str,.str,.str]
 | 7=>[.int .i64,.str,.str,.sl (.int .i64),.str,.str,.str]
 | 8=>[.str,.str,.int .i64,.int .i64]
 | 9=>[.str,.str,.str,.int .i64,.int .i64]
 | 10=>[.int .i64,.int .i64,.int .i64,.sl (.st 5),.sl (.st 7),.sl (.st 8),.sl (.st 9)]
 | 11=>[.str,.str]
 | 12=>[.int .i64,.int .i64]
 | 13=>[.str,.int .i64,.int .i64,.int .i64,.sl .str,.str,.int .i64,.bool,.bool,.str,.str]
 | 14=>[.str,.str]
 | 15=>[.str,.int .i64]
 | 16=>[.str,.str,.int .i64]
 | _=>[]
def con:(i:Nat)→LQ (Ag i) (C i)
 | 0=>(fun (a0:List UInt8)=>fun (a1:Int)=>fun (a2:Int)=>fun (a3:Int)=>fun (a4:List (List UInt8))=>fun (a5:List UInt8)=>fun (a6:Int)=>fun (a7:Bool)=>fun (a8:Bool)=>fun (a9:List UInt8)=>fun (a10:List UInt8)=>(⟨a0,a1,a2,a3,a4,a5,a6,a7,a8,a9,a10⟩:aB))
 | 1=>(fun (a0:List UInt8)=>fun (a1:List aB)=>(⟨a0,a1⟩:aC))
 | 2=>(fun (a0:List UInt8)=>fun (a1:List UInt8)=>fun (a2:List UInt8)=>fun (a3:List UInt8)=>fun (a4:List UInt8)=>fun (a5:List UInt8)=>(⟨a0,a1,a2,a3,a4,a5⟩:aD))
 | 3=>(fun (a0:List UInt8)=>fun (a1:List UInt8)=>(⟨a0,a1⟩:aH))
 | 4=>(fun (a0:List aC)=>fun (a1:List aD)=>fun (a2:List aH)=>(⟨a0,a1,a2⟩:aL))
 | 5=>(fun (a0:List UInt8)=>fun (a1:List UInt8)=>fun (a2:List UInt8)=>fun (a3:List (List UInt8))=>fun (a4:Bool)=>fun (a5:List (List UInt8))=>fun (a6:Int)=>(⟨a0,a1,a2,a3,a4,a5,a6⟩:aA))
 | 6=>(fun (a0:List Int)=>fun (a1:List UInt8)=>fun (a2:List UInt8)=>fun (a3:List UInt8)=>(⟨a0,a1,a2,a3⟩:a_))
 | 7=>(fun (a0:Int)=>fun (a1:List UInt8)=>fun (a2:List UInt8)=>fun (a3:List Int)=>fun (a4:List UInt8)=>fun (a5:List UInt8)=>fun (a6:List UInt8)=>(⟨a0,a1,a2,(⟨a3,a4,a5,a6⟩:a_)⟩:aI))
 | 8=>(fun (a0:List UInt8)=>fun (a1:List UInt8)=>fun (a2:Int)=>fun (a3:Int)=>(⟨a0,a1,a2,a3⟩:aF))
 | 9=>(fun (a0:List UInt8)=>fun (a1:List UInt8)=>fun (a2:List UInt8)=>fun (a3:Int)=>fun (a4:Int)=>(⟨a0,a1,a2,a3,a4⟩:aJ))
 | 10=>(fun (a0:Int)=>fun (a1:Int)=>fun (a2:Int)=>fun (a3:List aA)=>fun (a4:List aI)=>fun (a5:List aF)=>fun (a6:List aJ)=>(⟨a0,a1,a2,a3,a4,a5,a6⟩:aG))
 | 11=>(fun (a0:List UInt8)=>fun (a1:List UInt8)=>(⟨a0,a1⟩:ck))
 | 12=>(fun (a0:Int)=>fun (a1:Int)=>(⟨a0,a1⟩:cV))
 | 13=>(fun (a0:List UInt8)=>fun (a1:Int)=>fun (a2:Int)=>fun (a3:Int)=>fun (a4:List (List UInt8))=>fun (a5:List UInt8)=>fun (a6:Int)=>fun (a7:Bool)=>fun (a8:Bool)=>fun (a9:List UInt8)=>fun (a10:List UInt8)=>(⟨(⟨a0,a1,a2,a3,a4,a5,a6,a7,a8,a9,a10⟩:aB)⟩:bD))
 | 14=>(fun (a0:List UInt8)=>fun (a1:List UInt8)=>(⟨a0,a1⟩:Gi))
 | 15=>(fun (a0:List UInt8)=>fun (a1:Int)=>(⟨a0,a1⟩:cb))
 | 16=>(fun (a0:List UInt8)=>fun (a1:List UInt8)=>fun (a2:Int)=>(⟨(⟨a0,a1⟩:ck),a2⟩:cG))
 | _+17=>()
def eR:Ty→Nat
 | .st i=>csz i
 | _=>1
def rk:(t:Ty)→t.dn→List AV
 | .int k,x=>[.int k x]
 | .str,x=>[.str x]
 | .bool,x=>[.bool x]
 | .sl t,x=>[Dp (eR t) t.df (rk t) x]
 | .st i,x=>cc i x
def cK:cE→AV
 | ⟨.int k,x⟩=>.int k x
 | ⟨.str,x⟩=>.str x
 | ⟨.bool,x⟩=>.bool x
 | ⟨.sl t,x⟩=>Dp (eR t) t.df (rk t) x
 | ⟨.st i,x⟩=>.agg (cc i x)
theorem JK:∀ (i:Nat) (x:C i),(get i x).map cK=cc i x
 | 0,_=>rfl
 | 1,_=>rfl
 | 2,_=>rfl
 | 3,_=>rfl
 | 4,_=>rfl
 | 5,_=>rfl
 | 6,_=>rfl
 | 7,_=>rfl
 | 8,_=>rfl
 | 9,_=>rfl
 | 10,_=>rfl
 | 11,_=>rfl
 | 12,_=>rfl
 | 13,_=>rfl
 | 14,_=>rfl
 | 15,_=>rfl
 | 16,_=>rfl
 | _+17,_=>rfl
theorem aaz:∀ (i:Nat) (x:x4 (Ag i)),get i (xy (Ag i) (con i) x)=eG (Ag i) x
 | 0,_=>rfl
 | 1,_=>rfl
 | 2,_=>rfl
 | 3,_=>rfl
 | 4,_=>rfl
 | 5,_=>rfl
 | 6,_=>rfl
 | 7,_=>rfl
 | 8,_=>rfl
 | 9,_=>rfl
 | 10,_=>rfl
 | 11,_=>rfl
 | 12,_=>rfl
 | 13,_=>rfl
 | 14,_=>rfl
 | 15,_=>rfl
 | 16,_=>rfl
 | _+17,_=>rfl
theorem pr:∀ (i:Nat) (x:C i),(get i x).map (·.t)=Ag i
 | 0,_=>rfl
 | 1,_=>rfl
 | 2,_=>rfl
 | 3,_=>rfl
 | 4,_=>rfl
 | 5,_=>rfl
 | 6,_=>rfl
 | 7,_=>rfl
 | 8,_=>rfl
 | 9,_=>rfl
 | 10,_=>rfl
 | 11,_=>rfl
 | 12,_=>rfl
 | 13,_=>rfl
 | 14,_=>rfl
 | 15,_=>rfl
 | 16,_=>rfl
 | _+17,_=>rfl
theorem aaA:∀ (i:Nat) (x:C i),(get i x).length=csz i
 | 0,_=>rfl
 | 1,_=>rfl
 | 2,_=>rfl
 | 3,_=>rfl
 | 4,_=>rfl
 | 5,_=>rfl
 | 6,_=>rfl
 | 7,_=>rfl
 | 8,_=>rfl
 | 9,_=>rfl
 | 10,_=>rfl
 | 11,_=>rfl
 | 12,_=>rfl
 | 13,_=>rfl
 | 14,_=>rfl
 | 15,_=>rfl
 | 16,_=>rfl
 | _+17,_=>rfl
theorem Yu:∀ (i:Nat) (x:C i) (y:cE),y∈get i x→∀ j,y.t≠.st j
 | 0,x,y,h,j=>by
  simp only [get,aB.g,List.mem_cons,List.not_mem_nil,or_false] at h
  rcases h with rfl | rfl | rfl | rfl | rfl | rfl | rfl | rfl | rfl | rfl | rfl<;>simp
 | 1,x,y,h,j=>by
  simp only [get,aC.g,List.mem_cons,List.not_mem_nil,or_false] at h
  rcases h with rfl | rfl<;>simp
 | 2,x,y,h,j=>by
  simp only [get,aD.g,List.mem_cons,List.not_mem_nil,or_false] at h
  rcases h with rfl | rfl | rfl | rfl | rfl | rfl<;>simp
 | 3,x,y,h,j=>by
  simp only [get,aH.g,List.mem_cons,List.not_mem_nil,or_false] at h
  rcases h with rfl | rfl<;>simp
 | 4,x,y,h,j=>by
  simp only [get,aL.g,List.mem_cons,List.not_mem_nil,or_false] at h
  rcases h with rfl | rfl | rfl<;>simp
 | 5,x,y,h,j=>by
  simp only [get,aA.g,List.mem_cons,List.not_mem_nil,or_false] at h
  rcases h with rfl | rfl | rfl | rfl | rfl | rfl | rfl<;>simp
 | 6,x,y,h,j=>by
  simp only [get,a_.g,List.mem_cons,List.not_mem_nil,or_false] at h
  rcases h with rfl | rfl | rfl | rfl<;>simp
 | 7,x,y,h,j=>by
  simp only [get,aI.g,List.mem_cons,List.not_mem_nil,or_false] at h
  rcases h with rfl | rfl | rfl | rfl | rfl | rfl | rfl<;>simp
 | 8,x,y,h,j=>by
  simp only [get,aF.g,List.mem_cons,List.not_mem_nil,or_false] at h
  rcases h with rfl | rfl | rfl | rfl<;>simp
 | 9,x,y,h,j=>by
  simp only [get,aJ.g,List.mem_cons,List.not_mem_nil,or_false] at h
  rcases h with rfl | rfl | rfl | rfl | rfl<;>simp
 | 10,x,y,h,j=>by
  simp only [get,aG.g,List.mem_cons,List.not_mem_nil,or_false] at h
  rcases h with rfl | rfl | rfl | rfl | rfl | rfl | rfl<;>simp
 | 11,x,y,h,j=>by
  simp only [get,ck.g,List.mem_cons,List.not_mem_nil,or_false] at h
  rcases h with rfl | rfl<;>simp
 | 12,x,y,h,j=>by
  simp only [get,cV.g,List.mem_cons,List.not_mem_nil,or_false] at h
  rcases h with rfl | rfl<;>simp
 | 13,x,y,h,j=>by
  simp only [get,bD.g,List.mem_cons,List.not_mem_nil,or_false] at h
  rcases h with rfl | rfl | rfl | rfl | rfl | rfl | rfl | rfl | rfl | rfl | rfl<;>simp
 | 14,x,y,h,j=>by
  simp only [get,Gi.g,List.mem_cons,List.not_mem_nil,or_false] at h
  rcases h with rfl | rfl<;>simp
 | 15,x,y,h,j=>by
  simp only [get,cb.g,List.mem_cons,List.not_mem_nil,or_false] at h
  rcases h with rfl | rfl<;>simp
 | 16,x,y,h,j=>by
  simp only [get,cG.g,List.mem_cons,List.not_mem_nil,or_false] at h
  rcases h with rfl | rfl | rfl<;>simp
 | _+17,_,_,h,_=>by cases h
end Go.Proofs.YtljfmaaadnoggaaGreatDoor.cU
