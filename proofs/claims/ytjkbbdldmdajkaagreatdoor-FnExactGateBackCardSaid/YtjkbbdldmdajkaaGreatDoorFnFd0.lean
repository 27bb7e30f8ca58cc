/- The functions, as printed from their code; their contracts. No condition. -/
import Derived.Test.YtjkbbdldmdajkaaGreatDoorWB
import Derived.Test.YtjkbbdldmdajkaaGreatDoorProg
set_option linter.unusedSimpArgs false
set_option linter.unusedVariables false
namespace Go.Proofs.YtjkbbdldmdajkaaGreatDoor.Fn
open Go Go.RowKit Go.Proofs.YtjkbbdldmdajkaaGreatDoor.c_
def cH:List (Nat×Ty):=[(2,.int .i64),(3,.int .i64),(4,.bool),(5,.int .u8),(6,.int .u8),(9,.str),(10,.str),(11,.str),(12,.int .u64),(21,.int .i32),(22,.sl (.st 1)),(23,.sl (.st 2)),(24,.sl (.st 3)),(25,.st 4),(26,.st 4),(27,.sl (.st 5)),(28,.sl (.st 7)),(29,.sl (.st 8)),(30,.sl (.st 9)),(31,.st 10),(32,.st 10),(35,.sl (.st 5)),(36,.sl (.st 7)),(37,.sl (.st 8)),(38,.sl (.st 9)),(39,.st 10),(40,.st 10),(43,.sl (.st 1)),(44,.sl (.st 2)),(45,.sl (.st 3)),(46,.st 4),(47,.st 4),(70,.st 9),(71,.st 9),(102,.st 8),(103,.st 8),(110,.sl (.int .i64)),(112,.sl .str),(113,.st 5),(114,.st 5),(118,.st 11),(119,.st 11),(126,.st 0),(127,.st 0),(129,.sl (.st 0)),(130,.st 1),(131,.st 1),(133,.st 2),(134,.st 2),(136,.st 3),(137,.st 3),(139,.st 5),(141,.st 6),(142,.st 6),(143,.st 7),(144,.st 7),(146,.st 8),(148,.st 9),(152,.st 6),(153,.st 7),(154,.st 7),(157,.sl (.st 0)),(158,.st 1),(159,.st 1),(161,.st 2),(163,.st 3),(195,.sl .bool),(221,.st 12),(222,.st 12),(226,.sl (.int .u8)),(235,.st 0),(264,.st 13),(265,.st 13),(276,.int .u64),(283,.int .u8),(287,.st 14),(288,.st 14),(290,.st 14),(291,.st 14),(292,.st 14),(317,.int .u32),(318,.int .u8),(321,.int .i32),(322,.int .i32),(331,.int .u16),(335,.int .i32)]
theorem bE:Tryz.prog.follows .mixedOrders=true:=by kernel_rfl
theorem Mv:gJ Tryz.prog 288 "loop.example/wharfgate/impl.clean" 258:=fun v w=>by kernel_rfl
theorem OW:gJ Tryz.prog 288 "loop.example/wharfgate/impl.fits" 259:=fun v w=>by kernel_rfl
theorem Mw:gJ Tryz.prog 288 "loop.example/wharfgate/impl.sound" 260:=fun v w=>by kernel_rfl
theorem Mx:gJ Tryz.prog 290 "loop.example/wharfgate/impl.clean" 261:=fun v w=>by kernel_rfl
theorem OX:gJ Tryz.prog 290 "loop.example/wharfgate/impl.fits" 262:=fun v w=>by kernel_rfl
theorem My:gJ Tryz.prog 290 "loop.example/wharfgate/impl.sound" 263:=fun v w=>by kernel_rfl
theorem Mz:gJ Tryz.prog 291 "loop.example/wharfgate/impl.clean" 264:=fun v w=>by kernel_rfl
theorem OY:gJ Tryz.prog 291 "loop.example/wharfgate/impl.fits" 265:=fun v w=>by kernel_rfl
theorem MA:gJ Tryz.prog 291 "loop.example/wharfgate/impl.sound" 266:=fun v w=>by kernel_rfl
theorem MB:gJ Tryz.prog 292 "loop.example/wharfgate/impl.clean" 267:=fun v w=>by kernel_rfl
theorem OZ:gJ Tryz.prog 292 "loop.example/wharfgate/impl.fits" 268:=fun v w=>by kernel_rfl
theorem MC:gJ Tryz.prog 292 "loop.example/wharfgate/impl.sound" 269:=fun v w=>by kernel_rfl
def dA (x:List UInt8):Prop:=x.length≤maxLen
def DJ {α:Type} (p:α→Prop) (xs:List α):Prop:=xs.length≤maxLen∧∀ x,x∈xs→p x
def jr (k:IntKind) (x:Int):Prop:=k.min≤x∧x≤k.max
def _root_.Go.Proofs.YtjkbbdldmdajkaaGreatDoor.c_.aC.ok (x:aC):Prop:=dA x.Name∧jr .i64 x.Kind∧jr .i64 x.bS∧jr .i64 x.bT∧DJ dA x.Words∧dA x.To∧jr .i64 x.cG∧True∧True∧dA x.Default∧dA x.bC
def _root_.Go.Proofs.YtjkbbdldmdajkaaGreatDoor.c_.aD.ok (x:aD):Prop:=dA x.Kind∧DJ aC.ok x.aV
def _root_.Go.Proofs.YtjkbbdldmdajkaaGreatDoor.c_.aH.ok (x:aH):Prop:=dA x.Kind∧dA x.Field∧dA x.dk∧dA x.Is∧dA x.tl∧dA x.cR
def _root_.Go.Proofs.YtjkbbdldmdajkaaGreatDoor.c_.aJ.ok (x:aJ):Prop:=dA x.Name∧dA x.h_
def _root_.Go.Proofs.YtjkbbdldmdajkaaGreatDoor.c_.aL.ok (x:aL):Prop:=DJ aD.ok x.cg∧DJ aH.ok x.iN∧DJ aJ.ok x.dX
def _root_.Go.Proofs.YtjkbbdldmdajkaaGreatDoor.c_.aA.ok (x:aA):Prop:=dA x.Kind∧dA x.Name∧dA x.aX∧DJ dA x.aR∧True∧DJ dA x.b7∧jr .i64 x.Version
def _root_.Go.Proofs.YtjkbbdldmdajkaaGreatDoor.c_.bF.ok (x:bF):Prop:=DJ (jr .i64) x.b_∧dA x.Kind∧dA x.aX∧dA x.cU
def _root_.Go.Proofs.YtjkbbdldmdajkaaGreatDoor.c_.aF.ok (x:aF):Prop:=jr .i64 x.Number∧dA x.To∧dA x.By∧bF.ok x.cJ
def _root_.Go.Proofs.YtjkbbdldmdajkaaGreatDoor.c_.aB.ok (x:aB):Prop:=dA x.aX∧dA x.aN∧jr .i64 x.bT∧jr .i64 x.gE
def _root_.Go.Proofs.YtjkbbdldmdajkaaGreatDoor.c_.aE.ok (x:aE):Prop:=dA x.fL∧dA x.aX∧dA x.aN∧jr .i64 x.cF∧jr .i64 x.dW
def _root_.Go.Proofs.YtjkbbdldmdajkaaGreatDoor.c_.aG.ok (x:aG):Prop:=jr .i64 x.vj∧jr .i64 x.dP∧jr .i64 x.dN∧DJ aA.ok x.aO∧DJ aF.ok x.bI∧DJ aB.ok x.aK∧DJ aE.ok x.aW
def _root_.Go.Proofs.YtjkbbdldmdajkaaGreatDoor.c_.GQ.ok (x:GQ):Prop:=dA x.kind∧dA x.name
def _root_.Go.Proofs.YtjkbbdldmdajkaaGreatDoor.c_.cq.ok (x:cq):Prop:=dA x.dM∧dA x.resource
def _root_.Go.Proofs.YtjkbbdldmdajkaaGreatDoor.c_.eV.ok (x:eV):Prop:=jr .i64 x.code∧jr .i64 x.place
def _root_.Go.Proofs.YtjkbbdldmdajkaaGreatDoor.c_.bJ.ok (x:bJ):Prop:=aC.ok x.aC
def _root_.Go.Proofs.YtjkbbdldmdajkaaGreatDoor.c_.cy.ok (x:cy):Prop:=dA x.Key∧jr .i64 x.Mu
def _root_.Go.Proofs.YtjkbbdldmdajkaaGreatDoor.c_.c5.ok (x:c5):Prop:=cq.ok x.Key∧jr .i64 x.Mu
abbrev vB:List Ty:=[.sl .str,.int .i64,.int .i64]
def zw (e:Int→Option Int) (f:Nat) (d:List (List UInt8)→Int→Int→Option Int) (a:List (List UInt8)) (c:Int) (b:Int):Option Int:=
 cond (bK b (a.length:Int)) (aZ (bW b a.length) (cond (bK (bO .i64 c ((nth ([]:List UInt8) a b).length:Int)) 0) (some (-1)) (d a (bO .i64 c ((nth ([]:List UInt8) a b).length:Int)) (aP .i64 b 1)))) (e c)
def kY (k:Nat) (a:List (List UInt8)) (b:Int):Option Int:=
 cond (bK (bO .i64 b (a.length:Int)) 0) (some (-1)) (share (fun (c:Int)=>some c) fun d=>iter (ts:=vB) (R:=Int) k (zw d) a (bO .i64 b (a.length:Int)) (0:Int))
def ud (k:Nat):CT:=⟨153,[.d (.sl .str),.d (.int .i64)],[],[⟨false,.d (.int .i64),[]⟩],kY k⟩
def kZ (k:Nat) (a:aC) (c:Int):Option Int:=
 cond (bK (bO .i64 c (a.Name.length:Int)) 0) (some (-1)) ((kY k a.Words (bO .i64 c (a.Name.length:Int))).bind fun b=>cond (bK b 0) (some (-1)) (cond (bK (bO .i64 b (a.To.length:Int)) 0) (some (-1)) (cond (bK (bO .i64 (bO .i64 b (a.To.length:Int)) (a.Default.length:Int)) 0) (some (-1)) (cond (bK (bO .i64 (bO .i64 (bO .i64 b (a.To.length:Int)) (a.Default.length:Int)) (a.bC.length:Int)) 0) (some (-1)) (some (bO .i64 (bO .i64 (bO .i64 b (a.To.length:Int)) (a.Default.length:Int)) (a.bC.length:Int)))))))
def x5 (k:Nat):CT:=⟨186,[.d (.st 0),.d (.int .i64)],[],[⟨false,.d (.int .i64),[]⟩],kZ k⟩
abbrev rz:List Ty:=[.sl (.st 0),.int .i64,.int .i64]
def vC (e:Int→Option Int) (f:Nat) (g:List aC→Int→Int→Option Int) (a:List aC) (c:Int) (b:Int):Option Int:=
 cond (bK b (a.length:Int)) (aZ (bW b a.length) ((kZ f (nth (default:aC) a b) c).bind fun d=>cond (bK d 0) (some (-1)) (g a d (aP .i64 b 1)))) (e c)
def nx (k:Nat) (a:List aC) (b:Int):Option Int:=
 cond (bK (bO .i64 b (a.length:Int)) 0) (some (-1)) (share (fun (c:Int)=>some c) fun d=>iter (ts:=rz) (R:=Int) k (vC d) a (bO .i64 b (a.length:Int)) (0:Int))
def wN (k:Nat):CT:=⟨152,[.d (.sl (.st 0)),.d (.int .i64)],[],[⟨false,.d (.int .i64),[]⟩],nx k⟩
def k_ (k:Nat) (a:aD) (b:Int):Option Int:=
 cond (bK (bO .i64 b (a.Kind.length:Int)) 0) (some (-1)) ((nx k a.aV (bO .i64 b (a.Kind.length:Int))).bind fun c=>cond (bK c 0) (some (-1)) (some c))
def x6 (k:Nat):CT:=⟨86,[.d (.st 1),.d (.int .i64)],[],[⟨false,.d (.int .i64),[]⟩],k_ k⟩
abbrev rA:List Ty:=[.sl (.st 1),.int .i64,.int .i64]
def vD (e:Int→Option Int) (f:Nat) (g:List aD→Int→Int→Option Int) (a:List aD) (c:Int) (b:Int):Option Int:=
 cond (bK b (a.length:Int)) (aZ (bW b a.length) ((k_ f (nth (default:aD) a b) c).bind fun d=>cond (bK d 0) (some (-1)) (g a d (aP .i64 b 1)))) (e c)
def ny (k:Nat) (a:List aD) (b:Int):Option Int:=
 cond (bK (bO .i64 b (a.length:Int)) 0) (some (-1)) (share (fun (c:Int)=>some c) fun d=>iter (ts:=rA) (R:=Int) k (vD d) a (bO .i64 b (a.length:Int)) (0:Int))
def wO (k:Nat):CT:=⟨27,[.d (.sl (.st 1)),.d (.int .i64)],[],[⟨false,.d (.int .i64),[]⟩],ny k⟩
def mG (_k:Nat) (a:aH) (b:Int):Option Int:=
 cond (bK (bO .i64 b (a.Kind.length:Int)) 0) (some (-1)) (cond (bK (bO .i64 (bO .i64 b (a.Kind.length:Int)) (a.Field.length:Int)) 0) (some (-1)) (cond (bK (bO .i64 (bO .i64 (bO .i64 b (a.Kind.length:Int)) (a.Field.length:Int)) (a.dk.length:Int)) 0) (some (-1)) (cond (bK (bO .i64 (bO .i64 (bO .i64 (bO .i64 b (a.Kind.length:Int)) (a.Field.length:Int)) (a.dk.length:Int)) (a.Is.length:Int)) 0) (some (-1)) (cond (bK (bO .i64 (bO .i64 (bO .i64 (bO .i64 (bO .i64 b (a.Kind.length:Int)) (a.Field.length:Int)) (a.dk.length:Int)) (a.Is.length:Int)) (a.tl.length:Int)) 0) (some (-1)) (cond (bK (bO .i64 (bO .i64 (bO .i64 (bO .i64 (bO .i64 (bO .i64 b (a.Kind.length:Int)) (a.Field.length:Int)) (a.dk.length:Int)) (a.Is.length:Int)) (a.tl.length:Int)) (a.cR.length:Int)) 0) (some (-1)) (some (bO .i64 (bO .i64 (bO .i64 (bO .i64 (bO .i64 (bO .i64 b (a.Kind.length:Int)) (a.Field.length:Int)) (a.dk.length:Int)) (a.Is.length:Int)) (a.tl.length:Int)) (a.cR.length:Int))))))))
def zx (k:Nat):CT:=⟨87,[.d (.st 2),.d (.int .i64)],[],[⟨false,.d (.int .i64),[]⟩],mG k⟩
abbrev si:List Ty:=[.sl (.st 2),.int .i64,.int .i64]
def wP (e:Int→Option Int) (f:Nat) (g:List aH→Int→Int→Option Int) (a:List aH) (c:Int) (b:Int):Option Int:=
 cond (bK b (a.length:Int)) (aZ (bW b a.length) ((mG f (nth (default:aH) a b) c).bind fun d=>cond (bK d 0) (some (-1)) (g a d (aP .i64 b 1)))) (e c)
def oL (k:Nat) (a:List aH) (b:Int):Option Int:=
 cond (bK (bO .i64 b (a.length:Int)) 0) (some (-1)) (share (fun (c:Int)=>some c) fun d=>iter (ts:=si) (R:=Int) k (wP d) a (bO .i64 b (a.length:Int)) (0:Int))
def x7 (k:Nat):CT:=⟨28,[.d (.sl (.st 2)),.d (.int .i64)],[],[⟨false,.d (.int .i64),[]⟩],oL k⟩
def mJ (_k:Nat) (a:aJ) (b:Int):Option Int:=
 cond (bK (bO .i64 b (a.Name.length:Int)) 0) (some (-1)) (cond (bK (bO .i64 (bO .i64 b (a.Name.length:Int)) (a.h_.length:Int)) 0) (some (-1)) (some (bO .i64 (bO .i64 b (a.Name.length:Int)) (a.h_.length:Int))))
def zy (k:Nat):CT:=⟨88,[.d (.st 3),.d (.int .i64)],[],[⟨false,.d (.int .i64),[]⟩],mJ k⟩
abbrev sj:List Ty:=[.sl (.st 3),.int .i64,.int .i64]
def wQ (e:Int→Option Int) (f:Nat) (g:List aJ→Int→Int→Option Int) (a:List aJ) (c:Int) (b:Int):Option Int:=
 cond (bK b (a.length:Int)) (aZ (bW b a.length) ((mJ f (nth (default:aJ) a b) c).bind fun d=>cond (bK d 0) (some (-1)) (g a d (aP .i64 b 1)))) (e c)
def oM (k:Nat) (a:List aJ) (b:Int):Option Int:=
 cond (bK (bO .i64 b (a.length:Int)) 0) (some (-1)) (share (fun (c:Int)=>some c) fun d=>iter (ts:=sj) (R:=Int) k (wQ d) a (bO .i64 b (a.length:Int)) (0:Int))
def x8 (k:Nat):CT:=⟨29,[.d (.sl (.st 3)),.d (.int .i64)],[],[⟨false,.d (.int .i64),[]⟩],oM k⟩
def kU (k:Nat) (a:aL) (e:Int):Option Int:=
 (ny k a.cg e).bind fun b=>cond (bK b 0) (some (-1)) ((oL k a.iN b).bind fun c=>cond (bK c 0) (some (-1)) ((oM k a.dX c).bind fun d=>cond (bK d 0) (some (-1)) (some d)))
def oN (k:Nat):CT:=⟨8,[.d (.st 4),.d (.int .i64)],[],[⟨false,.d (.int .i64),[]⟩],kU k⟩
def js (k:Nat) (a:aA) (b:Int):Option Int:=
 cond (bK (bO .i64 b (a.Kind.length:Int)) 0) (some (-1)) (cond (bK (bO .i64 (bO .i64 b (a.Kind.length:Int)) (a.Name.length:Int)) 0) (some (-1)) (cond (bK (bO .i64 (bO .i64 (bO .i64 b (a.Kind.length:Int)) (a.Name.length:Int)) (a.aX.length:Int)) 0) (some (-1)) ((kY k a.aR (bO .i64 (bO .i64 (bO .i64 b (a.Kind.length:Int)) (a.Name.length:Int)) (a.aX.length:Int))).bind fun c=>cond (bK c 0) (some (-1)) ((kY k a.b7 c).bind fun d=>cond (bK d 0) (some (-1)) (some d)))))
def wR (k:Nat):CT:=⟨89,[.d (.st 5),.d (.int .i64)],[],[⟨false,.d (.int .i64),[]⟩],js k⟩
abbrev pU:List Ty:=[.sl (.st 5),.int .i64,.int .i64]
def tM (e:Int→Option Int) (f:Nat) (g:List aA→Int→Int→Option Int) (a:List aA) (c:Int) (b:Int):Option Int:=
 cond (bK b (a.length:Int)) (aZ (bW b a.length) ((js f (nth (default:aA) a b) c).bind fun d=>cond (bK d 0) (some (-1)) (g a d (aP .i64 b 1)))) (e c)
def lV (k:Nat) (a:List aA) (b:Int):Option Int:=
 cond (bK (bO .i64 b (a.length:Int)) 0) (some (-1)) (share (fun (c:Int)=>some c) fun d=>iter (ts:=pU) (R:=Int) k (tM d) a (bO .i64 b (a.length:Int)) (0:Int))
def vE (k:Nat):CT:=⟨30,[.d (.sl (.st 5)),.d (.int .i64)],[],[⟨false,.d (.int .i64),[]⟩],lV k⟩
def zz (_k:Nat) (a:List Int) (b:Int):Option Int:=
 cond (bK (bO .i64 b (a.length:Int)) 0) (some (-1)) (some (bO .i64 b (a.length:Int)))
def Gs (k:Nat):CT:=⟨187,[.d (.sl (.int .i64)),.d (.int .i64)],[],[⟨false,.d (.int .i64),[]⟩],zz k⟩
def qh (k:Nat) (a:bF) (c:Int):Option Int:=
 (zz k a.b_ c).bind fun b=>cond (bK b 0) (some (-1)) (cond (bK (bO .i64 b (a.Kind.length:Int)) 0) (some (-1)) (cond (bK (bO .i64 (bO .i64 b (a.Kind.length:Int)) (a.aX.length:Int)) 0) (some (-1)) (cond (bK (bO .i64 (bO .i64 (bO .i64 b (a.Kind.length:Int)) (a.aX.length:Int)) (a.cU.length:Int)) 0) (some (-1)) (some (bO .i64 (bO .i64 (bO .i64 b (a.Kind.length:Int)) (a.aX.length:Int)) (a.cU.length:Int))))))
def zA (k:Nat):CT:=⟨154,[.d (.st 6),.d (.int .i64)],[],[⟨false,.d (.int .i64),[]⟩],qh k⟩
def la (k:Nat) (a:aF) (b:Int):Option Int:=
 cond (bK (bO .i64 b (a.To.length:Int)) 0) (some (-1)) (cond (bK (bO .i64 (bO .i64 b (a.To.length:Int)) (a.By.length:Int)) 0) (some (-1)) ((qh k a.cJ (bO .i64 (bO .i64 b (a.To.length:Int)) (a.By.length:Int))).bind fun c=>cond (bK c 0) (some (-1)) (some c)))
def x9 (k:Nat):CT:=⟨90,[.d (.st 7),.d (.int .i64)],[],[⟨false,.d (.int .i64),[]⟩],la k⟩
abbrev rB:List Ty:=[.sl (.st 7),.int .i64,.int .i64]
def vF (e:Int→Option Int) (f:Nat) (g:List aF→Int→Int→Option Int) (a:List aF) (c:Int) (b:Int):Option Int:=
 cond (bK b (a.length:Int)) (aZ (bW b a.length) ((la f (nth (default:aF) a b) c).bind fun d=>cond (bK d 0) (some (-1)) (g a d (aP .i64 b 1)))) (e c)
def nz (k:Nat) (a:List aF) (b:Int):Option Int:=
 cond (bK (bO .i64 b (a.length:Int)) 0) (some (-1)) (share (fun (c:Int)=>some c) fun d=>iter (ts:=rB) (R:=Int) k (vF d) a (bO .i64 b (a.length:Int)) (0:Int))
def wS (k:Nat):CT:=⟨31,[.d (.sl (.st 7)),.d (.int .i64)],[],[⟨false,.d (.int .i64),[]⟩],nz k⟩
def jt (_k:Nat) (a:aB) (b:Int):Option Int:=
 cond (bK (bO .i64 b (a.aX.length:Int)) 0) (some (-1)) (cond (bK (bO .i64 (bO .i64 b (a.aX.length:Int)) (a.aN.length:Int)) 0) (some (-1)) (some (bO .i64 (bO .i64 b (a.aX.length:Int)) (a.aN.length:Int))))
def wT (k:Nat):CT:=⟨91,[.d (.st 8),.d (.int .i64)],[],[⟨false,.d (.int .i64),[]⟩],jt k⟩
abbrev pV:List Ty:=[.sl (.st 8),.int .i64,.int .i64]
def tN (e:Int→Option Int) (f:Nat) (g:List aB→Int→Int→Option Int) (a:List aB) (c:Int) (b:Int):Option Int:=
 cond (bK b (a.length:Int)) (aZ (bW b a.length) ((jt f (nth (default:aB) a b) c).bind fun d=>cond (bK d 0) (some (-1)) (g a d (aP .i64 b 1)))) (e c)
def lW (k:Nat) (a:List aB) (b:Int):Option Int:=
 cond (bK (bO .i64 b (a.length:Int)) 0) (some (-1)) (share (fun (c:Int)=>some c) fun d=>iter (ts:=pV) (R:=Int) k (tN d) a (bO .i64 b (a.length:Int)) (0:Int))
def vG (k:Nat):CT:=⟨32,[.d (.sl (.st 8)),.d (.int .i64)],[],[⟨false,.d (.int .i64),[]⟩],lW k⟩
def lb (_k:Nat) (a:aE) (b:Int):Option Int:=
 cond (bK (bO .i64 b (a.fL.length:Int)) 0) (some (-1)) (cond (bK (bO .i64 (bO .i64 b (a.fL.length:Int)) (a.aX.length:Int)) 0) (some (-1)) (cond (bK (bO .i64 (bO .i64 (bO .i64 b (a.fL.length:Int)) (a.aX.length:Int)) (a.aN.length:Int)) 0) (some (-1)) (some (bO .i64 (bO .i64 (bO .i64 b (a.fL.length:Int)) (a.aX.length:Int)) (a.aN.length:Int)))))
def x_ (k:Nat):CT:=⟨92,[.d (.st 9),.d (.int .i64)],[],[⟨false,.d (.int .i64),[]⟩],lb k⟩
abbrev rC:List Ty:=[.sl (.st 9),.int .i64,.int .i64]
def vH (e:Int→Option Int) (f:Nat) (g:List aE→Int→Int→Option Int) (a:List aE) (c:Int) (b:Int):Option Int:=
 cond (bK b (a.length:Int)) (aZ (bW b a.length) ((lb f (nth (default:aE) a b) c).bind fun d=>cond (bK d 0) (some (-1)) (g a d (aP .i64 b 1)))) (e c)
def nA (k:Nat) (a:List aE) (b:Int):Option Int:=
 cond (bK (bO .i64 b (a.length:Int)) 0) (some (-1)) (share (fun (c:Int)=>some c) fun d=>iter (ts:=rC) (R:=Int) k (vH d) a (bO .i64 b (a.length:Int)) (0:Int))
def wU (k:Nat):CT:=⟨33,[.d (.sl (.st 9)),.d (.int .i64)],[],[⟨false,.d (.int .i64),[]⟩],nA k⟩
def iY (k:Nat) (a:aG) (f:Int):Option Int:=
 (lV k a.aO f).bind fun b=>cond (bK b 0) (some (-1)) ((nz k a.bI b).bind fun c=>cond (bK c 0) (some (-1)) ((lW k a.aK c).bind fun d=>cond (bK d 0) (some (-1)) ((nA k a.aW d).bind fun e=>cond (bK e 0) (some (-1)) (some e))))
def nB (k:Nat):CT:=⟨9,[.d (.st 10),.d (.int .i64)],[],[⟨false,.d (.int .i64),[]⟩],iY k⟩
def mB (_k:Nat) (a:aH):Option aH:=
 some a
def zB (k:Nat):CT:=⟨101,[.d (.st 2)],[],[⟨false,.d (.st 2),[]⟩],mB k⟩
def mC (_k:Nat) (a:aJ):Option aJ:=
 some a
def zC (k:Nat):CT:=⟨102,[.d (.st 3)],[],[⟨false,.d (.st 3),[]⟩],mC k⟩
def jh (_k:Nat) (a:aB):Option aB:=
 some a
def wV (k:Nat):CT:=⟨105,[.d (.st 8)],[],[⟨false,.d (.st 8),[]⟩],jh k⟩
def kS (_k:Nat) (a:aE):Option aE:=
 some a
def ya (k:Nat):CT:=⟨106,[.d (.st 9)],[],[⟨false,.d (.st 9),[]⟩],kS k⟩
def dB (_k:Nat) (a:Int) (b:Int) (c:Int):Option Bool:=
 cond (b8 b a) (some (b8 a c)) (some false)
def fk (k:Nat):CT:=⟨69,[.d (.int .i64),.d (.int .i64),.d (.int .i64)],[],[⟨false,.d .bool,[]⟩],dB k⟩
def vI (_k:Nat) (a:Int):Option Bool:=
 cond (b8 97 a) (cond (b8 a 122) (some true) (cond (b8 48 a) (cond (b8 a 57) (some true) (some (bH a 45))) (some (bH a 45)))) (cond (b8 48 a) (cond (b8 a 57) (some true) (some (bH a 45))) (some (bH a 45)))
def Ad (k:Nat):CT:=⟨133,[.d (.int .u8)],[],[⟨false,.d .bool,[]⟩],vI k⟩
abbrev wW:List Ty:=[.str,.int .i64]
def oO (c:Option Bool) (d:Nat) (e:List UInt8→Int→Option Bool) (a:List UInt8) (b:Int):Option Bool:=
 cond (bK b (a.length:Int)) (aZ (bW b a.length) ((vI d (AE a b)).bind fun f=>cond (!f) (some false) (e a (aP .i64 b 1)))) (c)
def cu (k:Nat) (a:List UInt8):Option Bool:=
 (dB k (a.length:Int) 1 16).bind fun c=>cond (!c) (some false) (share (some true) fun b=>iter (ts:=wW) (R:=Bool) k (oO b) a (0:Int))
def dw (k:Nat):CT:=⟨68,[.d .str],[],[⟨false,.d .bool,[]⟩],cu k⟩
def zD (_k:Nat) (c:aC):Option Bool:=
 share (fun (a:aC) (i:Bool)=>share (fun (d:aC) (j:Bool)=>cond j (some false) (share (fun (f:aC) (g:Bool)=>cond g (some false) (cond (bH f.Kind 4) (some true) (cond (seq f.To ([]:List UInt8)) (some (bH f.cG 0)) (some false)))) fun e=>cond (!bH d.Kind 2) (e d (bK 0 (d.Words.length:Int))) (e d false))) fun b=>cond (!i) (cond (!bH a.bS 0) (b a true) (cond (!bH a.bT 0) (b a true) (cond (!bH a.Kind 1) (b a (!seq a.bC ([]:List UInt8))) (b a false)))) (cond (!bH a.Kind 1) (b a (!seq a.bC ([]:List UInt8))) (b a false))) fun h=>cond (bH c.Kind 1) (h c true) (h c (bH c.Kind 3))
def Gt (k:Nat):CT:=⟨223,[.d (.st 0)],[],[⟨false,.d .bool,[]⟩],zD k⟩
abbrev wX:List Ty:=[.str,.int .i64,.int .i64]
def oP (g:Int→Option Int) (k:Nat) (h:List UInt8→Int→Int→Option Int) (a:List UInt8) (c:Int) (b:Int):Option Int:=
 cond (bK b (a.length:Int)) (share (fun (d:List UInt8) (i:Int) (e:Int) (j:Bool)=>cond j (some (-1)) (aZ (bW e d.length) (h d (bO .i64 (aP .i64 (Xk .i64 i 10) (zo .i64 (AE d e))) 48) (aP .i64 e 1)))) fun f=>aZ (bW b a.length) (cond (bK (AE a b) 48) (f a c b true) (aZ (bW b a.length) (f a c b (bK 57 (AE a b)))))) (g c)
def pW (k:Nat) (a:List UInt8):Option Int:=
 share (fun (f:List UInt8) (g:Bool)=>cond g (some (-1)) (share (fun (c:Int)=>some c) fun d=>iter (ts:=wX) (R:=Int) k (oP d) f (0:Int) (0:Int))) fun b=>(dB k (a.length:Int) 1 7).bind fun e=>cond (!e) (b a true) (cond (bK 1 (a.length:Int)) (aZ (bW 0 a.length) (b a (bH (AE a 0) 48))) (b a false))
def wb (k:Nat):CT:=⟨180,[.d .str],[],[⟨false,.d (.int .i64),[]⟩],pW k⟩
abbrev AF:List Ty:=[.sl .str,.str,.int .i64]
def uR (e:Option Bool) (f:Nat) (d:List (List UInt8)→List UInt8→Int→Option Bool) (a:List (List UInt8)) (c:List UInt8) (b:Int):Option Bool:=
 cond (bK b (a.length:Int)) (aZ (bW b a.length) (cond (seq (nth ([]:List UInt8) a b) c) (some true) (d a c (aP .i64 b 1)))) (e)
def nW (k:Nat) (a:List (List UInt8)) (b:List UInt8):Option Bool:=
 share (some false) fun c=>iter (ts:=AF) (R:=Bool) k (uR c) a b (0:Int)
def xr (k:Nat):CT:=⟨211,[.d (.sl .str),.d .str],[],[⟨false,.d .bool,[]⟩],nW k⟩
abbrev wY:List Ty:=[.str,.st 0,.int .i64]
def oQ (d:List UInt8→aC→Option Bool) (e:Nat) (f:List UInt8→aC→Int→Option Bool) (a:List UInt8) (c:aC) (b:Int):Option Bool:=
 cond (bK b (a.length:Int)) (aZ (bW b a.length) ((dB e (zo .i64 (AE a b)) 33 126).bind fun g=>cond (!g) (some false) (f a c (aP .i64 b 1)))) (d a c)
def mX (k:Nat) (a:aC) (b:List UInt8):Option Bool:=
 cond (bH a.Kind 1) ((pW k b).bind fun c=>cond (b8 0 c) ((dB k c a.bS a.bT).bind fun f=>some f) (some false)) (cond (bH a.Kind 2) (cond (!seq b ([]:List UInt8)) ((nW k a.Words b).bind fun g=>some g) (some false)) (cond (bH a.Kind 3) (share (fun (d:List UInt8) (e:aC)=>cond (!seq d ([]:List UInt8)) ((dB k (d.length:Int) e.bS e.bT).bind fun h=>some h) (some false)) fun i=>iter (ts:=wY) (R:=Bool) k (oQ i) b a (0:Int)) (cond (bH a.Kind 4) ((cu k b).bind fun j=>some j) (some false))))
def qi (k:Nat):CT:=⟨192,[.d (.st 0),.d .str],[],[⟨false,.d .bool,[]⟩],mX k⟩
abbrev sk:List Ty:=[.sl .str,.int .i64]
def ko (d:Option Bool) (e:Nat) (f:List (List UInt8)→Int→Option Bool) (b:List (List UInt8)) (a:Int):Option Bool:=
 cond (bK a (b.length:Int)) (share (fun (g:List (List UInt8)) (h:Int) (i:Bool)=>cond i (some false) (f g (aP .i64 h 1))) fun c=>aZ (bW a b.length) ((cu e (nth ([]:List UInt8) b a)).bind fun j=>cond (!j) (c b a true) (cond (bK 0 a) (aZ (bW (bO .i64 a 1) b.length) (aZ (bW a b.length) (c b a (!slt (nth ([]:List UInt8) b (bO .i64 a 1)) (nth ([]:List UInt8) b a))))) (c b a false)))) (d)
def lg (k:Nat) (b:List (List UInt8)):Option Bool:=
 share (some true) fun a=>iter (ts:=sk) (R:=Bool) k (ko a) b (0:Int)
def qR (k:Nat):CT:=⟨191,[.d (.sl .str)],[],[⟨false,.d .bool,[]⟩],lg k⟩
abbrev yb:List Ty:=[.sl (.st 1),.str,.int .i64]
def qj (e:Option Int) (f:Nat) (d:List aD→List UInt8→Int→Option Int) (b:List aD) (c:List UInt8) (a:Int):Option Int:=
 cond (bK a (b.length:Int)) (aZ (bW a b.length) (cond (seq (nth (default:aD) b a).Kind c) (some a) (d b c (aP .i64 a 1)))) (e)
def lX (k:Nat) (a:List aD) (b:List UInt8):Option Int:=
 share (some (-1)) fun c=>iter (ts:=yb) (R:=Int) k (qj c) a b (0:Int)
def nX (k:Nat):CT:=⟨195,[.d (.sl (.st 1)),.d .str],[],[⟨false,.d (.int .i64),[]⟩],lX k⟩
def sm (k:Nat) (d:List aD) (b:aC):Option Bool:=
 share (fun (e:List aD) (a:aC) (f:Bool)=>cond f (some false) (cond (bH a.Kind 1) (cond (b8 0 a.bS) (cond (b8 a.bS a.bT) (cond (b8 a.bT 1000000) (cond (seq a.bC ([]:List UInt8)) (some true) ((cu k a.bC).bind fun g=>some g)) (some false)) (some false)) (some false)) (cond (bH a.Kind 2) ((dB k (a.Words.length:Int) 1 6).bind fun h=>cond h ((lg k a.Words).bind fun i=>some i) (some false)) (cond (bH a.Kind 3) (cond (b8 1 a.bS) (cond (b8 a.bS a.bT) (some (b8 a.bT 40)) (some false)) (some false)) (cond (bH a.Kind 4) ((lX k e a.To).bind fun j=>cond (b8 0 j) ((dB k a.cG 1 3).bind fun l=>cond l (cond (seq a.Default ([]:List UInt8)) (cond (!bH a.cG 2) (some true) (some (!a.c6))) (some false)) (some false)) (some false)) (some false)))))) fun c=>(cu k b.Name).bind fun m=>cond (!m) (c d b true) ((zD k b).bind fun n=>cond (!n) (c d b true) (cond (!seq b.Default ([]:List UInt8)) ((mX k b b.Default).bind fun o=>c d b (!o)) (c d b false)))
def AG (k:Nat):CT:=⟨208,[.d (.sl (.st 1)),.d (.st 0)],[],[⟨false,.d .bool,[]⟩],sm k⟩
abbrev jJ:List Ty:=[.sl (.st 1),.int .i64,.int .i64,.int .i64,.st 1]
def fy (f:List aD→Int→Int→aD→Option Bool) (h:Nat) (g:List aD→Int→Int→Int→aD→Option Bool) (d:List aD) (e:Int) (b:Int) (c:Int) (a:aD):Option Bool:=
 cond (bK c b) (aZ (bW c a.aV.length) (aZ (bW b a.aV.length) (cond (seq (nth (default:aC) a.aV c).Name (nth (default:aC) a.aV b).Name) (some false) (g d e b (aP .i64 c 1) a)))) (f d e b a)
abbrev fM:List Ty:=[.sl (.st 1),.int .i64,.int .i64,.st 1]
def dY (f:List aD→Int→Option Bool) (d:Nat) (g:List aD→Int→Int→aD→Option Bool) (c:List aD) (e:Int) (a:Int) (b:aD):Option Bool:=
 cond (bK a (b.aV.length:Int)) (share (fun (h:List aD) (i:Int) (j:Int) (k:aD)=>g h i (aP .i64 j 1) k) fun l=>aZ (bW a b.aV.length) ((sm d c (nth (default:aC) b.aV a)).bind fun m=>cond (!m) (some false) (iter (ts:=jJ) (R:=Bool) d (fy l) c e a (0:Int) b))) (f c e)
abbrev gp:List Ty:=[.sl (.st 1),.int .i64]
def eG (e:Option Bool) (d:Nat) (f:List aD→Int→Option Bool) (b:List aD) (a:Int):Option Bool:=
 cond (bK a (b.length:Int)) (share (fun (g:List aD) (h:Int)=>f g (aP .i64 h 1)) fun i=>aZ (bW a b.length) (share (fun (j:List aD) (k:Int) (l:Bool) (m:aD)=>cond l (some false) (iter (ts:=fM) (R:=Bool) d (dY i) j k (0:Int) m)) fun c=>(cu d (nth (default:aD) b a).Kind).bind fun n=>cond (!n) (c b a true (nth (default:aD) b a)) (cond (bK 0 a) (aZ (bW (bO .i64 a 1) b.length) (cond (!slt (nth (default:aD) b (bO .i64 a 1)).Kind (nth (default:aD) b a).Kind) (c b a true (nth (default:aD) b a)) (c b a (bK 6 ((nth (default:aD) b a).aV.length:Int)) (nth (default:aD) b a)))) (c b a (bK 6 ((nth (default:aD) b a).aV.length:Int)) (nth (default:aD) b a))))) (e)
def nC (k:Nat) (b:List aD):Option Bool:=
 cond (bK 6 (b.length:Int)) (some false) (share (some true) fun a=>iter (ts:=gp) (R:=Bool) k (eG a) b (0:Int))
def wZ (k:Nat):CT:=⟨188,[.d (.sl (.st 1))],[],[⟨false,.d .bool,[]⟩],nC k⟩
abbrev ye:List Ty:=[.sl (.st 0),.str,.int .i64]
def qk (e:Option Int) (f:Nat) (d:List aC→List UInt8→Int→Option Int) (b:List aC) (c:List UInt8) (a:Int):Option Int:=
 cond (bK a (b.length:Int)) (aZ (bW a b.length) (cond (seq (nth (default:aC) b a).Name c) (some a) (d b c (aP .i64 a 1)))) (e)
def eW (k:Nat) (a:List aC) (b:List UInt8):Option Int:=
 share (some (-1)) fun c=>iter (ts:=ye) (R:=Int) k (qk c) a b (0:Int)
def nY (k:Nat):CT:=⟨210,[.d (.sl (.st 0)),.d .str],[],[⟨false,.d (.int .i64),[]⟩],eW k⟩
def lY (k:Nat) (a:List aC) (c:List UInt8):Option Bool:=
 (eW k a c).bind fun b=>cond (b8 0 b) (aZ (bW b a.length) (some (!bH (nth (default:aC) a b).Kind 4))) (some false)
def DN (k:Nat):CT:=⟨209,[.d (.sl (.st 0)),.d .str],[],[⟨false,.d .bool,[]⟩],lY k⟩
def uS (k:Nat) (c:List aD) (b:aH):Option Bool:=
 (lX k c b.Kind).bind fun d=>cond (bK d 0) (some false) (aZ (bW d c.length) (share (fun (a:aH) (f:List aC) (l:Bool)=>cond l (some false) (share (fun (h:aH) (i:List aC) (m:Bool)=>cond m (some false) (cond (seq h.tl ([]:List UInt8)) (some true) ((eW k i h.Field).bind fun j=>aZ (bW j i.length) ((mX k (nth (default:aC) i j) h.tl).bind fun n=>some n)))) fun g=>cond (seq a.dk a.Field) (g a f true) (cond (seq a.cR a.Field) (g a f true) (cond (seq a.dk ([]:List UInt8)) (cond (!seq a.Is ([]:List UInt8)) (g a f true) (g a f (beq (seq a.tl ([]:List UInt8)) (seq a.cR ([]:List UInt8))))) (g a f (beq (seq a.tl ([]:List UInt8)) (seq a.cR ([]:List UInt8)))))))) fun e=>(lY k (nth (default:aD) c d).aV b.Field).bind fun o=>cond (!o) (e b (nth (default:aD) c d).aV true) (cond (!seq b.dk ([]:List UInt8)) ((lY k (nth (default:aD) c d).aV b.dk).bind fun p=>cond (!p) (e b (nth (default:aD) c d).aV true) (cond (!seq b.cR ([]:List UInt8)) ((lY k (nth (default:aD) c d).aV b.cR).bind fun q=>e b (nth (default:aD) c d).aV (!q)) (e b (nth (default:aD) c d).aV false))) (cond (!seq b.cR ([]:List UInt8)) ((lY k (nth (default:aD) c d).aV b.cR).bind fun r=>e b (nth (default:aD) c d).aV (!r)) (e b (nth (default:aD) c d).aV false)))))
def CN (k:Nat):CT:=⟨189,[.d (.sl (.st 1)),.d (.st 2)],[],[⟨false,.d .bool,[]⟩],uS k⟩
abbrev yf:List Ty:=[.sl (.st 2),.str,.str,.sl .str,.int .i64]
def ql (q:Option Bool) (g:Nat) (r:List aH→List UInt8→List UInt8→List (List UInt8)→Int→Option Bool) (a:List aH) (e:List UInt8) (f:List UInt8) (c:List (List UInt8)) (b:Int):Option Bool:=
 cond (bK b (a.length:Int)) (aZ (bW b a.length) (share (fun (h:List aH) (i:List UInt8) (j:List UInt8) (k:List (List UInt8)) (l:Int) (m:Bool)=>cond m (some false) (r h i j k (aP .i64 l 1))) fun d=>cond (seq (nth (default:aH) a b).Kind e) (cond (seq (nth (default:aH) a b).Field f) (cond (!seq (nth (default:aH) a b).dk ([]:List UInt8)) ((nW g c (nth (default:aH) a b).dk).bind fun n=>cond (!n) (d a e f c b true) (cond (!seq (nth (default:aH) a b).cR ([]:List UInt8)) ((nW g c (nth (default:aH) a b).cR).bind fun o=>d a e f c b (!o)) (d a e f c b false))) (cond (!seq (nth (default:aH) a b).cR ([]:List UInt8)) ((nW g c (nth (default:aH) a b).cR).bind fun p=>d a e f c b (!p)) (d a e f c b false))) (d a e f c b false)) (d a e f c b false))) (q)
def xt (k:Nat) (b:List aH) (c:List UInt8) (d:List UInt8) (e:List (List UInt8)):Option Bool:=
 share (some true) fun a=>iter (ts:=yf) (R:=Bool) k (ql a) b c d e (0:Int)
def DO (k:Nat):CT:=⟨212,[.d (.sl (.st 2)),.d .str,.d .str,.d (.sl .str)],[],[⟨false,.d .bool,[]⟩],xt k⟩
abbrev ue:List Ty:=[.sl (.st 2),.st 1,.int .i64,.int .i64,.sl .str]
def pX (g:List aH→aD→Int→List (List UInt8)→Option (List (List UInt8))) (h:Nat) (n:List aH→aD→Int→Int→List (List UInt8)→Option (List (List UInt8))) (d:List aH) (a:aD) (e:Int) (b:Int) (c:List (List UInt8)):Option (List (List UInt8)):=
 cond (bK b (a.aV.length:Int)) (aZ (bW b a.aV.length) (share (fun (i:List aH) (j:aD) (k:Int) (o:Int) (l:List UInt8) (p:Bool) (f:List (List UInt8))=>cond p (aZ (mv (f.length+([l]:List (List UInt8)).length) 16) (g i j k (f++([l]:List (List UInt8))))) (n i j k (aP .i64 o 1) f)) fun m=>(nW h c (nth (default:aC) a.aV b).Name).bind fun q=>cond (!q) ((xt h d a.Kind (nth (default:aC) a.aV b).Name c).bind fun r=>m d a e b (nth (default:aC) a.aV b).Name r c) (m d a e b (nth (default:aC) a.aV b).Name false c))) (g d a e c)
abbrev AH:List Ty:=[.sl (.st 2),.st 1,.int .i64,.sl .str]
def uT (d:List (List UInt8)→Option (List (List UInt8))) (e:Nat) (f:List aH→aD→Int→List (List UInt8)→Option (List (List UInt8))) (g:List aH) (a:aD) (b:Int) (c:List (List UInt8)):Option (List (List UInt8)):=
 cond (bK b (a.aV.length:Int)) (share (fun (h:List aH) (i:aD) (j:Int) (k:List (List UInt8))=>f h i (aP .i64 j 1) k) fun l=>iter (ts:=ue) (R:=List (List UInt8)) e (pX l) g a b (0:Int) c) (d c)
def yg (k:Nat) (c:aD) (d:List aH):Option (List (List UInt8)):=
 share (fun (a:List (List UInt8))=>some a) fun b=>iter (ts:=AH) (R:=List (List UInt8)) k (uT b) d c (0:Int) ([]:List (List UInt8))
def BN (k:Nat):CT:=⟨190,[.d (.st 1),.d (.sl (.st 2))],[],[⟨false,.d (.sl .str),[]⟩],yg k⟩
abbrev sn:List Ty:=[.sl (.st 1),.sl (.st 2),.int .i64]
def kq (d:Option Bool) (e:Nat) (f:List aD→List aH→Int→Option Bool) (a:List aD) (c:List aH) (b:Int):Option Bool:=
 cond (bK b (a.length:Int)) (aZ (bW b a.length) ((yg e (nth (default:aD) a b) c).bind fun g=>aZ (bW b a.length) (cond (!bH (g.length:Int) ((nth (default:aD) a b).aV.length:Int)) (some false) (f a c (aP .i64 b 1))))) (d)
abbrev so:List Ty:=[.sl (.st 1),.sl (.st 2),.int .i64]
def kr (d:List aD→List aH→Option Bool) (e:Nat) (f:List aD→List aH→Int→Option Bool) (c:List aD) (a:List aH) (b:Int):Option Bool:=
 cond (bK b (a.length:Int)) (aZ (bW b a.length) ((uS e c (nth (default:aH) a b)).bind fun g=>cond (!g) (some false) (f c a (aP .i64 b 1)))) (d c a)
def oR (k:Nat) (a:List aD) (b:List aH):Option Bool:=
 share (fun (i:List aD) (j:List aH) (l:Bool)=>cond l (some false) (share (fun (c:List aD) (d:List aH)=>share (some true) fun e=>iter (ts:=sn) (R:=Bool) k (kq e) c d (0:Int)) fun f=>iter (ts:=so) (R:=Bool) k (kr f) i j (0:Int))) fun g=>(nC k a).bind fun h=>cond (!h) (g a b true) (g a b (bK 12 (b.length:Int)))
def yh (k:Nat):CT:=⟨155,[.d (.sl (.st 1)),.d (.sl (.st 2))],[],[⟨false,.d .bool,[]⟩],oR k⟩
abbrev zE:List Ty:=[.sl (.st 3),.str,.int .i64]
def sq (e:Option Bool) (f:Nat) (d:List aJ→List UInt8→Int→Option Bool) (a:List aJ) (c:List UInt8) (b:Int):Option Bool:=
 cond (bK b (a.length:Int)) (aZ (bW b a.length) (cond (seq (nth (default:aJ) a b).Name c) (some true) (d a c (aP .i64 b 1)))) (e)
def lL (k:Nat) (a:List aJ) (b:List UInt8):Option Bool:=
 share (some false) fun c=>iter (ts:=zE) (R:=Bool) k (sq c) a b (0:Int)
def pY (k:Nat):CT:=⟨67,[.d (.sl (.st 3)),.d .str],[],[⟨false,.d .bool,[]⟩],lL k⟩
abbrev zF:List Ty:=[.sl (.st 3),.str,.int .i64]
def ss (e:Option (List UInt8)) (f:Nat) (d:List aJ→List UInt8→Int→Option (List UInt8)) (a:List aJ) (c:List UInt8) (b:Int):Option (List UInt8):=
 cond (bK b (a.length:Int)) (aZ (bW b a.length) (cond (seq (nth (default:aJ) a b).Name c) (aZ (bW b a.length) (some (nth (default:aJ) a b).h_)) (d a c (aP .i64 b 1)))) (e)
def vJ (k:Nat) (a:List aJ) (b:List UInt8):Option (List UInt8):=
 share (some ([]:List UInt8)) fun c=>iter (ts:=zF) (R:=List UInt8) k (ss c) a b (0:Int)
def Ae (k:Nat):CT:=⟨179,[.d (.sl (.st 3)),.d .str],[],[⟨false,.d .str,[]⟩],vJ k⟩
abbrev rD:List Ty:=[.sl (.st 3),.int .i64,.str,.int .i64]
def ju (d:List aJ→Int→List UInt8→Option Bool) (f:Nat) (g:List aJ→Int→List UInt8→Int→Option Bool) (a:List aJ) (c:Int) (b:List UInt8) (e:Int):Option Bool:=
 cond (b8 e 4) (cond (!seq b ([]:List UInt8)) ((vJ f a b).bind fun h=>g a c h (aP .i64 e 1)) (d a c b)) (d a c b)
abbrev eX:List Ty:=[.sl (.st 3),.int .i64]
def dQ (e:Option Bool) (d:Nat) (f:List aJ→Int→Option Bool) (a:List aJ) (b:Int):Option Bool:=
 cond (bK b (a.length:Int)) (share (fun (g:List aJ) (h:Int)=>f g (aP .i64 h 1)) fun i=>aZ (bW b a.length) (share (fun (j:List aJ) (k:Int) (l:Bool) (m:aJ)=>cond l (some false) (share (fun (n:List aJ) (o:Int) (p:List UInt8)=>cond (!seq p ([]:List UInt8)) (some false) (i n o)) fun q=>iter (ts:=rD) (R:=Bool) d (ju q) j k m.Name (0:Int))) fun c=>(cu d (nth (default:aJ) a b).Name).bind fun r=>cond (!r) (c a b true (nth (default:aJ) a b)) (cond (bK 0 b) (aZ (bW (bO .i64 b 1) a.length) (cond (!slt (nth (default:aJ) a (bO .i64 b 1)).Name (nth (default:aJ) a b).Name) (c a b true (nth (default:aJ) a b)) (cond (!seq (nth (default:aJ) a b).h_ ([]:List UInt8)) ((lL d a (nth (default:aJ) a b).h_).bind fun s=>c a b (!s) (nth (default:aJ) a b)) (c a b false (nth (default:aJ) a b))))) (cond (!seq (nth (default:aJ) a b).h_ ([]:List UInt8)) ((lL d a (nth (default:aJ) a b).h_).bind fun t=>c a b (!t) (nth (default:aJ) a b)) (c a b false (nth (default:aJ) a b)))))) (e)
def lh (k:Nat) (b:List aJ):Option Bool:=
 cond (bK 12 (b.length:Int)) (some false) (share (some true) fun a=>iter (ts:=eX) (R:=Bool) k (dQ a) b (0:Int))
def yi (k:Nat):CT:=⟨156,[.d (.sl (.st 3))],[],[⟨false,.d .bool,[]⟩],lh k⟩
def su (k:Nat) (a:aL):Option Bool:=
 (oR k a.cg a.iN).bind fun b=>cond b ((lh k a.dX).bind fun c=>some c) (some false)
def AI (k:Nat):CT:=⟨93,[.d (.st 4)],[],[⟨false,.d .bool,[]⟩],su k⟩
def hG (k:Nat) (a:List aD) (c:aA):Option ((List aC)×Bool):=
 (lX k a c.Kind).bind fun b=>share (fun (d:List aD) (e:Int) (g:Bool)=>cond g (some (([]:List aC),false)) (aZ (bW e d.length) (some ((nth (default:aD) d e).aV,true)))) fun f=>cond (bK b 0) (f a b true) (aZ (bW b a.length) (f a b (!bH ((nth (default:aD) a b).aV.length:Int) (c.aR.length:Int))))
def i_ (k:Nat):CT:=⟨160,[.d (.sl (.st 1)),.d (.st 5)],[],[⟨false,.nO [.d (.sl (.st 0)),.d .bool],[]⟩],hG k⟩
abbrev lZ:List Ty:=[.st 5,.sl (.st 0),.int .i64]
def ja (e:Option (Int×Int)) (f:Nat) (g:aA→List aC→Int→Option (Int×Int)) (c:aA) (b:List aC) (a:Int):Option (Int×Int):=
 cond (bK a (b.length:Int)) (share (fun (h:aA) (i:List aC) (j:Int)=>g h i (aP .i64 j 1)) fun d=>aZ (bW a c.aR.length) (cond (seq (nth ([]:List UInt8) c.aR a) ([]:List UInt8)) (aZ (bW a b.length) (cond (nth (default:aC) b a).c6 (some (2,a)) (d c b a))) (aZ (bW a b.length) (aZ (bW a c.aR.length) ((mX f (nth (default:aC) b a) (nth ([]:List UInt8) c.aR a)).bind fun k=>cond (!k) (some (3,a)) (d c b a)))))) (e)
def xu (k:Nat) (m:List aD) (a:aA):Option (Int×Int):=
 (hG k m a).bind fun c=>share (fun (d:aA) (e:List aC) (f:Bool)=>cond f (some (1,0)) (share (some (0,0)) fun g=>iter (ts:=lZ) (R:=Int×Int) k (ja g) d e (0:Int))) fun b=>cond (!c.2) (b a c.1 true) ((cu k a.Name).bind fun h=>cond (!h) (b a c.1 true) ((cu k a.aX).bind fun i=>cond (!i) (b a c.1 true) (cond (bK 3 (a.b7.length:Int)) (b a c.1 true) ((lg k a.b7).bind fun j=>cond (!j) (b a c.1 true) ((dB k a.Version 0 1000000).bind fun l=>b a c.1 (!l))))))
def DP (k:Nat):CT:=⟨157,[.d (.sl (.st 1)),.d (.st 5)],[],[⟨false,.nO [.d (.int .i64),.d (.int .i64)],[]⟩],xu k⟩
def qS (_k:Nat) (a:List UInt8) (b:List UInt8):Option Int:=
 cond (slt a b) (some (-1)) (cond (!(slt a b||seq a b)) (some 1) (some 0))
def BO (k:Nat):CT:=⟨136,[.d .str,.d .str],[],[⟨false,.d (.int .i64),[]⟩],qS k⟩
def qQ (k:Nat) (a:List UInt8) (c:List UInt8) (b:List UInt8) (d:List UInt8):Option Int:=
 (qS k a b).bind fun e=>cond (!bH e 0) ((qS k a b).bind fun f=>some f) ((qS k c d).bind fun g=>some g)
def sv (k:Nat):CT:=⟨72,[.d .str,.d .str,.d .str,.d .str],[],[⟨false,.d (.int .i64),[]⟩],qQ k⟩
def mY (_k:Nat) (a:aA):Option ((List UInt8)×(List UInt8)×(List UInt8)×Bool×Int×(List (List UInt8))×(List (List UInt8))):=
 aZ (mv (([]:List (List UInt8)).length+a.aR.length) 16) (aZ (mv (([]:List (List UInt8)).length+a.b7.length) 16) (some (a.Kind,a.Name,a.aX,a.Ending,a.Version,(([]:List (List UInt8))++a.aR),(([]:List (List UInt8))++a.b7))))
def qm (k:Nat):CT:=⟨97,[.d (.st 5)],[],[⟨false,.agg [.d .str,.d .str,.d .str,.ow 0,.d .bool,.ow 1,.d (.int .i64)],[.row .str .vs,.row .str .vs]⟩],mY k⟩
abbrev zG:List Ty:=[.sl (.st 0),.int .i64,.st 5,.str,.str,.str,.bool,.int .i64,.sl .str,.sl .str]
def sw (l:aA→List UInt8→List UInt8→List UInt8→Bool→Int→List (List UInt8)→List (List UInt8)→Option aA) (x:Nat) (m:List aC→Int→aA→List UInt8→List UInt8→List UInt8→Bool→Int→List (List UInt8)→List (List UInt8)→Option aA) (c:List aC) (a:Int) (d:aA) (e:List UInt8) (f:List UInt8) (g:List UInt8) (h:Bool) (i:Int) (b:List (List UInt8)) (j:List (List UInt8)):Option aA:=
 cond (bK a (c.length:Int)) (share (fun (n:List aC) (o:Int) (p:aA) (q:List UInt8) (r:List UInt8) (s:List UInt8) (t:Bool) (u:Int) (v:List (List UInt8)) (w:List (List UInt8))=>m n (aP .i64 o 1) p q r s t u v w) fun k=>aZ (bW a b.length) (cond (seq (nth ([]:List UInt8) b a) ([]:List UInt8)) (aZ (bW a c.length) (aZ (bW a b.length) (k c a d e f g h i (oI b a (nth (default:aC) c a).Default) j))) (k c a d e f g h i b j))) (l d e f g h i b j)
def zH (k:Nat) (m:List aD) (b:aA):Option aA:=
 (mY k b).bind fun a=>(hG k m b).bind fun c=>cond (!c.2) (some (⟨a.1,a.2.1,a.2.2.1,a.2.2.2.2.2.1,a.2.2.2.1,a.2.2.2.2.2.2,a.2.2.2.2.1⟩:aA)) (share (fun (n:aA) (d:List UInt8) (e:List UInt8) (f:List UInt8) (g:Bool) (h:Int) (i:List (List UInt8)) (j:List (List UInt8))=>some (⟨d,e,f,i,g,j,h⟩:aA)) fun l=>iter (ts:=zG) (R:=aA) k (sw l) c.1 (0:Int) (⟨([]:List UInt8),([]:List UInt8),([]:List UInt8),[],false,[],0⟩:aA) a.1 a.2.1 a.2.2.1 a.2.2.2.1 a.2.2.2.2.1 a.2.2.2.2.2.1 a.2.2.2.2.2.2)
def Gu (k:Nat):CT:=⟨194,[.d (.sl (.st 1)),.d (.st 5)],[],[⟨false,.d (.st 5),[]⟩],zH k⟩
abbrev fX:List Ty:=[.sl (.st 0),.sl (.st 2),.str,.st 5,.int .i64]
def eY (v:List aC→List UInt8→aA→Option (List UInt8)) (m:Nat) (w:List aC→List aH→List UInt8→aA→Int→Option (List UInt8)) (d:List aC) (a:List aH) (e:List UInt8) (c:aA) (b:Int):Option (List UInt8):=
 cond (bK b (a.length:Int)) (share (fun (n:List aC) (o:List aH) (p:List UInt8) (q:aA) (r:Int)=>w n o p q (aP .i64 r 1)) fun f=>aZ (bW b a.length) (share (fun (j:List aC) (s:List aH) (t:List UInt8) (g:aA) (u:Int) (h:aH)=>cond (seq h.cR ([]:List UInt8)) (some h.tl) ((eW m j h.cR).bind fun i=>aZ (bW i g.aR.length) (cond (!seq (nth ([]:List UInt8) g.aR i) ([]:List UInt8)) (some (nth ([]:List UInt8) g.aR i)) (f j s t g u)))) fun k=>cond (!seq (nth (default:aH) a b).Kind c.Kind) (f d a e c b) (cond (!seq (nth (default:aH) a b).Field e) (f d a e c b) (cond (!seq (nth (default:aH) a b).dk ([]:List UInt8)) ((eW m d (nth (default:aH) a b).dk).bind fun l=>aZ (bW l c.aR.length) (cond (!seq (nth ([]:List UInt8) c.aR l) (nth (default:aH) a b).Is) (f d a e c b) (k d a e c b (nth (default:aH) a b)))) (k d a e c b (nth (default:aH) a b)))))) (v d e c)
def sx (k:Nat) (f:List aC) (g:List aH) (h:aA) (i:List UInt8):Option (List UInt8):=
 share (fun (c:List aC) (d:List UInt8) (a:aA)=>(eW k c d).bind fun b=>aZ (bW b a.aR.length) (some (nth ([]:List UInt8) a.aR b))) fun e=>iter (ts:=fX) (R:=List UInt8) k (eY e) f g i h (0:Int)
def AJ (k:Nat):CT:=⟨213,[.d (.sl (.st 0)),.d (.sl (.st 2)),.d (.st 5),.d .str],[],[⟨false,.d .str,[]⟩],sx k⟩
abbrev w6:List Ty:=[.sl (.st 2),.sl (.st 0),.sl .str,.int .i64,.st 5,.str,.str,.str,.bool,.int .i64,.sl .str,.sl .str]
def oS (o:aA→List UInt8→List UInt8→List UInt8→Bool→Int→List (List UInt8)→List (List UInt8)→Option aA) (k:Nat) (p:List aH→List aC→List (List UInt8)→Int→aA→List UInt8→List UInt8→List UInt8→Bool→Int→List (List UInt8)→List (List UInt8)→Option aA) (l:List aH) (d:List aC) (a:List (List UInt8)) (b:Int) (m:aA) (e:List UInt8) (f:List UInt8) (g:List UInt8) (h:Bool) (i:Int) (c:List (List UInt8)) (j:List (List UInt8)):Option aA:=
 cond (bK b (a.length:Int)) (aZ (bW b a.length) ((eW k d (nth ([]:List UInt8) a b)).bind fun n=>aZ (bW b a.length) ((sx k d l (⟨e,f,g,c,h,j,i⟩:aA) (nth ([]:List UInt8) a b)).bind fun q=>aZ (bW n c.length) (p l d a (aP .i64 b 1) m e f g h i (oI c n q) j)))) (o m e f g h i c j)
def uU (k:Nat) (b:List aD) (d:List aH) (c:aA):Option aA:=
 (mY k c).bind fun a=>(hG k b c).bind fun e=>cond (!e.2) (some (⟨a.1,a.2.1,a.2.2.1,a.2.2.2.2.2.1,a.2.2.2.1,a.2.2.2.2.2.2,a.2.2.2.2.1⟩:aA)) ((lX k b c.Kind).bind fun f=>aZ (bW f b.length) ((yg k (nth (default:aD) b f) d).bind fun p=>share (fun (q:aA) (g:List UInt8) (h:List UInt8) (i:List UInt8) (j:Bool) (l:Int) (m:List (List UInt8)) (n:List (List UInt8))=>some (⟨g,h,i,m,j,n,l⟩:aA)) fun o=>iter (ts:=w6) (R:=aA) k (oS o) d e.1 p (0:Int) (⟨([]:List UInt8),([]:List UInt8),([]:List UInt8),[],false,[],0⟩:aA) a.1 a.2.1 a.2.2.1 a.2.2.2.1 a.2.2.2.2.1 a.2.2.2.2.2.1 a.2.2.2.2.2.2))
def CO (k:Nat):CT:=⟨193,[.d (.sl (.st 1)),.d (.sl (.st 2)),.d (.st 5)],[],[⟨false,.d (.st 5),[]⟩],uU k⟩
def uV (k:Nat) (a:List aD) (b:List aH) (c:aA):Option aA:=
 (zH k a c).bind fun d=>(uU k a b d).bind fun e=>some e
def CP (k:Nat):CT:=⟨159,[.d (.sl (.st 1)),.d (.sl (.st 2)),.d (.st 5)],[],[⟨false,.d (.st 5),[]⟩],uV k⟩
abbrev sy:List Ty:=[.sl .str,.sl .str,.int .i64]
def ku (e:Option Bool) (f:Nat) (d:List (List UInt8)→List (List UInt8)→Int→Option Bool) (b:List (List UInt8)) (c:List (List UInt8)) (a:Int):Option Bool:=
 cond (bK a (b.length:Int)) (aZ (bW a b.length) (aZ (bW a c.length) (cond (!seq (nth ([]:List UInt8) b a) (nth ([]:List UInt8) c a)) (some false) (d b c (aP .i64 a 1))))) (e)
def oT (k:Nat) (a:List (List UInt8)) (b:List (List UInt8)):Option Bool:=
 cond (!bH (a.length:Int) (b.length:Int)) (some false) (share (some true) fun c=>iter (ts:=sy) (R:=Bool) k (ku c) a b (0:Int))
def yj (k:Nat):CT:=⟨158,[.d (.sl .str),.d (.sl .str)],[],[⟨false,.d .bool,[]⟩],oT k⟩
abbrev CQ:List Ty:=[.str,.str,.st 10,.int .i64]
def xw (g:Option Int) (m:Nat) (h:List UInt8→List UInt8→aG→Int→Option Int) (c:List UInt8) (d:List UInt8) (a:aG) (b:Int):Option Int:=
 cond (bK b (a.aO.length:Int)) (share (fun (i:List UInt8) (j:List UInt8) (k:aG) (e:Int) (l:Bool)=>cond l (some e) (h i j k (aP .i64 e 1))) fun f=>aZ (bW b a.aO.length) (cond (seq (nth (default:aA) a.aO b).Kind c) (aZ (bW b a.aO.length) (f c d a b (seq (nth (default:aA) a.aO b).Name d))) (f c d a b false))) (g)
def E2 (k:Nat) (b:aG) (c:List UInt8) (d:List UInt8):Option Int:=
 share (some (-1)) fun a=>iter (ts:=CQ) (R:=Int) k (xw a) c d b (0:Int)
def K5 (k:Nat):CT:=⟨161,[.d (.st 10),.d .str,.d .str],[],[⟨false,.d (.int .i64),[]⟩],E2 k⟩
abbrev gq:List Ty:=[.st 4,.st 10,.int .i64,.sl (.st 0),.int .i64,.st 5]
def eI (h:aL→aG→Int→Option Bool) (i:Nat) (j:aL→aG→Int→List aC→Int→aA→Option Bool) (e:aL) (d:aG) (f:Int) (b:List aC) (a:Int) (c:aA):Option Bool:=
 cond (bK a (b.length:Int)) (share (fun (k:aL) (l:aG) (m:Int) (n:List aC) (o:Int) (p:Bool) (q:aA)=>cond p (some false) (j k l m n (aP .i64 o 1) q)) fun g=>aZ (bW a b.length) (cond (bH (nth (default:aC) b a).Kind 4) (aZ (bW a c.aR.length) (cond (!seq (nth ([]:List UInt8) c.aR a) ([]:List UInt8)) (aZ (bW a b.length) (aZ (bW a c.aR.length) ((E2 i d (nth (default:aC) b a).To (nth ([]:List UInt8) c.aR a)).bind fun r=>g e d f b a (bK r 0) c))) (g e d f b a false c))) (g e d f b a false c))) (h e d f)
abbrev eZ:List Ty:=[.st 4,.st 10,.int .i64]
def dR (m:Option Bool) (c:Nat) (n:aL→aG→Int→Option Bool) (f:aL) (a:aG) (b:Int):Option Bool:=
 cond (bK b (a.aO.length:Int)) (share (fun (o:aL) (p:aG) (q:Int)=>n o p (aP .i64 q 1)) fun r=>aZ (bW b a.aO.length) ((xu c f.cg (nth (default:aA) a.aO b)).bind fun s=>share (fun (k:aL) (e:aG) (d:Int) (t:Bool) (g:aA)=>cond t (some false) (share (fun (h:aL) (u:aG) (v:Int) (w:Bool) (i:aA)=>cond w (some false) ((uV c h.cg h.iN i).bind fun x=>(oT c x.aR i.aR).bind fun y=>cond (!y) (some false) ((hG c h.cg i).bind fun z=>iter (ts:=gq) (R:=Bool) c (eI r) h u v z.1 (0:Int) i))) fun l=>cond (bK 0 d) (aZ (bW (bO .i64 d 1) e.aO.length) (aZ (bW (bO .i64 d 1) e.aO.length) ((qQ c (nth (default:aA) e.aO (bO .i64 d 1)).Kind (nth (default:aA) e.aO (bO .i64 d 1)).Name g.Kind g.Name).bind fun A=>l k e d (b8 0 A) g))) (l k e d false g))) fun j=>cond (!bH s.1 0) (j f a b true (nth (default:aA) a.aO b)) ((lL c f.dX (nth (default:aA) a.aO b).aX).bind fun B=>cond (!B) (j f a b true (nth (default:aA) a.aO b)) ((dB c (nth (default:aA) a.aO b).Version 1 a.vj).bind fun C=>j f a b (!C) (nth (default:aA) a.aO b))))) (m)
def oU (k:Nat) (c:aL) (b:aG):Option Bool:=
 cond (bK 40 (b.aO.length:Int)) (some false) (share (some true) fun a=>iter (ts:=eZ) (R:=Bool) k (dR a) c b (0:Int))
def yk (k:Nat):CT:=⟨94,[.d (.st 4),.d (.st 10)],[],[⟨false,.d .bool,[]⟩],oU k⟩
abbrev pB:List Ty:=[.st 6,.int .i64]
def lj (c:Option Bool) (d:Nat) (e:bF→Int→Option Bool) (a:bF) (b:Int):Option Bool:=
 cond (bK b (a.cU.length:Int)) (aZ (bW b a.cU.length) ((vI d (AE a.cU b)).bind fun f=>cond (!f) (some false) (e a (aP .i64 b 1)))) (c)
abbrev pC:List Ty:=[.st 6,.int .i64]
def ll (d:bF→Option Bool) (e:Nat) (f:bF→Int→Option Bool) (a:bF) (b:Int):Option Bool:=
 cond (bK b (a.b_.length:Int)) (share (fun (g:bF) (h:Int) (i:Bool)=>cond i (some false) (f g (aP .i64 h 1))) fun c=>aZ (bW b a.b_.length) ((dB e (nth 0 a.b_ b) 1 5).bind fun j=>cond (!j) (c a b true) (cond (bK 0 b) (aZ (bW (bO .i64 b 1) a.b_.length) (aZ (bW b a.b_.length) (c a b (b8 (nth 0 a.b_ b) (nth 0 a.b_ (bO .i64 b 1)))))) (c a b false)))) (d a)
def jK (k:Nat) (a:bF):Option Bool:=
 share (fun (c:bF) (d:Bool)=>cond d (some false) (share (fun (e:bF)=>share (some true) fun f=>iter (ts:=pB) (R:=Bool) k (lj f) e (0:Int)) fun g=>iter (ts:=pC) (R:=Bool) k (ll g) c (0:Int))) fun b=>cond (bH (a.b_.length:Int) 0) (b a true) (cond (bK 16 (a.cU.length:Int)) (b a true) (cond (!seq a.Kind ([]:List UInt8)) ((cu k a.Kind).bind fun h=>cond (!h) (b a true) (cond (!seq a.aX ([]:List UInt8)) ((cu k a.aX).bind fun i=>b a (!i)) (b a false))) (cond (!seq a.aX ([]:List UInt8)) ((cu k a.aX).bind fun j=>b a (!j)) (b a false))))
def CR (k:Nat):CT:=⟨162,[.d (.st 6)],[],[⟨false,.d .bool,[]⟩],jK k⟩
abbrev tP:List Ty:=[.st 10,.int .i64]
def l6 (r:Option Bool) (d:Nat) (e:aG→Int→Option Bool) (a:aG) (b:Int):Option Bool:=
 cond (bK b (a.bI.length:Int)) (aZ (bW b a.bI.length) (share (fun (f:aG) (g:Int) (h:Bool)=>cond h (some false) (e f (aP .i64 g 1))) fun c=>(dB d (nth (default:aF) a.bI b).Number 1 a.dN).bind fun i=>cond (!i) (c a b true) (cond (bK 0 b) (aZ (bW (bO .i64 b 1) a.bI.length) (cond (b8 (nth (default:aF) a.bI b).Number (nth (default:aF) a.bI (bO .i64 b 1)).Number) (c a b true) ((cu d (nth (default:aF) a.bI b).To).bind fun j=>cond (!j) (c a b true) (cond (!seq (nth (default:aF) a.bI b).By ([]:List UInt8)) ((cu d (nth (default:aF) a.bI b).By).bind fun k=>cond (!k) (c a b true) ((jK d (nth (default:aF) a.bI b).cJ).bind fun l=>c a b (!l))) ((jK d (nth (default:aF) a.bI b).cJ).bind fun m=>c a b (!m)))))) ((cu d (nth (default:aF) a.bI b).To).bind fun n=>cond (!n) (c a b true) (cond (!seq (nth (default:aF) a.bI b).By ([]:List UInt8)) ((cu d (nth (default:aF) a.bI b).By).bind fun o=>cond (!o) (c a b true) ((jK d (nth (default:aF) a.bI b).cJ).bind fun p=>c a b (!p))) ((jK d (nth (default:aF) a.bI b).cJ).bind fun q=>c a b (!q))))))) (r)
def qn (k:Nat) (a:aG):Option Bool:=
 cond (bK 24 (a.bI.length:Int)) (some false) (share (some true) fun b=>iter (ts:=tP) (R:=Bool) k (l6 b) a (0:Int))
def zI (k:Nat):CT:=⟨95,[.d (.st 10)],[],[⟨false,.d .bool,[]⟩],qn k⟩
abbrev w7:List Ty:=[.str,.str,.st 10,.int .i64]
def oV (g:Option Int) (m:Nat) (h:List UInt8→List UInt8→aG→Int→Option Int) (c:List UInt8) (d:List UInt8) (a:aG) (b:Int):Option Int:=
 cond (bK b (a.aK.length:Int)) (share (fun (i:List UInt8) (j:List UInt8) (k:aG) (e:Int) (l:Bool)=>cond l (some e) (h i j k (aP .i64 e 1))) fun f=>aZ (bW b a.aK.length) (cond (seq (nth (default:aB) a.aK b).aX c) (aZ (bW b a.aK.length) (f c d a b (seq (nth (default:aB) a.aK b).aN d))) (f c d a b false))) (g)
def mW (k:Nat) (b:aG) (c:List UInt8) (d:List UInt8):Option Int:=
 share (some (-1)) fun a=>iter (ts:=w7) (R:=Int) k (oV a) c d b (0:Int)
def qo (k:Nat):CT:=⟨70,[.d (.st 10),.d .str,.d .str],[],[⟨false,.d (.int .i64),[]⟩],mW k⟩
def qp (k:Nat) (a:aE) (b:aE):Option Int:=
 cond (!seq a.fL b.fL) ((qS k a.fL b.fL).bind fun c=>some c) ((qQ k a.aX a.aN b.aX b.aN).bind fun d=>some d)
def zJ (k:Nat):CT:=⟨140,[.d (.st 9),.d (.st 9)],[],[⟨false,.d (.int .i64),[]⟩],qp k⟩
abbrev vK:List Ty:=[.sl (.st 3),.str,.str,.int .i64]
def nD (e:Option Bool) (f:Nat) (g:List aJ→List UInt8→List UInt8→Int→Option Bool) (b:List aJ) (h:List UInt8) (c:List UInt8) (d:Int):Option Bool:=
 cond (bK d 4) ((vJ f b h).bind fun a=>cond (seq a ([]:List UInt8)) (some false) (cond (seq a c) (some true) (g b a c (aP .i64 d 1)))) (e)
def yl (k:Nat) (d:List aJ) (a:List UInt8) (b:List UInt8):Option Bool:=
 cond (seq a b) (some true) (share (some false) fun c=>iter (ts:=vK) (R:=Bool) k (nD c) d a b (0:Int))
def AK (k:Nat):CT:=⟨134,[.d (.sl (.st 3)),.d .str,.d .str],[],[⟨false,.d .bool,[]⟩],yl k⟩
abbrev tQ:List Ty:=[.str,.st 5,.sl (.st 0),.int .i64,.int .i64]
def l7 (w:Int→Option Int) (n:Nat) (o:List UInt8→aA→List aC→Int→Int→Option Int) (d:List UInt8) (c:aA) (b:List aC) (e:Int) (a:Int):Option Int:=
 cond (bK a (b.length:Int)) (share (fun (p:List UInt8) (q:aA) (r:List aC) (s:Int) (t:Int)=>o p q r s (aP .i64 t 1)) fun h=>aZ (bW a c.aR.length) ((pW n (nth ([]:List UInt8) c.aR a)).bind fun f=>share (fun (i:List UInt8) (j:aA) (k:List aC) (l:Int) (m:Int) (u:Int) (v:Bool)=>cond v (h i j k (aP .i64 l u) m) (h i j k l m)) fun g=>aZ (bW a b.length) (cond (bH (nth (default:aC) b a).Kind 1) (aZ (bW a b.length) (cond (seq (nth (default:aC) b a).bC d) (g d c b e a f (bK 0 f)) (g d c b e a f false))) (g d c b e a f false)))) (w e)
def qt (k:Nat) (q:aL) (c:aA) (d:List UInt8):Option Int:=
 (hG k q.cg c).bind fun e=>share (fun (f:List UInt8) (g:aA) (h:List aC) (i:Bool)=>cond i (some 0) (share (fun (j:List UInt8) (l:aA) (m:List aC) (n:Int)=>share (fun (o:Int)=>some o) fun p=>iter (ts:=tQ) (R:=Int) k (l7 p) j l m n (0:Int)) fun a=>cond (seq f g.Kind) (a f g h 1) (a f g h 0))) fun b=>cond (!e.2) (b d c e.1 true) (b d c e.1 (seq d ([]:List UInt8)))
def zK (k:Nat):CT:=⟨135,[.d (.st 4),.d (.st 5),.d .str],[],[⟨false,.d (.int .i64),[]⟩],qt k⟩
abbrev w8:List Ty:=[.str,.str,.st 4,.st 10,.int .i64,.int .i64]
def oW (i:Int→Option Int) (g:Nat) (j:List UInt8→List UInt8→aL→aG→Int→Int→Option Int) (d:List UInt8) (e:List UInt8) (c:aL) (a:aG) (f:Int) (b:Int):Option Int:=
 cond (bK b (a.aO.length:Int)) (share (fun (k:List UInt8) (l:List UInt8) (m:aL) (n:aG) (o:Int) (p:Int)=>j k l m n o (aP .i64 p 1)) fun h=>aZ (bW b a.aO.length) ((yl g c.dX (nth (default:aA) a.aO b).aX d).bind fun q=>cond q (aZ (bW b a.aO.length) ((qt g c (nth (default:aA) a.aO b) e).bind fun r=>h d e c a (aP .i64 f r) b)) (h d e c a f b))) (i f)
def pT (k:Nat) (c:aL) (d:aG) (e:List UInt8) (f:List UInt8):Option Int:=
 share (fun (a:Int)=>some a) fun b=>iter (ts:=w8) (R:=Int) k (oW b) e f c d (0:Int) (0:Int)
def we (k:Nat):CT:=⟨71,[.d (.st 4),.d (.st 10),.d .str,.d .str],[],[⟨false,.d (.int .i64),[]⟩],pT k⟩
abbrev AL:List Ty:=[.str,.str,.st 10,.int .i64,.int .i64]
def uW (m:Int→Option Int) (u:Nat) (n:List UInt8→List UInt8→aG→Int→Int→Option Int) (e:List UInt8) (f:List UInt8) (a:aG) (g:Int) (b:Int):Option Int:=
 cond (bK b (a.aW.length:Int)) (share (fun (o:List UInt8) (p:List UInt8) (q:aG) (r:Int) (s:Int)=>n o p q r (aP .i64 s 1)) fun h=>share (fun (i:List UInt8) (j:List UInt8) (c:aG) (k:Int) (d:Int) (t:Bool)=>cond t (aZ (bW d c.aW.length) (h i j c (aP .i64 k (nth (default:aE) c.aW d).cF) d)) (h i j c k d)) fun l=>aZ (bW b a.aW.length) (cond (seq (nth (default:aE) a.aW b).aX e) (aZ (bW b a.aW.length) (l e f a g b (seq (nth (default:aE) a.aW b).aN f))) (l e f a g b false))) (m g)
def BP (k:Nat) (c:aG) (d:List UInt8) (e:List UInt8):Option Int:=
 share (fun (a:Int)=>some a) fun b=>iter (ts:=AL) (R:=Int) k (uW b) d e c (0:Int) (0:Int)
def Ic (k:Nat):CT:=⟨163,[.d (.st 10),.d .str,.d .str],[],[⟨false,.d (.int .i64),[]⟩],BP k⟩
abbrev nZ:List Ty:=[.st 4,.st 10,.int .i64]
def jv (n:Option Bool) (g:Nat) (o:aL→aG→Int→Option Bool) (d:aL) (a:aG) (b:Int):Option Bool:=
 cond (bK b (a.aK.length:Int)) (aZ (bW b a.aK.length) (share (fun (k:aL) (e:aG) (c:Int) (p:Bool) (i:aB)=>cond p (some false) (share (fun (l:aL) (j:aG) (q:Int) (r:Bool) (f:aB)=>cond r (some false) ((pT g l j f.aX f.aN).bind fun s=>(BP g j f.aX f.aN).bind fun t=>cond (!bH (aP .i64 (aP .i64 s t) f.gE) f.bT) (some false) (o l j (aP .i64 q 1)))) fun m=>cond (bK 0 c) (aZ (bW (bO .i64 c 1) e.aK.length) (aZ (bW (bO .i64 c 1) e.aK.length) ((qQ g (nth (default:aB) e.aK (bO .i64 c 1)).aX (nth (default:aB) e.aK (bO .i64 c 1)).aN i.aX i.aN).bind fun u=>m k e c (b8 0 u) i))) (m k e c false i))) fun h=>(lL g d.dX (nth (default:aB) a.aK b).aX).bind fun v=>cond (!v) (h d a b true (nth (default:aB) a.aK b)) ((cu g (nth (default:aB) a.aK b).aN).bind fun w=>cond (!w) (h d a b true (nth (default:aB) a.aK b)) (cond (bK (nth (default:aB) a.aK b).gE 0) (h d a b true (nth (default:aB) a.aK b)) (cond (bK (nth (default:aB) a.aK b).bT (nth (default:aB) a.aK b).gE) (h d a b true (nth (default:aB) a.aK b)) (h d a b (bK 1000000 (nth (default:aB) a.aK b).bT) (nth (default:aB) a.aK b))))))) (n)
abbrev w9:List Ty:=[.st 4,.st 10,.int .i64]
def oX (p:aL→aG→Option Bool) (e:Nat) (f:aL→aG→Int→Option Bool) (c:aL) (a:aG) (b:Int):Option Bool:=
 cond (bK b (a.aW.length:Int)) (aZ (bW b a.aW.length) (share (fun (g:aL) (h:aG) (i:Int) (j:Bool)=>cond j (some false) (f g h (aP .i64 i 1))) fun d=>(cu e (nth (default:aE) a.aW b).fL).bind fun k=>cond (!k) (d c a b true) ((mW e a (nth (default:aE) a.aW b).aX (nth (default:aE) a.aW b).aN).bind fun l=>cond (bK l 0) (d c a b true) ((dB e (nth (default:aE) a.aW b).cF 1 1000000).bind fun m=>cond (!m) (d c a b true) ((dB e (nth (default:aE) a.aW b).dW a.dP (aP .i64 a.dP 10)).bind fun n=>cond (!n) (d c a b true) (cond (bK 0 b) (aZ (bW (bO .i64 b 1) a.aW.length) ((qp e (nth (default:aE) a.aW (bO .i64 b 1)) (nth (default:aE) a.aW b)).bind fun o=>d c a b (b8 0 o))) (d c a b false))))))) (p c a)
def uX (k:Nat) (c:aL) (a:aG):Option Bool:=
 share (fun (h:aL) (i:aG) (j:Bool)=>cond j (some false) (share (fun (d:aL) (e:aG)=>share (some true) fun b=>iter (ts:=nZ) (R:=Bool) k (jv b) d e (0:Int)) fun f=>iter (ts:=w9) (R:=Bool) k (oX f) h i (0:Int))) fun g=>cond (bK 10 (a.aK.length:Int)) (g c a true) (g c a (bK 24 (a.aW.length:Int)))
def CS (k:Nat):CT:=⟨96,[.d (.st 4),.d (.st 10)],[],[⟨false,.d .bool,[]⟩],uX k⟩
def iW (k:Nat) (c:aL) (a:aG):Option Bool:=
 share (fun (e:aL) (d:aG) (f:Bool)=>cond f (some false) ((oU k e d).bind fun g=>cond g ((qn k d).bind fun h=>cond h ((uX k e d).bind fun i=>some i) (some false)) (some false))) fun b=>(su k c).bind fun j=>cond (!j) (b c a true) ((dB k a.vj 0 1000000).bind fun l=>cond (!l) (b c a true) ((dB k a.dP 0 1000000).bind fun m=>cond (!m) (b c a true) ((dB k a.dN 0 a.vj).bind fun n=>b c a (!n))))
def nE (k:Nat):CT:=⟨34,[.d (.st 4),.d (.st 10)],[],[⟨false,.d .bool,[]⟩],iW k⟩
def Af (_k:Nat) (a:bF):Option ((List UInt8)×(List UInt8)×(List UInt8)×(List Int)):=
 aZ (mv (([]:List Int).length+a.b_.length) 8) (some (a.Kind,a.aX,a.cU,(([]:List Int)++a.b_)))
def CU (k:Nat):CT:=⟨98,[.d (.st 6)],[],[⟨false,.agg [.ow 0,.d .str,.d .str,.d .str],[.row (.int .i64) .vs]⟩],Af k⟩
abbrev pD:List Ty:=[.int .i64,.st 10,.int .i64,.int .i64,.int .i64,.int .i64,.int .i64,.int .i64,.sl (.st 5),.sl (.st 7),.sl (.st 8),.sl (.st 9),.sl (.st 5),.sl (.st 7),.sl (.st 8),.sl (.st 9)]
def ln (r:aG→Int→Int→Int→Int→Int→Int→List aA→List aF→List aB→List aE→List aA→List aF→List aB→List aE→Option (Int×Int×Int×(List aA)×(List aF)×(List aB)×(List aE))) (s:Nat) (t:Int→aG→Int→Int→Int→Int→Int→Int→List aA→List aF→List aB→List aE→List aA→List aF→List aB→List aE→Option (Int×Int×Int×(List aA)×(List aF)×(List aB)×(List aE))) (b:Int) (a:aG) (e:Int) (f:Int) (g:Int) (h:Int) (i:Int) (j:Int) (k:List aA) (l:List aF) (m:List aB) (n:List aE) (o:List aA) (d:List aF) (p:List aB) (q:List aE):Option (Int×Int×Int×(List aA)×(List aF)×(List aB)×(List aE)):=
 cond (bK b (a.bI.length:Int)) (aZ (bW b a.bI.length) ((Af s (nth (default:aF) a.bI b).cJ).bind fun c=>aZ (mv (d.length+([(⟨(nth (default:aF) a.bI b).Number,(nth (default:aF) a.bI b).To,(nth (default:aF) a.bI b).By,(⟨c.2.2.2,c.1,c.2.1,c.2.2.1⟩:bF)⟩:aF)]:List aF).length) 112) (t (aP .i64 b 1) a e f g h i j k l m n o (d++([(⟨(nth (default:aF) a.bI b).Number,(nth (default:aF) a.bI b).To,(nth (default:aF) a.bI b).By,(⟨c.2.2.2,c.1,c.2.1,c.2.2.1⟩:bF)⟩:aF)]:List aF)) p q))) (r a e f g h i j k l m n o d p q)
abbrev pE:List Ty:=[.int .i64,.st 10,.int .i64,.int .i64,.int .i64,.int .i64,.int .i64,.int .i64,.sl (.st 5),.sl (.st 7),.sl (.st 8),.sl (.st 9),.sl (.st 5),.sl (.st 7),.sl (.st 8),.sl (.st 9)]
def lq (t:aG→Int→Int→Int→Int→Int→Int→List aA→List aF→List aB→List aE→List aA→List aF→List aB→List aE→Option (Int×Int×Int×(List aA)×(List aF)×(List aB)×(List aE))) (r:Nat) (s:Int→aG→Int→Int→Int→Int→Int→Int→List aA→List aF→List aB→List aE→List aA→List aF→List aB→List aE→Option (Int×Int×Int×(List aA)×(List aF)×(List aB)×(List aE))) (c:Int) (b:aG) (e:Int) (f:Int) (g:Int) (h:Int) (i:Int) (j:Int) (k:List aA) (l:List aF) (m:List aB) (n:List aE) (d:List aA) (o:List aF) (p:List aB) (q:List aE):Option (Int×Int×Int×(List aA)×(List aF)×(List aB)×(List aE)):=
 cond (bK c (b.aO.length:Int)) (aZ (bW c b.aO.length) ((mY r (nth (default:aA) b.aO c)).bind fun a=>aZ (mv (d.length+([(⟨a.1,a.2.1,a.2.2.1,a.2.2.2.2.2.1,a.2.2.2.1,a.2.2.2.2.2.2,a.2.2.2.2.1⟩:aA)]:List aA).length) 112) (s (aP .i64 c 1) b e f g h i j k l m n (d++([(⟨a.1,a.2.1,a.2.2.1,a.2.2.2.2.2.1,a.2.2.2.1,a.2.2.2.2.2.2,a.2.2.2.2.1⟩:aA)]:List aA)) o p q))) (t b e f g h i j k l m n d o p q)
def mV (k:Nat) (d:aG):Option (Int×Int×Int×(List aA)×(List aF)×(List aB)×(List aE)):=
 share (fun (h:aG) (i:Int) (j:Int) (l:Int) (m:Int) (n:Int) (o:Int) (p:List aA) (q:List aF) (r:List aB) (s:List aE) (t:List aA) (u:List aF) (v:List aB) (w:List aE)=>share (fun (a:aG) (E:Int) (F:Int) (G:Int) (x:Int) (y:Int) (z:Int) (H:List aA) (B:List aF) (C:List aB) (D:List aE) (e:List aA) (f:List aF) (b:List aB) (c:List aE)=>aZ (mv (b.length+a.aK.length) 48) (aZ (mv (c.length+a.aW.length) 64) (some (x,y,z,e,f,(b++a.aK),(c++a.aW))))) fun g=>iter (ts:=pD) (R:=Int×Int×Int×(List aA)×(List aF)×(List aB)×(List aE)) k (ln g) (0:Int) h i j l m n o p q r s t u v w) fun A=>iter (ts:=pE) (R:=Int×Int×Int×(List aA)×(List aF)×(List aB)×(List aE)) k (lq A) (0:Int) d (0:Int) (0:Int) (0:Int) d.vj d.dP d.dN [] [] [] [] [] [] [] []
def qu (k:Nat):CT:=⟨35,[.d (.st 10)],[],[⟨false,.agg [.d (.int .i64),.d (.int .i64),.d (.int .i64),.ow 0,.ow 1,.ow 2,.ow 3],[.row (.st 5) .dv,.row (.st 7) .dv,.row (.st 8) .vs,.row (.st 9) .vs]⟩],mV k⟩
def xy (_k:Nat) (a:List aE) (b:Int):Option (List aE):=
 aZ (O5 0 b a.length) (aZ (mv (([]:List aE).length+(BQ a 0 b).length) 64) (aZ (O5 (aP .i64 b 1) (a.length:Int) a.length) (aZ (mv ((([]:List aE)++(BQ a 0 b)).length+(BQ a (aP .i64 b 1) (a.length:Int)).length) 64) (some ((([]:List aE)++(BQ a 0 b))++(BQ a (aP .i64 b 1) (a.length:Int)))))))
def DQ (k:Nat):CT:=⟨99,[.d (.sl (.st 9)),.d (.int .i64)],[],[⟨false,.ow 0,[.row (.st 9) .vs]⟩],xy k⟩
def pQ (k:Nat) (f:Int) (g:Int) (h:Int) (b:Int) (i:List aA) (j:List aF) (c:List aB) (a:List aE):Option (Int×Int×Int×(List aA)×(List aF)×(List aB)×(List aE)×(List aE)):=
 aZ (bW b a.length) ((mW k (⟨f,g,h,i,j,c,a⟩:aG) (nth (default:aE) a b).aX (nth (default:aE) a b).aN).bind fun d=>aZ (bW d c.length) (aZ (bW d c.length) ((xy k a b).bind fun l=>some (f,g,h,i,j,(bB c d (fun e=>(⟨e.aX,e.aN,e.bT,(aP .i64 (nth (default:aB) c d).gE (nth (default:aE) a b).cF)⟩:aB))),a,l))))
def wg (k:Nat):CT:=⟨36,[.agg [.d (.int .i64),.d (.int .i64),.d (.int .i64),.ow 0,.ow 1,.ow 2,.ow 3],.d (.int .i64)],[.row (.st 5) .dv,.row (.st 7) .dv,.row (.st 8) .vs,.row (.st 9) .vs],[⟨false,.agg [.d (.int .i64),.d (.int .i64),.d (.int .i64),.ow 0,.ow 1,.ow 2,.ow 4],[.row (.st 5) .dv,.row (.st 7) .dv,.row (.st 8) .vs,.row (.st 9) .vs,.row (.st 9) .vs]⟩],pQ k⟩
def uY (_k:Nat) (a:Int):Option Bool:=
 cond (b8 97 a) (cond (b8 a 122) (some true) (cond (b8 48 a) (cond (b8 a 57) (some true) (some (bH a 45))) (some (bH a 45)))) (cond (b8 48 a) (cond (b8 a 57) (some true) (some (bH a 45))) (some (bH a 45)))
def CV (k:Nat):CT:=⟨181,[.d (.int .u8)],[],[⟨false,.d .bool,[]⟩],uY k⟩
abbrev vL:List Ty:=[.str,.int .i64,.int .i64]
def nF (d:Option Bool) (e:Nat) (f:List UInt8→Int→Int→Option Bool) (b:List UInt8) (c:Int) (a:Int):Option Bool:=
 cond (bK a c) (aZ (bW a b.length) ((uY e (AE b a)).bind fun g=>cond (!g) (some false) (f b c (aP .i64 a 1)))) (d)
def fY (k:Nat) (a:List UInt8):Option Bool:=
 share (some true) fun b=>iter (ts:=vL) (R:=Bool) k (nF b) a (a.length:Int) (0:Int)
def uf (k:Nat):CT:=⟨137,[.d .str],[],[⟨false,.d .bool,[]⟩],fY k⟩
def cY (k:Nat) (a:List UInt8):Option Bool:=
 cond (b8 1 (a.length:Int)) (cond (b8 (a.length:Int) 16) ((fY k a).bind fun b=>some b) (some false)) (some false)
def d_ (k:Nat):CT:=⟨74,[.d .str],[],[⟨false,.d .bool,[]⟩],cY k⟩
abbrev pt:List Ty:=[.sl .str,.sl .str,.int .i64,.int .i64]
def gZ (f:Option Bool) (g:Nat) (h:List (List UInt8)→List (List UInt8)→Int→Int→Option Bool) (c:List (List UInt8)) (b:List (List UInt8)) (d:Int) (a:Int):Option Bool:=
 cond (bK a d) (aZ (bW a b.length) (share (fun (i:List (List UInt8)) (j:List (List UInt8)) (k:Int) (l:Int) (m:Bool)=>cond m (some false) (h i j k (aP .i64 l 1))) fun e=>(cY g (nth ([]:List UInt8) b a)).bind fun n=>cond (!n) (e c b d a true) (cond (bK 0 a) (aZ (bW (bO .i64 a 1) c.length) (e c b d a (!slt (nth ([]:List UInt8) c (bO .i64 a 1)) (nth ([]:List UInt8) b a)))) (e c b d a false)))) (f)
def fg (k:Nat) (a:List (List UInt8)):Option Bool:=
 share (some true) fun b=>iter (ts:=pt) (R:=Bool) k (gZ b) a a (a.length:Int) (0:Int)
def iF (k:Nat):CT:=⟨214,[.d (.sl .str)],[],[⟨false,.d .bool,[]⟩],fg k⟩
def uZ (_k:Nat) (a:aC):Option bJ:=
 some (⟨a⟩:bJ)
def CW (k:Nat):CT:=⟨233,[.d (.st 0)],[],[⟨false,.pJ 292 (.d (.st 14)),[]⟩],uZ k⟩
def u4 (_k:Nat) (a:aC):Option bJ:=
 some (⟨a⟩:bJ)
def CX (k:Nat):CT:=⟨232,[.d (.st 0)],[],[⟨false,.pJ 291 (.d (.st 14)),[]⟩],u4 k⟩
def u5 (_k:Nat) (a:aC):Option bJ:=
 some (⟨a⟩:bJ)
def CY (k:Nat):CT:=⟨231,[.d (.st 0)],[],[⟨false,.pJ 290 (.d (.st 14)),[]⟩],u5 k⟩
def u6 (_k:Nat) (a:aC):Option bJ:=
 some (⟨a⟩:bJ)
def CZ (k:Nat):CT:=⟨230,[.d (.st 0)],[],[⟨false,.pJ 288 (.d (.st 14)),[]⟩],u6 k⟩
def vM (k:Nat) (a:aC):Option (Unit ⊕ (bJ ⊕ (bJ ⊕ (bJ ⊕ bJ)))):=
 cond (bH a.Kind 1) ((u6 k a).bind fun b=>some (.inr (.inr (.inr (.inr b))))) (cond (bH a.Kind 2) ((u5 k a).bind fun c=>some (.inr (.inr (.inr (.inl c))))) (cond (bH a.Kind 3) ((u4 k a).bind fun d=>some (.inr (.inr (.inl d)))) (cond (bH a.Kind 4) ((uZ k a).bind fun e=>some (.inr (.inl e))) (some (.inl ())))))
def Ag (k:Nat):CT:=⟨224,[.d (.st 0)],[],[⟨false,.nO [.QD,.kb false],[]⟩,⟨false,.nO [.pJ 292 (.d (.st 14)),.kb true],[]⟩,⟨false,.nO [.pJ 291 (.d (.st 14)),.kb true],[]⟩,⟨false,.nO [.pJ 290 (.d (.st 14)),.kb true],[]⟩,⟨false,.nO [.pJ 288 (.d (.st 14)),.kb true],[]⟩],vM k⟩
def n4 (_k:Nat) (a:bJ):Option Bool:=
 cond (bH a.aC.bS 0) (cond (bH a.aC.bT 0) (cond (bH (a.aC.Words.length:Int) 0) (some (seq a.aC.bC ([]:List UInt8))) (some false)) (some false)) (some false)
def sA (k:Nat):CT:=⟨267,[.d (.st 14)],[],[⟨false,.d .bool,[]⟩],n4 k⟩
abbrev n5:List Ty:=[.st 14,.bool,.sl .str,.int .i64,.int .i64]
def gr (g:bJ→Bool→Option Bool) (n:Nat) (h:bJ→Bool→List (List UInt8)→Int→Int→Option Bool) (b:bJ) (e:Bool) (c:List (List UInt8)) (d:Int) (a:Int):Option Bool:=
 cond (bK a d) (share (fun (i:bJ) (j:Bool) (k:List (List UInt8)) (l:Int) (m:Int)=>h i j k l (aP .i64 m 1)) fun f=>aZ (bW a c.length) (cond e (f b true c d a) (f b (seq (nth ([]:List UInt8) c a) b.aC.To) c d a))) (g b e)
def jw (k:Nat) (e:bJ) (b:List (List UInt8)):Option Bool:=
 share (fun (a:bJ) (c:Bool)=>cond c (cond (b8 1 a.aC.cG) (cond (b8 a.aC.cG 3) (cond (seq a.aC.Default ([]:List UInt8)) (cond (bH a.aC.cG 2) (some (!a.aC.c6)) (some true)) (some false)) (some false)) (some false)) (some false)) fun d=>iter (ts:=n5) (R:=Bool) k (gr d) e false b (b.length:Int) (0:Int)
def sB (k:Nat):CT:=⟨269,[.d (.st 14),.d (.sl .str)],[],[⟨false,.d .bool,[]⟩],jw k⟩
def pF (k:Nat) (c:bJ) (a:List UInt8):Option Bool:=
 (cY k a).bind fun b=>some b
def tR (k:Nat):CT:=⟨268,[.d (.st 14),.d .str],[],[⟨false,.d .bool,[]⟩],pF k⟩
abbrev pv:List Ty:=[.str,.int .i64,.int .i64]
def g0 (e:Option Bool) (k:Nat) (f:List UInt8→Int→Int→Option Bool) (b:List UInt8) (c:Int) (a:Int):Option Bool:=
 cond (bK a c) (share (fun (g:List UInt8) (h:Int) (i:Int) (j:Bool)=>cond j (some false) (f g h (aP .i64 i 1))) fun d=>aZ (bW a b.length) (cond (bK (AE b a) 33) (d b c a true) (aZ (bW a b.length) (d b c a (bK 126 (AE b a)))))) (e)
def kx (k:Nat) (b:bJ) (a:List UInt8):Option Bool:=
 share (fun (c:List UInt8) (f:Bool)=>cond f (some false) (share (some true) fun d=>iter (ts:=pv) (R:=Bool) k (g0 d) c (c.length:Int) (0:Int))) fun e=>cond (bK (a.length:Int) b.aC.bS) (e a true) (e a (bK b.aC.bT (a.length:Int)))
def tS (k:Nat):CT:=⟨265,[.d (.st 14),.d .str],[],[⟨false,.d .bool,[]⟩],kx k⟩
abbrev pw:List Ty:=[.str,.sl .str,.int .i64,.int .i64]
def g6 (f:Option Bool) (g:Nat) (e:List UInt8→List (List UInt8)→Int→Int→Option Bool) (c:List UInt8) (b:List (List UInt8)) (d:Int) (a:Int):Option Bool:=
 cond (bK a d) (aZ (bW a b.length) (cond (seq (nth ([]:List UInt8) b a) c) (some true) (e c b d (aP .i64 a 1)))) (f)
def ky (k:Nat) (a:bJ) (b:List UInt8):Option Bool:=
 share (some false) fun c=>iter (ts:=pw) (R:=Bool) k (g6 c) b a.aC.Words (a.aC.Words.length:Int) (0:Int)
def tT (k:Nat):CT:=⟨262,[.d (.st 14),.d .str],[],[⟨false,.d .bool,[]⟩],ky k⟩
abbrev ym:List Ty:=[.str,.int .i64,.int .i64,.int .i64]
def qw (l:Int→Option (Int×Bool)) (n:Nat) (m:List UInt8→Int→Int→Int→Option (Int×Bool)) (b:List UInt8) (d:Int) (e:Int) (a:Int):Option (Int×Bool):=
 cond (bK a e) (share (fun (c:List UInt8) (h:Int) (f:Int) (i:Int) (j:Int) (k:Bool)=>cond k (some (0,false)) (aZ (bW f c.length) (m c (aP .i64 (Xk .i64 h 10) (zo .i64 (bO .u8 (AE c f) 48))) i (aP .i64 j 1)))) fun g=>aZ (bW a b.length) (cond (bK (AE b a) 48) (g b d a e a true) (aZ (bW a b.length) (g b d a e a (bK 57 (AE b a)))))) (l d)
def sC (k:Nat) (a:List UInt8):Option (Int×Bool):=
 share (fun (c:List UInt8) (f:Bool)=>cond f (some (0,false)) (share (fun (d:Int)=>some (d,true)) fun e=>iter (ts:=ym) (R:=Int×Bool) k (qw e) c (0:Int) (c.length:Int) (0:Int))) fun b=>cond (bK (a.length:Int) 1) (b a true) (cond (bK 7 (a.length:Int)) (b a true) (aZ (bW 0 a.length) (cond (bH (AE a 0) 48) (b a (bK 1 (a.length:Int))) (b a false))))
def yn (k:Nat):CT:=⟨182,[.d .str],[],[⟨false,.nO [.d (.int .i64),.d .bool],[]⟩],sC k⟩
def iG (k:Nat) (b:bJ) (c:List UInt8):Option Bool:=
 (sC k c).bind fun a=>cond a.2 (cond (b8 b.aC.bS a.1) (some (b8 a.1 b.aC.bT)) (some false)) (some false)
def rE (k:Nat):CT:=⟨259,[.d (.st 14),.d .str],[],[⟨false,.d .bool,[]⟩],iG k⟩
def fP (k:Nat) (o:aC) (a:List UInt8):Option Bool:=
 (vM k o).bind fun b=>yo b (fun p=>some false) (fun c=>yo c (fun d=>cond (!seq a ([]:List UInt8)) ((pF k d a).bind fun e=>some e) (some false)) (fun f=>yo f (fun g=>cond (!seq a ([]:List UInt8)) ((kx k g a).bind fun h=>some h) (some false)) (fun i=>yo i (fun j=>cond (!seq a ([]:List UInt8)) ((ky k j a).bind fun l=>some l) (some false)) (fun m=>cond (!seq a ([]:List UInt8)) ((iG k m a).bind fun n=>some n) (some false)))))
def qx (k:Nat):CT:=⟨218,[.d (.st 0),.d .str],[],[⟨false,.d .bool,[]⟩],fP k⟩
def n6 (_k:Nat) (a:bJ):Option Bool:=
 cond (bH (a.aC.Words.length:Int) 0) (cond (seq a.aC.To ([]:List UInt8)) (cond (bH a.aC.cG 0) (some (seq a.aC.bC ([]:List UInt8))) (some false)) (some false)) (some false)
def sD (k:Nat):CT:=⟨264,[.d (.st 14)],[],[⟨false,.d .bool,[]⟩],n6 k⟩
def n7 (_k:Nat) (a:bJ) (b:List (List UInt8)):Option Bool:=
 cond (b8 1 a.aC.bS) (cond (b8 a.aC.bS a.aC.bT) (some (b8 a.aC.bT 40)) (some false)) (some false)
def sE (k:Nat):CT:=⟨266,[.d (.st 14),.d (.sl .str)],[],[⟨false,.d .bool,[]⟩],n7 k⟩
def n9 (_k:Nat) (a:bJ):Option Bool:=
 cond (bH a.aC.bS 0) (cond (bH a.aC.bT 0) (cond (seq a.aC.To ([]:List UInt8)) (cond (bH a.aC.cG 0) (some (seq a.aC.bC ([]:List UInt8))) (some false)) (some false)) (some false)) (some false)
def sF (k:Nat):CT:=⟨261,[.d (.st 14)],[],[⟨false,.d .bool,[]⟩],n9 k⟩
def n_ (k:Nat) (a:bJ) (c:List (List UInt8)):Option Bool:=
 cond (b8 1 (a.aC.Words.length:Int)) (cond (b8 (a.aC.Words.length:Int) 6) ((fg k a.aC.Words).bind fun b=>some b) (some false)) (some false)
def sG (k:Nat):CT:=⟨263,[.d (.st 14),.d (.sl .str)],[],[⟨false,.d .bool,[]⟩],n_ k⟩
def l8 (_k:Nat) (a:bJ):Option Bool:=
 cond (bH (a.aC.Words.length:Int) 0) (cond (seq a.aC.To ([]:List UInt8)) (some (bH a.aC.cG 0)) (some false)) (some false)
def pZ (k:Nat):CT:=⟨258,[.d (.st 14)],[],[⟨false,.d .bool,[]⟩],l8 k⟩
def l9 (k:Nat) (a:bJ) (c:List (List UInt8)):Option Bool:=
 cond (b8 0 a.aC.bS) (cond (b8 a.aC.bS a.aC.bT) (cond (b8 a.aC.bT 1000000) (cond (seq a.aC.bC ([]:List UInt8)) (some true) ((cY k a.aC.bC).bind fun b=>some b)) (some false)) (some false)) (some false)
def p0 (k:Nat):CT:=⟨260,[.d (.st 14),.d (.sl .str)],[],[⟨false,.d .bool,[]⟩],l9 k⟩
abbrev qT:List Ty:=[.sl .str,.sl (.st 0),.int .i64,.int .i64,.sl (.st 15)]
def mL (bw:Option Bool) (d:Nat) (bx:List (List UInt8)→List aC→Int→Int→List cy→Option Bool) (Y:List (List UInt8)) (b:List aC) (q:Int) (a:Int) (j:List cy):Option Bool:=
 cond (bK a q) (share (fun (Z:List (List UInt8)) (aa:List aC) (ab:Int) (ad:Int) (ae:List cy)=>bx Z aa ab (aP .i64 ad 1) ae) fun k=>aZ (bW a b.length) (share (fun (c:List (List UInt8)) (f:List aC) (g:Int) (h:Int) (af:Bool) (i:List cy) (e:aC)=>cond af (some false) ((vM d e).bind fun ag=>yo ag (fun bz=>some false) (fun ah=>yo ah (fun r=>share (fun (s:List (List UInt8)) (t:List aC) (u:Int) (v:Int) (ai:Bool) (w:List cy) (l:aC)=>cond ai (some false) (share (fun (aj:List (List UInt8)) (ak:List aC) (al:Int) (an:Int) (ao:Bool) (aq:List cy)=>cond ao (some false) (k aj ak al an aq)) fun x=>cond (!seq l.Default ([]:List UInt8)) ((fP d l l.Default).bind fun ar=>x s t u v (!ar) w) (x s t u v false w))) fun y=>(n4 d r).bind fun au=>cond (!au) (y c f g h true i e) ((jw d r c).bind fun av=>y c f g h (!av) i e)) (fun aw=>yo aw (fun z=>share (fun (A:List (List UInt8)) (B:List aC) (C:Int) (D:Int) (ax:Bool) (E:List cy) (m:aC)=>cond ax (some false) (share (fun (ay:List (List UInt8)) (az:List aC) (a0:Int) (a1:Int) (a2:Bool) (a3:List cy)=>cond a2 (some false) (k ay az a0 a1 a3)) fun F=>cond (!seq m.Default ([]:List UInt8)) ((fP d m m.Default).bind fun a4=>F A B C D (!a4) E) (F A B C D false E))) fun G=>(n6 d z).bind fun a5=>cond (!a5) (G c f g h true i e) ((n7 d z c).bind fun a6=>G c f g h (!a6) i e)) (fun a7=>yo a7 (fun H=>share (fun (I:List (List UInt8)) (J:List aC) (K:Int) (L:Int) (a8:Bool) (M:List cy) (n:aC)=>cond a8 (some false) (share (fun (a9:List (List UInt8)) (ba:List aC) (bb:Int) (bc:Int) (bd:Bool) (bf:List cy)=>cond bd (some false) (k a9 ba bb bc bf)) fun N=>cond (!seq n.Default ([]:List UInt8)) ((fP d n n.Default).bind fun bg=>N I J K L (!bg) M) (N I J K L false M))) fun O=>(n9 d H).bind fun bh=>cond (!bh) (O c f g h true i e) ((n_ d H c).bind fun bj=>O c f g h (!bj) i e)) (fun P=>share (fun (Q:List (List UInt8)) (R:List aC) (S:Int) (T:Int) (bk:Bool) (U:List cy) (o:aC)=>cond bk (some false) (share (fun (bl:List (List UInt8)) (bm:List aC) (bn:Int) (bo:Int) (bp:Bool) (bq:List cy)=>cond bp (some false) (k bl bm bn bo bq)) fun V=>cond (!seq o.Default ([]:List UInt8)) ((fP d o o.Default).bind fun br=>V Q R S T (!br) U) (V Q R S T false U))) fun W=>(l8 d P).bind fun bs=>cond (!bs) (W c f g h true i e) ((l9 d P c).bind fun bt=>W c f g h (!bt) i e))))))) fun X=>(cY d (nth (default:aC) b a).Name).bind fun bu=>cond (!bu) (X Y b q a true (pA (fun p:cy=>seq (nth (default:aC) b a).Name p.Key) j (⟨(nth (default:aC) b a).Name,(aP .i64 (nM (fun p:cy=>seq (nth (default:aC) b a).Name p.Key) (fun p:cy=>p.Mu) 0 j) 1)⟩:cy)) (nth (default:aC) b a)) (X Y b q a (bK 1 (nM (fun p:cy=>seq (nth (default:aC) b a).Name p.Key) (fun p:cy=>p.Mu) 0 (pA (fun p:cy=>seq (nth (default:aC) b a).Name p.Key) j (⟨(nth (default:aC) b a).Name,(aP .i64 (nM (fun p:cy=>seq (nth (default:aC) b a).Name p.Key) (fun p:cy=>p.Mu) 0 j) 1)⟩:cy)))) (pA (fun p:cy=>seq (nth (default:aC) b a).Name p.Key) j (⟨(nth (default:aC) b a).Name,(aP .i64 (nM (fun p:cy=>seq (nth (default:aC) b a).Name p.Key) (fun p:cy=>p.Mu) 0 j) 1)⟩:cy)) (nth (default:aC) b a)))) (bw)
def xz (k:Nat) (a:aD) (c:List (List UInt8)):Option Bool:=
 cond (bK 6 (a.aV.length:Int)) (some false) (share (some true) fun b=>iter (ts:=qT) (R:=Bool) k (mL b) c a.aV (a.aV.length:Int) (0:Int) ([]:List cy))
def DR (k:Nat):CT:=⟨215,[.d (.st 1),.d (.sl .str)],[],[⟨false,.d .bool,[]⟩],xz k⟩
abbrev p4:List Ty:=[.sl (.st 1),.int .i64,.int .i64,.sl .str]
def iH (e:Option Bool) (f:Nat) (g:List aD→Int→Int→List (List UInt8)→Option Bool) (b:List aD) (c:Int) (a:Int) (d:List (List UInt8)):Option Bool:=
 cond (bK a c) (aZ (bW a b.length) ((xz f (nth (default:aD) b a) d).bind fun h=>cond (!h) (some false) (g b c (aP .i64 a 1) d))) (e)
abbrev rF:List Ty:=[.sl (.st 1),.sl (.st 1),.int .i64,.int .i64,.sl .str]
def jx (f:List aD→List (List UInt8)→Option Bool) (h:Nat) (g:List aD→List aD→Int→Int→List (List UInt8)→Option Bool) (d:List aD) (b:List aD) (e:Int) (a:Int) (c:List (List UInt8)):Option Bool:=
 cond (bK a e) (aZ (bW a b.length) (aZ (mv (c.length+([(nth (default:aD) b a).Kind]:List (List UInt8)).length) 16) (g d b e (aP .i64 a 1) (c++([(nth (default:aD) b a).Kind]:List (List UInt8)))))) (f d c)
def gu (k:Nat) (a:List aD):Option Bool:=
 cond (bK 6 (a.length:Int)) (some false) (aZ (GP 0 (a.length:Int) 16) (share (fun (b:List aD) (c:List (List UInt8))=>(fg k c).bind fun d=>cond (!d) (some false) (share (some true) fun e=>iter (ts:=p4) (R:=Bool) k (iH e) b (b.length:Int) (0:Int) c)) fun f=>iter (ts:=rF) (R:=Bool) k (jx f) a a (a.length:Int) (0:Int) (List.replicate (Int.toNat 0) ([]:List UInt8))))
def kz (k:Nat):CT:=⟨198,[.d (.sl (.st 1))],[],[⟨false,.d .bool,[]⟩],gu k⟩
abbrev yp:List Ty:=[.str,.sl (.st 1),.int .i64,.int .i64]
def qy (f:Option Int) (g:Nat) (e:List UInt8→List aD→Int→Int→Option Int) (c:List UInt8) (b:List aD) (d:Int) (a:Int):Option Int:=
 cond (bK a d) (aZ (bW a b.length) (cond (seq (nth (default:aD) b a).Kind c) (some a) (e c b d (aP .i64 a 1)))) (f)
def l_ (k:Nat) (a:List aD) (b:List UInt8):Option Int:=
 share (some (-1)) fun c=>iter (ts:=yp) (R:=Int) k (qy c) b a (a.length:Int) (0:Int)
def oa (k:Nat):CT:=⟨185,[.d (.sl (.st 1)),.d .str],[],[⟨false,.d (.int .i64),[]⟩],l_ k⟩
abbrev yq:List Ty:=[.str,.sl (.st 0),.int .i64,.int .i64]
def qz (f:Option Int) (g:Nat) (e:List UInt8→List aC→Int→Int→Option Int) (c:List UInt8) (b:List aC) (d:Int) (a:Int):Option Int:=
 cond (bK a d) (aZ (bW a b.length) (cond (seq (nth (default:aC) b a).Name c) (some a) (e c b d (aP .i64 a 1)))) (f)
def jy (k:Nat) (a:List aC) (b:List UInt8):Option Int:=
 share (some (-1)) fun c=>iter (ts:=yq) (R:=Int) k (qz c) b a (a.length:Int) (0:Int)
def oc (k:Nat):CT:=⟨217,[.d (.sl (.st 0)),.d .str],[],[⟨false,.d (.int .i64),[]⟩],jy k⟩
def jL (k:Nat) (c:List UInt8) (a:List aC):Option (Bool×(List aC)):=
 (jy k a c).bind fun b=>cond (b8 0 b) (aZ (bW b a.length) (some ((!bH (nth (default:aC) a b).Kind 4),a))) (some (false,a))
def C0 (k:Nat):CT:=⟨216,[.d .str,.bp 0 0],[.box [.d (.sl (.st 0))]],[⟨false,.d .bool,[.box [.d (.sl (.st 0))]]⟩],jL k⟩
def zL (k:Nat) (q:List aC) (b:aH):Option Bool:=
 share (fun (a:aH) (n:Bool) (d:List aC)=>cond n (some false) (share (fun (h:aH) (o:Bool) (i:List aC)=>cond o (some false) (cond (seq h.tl ([]:List UInt8)) (some true) ((jy k i h.Field).bind fun j=>aZ (bW j i.length) ((fP k (nth (default:aC) i j) h.tl).bind fun p=>some p)))) fun e=>cond (seq a.dk a.Field) (e a true d) (cond (seq a.cR a.Field) (e a true d) (cond (seq a.dk ([]:List UInt8)) (cond (!seq a.Is ([]:List UInt8)) (e a true d) (e a (beq (seq a.tl ([]:List UInt8)) (seq a.cR ([]:List UInt8))) d)) (e a (beq (seq a.tl ([]:List UInt8)) (seq a.cR ([]:List UInt8))) d))))) fun c=>(jL k b.Field q).bind fun f=>cond (!f.1) (c b true f.2) (cond (!seq b.dk ([]:List UInt8)) ((jL k b.dk f.2).bind fun g=>cond (!g.1) (c b true g.2) (cond (!seq b.cR ([]:List UInt8)) ((jL k b.cR g.2).bind fun l=>c b (!l.1) l.2) (c b false g.2))) (cond (!seq b.cR ([]:List UInt8)) ((jL k b.cR f.2).bind fun m=>c b (!m.1) m.2) (c b false f.2)))
def Gv (k:Nat):CT:=⟨199,[.d (.sl (.st 0)),.d (.st 2)],[],[⟨false,.d .bool,[]⟩],zL k⟩
abbrev yr:List Ty:=[.str,.sl (.st 2),.int .i64,.int .i64,.sl (.st 2),.st 1,.sl .str]
def qA (z:List aH→aD→List (List UInt8)→Option ((List (List UInt8))×(List aH)×aD)) (A:Nat) (r:List UInt8→List aH→Int→Int→List aH→aD→List (List UInt8)→Option ((List (List UInt8))×(List aH)×aD)) (f:List UInt8) (b:List aH) (g:Int) (a:Int) (h:List aH) (d:aD) (c:List (List UInt8)):Option ((List (List UInt8))×(List aH)×aD):=
 cond (bK a g) (share (fun (s:List UInt8) (t:List aH) (u:Int) (v:Int) (w:List aH) (x:aD) (y:List (List UInt8))=>r s t u (aP .i64 v 1) w x y) fun e=>aZ (bW a b.length) (cond (!seq (nth (default:aH) b a).Kind d.Kind) (e f b g a h d c) (cond (!seq (nth (default:aH) b a).Field f) (e f b g a h d c) (share (fun (k:List UInt8) (l:List aH) (m:Int) (n:Int) (o:List aH) (p:aD) (i:List (List UInt8)) (j:aH)=>cond (!seq j.cR ([]:List UInt8)) (aZ (mv (i.length+([j.cR]:List (List UInt8)).length) 16) (e k l m n o p (i++([j.cR]:List (List UInt8))))) (e k l m n o p i)) fun q=>cond (!seq (nth (default:aH) b a).dk ([]:List UInt8)) (aZ (mv (c.length+([(nth (default:aH) b a).dk]:List (List UInt8)).length) 16) (q f b g a h d (c++([(nth (default:aH) b a).dk]:List (List UInt8))) (nth (default:aH) b a))) (q f b g a h d c (nth (default:aH) b a)))))) (z h d c)
def xA (k:Nat) (f:List UInt8) (a:List aH) (g:aD):Option ((List (List UInt8))×(List aH)×aD):=
 share (fun (b:List aH) (c:aD) (d:List (List UInt8))=>some (d,b,c)) fun e=>iter (ts:=yr) (R:=(List (List UInt8))×(List aH)×aD) k (qA e) f a (a.length:Int) (0:Int) a g []
def DS (k:Nat):CT:=⟨220,[.d .str,.bp 0 0,.bp 1 0],[.box [.d (.sl (.st 2))],.cQ (.st 1)],[⟨false,.d (.sl .str),[.box [.d (.sl (.st 2))],.cQ (.st 1)]⟩],xA k⟩
abbrev jM:List Ty:=[.str,.sl .str,.int .i64,.int .i64,.sl (.st 15),.sl (.st 2),.st 1,.sl .str]
def dZ (aeR:Nat→List UInt8→List cy→List aH→aD→List (List UInt8)→Option (Bool×(List cy)×(List aH)×aD×(List (List UInt8)))) (j:List UInt8→List cy→List aH→aD→List (List UInt8)→Option (Bool×(List cy)×(List aH)×aD×(List (List UInt8)))) (k:Nat) (l:List UInt8→List (List UInt8)→Int→Int→List cy→List aH→aD→List (List UInt8)→Option (Bool×(List cy)×(List aH)×aD×(List (List UInt8)))) (d:List UInt8) (c:List (List UInt8)) (e:Int) (b:Int) (f:List cy) (g:List aH) (h:aD) (i:List (List UInt8)):Option (Bool×(List cy)×(List aH)×aD×(List (List UInt8))):=
 cond (bK b e) (aZ (bW b c.length) ((aeR k (nth ([]:List UInt8) c b) f g h i).bind fun a=>cond (!a.1) (some (false,a.2.1,a.2.2.1,a.2.2.2.1,a.2.2.2.2)) (l d c e (aP .i64 b 1) a.2.1 a.2.2.1 a.2.2.2.1 a.2.2.2.2))) (j d f g h i)
def ey:Nat→Nat→List UInt8→List cy→List aH→aD→List (List UInt8)→Option (Bool×(List cy)×(List aH)×aD×(List (List UInt8)))
 | 0,_,_,_,_,_,_=>none
 | n+1,k,c,d,f,g,h=>
 cond (bH (nM (fun p:cy=>seq c p.Key) (fun p:cy=>p.Mu) 0 d) 1) (some (false,d,f,g,h)) (cond (bH (nM (fun p:cy=>seq c p.Key) (fun p:cy=>p.Mu) 0 d) 2) (some (true,d,f,g,h)) (share (fun (a:List UInt8) (i:List cy) (j:List aH) (l:aD) (e:List (List UInt8))=>aZ (mv (e.length+([a]:List (List UInt8)).length) 16) (some (true,(pA (fun p:cy=>seq a p.Key) i (⟨a,2⟩:cy)),j,l,(e++([a]:List (List UInt8)))))) fun m=>(xA k c f g).bind fun b=>iter (ts:=jM) (R:=Bool×(List cy)×(List aH)×aD×(List (List UInt8))) k (dZ (ey n) m) c b.1 (b.1.length:Int) (0:Int) (pA (fun p:cy=>seq c p.Key) d (⟨c,1⟩:cy)) b.2.1 b.2.2 h))
def ma (n k:Nat):CT:=⟨225,[.d .str,.bp 0 0,.bp 1 0,.bp 2 0,.bp 3 0],[.box [.mp 4],.box [.fn (.func 220) [] [.bp 5 0,.bp 6 0]],.box [.fn (.func 225) [] [.bp 0 0,.bp 1 0,.bp 2 0,.bp 3 0]],.box [.ow 7],.dmap 15,.box [.d (.sl (.st 2))],.cQ (.st 1),.row .str .vs],[⟨false,.d .bool,[.box [.mp 4],.box [.fn (.func 220) [] [.bp 5 0,.bp 6 0]],.box [.fn (.func 225) [] [.bp 0 0,.bp 1 0,.bp 2 0,.bp 3 0]],.box [.ow 8],.dmap 15,.box [.d (.sl (.st 2))],.cQ (.st 1),.gone,.row .str .vs]⟩],ey n k⟩
def vN (k:Nat):CT:=ma k k
abbrev sH:List Ty:=[.sl .str,.int .i64,.int .i64,.sl (.st 2),.st 1,.sl .str,.sl (.st 15)]
def gK (i:List aH→aD→List (List UInt8)→Option ((List (List UInt8))×Bool×(List aH)×aD)) (d:Nat) (j:List (List UInt8)→Int→Int→List aH→aD→List (List UInt8)→List cy→Option ((List (List UInt8))×Bool×(List aH)×aD)) (c:List (List UInt8)) (e:Int) (b:Int) (f:List aH) (g:aD) (h:List (List UInt8)) (k:List cy):Option ((List (List UInt8))×Bool×(List aH)×aD):=
 cond (bK b e) (aZ (bW b c.length) ((ey d d (nth ([]:List UInt8) c b) k f g h).bind fun a=>cond (!a.1) (some ([],false,a.2.2.1,a.2.2.2.1)) (j c e (aP .i64 b 1) a.2.2.1 a.2.2.2.1 a.2.2.2.2 a.2.1))) (i f g h)
def lr (k:Nat) (a:List (List UInt8)) (f:List aH) (g:aD):Option ((List (List UInt8))×Bool×(List aH)×aD):=
 share (fun (b:List aH) (c:aD) (d:List (List UInt8))=>some (d,true,b,c)) fun e=>iter (ts:=sH) (R:=(List (List UInt8))×Bool×(List aH)×aD) k (gK e) a (a.length:Int) (0:Int) f g ([]:List (List UInt8)) ([]:List cy)
def yt (k:Nat):CT:=⟨219,[.d (.sl .str),.fn (.func 220) [] [.bp 0 0,.bp 1 0]],[.box [.d (.sl (.st 2))],.cQ (.st 1)],[⟨false,.nO [.d (.sl .str),.d .bool],[.box [.d (.sl (.st 2))],.cQ (.st 1)]⟩],lr k⟩
abbrev AM:List Ty:=[.sl (.st 0),.int .i64,.int .i64,.st 1,.sl (.st 2),.sl .str]
def u7 (g:aD→List aH→List (List UInt8)→Option ((List (List UInt8))×Bool)) (i:Nat) (h:List aC→Int→Int→aD→List aH→List (List UInt8)→Option ((List (List UInt8))×Bool)) (b:List aC) (d:Int) (a:Int) (e:aD) (f:List aH) (c:List (List UInt8)):Option ((List (List UInt8))×Bool):=
 cond (bK a d) (aZ (bW a b.length) (aZ (mv (c.length+([(nth (default:aC) b a).Name]:List (List UInt8)).length) 16) (h b d (aP .i64 a 1) e f (c++([(nth (default:aC) b a).Name]:List (List UInt8)))))) (g e f c)
def ug (k:Nat) (b:aD) (g:List aH):Option ((List (List UInt8))×Bool):=
 share (fun (c:aD) (d:List aH) (e:List (List UInt8))=>(lr k e d c).bind fun a=>some (a.1,a.2.1)) fun f=>iter (ts:=AM) (R:=(List (List UInt8))×Bool) k (u7 f) b.aV (b.aV.length:Int) (0:Int) b g []
def BR (k:Nat):CT:=⟨200,[.d (.st 1),.d (.sl (.st 2))],[],[⟨false,.nO [.d (.sl .str),.d .bool],[]⟩],ug k⟩
abbrev rG:List Ty:=[.sl (.st 2),.sl (.st 1),.int .i64,.int .i64]
def jz (e:Option Bool) (f:Nat) (g:List aH→List aD→Int→Int→Option Bool) (c:List aH) (b:List aD) (d:Int) (a:Int):Option Bool:=
 cond (bK a d) (aZ (bW a b.length) ((ug f (nth (default:aD) b a) c).bind fun h=>cond (!h.2) (some false) (g c b d (aP .i64 a 1)))) (e)
abbrev sI:List Ty:=[.sl (.st 1),.sl (.st 2),.sl (.st 2),.int .i64,.int .i64]
def kA (q:List aD→List aH→Option Bool) (g:Nat) (i:List aD→List aH→List aH→Int→Int→Option Bool) (a:List aD) (d:List aH) (c:List aH) (e:Int) (b:Int):Option Bool:=
 cond (bK b e) (aZ (bW b c.length) ((l_ g a (nth (default:aH) c b).Kind).bind fun f=>share (fun (j:List aD) (k:List aH) (l:List aH) (m:Int) (n:Int) (o:Bool)=>cond o (some false) (i j k l m (aP .i64 n 1))) fun h=>cond (bK f 0) (h a d c e b true) (aZ (bW f a.length) ((zL g (nth (default:aD) a f).aV (nth (default:aH) c b)).bind fun p=>h a d c e b (!p))))) (q a d)
def ig (k:Nat) (b:List aD) (c:List aH):Option Bool:=
 share (fun (j:List aD) (d:List aH) (l:Bool)=>cond l (some false) (share (fun (a:List aD) (f:List aH)=>share (some true) fun g=>iter (ts:=rG) (R:=Bool) k (jz g) f a (a.length:Int) (0:Int)) fun h=>iter (ts:=sI) (R:=Bool) k (kA h) j d d (d.length:Int) (0:Int))) fun i=>(gu k b).bind fun e=>cond (!e) (i b c true) (i b c (bK 12 (c.length:Int)))
def mb (k:Nat):CT:=⟨167,[.d (.sl (.st 1)),.d (.sl (.st 2))],[],[⟨false,.d .bool,[]⟩],ig k⟩
abbrev zM:List Ty:=[.str,.sl (.st 3),.int .i64,.int .i64]
def sJ (f:Option Int) (g:Nat) (e:List UInt8→List aJ→Int→Int→Option Int) (c:List UInt8) (b:List aJ) (d:Int) (a:Int):Option Int:=
 cond (bK a d) (aZ (bW a b.length) (cond (seq (nth (default:aJ) b a).Name c) (some a) (e c b d (aP .i64 a 1)))) (f)
def hC (k:Nat) (a:List aJ) (b:List UInt8):Option Int:=
 share (some (-1)) fun c=>iter (ts:=zM) (R:=Int) k (sJ c) b a (a.length:Int) (0:Int)
def mZ (k:Nat):CT:=⟨73,[.d (.sl (.st 3)),.d .str],[],[⟨false,.d (.int .i64),[]⟩],hC k⟩
abbrev rH:List Ty:=[.sl (.st 3),.int .i64,.str,.sl (.st 3),.int .i64,.int .i64]
def jA (h:List aJ→List aJ→Int→Int→Option Bool) (i:Nat) (j:List aJ→Int→List UInt8→List aJ→Int→Int→Option Bool) (a:List aJ) (b:Int) (c:List UInt8) (d:List aJ) (e:Int) (f:Int):Option Bool:=
 cond (!seq c ([]:List UInt8)) (cond (bK 4 (aP .i64 b 1)) (some false) ((hC i a c).bind fun g=>aZ (bW g a.length) (j a (aP .i64 b 1) (nth (default:aJ) a g).h_ d e f))) (h a d e f)
abbrev rI:List Ty:=[.sl (.st 3),.sl (.st 3),.int .i64,.int .i64]
def jB (d:Option Bool) (e:Nat) (f:List aJ→List aJ→Int→Int→Option Bool) (g:List aJ) (b:List aJ) (c:Int) (a:Int):Option Bool:=
 cond (bK a c) (share (fun (h:List aJ) (i:List aJ) (j:Int) (k:Int)=>f h i j (aP .i64 k 1)) fun l=>aZ (bW a b.length) (iter (ts:=rH) (R:=Bool) e (jA l) g (0:Int) (nth (default:aJ) b a).h_ b c a)) (d)
abbrev sK:List Ty:=[.sl (.st 3),.sl (.st 3),.int .i64,.int .i64]
def kB (p:List aJ→Option Bool) (f:Nat) (g:List aJ→List aJ→Int→Int→Option Bool) (c:List aJ) (b:List aJ) (d:Int) (a:Int):Option Bool:=
 cond (bK a d) (aZ (bW a b.length) (share (fun (h:List aJ) (i:List aJ) (j:Int) (k:Int) (l:Bool)=>cond l (some false) (g h i j (aP .i64 k 1))) fun e=>(cY f (nth (default:aJ) b a).Name).bind fun m=>cond (!m) (e c b d a true) (cond (bK 0 a) (aZ (bW (bO .i64 a 1) c.length) (cond (!slt (nth (default:aJ) c (bO .i64 a 1)).Name (nth (default:aJ) b a).Name) (e c b d a true) (cond (!seq (nth (default:aJ) b a).h_ ([]:List UInt8)) ((hC f c (nth (default:aJ) b a).h_).bind fun n=>e c b d a (bK n 0)) (e c b d a false)))) (cond (!seq (nth (default:aJ) b a).h_ ([]:List UInt8)) ((hC f c (nth (default:aJ) b a).h_).bind fun o=>e c b d a (bK o 0)) (e c b d a false))))) (p c)
def oY (k:Nat) (b:List aJ):Option Bool:=
 cond (bK 12 (b.length:Int)) (some false) (share (fun (a:List aJ)=>share (some true) fun c=>iter (ts:=rI) (R:=Bool) k (jB c) a a (a.length:Int) (0:Int)) fun d=>iter (ts:=sK) (R:=Bool) k (kB d) b b (b.length:Int) (0:Int))
def yu (k:Nat):CT:=⟨168,[.d (.sl (.st 3))],[],[⟨false,.d .bool,[]⟩],oY k⟩
def rU (k:Nat) (a:aL):Option Bool:=
 (ig k a.cg a.iN).bind fun b=>cond b ((oY k a.dX).bind fun c=>some c) (some false)
def AN (k:Nat):CT:=⟨107,[.d (.st 4)],[],[⟨false,.d .bool,[]⟩],rU k⟩
def jN (k:Nat) (a:List aD) (c:aA):Option ((List aC)×Bool):=
 (l_ k a c.Kind).bind fun b=>share (fun (d:List aD) (e:Int) (g:Bool)=>cond g (some ([],false)) (aZ (bW e d.length) (some ((nth (default:aD) d e).aV,true)))) fun f=>cond (bK b 0) (f a b true) (aZ (bW b a.length) (f a b (!bH (c.aR.length:Int) ((nth (default:aD) a b).aV.length:Int))))
def mM (k:Nat):CT:=⟨151,[.d (.sl (.st 1)),.d (.st 5)],[],[⟨false,.nO [.d (.sl (.st 0)),.d .bool],[]⟩],jN k⟩
abbrev sL:List Ty:=[.st 5,.sl (.st 0),.int .i64,.int .i64]
def kC (w:Option (Unit ⊕ (eV ⊕ eV))) (l:Nat) (m:aA→List aC→Int→Int→Option (Unit ⊕ (eV ⊕ eV))) (e:aA) (c:List aC) (f:Int) (a:Int):Option (Unit ⊕ (eV ⊕ eV)):=
 cond (bK a f) (aZ (bW a c.length) (share (fun (d:aA) (b:Int) (g:List aC) (h:Int) (i:Int) (n:Bool) (o:aC)=>cond n (some (.inr (.inl (⟨2,b⟩:eV)))) (share (fun (p:aA) (q:Int) (r:List aC) (s:Int) (t:Int) (u:Bool)=>cond u (some (.inr (.inl (⟨3,q⟩:eV)))) (m p r s (aP .i64 t 1))) fun j=>aZ (bW b d.aR.length) (cond (!seq (nth ([]:List UInt8) d.aR b) ([]:List UInt8)) (aZ (bW b d.aR.length) ((fP l o (nth ([]:List UInt8) d.aR b)).bind fun v=>j d b g h i (!v))) (j d b g h i false)))) fun k=>cond (nth (default:aC) c a).c6 (aZ (bW a e.aR.length) (k e a c f a (seq (nth ([]:List UInt8) e.aR a) ([]:List UInt8)) (nth (default:aC) c a))) (k e a c f a false (nth (default:aC) c a)))) (w)
def oZ (k:Nat) (d:List aD) (a:aA):Option (Unit ⊕ (eV ⊕ eV)):=
 (jN k d a).bind fun b=>share (some (.inl ())) fun c=>iter (ts:=sL) (R:=Unit ⊕ (eV ⊕ eV)) k (kC c) a b.1 (b.1.length:Int) (0:Int)
def yw (k:Nat):CT:=⟨202,[.d (.sl (.st 1)),.d (.st 5)],[],[⟨false,.QD,[]⟩,⟨false,.pJ 263 (.fp (.st 13) 0),[]⟩,⟨false,.pJ 263 (.fp (.st 13) 0),[]⟩],oZ k⟩
def PE (_k:Nat) (a:eV):Option (Bool×eV):=some (true,a)
def K6 (k:Nat):CT:=⟨221,[.pJ 263 (.fp (.st 13) 0),.pJ 267 (.bp 0 0)],[.box [.any]],[⟨false,.d .bool,[.box [.fp (.st 13) 0]]⟩],PE k⟩
def AO (k:Nat) (b:eV):Option (Int×Int):=
 (PE k b).bind fun a=>cond a.1 (some (a.2.code,a.2.place)) (some (0,0))
def K7 (k:Nat):CT:=⟨203,[.pJ 263 (.fp (.st 13) 0)],[],[⟨false,.nO [.d (.int .i64),.d (.int .i64)],[]⟩],AO k⟩
def sM (k:Nat) (c:List aD) (b:aA):Option (eV ⊕ Unit):=
 (jN k c b).bind fun i=>share (fun (d:Bool)=>cond d (some (.inl (⟨1,0⟩:eV))) (some (.inr ()))) fun a=>cond (!i.2) (a true) ((gu k c).bind fun e=>cond (!e) (a true) ((cY k b.Name).bind fun f=>cond (!f) (a true) ((cY k b.aX).bind fun g=>cond (!g) (a true) (cond (bK 3 (b.b7.length:Int)) (a true) ((fg k b.b7).bind fun h=>cond (!h) (a true) (cond (bK b.Version 0) (a true) (a (bK 1000000 b.Version))))))))
def AP (k:Nat):CT:=⟨201,[.d (.sl (.st 1)),.d (.st 5)],[],[⟨false,.pJ 263 (.fp (.st 13) 0),[]⟩,⟨false,.QD,[]⟩],sM k⟩
abbrev DT:List Ty:=[.sl (.st 1),.st 5,.int .i64,.int .i64]
def zN (j:Option (Int×Int)) (a:Nat) (k:List aD→aA→Int→Int→Option (Int×Int)) (c:List aD) (d:aA) (e:Int) (b:Int):Option (Int×Int):=
 cond (bK b e) (share (fun (l:List aD) (m:aA) (n:Int) (o:Int)=>k l m n (aP .i64 o 1)) fun f=>cond (bH b 0) ((sM a c d).bind fun p=>yo p (fun q=>(AO a q).bind fun g=>some (g.1,g.2)) (fun v=>f c d e b)) (cond (bH b 1) ((oZ a c d).bind fun r=>yo r (fun w=>f c d e b) (fun s=>yo s (fun t=>(AO a t).bind fun h=>some (h.1,h.2)) (fun u=>(AO a u).bind fun i=>some (i.1,i.2)))) (none))) (j)
def sN (k:Nat) (b:List aD) (c:aA):Option (Int×Int):=
 share (some (0,0)) fun a=>iter (ts:=DT) (R:=Int×Int) k (zN a) b c (2:Int) (0:Int)
def AQ (k:Nat):CT:=⟨169,[.d (.sl (.st 1)),.d (.st 5)],[],[⟨false,.nO [.d (.int .i64),.d (.int .i64)],[]⟩],sN k⟩
def od (_k:Nat) (a:List (List UInt8)):Option (List (List UInt8)):=
 cond (bH (a.length:Int) 0) (some []) (aZ (GP (a.length:Int) (a.length:Int) 16) (aZ (leq a.length (List.replicate (Int.toNat (a.length:Int)) ([]:List UInt8)).length) (some a)))
def AR (k:Nat):CT:=⟨174,[.d (.sl .str)],[],[⟨false,.d (.sl .str),[]⟩],od k⟩
def jC (k:Nat) (a:aA):Option aA:=
 (od k a.aR).bind fun b=>(od k a.b7).bind fun c=>some (⟨a.Kind,a.Name,a.aX,b,a.Ending,c,a.Version⟩:aA)
def sO (k:Nat):CT:=⟨112,[.d (.st 5)],[],[⟨false,.d (.st 5),[]⟩],jC k⟩
def lu (_k:Nat) (a:List (List UInt8)):Option (List (List UInt8)):=
 cond (bH (a.length:Int) 0) (some []) (aZ (GP (a.length:Int) (a.length:Int) 16) (aZ (leq a.length (List.replicate (Int.toNat (a.length:Int)) ([]:List UInt8)).length) (some a)))
def yx (k:Nat):CT:=⟨174,[.d (.sl .str)],[],[⟨false,.ow 0,[.row .str .vs]⟩],lu k⟩
def dI (k:Nat) (a:aA):Option ((List UInt8)×(List UInt8)×(List UInt8)×Bool×Int×(List (List UInt8))×(List (List UInt8))):=
 (lu k a.aR).bind fun b=>(lu k a.b7).bind fun c=>some (a.Kind,a.Name,a.aX,a.Ending,a.Version,b,c)
def fQ (k:Nat):CT:=⟨112,[.d (.st 5)],[],[⟨false,.agg [.d .str,.d .str,.d .str,.ow 0,.d .bool,.ow 1,.d (.int .i64)],[.row .str .vs,.row .str .vs]⟩],dI k⟩
def mN (k:Nat) (a:List aD) (l:List UInt8) (m:List UInt8) (n:List UInt8) (o:Bool) (p:Int) (f:List (List UInt8)) (g:List (List UInt8)):Option ((List aC)×Bool×(List (List UInt8))×(List (List UInt8))):=
 (l_ k a l).bind fun b=>share (fun (h:List aD) (i:Int) (j:Bool) (c:List (List UInt8)) (d:List (List UInt8))=>cond j (some ([],false,c,d)) (aZ (bW i h.length) (some ((nth (default:aD) h i).aV,true,c,d)))) fun e=>cond (bK b 0) (e a b true f g) (aZ (bW b a.length) (e a b (!bH (f.length:Int) ((nth (default:aD) a b).aV.length:Int)) f g))
def sP (k:Nat):CT:=⟨151,[.d (.sl (.st 1)),.agg [.d .str,.d .str,.d .str,.ow 0,.d .bool,.ow 1,.d (.int .i64)]],[.row .str .vs,.row .str .vs],[⟨false,.nO [.d (.sl (.st 0)),.d .bool],[.row .str .vs,.row .str .vs]⟩],mN k⟩
abbrev w_:List Ty:=[.sl (.st 0),.int .i64,.int .i64,.str,.str,.str,.bool,.int .i64,.st 5,.sl .str,.sl .str]
def o4 (y:List UInt8→List UInt8→List UInt8→Bool→Int→aA→List (List UInt8)→List (List UInt8)→Option aA) (z:Nat) (m:List aC→Int→Int→List UInt8→List UInt8→List UInt8→Bool→Int→aA→List (List UInt8)→List (List UInt8)→Option aA) (c:List aC) (d:Int) (a:Int) (e:List UInt8) (f:List UInt8) (g:List UInt8) (h:Bool) (i:Int) (j:aA) (b:List (List UInt8)) (k:List (List UInt8)):Option aA:=
 cond (bK a d) (share (fun (n:List aC) (o:Int) (p:Int) (q:List UInt8) (r:List UInt8) (s:List UInt8) (t:Bool) (u:Int) (v:aA) (w:List (List UInt8)) (x:List (List UInt8))=>m n o (aP .i64 p 1) q r s t u v w x) fun l=>aZ (bW a c.length) (aZ (bW a b.length) (cond (seq (nth ([]:List UInt8) b a) ([]:List UInt8)) (aZ (bW a b.length) (l c d a e f g h i j (oI b a (nth (default:aC) c a).Default) k)) (l c d a e f g h i j b k)))) (y e f g h i j b k)
def u9 (k:Nat) (n:List aD) (y:aA):Option aA:=
 (dI k y).bind fun a=>(mN k n a.1 a.2.1 a.2.2.1 a.2.2.2.1 a.2.2.2.2.1 a.2.2.2.2.2.1 a.2.2.2.2.2.2).bind fun b=>aZ (leq b.2.2.1.length a.2.2.2.2.2.1.length) (aZ (leq b.2.2.2.length a.2.2.2.2.2.2.length) (share (fun (c:List aC) (o:Bool) (d:List UInt8) (e:List UInt8) (f:List UInt8) (g:Bool) (h:Int) (p:aA) (i:List (List UInt8)) (j:List (List UInt8))=>cond o (some (⟨d,e,f,i,g,j,h⟩:aA)) (share (fun (q:List UInt8) (r:List UInt8) (s:List UInt8) (t:Bool) (u:Int) (z:aA) (v:List (List UInt8)) (w:List (List UInt8))=>some (⟨q,r,s,v,t,w,u⟩:aA)) fun x=>iter (ts:=w_) (R:=aA) k (o4 x) c (c.length:Int) (0:Int) d e f g h p i j)) fun l=>cond (!b.2.1) (l b.1 true a.1 a.2.1 a.2.2.1 a.2.2.2.1 a.2.2.2.2.1 (⟨([]:List UInt8),([]:List UInt8),([]:List UInt8),[],false,[],0⟩:aA) b.2.2.1 b.2.2.2) ((gu k n).bind fun m=>l b.1 (!m) a.1 a.2.1 a.2.2.1 a.2.2.2.1 a.2.2.2.2.1 (⟨([]:List UInt8),([]:List UInt8),([]:List UInt8),[],false,[],0⟩:aA) b.2.2.1 b.2.2.2)))
def C1 (k:Nat):CT:=⟨205,[.d (.sl (.st 1)),.d (.st 5)],[],[⟨false,.d (.st 5),[]⟩],u9 k⟩
def dS (k:Nat) (d:List UInt8) (e:List UInt8) (f:List UInt8) (g:List UInt8) (h:Bool) (i:Int) (b:List aC) (a:List (List UInt8)) (j:List (List UInt8)):Option ((List UInt8)×(List UInt8)×(List UInt8)×(List UInt8)×Bool×Int×(List aC)×(List (List UInt8))×(List (List UInt8))):=
 (jy k b d).bind fun c=>aZ (bW c a.length) (some ((nth ([]:List UInt8) a c),e,f,g,h,i,b,a,j))
def tU (k:Nat):CT:=⟨222,[.d .str,.bp 0 0,.bp 1 0],[.box [.d .str,.d .str,.d .str,.ow 2,.d .bool,.ow 3,.d (.int .i64)],.box [.d (.sl (.st 0))],.row .str .vs,.row .str .vs],[⟨false,.d .str,[.box [.d .str,.d .str,.d .str,.ow 2,.d .bool,.ow 3,.d (.int .i64)],.box [.d (.sl (.st 0))],.row .str .vs,.row .str .vs]⟩],dS k⟩
abbrev g7:List Ty:=[.sl (.st 2),.str,.sl .str,.int .i64,.int .i64,.sl (.st 2),.int .i64,.int .i64,.str,.str,.str,.bool,.int .i64,.st 5,.sl (.st 0),.sl .str,.sl .str]
def fh (B:List aH→List (List UInt8)→Int→Int→List UInt8→List UInt8→List UInt8→Bool→Int→aA→List aC→List (List UInt8)→List (List UInt8)→Option aA) (v:Nat) (S:List aH→List UInt8→List (List UInt8)→Int→Int→List aH→Int→Int→List UInt8→List UInt8→List UInt8→Bool→Int→aA→List aC→List (List UInt8)→List (List UInt8)→Option aA) (g:List aH) (h:List UInt8) (i:List (List UInt8)) (j:Int) (k:Int) (c:List aH) (p:Int) (b:Int) (o:List UInt8) (q:List UInt8) (r:List UInt8) (s:Bool) (t:Int) (l:aA) (u:List aC) (m:List (List UInt8)) (n:List (List UInt8)):Option aA:=
 cond (bK b p) (share (fun (T:List aH) (U:List UInt8) (V:List (List UInt8)) (W:Int) (X:Int) (Y:List aH) (Z:Int) (aa:Int) (ab:List UInt8) (ad:List UInt8) (ae:List UInt8) (af:Bool) (ag:Int) (ah:aA) (ai:List aC) (aj:List (List UInt8)) (ak:List (List UInt8))=>S T U V W X Y Z (aP .i64 aa 1) ab ad ae af ag ah ai aj ak) fun w=>aZ (bW b c.length) (cond (!seq (nth (default:aH) c b).Kind o) (w g h i j k c p b o q r s t l u m n) (cond (!seq (nth (default:aH) c b).Field h) (w g h i j k c p b o q r s t l u m n) (share (fun (C:List aH) (D:List UInt8) (E:List (List UInt8)) (F:Int) (G:Int) (H:List UInt8) (I:List UInt8) (J:List UInt8) (K:Bool) (L:Int) (M:aA) (N:List aC) (y:aH) (z:List (List UInt8)) (A:List (List UInt8))=>share (fun (al:List aH) (an:List UInt8) (ao:List UInt8) (aq:List (List UInt8)) (ar:Int) (au:Int) (av:List UInt8) (aw:List UInt8) (ax:List UInt8) (ay:Bool) (az:Int) (a0:aA) (O:List aC) (P:List (List UInt8)) (a1:List (List UInt8))=>(jy v O an).bind fun Q=>aZ (bW Q P.length) (B al aq ar au av aw ax ay az a0 O (oI P Q ao) a1)) fun R=>cond (!seq y.cR ([]:List UInt8)) ((dS v y.cR H I J K L N z A).bind fun f=>aZ (leq f.2.2.2.2.2.2.2.1.length z.length) (aZ (leq f.2.2.2.2.2.2.2.2.length A.length) (R C D f.1 E F G f.2.1 f.2.2.1 f.2.2.2.1 f.2.2.2.2.1 f.2.2.2.2.2.1 M f.2.2.2.2.2.2.1 f.2.2.2.2.2.2.2.1 f.2.2.2.2.2.2.2.2))) (R C D y.tl E F G H I J K L M N z A)) fun x=>cond (!seq (nth (default:aH) c b).dk ([]:List UInt8)) ((dS v (nth (default:aH) c b).dk o q r s t u m n).bind fun a=>aZ (leq a.2.2.2.2.2.2.2.1.length m.length) (aZ (leq a.2.2.2.2.2.2.2.2.length n.length) (cond (!seq a.1 (nth (default:aH) c b).Is) (w g h i j k c p b a.2.1 a.2.2.1 a.2.2.2.1 a.2.2.2.2.1 a.2.2.2.2.2.1 l a.2.2.2.2.2.2.1 a.2.2.2.2.2.2.2.1 a.2.2.2.2.2.2.2.2) (cond (!seq (nth (default:aH) c b).cR ([]:List UInt8)) ((dS v (nth (default:aH) c b).cR a.2.1 a.2.2.1 a.2.2.2.1 a.2.2.2.2.1 a.2.2.2.2.2.1 a.2.2.2.2.2.2.1 a.2.2.2.2.2.2.2.1 a.2.2.2.2.2.2.2.2).bind fun d=>aZ (leq d.2.2.2.2.2.2.2.1.length a.2.2.2.2.2.2.2.1.length) (aZ (leq d.2.2.2.2.2.2.2.2.length a.2.2.2.2.2.2.2.2.length) (cond (seq d.1 ([]:List UInt8)) (w g h i j k c p b d.2.1 d.2.2.1 d.2.2.2.1 d.2.2.2.2.1 d.2.2.2.2.2.1 l d.2.2.2.2.2.2.1 d.2.2.2.2.2.2.2.1 d.2.2.2.2.2.2.2.2) (x g h i j k d.2.1 d.2.2.1 d.2.2.2.1 d.2.2.2.2.1 d.2.2.2.2.2.1 l d.2.2.2.2.2.2.1 (nth (default:aH) c b) d.2.2.2.2.2.2.2.1 d.2.2.2.2.2.2.2.2)))) (x g h i j k a.2.1 a.2.2.1 a.2.2.2.1 a.2.2.2.2.1 a.2.2.2.2.2.1 l a.2.2.2.2.2.2.1 (nth (default:aH) c b) a.2.2.2.2.2.2.2.1 a.2.2.2.2.2.2.2.2))))) (cond (!seq (nth (default:aH) c b).cR ([]:List UInt8)) ((dS v (nth (default:aH) c b).cR o q r s t u m n).bind fun e=>aZ (leq e.2.2.2.2.2.2.2.1.length m.length) (aZ (leq e.2.2.2.2.2.2.2.2.length n.length) (cond (seq e.1 ([]:List UInt8)) (w g h i j k c p b e.2.1 e.2.2.1 e.2.2.2.1 e.2.2.2.2.1 e.2.2.2.2.2.1 l e.2.2.2.2.2.2.1 e.2.2.2.2.2.2.2.1 e.2.2.2.2.2.2.2.2) (x g h i j k e.2.1 e.2.2.1 e.2.2.2.1 e.2.2.2.2.1 e.2.2.2.2.2.1 l e.2.2.2.2.2.2.1 (nth (default:aH) c b) e.2.2.2.2.2.2.2.1 e.2.2.2.2.2.2.2.2)))) (x g h i j k o q r s t l u (nth (default:aH) c b) m n)))))) (B g i j k o q r s t l u m n)
abbrev tV:List Ty:=[.sl (.st 2),.sl .str,.int .i64,.int .i64,.str,.str,.str,.bool,.int .i64,.st 5,.sl (.st 0),.sl .str,.sl .str]
def mc (D:List UInt8→List UInt8→List UInt8→Bool→Int→aA→List (List UInt8)→List (List UInt8)→Option aA) (m:Nat) (n:List aH→List (List UInt8)→Int→Int→List UInt8→List UInt8→List UInt8→Bool→Int→aA→List aC→List (List UInt8)→List (List UInt8)→Option aA) (b:List aH) (c:List (List UInt8)) (d:Int) (a:Int) (e:List UInt8) (f:List UInt8) (g:List UInt8) (h:Bool) (i:Int) (j:aA) (o:List aC) (k:List (List UInt8)) (l:List (List UInt8)):Option aA:=
 cond (bK a d) (share (fun (p:List aH) (q:List (List UInt8)) (r:Int) (s:Int) (t:List UInt8) (u:List UInt8) (v:List UInt8) (w:Bool) (x:Int) (y:aA) (z:List aC) (A:List (List UInt8)) (B:List (List UInt8))=>n p q r (aP .i64 s 1) t u v w x y z A B) fun C=>aZ (bW a c.length) (iter (ts:=g7) (R:=aA) m (fh C) b (nth ([]:List UInt8) c a) c d a b (b.length:Int) (0:Int) e f g h i j o k l)) (D e f g h i j k l)
def qB (k:Nat) (e:List aD) (r:List aH) (D:aA):Option aA:=
 (dI k D).bind fun a=>(mN k e a.1 a.2.1 a.2.2.1 a.2.2.2.1 a.2.2.2.2.1 a.2.2.2.2.2.1 a.2.2.2.2.2.2).bind fun b=>aZ (leq b.2.2.1.length a.2.2.2.2.2.1.length) (aZ (leq b.2.2.2.length a.2.2.2.2.2.2.length) (share (fun (c:List aD) (g:List aH) (A:Bool) (d:List UInt8) (h:List UInt8) (i:List UInt8) (j:Bool) (l:Int) (B:aA) (C:List aC) (m:List (List UInt8)) (n:List (List UInt8))=>cond A (some (⟨d,h,i,m,j,n,l⟩:aA)) ((l_ k c d).bind fun o=>aZ (bW o c.length) ((ug k (nth (default:aD) c o) g).bind fun p=>share (fun (s:List UInt8) (t:List UInt8) (u:List UInt8) (v:Bool) (w:Int) (E:aA) (x:List (List UInt8)) (y:List (List UInt8))=>some (⟨s,t,u,x,v,y,w⟩:aA)) fun z=>iter (ts:=tV) (R:=aA) k (mc z) g p.1 (p.1.length:Int) (0:Int) d h i j l B C m n))) fun q=>cond (!b.2.1) (q e r true a.1 a.2.1 a.2.2.1 a.2.2.2.1 a.2.2.2.2.1 (⟨([]:List UInt8),([]:List UInt8),([]:List UInt8),[],false,[],0⟩:aA) b.1 b.2.2.1 b.2.2.2) ((ig k e r).bind fun f=>q e r (!f) a.1 a.2.1 a.2.2.1 a.2.2.2.1 a.2.2.2.2.1 (⟨([]:List UInt8),([]:List UInt8),([]:List UInt8),[],false,[],0⟩:aA) b.1 b.2.2.1 b.2.2.2)))
def zO (k:Nat):CT:=⟨204,[.d (.sl (.st 1)),.d (.sl (.st 2)),.d (.st 5)],[],[⟨false,.d (.st 5),[]⟩],qB k⟩
def qC (k:Nat) (a:List aD) (b:List aH) (c:aA):Option aA:=
 (ig k a b).bind fun d=>cond (!d) ((jC k c).bind fun e=>some e) ((u9 k a c).bind fun f=>(qB k a b f).bind fun g=>some g)
def zP (k:Nat):CT:=⟨171,[.d (.sl (.st 1)),.d (.sl (.st 2)),.d (.st 5)],[],[⟨false,.d (.st 5),[]⟩],qC k⟩
abbrev tW:List Ty:=[.sl .str,.sl .str,.int .i64,.int .i64]
def me (f:Option Bool) (g:Nat) (e:List (List UInt8)→List (List UInt8)→Int→Int→Option Bool) (b:List (List UInt8)) (c:List (List UInt8)) (d:Int) (a:Int):Option Bool:=
 cond (bK a d) (aZ (bW a b.length) (aZ (bW a c.length) (cond (!seq (nth ([]:List UInt8) b a) (nth ([]:List UInt8) c a)) (some false) (e b c d (aP .i64 a 1))))) (f)
def qD (k:Nat) (a:List (List UInt8)) (b:List (List UInt8)):Option Bool:=
 cond (!bH (a.length:Int) (b.length:Int)) (some false) (share (some true) fun c=>iter (ts:=tW) (R:=Bool) k (me c) a b (a.length:Int) (0:Int))
def zQ (k:Nat):CT:=⟨170,[.d (.sl .str),.d (.sl .str)],[],[⟨false,.d .bool,[]⟩],qD k⟩
def yA (_k:Nat) (a:aL) (b:aA):Option (aL×aA):=
 some (a,b)
def Ie (k:Nat):CT:=⟨85,[.d (.st 4),.d (.st 5)],[],[⟨false,.fn (.func 150) [] [.fp (.st 4) 0,.fp (.st 5) 0],[]⟩],yA k⟩
abbrev vO:List Ty:=[.st 5,.sl (.st 0),.int .i64,.int .i64]
def nG (f:Nat) (e:aA→List aC→Int→Int→Option (List (Int×(aC×Unit)))) (c:aA) (b:List aC) (d:Int) (a:Int):Option (List (Int×(aC×Unit))):=
 cond (bK a d) (aZ (bW a b.length) (cond (bH (nth (default:aC) b a).Kind 4) (aZ (bW a c.aR.length) (cond (!seq (nth ([]:List UInt8) c.aR a) ([]:List UInt8)) (QE (a,(nth (default:aC) b a),()) (e c b d (aP .i64 a 1)) (some [])) (e c b d (aP .i64 a 1)))) (e c b d (aP .i64 a 1)))) (some [])
def lx (k:Nat) (c:aL) (b:aA):Option (List (Int×(aC×Unit))):=
 (jN k c.cg b).bind fun a=>cond (!a.2) (some []) (iter (ts:=vO) (R:=List (Int×(aC×Unit))) k (nG) b a.1 (a.1.length:Int) (0:Int))
def zR (k:Nat):IT:=⟨150,[.fp (.st 4) 0,.fp (.st 5) 0],[.int .i64,.st 0],lx k⟩
abbrev p5:List Ty:=[.str,.str,.sl (.st 5),.int .i64,.int .i64]
def iI (g:Option Int) (p:Nat) (h:List UInt8→List UInt8→List aA→Int→Int→Option Int) (c:List UInt8) (d:List UInt8) (b:List aA) (e:Int) (a:Int):Option Int:=
 cond (bK a e) (aZ (bW a b.length) (share (fun (i:List UInt8) (j:List UInt8) (k:Int) (l:List aA) (m:Int) (n:Int) (o:Bool)=>cond o (some k) (h i j l m (aP .i64 n 1))) fun f=>cond (seq (nth (default:aA) b a).Kind c) (f c d a b e a (seq (nth (default:aA) b a).Name d)) (f c d a b e a false))) (g)
def mf (k:Nat) (a:aG) (c:List UInt8) (d:List UInt8):Option Int:=
 share (some (-1)) fun b=>iter (ts:=p5) (R:=Int) k (iI b) c d a.aO (a.aO.length:Int) (0:Int)
def vP (k:Nat):CT:=⟨172,[.d (.st 10),.d .str,.d .str],[],[⟨false,.d (.int .i64),[]⟩],mf k⟩
abbrev de:List Ty:=[.st 10,.st 4,.sl (.st 5),.int .i64,.int .i64,.bool,.st 5]
def cS (c:Nat) (ads:Int×(aC×Unit)) (d:aG→aL→List aA→Int→Int→Bool→aA→Option Bool) (b:aG) (e:aL) (f:List aA) (g:Int) (h:Int) (i:Bool) (a:aA):Option Bool:=
 aZ (bW ads.1 a.aR.length) ((mf c b ads.2.1.To (nth ([]:List UInt8) a.aR ads.1)).bind fun j=>cond (bK j 0) (some false) (d b e f g h i a))
abbrev cZ:List Ty:=[.st 10,.st 4,.sl (.st 5),.int .i64,.int .i64,.bool]
def cI (v:Bool→Option Bool) (f:Nat) (w:aG→aL→List aA→Int→Int→Bool→Option Bool) (d:aG) (j:aL) (b:List aA) (g:Int) (a:Int) (h:Bool):Option Bool:=
 cond (bK a g) (aZ (bW a b.length) (share (fun (i:aG) (e:aL) (k:List aA) (l:Int) (m:Int) (n:Bool) (c:aA)=>(sN f e.cg c).bind fun x=>cond (!bH x.1 0) (some false) (share (fun (y:aG) (q:aL) (z:List aA) (A:Int) (B:Int) (C:Bool) (D:Bool) (r:aA)=>cond C (some false) ((yA f q r).bind fun s=>(lx f s.1 s.2).bind fun t=>Ig (ts:=de) (R:=Bool) (cS f) (fun (E:aG) (F:aL) (G:List aA) (H:Int) (I:Int) (J:Bool) (t:aA)=>w E F G H (aP .i64 I 1) J) t y q z A B D r)) fun o=>(hC f e.dX c.aX).bind fun K=>cond (bK K 0) (o i e k l m true n c) (cond (bK c.Version 1) (o i e k l m true n c) (cond (bK i.vj c.Version) (o i e k l m true n c) ((qC f e.cg e.iN c).bind fun L=>(qD f L.aR c.aR).bind fun M=>o i e k l m (!M) n c))))) fun u=>cond (bK 0 a) (aZ (bW (bO .i64 a 1) d.aO.length) (share (fun (N:aG) (O:aL) (P:List aA) (Q:Int) (S:Int) (T:Bool) (U:Bool) (V:aA)=>cond T (some false) (u N O P Q S U V)) fun p=>cond (!(slt (nth (default:aA) d.aO (bO .i64 a 1)).Kind (nth (default:aA) b a).Kind||seq (nth (default:aA) d.aO (bO .i64 a 1)).Kind (nth (default:aA) b a).Kind)) (p d j b g a true h (nth (default:aA) b a)) (cond (seq (nth (default:aA) d.aO (bO .i64 a 1)).Kind (nth (default:aA) b a).Kind) (p d j b g a (!slt (nth (default:aA) d.aO (bO .i64 a 1)).Name (nth (default:aA) b a).Name) h (nth (default:aA) b a)) (p d j b g a false h (nth (default:aA) b a))))) (u d j b g a h (nth (default:aA) b a)))) (v h)
def gh (k:Nat) (a:aG) (c:aL):Option Bool:=
 cond (bK 40 (a.aO.length:Int)) (some false) (share (fun (d:Bool)=>some true) fun b=>iter (ts:=cZ) (R:=Bool) k (cI b) a c a.aO (a.aO.length:Int) (0:Int) false)
def px (k:Nat):CT:=⟨108,[.d (.st 10),.d (.st 4)],[],[⟨false,.d .bool,[]⟩],gh k⟩
abbrev mg:List Ty:=[.st 6,.sl (.int .i64),.int .i64,.int .i64]
def gL (f:Option Bool) (m:Nat) (g:bF→List Int→Int→Int→Option Bool) (c:bF) (b:List Int) (d:Int) (a:Int):Option Bool:=
 cond (bK a d) (aZ (bW a b.length) (share (fun (h:bF) (i:List Int) (j:Int) (k:Int) (l:Bool)=>cond l (some false) (g h i j (aP .i64 k 1))) fun e=>cond (bK (nth 0 b a) 1) (e c b d a true) (cond (bK 5 (nth 0 b a)) (e c b d a true) (cond (bK 0 a) (aZ (bW (bO .i64 a 1) c.b_.length) (e c b d a (b8 (nth 0 b a) (nth 0 c.b_ (bO .i64 a 1))))) (e c b d a false))))) (f)
def fB (k:Nat) (a:bF):Option Bool:=
 share (fun (c:bF) (d:Bool)=>cond d (some false) (share (some true) fun e=>iter (ts:=mg) (R:=Bool) k (gL e) c c.b_ (c.b_.length:Int) (0:Int))) fun b=>cond (bH (a.b_.length:Int) 0) (b a true) (cond (!seq a.Kind ([]:List UInt8)) ((cY k a.Kind).bind fun f=>cond (!f) (b a true) (cond (!seq a.aX ([]:List UInt8)) ((cY k a.aX).bind fun g=>cond (!g) (b a true) (cond (bK 16 (a.cU.length:Int)) (b a true) ((fY k a.cU).bind fun h=>b a (!h)))) (cond (bK 16 (a.cU.length:Int)) (b a true) ((fY k a.cU).bind fun i=>b a (!i))))) (cond (!seq a.aX ([]:List UInt8)) ((cY k a.aX).bind fun j=>cond (!j) (b a true) (cond (bK 16 (a.cU.length:Int)) (b a true) ((fY k a.cU).bind fun l=>b a (!l)))) (cond (bK 16 (a.cU.length:Int)) (b a true) ((fY k a.cU).bind fun m=>b a (!m)))))
def yB (k:Nat):CT:=⟨173,[.d (.st 6)],[],[⟨false,.d .bool,[]⟩],fB k⟩
abbrev mO:List Ty:=[.st 10,.sl (.st 7),.int .i64,.int .i64]
def fw (u:Option Bool) (f:Nat) (g:aG→List aF→Int→Int→Option Bool) (c:aG) (b:List aF) (d:Int) (a:Int):Option Bool:=
 cond (bK a d) (aZ (bW a b.length) (share (fun (h:aG) (i:List aF) (j:Int) (k:Int) (l:Bool)=>cond l (some false) (g h i j (aP .i64 k 1))) fun e=>cond (bK (nth (default:aF) b a).Number 1) (e c b d a true) (cond (bK c.dN (nth (default:aF) b a).Number) (e c b d a true) (cond (bK 0 a) (aZ (bW (bO .i64 a 1) c.bI.length) (cond (b8 (nth (default:aF) b a).Number (nth (default:aF) c.bI (bO .i64 a 1)).Number) (e c b d a true) ((cY f (nth (default:aF) b a).To).bind fun m=>cond (!m) (e c b d a true) (cond (!seq (nth (default:aF) b a).By ([]:List UInt8)) ((cY f (nth (default:aF) b a).By).bind fun n=>cond (!n) (e c b d a true) ((fB f (nth (default:aF) b a).cJ).bind fun o=>e c b d a (!o))) ((fB f (nth (default:aF) b a).cJ).bind fun p=>e c b d a (!p)))))) ((cY f (nth (default:aF) b a).To).bind fun q=>cond (!q) (e c b d a true) (cond (!seq (nth (default:aF) b a).By ([]:List UInt8)) ((cY f (nth (default:aF) b a).By).bind fun r=>cond (!r) (e c b d a true) ((fB f (nth (default:aF) b a).cJ).bind fun s=>e c b d a (!s))) ((fB f (nth (default:aF) b a).cJ).bind fun t=>e c b d a (!t)))))))) (u)
def gP (k:Nat) (a:aG):Option Bool:=
 cond (bK 24 (a.bI.length:Int)) (some false) (share (some true) fun b=>iter (ts:=mO) (R:=Bool) k (fw b) a a.bI (a.bI.length:Int) (0:Int))
def p6 (k:Nat):CT:=⟨109,[.d (.st 10)],[],[⟨false,.d .bool,[]⟩],gP k⟩
abbrev vQ:List Ty:=[.sl (.st 3),.str,.str,.int .i64]
def nI (l:Option Bool) (m:Nat) (n:List aJ→List UInt8→List UInt8→Int→Option Bool) (b:List aJ) (h:List UInt8) (e:List UInt8) (f:Int):Option Bool:=
 cond (!seq h e) ((hC m b h).bind fun a=>share (fun (c:List aJ) (i:List UInt8) (j:Int) (g:Int) (k:Bool)=>cond k (some false) (aZ (bW g c.length) (n c (nth (default:aJ) c g).h_ i (aP .i64 j 1)))) fun d=>cond (bH f 4) (d b e f a true) (cond (bK a 0) (d b e f a true) (aZ (bW a b.length) (d b e f a (seq (nth (default:aJ) b a).h_ ([]:List UInt8)))))) (l)
def yC (k:Nat) (b:List aJ) (c:List UInt8) (d:List UInt8):Option Bool:=
 share (some true) fun a=>iter (ts:=vQ) (R:=Bool) k (nI a) b c d (0:Int)
def AS (k:Nat):CT:=⟨138,[.d (.sl (.st 3)),.d .str,.d .str],[],[⟨false,.d .bool,[]⟩],yC k⟩
abbrev tX:List Ty:=[.str,.st 5,.int .i64,.sl (.st 0),.int .i64,.int .i64]
def mh (h:Int→Option Int) (i:Nat) (j:List UInt8→aA→Int→List aC→Int→Int→Option Int) (d:List UInt8) (c:aA) (e:Int) (b:List aC) (f:Int) (a:Int):Option Int:=
 cond (bK a f) (share (fun (k:List UInt8) (l:aA) (m:Int) (n:List aC) (o:Int) (p:Int)=>j k l m n o (aP .i64 p 1)) fun g=>aZ (bW a b.length) (cond (!bH (nth (default:aC) b a).Kind 1) (g d c e b f a) (cond (!seq (nth (default:aC) b a).bC d) (g d c e b f a) (aZ (bW a c.aR.length) ((sC i (nth ([]:List UInt8) c.aR a)).bind fun q=>g d c (aP .i64 e q.1) b f a))))) (h e)
def qE (k:Nat) (q:aL) (d:aA) (e:List UInt8):Option Int:=
 (jN k q.cg d).bind fun f=>share (fun (g:List UInt8) (h:aA) (i:List aC) (j:Bool)=>cond j (some 0) (share (fun (l:List UInt8) (m:aA) (a:List aC) (n:Int)=>share (fun (o:Int)=>some o) fun p=>iter (ts:=tX) (R:=Int) k (mh p) l m n a (a.length:Int) (0:Int)) fun b=>cond (seq g h.Kind) (b g h i 1) (b g h i 0))) fun c=>cond (!f.2) (c e d f.1 true) (c e d f.1 (seq e ([]:List UInt8)))
def zS (k:Nat):CT:=⟨139,[.d (.st 4),.d (.st 5),.d .str],[],[⟨false,.d (.int .i64),[]⟩],qE k⟩
abbrev xa:List Ty:=[.str,.str,.st 4,.int .i64,.sl (.st 5),.int .i64,.int .i64]
def o5 (j:Int→Option Int) (h:Nat) (k:List UInt8→List UInt8→aL→Int→List aA→Int→Int→Option Int) (d:List UInt8) (e:List UInt8) (c:aL) (f:Int) (b:List aA) (g:Int) (a:Int):Option Int:=
 cond (bK a g) (share (fun (l:List UInt8) (m:List UInt8) (n:aL) (o:Int) (p:List aA) (q:Int) (r:Int)=>k l m n o p q (aP .i64 r 1)) fun i=>aZ (bW a b.length) ((yC h c.dX (nth (default:aA) b a).aX d).bind fun s=>cond s ((qE h c (nth (default:aA) b a) e).bind fun t=>i d e c (aP .i64 f t) b g a) (i d e c f b g a))) (j f)
def pK (k:Nat) (d:aL) (a:aG) (e:List UInt8) (f:List UInt8):Option Int:=
 share (fun (b:Int)=>some b) fun c=>iter (ts:=xa) (R:=Int) k (o5 c) e f d (0:Int) a.aO (a.aO.length:Int) (0:Int)
def wi (k:Nat):CT:=⟨76,[.d (.st 4),.d (.st 10),.d .str,.d .str],[],[⟨false,.d (.int .i64),[]⟩],pK k⟩
def oE (_k:Nat) (a:aE) (b:aE):Option Bool:=
 cond (!seq a.fL b.fL) (some (slt a.fL b.fL)) (cond (!seq a.aX b.aX) (some (slt a.aX b.aX)) (some (slt a.aN b.aN)))
def yD (k:Nat):CT:=⟨141,[.d (.st 9),.d (.st 9)],[],[⟨false,.d .bool,[]⟩],oE k⟩
abbrev oe:List Ty:=[.str,.str,.sl (.st 8),.int .i64,.int .i64]
def gv (g:Option Int) (p:Nat) (h:List UInt8→List UInt8→List aB→Int→Int→Option Int) (c:List UInt8) (d:List UInt8) (b:List aB) (e:Int) (a:Int):Option Int:=
 cond (bK a e) (aZ (bW a b.length) (share (fun (i:List UInt8) (j:List UInt8) (k:Int) (l:List aB) (m:Int) (n:Int) (o:Bool)=>cond o (some k) (h i j l m (aP .i64 n 1))) fun f=>cond (seq (nth (default:aB) b a).aX c) (f c d a b e a (seq (nth (default:aB) b a).aN d)) (f c d a b e a false))) (g)
def eC (k:Nat) (a:aG) (c:List UInt8) (d:List UInt8):Option Int:=
 share (some (-1)) fun b=>iter (ts:=oe) (R:=Int) k (gv b) c d a.aK (a.aK.length:Int) (0:Int)
def g8 (k:Nat):CT:=⟨75,[.d (.st 10),.d .str,.d .str],[],[⟨false,.d (.int .i64),[]⟩],eC k⟩
end Go.Proofs.YtjkbbdldmdajkaaGreatDoor.Fn
