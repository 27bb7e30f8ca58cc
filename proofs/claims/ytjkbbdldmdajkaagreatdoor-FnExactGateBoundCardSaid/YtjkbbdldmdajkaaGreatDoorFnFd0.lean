/- The functions, as printed from their code; their contracts. No condition. -/
import Derived.Test.YtjkbbdldmdajkaaGreatDoorWB
import Derived.Test.YtjkbbdldmdajkaaGreatDoorProg
set_option linter.unusedSimpArgs false
set_option linter.unusedVariables false
namespace Go.Proofs.YtjkbbdldmdajkaaGreatDoor.Fn
open Go Go.RowKit Go.Proofs.YtjkbbdldmdajkaaGreatDoor.c_
def cH:List (Nat×Ty):=[(2,.int .i64),(3,.int .i64),(4,.bool),(5,.int .u8),(6,.int .u8),(9,.str),(10,.str),(11,.str),(12,.int .u64),(21,.int .i32),(22,.sl (.st 1)),(23,.sl (.st 2)),(24,.sl (.st 3)),(25,.st 4),(26,.st 4),(27,.sl (.st 5)),(28,.sl (.st 7)),(29,.sl (.st 8)),(30,.sl (.st 9)),(31,.st 10),(32,.st 10),(35,.sl (.st 5)),(36,.sl (.st 7)),(37,.sl (.st 8)),(38,.sl (.st 9)),(39,.st 10),(40,.st 10),(43,.sl (.st 1)),(44,.sl (.st 2)),(45,.sl (.st 3)),(46,.st 4),(47,.st 4),(70,.st 9),(71,.st 9),(102,.st 8),(103,.st 8),(110,.sl (.int .i64)),(112,.sl .str),(113,.st 5),(114,.st 5),(118,.st 11),(119,.st 11),(126,.st 0),(127,.st 0),(129,.sl (.st 0)),(130,.st 1),(131,.st 1),(133,.st 2),(134,.st 2),(136,.st 3),(137,.st 3),(139,.st 5),(141,.st 6),(142,.st 6),(143,.st 7),(144,.st 7),(146,.st 8),(148,.st 9),(152,.st 6),(153,.st 7),(154,.st 7),(157,.sl (.st 0)),(158,.st 1),(159,.st 1),(161,.st 2),(163,.st 3),(195,.sl .bool),(221,.st 12),(222,.st 12),(226,.sl (.int .u8)),(235,.st 0),(264,.st 13),(265,.st 13),(276,.int .u64),(283,.int .u8),(287,.st 14),(288,.st 14),(290,.st 14),(291,.st 14),(292,.st 14),(317,.int .u32),(318,.int .u8),(321,.int .i32),(322,.int .i32),(331,.int .u16),(335,.int .i32)]
theorem bF:Tryz.prog.follows .mixedOrders=true:=by kernel_rfl
theorem Mw:gK Tryz.prog 288 "loop.example/wharfgate/impl.clean" 258:=fun v w=>by kernel_rfl
theorem OY:gK Tryz.prog 288 "loop.example/wharfgate/impl.fits" 259:=fun v w=>by kernel_rfl
theorem Mx:gK Tryz.prog 288 "loop.example/wharfgate/impl.sound" 260:=fun v w=>by kernel_rfl
theorem My:gK Tryz.prog 290 "loop.example/wharfgate/impl.clean" 261:=fun v w=>by kernel_rfl
theorem OZ:gK Tryz.prog 290 "loop.example/wharfgate/impl.fits" 262:=fun v w=>by kernel_rfl
theorem Mz:gK Tryz.prog 290 "loop.example/wharfgate/impl.sound" 263:=fun v w=>by kernel_rfl
theorem MA:gK Tryz.prog 291 "loop.example/wharfgate/impl.clean" 264:=fun v w=>by kernel_rfl
theorem O5:gK Tryz.prog 291 "loop.example/wharfgate/impl.fits" 265:=fun v w=>by kernel_rfl
theorem MB:gK Tryz.prog 291 "loop.example/wharfgate/impl.sound" 266:=fun v w=>by kernel_rfl
theorem MC:gK Tryz.prog 292 "loop.example/wharfgate/impl.clean" 267:=fun v w=>by kernel_rfl
theorem O7:gK Tryz.prog 292 "loop.example/wharfgate/impl.fits" 268:=fun v w=>by kernel_rfl
theorem MD:gK Tryz.prog 292 "loop.example/wharfgate/impl.sound" 269:=fun v w=>by kernel_rfl
def dB (x:List UInt8):Prop:=x.length≤maxLen
def DN {α:Type} (p:α→Prop) (xs:List α):Prop:=xs.length≤maxLen∧∀ x,x∈xs→p x
def jr (k:IntKind) (x:Int):Prop:=k.min≤x∧x≤k.max
def _root_.Go.Proofs.YtjkbbdldmdajkaaGreatDoor.c_.aC.ok (x:aC):Prop:=dB x.Name∧jr .i64 x.Kind∧jr .i64 x.bS∧jr .i64 x.bT∧DN dB x.Words∧dB x.To∧jr .i64 x.cG∧True∧True∧dB x.Default∧dB x.bE
def _root_.Go.Proofs.YtjkbbdldmdajkaaGreatDoor.c_.aD.ok (x:aD):Prop:=dB x.Kind∧DN aC.ok x.aV
def _root_.Go.Proofs.YtjkbbdldmdajkaaGreatDoor.c_.aH.ok (x:aH):Prop:=dB x.Kind∧dB x.Field∧dB x.dk∧dB x.Is∧dB x.tp∧dB x.cS
def _root_.Go.Proofs.YtjkbbdldmdajkaaGreatDoor.c_.aJ.ok (x:aJ):Prop:=dB x.Name∧dB x.ia
def _root_.Go.Proofs.YtjkbbdldmdajkaaGreatDoor.c_.aL.ok (x:aL):Prop:=DN aD.ok x.cg∧DN aH.ok x.iO∧DN aJ.ok x.dY
def _root_.Go.Proofs.YtjkbbdldmdajkaaGreatDoor.c_.aA.ok (x:aA):Prop:=dB x.Kind∧dB x.Name∧dB x.aX∧DN dB x.aR∧True∧DN dB x.b7∧jr .i64 x.Version
def _root_.Go.Proofs.YtjkbbdldmdajkaaGreatDoor.c_.bG.ok (x:bG):Prop:=DN (jr .i64) x.b_∧dB x.Kind∧dB x.aX∧dB x.cU
def _root_.Go.Proofs.YtjkbbdldmdajkaaGreatDoor.c_.aF.ok (x:aF):Prop:=jr .i64 x.Number∧dB x.To∧dB x.By∧bG.ok x.cJ
def _root_.Go.Proofs.YtjkbbdldmdajkaaGreatDoor.c_.aB.ok (x:aB):Prop:=dB x.aX∧dB x.aN∧jr .i64 x.bT∧jr .i64 x.gG
def _root_.Go.Proofs.YtjkbbdldmdajkaaGreatDoor.c_.aE.ok (x:aE):Prop:=dB x.fM∧dB x.aX∧dB x.aN∧jr .i64 x.cF∧jr .i64 x.dX
def _root_.Go.Proofs.YtjkbbdldmdajkaaGreatDoor.c_.aG.ok (x:aG):Prop:=jr .i64 x.vo∧jr .i64 x.dR∧jr .i64 x.dP∧DN aA.ok x.aO∧DN aF.ok x.bI∧DN aB.ok x.aK∧DN aE.ok x.aW
def _root_.Go.Proofs.YtjkbbdldmdajkaaGreatDoor.c_.GW.ok (x:GW):Prop:=dB x.kind∧dB x.name
def _root_.Go.Proofs.YtjkbbdldmdajkaaGreatDoor.c_.cq.ok (x:cq):Prop:=dB x.dO∧dB x.resource
def _root_.Go.Proofs.YtjkbbdldmdajkaaGreatDoor.c_.eV.ok (x:eV):Prop:=jr .i64 x.code∧jr .i64 x.place
def _root_.Go.Proofs.YtjkbbdldmdajkaaGreatDoor.c_.bJ.ok (x:bJ):Prop:=aC.ok x.aC
def _root_.Go.Proofs.YtjkbbdldmdajkaaGreatDoor.c_.cy.ok (x:cy):Prop:=dB x.Key∧jr .i64 x.Mv
def _root_.Go.Proofs.YtjkbbdldmdajkaaGreatDoor.c_.c5.ok (x:c5):Prop:=cq.ok x.Key∧jr .i64 x.Mv
abbrev vG:List Ty:=[.sl .str,.int .i64,.int .i64]
def zA (e:Int→Option Int) (f:Nat) (d:List (List UInt8)→Int→Int→Option Int) (a:List (List UInt8)) (c:Int) (b:Int):Option Int:=
 cond (bK b (a.length:Int)) (aZ (bW b a.length) (cond (bK (bO .i64 c ((nth ([]:List UInt8) a b).length:Int)) 0) (some (-1)) (d a (bO .i64 c ((nth ([]:List UInt8) a b).length:Int)) (aP .i64 b 1)))) (e c)
def kZ (k:Nat) (a:List (List UInt8)) (b:Int):Option Int:=
 cond (bK (bO .i64 b (a.length:Int)) 0) (some (-1)) (share (fun (c:Int)=>some c) fun d=>iter (ts:=vG) (R:=Int) k (zA d) a (bO .i64 b (a.length:Int)) (0:Int))
def ug (k:Nat):CT:=⟨153,[.d (.sl .str),.d (.int .i64)],[],[⟨false,.d (.int .i64),[]⟩],kZ k⟩
def k_ (k:Nat) (a:aC) (c:Int):Option Int:=
 cond (bK (bO .i64 c (a.Name.length:Int)) 0) (some (-1)) ((kZ k a.Words (bO .i64 c (a.Name.length:Int))).bind fun b=>cond (bK b 0) (some (-1)) (cond (bK (bO .i64 b (a.To.length:Int)) 0) (some (-1)) (cond (bK (bO .i64 (bO .i64 b (a.To.length:Int)) (a.Default.length:Int)) 0) (some (-1)) (cond (bK (bO .i64 (bO .i64 (bO .i64 b (a.To.length:Int)) (a.Default.length:Int)) (a.bE.length:Int)) 0) (some (-1)) (some (bO .i64 (bO .i64 (bO .i64 b (a.To.length:Int)) (a.Default.length:Int)) (a.bE.length:Int)))))))
def x8 (k:Nat):CT:=⟨186,[.d (.st 0),.d (.int .i64)],[],[⟨false,.d (.int .i64),[]⟩],k_ k⟩
abbrev rA:List Ty:=[.sl (.st 0),.int .i64,.int .i64]
def vH (e:Int→Option Int) (f:Nat) (g:List aC→Int→Int→Option Int) (a:List aC) (c:Int) (b:Int):Option Int:=
 cond (bK b (a.length:Int)) (aZ (bW b a.length) ((k_ f (nth (default:aC) a b) c).bind fun d=>cond (bK d 0) (some (-1)) (g a d (aP .i64 b 1)))) (e c)
def ny (k:Nat) (a:List aC) (b:Int):Option Int:=
 cond (bK (bO .i64 b (a.length:Int)) 0) (some (-1)) (share (fun (c:Int)=>some c) fun d=>iter (ts:=rA) (R:=Int) k (vH d) a (bO .i64 b (a.length:Int)) (0:Int))
def wP (k:Nat):CT:=⟨152,[.d (.sl (.st 0)),.d (.int .i64)],[],[⟨false,.d (.int .i64),[]⟩],ny k⟩
def la (k:Nat) (a:aD) (b:Int):Option Int:=
 cond (bK (bO .i64 b (a.Kind.length:Int)) 0) (some (-1)) ((ny k a.aV (bO .i64 b (a.Kind.length:Int))).bind fun c=>cond (bK c 0) (some (-1)) (some c))
def x9 (k:Nat):CT:=⟨86,[.d (.st 1),.d (.int .i64)],[],[⟨false,.d (.int .i64),[]⟩],la k⟩
abbrev rB:List Ty:=[.sl (.st 1),.int .i64,.int .i64]
def vI (e:Int→Option Int) (f:Nat) (g:List aD→Int→Int→Option Int) (a:List aD) (c:Int) (b:Int):Option Int:=
 cond (bK b (a.length:Int)) (aZ (bW b a.length) ((la f (nth (default:aD) a b) c).bind fun d=>cond (bK d 0) (some (-1)) (g a d (aP .i64 b 1)))) (e c)
def nz (k:Nat) (a:List aD) (b:Int):Option Int:=
 cond (bK (bO .i64 b (a.length:Int)) 0) (some (-1)) (share (fun (c:Int)=>some c) fun d=>iter (ts:=rB) (R:=Int) k (vI d) a (bO .i64 b (a.length:Int)) (0:Int))
def wQ (k:Nat):CT:=⟨27,[.d (.sl (.st 1)),.d (.int .i64)],[],[⟨false,.d (.int .i64),[]⟩],nz k⟩
def mJ (_k:Nat) (a:aH) (b:Int):Option Int:=
 cond (bK (bO .i64 b (a.Kind.length:Int)) 0) (some (-1)) (cond (bK (bO .i64 (bO .i64 b (a.Kind.length:Int)) (a.Field.length:Int)) 0) (some (-1)) (cond (bK (bO .i64 (bO .i64 (bO .i64 b (a.Kind.length:Int)) (a.Field.length:Int)) (a.dk.length:Int)) 0) (some (-1)) (cond (bK (bO .i64 (bO .i64 (bO .i64 (bO .i64 b (a.Kind.length:Int)) (a.Field.length:Int)) (a.dk.length:Int)) (a.Is.length:Int)) 0) (some (-1)) (cond (bK (bO .i64 (bO .i64 (bO .i64 (bO .i64 (bO .i64 b (a.Kind.length:Int)) (a.Field.length:Int)) (a.dk.length:Int)) (a.Is.length:Int)) (a.tp.length:Int)) 0) (some (-1)) (cond (bK (bO .i64 (bO .i64 (bO .i64 (bO .i64 (bO .i64 (bO .i64 b (a.Kind.length:Int)) (a.Field.length:Int)) (a.dk.length:Int)) (a.Is.length:Int)) (a.tp.length:Int)) (a.cS.length:Int)) 0) (some (-1)) (some (bO .i64 (bO .i64 (bO .i64 (bO .i64 (bO .i64 (bO .i64 b (a.Kind.length:Int)) (a.Field.length:Int)) (a.dk.length:Int)) (a.Is.length:Int)) (a.tp.length:Int)) (a.cS.length:Int))))))))
def zB (k:Nat):CT:=⟨87,[.d (.st 2),.d (.int .i64)],[],[⟨false,.d (.int .i64),[]⟩],mJ k⟩
abbrev sk:List Ty:=[.sl (.st 2),.int .i64,.int .i64]
def wR (e:Int→Option Int) (f:Nat) (g:List aH→Int→Int→Option Int) (a:List aH) (c:Int) (b:Int):Option Int:=
 cond (bK b (a.length:Int)) (aZ (bW b a.length) ((mJ f (nth (default:aH) a b) c).bind fun d=>cond (bK d 0) (some (-1)) (g a d (aP .i64 b 1)))) (e c)
def oM (k:Nat) (a:List aH) (b:Int):Option Int:=
 cond (bK (bO .i64 b (a.length:Int)) 0) (some (-1)) (share (fun (c:Int)=>some c) fun d=>iter (ts:=sk) (R:=Int) k (wR d) a (bO .i64 b (a.length:Int)) (0:Int))
def x_ (k:Nat):CT:=⟨28,[.d (.sl (.st 2)),.d (.int .i64)],[],[⟨false,.d (.int .i64),[]⟩],oM k⟩
def mL (_k:Nat) (a:aJ) (b:Int):Option Int:=
 cond (bK (bO .i64 b (a.Name.length:Int)) 0) (some (-1)) (cond (bK (bO .i64 (bO .i64 b (a.Name.length:Int)) (a.ia.length:Int)) 0) (some (-1)) (some (bO .i64 (bO .i64 b (a.Name.length:Int)) (a.ia.length:Int))))
def zC (k:Nat):CT:=⟨88,[.d (.st 3),.d (.int .i64)],[],[⟨false,.d (.int .i64),[]⟩],mL k⟩
abbrev sm:List Ty:=[.sl (.st 3),.int .i64,.int .i64]
def wS (e:Int→Option Int) (f:Nat) (g:List aJ→Int→Int→Option Int) (a:List aJ) (c:Int) (b:Int):Option Int:=
 cond (bK b (a.length:Int)) (aZ (bW b a.length) ((mL f (nth (default:aJ) a b) c).bind fun d=>cond (bK d 0) (some (-1)) (g a d (aP .i64 b 1)))) (e c)
def oN (k:Nat) (a:List aJ) (b:Int):Option Int:=
 cond (bK (bO .i64 b (a.length:Int)) 0) (some (-1)) (share (fun (c:Int)=>some c) fun d=>iter (ts:=sm) (R:=Int) k (wS d) a (bO .i64 b (a.length:Int)) (0:Int))
def ya (k:Nat):CT:=⟨29,[.d (.sl (.st 3)),.d (.int .i64)],[],[⟨false,.d (.int .i64),[]⟩],oN k⟩
def kV (k:Nat) (a:aL) (e:Int):Option Int:=
 (nz k a.cg e).bind fun b=>cond (bK b 0) (some (-1)) ((oM k a.iO b).bind fun c=>cond (bK c 0) (some (-1)) ((oN k a.dY c).bind fun d=>cond (bK d 0) (some (-1)) (some d)))
def oO (k:Nat):CT:=⟨8,[.d (.st 4),.d (.int .i64)],[],[⟨false,.d (.int .i64),[]⟩],kV k⟩
def js (k:Nat) (a:aA) (b:Int):Option Int:=
 cond (bK (bO .i64 b (a.Kind.length:Int)) 0) (some (-1)) (cond (bK (bO .i64 (bO .i64 b (a.Kind.length:Int)) (a.Name.length:Int)) 0) (some (-1)) (cond (bK (bO .i64 (bO .i64 (bO .i64 b (a.Kind.length:Int)) (a.Name.length:Int)) (a.aX.length:Int)) 0) (some (-1)) ((kZ k a.aR (bO .i64 (bO .i64 (bO .i64 b (a.Kind.length:Int)) (a.Name.length:Int)) (a.aX.length:Int))).bind fun c=>cond (bK c 0) (some (-1)) ((kZ k a.b7 c).bind fun d=>cond (bK d 0) (some (-1)) (some d)))))
def wT (k:Nat):CT:=⟨89,[.d (.st 5),.d (.int .i64)],[],[⟨false,.d (.int .i64),[]⟩],js k⟩
abbrev pV:List Ty:=[.sl (.st 5),.int .i64,.int .i64]
def tP (e:Int→Option Int) (f:Nat) (g:List aA→Int→Int→Option Int) (a:List aA) (c:Int) (b:Int):Option Int:=
 cond (bK b (a.length:Int)) (aZ (bW b a.length) ((js f (nth (default:aA) a b) c).bind fun d=>cond (bK d 0) (some (-1)) (g a d (aP .i64 b 1)))) (e c)
def lW (k:Nat) (a:List aA) (b:Int):Option Int:=
 cond (bK (bO .i64 b (a.length:Int)) 0) (some (-1)) (share (fun (c:Int)=>some c) fun d=>iter (ts:=pV) (R:=Int) k (tP d) a (bO .i64 b (a.length:Int)) (0:Int))
def vJ (k:Nat):CT:=⟨30,[.d (.sl (.st 5)),.d (.int .i64)],[],[⟨false,.d (.int .i64),[]⟩],lW k⟩
def zD (_k:Nat) (a:List Int) (b:Int):Option Int:=
 cond (bK (bO .i64 b (a.length:Int)) 0) (some (-1)) (some (bO .i64 b (a.length:Int)))
def Gy (k:Nat):CT:=⟨187,[.d (.sl (.int .i64)),.d (.int .i64)],[],[⟨false,.d (.int .i64),[]⟩],zD k⟩
def qj (k:Nat) (a:bG) (c:Int):Option Int:=
 (zD k a.b_ c).bind fun b=>cond (bK b 0) (some (-1)) (cond (bK (bO .i64 b (a.Kind.length:Int)) 0) (some (-1)) (cond (bK (bO .i64 (bO .i64 b (a.Kind.length:Int)) (a.aX.length:Int)) 0) (some (-1)) (cond (bK (bO .i64 (bO .i64 (bO .i64 b (a.Kind.length:Int)) (a.aX.length:Int)) (a.cU.length:Int)) 0) (some (-1)) (some (bO .i64 (bO .i64 (bO .i64 b (a.Kind.length:Int)) (a.aX.length:Int)) (a.cU.length:Int))))))
def zE (k:Nat):CT:=⟨154,[.d (.st 6),.d (.int .i64)],[],[⟨false,.d (.int .i64),[]⟩],qj k⟩
def lb (k:Nat) (a:aF) (b:Int):Option Int:=
 cond (bK (bO .i64 b (a.To.length:Int)) 0) (some (-1)) (cond (bK (bO .i64 (bO .i64 b (a.To.length:Int)) (a.By.length:Int)) 0) (some (-1)) ((qj k a.cJ (bO .i64 (bO .i64 b (a.To.length:Int)) (a.By.length:Int))).bind fun c=>cond (bK c 0) (some (-1)) (some c)))
def yb (k:Nat):CT:=⟨90,[.d (.st 7),.d (.int .i64)],[],[⟨false,.d (.int .i64),[]⟩],lb k⟩
abbrev rC:List Ty:=[.sl (.st 7),.int .i64,.int .i64]
def vK (e:Int→Option Int) (f:Nat) (g:List aF→Int→Int→Option Int) (a:List aF) (c:Int) (b:Int):Option Int:=
 cond (bK b (a.length:Int)) (aZ (bW b a.length) ((lb f (nth (default:aF) a b) c).bind fun d=>cond (bK d 0) (some (-1)) (g a d (aP .i64 b 1)))) (e c)
def nA (k:Nat) (a:List aF) (b:Int):Option Int:=
 cond (bK (bO .i64 b (a.length:Int)) 0) (some (-1)) (share (fun (c:Int)=>some c) fun d=>iter (ts:=rC) (R:=Int) k (vK d) a (bO .i64 b (a.length:Int)) (0:Int))
def wU (k:Nat):CT:=⟨31,[.d (.sl (.st 7)),.d (.int .i64)],[],[⟨false,.d (.int .i64),[]⟩],nA k⟩
def jt (_k:Nat) (a:aB) (b:Int):Option Int:=
 cond (bK (bO .i64 b (a.aX.length:Int)) 0) (some (-1)) (cond (bK (bO .i64 (bO .i64 b (a.aX.length:Int)) (a.aN.length:Int)) 0) (some (-1)) (some (bO .i64 (bO .i64 b (a.aX.length:Int)) (a.aN.length:Int))))
def wV (k:Nat):CT:=⟨91,[.d (.st 8),.d (.int .i64)],[],[⟨false,.d (.int .i64),[]⟩],jt k⟩
abbrev pW:List Ty:=[.sl (.st 8),.int .i64,.int .i64]
def tQ (e:Int→Option Int) (f:Nat) (g:List aB→Int→Int→Option Int) (a:List aB) (c:Int) (b:Int):Option Int:=
 cond (bK b (a.length:Int)) (aZ (bW b a.length) ((jt f (nth (default:aB) a b) c).bind fun d=>cond (bK d 0) (some (-1)) (g a d (aP .i64 b 1)))) (e c)
def lX (k:Nat) (a:List aB) (b:Int):Option Int:=
 cond (bK (bO .i64 b (a.length:Int)) 0) (some (-1)) (share (fun (c:Int)=>some c) fun d=>iter (ts:=pW) (R:=Int) k (tQ d) a (bO .i64 b (a.length:Int)) (0:Int))
def vL (k:Nat):CT:=⟨32,[.d (.sl (.st 8)),.d (.int .i64)],[],[⟨false,.d (.int .i64),[]⟩],lX k⟩
def lg (_k:Nat) (a:aE) (b:Int):Option Int:=
 cond (bK (bO .i64 b (a.fM.length:Int)) 0) (some (-1)) (cond (bK (bO .i64 (bO .i64 b (a.fM.length:Int)) (a.aX.length:Int)) 0) (some (-1)) (cond (bK (bO .i64 (bO .i64 (bO .i64 b (a.fM.length:Int)) (a.aX.length:Int)) (a.aN.length:Int)) 0) (some (-1)) (some (bO .i64 (bO .i64 (bO .i64 b (a.fM.length:Int)) (a.aX.length:Int)) (a.aN.length:Int)))))
def ye (k:Nat):CT:=⟨92,[.d (.st 9),.d (.int .i64)],[],[⟨false,.d (.int .i64),[]⟩],lg k⟩
abbrev rD:List Ty:=[.sl (.st 9),.int .i64,.int .i64]
def vM (e:Int→Option Int) (f:Nat) (g:List aE→Int→Int→Option Int) (a:List aE) (c:Int) (b:Int):Option Int:=
 cond (bK b (a.length:Int)) (aZ (bW b a.length) ((lg f (nth (default:aE) a b) c).bind fun d=>cond (bK d 0) (some (-1)) (g a d (aP .i64 b 1)))) (e c)
def nB (k:Nat) (a:List aE) (b:Int):Option Int:=
 cond (bK (bO .i64 b (a.length:Int)) 0) (some (-1)) (share (fun (c:Int)=>some c) fun d=>iter (ts:=rD) (R:=Int) k (vM d) a (bO .i64 b (a.length:Int)) (0:Int))
def wW (k:Nat):CT:=⟨33,[.d (.sl (.st 9)),.d (.int .i64)],[],[⟨false,.d (.int .i64),[]⟩],nB k⟩
def iY (k:Nat) (a:aG) (f:Int):Option Int:=
 (lW k a.aO f).bind fun b=>cond (bK b 0) (some (-1)) ((nA k a.bI b).bind fun c=>cond (bK c 0) (some (-1)) ((lX k a.aK c).bind fun d=>cond (bK d 0) (some (-1)) ((nB k a.aW d).bind fun e=>cond (bK e 0) (some (-1)) (some e))))
def nC (k:Nat):CT:=⟨9,[.d (.st 10),.d (.int .i64)],[],[⟨false,.d (.int .i64),[]⟩],iY k⟩
def mC (_k:Nat) (a:aH):Option aH:=
 some a
def zF (k:Nat):CT:=⟨101,[.d (.st 2)],[],[⟨false,.d (.st 2),[]⟩],mC k⟩
def mD (_k:Nat) (a:aJ):Option aJ:=
 some a
def zG (k:Nat):CT:=⟨102,[.d (.st 3)],[],[⟨false,.d (.st 3),[]⟩],mD k⟩
def jh (_k:Nat) (a:aB):Option aB:=
 some a
def wX (k:Nat):CT:=⟨105,[.d (.st 8)],[],[⟨false,.d (.st 8),[]⟩],jh k⟩
def kT (_k:Nat) (a:aE):Option aE:=
 some a
def yf (k:Nat):CT:=⟨106,[.d (.st 9)],[],[⟨false,.d (.st 9),[]⟩],kT k⟩
def dE (_k:Nat) (a:Int) (b:Int) (c:Int):Option Bool:=
 cond (b8 b a) (some (b8 a c)) (some false)
def fk (k:Nat):CT:=⟨69,[.d (.int .i64),.d (.int .i64),.d (.int .i64)],[],[⟨false,.d .bool,[]⟩],dE k⟩
def vN (_k:Nat) (a:Int):Option Bool:=
 cond (b8 97 a) (cond (b8 a 122) (some true) (cond (b8 48 a) (cond (b8 a 57) (some true) (some (bH a 45))) (some (bH a 45)))) (cond (b8 48 a) (cond (b8 a 57) (some true) (some (bH a 45))) (some (bH a 45)))
def Ah (k:Nat):CT:=⟨133,[.d (.int .u8)],[],[⟨false,.d .bool,[]⟩],vN k⟩
abbrev wY:List Ty:=[.str,.int .i64]
def oP (c:Option Bool) (d:Nat) (e:List UInt8→Int→Option Bool) (a:List UInt8) (b:Int):Option Bool:=
 cond (bK b (a.length:Int)) (aZ (bW b a.length) ((vN d (AI a b)).bind fun f=>cond (!f) (some false) (e a (aP .i64 b 1)))) (c)
def cu (k:Nat) (a:List UInt8):Option Bool:=
 (dE k (a.length:Int) 1 16).bind fun c=>cond (!c) (some false) (share (some true) fun b=>iter (ts:=wY) (R:=Bool) k (oP b) a (0:Int))
def dw (k:Nat):CT:=⟨68,[.d .str],[],[⟨false,.d .bool,[]⟩],cu k⟩
def zH (_k:Nat) (c:aC):Option Bool:=
 share (fun (a:aC) (i:Bool)=>share (fun (d:aC) (j:Bool)=>cond j (some false) (share (fun (f:aC) (g:Bool)=>cond g (some false) (cond (bH f.Kind 4) (some true) (cond (seq f.To ([]:List UInt8)) (some (bH f.cG 0)) (some false)))) fun e=>cond (!bH d.Kind 2) (e d (bK 0 (d.Words.length:Int))) (e d false))) fun b=>cond (!i) (cond (!bH a.bS 0) (b a true) (cond (!bH a.bT 0) (b a true) (cond (!bH a.Kind 1) (b a (!seq a.bE ([]:List UInt8))) (b a false)))) (cond (!bH a.Kind 1) (b a (!seq a.bE ([]:List UInt8))) (b a false))) fun h=>cond (bH c.Kind 1) (h c true) (h c (bH c.Kind 3))
def Gz (k:Nat):CT:=⟨223,[.d (.st 0)],[],[⟨false,.d .bool,[]⟩],zH k⟩
abbrev wZ:List Ty:=[.str,.int .i64,.int .i64]
def oQ (g:Int→Option Int) (k:Nat) (h:List UInt8→Int→Int→Option Int) (a:List UInt8) (c:Int) (b:Int):Option Int:=
 cond (bK b (a.length:Int)) (share (fun (d:List UInt8) (i:Int) (e:Int) (j:Bool)=>cond j (some (-1)) (aZ (bW e d.length) (h d (bO .i64 (aP .i64 (Xn .i64 i 10) (zu .i64 (AI d e))) 48) (aP .i64 e 1)))) fun f=>aZ (bW b a.length) (cond (bK (AI a b) 48) (f a c b true) (aZ (bW b a.length) (f a c b (bK 57 (AI a b)))))) (g c)
def pX (k:Nat) (a:List UInt8):Option Int:=
 share (fun (f:List UInt8) (g:Bool)=>cond g (some (-1)) (share (fun (c:Int)=>some c) fun d=>iter (ts:=wZ) (R:=Int) k (oQ d) f (0:Int) (0:Int))) fun b=>(dE k (a.length:Int) 1 7).bind fun e=>cond (!e) (b a true) (cond (bK 1 (a.length:Int)) (aZ (bW 0 a.length) (b a (bH (AI a 0) 48))) (b a false))
def wi (k:Nat):CT:=⟨180,[.d .str],[],[⟨false,.d (.int .i64),[]⟩],pX k⟩
abbrev AJ:List Ty:=[.sl .str,.str,.int .i64]
def uV (e:Option Bool) (f:Nat) (d:List (List UInt8)→List UInt8→Int→Option Bool) (a:List (List UInt8)) (c:List UInt8) (b:Int):Option Bool:=
 cond (bK b (a.length:Int)) (aZ (bW b a.length) (cond (seq (nth ([]:List UInt8) a b) c) (some true) (d a c (aP .i64 b 1)))) (e)
def nX (k:Nat) (a:List (List UInt8)) (b:List UInt8):Option Bool:=
 share (some false) fun c=>iter (ts:=AJ) (R:=Bool) k (uV c) a b (0:Int)
def xu (k:Nat):CT:=⟨211,[.d (.sl .str),.d .str],[],[⟨false,.d .bool,[]⟩],nX k⟩
abbrev w6:List Ty:=[.str,.st 0,.int .i64]
def oR (d:List UInt8→aC→Option Bool) (e:Nat) (f:List UInt8→aC→Int→Option Bool) (a:List UInt8) (c:aC) (b:Int):Option Bool:=
 cond (bK b (a.length:Int)) (aZ (bW b a.length) ((dE e (zu .i64 (AI a b)) 33 126).bind fun g=>cond (!g) (some false) (f a c (aP .i64 b 1)))) (d a c)
def mY (k:Nat) (a:aC) (b:List UInt8):Option Bool:=
 cond (bH a.Kind 1) ((pX k b).bind fun c=>cond (b8 0 c) ((dE k c a.bS a.bT).bind fun f=>some f) (some false)) (cond (bH a.Kind 2) (cond (!seq b ([]:List UInt8)) ((nX k a.Words b).bind fun g=>some g) (some false)) (cond (bH a.Kind 3) (share (fun (d:List UInt8) (e:aC)=>cond (!seq d ([]:List UInt8)) ((dE k (d.length:Int) e.bS e.bT).bind fun h=>some h) (some false)) fun i=>iter (ts:=w6) (R:=Bool) k (oR i) b a (0:Int)) (cond (bH a.Kind 4) ((cu k b).bind fun j=>some j) (some false))))
def qk (k:Nat):CT:=⟨192,[.d (.st 0),.d .str],[],[⟨false,.d .bool,[]⟩],mY k⟩
abbrev sn:List Ty:=[.sl .str,.int .i64]
def kq (d:Option Bool) (e:Nat) (f:List (List UInt8)→Int→Option Bool) (b:List (List UInt8)) (a:Int):Option Bool:=
 cond (bK a (b.length:Int)) (share (fun (g:List (List UInt8)) (h:Int) (i:Bool)=>cond i (some false) (f g (aP .i64 h 1))) fun c=>aZ (bW a b.length) ((cu e (nth ([]:List UInt8) b a)).bind fun j=>cond (!j) (c b a true) (cond (bK 0 a) (aZ (bW (bO .i64 a 1) b.length) (aZ (bW a b.length) (c b a (!slt (nth ([]:List UInt8) b (bO .i64 a 1)) (nth ([]:List UInt8) b a))))) (c b a false)))) (d)
def lh (k:Nat) (b:List (List UInt8)):Option Bool:=
 share (some true) fun a=>iter (ts:=sn) (R:=Bool) k (kq a) b (0:Int)
def qT (k:Nat):CT:=⟨191,[.d (.sl .str)],[],[⟨false,.d .bool,[]⟩],lh k⟩
abbrev yg:List Ty:=[.sl (.st 1),.str,.int .i64]
def ql (e:Option Int) (f:Nat) (d:List aD→List UInt8→Int→Option Int) (b:List aD) (c:List UInt8) (a:Int):Option Int:=
 cond (bK a (b.length:Int)) (aZ (bW a b.length) (cond (seq (nth (default:aD) b a).Kind c) (some a) (d b c (aP .i64 a 1)))) (e)
def lY (k:Nat) (a:List aD) (b:List UInt8):Option Int:=
 share (some (-1)) fun c=>iter (ts:=yg) (R:=Int) k (ql c) a b (0:Int)
def nY (k:Nat):CT:=⟨195,[.d (.sl (.st 1)),.d .str],[],[⟨false,.d (.int .i64),[]⟩],lY k⟩
def so (k:Nat) (d:List aD) (b:aC):Option Bool:=
 share (fun (e:List aD) (a:aC) (f:Bool)=>cond f (some false) (cond (bH a.Kind 1) (cond (b8 0 a.bS) (cond (b8 a.bS a.bT) (cond (b8 a.bT 1000000) (cond (seq a.bE ([]:List UInt8)) (some true) ((cu k a.bE).bind fun g=>some g)) (some false)) (some false)) (some false)) (cond (bH a.Kind 2) ((dE k (a.Words.length:Int) 1 6).bind fun h=>cond h ((lh k a.Words).bind fun i=>some i) (some false)) (cond (bH a.Kind 3) (cond (b8 1 a.bS) (cond (b8 a.bS a.bT) (some (b8 a.bT 40)) (some false)) (some false)) (cond (bH a.Kind 4) ((lY k e a.To).bind fun j=>cond (b8 0 j) ((dE k a.cG 1 3).bind fun l=>cond l (cond (seq a.Default ([]:List UInt8)) (cond (!bH a.cG 2) (some true) (some (!a.c6))) (some false)) (some false)) (some false)) (some false)))))) fun c=>(cu k b.Name).bind fun m=>cond (!m) (c d b true) ((zH k b).bind fun n=>cond (!n) (c d b true) (cond (!seq b.Default ([]:List UInt8)) ((mY k b b.Default).bind fun o=>c d b (!o)) (c d b false)))
def AK (k:Nat):CT:=⟨208,[.d (.sl (.st 1)),.d (.st 0)],[],[⟨false,.d .bool,[]⟩],so k⟩
abbrev jJ:List Ty:=[.sl (.st 1),.int .i64,.int .i64,.int .i64,.st 1]
def fA (f:List aD→Int→Int→aD→Option Bool) (h:Nat) (g:List aD→Int→Int→Int→aD→Option Bool) (d:List aD) (e:Int) (b:Int) (c:Int) (a:aD):Option Bool:=
 cond (bK c b) (aZ (bW c a.aV.length) (aZ (bW b a.aV.length) (cond (seq (nth (default:aC) a.aV c).Name (nth (default:aC) a.aV b).Name) (some false) (g d e b (aP .i64 c 1) a)))) (f d e b a)
abbrev fP:List Ty:=[.sl (.st 1),.int .i64,.int .i64,.st 1]
def dZ (f:List aD→Int→Option Bool) (d:Nat) (g:List aD→Int→Int→aD→Option Bool) (c:List aD) (e:Int) (a:Int) (b:aD):Option Bool:=
 cond (bK a (b.aV.length:Int)) (share (fun (h:List aD) (i:Int) (j:Int) (k:aD)=>g h i (aP .i64 j 1) k) fun l=>aZ (bW a b.aV.length) ((so d c (nth (default:aC) b.aV a)).bind fun m=>cond (!m) (some false) (iter (ts:=jJ) (R:=Bool) d (fA l) c e a (0:Int) b))) (f c e)
abbrev gr:List Ty:=[.sl (.st 1),.int .i64]
def eG (e:Option Bool) (d:Nat) (f:List aD→Int→Option Bool) (b:List aD) (a:Int):Option Bool:=
 cond (bK a (b.length:Int)) (share (fun (g:List aD) (h:Int)=>f g (aP .i64 h 1)) fun i=>aZ (bW a b.length) (share (fun (j:List aD) (k:Int) (l:Bool) (m:aD)=>cond l (some false) (iter (ts:=fP) (R:=Bool) d (dZ i) j k (0:Int) m)) fun c=>(cu d (nth (default:aD) b a).Kind).bind fun n=>cond (!n) (c b a true (nth (default:aD) b a)) (cond (bK 0 a) (aZ (bW (bO .i64 a 1) b.length) (cond (!slt (nth (default:aD) b (bO .i64 a 1)).Kind (nth (default:aD) b a).Kind) (c b a true (nth (default:aD) b a)) (c b a (bK 6 ((nth (default:aD) b a).aV.length:Int)) (nth (default:aD) b a)))) (c b a (bK 6 ((nth (default:aD) b a).aV.length:Int)) (nth (default:aD) b a))))) (e)
def nD (k:Nat) (b:List aD):Option Bool:=
 cond (bK 6 (b.length:Int)) (some false) (share (some true) fun a=>iter (ts:=gr) (R:=Bool) k (eG a) b (0:Int))
def w7 (k:Nat):CT:=⟨188,[.d (.sl (.st 1))],[],[⟨false,.d .bool,[]⟩],nD k⟩
abbrev yh:List Ty:=[.sl (.st 0),.str,.int .i64]
def qm (e:Option Int) (f:Nat) (d:List aC→List UInt8→Int→Option Int) (b:List aC) (c:List UInt8) (a:Int):Option Int:=
 cond (bK a (b.length:Int)) (aZ (bW a b.length) (cond (seq (nth (default:aC) b a).Name c) (some a) (d b c (aP .i64 a 1)))) (e)
def eW (k:Nat) (a:List aC) (b:List UInt8):Option Int:=
 share (some (-1)) fun c=>iter (ts:=yh) (R:=Int) k (qm c) a b (0:Int)
def nZ (k:Nat):CT:=⟨210,[.d (.sl (.st 0)),.d .str],[],[⟨false,.d (.int .i64),[]⟩],eW k⟩
def lZ (k:Nat) (a:List aC) (c:List UInt8):Option Bool:=
 (eW k a c).bind fun b=>cond (b8 0 b) (aZ (bW b a.length) (some (!bH (nth (default:aC) a b).Kind 4))) (some false)
def DS (k:Nat):CT:=⟨209,[.d (.sl (.st 0)),.d .str],[],[⟨false,.d .bool,[]⟩],lZ k⟩
def uW (k:Nat) (c:List aD) (b:aH):Option Bool:=
 (lY k c b.Kind).bind fun d=>cond (bK d 0) (some false) (aZ (bW d c.length) (share (fun (a:aH) (f:List aC) (l:Bool)=>cond l (some false) (share (fun (h:aH) (i:List aC) (m:Bool)=>cond m (some false) (cond (seq h.tp ([]:List UInt8)) (some true) ((eW k i h.Field).bind fun j=>aZ (bW j i.length) ((mY k (nth (default:aC) i j) h.tp).bind fun n=>some n)))) fun g=>cond (seq a.dk a.Field) (g a f true) (cond (seq a.cS a.Field) (g a f true) (cond (seq a.dk ([]:List UInt8)) (cond (!seq a.Is ([]:List UInt8)) (g a f true) (g a f (beq (seq a.tp ([]:List UInt8)) (seq a.cS ([]:List UInt8))))) (g a f (beq (seq a.tp ([]:List UInt8)) (seq a.cS ([]:List UInt8)))))))) fun e=>(lZ k (nth (default:aD) c d).aV b.Field).bind fun o=>cond (!o) (e b (nth (default:aD) c d).aV true) (cond (!seq b.dk ([]:List UInt8)) ((lZ k (nth (default:aD) c d).aV b.dk).bind fun p=>cond (!p) (e b (nth (default:aD) c d).aV true) (cond (!seq b.cS ([]:List UInt8)) ((lZ k (nth (default:aD) c d).aV b.cS).bind fun q=>e b (nth (default:aD) c d).aV (!q)) (e b (nth (default:aD) c d).aV false))) (cond (!seq b.cS ([]:List UInt8)) ((lZ k (nth (default:aD) c d).aV b.cS).bind fun r=>e b (nth (default:aD) c d).aV (!r)) (e b (nth (default:aD) c d).aV false)))))
def CS (k:Nat):CT:=⟨189,[.d (.sl (.st 1)),.d (.st 2)],[],[⟨false,.d .bool,[]⟩],uW k⟩
abbrev yi:List Ty:=[.sl (.st 2),.str,.str,.sl .str,.int .i64]
def qn (q:Option Bool) (g:Nat) (r:List aH→List UInt8→List UInt8→List (List UInt8)→Int→Option Bool) (a:List aH) (e:List UInt8) (f:List UInt8) (c:List (List UInt8)) (b:Int):Option Bool:=
 cond (bK b (a.length:Int)) (aZ (bW b a.length) (share (fun (h:List aH) (i:List UInt8) (j:List UInt8) (k:List (List UInt8)) (l:Int) (m:Bool)=>cond m (some false) (r h i j k (aP .i64 l 1))) fun d=>cond (seq (nth (default:aH) a b).Kind e) (cond (seq (nth (default:aH) a b).Field f) (cond (!seq (nth (default:aH) a b).dk ([]:List UInt8)) ((nX g c (nth (default:aH) a b).dk).bind fun n=>cond (!n) (d a e f c b true) (cond (!seq (nth (default:aH) a b).cS ([]:List UInt8)) ((nX g c (nth (default:aH) a b).cS).bind fun o=>d a e f c b (!o)) (d a e f c b false))) (cond (!seq (nth (default:aH) a b).cS ([]:List UInt8)) ((nX g c (nth (default:aH) a b).cS).bind fun p=>d a e f c b (!p)) (d a e f c b false))) (d a e f c b false)) (d a e f c b false))) (q)
def xw (k:Nat) (b:List aH) (c:List UInt8) (d:List UInt8) (e:List (List UInt8)):Option Bool:=
 share (some true) fun a=>iter (ts:=yi) (R:=Bool) k (qn a) b c d e (0:Int)
def DT (k:Nat):CT:=⟨212,[.d (.sl (.st 2)),.d .str,.d .str,.d (.sl .str)],[],[⟨false,.d .bool,[]⟩],xw k⟩
abbrev uh:List Ty:=[.sl (.st 2),.st 1,.int .i64,.int .i64,.sl .str]
def pY (g:List aH→aD→Int→List (List UInt8)→Option (List (List UInt8))) (h:Nat) (n:List aH→aD→Int→Int→List (List UInt8)→Option (List (List UInt8))) (d:List aH) (a:aD) (e:Int) (b:Int) (c:List (List UInt8)):Option (List (List UInt8)):=
 cond (bK b (a.aV.length:Int)) (aZ (bW b a.aV.length) (share (fun (i:List aH) (j:aD) (k:Int) (o:Int) (l:List UInt8) (p:Bool) (f:List (List UInt8))=>cond p (aZ (mw (f.length+([l]:List (List UInt8)).length) 16) (g i j k (f++([l]:List (List UInt8))))) (n i j k (aP .i64 o 1) f)) fun m=>(nX h c (nth (default:aC) a.aV b).Name).bind fun q=>cond (!q) ((xw h d a.Kind (nth (default:aC) a.aV b).Name c).bind fun r=>m d a e b (nth (default:aC) a.aV b).Name r c) (m d a e b (nth (default:aC) a.aV b).Name false c))) (g d a e c)
abbrev AL:List Ty:=[.sl (.st 2),.st 1,.int .i64,.sl .str]
def uX (d:List (List UInt8)→Option (List (List UInt8))) (e:Nat) (f:List aH→aD→Int→List (List UInt8)→Option (List (List UInt8))) (g:List aH) (a:aD) (b:Int) (c:List (List UInt8)):Option (List (List UInt8)):=
 cond (bK b (a.aV.length:Int)) (share (fun (h:List aH) (i:aD) (j:Int) (k:List (List UInt8))=>f h i (aP .i64 j 1) k) fun l=>iter (ts:=uh) (R:=List (List UInt8)) e (pY l) g a b (0:Int) c) (d c)
def yj (k:Nat) (c:aD) (d:List aH):Option (List (List UInt8)):=
 share (fun (a:List (List UInt8))=>some a) fun b=>iter (ts:=AL) (R:=List (List UInt8)) k (uX b) d c (0:Int) ([]:List (List UInt8))
def BO (k:Nat):CT:=⟨190,[.d (.st 1),.d (.sl (.st 2))],[],[⟨false,.d (.sl .str),[]⟩],yj k⟩
abbrev sq:List Ty:=[.sl (.st 1),.sl (.st 2),.int .i64]
def kr (d:Option Bool) (e:Nat) (f:List aD→List aH→Int→Option Bool) (a:List aD) (c:List aH) (b:Int):Option Bool:=
 cond (bK b (a.length:Int)) (aZ (bW b a.length) ((yj e (nth (default:aD) a b) c).bind fun g=>aZ (bW b a.length) (cond (!bH (g.length:Int) ((nth (default:aD) a b).aV.length:Int)) (some false) (f a c (aP .i64 b 1))))) (d)
abbrev ss:List Ty:=[.sl (.st 1),.sl (.st 2),.int .i64]
def ku (d:List aD→List aH→Option Bool) (e:Nat) (f:List aD→List aH→Int→Option Bool) (c:List aD) (a:List aH) (b:Int):Option Bool:=
 cond (bK b (a.length:Int)) (aZ (bW b a.length) ((uW e c (nth (default:aH) a b)).bind fun g=>cond (!g) (some false) (f c a (aP .i64 b 1)))) (d c a)
def oS (k:Nat) (a:List aD) (b:List aH):Option Bool:=
 share (fun (i:List aD) (j:List aH) (l:Bool)=>cond l (some false) (share (fun (c:List aD) (d:List aH)=>share (some true) fun e=>iter (ts:=sq) (R:=Bool) k (kr e) c d (0:Int)) fun f=>iter (ts:=ss) (R:=Bool) k (ku f) i j (0:Int))) fun g=>(nD k a).bind fun h=>cond (!h) (g a b true) (g a b (bK 12 (b.length:Int)))
def yk (k:Nat):CT:=⟨155,[.d (.sl (.st 1)),.d (.sl (.st 2))],[],[⟨false,.d .bool,[]⟩],oS k⟩
abbrev zI:List Ty:=[.sl (.st 3),.str,.int .i64]
def su (e:Option Bool) (f:Nat) (d:List aJ→List UInt8→Int→Option Bool) (a:List aJ) (c:List UInt8) (b:Int):Option Bool:=
 cond (bK b (a.length:Int)) (aZ (bW b a.length) (cond (seq (nth (default:aJ) a b).Name c) (some true) (d a c (aP .i64 b 1)))) (e)
def lM (k:Nat) (a:List aJ) (b:List UInt8):Option Bool:=
 share (some false) fun c=>iter (ts:=zI) (R:=Bool) k (su c) a b (0:Int)
def pZ (k:Nat):CT:=⟨67,[.d (.sl (.st 3)),.d .str],[],[⟨false,.d .bool,[]⟩],lM k⟩
abbrev zJ:List Ty:=[.sl (.st 3),.str,.int .i64]
def sv (e:Option (List UInt8)) (f:Nat) (d:List aJ→List UInt8→Int→Option (List UInt8)) (a:List aJ) (c:List UInt8) (b:Int):Option (List UInt8):=
 cond (bK b (a.length:Int)) (aZ (bW b a.length) (cond (seq (nth (default:aJ) a b).Name c) (aZ (bW b a.length) (some (nth (default:aJ) a b).ia)) (d a c (aP .i64 b 1)))) (e)
def vO (k:Nat) (a:List aJ) (b:List UInt8):Option (List UInt8):=
 share (some ([]:List UInt8)) fun c=>iter (ts:=zJ) (R:=List UInt8) k (sv c) a b (0:Int)
def Ai (k:Nat):CT:=⟨179,[.d (.sl (.st 3)),.d .str],[],[⟨false,.d .str,[]⟩],vO k⟩
abbrev rE:List Ty:=[.sl (.st 3),.int .i64,.str,.int .i64]
def ju (d:List aJ→Int→List UInt8→Option Bool) (f:Nat) (g:List aJ→Int→List UInt8→Int→Option Bool) (a:List aJ) (c:Int) (b:List UInt8) (e:Int):Option Bool:=
 cond (b8 e 4) (cond (!seq b ([]:List UInt8)) ((vO f a b).bind fun h=>g a c h (aP .i64 e 1)) (d a c b)) (d a c b)
abbrev eX:List Ty:=[.sl (.st 3),.int .i64]
def dS (e:Option Bool) (d:Nat) (f:List aJ→Int→Option Bool) (a:List aJ) (b:Int):Option Bool:=
 cond (bK b (a.length:Int)) (share (fun (g:List aJ) (h:Int)=>f g (aP .i64 h 1)) fun i=>aZ (bW b a.length) (share (fun (j:List aJ) (k:Int) (l:Bool) (m:aJ)=>cond l (some false) (share (fun (n:List aJ) (o:Int) (p:List UInt8)=>cond (!seq p ([]:List UInt8)) (some false) (i n o)) fun q=>iter (ts:=rE) (R:=Bool) d (ju q) j k m.Name (0:Int))) fun c=>(cu d (nth (default:aJ) a b).Name).bind fun r=>cond (!r) (c a b true (nth (default:aJ) a b)) (cond (bK 0 b) (aZ (bW (bO .i64 b 1) a.length) (cond (!slt (nth (default:aJ) a (bO .i64 b 1)).Name (nth (default:aJ) a b).Name) (c a b true (nth (default:aJ) a b)) (cond (!seq (nth (default:aJ) a b).ia ([]:List UInt8)) ((lM d a (nth (default:aJ) a b).ia).bind fun s=>c a b (!s) (nth (default:aJ) a b)) (c a b false (nth (default:aJ) a b))))) (cond (!seq (nth (default:aJ) a b).ia ([]:List UInt8)) ((lM d a (nth (default:aJ) a b).ia).bind fun t=>c a b (!t) (nth (default:aJ) a b)) (c a b false (nth (default:aJ) a b)))))) (e)
def lj (k:Nat) (b:List aJ):Option Bool:=
 cond (bK 12 (b.length:Int)) (some false) (share (some true) fun a=>iter (ts:=eX) (R:=Bool) k (dS a) b (0:Int))
def yl (k:Nat):CT:=⟨156,[.d (.sl (.st 3))],[],[⟨false,.d .bool,[]⟩],lj k⟩
def sw (k:Nat) (a:aL):Option Bool:=
 (oS k a.cg a.iO).bind fun b=>cond b ((lj k a.dY).bind fun c=>some c) (some false)
def AM (k:Nat):CT:=⟨93,[.d (.st 4)],[],[⟨false,.d .bool,[]⟩],sw k⟩
def hU (k:Nat) (a:List aD) (c:aA):Option ((List aC)×Bool):=
 (lY k a c.Kind).bind fun b=>share (fun (d:List aD) (e:Int) (g:Bool)=>cond g (some (([]:List aC),false)) (aZ (bW e d.length) (some ((nth (default:aD) d e).aV,true)))) fun f=>cond (bK b 0) (f a b true) (aZ (bW b a.length) (f a b (!bH ((nth (default:aD) a b).aV.length:Int) (c.aR.length:Int))))
def i_ (k:Nat):CT:=⟨160,[.d (.sl (.st 1)),.d (.st 5)],[],[⟨false,.nP [.d (.sl (.st 0)),.d .bool],[]⟩],hU k⟩
abbrev l6:List Ty:=[.st 5,.sl (.st 0),.int .i64]
def ja (e:Option (Int×Int)) (f:Nat) (g:aA→List aC→Int→Option (Int×Int)) (c:aA) (b:List aC) (a:Int):Option (Int×Int):=
 cond (bK a (b.length:Int)) (share (fun (h:aA) (i:List aC) (j:Int)=>g h i (aP .i64 j 1)) fun d=>aZ (bW a c.aR.length) (cond (seq (nth ([]:List UInt8) c.aR a) ([]:List UInt8)) (aZ (bW a b.length) (cond (nth (default:aC) b a).c6 (some (2,a)) (d c b a))) (aZ (bW a b.length) (aZ (bW a c.aR.length) ((mY f (nth (default:aC) b a) (nth ([]:List UInt8) c.aR a)).bind fun k=>cond (!k) (some (3,a)) (d c b a)))))) (e)
def xy (k:Nat) (m:List aD) (a:aA):Option (Int×Int):=
 (hU k m a).bind fun c=>share (fun (d:aA) (e:List aC) (f:Bool)=>cond f (some (1,0)) (share (some (0,0)) fun g=>iter (ts:=l6) (R:=Int×Int) k (ja g) d e (0:Int))) fun b=>cond (!c.2) (b a c.1 true) ((cu k a.Name).bind fun h=>cond (!h) (b a c.1 true) ((cu k a.aX).bind fun i=>cond (!i) (b a c.1 true) (cond (bK 3 (a.b7.length:Int)) (b a c.1 true) ((lh k a.b7).bind fun j=>cond (!j) (b a c.1 true) ((dE k a.Version 0 1000000).bind fun l=>b a c.1 (!l))))))
def DU (k:Nat):CT:=⟨157,[.d (.sl (.st 1)),.d (.st 5)],[],[⟨false,.nP [.d (.int .i64),.d (.int .i64)],[]⟩],xy k⟩
def qU (_k:Nat) (a:List UInt8) (b:List UInt8):Option Int:=
 cond (slt a b) (some (-1)) (cond (!(slt a b||seq a b)) (some 1) (some 0))
def BP (k:Nat):CT:=⟨136,[.d .str,.d .str],[],[⟨false,.d (.int .i64),[]⟩],qU k⟩
def qS (k:Nat) (a:List UInt8) (c:List UInt8) (b:List UInt8) (d:List UInt8):Option Int:=
 (qU k a b).bind fun e=>cond (!bH e 0) ((qU k a b).bind fun f=>some f) ((qU k c d).bind fun g=>some g)
def sx (k:Nat):CT:=⟨72,[.d .str,.d .str,.d .str,.d .str],[],[⟨false,.d (.int .i64),[]⟩],qS k⟩
def mZ (_k:Nat) (a:aA):Option ((List UInt8)×(List UInt8)×(List UInt8)×Bool×Int×(List (List UInt8))×(List (List UInt8))):=
 aZ (mw (([]:List (List UInt8)).length+a.aR.length) 16) (aZ (mw (([]:List (List UInt8)).length+a.b7.length) 16) (some (a.Kind,a.Name,a.aX,a.Ending,a.Version,(([]:List (List UInt8))++a.aR),(([]:List (List UInt8))++a.b7))))
def qo (k:Nat):CT:=⟨97,[.d (.st 5)],[],[⟨false,.agg [.d .str,.d .str,.d .str,.ow 0,.d .bool,.ow 1,.d (.int .i64)],[.row .str .vs,.row .str .vs]⟩],mZ k⟩
abbrev zK:List Ty:=[.sl (.st 0),.int .i64,.st 5,.str,.str,.str,.bool,.int .i64,.sl .str,.sl .str]
def sy (l:aA→List UInt8→List UInt8→List UInt8→Bool→Int→List (List UInt8)→List (List UInt8)→Option aA) (x:Nat) (m:List aC→Int→aA→List UInt8→List UInt8→List UInt8→Bool→Int→List (List UInt8)→List (List UInt8)→Option aA) (c:List aC) (a:Int) (d:aA) (e:List UInt8) (f:List UInt8) (g:List UInt8) (h:Bool) (i:Int) (b:List (List UInt8)) (j:List (List UInt8)):Option aA:=
 cond (bK a (c.length:Int)) (share (fun (n:List aC) (o:Int) (p:aA) (q:List UInt8) (r:List UInt8) (s:List UInt8) (t:Bool) (u:Int) (v:List (List UInt8)) (w:List (List UInt8))=>m n (aP .i64 o 1) p q r s t u v w) fun k=>aZ (bW a b.length) (cond (seq (nth ([]:List UInt8) b a) ([]:List UInt8)) (aZ (bW a c.length) (aZ (bW a b.length) (k c a d e f g h i (oJ b a (nth (default:aC) c a).Default) j))) (k c a d e f g h i b j))) (l d e f g h i b j)
def zL (k:Nat) (m:List aD) (b:aA):Option aA:=
 (mZ k b).bind fun a=>(hU k m b).bind fun c=>cond (!c.2) (some (⟨a.1,a.2.1,a.2.2.1,a.2.2.2.2.2.1,a.2.2.2.1,a.2.2.2.2.2.2,a.2.2.2.2.1⟩:aA)) (share (fun (n:aA) (d:List UInt8) (e:List UInt8) (f:List UInt8) (g:Bool) (h:Int) (i:List (List UInt8)) (j:List (List UInt8))=>some (⟨d,e,f,i,g,j,h⟩:aA)) fun l=>iter (ts:=zK) (R:=aA) k (sy l) c.1 (0:Int) (⟨([]:List UInt8),([]:List UInt8),([]:List UInt8),[],false,[],0⟩:aA) a.1 a.2.1 a.2.2.1 a.2.2.2.1 a.2.2.2.2.1 a.2.2.2.2.2.1 a.2.2.2.2.2.2)
def GA (k:Nat):CT:=⟨194,[.d (.sl (.st 1)),.d (.st 5)],[],[⟨false,.d (.st 5),[]⟩],zL k⟩
abbrev fY:List Ty:=[.sl (.st 0),.sl (.st 2),.str,.st 5,.int .i64]
def eY (v:List aC→List UInt8→aA→Option (List UInt8)) (m:Nat) (w:List aC→List aH→List UInt8→aA→Int→Option (List UInt8)) (d:List aC) (a:List aH) (e:List UInt8) (c:aA) (b:Int):Option (List UInt8):=
 cond (bK b (a.length:Int)) (share (fun (n:List aC) (o:List aH) (p:List UInt8) (q:aA) (r:Int)=>w n o p q (aP .i64 r 1)) fun f=>aZ (bW b a.length) (share (fun (j:List aC) (s:List aH) (t:List UInt8) (g:aA) (u:Int) (h:aH)=>cond (seq h.cS ([]:List UInt8)) (some h.tp) ((eW m j h.cS).bind fun i=>aZ (bW i g.aR.length) (cond (!seq (nth ([]:List UInt8) g.aR i) ([]:List UInt8)) (some (nth ([]:List UInt8) g.aR i)) (f j s t g u)))) fun k=>cond (!seq (nth (default:aH) a b).Kind c.Kind) (f d a e c b) (cond (!seq (nth (default:aH) a b).Field e) (f d a e c b) (cond (!seq (nth (default:aH) a b).dk ([]:List UInt8)) ((eW m d (nth (default:aH) a b).dk).bind fun l=>aZ (bW l c.aR.length) (cond (!seq (nth ([]:List UInt8) c.aR l) (nth (default:aH) a b).Is) (f d a e c b) (k d a e c b (nth (default:aH) a b)))) (k d a e c b (nth (default:aH) a b)))))) (v d e c)
def sA (k:Nat) (f:List aC) (g:List aH) (h:aA) (i:List UInt8):Option (List UInt8):=
 share (fun (c:List aC) (d:List UInt8) (a:aA)=>(eW k c d).bind fun b=>aZ (bW b a.aR.length) (some (nth ([]:List UInt8) a.aR b))) fun e=>iter (ts:=fY) (R:=List UInt8) k (eY e) f g i h (0:Int)
def AN (k:Nat):CT:=⟨213,[.d (.sl (.st 0)),.d (.sl (.st 2)),.d (.st 5),.d .str],[],[⟨false,.d .str,[]⟩],sA k⟩
abbrev w8:List Ty:=[.sl (.st 2),.sl (.st 0),.sl .str,.int .i64,.st 5,.str,.str,.str,.bool,.int .i64,.sl .str,.sl .str]
def oT (o:aA→List UInt8→List UInt8→List UInt8→Bool→Int→List (List UInt8)→List (List UInt8)→Option aA) (k:Nat) (p:List aH→List aC→List (List UInt8)→Int→aA→List UInt8→List UInt8→List UInt8→Bool→Int→List (List UInt8)→List (List UInt8)→Option aA) (l:List aH) (d:List aC) (a:List (List UInt8)) (b:Int) (m:aA) (e:List UInt8) (f:List UInt8) (g:List UInt8) (h:Bool) (i:Int) (c:List (List UInt8)) (j:List (List UInt8)):Option aA:=
 cond (bK b (a.length:Int)) (aZ (bW b a.length) ((eW k d (nth ([]:List UInt8) a b)).bind fun n=>aZ (bW b a.length) ((sA k d l (⟨e,f,g,c,h,j,i⟩:aA) (nth ([]:List UInt8) a b)).bind fun q=>aZ (bW n c.length) (p l d a (aP .i64 b 1) m e f g h i (oJ c n q) j)))) (o m e f g h i c j)
def uY (k:Nat) (b:List aD) (d:List aH) (c:aA):Option aA:=
 (mZ k c).bind fun a=>(hU k b c).bind fun e=>cond (!e.2) (some (⟨a.1,a.2.1,a.2.2.1,a.2.2.2.2.2.1,a.2.2.2.1,a.2.2.2.2.2.2,a.2.2.2.2.1⟩:aA)) ((lY k b c.Kind).bind fun f=>aZ (bW f b.length) ((yj k (nth (default:aD) b f) d).bind fun p=>share (fun (q:aA) (g:List UInt8) (h:List UInt8) (i:List UInt8) (j:Bool) (l:Int) (m:List (List UInt8)) (n:List (List UInt8))=>some (⟨g,h,i,m,j,n,l⟩:aA)) fun o=>iter (ts:=w8) (R:=aA) k (oT o) d e.1 p (0:Int) (⟨([]:List UInt8),([]:List UInt8),([]:List UInt8),[],false,[],0⟩:aA) a.1 a.2.1 a.2.2.1 a.2.2.2.1 a.2.2.2.2.1 a.2.2.2.2.2.1 a.2.2.2.2.2.2))
def CU (k:Nat):CT:=⟨193,[.d (.sl (.st 1)),.d (.sl (.st 2)),.d (.st 5)],[],[⟨false,.d (.st 5),[]⟩],uY k⟩
def uZ (k:Nat) (a:List aD) (b:List aH) (c:aA):Option aA:=
 (zL k a c).bind fun d=>(uY k a b d).bind fun e=>some e
def CV (k:Nat):CT:=⟨159,[.d (.sl (.st 1)),.d (.sl (.st 2)),.d (.st 5)],[],[⟨false,.d (.st 5),[]⟩],uZ k⟩
abbrev sB:List Ty:=[.sl .str,.sl .str,.int .i64]
def kx (e:Option Bool) (f:Nat) (d:List (List UInt8)→List (List UInt8)→Int→Option Bool) (b:List (List UInt8)) (c:List (List UInt8)) (a:Int):Option Bool:=
 cond (bK a (b.length:Int)) (aZ (bW a b.length) (aZ (bW a c.length) (cond (!seq (nth ([]:List UInt8) b a) (nth ([]:List UInt8) c a)) (some false) (d b c (aP .i64 a 1))))) (e)
def oU (k:Nat) (a:List (List UInt8)) (b:List (List UInt8)):Option Bool:=
 cond (!bH (a.length:Int) (b.length:Int)) (some false) (share (some true) fun c=>iter (ts:=sB) (R:=Bool) k (kx c) a b (0:Int))
def ym (k:Nat):CT:=⟨158,[.d (.sl .str),.d (.sl .str)],[],[⟨false,.d .bool,[]⟩],oU k⟩
abbrev CW:List Ty:=[.str,.str,.st 10,.int .i64]
def xz (g:Option Int) (m:Nat) (h:List UInt8→List UInt8→aG→Int→Option Int) (c:List UInt8) (d:List UInt8) (a:aG) (b:Int):Option Int:=
 cond (bK b (a.aO.length:Int)) (share (fun (i:List UInt8) (j:List UInt8) (k:aG) (e:Int) (l:Bool)=>cond l (some e) (h i j k (aP .i64 e 1))) fun f=>aZ (bW b a.aO.length) (cond (seq (nth (default:aA) a.aO b).Kind c) (aZ (bW b a.aO.length) (f c d a b (seq (nth (default:aA) a.aO b).Name d))) (f c d a b false))) (g)
def E8 (k:Nat) (b:aG) (c:List UInt8) (d:List UInt8):Option Int:=
 share (some (-1)) fun a=>iter (ts:=CW) (R:=Int) k (xz a) c d b (0:Int)
def K6 (k:Nat):CT:=⟨161,[.d (.st 10),.d .str,.d .str],[],[⟨false,.d (.int .i64),[]⟩],E8 k⟩
abbrev gu:List Ty:=[.st 4,.st 10,.int .i64,.sl (.st 0),.int .i64,.st 5]
def eI (h:aL→aG→Int→Option Bool) (i:Nat) (j:aL→aG→Int→List aC→Int→aA→Option Bool) (e:aL) (d:aG) (f:Int) (b:List aC) (a:Int) (c:aA):Option Bool:=
 cond (bK a (b.length:Int)) (share (fun (k:aL) (l:aG) (m:Int) (n:List aC) (o:Int) (p:Bool) (q:aA)=>cond p (some false) (j k l m n (aP .i64 o 1) q)) fun g=>aZ (bW a b.length) (cond (bH (nth (default:aC) b a).Kind 4) (aZ (bW a c.aR.length) (cond (!seq (nth ([]:List UInt8) c.aR a) ([]:List UInt8)) (aZ (bW a b.length) (aZ (bW a c.aR.length) ((E8 i d (nth (default:aC) b a).To (nth ([]:List UInt8) c.aR a)).bind fun r=>g e d f b a (bK r 0) c))) (g e d f b a false c))) (g e d f b a false c))) (h e d f)
abbrev eZ:List Ty:=[.st 4,.st 10,.int .i64]
def dT (m:Option Bool) (c:Nat) (n:aL→aG→Int→Option Bool) (f:aL) (a:aG) (b:Int):Option Bool:=
 cond (bK b (a.aO.length:Int)) (share (fun (o:aL) (p:aG) (q:Int)=>n o p (aP .i64 q 1)) fun r=>aZ (bW b a.aO.length) ((xy c f.cg (nth (default:aA) a.aO b)).bind fun s=>share (fun (k:aL) (e:aG) (d:Int) (t:Bool) (g:aA)=>cond t (some false) (share (fun (h:aL) (u:aG) (v:Int) (w:Bool) (i:aA)=>cond w (some false) ((uZ c h.cg h.iO i).bind fun x=>(oU c x.aR i.aR).bind fun y=>cond (!y) (some false) ((hU c h.cg i).bind fun z=>iter (ts:=gu) (R:=Bool) c (eI r) h u v z.1 (0:Int) i))) fun l=>cond (bK 0 d) (aZ (bW (bO .i64 d 1) e.aO.length) (aZ (bW (bO .i64 d 1) e.aO.length) ((qS c (nth (default:aA) e.aO (bO .i64 d 1)).Kind (nth (default:aA) e.aO (bO .i64 d 1)).Name g.Kind g.Name).bind fun A=>l k e d (b8 0 A) g))) (l k e d false g))) fun j=>cond (!bH s.1 0) (j f a b true (nth (default:aA) a.aO b)) ((lM c f.dY (nth (default:aA) a.aO b).aX).bind fun B=>cond (!B) (j f a b true (nth (default:aA) a.aO b)) ((dE c (nth (default:aA) a.aO b).Version 1 a.vo).bind fun C=>j f a b (!C) (nth (default:aA) a.aO b))))) (m)
def oV (k:Nat) (c:aL) (b:aG):Option Bool:=
 cond (bK 40 (b.aO.length:Int)) (some false) (share (some true) fun a=>iter (ts:=eZ) (R:=Bool) k (dT a) c b (0:Int))
def yn (k:Nat):CT:=⟨94,[.d (.st 4),.d (.st 10)],[],[⟨false,.d .bool,[]⟩],oV k⟩
abbrev pC:List Ty:=[.st 6,.int .i64]
def ll (c:Option Bool) (d:Nat) (e:bG→Int→Option Bool) (a:bG) (b:Int):Option Bool:=
 cond (bK b (a.cU.length:Int)) (aZ (bW b a.cU.length) ((vN d (AI a.cU b)).bind fun f=>cond (!f) (some false) (e a (aP .i64 b 1)))) (c)
abbrev pD:List Ty:=[.st 6,.int .i64]
def ln (d:bG→Option Bool) (e:Nat) (f:bG→Int→Option Bool) (a:bG) (b:Int):Option Bool:=
 cond (bK b (a.b_.length:Int)) (share (fun (g:bG) (h:Int) (i:Bool)=>cond i (some false) (f g (aP .i64 h 1))) fun c=>aZ (bW b a.b_.length) ((dE e (nth 0 a.b_ b) 1 5).bind fun j=>cond (!j) (c a b true) (cond (bK 0 b) (aZ (bW (bO .i64 b 1) a.b_.length) (aZ (bW b a.b_.length) (c a b (b8 (nth 0 a.b_ b) (nth 0 a.b_ (bO .i64 b 1)))))) (c a b false)))) (d a)
def jK (k:Nat) (a:bG):Option Bool:=
 share (fun (c:bG) (d:Bool)=>cond d (some false) (share (fun (e:bG)=>share (some true) fun f=>iter (ts:=pC) (R:=Bool) k (ll f) e (0:Int)) fun g=>iter (ts:=pD) (R:=Bool) k (ln g) c (0:Int))) fun b=>cond (bH (a.b_.length:Int) 0) (b a true) (cond (bK 16 (a.cU.length:Int)) (b a true) (cond (!seq a.Kind ([]:List UInt8)) ((cu k a.Kind).bind fun h=>cond (!h) (b a true) (cond (!seq a.aX ([]:List UInt8)) ((cu k a.aX).bind fun i=>b a (!i)) (b a false))) (cond (!seq a.aX ([]:List UInt8)) ((cu k a.aX).bind fun j=>b a (!j)) (b a false))))
def CX (k:Nat):CT:=⟨162,[.d (.st 6)],[],[⟨false,.d .bool,[]⟩],jK k⟩
abbrev tR:List Ty:=[.st 10,.int .i64]
def l7 (r:Option Bool) (d:Nat) (e:aG→Int→Option Bool) (a:aG) (b:Int):Option Bool:=
 cond (bK b (a.bI.length:Int)) (aZ (bW b a.bI.length) (share (fun (f:aG) (g:Int) (h:Bool)=>cond h (some false) (e f (aP .i64 g 1))) fun c=>(dE d (nth (default:aF) a.bI b).Number 1 a.dP).bind fun i=>cond (!i) (c a b true) (cond (bK 0 b) (aZ (bW (bO .i64 b 1) a.bI.length) (cond (b8 (nth (default:aF) a.bI b).Number (nth (default:aF) a.bI (bO .i64 b 1)).Number) (c a b true) ((cu d (nth (default:aF) a.bI b).To).bind fun j=>cond (!j) (c a b true) (cond (!seq (nth (default:aF) a.bI b).By ([]:List UInt8)) ((cu d (nth (default:aF) a.bI b).By).bind fun k=>cond (!k) (c a b true) ((jK d (nth (default:aF) a.bI b).cJ).bind fun l=>c a b (!l))) ((jK d (nth (default:aF) a.bI b).cJ).bind fun m=>c a b (!m)))))) ((cu d (nth (default:aF) a.bI b).To).bind fun n=>cond (!n) (c a b true) (cond (!seq (nth (default:aF) a.bI b).By ([]:List UInt8)) ((cu d (nth (default:aF) a.bI b).By).bind fun o=>cond (!o) (c a b true) ((jK d (nth (default:aF) a.bI b).cJ).bind fun p=>c a b (!p))) ((jK d (nth (default:aF) a.bI b).cJ).bind fun q=>c a b (!q))))))) (r)
def qp (k:Nat) (a:aG):Option Bool:=
 cond (bK 24 (a.bI.length:Int)) (some false) (share (some true) fun b=>iter (ts:=tR) (R:=Bool) k (l7 b) a (0:Int))
def zM (k:Nat):CT:=⟨95,[.d (.st 10)],[],[⟨false,.d .bool,[]⟩],qp k⟩
abbrev w9:List Ty:=[.str,.str,.st 10,.int .i64]
def oW (g:Option Int) (m:Nat) (h:List UInt8→List UInt8→aG→Int→Option Int) (c:List UInt8) (d:List UInt8) (a:aG) (b:Int):Option Int:=
 cond (bK b (a.aK.length:Int)) (share (fun (i:List UInt8) (j:List UInt8) (k:aG) (e:Int) (l:Bool)=>cond l (some e) (h i j k (aP .i64 e 1))) fun f=>aZ (bW b a.aK.length) (cond (seq (nth (default:aB) a.aK b).aX c) (aZ (bW b a.aK.length) (f c d a b (seq (nth (default:aB) a.aK b).aN d))) (f c d a b false))) (g)
def mX (k:Nat) (b:aG) (c:List UInt8) (d:List UInt8):Option Int:=
 share (some (-1)) fun a=>iter (ts:=w9) (R:=Int) k (oW a) c d b (0:Int)
def qt (k:Nat):CT:=⟨70,[.d (.st 10),.d .str,.d .str],[],[⟨false,.d (.int .i64),[]⟩],mX k⟩
def qu (k:Nat) (a:aE) (b:aE):Option Int:=
 cond (!seq a.fM b.fM) ((qU k a.fM b.fM).bind fun c=>some c) ((qS k a.aX a.aN b.aX b.aN).bind fun d=>some d)
def zN (k:Nat):CT:=⟨140,[.d (.st 9),.d (.st 9)],[],[⟨false,.d (.int .i64),[]⟩],qu k⟩
abbrev vP:List Ty:=[.sl (.st 3),.str,.str,.int .i64]
def nE (e:Option Bool) (f:Nat) (g:List aJ→List UInt8→List UInt8→Int→Option Bool) (b:List aJ) (h:List UInt8) (c:List UInt8) (d:Int):Option Bool:=
 cond (bK d 4) ((vO f b h).bind fun a=>cond (seq a ([]:List UInt8)) (some false) (cond (seq a c) (some true) (g b a c (aP .i64 d 1)))) (e)
def yo (k:Nat) (d:List aJ) (a:List UInt8) (b:List UInt8):Option Bool:=
 cond (seq a b) (some true) (share (some false) fun c=>iter (ts:=vP) (R:=Bool) k (nE c) d a b (0:Int))
def AO (k:Nat):CT:=⟨134,[.d (.sl (.st 3)),.d .str,.d .str],[],[⟨false,.d .bool,[]⟩],yo k⟩
abbrev tS:List Ty:=[.str,.st 5,.sl (.st 0),.int .i64,.int .i64]
def l8 (w:Int→Option Int) (n:Nat) (o:List UInt8→aA→List aC→Int→Int→Option Int) (d:List UInt8) (c:aA) (b:List aC) (e:Int) (a:Int):Option Int:=
 cond (bK a (b.length:Int)) (share (fun (p:List UInt8) (q:aA) (r:List aC) (s:Int) (t:Int)=>o p q r s (aP .i64 t 1)) fun h=>aZ (bW a c.aR.length) ((pX n (nth ([]:List UInt8) c.aR a)).bind fun f=>share (fun (i:List UInt8) (j:aA) (k:List aC) (l:Int) (m:Int) (u:Int) (v:Bool)=>cond v (h i j k (aP .i64 l u) m) (h i j k l m)) fun g=>aZ (bW a b.length) (cond (bH (nth (default:aC) b a).Kind 1) (aZ (bW a b.length) (cond (seq (nth (default:aC) b a).bE d) (g d c b e a f (bK 0 f)) (g d c b e a f false))) (g d c b e a f false)))) (w e)
def qw (k:Nat) (q:aL) (c:aA) (d:List UInt8):Option Int:=
 (hU k q.cg c).bind fun e=>share (fun (f:List UInt8) (g:aA) (h:List aC) (i:Bool)=>cond i (some 0) (share (fun (j:List UInt8) (l:aA) (m:List aC) (n:Int)=>share (fun (o:Int)=>some o) fun p=>iter (ts:=tS) (R:=Int) k (l8 p) j l m n (0:Int)) fun a=>cond (seq f g.Kind) (a f g h 1) (a f g h 0))) fun b=>cond (!e.2) (b d c e.1 true) (b d c e.1 (seq d ([]:List UInt8)))
def zO (k:Nat):CT:=⟨135,[.d (.st 4),.d (.st 5),.d .str],[],[⟨false,.d (.int .i64),[]⟩],qw k⟩
abbrev w_:List Ty:=[.str,.str,.st 4,.st 10,.int .i64,.int .i64]
def oX (i:Int→Option Int) (g:Nat) (j:List UInt8→List UInt8→aL→aG→Int→Int→Option Int) (d:List UInt8) (e:List UInt8) (c:aL) (a:aG) (f:Int) (b:Int):Option Int:=
 cond (bK b (a.aO.length:Int)) (share (fun (k:List UInt8) (l:List UInt8) (m:aL) (n:aG) (o:Int) (p:Int)=>j k l m n o (aP .i64 p 1)) fun h=>aZ (bW b a.aO.length) ((yo g c.dY (nth (default:aA) a.aO b).aX d).bind fun q=>cond q (aZ (bW b a.aO.length) ((qw g c (nth (default:aA) a.aO b) e).bind fun r=>h d e c a (aP .i64 f r) b)) (h d e c a f b))) (i f)
def pU (k:Nat) (c:aL) (d:aG) (e:List UInt8) (f:List UInt8):Option Int:=
 share (fun (a:Int)=>some a) fun b=>iter (ts:=w_) (R:=Int) k (oX b) e f c d (0:Int) (0:Int)
def wj (k:Nat):CT:=⟨71,[.d (.st 4),.d (.st 10),.d .str,.d .str],[],[⟨false,.d (.int .i64),[]⟩],pU k⟩
abbrev AP:List Ty:=[.str,.str,.st 10,.int .i64,.int .i64]
def u4 (m:Int→Option Int) (u:Nat) (n:List UInt8→List UInt8→aG→Int→Int→Option Int) (e:List UInt8) (f:List UInt8) (a:aG) (g:Int) (b:Int):Option Int:=
 cond (bK b (a.aW.length:Int)) (share (fun (o:List UInt8) (p:List UInt8) (q:aG) (r:Int) (s:Int)=>n o p q r (aP .i64 s 1)) fun h=>share (fun (i:List UInt8) (j:List UInt8) (c:aG) (k:Int) (d:Int) (t:Bool)=>cond t (aZ (bW d c.aW.length) (h i j c (aP .i64 k (nth (default:aE) c.aW d).cF) d)) (h i j c k d)) fun l=>aZ (bW b a.aW.length) (cond (seq (nth (default:aE) a.aW b).aX e) (aZ (bW b a.aW.length) (l e f a g b (seq (nth (default:aE) a.aW b).aN f))) (l e f a g b false))) (m g)
def BQ (k:Nat) (c:aG) (d:List UInt8) (e:List UInt8):Option Int:=
 share (fun (a:Int)=>some a) fun b=>iter (ts:=AP) (R:=Int) k (u4 b) d e c (0:Int) (0:Int)
def Ig (k:Nat):CT:=⟨163,[.d (.st 10),.d .str,.d .str],[],[⟨false,.d (.int .i64),[]⟩],BQ k⟩
abbrev n4:List Ty:=[.st 4,.st 10,.int .i64]
def jv (n:Option Bool) (g:Nat) (o:aL→aG→Int→Option Bool) (d:aL) (a:aG) (b:Int):Option Bool:=
 cond (bK b (a.aK.length:Int)) (aZ (bW b a.aK.length) (share (fun (k:aL) (e:aG) (c:Int) (p:Bool) (i:aB)=>cond p (some false) (share (fun (l:aL) (j:aG) (q:Int) (r:Bool) (f:aB)=>cond r (some false) ((pU g l j f.aX f.aN).bind fun s=>(BQ g j f.aX f.aN).bind fun t=>cond (!bH (aP .i64 (aP .i64 s t) f.gG) f.bT) (some false) (o l j (aP .i64 q 1)))) fun m=>cond (bK 0 c) (aZ (bW (bO .i64 c 1) e.aK.length) (aZ (bW (bO .i64 c 1) e.aK.length) ((qS g (nth (default:aB) e.aK (bO .i64 c 1)).aX (nth (default:aB) e.aK (bO .i64 c 1)).aN i.aX i.aN).bind fun u=>m k e c (b8 0 u) i))) (m k e c false i))) fun h=>(lM g d.dY (nth (default:aB) a.aK b).aX).bind fun v=>cond (!v) (h d a b true (nth (default:aB) a.aK b)) ((cu g (nth (default:aB) a.aK b).aN).bind fun w=>cond (!w) (h d a b true (nth (default:aB) a.aK b)) (cond (bK (nth (default:aB) a.aK b).gG 0) (h d a b true (nth (default:aB) a.aK b)) (cond (bK (nth (default:aB) a.aK b).bT (nth (default:aB) a.aK b).gG) (h d a b true (nth (default:aB) a.aK b)) (h d a b (bK 1000000 (nth (default:aB) a.aK b).bT) (nth (default:aB) a.aK b))))))) (n)
abbrev xa:List Ty:=[.st 4,.st 10,.int .i64]
def oY (p:aL→aG→Option Bool) (e:Nat) (f:aL→aG→Int→Option Bool) (c:aL) (a:aG) (b:Int):Option Bool:=
 cond (bK b (a.aW.length:Int)) (aZ (bW b a.aW.length) (share (fun (g:aL) (h:aG) (i:Int) (j:Bool)=>cond j (some false) (f g h (aP .i64 i 1))) fun d=>(cu e (nth (default:aE) a.aW b).fM).bind fun k=>cond (!k) (d c a b true) ((mX e a (nth (default:aE) a.aW b).aX (nth (default:aE) a.aW b).aN).bind fun l=>cond (bK l 0) (d c a b true) ((dE e (nth (default:aE) a.aW b).cF 1 1000000).bind fun m=>cond (!m) (d c a b true) ((dE e (nth (default:aE) a.aW b).dX a.dR (aP .i64 a.dR 10)).bind fun n=>cond (!n) (d c a b true) (cond (bK 0 b) (aZ (bW (bO .i64 b 1) a.aW.length) ((qu e (nth (default:aE) a.aW (bO .i64 b 1)) (nth (default:aE) a.aW b)).bind fun o=>d c a b (b8 0 o))) (d c a b false))))))) (p c a)
def u5 (k:Nat) (c:aL) (a:aG):Option Bool:=
 share (fun (h:aL) (i:aG) (j:Bool)=>cond j (some false) (share (fun (d:aL) (e:aG)=>share (some true) fun b=>iter (ts:=n4) (R:=Bool) k (jv b) d e (0:Int)) fun f=>iter (ts:=xa) (R:=Bool) k (oY f) h i (0:Int))) fun g=>cond (bK 10 (a.aK.length:Int)) (g c a true) (g c a (bK 24 (a.aW.length:Int)))
def CY (k:Nat):CT:=⟨96,[.d (.st 4),.d (.st 10)],[],[⟨false,.d .bool,[]⟩],u5 k⟩
def iW (k:Nat) (c:aL) (a:aG):Option Bool:=
 share (fun (e:aL) (d:aG) (f:Bool)=>cond f (some false) ((oV k e d).bind fun g=>cond g ((qp k d).bind fun h=>cond h ((u5 k e d).bind fun i=>some i) (some false)) (some false))) fun b=>(sw k c).bind fun j=>cond (!j) (b c a true) ((dE k a.vo 0 1000000).bind fun l=>cond (!l) (b c a true) ((dE k a.dR 0 1000000).bind fun m=>cond (!m) (b c a true) ((dE k a.dP 0 a.vo).bind fun n=>b c a (!n))))
def nF (k:Nat):CT:=⟨34,[.d (.st 4),.d (.st 10)],[],[⟨false,.d .bool,[]⟩],iW k⟩
def Aj (_k:Nat) (a:bG):Option ((List UInt8)×(List UInt8)×(List UInt8)×(List Int)):=
 aZ (mw (([]:List Int).length+a.b_.length) 8) (some (a.Kind,a.aX,a.cU,(([]:List Int)++a.b_)))
def CZ (k:Nat):CT:=⟨98,[.d (.st 6)],[],[⟨false,.agg [.ow 0,.d .str,.d .str,.d .str],[.row (.int .i64) .vs]⟩],Aj k⟩
abbrev pE:List Ty:=[.int .i64,.st 10,.int .i64,.int .i64,.int .i64,.int .i64,.int .i64,.int .i64,.sl (.st 5),.sl (.st 7),.sl (.st 8),.sl (.st 9),.sl (.st 5),.sl (.st 7),.sl (.st 8),.sl (.st 9)]
def lq (r:aG→Int→Int→Int→Int→Int→Int→List aA→List aF→List aB→List aE→List aA→List aF→List aB→List aE→Option (Int×Int×Int×(List aA)×(List aF)×(List aB)×(List aE))) (s:Nat) (t:Int→aG→Int→Int→Int→Int→Int→Int→List aA→List aF→List aB→List aE→List aA→List aF→List aB→List aE→Option (Int×Int×Int×(List aA)×(List aF)×(List aB)×(List aE))) (b:Int) (a:aG) (e:Int) (f:Int) (g:Int) (h:Int) (i:Int) (j:Int) (k:List aA) (l:List aF) (m:List aB) (n:List aE) (o:List aA) (d:List aF) (p:List aB) (q:List aE):Option (Int×Int×Int×(List aA)×(List aF)×(List aB)×(List aE)):=
 cond (bK b (a.bI.length:Int)) (aZ (bW b a.bI.length) ((Aj s (nth (default:aF) a.bI b).cJ).bind fun c=>aZ (mw (d.length+([(⟨(nth (default:aF) a.bI b).Number,(nth (default:aF) a.bI b).To,(nth (default:aF) a.bI b).By,(⟨c.2.2.2,c.1,c.2.1,c.2.2.1⟩:bG)⟩:aF)]:List aF).length) 112) (t (aP .i64 b 1) a e f g h i j k l m n o (d++([(⟨(nth (default:aF) a.bI b).Number,(nth (default:aF) a.bI b).To,(nth (default:aF) a.bI b).By,(⟨c.2.2.2,c.1,c.2.1,c.2.2.1⟩:bG)⟩:aF)]:List aF)) p q))) (r a e f g h i j k l m n o d p q)
abbrev pF:List Ty:=[.int .i64,.st 10,.int .i64,.int .i64,.int .i64,.int .i64,.int .i64,.int .i64,.sl (.st 5),.sl (.st 7),.sl (.st 8),.sl (.st 9),.sl (.st 5),.sl (.st 7),.sl (.st 8),.sl (.st 9)]
def lr (t:aG→Int→Int→Int→Int→Int→Int→List aA→List aF→List aB→List aE→List aA→List aF→List aB→List aE→Option (Int×Int×Int×(List aA)×(List aF)×(List aB)×(List aE))) (r:Nat) (s:Int→aG→Int→Int→Int→Int→Int→Int→List aA→List aF→List aB→List aE→List aA→List aF→List aB→List aE→Option (Int×Int×Int×(List aA)×(List aF)×(List aB)×(List aE))) (c:Int) (b:aG) (e:Int) (f:Int) (g:Int) (h:Int) (i:Int) (j:Int) (k:List aA) (l:List aF) (m:List aB) (n:List aE) (d:List aA) (o:List aF) (p:List aB) (q:List aE):Option (Int×Int×Int×(List aA)×(List aF)×(List aB)×(List aE)):=
 cond (bK c (b.aO.length:Int)) (aZ (bW c b.aO.length) ((mZ r (nth (default:aA) b.aO c)).bind fun a=>aZ (mw (d.length+([(⟨a.1,a.2.1,a.2.2.1,a.2.2.2.2.2.1,a.2.2.2.1,a.2.2.2.2.2.2,a.2.2.2.2.1⟩:aA)]:List aA).length) 112) (s (aP .i64 c 1) b e f g h i j k l m n (d++([(⟨a.1,a.2.1,a.2.2.1,a.2.2.2.2.2.1,a.2.2.2.1,a.2.2.2.2.2.2,a.2.2.2.2.1⟩:aA)]:List aA)) o p q))) (t b e f g h i j k l m n d o p q)
def mW (k:Nat) (d:aG):Option (Int×Int×Int×(List aA)×(List aF)×(List aB)×(List aE)):=
 share (fun (h:aG) (i:Int) (j:Int) (l:Int) (m:Int) (n:Int) (o:Int) (p:List aA) (q:List aF) (r:List aB) (s:List aE) (t:List aA) (u:List aF) (v:List aB) (w:List aE)=>share (fun (a:aG) (E:Int) (F:Int) (G:Int) (x:Int) (y:Int) (z:Int) (H:List aA) (B:List aF) (C:List aB) (D:List aE) (e:List aA) (f:List aF) (b:List aB) (c:List aE)=>aZ (mw (b.length+a.aK.length) 48) (aZ (mw (c.length+a.aW.length) 64) (some (x,y,z,e,f,(b++a.aK),(c++a.aW))))) fun g=>iter (ts:=pE) (R:=Int×Int×Int×(List aA)×(List aF)×(List aB)×(List aE)) k (lq g) (0:Int) h i j l m n o p q r s t u v w) fun A=>iter (ts:=pF) (R:=Int×Int×Int×(List aA)×(List aF)×(List aB)×(List aE)) k (lr A) (0:Int) d (0:Int) (0:Int) (0:Int) d.vo d.dR d.dP [] [] [] [] [] [] [] []
def qx (k:Nat):CT:=⟨35,[.d (.st 10)],[],[⟨false,.agg [.d (.int .i64),.d (.int .i64),.d (.int .i64),.ow 0,.ow 1,.ow 2,.ow 3],[.row (.st 5) .dv,.row (.st 7) .dv,.row (.st 8) .vs,.row (.st 9) .vs]⟩],mW k⟩
def xA (_k:Nat) (a:List aE) (b:Int):Option (List aE):=
 aZ (O8 0 b a.length) (aZ (mw (([]:List aE).length+(BR a 0 b).length) 64) (aZ (O8 (aP .i64 b 1) (a.length:Int) a.length) (aZ (mw ((([]:List aE)++(BR a 0 b)).length+(BR a (aP .i64 b 1) (a.length:Int)).length) 64) (some ((([]:List aE)++(BR a 0 b))++(BR a (aP .i64 b 1) (a.length:Int)))))))
def DV (k:Nat):CT:=⟨99,[.d (.sl (.st 9)),.d (.int .i64)],[],[⟨false,.ow 0,[.row (.st 9) .vs]⟩],xA k⟩
def pR (k:Nat) (f:Int) (g:Int) (h:Int) (b:Int) (i:List aA) (j:List aF) (c:List aB) (a:List aE):Option (Int×Int×Int×(List aA)×(List aF)×(List aB)×(List aE)×(List aE)):=
 aZ (bW b a.length) ((mX k (⟨f,g,h,i,j,c,a⟩:aG) (nth (default:aE) a b).aX (nth (default:aE) a b).aN).bind fun d=>aZ (bW d c.length) (aZ (bW d c.length) ((xA k a b).bind fun l=>some (f,g,h,i,j,(bD c d (fun e=>(⟨e.aX,e.aN,e.bT,(aP .i64 (nth (default:aB) c d).gG (nth (default:aE) a b).cF)⟩:aB))),a,l))))
def wk (k:Nat):CT:=⟨36,[.agg [.d (.int .i64),.d (.int .i64),.d (.int .i64),.ow 0,.ow 1,.ow 2,.ow 3],.d (.int .i64)],[.row (.st 5) .dv,.row (.st 7) .dv,.row (.st 8) .vs,.row (.st 9) .vs],[⟨false,.agg [.d (.int .i64),.d (.int .i64),.d (.int .i64),.ow 0,.ow 1,.ow 2,.ow 4],[.row (.st 5) .dv,.row (.st 7) .dv,.row (.st 8) .vs,.row (.st 9) .vs,.row (.st 9) .vs]⟩],pR k⟩
def u6 (_k:Nat) (a:Int):Option Bool:=
 cond (b8 97 a) (cond (b8 a 122) (some true) (cond (b8 48 a) (cond (b8 a 57) (some true) (some (bH a 45))) (some (bH a 45)))) (cond (b8 48 a) (cond (b8 a 57) (some true) (some (bH a 45))) (some (bH a 45)))
def C0 (k:Nat):CT:=⟨181,[.d (.int .u8)],[],[⟨false,.d .bool,[]⟩],u6 k⟩
abbrev vQ:List Ty:=[.str,.int .i64,.int .i64]
def nG (d:Option Bool) (e:Nat) (f:List UInt8→Int→Int→Option Bool) (b:List UInt8) (c:Int) (a:Int):Option Bool:=
 cond (bK a c) (aZ (bW a b.length) ((u6 e (AI b a)).bind fun g=>cond (!g) (some false) (f b c (aP .i64 a 1)))) (d)
def fZ (k:Nat) (a:List UInt8):Option Bool:=
 share (some true) fun b=>iter (ts:=vQ) (R:=Bool) k (nG b) a (a.length:Int) (0:Int)
def ui (k:Nat):CT:=⟨137,[.d .str],[],[⟨false,.d .bool,[]⟩],fZ k⟩
def cY (k:Nat) (a:List UInt8):Option Bool:=
 cond (b8 1 (a.length:Int)) (cond (b8 (a.length:Int) 16) ((fZ k a).bind fun b=>some b) (some false)) (some false)
def ea (k:Nat):CT:=⟨74,[.d .str],[],[⟨false,.d .bool,[]⟩],cY k⟩
abbrev pv:List Ty:=[.sl .str,.sl .str,.int .i64,.int .i64]
def g6 (f:Option Bool) (g:Nat) (h:List (List UInt8)→List (List UInt8)→Int→Int→Option Bool) (c:List (List UInt8)) (b:List (List UInt8)) (d:Int) (a:Int):Option Bool:=
 cond (bK a d) (aZ (bW a b.length) (share (fun (i:List (List UInt8)) (j:List (List UInt8)) (k:Int) (l:Int) (m:Bool)=>cond m (some false) (h i j k (aP .i64 l 1))) fun e=>(cY g (nth ([]:List UInt8) b a)).bind fun n=>cond (!n) (e c b d a true) (cond (bK 0 a) (aZ (bW (bO .i64 a 1) c.length) (e c b d a (!slt (nth ([]:List UInt8) c (bO .i64 a 1)) (nth ([]:List UInt8) b a)))) (e c b d a false)))) (f)
def fg (k:Nat) (a:List (List UInt8)):Option Bool:=
 share (some true) fun b=>iter (ts:=pv) (R:=Bool) k (g6 b) a a (a.length:Int) (0:Int)
def iG (k:Nat):CT:=⟨214,[.d (.sl .str)],[],[⟨false,.d .bool,[]⟩],fg k⟩
def u7 (_k:Nat) (a:aC):Option bJ:=
 some (⟨a⟩:bJ)
def C1 (k:Nat):CT:=⟨233,[.d (.st 0)],[],[⟨false,.pK 292 (.d (.st 14)),[]⟩],u7 k⟩
def u9 (_k:Nat) (a:aC):Option bJ:=
 some (⟨a⟩:bJ)
def C2 (k:Nat):CT:=⟨232,[.d (.st 0)],[],[⟨false,.pK 291 (.d (.st 14)),[]⟩],u9 k⟩
def u_ (_k:Nat) (a:aC):Option bJ:=
 some (⟨a⟩:bJ)
def C3 (k:Nat):CT:=⟨231,[.d (.st 0)],[],[⟨false,.pK 290 (.d (.st 14)),[]⟩],u_ k⟩
def vc (_k:Nat) (a:aC):Option bJ:=
 some (⟨a⟩:bJ)
def C4 (k:Nat):CT:=⟨230,[.d (.st 0)],[],[⟨false,.pK 288 (.d (.st 14)),[]⟩],vc k⟩
def vR (k:Nat) (a:aC):Option (Unit ⊕ (bJ ⊕ (bJ ⊕ (bJ ⊕ bJ)))):=
 cond (bH a.Kind 1) ((vc k a).bind fun b=>some (.inr (.inr (.inr (.inr b))))) (cond (bH a.Kind 2) ((u_ k a).bind fun c=>some (.inr (.inr (.inr (.inl c))))) (cond (bH a.Kind 3) ((u9 k a).bind fun d=>some (.inr (.inr (.inl d)))) (cond (bH a.Kind 4) ((u7 k a).bind fun e=>some (.inr (.inl e))) (some (.inl ())))))
def Ak (k:Nat):CT:=⟨224,[.d (.st 0)],[],[⟨false,.nP [.QH,.kb false],[]⟩,⟨false,.nP [.pK 292 (.d (.st 14)),.kb true],[]⟩,⟨false,.nP [.pK 291 (.d (.st 14)),.kb true],[]⟩,⟨false,.nP [.pK 290 (.d (.st 14)),.kb true],[]⟩,⟨false,.nP [.pK 288 (.d (.st 14)),.kb true],[]⟩],vR k⟩
def n5 (_k:Nat) (a:bJ):Option Bool:=
 cond (bH a.aC.bS 0) (cond (bH a.aC.bT 0) (cond (bH (a.aC.Words.length:Int) 0) (some (seq a.aC.bE ([]:List UInt8))) (some false)) (some false)) (some false)
def sC (k:Nat):CT:=⟨267,[.d (.st 14)],[],[⟨false,.d .bool,[]⟩],n5 k⟩
abbrev n6:List Ty:=[.st 14,.bool,.sl .str,.int .i64,.int .i64]
def gv (g:bJ→Bool→Option Bool) (n:Nat) (h:bJ→Bool→List (List UInt8)→Int→Int→Option Bool) (b:bJ) (e:Bool) (c:List (List UInt8)) (d:Int) (a:Int):Option Bool:=
 cond (bK a d) (share (fun (i:bJ) (j:Bool) (k:List (List UInt8)) (l:Int) (m:Int)=>h i j k l (aP .i64 m 1)) fun f=>aZ (bW a c.length) (cond e (f b true c d a) (f b (seq (nth ([]:List UInt8) c a) b.aC.To) c d a))) (g b e)
def jw (k:Nat) (e:bJ) (b:List (List UInt8)):Option Bool:=
 share (fun (a:bJ) (c:Bool)=>cond c (cond (b8 1 a.aC.cG) (cond (b8 a.aC.cG 3) (cond (seq a.aC.Default ([]:List UInt8)) (cond (bH a.aC.cG 2) (some (!a.aC.c6)) (some true)) (some false)) (some false)) (some false)) (some false)) fun d=>iter (ts:=n6) (R:=Bool) k (gv d) e false b (b.length:Int) (0:Int)
def sD (k:Nat):CT:=⟨269,[.d (.st 14),.d (.sl .str)],[],[⟨false,.d .bool,[]⟩],jw k⟩
def pG (k:Nat) (c:bJ) (a:List UInt8):Option Bool:=
 (cY k a).bind fun b=>some b
def tT (k:Nat):CT:=⟨268,[.d (.st 14),.d .str],[],[⟨false,.d .bool,[]⟩],pG k⟩
abbrev pw:List Ty:=[.str,.int .i64,.int .i64]
def g7 (e:Option Bool) (k:Nat) (f:List UInt8→Int→Int→Option Bool) (b:List UInt8) (c:Int) (a:Int):Option Bool:=
 cond (bK a c) (share (fun (g:List UInt8) (h:Int) (i:Int) (j:Bool)=>cond j (some false) (f g h (aP .i64 i 1))) fun d=>aZ (bW a b.length) (cond (bK (AI b a) 33) (d b c a true) (aZ (bW a b.length) (d b c a (bK 126 (AI b a)))))) (e)
def ky (k:Nat) (b:bJ) (a:List UInt8):Option Bool:=
 share (fun (c:List UInt8) (f:Bool)=>cond f (some false) (share (some true) fun d=>iter (ts:=pw) (R:=Bool) k (g7 d) c (c.length:Int) (0:Int))) fun e=>cond (bK (a.length:Int) b.aC.bS) (e a true) (e a (bK b.aC.bT (a.length:Int)))
def tU (k:Nat):CT:=⟨265,[.d (.st 14),.d .str],[],[⟨false,.d .bool,[]⟩],ky k⟩
abbrev px:List Ty:=[.str,.sl .str,.int .i64,.int .i64]
def g8 (f:Option Bool) (g:Nat) (e:List UInt8→List (List UInt8)→Int→Int→Option Bool) (c:List UInt8) (b:List (List UInt8)) (d:Int) (a:Int):Option Bool:=
 cond (bK a d) (aZ (bW a b.length) (cond (seq (nth ([]:List UInt8) b a) c) (some true) (e c b d (aP .i64 a 1)))) (f)
def kz (k:Nat) (a:bJ) (b:List UInt8):Option Bool:=
 share (some false) fun c=>iter (ts:=px) (R:=Bool) k (g8 c) b a.aC.Words (a.aC.Words.length:Int) (0:Int)
def tV (k:Nat):CT:=⟨262,[.d (.st 14),.d .str],[],[⟨false,.d .bool,[]⟩],kz k⟩
abbrev yp:List Ty:=[.str,.int .i64,.int .i64,.int .i64]
def qy (l:Int→Option (Int×Bool)) (n:Nat) (m:List UInt8→Int→Int→Int→Option (Int×Bool)) (b:List UInt8) (d:Int) (e:Int) (a:Int):Option (Int×Bool):=
 cond (bK a e) (share (fun (c:List UInt8) (h:Int) (f:Int) (i:Int) (j:Int) (k:Bool)=>cond k (some (0,false)) (aZ (bW f c.length) (m c (aP .i64 (Xn .i64 h 10) (zu .i64 (bO .u8 (AI c f) 48))) i (aP .i64 j 1)))) fun g=>aZ (bW a b.length) (cond (bK (AI b a) 48) (g b d a e a true) (aZ (bW a b.length) (g b d a e a (bK 57 (AI b a)))))) (l d)
def sE (k:Nat) (a:List UInt8):Option (Int×Bool):=
 share (fun (c:List UInt8) (f:Bool)=>cond f (some (0,false)) (share (fun (d:Int)=>some (d,true)) fun e=>iter (ts:=yp) (R:=Int×Bool) k (qy e) c (0:Int) (c.length:Int) (0:Int))) fun b=>cond (bK (a.length:Int) 1) (b a true) (cond (bK 7 (a.length:Int)) (b a true) (aZ (bW 0 a.length) (cond (bH (AI a 0) 48) (b a (bK 1 (a.length:Int))) (b a false))))
def yq (k:Nat):CT:=⟨182,[.d .str],[],[⟨false,.nP [.d (.int .i64),.d .bool],[]⟩],sE k⟩
def iH (k:Nat) (b:bJ) (c:List UInt8):Option Bool:=
 (sE k c).bind fun a=>cond a.2 (cond (b8 b.aC.bS a.1) (some (b8 a.1 b.aC.bT)) (some false)) (some false)
def rF (k:Nat):CT:=⟨259,[.d (.st 14),.d .str],[],[⟨false,.d .bool,[]⟩],iH k⟩
def fQ (k:Nat) (o:aC) (a:List UInt8):Option Bool:=
 (vR k o).bind fun b=>yr b (fun p=>some false) (fun c=>yr c (fun d=>cond (!seq a ([]:List UInt8)) ((pG k d a).bind fun e=>some e) (some false)) (fun f=>yr f (fun g=>cond (!seq a ([]:List UInt8)) ((ky k g a).bind fun h=>some h) (some false)) (fun i=>yr i (fun j=>cond (!seq a ([]:List UInt8)) ((kz k j a).bind fun l=>some l) (some false)) (fun m=>cond (!seq a ([]:List UInt8)) ((iH k m a).bind fun n=>some n) (some false)))))
def qz (k:Nat):CT:=⟨218,[.d (.st 0),.d .str],[],[⟨false,.d .bool,[]⟩],fQ k⟩
def n7 (_k:Nat) (a:bJ):Option Bool:=
 cond (bH (a.aC.Words.length:Int) 0) (cond (seq a.aC.To ([]:List UInt8)) (cond (bH a.aC.cG 0) (some (seq a.aC.bE ([]:List UInt8))) (some false)) (some false)) (some false)
def sF (k:Nat):CT:=⟨264,[.d (.st 14)],[],[⟨false,.d .bool,[]⟩],n7 k⟩
def n9 (_k:Nat) (a:bJ) (b:List (List UInt8)):Option Bool:=
 cond (b8 1 a.aC.bS) (cond (b8 a.aC.bS a.aC.bT) (some (b8 a.aC.bT 40)) (some false)) (some false)
def sG (k:Nat):CT:=⟨266,[.d (.st 14),.d (.sl .str)],[],[⟨false,.d .bool,[]⟩],n9 k⟩
def n_ (_k:Nat) (a:bJ):Option Bool:=
 cond (bH a.aC.bS 0) (cond (bH a.aC.bT 0) (cond (seq a.aC.To ([]:List UInt8)) (cond (bH a.aC.cG 0) (some (seq a.aC.bE ([]:List UInt8))) (some false)) (some false)) (some false)) (some false)
def sH (k:Nat):CT:=⟨261,[.d (.st 14)],[],[⟨false,.d .bool,[]⟩],n_ k⟩
def oa (k:Nat) (a:bJ) (c:List (List UInt8)):Option Bool:=
 cond (b8 1 (a.aC.Words.length:Int)) (cond (b8 (a.aC.Words.length:Int) 6) ((fg k a.aC.Words).bind fun b=>some b) (some false)) (some false)
def sI (k:Nat):CT:=⟨263,[.d (.st 14),.d (.sl .str)],[],[⟨false,.d .bool,[]⟩],oa k⟩
def l9 (_k:Nat) (a:bJ):Option Bool:=
 cond (bH (a.aC.Words.length:Int) 0) (cond (seq a.aC.To ([]:List UInt8)) (some (bH a.aC.cG 0)) (some false)) (some false)
def p0 (k:Nat):CT:=⟨258,[.d (.st 14)],[],[⟨false,.d .bool,[]⟩],l9 k⟩
def l_ (k:Nat) (a:bJ) (c:List (List UInt8)):Option Bool:=
 cond (b8 0 a.aC.bS) (cond (b8 a.aC.bS a.aC.bT) (cond (b8 a.aC.bT 1000000) (cond (seq a.aC.bE ([]:List UInt8)) (some true) ((cY k a.aC.bE).bind fun b=>some b)) (some false)) (some false)) (some false)
def p4 (k:Nat):CT:=⟨260,[.d (.st 14),.d (.sl .str)],[],[⟨false,.d .bool,[]⟩],l_ k⟩
abbrev qV:List Ty:=[.sl .str,.sl (.st 0),.int .i64,.int .i64,.sl (.st 15)]
def mM (bw:Option Bool) (d:Nat) (bx:List (List UInt8)→List aC→Int→Int→List cy→Option Bool) (Y:List (List UInt8)) (b:List aC) (q:Int) (a:Int) (j:List cy):Option Bool:=
 cond (bK a q) (share (fun (Z:List (List UInt8)) (aa:List aC) (ab:Int) (ad:Int) (ae:List cy)=>bx Z aa ab (aP .i64 ad 1) ae) fun k=>aZ (bW a b.length) (share (fun (c:List (List UInt8)) (f:List aC) (g:Int) (h:Int) (af:Bool) (i:List cy) (e:aC)=>cond af (some false) ((vR d e).bind fun ag=>yr ag (fun bz=>some false) (fun ah=>yr ah (fun r=>share (fun (s:List (List UInt8)) (t:List aC) (u:Int) (v:Int) (ai:Bool) (w:List cy) (l:aC)=>cond ai (some false) (share (fun (aj:List (List UInt8)) (ak:List aC) (al:Int) (an:Int) (ao:Bool) (aq:List cy)=>cond ao (some false) (k aj ak al an aq)) fun x=>cond (!seq l.Default ([]:List UInt8)) ((fQ d l l.Default).bind fun ar=>x s t u v (!ar) w) (x s t u v false w))) fun y=>(n5 d r).bind fun au=>cond (!au) (y c f g h true i e) ((jw d r c).bind fun av=>y c f g h (!av) i e)) (fun aw=>yr aw (fun z=>share (fun (A:List (List UInt8)) (B:List aC) (C:Int) (D:Int) (ax:Bool) (E:List cy) (m:aC)=>cond ax (some false) (share (fun (ay:List (List UInt8)) (az:List aC) (a0:Int) (a1:Int) (a2:Bool) (a3:List cy)=>cond a2 (some false) (k ay az a0 a1 a3)) fun F=>cond (!seq m.Default ([]:List UInt8)) ((fQ d m m.Default).bind fun a4=>F A B C D (!a4) E) (F A B C D false E))) fun G=>(n7 d z).bind fun a5=>cond (!a5) (G c f g h true i e) ((n9 d z c).bind fun a6=>G c f g h (!a6) i e)) (fun a7=>yr a7 (fun H=>share (fun (I:List (List UInt8)) (J:List aC) (K:Int) (L:Int) (a8:Bool) (M:List cy) (n:aC)=>cond a8 (some false) (share (fun (a9:List (List UInt8)) (ba:List aC) (bb:Int) (bc:Int) (bd:Bool) (bf:List cy)=>cond bd (some false) (k a9 ba bb bc bf)) fun N=>cond (!seq n.Default ([]:List UInt8)) ((fQ d n n.Default).bind fun bg=>N I J K L (!bg) M) (N I J K L false M))) fun O=>(n_ d H).bind fun bh=>cond (!bh) (O c f g h true i e) ((oa d H c).bind fun bj=>O c f g h (!bj) i e)) (fun P=>share (fun (Q:List (List UInt8)) (R:List aC) (S:Int) (T:Int) (bk:Bool) (U:List cy) (o:aC)=>cond bk (some false) (share (fun (bl:List (List UInt8)) (bm:List aC) (bn:Int) (bo:Int) (bp:Bool) (bq:List cy)=>cond bp (some false) (k bl bm bn bo bq)) fun V=>cond (!seq o.Default ([]:List UInt8)) ((fQ d o o.Default).bind fun br=>V Q R S T (!br) U) (V Q R S T false U))) fun W=>(l9 d P).bind fun bs=>cond (!bs) (W c f g h true i e) ((l_ d P c).bind fun bt=>W c f g h (!bt) i e))))))) fun X=>(cY d (nth (default:aC) b a).Name).bind fun bu=>cond (!bu) (X Y b q a true (pB (fun p:cy=>seq (nth (default:aC) b a).Name p.Key) j (⟨(nth (default:aC) b a).Name,(aP .i64 (nN (fun p:cy=>seq (nth (default:aC) b a).Name p.Key) (fun p:cy=>p.Mv) 0 j) 1)⟩:cy)) (nth (default:aC) b a)) (X Y b q a (bK 1 (nN (fun p:cy=>seq (nth (default:aC) b a).Name p.Key) (fun p:cy=>p.Mv) 0 (pB (fun p:cy=>seq (nth (default:aC) b a).Name p.Key) j (⟨(nth (default:aC) b a).Name,(aP .i64 (nN (fun p:cy=>seq (nth (default:aC) b a).Name p.Key) (fun p:cy=>p.Mv) 0 j) 1)⟩:cy)))) (pB (fun p:cy=>seq (nth (default:aC) b a).Name p.Key) j (⟨(nth (default:aC) b a).Name,(aP .i64 (nN (fun p:cy=>seq (nth (default:aC) b a).Name p.Key) (fun p:cy=>p.Mv) 0 j) 1)⟩:cy)) (nth (default:aC) b a)))) (bw)
def xB (k:Nat) (a:aD) (c:List (List UInt8)):Option Bool:=
 cond (bK 6 (a.aV.length:Int)) (some false) (share (some true) fun b=>iter (ts:=qV) (R:=Bool) k (mM b) c a.aV (a.aV.length:Int) (0:Int) ([]:List cy))
def DW (k:Nat):CT:=⟨215,[.d (.st 1),.d (.sl .str)],[],[⟨false,.d .bool,[]⟩],xB k⟩
abbrev p5:List Ty:=[.sl (.st 1),.int .i64,.int .i64,.sl .str]
def iI (e:Option Bool) (f:Nat) (g:List aD→Int→Int→List (List UInt8)→Option Bool) (b:List aD) (c:Int) (a:Int) (d:List (List UInt8)):Option Bool:=
 cond (bK a c) (aZ (bW a b.length) ((xB f (nth (default:aD) b a) d).bind fun h=>cond (!h) (some false) (g b c (aP .i64 a 1) d))) (e)
abbrev rG:List Ty:=[.sl (.st 1),.sl (.st 1),.int .i64,.int .i64,.sl .str]
def jx (f:List aD→List (List UInt8)→Option Bool) (h:Nat) (g:List aD→List aD→Int→Int→List (List UInt8)→Option Bool) (d:List aD) (b:List aD) (e:Int) (a:Int) (c:List (List UInt8)):Option Bool:=
 cond (bK a e) (aZ (bW a b.length) (aZ (mw (c.length+([(nth (default:aD) b a).Kind]:List (List UInt8)).length) 16) (g d b e (aP .i64 a 1) (c++([(nth (default:aD) b a).Kind]:List (List UInt8)))))) (f d c)
def gx (k:Nat) (a:List aD):Option Bool:=
 cond (bK 6 (a.length:Int)) (some false) (aZ (GV 0 (a.length:Int) 16) (share (fun (b:List aD) (c:List (List UInt8))=>(fg k c).bind fun d=>cond (!d) (some false) (share (some true) fun e=>iter (ts:=p5) (R:=Bool) k (iI e) b (b.length:Int) (0:Int) c)) fun f=>iter (ts:=rG) (R:=Bool) k (jx f) a a (a.length:Int) (0:Int) (List.replicate (Int.toNat 0) ([]:List UInt8))))
def kA (k:Nat):CT:=⟨198,[.d (.sl (.st 1))],[],[⟨false,.d .bool,[]⟩],gx k⟩
abbrev yt:List Ty:=[.str,.sl (.st 1),.int .i64,.int .i64]
def qA (f:Option Int) (g:Nat) (e:List UInt8→List aD→Int→Int→Option Int) (c:List UInt8) (b:List aD) (d:Int) (a:Int):Option Int:=
 cond (bK a d) (aZ (bW a b.length) (cond (seq (nth (default:aD) b a).Kind c) (some a) (e c b d (aP .i64 a 1)))) (f)
def ma (k:Nat) (a:List aD) (b:List UInt8):Option Int:=
 share (some (-1)) fun c=>iter (ts:=yt) (R:=Int) k (qA c) b a (a.length:Int) (0:Int)
def oc (k:Nat):CT:=⟨185,[.d (.sl (.st 1)),.d .str],[],[⟨false,.d (.int .i64),[]⟩],ma k⟩
abbrev yu:List Ty:=[.str,.sl (.st 0),.int .i64,.int .i64]
def qB (f:Option Int) (g:Nat) (e:List UInt8→List aC→Int→Int→Option Int) (c:List UInt8) (b:List aC) (d:Int) (a:Int):Option Int:=
 cond (bK a d) (aZ (bW a b.length) (cond (seq (nth (default:aC) b a).Name c) (some a) (e c b d (aP .i64 a 1)))) (f)
def jy (k:Nat) (a:List aC) (b:List UInt8):Option Int:=
 share (some (-1)) fun c=>iter (ts:=yu) (R:=Int) k (qB c) b a (a.length:Int) (0:Int)
def od (k:Nat):CT:=⟨217,[.d (.sl (.st 0)),.d .str],[],[⟨false,.d (.int .i64),[]⟩],jy k⟩
def jL (k:Nat) (c:List UInt8) (a:List aC):Option (Bool×(List aC)):=
 (jy k a c).bind fun b=>cond (b8 0 b) (aZ (bW b a.length) (some ((!bH (nth (default:aC) a b).Kind 4),a))) (some (false,a))
def C5 (k:Nat):CT:=⟨216,[.d .str,.bp 0 0],[.box [.d (.sl (.st 0))]],[⟨false,.d .bool,[.box [.d (.sl (.st 0))]]⟩],jL k⟩
def zP (k:Nat) (q:List aC) (b:aH):Option Bool:=
 share (fun (a:aH) (n:Bool) (d:List aC)=>cond n (some false) (share (fun (h:aH) (o:Bool) (i:List aC)=>cond o (some false) (cond (seq h.tp ([]:List UInt8)) (some true) ((jy k i h.Field).bind fun j=>aZ (bW j i.length) ((fQ k (nth (default:aC) i j) h.tp).bind fun p=>some p)))) fun e=>cond (seq a.dk a.Field) (e a true d) (cond (seq a.cS a.Field) (e a true d) (cond (seq a.dk ([]:List UInt8)) (cond (!seq a.Is ([]:List UInt8)) (e a true d) (e a (beq (seq a.tp ([]:List UInt8)) (seq a.cS ([]:List UInt8))) d)) (e a (beq (seq a.tp ([]:List UInt8)) (seq a.cS ([]:List UInt8))) d))))) fun c=>(jL k b.Field q).bind fun f=>cond (!f.1) (c b true f.2) (cond (!seq b.dk ([]:List UInt8)) ((jL k b.dk f.2).bind fun g=>cond (!g.1) (c b true g.2) (cond (!seq b.cS ([]:List UInt8)) ((jL k b.cS g.2).bind fun l=>c b (!l.1) l.2) (c b false g.2))) (cond (!seq b.cS ([]:List UInt8)) ((jL k b.cS f.2).bind fun m=>c b (!m.1) m.2) (c b false f.2)))
def GB (k:Nat):CT:=⟨199,[.d (.sl (.st 0)),.d (.st 2)],[],[⟨false,.d .bool,[]⟩],zP k⟩
abbrev yw:List Ty:=[.str,.sl (.st 2),.int .i64,.int .i64,.sl (.st 2),.st 1,.sl .str]
def qC (z:List aH→aD→List (List UInt8)→Option ((List (List UInt8))×(List aH)×aD)) (A:Nat) (r:List UInt8→List aH→Int→Int→List aH→aD→List (List UInt8)→Option ((List (List UInt8))×(List aH)×aD)) (f:List UInt8) (b:List aH) (g:Int) (a:Int) (h:List aH) (d:aD) (c:List (List UInt8)):Option ((List (List UInt8))×(List aH)×aD):=
 cond (bK a g) (share (fun (s:List UInt8) (t:List aH) (u:Int) (v:Int) (w:List aH) (x:aD) (y:List (List UInt8))=>r s t u (aP .i64 v 1) w x y) fun e=>aZ (bW a b.length) (cond (!seq (nth (default:aH) b a).Kind d.Kind) (e f b g a h d c) (cond (!seq (nth (default:aH) b a).Field f) (e f b g a h d c) (share (fun (k:List UInt8) (l:List aH) (m:Int) (n:Int) (o:List aH) (p:aD) (i:List (List UInt8)) (j:aH)=>cond (!seq j.cS ([]:List UInt8)) (aZ (mw (i.length+([j.cS]:List (List UInt8)).length) 16) (e k l m n o p (i++([j.cS]:List (List UInt8))))) (e k l m n o p i)) fun q=>cond (!seq (nth (default:aH) b a).dk ([]:List UInt8)) (aZ (mw (c.length+([(nth (default:aH) b a).dk]:List (List UInt8)).length) 16) (q f b g a h d (c++([(nth (default:aH) b a).dk]:List (List UInt8))) (nth (default:aH) b a))) (q f b g a h d c (nth (default:aH) b a)))))) (z h d c)
def xC (k:Nat) (f:List UInt8) (a:List aH) (g:aD):Option ((List (List UInt8))×(List aH)×aD):=
 share (fun (b:List aH) (c:aD) (d:List (List UInt8))=>some (d,b,c)) fun e=>iter (ts:=yw) (R:=(List (List UInt8))×(List aH)×aD) k (qC e) f a (a.length:Int) (0:Int) a g []
def DX (k:Nat):CT:=⟨220,[.d .str,.bp 0 0,.bp 1 0],[.box [.d (.sl (.st 2))],.cQ (.st 1)],[⟨false,.d (.sl .str),[.box [.d (.sl (.st 2))],.cQ (.st 1)]⟩],xC k⟩
abbrev jM:List Ty:=[.str,.sl .str,.int .i64,.int .i64,.sl (.st 15),.sl (.st 2),.st 1,.sl .str]
def d_ (aeV:Nat→List UInt8→List cy→List aH→aD→List (List UInt8)→Option (Bool×(List cy)×(List aH)×aD×(List (List UInt8)))) (j:List UInt8→List cy→List aH→aD→List (List UInt8)→Option (Bool×(List cy)×(List aH)×aD×(List (List UInt8)))) (k:Nat) (l:List UInt8→List (List UInt8)→Int→Int→List cy→List aH→aD→List (List UInt8)→Option (Bool×(List cy)×(List aH)×aD×(List (List UInt8)))) (d:List UInt8) (c:List (List UInt8)) (e:Int) (b:Int) (f:List cy) (g:List aH) (h:aD) (i:List (List UInt8)):Option (Bool×(List cy)×(List aH)×aD×(List (List UInt8))):=
 cond (bK b e) (aZ (bW b c.length) ((aeV k (nth ([]:List UInt8) c b) f g h i).bind fun a=>cond (!a.1) (some (false,a.2.1,a.2.2.1,a.2.2.2.1,a.2.2.2.2)) (l d c e (aP .i64 b 1) a.2.1 a.2.2.1 a.2.2.2.1 a.2.2.2.2))) (j d f g h i)
def ey:Nat→Nat→List UInt8→List cy→List aH→aD→List (List UInt8)→Option (Bool×(List cy)×(List aH)×aD×(List (List UInt8)))
 | 0,_,_,_,_,_,_=>none
 | n+1,k,c,d,f,g,h=>
 cond (bH (nN (fun p:cy=>seq c p.Key) (fun p:cy=>p.Mv) 0 d) 1) (some (false,d,f,g,h)) (cond (bH (nN (fun p:cy=>seq c p.Key) (fun p:cy=>p.Mv) 0 d) 2) (some (true,d,f,g,h)) (share (fun (a:List UInt8) (i:List cy) (j:List aH) (l:aD) (e:List (List UInt8))=>aZ (mw (e.length+([a]:List (List UInt8)).length) 16) (some (true,(pB (fun p:cy=>seq a p.Key) i (⟨a,2⟩:cy)),j,l,(e++([a]:List (List UInt8)))))) fun m=>(xC k c f g).bind fun b=>iter (ts:=jM) (R:=Bool×(List cy)×(List aH)×aD×(List (List UInt8))) k (d_ (ey n) m) c b.1 (b.1.length:Int) (0:Int) (pB (fun p:cy=>seq c p.Key) d (⟨c,1⟩:cy)) b.2.1 b.2.2 h))
def mb (n k:Nat):CT:=⟨225,[.d .str,.bp 0 0,.bp 1 0,.bp 2 0,.bp 3 0],[.box [.mp 4],.box [.fn (.func 220) [] [.bp 5 0,.bp 6 0]],.box [.fn (.func 225) [] [.bp 0 0,.bp 1 0,.bp 2 0,.bp 3 0]],.box [.ow 7],.dmap 15,.box [.d (.sl (.st 2))],.cQ (.st 1),.row .str .vs],[⟨false,.d .bool,[.box [.mp 4],.box [.fn (.func 220) [] [.bp 5 0,.bp 6 0]],.box [.fn (.func 225) [] [.bp 0 0,.bp 1 0,.bp 2 0,.bp 3 0]],.box [.ow 8],.dmap 15,.box [.d (.sl (.st 2))],.cQ (.st 1),.gone,.row .str .vs]⟩],ey n k⟩
def vS (k:Nat):CT:=mb k k
abbrev sJ:List Ty:=[.sl .str,.int .i64,.int .i64,.sl (.st 2),.st 1,.sl .str,.sl (.st 15)]
def gL (i:List aH→aD→List (List UInt8)→Option ((List (List UInt8))×Bool×(List aH)×aD)) (d:Nat) (j:List (List UInt8)→Int→Int→List aH→aD→List (List UInt8)→List cy→Option ((List (List UInt8))×Bool×(List aH)×aD)) (c:List (List UInt8)) (e:Int) (b:Int) (f:List aH) (g:aD) (h:List (List UInt8)) (k:List cy):Option ((List (List UInt8))×Bool×(List aH)×aD):=
 cond (bK b e) (aZ (bW b c.length) ((ey d d (nth ([]:List UInt8) c b) k f g h).bind fun a=>cond (!a.1) (some ([],false,a.2.2.1,a.2.2.2.1)) (j c e (aP .i64 b 1) a.2.2.1 a.2.2.2.1 a.2.2.2.2 a.2.1))) (i f g h)
def lu (k:Nat) (a:List (List UInt8)) (f:List aH) (g:aD):Option ((List (List UInt8))×Bool×(List aH)×aD):=
 share (fun (b:List aH) (c:aD) (d:List (List UInt8))=>some (d,true,b,c)) fun e=>iter (ts:=sJ) (R:=(List (List UInt8))×Bool×(List aH)×aD) k (gL e) a (a.length:Int) (0:Int) f g ([]:List (List UInt8)) ([]:List cy)
def yx (k:Nat):CT:=⟨219,[.d (.sl .str),.fn (.func 220) [] [.bp 0 0,.bp 1 0]],[.box [.d (.sl (.st 2))],.cQ (.st 1)],[⟨false,.nP [.d (.sl .str),.d .bool],[.box [.d (.sl (.st 2))],.cQ (.st 1)]⟩],lu k⟩
abbrev AQ:List Ty:=[.sl (.st 0),.int .i64,.int .i64,.st 1,.sl (.st 2),.sl .str]
def vd (g:aD→List aH→List (List UInt8)→Option ((List (List UInt8))×Bool)) (i:Nat) (h:List aC→Int→Int→aD→List aH→List (List UInt8)→Option ((List (List UInt8))×Bool)) (b:List aC) (d:Int) (a:Int) (e:aD) (f:List aH) (c:List (List UInt8)):Option ((List (List UInt8))×Bool):=
 cond (bK a d) (aZ (bW a b.length) (aZ (mw (c.length+([(nth (default:aC) b a).Name]:List (List UInt8)).length) 16) (h b d (aP .i64 a 1) e f (c++([(nth (default:aC) b a).Name]:List (List UInt8)))))) (g e f c)
def uj (k:Nat) (b:aD) (g:List aH):Option ((List (List UInt8))×Bool):=
 share (fun (c:aD) (d:List aH) (e:List (List UInt8))=>(lu k e d c).bind fun a=>some (a.1,a.2.1)) fun f=>iter (ts:=AQ) (R:=(List (List UInt8))×Bool) k (vd f) b.aV (b.aV.length:Int) (0:Int) b g []
def BS (k:Nat):CT:=⟨200,[.d (.st 1),.d (.sl (.st 2))],[],[⟨false,.nP [.d (.sl .str),.d .bool],[]⟩],uj k⟩
abbrev rH:List Ty:=[.sl (.st 2),.sl (.st 1),.int .i64,.int .i64]
def jz (e:Option Bool) (f:Nat) (g:List aH→List aD→Int→Int→Option Bool) (c:List aH) (b:List aD) (d:Int) (a:Int):Option Bool:=
 cond (bK a d) (aZ (bW a b.length) ((uj f (nth (default:aD) b a) c).bind fun h=>cond (!h.2) (some false) (g c b d (aP .i64 a 1)))) (e)
abbrev sK:List Ty:=[.sl (.st 1),.sl (.st 2),.sl (.st 2),.int .i64,.int .i64]
def kB (q:List aD→List aH→Option Bool) (g:Nat) (i:List aD→List aH→List aH→Int→Int→Option Bool) (a:List aD) (d:List aH) (c:List aH) (e:Int) (b:Int):Option Bool:=
 cond (bK b e) (aZ (bW b c.length) ((ma g a (nth (default:aH) c b).Kind).bind fun f=>share (fun (j:List aD) (k:List aH) (l:List aH) (m:Int) (n:Int) (o:Bool)=>cond o (some false) (i j k l m (aP .i64 n 1))) fun h=>cond (bK f 0) (h a d c e b true) (aZ (bW f a.length) ((zP g (nth (default:aD) a f).aV (nth (default:aH) c b)).bind fun p=>h a d c e b (!p))))) (q a d)
def ij (k:Nat) (b:List aD) (c:List aH):Option Bool:=
 share (fun (j:List aD) (d:List aH) (l:Bool)=>cond l (some false) (share (fun (a:List aD) (f:List aH)=>share (some true) fun g=>iter (ts:=rH) (R:=Bool) k (jz g) f a (a.length:Int) (0:Int)) fun h=>iter (ts:=sK) (R:=Bool) k (kB h) j d d (d.length:Int) (0:Int))) fun i=>(gx k b).bind fun e=>cond (!e) (i b c true) (i b c (bK 12 (c.length:Int)))
def mc (k:Nat):CT:=⟨167,[.d (.sl (.st 1)),.d (.sl (.st 2))],[],[⟨false,.d .bool,[]⟩],ij k⟩
abbrev zQ:List Ty:=[.str,.sl (.st 3),.int .i64,.int .i64]
def sL (f:Option Int) (g:Nat) (e:List UInt8→List aJ→Int→Int→Option Int) (c:List UInt8) (b:List aJ) (d:Int) (a:Int):Option Int:=
 cond (bK a d) (aZ (bW a b.length) (cond (seq (nth (default:aJ) b a).Name c) (some a) (e c b d (aP .i64 a 1)))) (f)
def hP (k:Nat) (a:List aJ) (b:List UInt8):Option Int:=
 share (some (-1)) fun c=>iter (ts:=zQ) (R:=Int) k (sL c) b a (a.length:Int) (0:Int)
def m7 (k:Nat):CT:=⟨73,[.d (.sl (.st 3)),.d .str],[],[⟨false,.d (.int .i64),[]⟩],hP k⟩
abbrev rI:List Ty:=[.sl (.st 3),.int .i64,.str,.sl (.st 3),.int .i64,.int .i64]
def jA (h:List aJ→List aJ→Int→Int→Option Bool) (i:Nat) (j:List aJ→Int→List UInt8→List aJ→Int→Int→Option Bool) (a:List aJ) (b:Int) (c:List UInt8) (d:List aJ) (e:Int) (f:Int):Option Bool:=
 cond (!seq c ([]:List UInt8)) (cond (bK 4 (aP .i64 b 1)) (some false) ((hP i a c).bind fun g=>aZ (bW g a.length) (j a (aP .i64 b 1) (nth (default:aJ) a g).ia d e f))) (h a d e f)
abbrev rJ:List Ty:=[.sl (.st 3),.sl (.st 3),.int .i64,.int .i64]
def jB (d:Option Bool) (e:Nat) (f:List aJ→List aJ→Int→Int→Option Bool) (g:List aJ) (b:List aJ) (c:Int) (a:Int):Option Bool:=
 cond (bK a c) (share (fun (h:List aJ) (i:List aJ) (j:Int) (k:Int)=>f h i j (aP .i64 k 1)) fun l=>aZ (bW a b.length) (iter (ts:=rI) (R:=Bool) e (jA l) g (0:Int) (nth (default:aJ) b a).ia b c a)) (d)
abbrev sM:List Ty:=[.sl (.st 3),.sl (.st 3),.int .i64,.int .i64]
def kC (p:List aJ→Option Bool) (f:Nat) (g:List aJ→List aJ→Int→Int→Option Bool) (c:List aJ) (b:List aJ) (d:Int) (a:Int):Option Bool:=
 cond (bK a d) (aZ (bW a b.length) (share (fun (h:List aJ) (i:List aJ) (j:Int) (k:Int) (l:Bool)=>cond l (some false) (g h i j (aP .i64 k 1))) fun e=>(cY f (nth (default:aJ) b a).Name).bind fun m=>cond (!m) (e c b d a true) (cond (bK 0 a) (aZ (bW (bO .i64 a 1) c.length) (cond (!slt (nth (default:aJ) c (bO .i64 a 1)).Name (nth (default:aJ) b a).Name) (e c b d a true) (cond (!seq (nth (default:aJ) b a).ia ([]:List UInt8)) ((hP f c (nth (default:aJ) b a).ia).bind fun n=>e c b d a (bK n 0)) (e c b d a false)))) (cond (!seq (nth (default:aJ) b a).ia ([]:List UInt8)) ((hP f c (nth (default:aJ) b a).ia).bind fun o=>e c b d a (bK o 0)) (e c b d a false))))) (p c)
def oZ (k:Nat) (b:List aJ):Option Bool:=
 cond (bK 12 (b.length:Int)) (some false) (share (fun (a:List aJ)=>share (some true) fun c=>iter (ts:=rJ) (R:=Bool) k (jB c) a a (a.length:Int) (0:Int)) fun d=>iter (ts:=sM) (R:=Bool) k (kC d) b b (b.length:Int) (0:Int))
def yA (k:Nat):CT:=⟨168,[.d (.sl (.st 3))],[],[⟨false,.d .bool,[]⟩],oZ k⟩
def rW (k:Nat) (a:aL):Option Bool:=
 (ij k a.cg a.iO).bind fun b=>cond b ((oZ k a.dY).bind fun c=>some c) (some false)
def AR (k:Nat):CT:=⟨107,[.d (.st 4)],[],[⟨false,.d .bool,[]⟩],rW k⟩
def jN (k:Nat) (a:List aD) (c:aA):Option ((List aC)×Bool):=
 (ma k a c.Kind).bind fun b=>share (fun (d:List aD) (e:Int) (g:Bool)=>cond g (some ([],false)) (aZ (bW e d.length) (some ((nth (default:aD) d e).aV,true)))) fun f=>cond (bK b 0) (f a b true) (aZ (bW b a.length) (f a b (!bH (c.aR.length:Int) ((nth (default:aD) a b).aV.length:Int))))
def mN (k:Nat):CT:=⟨151,[.d (.sl (.st 1)),.d (.st 5)],[],[⟨false,.nP [.d (.sl (.st 0)),.d .bool],[]⟩],jN k⟩
abbrev sN:List Ty:=[.st 5,.sl (.st 0),.int .i64,.int .i64]
def kE (w:Option (Unit ⊕ (eV ⊕ eV))) (l:Nat) (m:aA→List aC→Int→Int→Option (Unit ⊕ (eV ⊕ eV))) (e:aA) (c:List aC) (f:Int) (a:Int):Option (Unit ⊕ (eV ⊕ eV)):=
 cond (bK a f) (aZ (bW a c.length) (share (fun (d:aA) (b:Int) (g:List aC) (h:Int) (i:Int) (n:Bool) (o:aC)=>cond n (some (.inr (.inl (⟨2,b⟩:eV)))) (share (fun (p:aA) (q:Int) (r:List aC) (s:Int) (t:Int) (u:Bool)=>cond u (some (.inr (.inl (⟨3,q⟩:eV)))) (m p r s (aP .i64 t 1))) fun j=>aZ (bW b d.aR.length) (cond (!seq (nth ([]:List UInt8) d.aR b) ([]:List UInt8)) (aZ (bW b d.aR.length) ((fQ l o (nth ([]:List UInt8) d.aR b)).bind fun v=>j d b g h i (!v))) (j d b g h i false)))) fun k=>cond (nth (default:aC) c a).c6 (aZ (bW a e.aR.length) (k e a c f a (seq (nth ([]:List UInt8) e.aR a) ([]:List UInt8)) (nth (default:aC) c a))) (k e a c f a false (nth (default:aC) c a)))) (w)
def o4 (k:Nat) (d:List aD) (a:aA):Option (Unit ⊕ (eV ⊕ eV)):=
 (jN k d a).bind fun b=>share (some (.inl ())) fun c=>iter (ts:=sN) (R:=Unit ⊕ (eV ⊕ eV)) k (kE c) a b.1 (b.1.length:Int) (0:Int)
def yB (k:Nat):CT:=⟨202,[.d (.sl (.st 1)),.d (.st 5)],[],[⟨false,.QH,[]⟩,⟨false,.pK 263 (.fp (.st 13) 0),[]⟩,⟨false,.pK 263 (.fp (.st 13) 0),[]⟩],o4 k⟩
def PH (_k:Nat) (a:eV):Option (Bool×eV):=some (true,a)
def K7 (k:Nat):CT:=⟨221,[.pK 263 (.fp (.st 13) 0),.pK 267 (.bp 0 0)],[.box [.any]],[⟨false,.d .bool,[.box [.fp (.st 13) 0]]⟩],PH k⟩
def AS (k:Nat) (b:eV):Option (Int×Int):=
 (PH k b).bind fun a=>cond a.1 (some (a.2.code,a.2.place)) (some (0,0))
def K8 (k:Nat):CT:=⟨203,[.pK 263 (.fp (.st 13) 0)],[],[⟨false,.nP [.d (.int .i64),.d (.int .i64)],[]⟩],AS k⟩
def sO (k:Nat) (c:List aD) (b:aA):Option (eV ⊕ Unit):=
 (jN k c b).bind fun i=>share (fun (d:Bool)=>cond d (some (.inl (⟨1,0⟩:eV))) (some (.inr ()))) fun a=>cond (!i.2) (a true) ((gx k c).bind fun e=>cond (!e) (a true) ((cY k b.Name).bind fun f=>cond (!f) (a true) ((cY k b.aX).bind fun g=>cond (!g) (a true) (cond (bK 3 (b.b7.length:Int)) (a true) ((fg k b.b7).bind fun h=>cond (!h) (a true) (cond (bK b.Version 0) (a true) (a (bK 1000000 b.Version))))))))
def AT (k:Nat):CT:=⟨201,[.d (.sl (.st 1)),.d (.st 5)],[],[⟨false,.pK 263 (.fp (.st 13) 0),[]⟩,⟨false,.QH,[]⟩],sO k⟩
abbrev DY:List Ty:=[.sl (.st 1),.st 5,.int .i64,.int .i64]
def zR (j:Option (Int×Int)) (a:Nat) (k:List aD→aA→Int→Int→Option (Int×Int)) (c:List aD) (d:aA) (e:Int) (b:Int):Option (Int×Int):=
 cond (bK b e) (share (fun (l:List aD) (m:aA) (n:Int) (o:Int)=>k l m n (aP .i64 o 1)) fun f=>cond (bH b 0) ((sO a c d).bind fun p=>yr p (fun q=>(AS a q).bind fun g=>some (g.1,g.2)) (fun v=>f c d e b)) (cond (bH b 1) ((o4 a c d).bind fun r=>yr r (fun w=>f c d e b) (fun s=>yr s (fun t=>(AS a t).bind fun h=>some (h.1,h.2)) (fun u=>(AS a u).bind fun i=>some (i.1,i.2)))) (none))) (j)
def sP (k:Nat) (b:List aD) (c:aA):Option (Int×Int):=
 share (some (0,0)) fun a=>iter (ts:=DY) (R:=Int×Int) k (zR a) b c (2:Int) (0:Int)
def AU (k:Nat):CT:=⟨169,[.d (.sl (.st 1)),.d (.st 5)],[],[⟨false,.nP [.d (.int .i64),.d (.int .i64)],[]⟩],sP k⟩
def oe (_k:Nat) (a:List (List UInt8)):Option (List (List UInt8)):=
 cond (bH (a.length:Int) 0) (some []) (aZ (GV (a.length:Int) (a.length:Int) 16) (aZ (leq a.length (List.replicate (Int.toNat (a.length:Int)) ([]:List UInt8)).length) (some a)))
def AW (k:Nat):CT:=⟨174,[.d (.sl .str)],[],[⟨false,.d (.sl .str),[]⟩],oe k⟩
def jC (k:Nat) (a:aA):Option aA:=
 (oe k a.aR).bind fun b=>(oe k a.b7).bind fun c=>some (⟨a.Kind,a.Name,a.aX,b,a.Ending,c,a.Version⟩:aA)
def sQ (k:Nat):CT:=⟨112,[.d (.st 5)],[],[⟨false,.d (.st 5),[]⟩],jC k⟩
def lx (_k:Nat) (a:List (List UInt8)):Option (List (List UInt8)):=
 cond (bH (a.length:Int) 0) (some []) (aZ (GV (a.length:Int) (a.length:Int) 16) (aZ (leq a.length (List.replicate (Int.toNat (a.length:Int)) ([]:List UInt8)).length) (some a)))
def yC (k:Nat):CT:=⟨174,[.d (.sl .str)],[],[⟨false,.ow 0,[.row .str .vs]⟩],lx k⟩
def dK (k:Nat) (a:aA):Option ((List UInt8)×(List UInt8)×(List UInt8)×Bool×Int×(List (List UInt8))×(List (List UInt8))):=
 (lx k a.aR).bind fun b=>(lx k a.b7).bind fun c=>some (a.Kind,a.Name,a.aX,a.Ending,a.Version,b,c)
def fR (k:Nat):CT:=⟨112,[.d (.st 5)],[],[⟨false,.agg [.d .str,.d .str,.d .str,.ow 0,.d .bool,.ow 1,.d (.int .i64)],[.row .str .vs,.row .str .vs]⟩],dK k⟩
def mO (k:Nat) (a:List aD) (l:List UInt8) (m:List UInt8) (n:List UInt8) (o:Bool) (p:Int) (f:List (List UInt8)) (g:List (List UInt8)):Option ((List aC)×Bool×(List (List UInt8))×(List (List UInt8))):=
 (ma k a l).bind fun b=>share (fun (h:List aD) (i:Int) (j:Bool) (c:List (List UInt8)) (d:List (List UInt8))=>cond j (some ([],false,c,d)) (aZ (bW i h.length) (some ((nth (default:aD) h i).aV,true,c,d)))) fun e=>cond (bK b 0) (e a b true f g) (aZ (bW b a.length) (e a b (!bH (f.length:Int) ((nth (default:aD) a b).aV.length:Int)) f g))
def sR (k:Nat):CT:=⟨151,[.d (.sl (.st 1)),.agg [.d .str,.d .str,.d .str,.ow 0,.d .bool,.ow 1,.d (.int .i64)]],[.row .str .vs,.row .str .vs],[⟨false,.nP [.d (.sl (.st 0)),.d .bool],[.row .str .vs,.row .str .vs]⟩],mO k⟩
abbrev xc:List Ty:=[.sl (.st 0),.int .i64,.int .i64,.str,.str,.str,.bool,.int .i64,.st 5,.sl .str,.sl .str]
def o5 (y:List UInt8→List UInt8→List UInt8→Bool→Int→aA→List (List UInt8)→List (List UInt8)→Option aA) (z:Nat) (m:List aC→Int→Int→List UInt8→List UInt8→List UInt8→Bool→Int→aA→List (List UInt8)→List (List UInt8)→Option aA) (c:List aC) (d:Int) (a:Int) (e:List UInt8) (f:List UInt8) (g:List UInt8) (h:Bool) (i:Int) (j:aA) (b:List (List UInt8)) (k:List (List UInt8)):Option aA:=
 cond (bK a d) (share (fun (n:List aC) (o:Int) (p:Int) (q:List UInt8) (r:List UInt8) (s:List UInt8) (t:Bool) (u:Int) (v:aA) (w:List (List UInt8)) (x:List (List UInt8))=>m n o (aP .i64 p 1) q r s t u v w x) fun l=>aZ (bW a c.length) (aZ (bW a b.length) (cond (seq (nth ([]:List UInt8) b a) ([]:List UInt8)) (aZ (bW a b.length) (l c d a e f g h i j (oJ b a (nth (default:aC) c a).Default) k)) (l c d a e f g h i j b k)))) (y e f g h i j b k)
def ve (k:Nat) (n:List aD) (y:aA):Option aA:=
 (dK k y).bind fun a=>(mO k n a.1 a.2.1 a.2.2.1 a.2.2.2.1 a.2.2.2.2.1 a.2.2.2.2.2.1 a.2.2.2.2.2.2).bind fun b=>aZ (leq b.2.2.1.length a.2.2.2.2.2.1.length) (aZ (leq b.2.2.2.length a.2.2.2.2.2.2.length) (share (fun (c:List aC) (o:Bool) (d:List UInt8) (e:List UInt8) (f:List UInt8) (g:Bool) (h:Int) (p:aA) (i:List (List UInt8)) (j:List (List UInt8))=>cond o (some (⟨d,e,f,i,g,j,h⟩:aA)) (share (fun (q:List UInt8) (r:List UInt8) (s:List UInt8) (t:Bool) (u:Int) (z:aA) (v:List (List UInt8)) (w:List (List UInt8))=>some (⟨q,r,s,v,t,w,u⟩:aA)) fun x=>iter (ts:=xc) (R:=aA) k (o5 x) c (c.length:Int) (0:Int) d e f g h p i j)) fun l=>cond (!b.2.1) (l b.1 true a.1 a.2.1 a.2.2.1 a.2.2.2.1 a.2.2.2.2.1 (⟨([]:List UInt8),([]:List UInt8),([]:List UInt8),[],false,[],0⟩:aA) b.2.2.1 b.2.2.2) ((gx k n).bind fun m=>l b.1 (!m) a.1 a.2.1 a.2.2.1 a.2.2.2.1 a.2.2.2.2.1 (⟨([]:List UInt8),([]:List UInt8),([]:List UInt8),[],false,[],0⟩:aA) b.2.2.1 b.2.2.2)))
def C6 (k:Nat):CT:=⟨205,[.d (.sl (.st 1)),.d (.st 5)],[],[⟨false,.d (.st 5),[]⟩],ve k⟩
def dU (k:Nat) (d:List UInt8) (e:List UInt8) (f:List UInt8) (g:List UInt8) (h:Bool) (i:Int) (b:List aC) (a:List (List UInt8)) (j:List (List UInt8)):Option ((List UInt8)×(List UInt8)×(List UInt8)×(List UInt8)×Bool×Int×(List aC)×(List (List UInt8))×(List (List UInt8))):=
 (jy k b d).bind fun c=>aZ (bW c a.length) (some ((nth ([]:List UInt8) a c),e,f,g,h,i,b,a,j))
def tW (k:Nat):CT:=⟨222,[.d .str,.bp 0 0,.bp 1 0],[.box [.d .str,.d .str,.d .str,.ow 2,.d .bool,.ow 3,.d (.int .i64)],.box [.d (.sl (.st 0))],.row .str .vs,.row .str .vs],[⟨false,.d .str,[.box [.d .str,.d .str,.d .str,.ow 2,.d .bool,.ow 3,.d (.int .i64)],.box [.d (.sl (.st 0))],.row .str .vs,.row .str .vs]⟩],dU k⟩
abbrev g9:List Ty:=[.sl (.st 2),.str,.sl .str,.int .i64,.int .i64,.sl (.st 2),.int .i64,.int .i64,.str,.str,.str,.bool,.int .i64,.st 5,.sl (.st 0),.sl .str,.sl .str]
def fh (B:List aH→List (List UInt8)→Int→Int→List UInt8→List UInt8→List UInt8→Bool→Int→aA→List aC→List (List UInt8)→List (List UInt8)→Option aA) (v:Nat) (S:List aH→List UInt8→List (List UInt8)→Int→Int→List aH→Int→Int→List UInt8→List UInt8→List UInt8→Bool→Int→aA→List aC→List (List UInt8)→List (List UInt8)→Option aA) (g:List aH) (h:List UInt8) (i:List (List UInt8)) (j:Int) (k:Int) (c:List aH) (p:Int) (b:Int) (o:List UInt8) (q:List UInt8) (r:List UInt8) (s:Bool) (t:Int) (l:aA) (u:List aC) (m:List (List UInt8)) (n:List (List UInt8)):Option aA:=
 cond (bK b p) (share (fun (T:List aH) (U:List UInt8) (V:List (List UInt8)) (W:Int) (X:Int) (Y:List aH) (Z:Int) (aa:Int) (ab:List UInt8) (ad:List UInt8) (ae:List UInt8) (af:Bool) (ag:Int) (ah:aA) (ai:List aC) (aj:List (List UInt8)) (ak:List (List UInt8))=>S T U V W X Y Z (aP .i64 aa 1) ab ad ae af ag ah ai aj ak) fun w=>aZ (bW b c.length) (cond (!seq (nth (default:aH) c b).Kind o) (w g h i j k c p b o q r s t l u m n) (cond (!seq (nth (default:aH) c b).Field h) (w g h i j k c p b o q r s t l u m n) (share (fun (C:List aH) (D:List UInt8) (E:List (List UInt8)) (F:Int) (G:Int) (H:List UInt8) (I:List UInt8) (J:List UInt8) (K:Bool) (L:Int) (M:aA) (N:List aC) (y:aH) (z:List (List UInt8)) (A:List (List UInt8))=>share (fun (al:List aH) (an:List UInt8) (ao:List UInt8) (aq:List (List UInt8)) (ar:Int) (au:Int) (av:List UInt8) (aw:List UInt8) (ax:List UInt8) (ay:Bool) (az:Int) (a0:aA) (O:List aC) (P:List (List UInt8)) (a1:List (List UInt8))=>(jy v O an).bind fun Q=>aZ (bW Q P.length) (B al aq ar au av aw ax ay az a0 O (oJ P Q ao) a1)) fun R=>cond (!seq y.cS ([]:List UInt8)) ((dU v y.cS H I J K L N z A).bind fun f=>aZ (leq f.2.2.2.2.2.2.2.1.length z.length) (aZ (leq f.2.2.2.2.2.2.2.2.length A.length) (R C D f.1 E F G f.2.1 f.2.2.1 f.2.2.2.1 f.2.2.2.2.1 f.2.2.2.2.2.1 M f.2.2.2.2.2.2.1 f.2.2.2.2.2.2.2.1 f.2.2.2.2.2.2.2.2))) (R C D y.tp E F G H I J K L M N z A)) fun x=>cond (!seq (nth (default:aH) c b).dk ([]:List UInt8)) ((dU v (nth (default:aH) c b).dk o q r s t u m n).bind fun a=>aZ (leq a.2.2.2.2.2.2.2.1.length m.length) (aZ (leq a.2.2.2.2.2.2.2.2.length n.length) (cond (!seq a.1 (nth (default:aH) c b).Is) (w g h i j k c p b a.2.1 a.2.2.1 a.2.2.2.1 a.2.2.2.2.1 a.2.2.2.2.2.1 l a.2.2.2.2.2.2.1 a.2.2.2.2.2.2.2.1 a.2.2.2.2.2.2.2.2) (cond (!seq (nth (default:aH) c b).cS ([]:List UInt8)) ((dU v (nth (default:aH) c b).cS a.2.1 a.2.2.1 a.2.2.2.1 a.2.2.2.2.1 a.2.2.2.2.2.1 a.2.2.2.2.2.2.1 a.2.2.2.2.2.2.2.1 a.2.2.2.2.2.2.2.2).bind fun d=>aZ (leq d.2.2.2.2.2.2.2.1.length a.2.2.2.2.2.2.2.1.length) (aZ (leq d.2.2.2.2.2.2.2.2.length a.2.2.2.2.2.2.2.2.length) (cond (seq d.1 ([]:List UInt8)) (w g h i j k c p b d.2.1 d.2.2.1 d.2.2.2.1 d.2.2.2.2.1 d.2.2.2.2.2.1 l d.2.2.2.2.2.2.1 d.2.2.2.2.2.2.2.1 d.2.2.2.2.2.2.2.2) (x g h i j k d.2.1 d.2.2.1 d.2.2.2.1 d.2.2.2.2.1 d.2.2.2.2.2.1 l d.2.2.2.2.2.2.1 (nth (default:aH) c b) d.2.2.2.2.2.2.2.1 d.2.2.2.2.2.2.2.2)))) (x g h i j k a.2.1 a.2.2.1 a.2.2.2.1 a.2.2.2.2.1 a.2.2.2.2.2.1 l a.2.2.2.2.2.2.1 (nth (default:aH) c b) a.2.2.2.2.2.2.2.1 a.2.2.2.2.2.2.2.2))))) (cond (!seq (nth (default:aH) c b).cS ([]:List UInt8)) ((dU v (nth (default:aH) c b).cS o q r s t u m n).bind fun e=>aZ (leq e.2.2.2.2.2.2.2.1.length m.length) (aZ (leq e.2.2.2.2.2.2.2.2.length n.length) (cond (seq e.1 ([]:List UInt8)) (w g h i j k c p b e.2.1 e.2.2.1 e.2.2.2.1 e.2.2.2.2.1 e.2.2.2.2.2.1 l e.2.2.2.2.2.2.1 e.2.2.2.2.2.2.2.1 e.2.2.2.2.2.2.2.2) (x g h i j k e.2.1 e.2.2.1 e.2.2.2.1 e.2.2.2.2.1 e.2.2.2.2.2.1 l e.2.2.2.2.2.2.1 (nth (default:aH) c b) e.2.2.2.2.2.2.2.1 e.2.2.2.2.2.2.2.2)))) (x g h i j k o q r s t l u (nth (default:aH) c b) m n)))))) (B g i j k o q r s t l u m n)
abbrev tX:List Ty:=[.sl (.st 2),.sl .str,.int .i64,.int .i64,.str,.str,.str,.bool,.int .i64,.st 5,.sl (.st 0),.sl .str,.sl .str]
def me (D:List UInt8→List UInt8→List UInt8→Bool→Int→aA→List (List UInt8)→List (List UInt8)→Option aA) (m:Nat) (n:List aH→List (List UInt8)→Int→Int→List UInt8→List UInt8→List UInt8→Bool→Int→aA→List aC→List (List UInt8)→List (List UInt8)→Option aA) (b:List aH) (c:List (List UInt8)) (d:Int) (a:Int) (e:List UInt8) (f:List UInt8) (g:List UInt8) (h:Bool) (i:Int) (j:aA) (o:List aC) (k:List (List UInt8)) (l:List (List UInt8)):Option aA:=
 cond (bK a d) (share (fun (p:List aH) (q:List (List UInt8)) (r:Int) (s:Int) (t:List UInt8) (u:List UInt8) (v:List UInt8) (w:Bool) (x:Int) (y:aA) (z:List aC) (A:List (List UInt8)) (B:List (List UInt8))=>n p q r (aP .i64 s 1) t u v w x y z A B) fun C=>aZ (bW a c.length) (iter (ts:=g9) (R:=aA) m (fh C) b (nth ([]:List UInt8) c a) c d a b (b.length:Int) (0:Int) e f g h i j o k l)) (D e f g h i j k l)
def qD (k:Nat) (e:List aD) (r:List aH) (D:aA):Option aA:=
 (dK k D).bind fun a=>(mO k e a.1 a.2.1 a.2.2.1 a.2.2.2.1 a.2.2.2.2.1 a.2.2.2.2.2.1 a.2.2.2.2.2.2).bind fun b=>aZ (leq b.2.2.1.length a.2.2.2.2.2.1.length) (aZ (leq b.2.2.2.length a.2.2.2.2.2.2.length) (share (fun (c:List aD) (g:List aH) (A:Bool) (d:List UInt8) (h:List UInt8) (i:List UInt8) (j:Bool) (l:Int) (B:aA) (C:List aC) (m:List (List UInt8)) (n:List (List UInt8))=>cond A (some (⟨d,h,i,m,j,n,l⟩:aA)) ((ma k c d).bind fun o=>aZ (bW o c.length) ((uj k (nth (default:aD) c o) g).bind fun p=>share (fun (s:List UInt8) (t:List UInt8) (u:List UInt8) (v:Bool) (w:Int) (E:aA) (x:List (List UInt8)) (y:List (List UInt8))=>some (⟨s,t,u,x,v,y,w⟩:aA)) fun z=>iter (ts:=tX) (R:=aA) k (me z) g p.1 (p.1.length:Int) (0:Int) d h i j l B C m n))) fun q=>cond (!b.2.1) (q e r true a.1 a.2.1 a.2.2.1 a.2.2.2.1 a.2.2.2.2.1 (⟨([]:List UInt8),([]:List UInt8),([]:List UInt8),[],false,[],0⟩:aA) b.1 b.2.2.1 b.2.2.2) ((ij k e r).bind fun f=>q e r (!f) a.1 a.2.1 a.2.2.1 a.2.2.2.1 a.2.2.2.2.1 (⟨([]:List UInt8),([]:List UInt8),([]:List UInt8),[],false,[],0⟩:aA) b.1 b.2.2.1 b.2.2.2)))
def zS (k:Nat):CT:=⟨204,[.d (.sl (.st 1)),.d (.sl (.st 2)),.d (.st 5)],[],[⟨false,.d (.st 5),[]⟩],qD k⟩
def qE (k:Nat) (a:List aD) (b:List aH) (c:aA):Option aA:=
 (ij k a b).bind fun d=>cond (!d) ((jC k c).bind fun e=>some e) ((ve k a c).bind fun f=>(qD k a b f).bind fun g=>some g)
def zT (k:Nat):CT:=⟨171,[.d (.sl (.st 1)),.d (.sl (.st 2)),.d (.st 5)],[],[⟨false,.d (.st 5),[]⟩],qE k⟩
abbrev tY:List Ty:=[.sl .str,.sl .str,.int .i64,.int .i64]
def mf (f:Option Bool) (g:Nat) (e:List (List UInt8)→List (List UInt8)→Int→Int→Option Bool) (b:List (List UInt8)) (c:List (List UInt8)) (d:Int) (a:Int):Option Bool:=
 cond (bK a d) (aZ (bW a b.length) (aZ (bW a c.length) (cond (!seq (nth ([]:List UInt8) b a) (nth ([]:List UInt8) c a)) (some false) (e b c d (aP .i64 a 1))))) (f)
def qF (k:Nat) (a:List (List UInt8)) (b:List (List UInt8)):Option Bool:=
 cond (!bH (a.length:Int) (b.length:Int)) (some false) (share (some true) fun c=>iter (ts:=tY) (R:=Bool) k (mf c) a b (a.length:Int) (0:Int))
def zU (k:Nat):CT:=⟨170,[.d (.sl .str),.d (.sl .str)],[],[⟨false,.d .bool,[]⟩],qF k⟩
def yD (_k:Nat) (a:aL) (b:aA):Option (aL×aA):=
 some (a,b)
def Ih (k:Nat):CT:=⟨85,[.d (.st 4),.d (.st 5)],[],[⟨false,.fn (.func 150) [] [.fp (.st 4) 0,.fp (.st 5) 0],[]⟩],yD k⟩
abbrev vT:List Ty:=[.st 5,.sl (.st 0),.int .i64,.int .i64]
def nI (f:Nat) (e:aA→List aC→Int→Int→Option (List (Int×(aC×Unit)))) (c:aA) (b:List aC) (d:Int) (a:Int):Option (List (Int×(aC×Unit))):=
 cond (bK a d) (aZ (bW a b.length) (cond (bH (nth (default:aC) b a).Kind 4) (aZ (bW a c.aR.length) (cond (!seq (nth ([]:List UInt8) c.aR a) ([]:List UInt8)) (QI (a,(nth (default:aC) b a),()) (e c b d (aP .i64 a 1)) (some [])) (e c b d (aP .i64 a 1)))) (e c b d (aP .i64 a 1)))) (some [])
def ly (k:Nat) (c:aL) (b:aA):Option (List (Int×(aC×Unit))):=
 (jN k c.cg b).bind fun a=>cond (!a.2) (some []) (iter (ts:=vT) (R:=List (Int×(aC×Unit))) k (nI) b a.1 (a.1.length:Int) (0:Int))
def zV (k:Nat):IT:=⟨150,[.fp (.st 4) 0,.fp (.st 5) 0],[.int .i64,.st 0],ly k⟩
abbrev p6:List Ty:=[.str,.str,.sl (.st 5),.int .i64,.int .i64]
def iJ (g:Option Int) (p:Nat) (h:List UInt8→List UInt8→List aA→Int→Int→Option Int) (c:List UInt8) (d:List UInt8) (b:List aA) (e:Int) (a:Int):Option Int:=
 cond (bK a e) (aZ (bW a b.length) (share (fun (i:List UInt8) (j:List UInt8) (k:Int) (l:List aA) (m:Int) (n:Int) (o:Bool)=>cond o (some k) (h i j l m (aP .i64 n 1))) fun f=>cond (seq (nth (default:aA) b a).Kind c) (f c d a b e a (seq (nth (default:aA) b a).Name d)) (f c d a b e a false))) (g)
def mg (k:Nat) (a:aG) (c:List UInt8) (d:List UInt8):Option Int:=
 share (some (-1)) fun b=>iter (ts:=p6) (R:=Int) k (iJ b) c d a.aO (a.aO.length:Int) (0:Int)
def vU (k:Nat):CT:=⟨172,[.d (.st 10),.d .str,.d .str],[],[⟨false,.d (.int .i64),[]⟩],mg k⟩
abbrev dg:List Ty:=[.st 10,.st 4,.sl (.st 5),.int .i64,.int .i64,.bool,.st 5]
def cT (c:Nat) (adv:Int×(aC×Unit)) (d:aG→aL→List aA→Int→Int→Bool→aA→Option Bool) (b:aG) (e:aL) (f:List aA) (g:Int) (h:Int) (i:Bool) (a:aA):Option Bool:=
 aZ (bW adv.1 a.aR.length) ((mg c b adv.2.1.To (nth ([]:List UInt8) a.aR adv.1)).bind fun j=>cond (bK j 0) (some false) (d b e f g h i a))
abbrev cZ:List Ty:=[.st 10,.st 4,.sl (.st 5),.int .i64,.int .i64,.bool]
def cI (v:Bool→Option Bool) (f:Nat) (w:aG→aL→List aA→Int→Int→Bool→Option Bool) (d:aG) (j:aL) (b:List aA) (g:Int) (a:Int) (h:Bool):Option Bool:=
 cond (bK a g) (aZ (bW a b.length) (share (fun (i:aG) (e:aL) (k:List aA) (l:Int) (m:Int) (n:Bool) (c:aA)=>(sP f e.cg c).bind fun x=>cond (!bH x.1 0) (some false) (share (fun (y:aG) (q:aL) (z:List aA) (A:Int) (B:Int) (C:Bool) (D:Bool) (r:aA)=>cond C (some false) ((yD f q r).bind fun s=>(ly f s.1 s.2).bind fun t=>Ii (ts:=dg) (R:=Bool) (cT f) (fun (E:aG) (F:aL) (G:List aA) (H:Int) (I:Int) (J:Bool) (t:aA)=>w E F G H (aP .i64 I 1) J) t y q z A B D r)) fun o=>(hP f e.dY c.aX).bind fun K=>cond (bK K 0) (o i e k l m true n c) (cond (bK c.Version 1) (o i e k l m true n c) (cond (bK i.vo c.Version) (o i e k l m true n c) ((qE f e.cg e.iO c).bind fun L=>(qF f L.aR c.aR).bind fun M=>o i e k l m (!M) n c))))) fun u=>cond (bK 0 a) (aZ (bW (bO .i64 a 1) d.aO.length) (share (fun (N:aG) (O:aL) (P:List aA) (Q:Int) (S:Int) (T:Bool) (U:Bool) (V:aA)=>cond T (some false) (u N O P Q S U V)) fun p=>cond (!(slt (nth (default:aA) d.aO (bO .i64 a 1)).Kind (nth (default:aA) b a).Kind||seq (nth (default:aA) d.aO (bO .i64 a 1)).Kind (nth (default:aA) b a).Kind)) (p d j b g a true h (nth (default:aA) b a)) (cond (seq (nth (default:aA) d.aO (bO .i64 a 1)).Kind (nth (default:aA) b a).Kind) (p d j b g a (!slt (nth (default:aA) d.aO (bO .i64 a 1)).Name (nth (default:aA) b a).Name) h (nth (default:aA) b a)) (p d j b g a false h (nth (default:aA) b a))))) (u d j b g a h (nth (default:aA) b a)))) (v h)
def gj (k:Nat) (a:aG) (c:aL):Option Bool:=
 cond (bK 40 (a.aO.length:Int)) (some false) (share (fun (d:Bool)=>some true) fun b=>iter (ts:=cZ) (R:=Bool) k (cI b) a c a.aO (a.aO.length:Int) (0:Int) false)
def py (k:Nat):CT:=⟨108,[.d (.st 10),.d (.st 4)],[],[⟨false,.d .bool,[]⟩],gj k⟩
abbrev mh:List Ty:=[.st 6,.sl (.int .i64),.int .i64,.int .i64]
def gM (f:Option Bool) (m:Nat) (g:bG→List Int→Int→Int→Option Bool) (c:bG) (b:List Int) (d:Int) (a:Int):Option Bool:=
 cond (bK a d) (aZ (bW a b.length) (share (fun (h:bG) (i:List Int) (j:Int) (k:Int) (l:Bool)=>cond l (some false) (g h i j (aP .i64 k 1))) fun e=>cond (bK (nth 0 b a) 1) (e c b d a true) (cond (bK 5 (nth 0 b a)) (e c b d a true) (cond (bK 0 a) (aZ (bW (bO .i64 a 1) c.b_.length) (e c b d a (b8 (nth 0 b a) (nth 0 c.b_ (bO .i64 a 1))))) (e c b d a false))))) (f)
def fC (k:Nat) (a:bG):Option Bool:=
 share (fun (c:bG) (d:Bool)=>cond d (some false) (share (some true) fun e=>iter (ts:=mh) (R:=Bool) k (gM e) c c.b_ (c.b_.length:Int) (0:Int))) fun b=>cond (bH (a.b_.length:Int) 0) (b a true) (cond (!seq a.Kind ([]:List UInt8)) ((cY k a.Kind).bind fun f=>cond (!f) (b a true) (cond (!seq a.aX ([]:List UInt8)) ((cY k a.aX).bind fun g=>cond (!g) (b a true) (cond (bK 16 (a.cU.length:Int)) (b a true) ((fZ k a.cU).bind fun h=>b a (!h)))) (cond (bK 16 (a.cU.length:Int)) (b a true) ((fZ k a.cU).bind fun i=>b a (!i))))) (cond (!seq a.aX ([]:List UInt8)) ((cY k a.aX).bind fun j=>cond (!j) (b a true) (cond (bK 16 (a.cU.length:Int)) (b a true) ((fZ k a.cU).bind fun l=>b a (!l)))) (cond (bK 16 (a.cU.length:Int)) (b a true) ((fZ k a.cU).bind fun m=>b a (!m)))))
def yE (k:Nat):CT:=⟨173,[.d (.st 6)],[],[⟨false,.d .bool,[]⟩],fC k⟩
abbrev mP:List Ty:=[.st 10,.sl (.st 7),.int .i64,.int .i64]
def fx (u:Option Bool) (f:Nat) (g:aG→List aF→Int→Int→Option Bool) (c:aG) (b:List aF) (d:Int) (a:Int):Option Bool:=
 cond (bK a d) (aZ (bW a b.length) (share (fun (h:aG) (i:List aF) (j:Int) (k:Int) (l:Bool)=>cond l (some false) (g h i j (aP .i64 k 1))) fun e=>cond (bK (nth (default:aF) b a).Number 1) (e c b d a true) (cond (bK c.dP (nth (default:aF) b a).Number) (e c b d a true) (cond (bK 0 a) (aZ (bW (bO .i64 a 1) c.bI.length) (cond (b8 (nth (default:aF) b a).Number (nth (default:aF) c.bI (bO .i64 a 1)).Number) (e c b d a true) ((cY f (nth (default:aF) b a).To).bind fun m=>cond (!m) (e c b d a true) (cond (!seq (nth (default:aF) b a).By ([]:List UInt8)) ((cY f (nth (default:aF) b a).By).bind fun n=>cond (!n) (e c b d a true) ((fC f (nth (default:aF) b a).cJ).bind fun o=>e c b d a (!o))) ((fC f (nth (default:aF) b a).cJ).bind fun p=>e c b d a (!p)))))) ((cY f (nth (default:aF) b a).To).bind fun q=>cond (!q) (e c b d a true) (cond (!seq (nth (default:aF) b a).By ([]:List UInt8)) ((cY f (nth (default:aF) b a).By).bind fun r=>cond (!r) (e c b d a true) ((fC f (nth (default:aF) b a).cJ).bind fun s=>e c b d a (!s))) ((fC f (nth (default:aF) b a).cJ).bind fun t=>e c b d a (!t)))))))) (u)
def gR (k:Nat) (a:aG):Option Bool:=
 cond (bK 24 (a.bI.length:Int)) (some false) (share (some true) fun b=>iter (ts:=mP) (R:=Bool) k (fx b) a a.bI (a.bI.length:Int) (0:Int))
def p7 (k:Nat):CT:=⟨109,[.d (.st 10)],[],[⟨false,.d .bool,[]⟩],gR k⟩
abbrev vV:List Ty:=[.sl (.st 3),.str,.str,.int .i64]
def nJ (l:Option Bool) (m:Nat) (n:List aJ→List UInt8→List UInt8→Int→Option Bool) (b:List aJ) (h:List UInt8) (e:List UInt8) (f:Int):Option Bool:=
 cond (!seq h e) ((hP m b h).bind fun a=>share (fun (c:List aJ) (i:List UInt8) (j:Int) (g:Int) (k:Bool)=>cond k (some false) (aZ (bW g c.length) (n c (nth (default:aJ) c g).ia i (aP .i64 j 1)))) fun d=>cond (bH f 4) (d b e f a true) (cond (bK a 0) (d b e f a true) (aZ (bW a b.length) (d b e f a (seq (nth (default:aJ) b a).ia ([]:List UInt8)))))) (l)
def yF (k:Nat) (b:List aJ) (c:List UInt8) (d:List UInt8):Option Bool:=
 share (some true) fun a=>iter (ts:=vV) (R:=Bool) k (nJ a) b c d (0:Int)
def AX (k:Nat):CT:=⟨138,[.d (.sl (.st 3)),.d .str,.d .str],[],[⟨false,.d .bool,[]⟩],yF k⟩
abbrev tZ:List Ty:=[.str,.st 5,.int .i64,.sl (.st 0),.int .i64,.int .i64]
def mi (h:Int→Option Int) (i:Nat) (j:List UInt8→aA→Int→List aC→Int→Int→Option Int) (d:List UInt8) (c:aA) (e:Int) (b:List aC) (f:Int) (a:Int):Option Int:=
 cond (bK a f) (share (fun (k:List UInt8) (l:aA) (m:Int) (n:List aC) (o:Int) (p:Int)=>j k l m n o (aP .i64 p 1)) fun g=>aZ (bW a b.length) (cond (!bH (nth (default:aC) b a).Kind 1) (g d c e b f a) (cond (!seq (nth (default:aC) b a).bE d) (g d c e b f a) (aZ (bW a c.aR.length) ((sE i (nth ([]:List UInt8) c.aR a)).bind fun q=>g d c (aP .i64 e q.1) b f a))))) (h e)
def qG (k:Nat) (q:aL) (d:aA) (e:List UInt8):Option Int:=
 (jN k q.cg d).bind fun f=>share (fun (g:List UInt8) (h:aA) (i:List aC) (j:Bool)=>cond j (some 0) (share (fun (l:List UInt8) (m:aA) (a:List aC) (n:Int)=>share (fun (o:Int)=>some o) fun p=>iter (ts:=tZ) (R:=Int) k (mi p) l m n a (a.length:Int) (0:Int)) fun b=>cond (seq g h.Kind) (b g h i 1) (b g h i 0))) fun c=>cond (!f.2) (c e d f.1 true) (c e d f.1 (seq e ([]:List UInt8)))
def zW (k:Nat):CT:=⟨139,[.d (.st 4),.d (.st 5),.d .str],[],[⟨false,.d (.int .i64),[]⟩],qG k⟩
abbrev xd:List Ty:=[.str,.str,.st 4,.int .i64,.sl (.st 5),.int .i64,.int .i64]
def o6 (j:Int→Option Int) (h:Nat) (k:List UInt8→List UInt8→aL→Int→List aA→Int→Int→Option Int) (d:List UInt8) (e:List UInt8) (c:aL) (f:Int) (b:List aA) (g:Int) (a:Int):Option Int:=
 cond (bK a g) (share (fun (l:List UInt8) (m:List UInt8) (n:aL) (o:Int) (p:List aA) (q:Int) (r:Int)=>k l m n o p q (aP .i64 r 1)) fun i=>aZ (bW a b.length) ((yF h c.dY (nth (default:aA) b a).aX d).bind fun s=>cond s ((qG h c (nth (default:aA) b a) e).bind fun t=>i d e c (aP .i64 f t) b g a) (i d e c f b g a))) (j f)
def pL (k:Nat) (d:aL) (a:aG) (e:List UInt8) (f:List UInt8):Option Int:=
 share (fun (b:Int)=>some b) fun c=>iter (ts:=xd) (R:=Int) k (o6 c) e f d (0:Int) a.aO (a.aO.length:Int) (0:Int)
def wm (k:Nat):CT:=⟨76,[.d (.st 4),.d (.st 10),.d .str,.d .str],[],[⟨false,.d (.int .i64),[]⟩],pL k⟩
def oF (_k:Nat) (a:aE) (b:aE):Option Bool:=
 cond (!seq a.fM b.fM) (some (slt a.fM b.fM)) (cond (!seq a.aX b.aX) (some (slt a.aX b.aX)) (some (slt a.aN b.aN)))
def yG (k:Nat):CT:=⟨141,[.d (.st 9),.d (.st 9)],[],[⟨false,.d .bool,[]⟩],oF k⟩
abbrev og:List Ty:=[.str,.str,.sl (.st 8),.int .i64,.int .i64]
def gy (g:Option Int) (p:Nat) (h:List UInt8→List UInt8→List aB→Int→Int→Option Int) (c:List UInt8) (d:List UInt8) (b:List aB) (e:Int) (a:Int):Option Int:=
 cond (bK a e) (aZ (bW a b.length) (share (fun (i:List UInt8) (j:List UInt8) (k:Int) (l:List aB) (m:Int) (n:Int) (o:Bool)=>cond o (some k) (h i j l m (aP .i64 n 1))) fun f=>cond (seq (nth (default:aB) b a).aX c) (f c d a b e a (seq (nth (default:aB) b a).aN d)) (f c d a b e a false))) (g)
def eC (k:Nat) (a:aG) (c:List UInt8) (d:List UInt8):Option Int:=
 share (some (-1)) fun b=>iter (ts:=og) (R:=Int) k (gy b) c d a.aK (a.aK.length:Int) (0:Int)
def g_ (k:Nat):CT:=⟨75,[.d (.st 10),.d .str,.d .str],[],[⟨false,.d (.int .i64),[]⟩],eC k⟩
end Go.Proofs.YtjkbbdldmdajkaaGreatDoor.Fn
