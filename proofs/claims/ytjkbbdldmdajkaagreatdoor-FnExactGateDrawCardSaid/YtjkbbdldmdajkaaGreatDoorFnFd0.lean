/- The functions, as printed from their code; their contracts. No condition. -/
import Derived.Test.YtjkbbdldmdajkaaGreatDoorWC
import Derived.Test.YtjkbbdldmdajkaaGreatDoorProg
set_option linter.unusedSimpArgs false
set_option linter.unusedVariables false
namespace Go.Proofs.YtjkbbdldmdajkaaGreatDoor.Fn
open Go Go.RowKit Go.Proofs.YtjkbbdldmdajkaaGreatDoor.c5
def cH:List (Nat×Ty):=[(2,.int .i64),(3,.int .i64),(4,.bool),(5,.int .u8),(6,.int .u8),(9,.str),(10,.str),(11,.str),(12,.int .u64),(21,.int .i32),(22,.sl (.st 1)),(23,.sl (.st 2)),(24,.sl (.st 3)),(25,.st 4),(26,.st 4),(27,.sl (.st 5)),(28,.sl (.st 7)),(29,.sl (.st 8)),(30,.sl (.st 9)),(31,.st 10),(32,.st 10),(35,.sl (.st 5)),(36,.sl (.st 7)),(37,.sl (.st 8)),(38,.sl (.st 9)),(39,.st 10),(40,.st 10),(43,.sl (.st 1)),(44,.sl (.st 2)),(45,.sl (.st 3)),(46,.st 4),(47,.st 4),(70,.st 9),(71,.st 9),(102,.st 8),(103,.st 8),(110,.sl (.int .i64)),(112,.sl .str),(113,.st 5),(114,.st 5),(118,.st 11),(119,.st 11),(126,.st 0),(127,.st 0),(129,.sl (.st 0)),(130,.st 1),(131,.st 1),(133,.st 2),(134,.st 2),(136,.st 3),(137,.st 3),(139,.st 5),(141,.st 6),(142,.st 6),(143,.st 7),(144,.st 7),(146,.st 8),(148,.st 9),(152,.st 6),(153,.st 7),(154,.st 7),(157,.sl (.st 0)),(158,.st 1),(159,.st 1),(161,.st 2),(163,.st 3),(195,.sl .bool),(221,.st 12),(222,.st 12),(226,.sl (.int .u8)),(235,.st 0),(264,.st 13),(265,.st 13),(276,.int .u64),(283,.int .u8),(287,.st 14),(288,.st 14),(290,.st 14),(291,.st 14),(292,.st 14),(317,.int .u32),(318,.int .u8),(321,.int .i32),(322,.int .i32),(331,.int .u16),(335,.int .i32)]
theorem bF:Tryz.prog.follows .mixedOrders=true:=by kernel_rfl
theorem L5:gF Tryz.prog 288 "loop.example/wharfgate/impl.clean" 258:=fun v w=>by kernel_rfl
theorem Oq:gF Tryz.prog 288 "loop.example/wharfgate/impl.fits" 259:=fun v w=>by kernel_rfl
theorem L6:gF Tryz.prog 288 "loop.example/wharfgate/impl.sound" 260:=fun v w=>by kernel_rfl
theorem L7:gF Tryz.prog 290 "loop.example/wharfgate/impl.clean" 261:=fun v w=>by kernel_rfl
theorem Ot:gF Tryz.prog 290 "loop.example/wharfgate/impl.fits" 262:=fun v w=>by kernel_rfl
theorem L8:gF Tryz.prog 290 "loop.example/wharfgate/impl.sound" 263:=fun v w=>by kernel_rfl
theorem L9:gF Tryz.prog 291 "loop.example/wharfgate/impl.clean" 264:=fun v w=>by kernel_rfl
theorem Ou:gF Tryz.prog 291 "loop.example/wharfgate/impl.fits" 265:=fun v w=>by kernel_rfl
theorem L_:gF Tryz.prog 291 "loop.example/wharfgate/impl.sound" 266:=fun v w=>by kernel_rfl
theorem Ma:gF Tryz.prog 292 "loop.example/wharfgate/impl.clean" 267:=fun v w=>by kernel_rfl
theorem Ov:gF Tryz.prog 292 "loop.example/wharfgate/impl.fits" 268:=fun v w=>by kernel_rfl
theorem Mb:gF Tryz.prog 292 "loop.example/wharfgate/impl.sound" 269:=fun v w=>by kernel_rfl
def dC (x:List UInt8):Prop:=x.length≤maxLen
def EW {α:Type} (p:α→Prop) (xs:List α):Prop:=xs.length≤maxLen∧∀ x,x∈xs→p x
def kA (k:IntKind) (x:Int):Prop:=k.min≤x∧x≤k.max
def _root_.Go.Proofs.YtjkbbdldmdajkaaGreatDoor.c5.aB.ok (x:aB):Prop:=dC x.Name∧kA .i64 x.Kind∧kA .i64 x.bR∧kA .i64 x.bU∧EW dC x.Words∧dC x.To∧kA .i64 x.cB∧True∧True∧dC x.Default∧dC x.bD
def _root_.Go.Proofs.YtjkbbdldmdajkaaGreatDoor.c5.aD.ok (x:aD):Prop:=dC x.Kind∧EW aB.ok x.aW
def _root_.Go.Proofs.YtjkbbdldmdajkaaGreatDoor.c5.aF.ok (x:aF):Prop:=dC x.Kind∧dC x.Field∧dC x.db∧dC x.Is∧dC x.sq∧dC x.cM
def _root_.Go.Proofs.YtjkbbdldmdajkaaGreatDoor.c5.aJ.ok (x:aJ):Prop:=dC x.Name∧dC x.g9
def _root_.Go.Proofs.YtjkbbdldmdajkaaGreatDoor.c5.aT.ok (x:aT):Prop:=EW aD.ok x.cf∧EW aF.ok x.iA∧EW aJ.ok x.eB
def _root_.Go.Proofs.YtjkbbdldmdajkaaGreatDoor.c5.aA.ok (x:aA):Prop:=dC x.Kind∧dC x.Name∧dC x.aY∧EW dC x.aP∧True∧EW dC x.b8∧kA .i64 x.Version
def _root_.Go.Proofs.YtjkbbdldmdajkaaGreatDoor.c5.bG.ok (x:bG):Prop:=EW (kA .i64) x.b_∧dC x.Kind∧dC x.aY∧dC x.cP
def _root_.Go.Proofs.YtjkbbdldmdajkaaGreatDoor.c5.aG.ok (x:aG):Prop:=kA .i64 x.Number∧dC x.To∧dC x.By∧bG.ok x.cF
def _root_.Go.Proofs.YtjkbbdldmdajkaaGreatDoor.c5.aE.ok (x:aE):Prop:=dC x.aY∧dC x.aL∧kA .i64 x.bU∧kA .i64 x.dP
def _root_.Go.Proofs.YtjkbbdldmdajkaaGreatDoor.c5.aC.ok (x:aC):Prop:=dC x.cT∧dC x.aY∧dC x.aL∧kA .i64 x.cm∧kA .i64 x.ez
def _root_.Go.Proofs.YtjkbbdldmdajkaaGreatDoor.c5.aI.ok (x:aI):Prop:=kA .i64 x.zR∧kA .i64 x.ix∧kA .i64 x.fX∧EW aA.ok x.aO∧EW aG.ok x.bK∧EW aE.ok x.aK∧EW aC.ok x.aU
def _root_.Go.Proofs.YtjkbbdldmdajkaaGreatDoor.c5.Gg.ok (x:Gg):Prop:=dC x.kind∧dC x.name
def _root_.Go.Proofs.YtjkbbdldmdajkaaGreatDoor.c5.cl.ok (x:cl):Prop:=dC x.dH∧dC x.resource
def _root_.Go.Proofs.YtjkbbdldmdajkaaGreatDoor.c5.eD.ok (x:eD):Prop:=kA .i64 x.code∧kA .i64 x.place
def _root_.Go.Proofs.YtjkbbdldmdajkaaGreatDoor.c5.bH.ok (x:bH):Prop:=aB.ok x.aB
def _root_.Go.Proofs.YtjkbbdldmdajkaaGreatDoor.c5.cx.ok (x:cx):Prop:=dC x.Key∧kA .i64 x.L4
def _root_.Go.Proofs.YtjkbbdldmdajkaaGreatDoor.c5.cU.ok (x:cU):Prop:=cl.ok x.Key∧kA .i64 x.L4
abbrev uL:List Ty:=[.sl .str,.int .i64,.int .i64]
def yH (e:Int→Option Int) (f:Nat) (d:List (List UInt8)→Int→Int→Option Int) (a:List (List UInt8)) (c:Int) (b:Int):Option Int:=
 cond (bM b (a.length:Int)) (bE (bW b a.length) (cond (bM (bS .i64 c ((nth ([]:List UInt8) a b).length:Int)) 0) (some (-1)) (d a (bS .i64 c ((nth ([]:List UInt8) a b).length:Int)) (aN .i64 b 1)))) (e c)
def kB (k:Nat) (a:List (List UInt8)) (b:Int):Option Int:=
 cond (bM (bS .i64 b (a.length:Int)) 0) (some (-1)) (share (fun (c:Int)=>some c) fun d=>iter (ts:=uL) (R:=Int) k (yH d) a (bS .i64 b (a.length:Int)) (0:Int))
def th (k:Nat):CT:=⟨153,[.d (.sl .str),.d (.int .i64)],[],[⟨false,.d (.int .i64),[]⟩],kB k⟩
def kC (k:Nat) (a:aB) (c:Int):Option Int:=
 cond (bM (bS .i64 c (a.Name.length:Int)) 0) (some (-1)) ((kB k a.Words (bS .i64 c (a.Name.length:Int))).bind fun b=>cond (bM b 0) (some (-1)) (cond (bM (bS .i64 b (a.To.length:Int)) 0) (some (-1)) (cond (bM (bS .i64 (bS .i64 b (a.To.length:Int)) (a.Default.length:Int)) 0) (some (-1)) (cond (bM (bS .i64 (bS .i64 (bS .i64 b (a.To.length:Int)) (a.Default.length:Int)) (a.bD.length:Int)) 0) (some (-1)) (some (bS .i64 (bS .i64 (bS .i64 b (a.To.length:Int)) (a.Default.length:Int)) (a.bD.length:Int)))))))
def xc (k:Nat):CT:=⟨186,[.d (.st 0),.d (.int .i64)],[],[⟨false,.d (.int .i64),[]⟩],kC k⟩
abbrev qx:List Ty:=[.sl (.st 0),.int .i64,.int .i64]
def uM (e:Int→Option Int) (f:Nat) (g:List aB→Int→Int→Option Int) (a:List aB) (c:Int) (b:Int):Option Int:=
 cond (bM b (a.length:Int)) (bE (bW b a.length) ((kC f (nth (default:aB) a b) c).bind fun d=>cond (bM d 0) (some (-1)) (g a d (aN .i64 b 1)))) (e c)
def mP (k:Nat) (a:List aB) (b:Int):Option Int:=
 cond (bM (bS .i64 b (a.length:Int)) 0) (some (-1)) (share (fun (c:Int)=>some c) fun d=>iter (ts:=qx) (R:=Int) k (uM d) a (bS .i64 b (a.length:Int)) (0:Int))
def vM (k:Nat):CT:=⟨152,[.d (.sl (.st 0)),.d (.int .i64)],[],[⟨false,.d (.int .i64),[]⟩],mP k⟩
def kE (k:Nat) (a:aD) (b:Int):Option Int:=
 cond (bM (bS .i64 b (a.Kind.length:Int)) 0) (some (-1)) ((mP k a.aW (bS .i64 b (a.Kind.length:Int))).bind fun c=>cond (bM c 0) (some (-1)) (some c))
def xd (k:Nat):CT:=⟨86,[.d (.st 1),.d (.int .i64)],[],[⟨false,.d (.int .i64),[]⟩],kE k⟩
abbrev qy:List Ty:=[.sl (.st 1),.int .i64,.int .i64]
def uN (e:Int→Option Int) (f:Nat) (g:List aD→Int→Int→Option Int) (a:List aD) (c:Int) (b:Int):Option Int:=
 cond (bM b (a.length:Int)) (bE (bW b a.length) ((kE f (nth (default:aD) a b) c).bind fun d=>cond (bM d 0) (some (-1)) (g a d (aN .i64 b 1)))) (e c)
def mQ (k:Nat) (a:List aD) (b:Int):Option Int:=
 cond (bM (bS .i64 b (a.length:Int)) 0) (some (-1)) (share (fun (c:Int)=>some c) fun d=>iter (ts:=qy) (R:=Int) k (uN d) a (bS .i64 b (a.length:Int)) (0:Int))
def vN (k:Nat):CT:=⟨27,[.d (.sl (.st 1)),.d (.int .i64)],[],[⟨false,.d (.int .i64),[]⟩],mQ k⟩
def ma (_k:Nat) (a:aF) (b:Int):Option Int:=
 cond (bM (bS .i64 b (a.Kind.length:Int)) 0) (some (-1)) (cond (bM (bS .i64 (bS .i64 b (a.Kind.length:Int)) (a.Field.length:Int)) 0) (some (-1)) (cond (bM (bS .i64 (bS .i64 (bS .i64 b (a.Kind.length:Int)) (a.Field.length:Int)) (a.db.length:Int)) 0) (some (-1)) (cond (bM (bS .i64 (bS .i64 (bS .i64 (bS .i64 b (a.Kind.length:Int)) (a.Field.length:Int)) (a.db.length:Int)) (a.Is.length:Int)) 0) (some (-1)) (cond (bM (bS .i64 (bS .i64 (bS .i64 (bS .i64 (bS .i64 b (a.Kind.length:Int)) (a.Field.length:Int)) (a.db.length:Int)) (a.Is.length:Int)) (a.sq.length:Int)) 0) (some (-1)) (cond (bM (bS .i64 (bS .i64 (bS .i64 (bS .i64 (bS .i64 (bS .i64 b (a.Kind.length:Int)) (a.Field.length:Int)) (a.db.length:Int)) (a.Is.length:Int)) (a.sq.length:Int)) (a.cM.length:Int)) 0) (some (-1)) (some (bS .i64 (bS .i64 (bS .i64 (bS .i64 (bS .i64 (bS .i64 b (a.Kind.length:Int)) (a.Field.length:Int)) (a.db.length:Int)) (a.Is.length:Int)) (a.sq.length:Int)) (a.cM.length:Int))))))))
def yI (k:Nat):CT:=⟨87,[.d (.st 2),.d (.int .i64)],[],[⟨false,.d (.int .i64),[]⟩],ma k⟩
abbrev rA:List Ty:=[.sl (.st 2),.int .i64,.int .i64]
def vO (e:Int→Option Int) (f:Nat) (g:List aF→Int→Int→Option Int) (a:List aF) (c:Int) (b:Int):Option Int:=
 cond (bM b (a.length:Int)) (bE (bW b a.length) ((ma f (nth (default:aF) a b) c).bind fun d=>cond (bM d 0) (some (-1)) (g a d (aN .i64 b 1)))) (e c)
def nW (k:Nat) (a:List aF) (b:Int):Option Int:=
 cond (bM (bS .i64 b (a.length:Int)) 0) (some (-1)) (share (fun (c:Int)=>some c) fun d=>iter (ts:=rA) (R:=Int) k (vO d) a (bS .i64 b (a.length:Int)) (0:Int))
def xe (k:Nat):CT:=⟨28,[.d (.sl (.st 2)),.d (.int .i64)],[],[⟨false,.d (.int .i64),[]⟩],nW k⟩
def mb (_k:Nat) (a:aJ) (b:Int):Option Int:=
 cond (bM (bS .i64 b (a.Name.length:Int)) 0) (some (-1)) (cond (bM (bS .i64 (bS .i64 b (a.Name.length:Int)) (a.g9.length:Int)) 0) (some (-1)) (some (bS .i64 (bS .i64 b (a.Name.length:Int)) (a.g9.length:Int))))
def yJ (k:Nat):CT:=⟨88,[.d (.st 3),.d (.int .i64)],[],[⟨false,.d (.int .i64),[]⟩],mb k⟩
abbrev rB:List Ty:=[.sl (.st 3),.int .i64,.int .i64]
def vP (e:Int→Option Int) (f:Nat) (g:List aJ→Int→Int→Option Int) (a:List aJ) (c:Int) (b:Int):Option Int:=
 cond (bM b (a.length:Int)) (bE (bW b a.length) ((mb f (nth (default:aJ) a b) c).bind fun d=>cond (bM d 0) (some (-1)) (g a d (aN .i64 b 1)))) (e c)
def nX (k:Nat) (a:List aJ) (b:Int):Option Int:=
 cond (bM (bS .i64 b (a.length:Int)) 0) (some (-1)) (share (fun (c:Int)=>some c) fun d=>iter (ts:=rB) (R:=Int) k (vP d) a (bS .i64 b (a.length:Int)) (0:Int))
def xf (k:Nat):CT:=⟨29,[.d (.sl (.st 3)),.d (.int .i64)],[],[⟨false,.d (.int .i64),[]⟩],nX k⟩
def ry (k:Nat) (a:aT) (e:Int):Option Int:=
 (mQ k a.cf e).bind fun b=>cond (bM b 0) (some (-1)) ((nW k a.iA b).bind fun c=>cond (bM c 0) (some (-1)) ((nX k a.eB c).bind fun d=>cond (bM d 0) (some (-1)) (some d)))
def zY (k:Nat):CT:=⟨8,[.d (.st 4),.d (.int .i64)],[],[⟨false,.d (.int .i64),[]⟩],ry k⟩
def iZ (k:Nat) (a:aA) (b:Int):Option Int:=
 cond (bM (bS .i64 b (a.Kind.length:Int)) 0) (some (-1)) (cond (bM (bS .i64 (bS .i64 b (a.Kind.length:Int)) (a.Name.length:Int)) 0) (some (-1)) (cond (bM (bS .i64 (bS .i64 (bS .i64 b (a.Kind.length:Int)) (a.Name.length:Int)) (a.aY.length:Int)) 0) (some (-1)) ((kB k a.aP (bS .i64 (bS .i64 (bS .i64 b (a.Kind.length:Int)) (a.Name.length:Int)) (a.aY.length:Int))).bind fun c=>cond (bM c 0) (some (-1)) ((kB k a.b8 c).bind fun d=>cond (bM d 0) (some (-1)) (some d)))))
def vQ (k:Nat):CT:=⟨89,[.d (.st 5),.d (.int .i64)],[],[⟨false,.d (.int .i64),[]⟩],iZ k⟩
abbrev o8:List Ty:=[.sl (.st 5),.int .i64,.int .i64]
def sS (e:Int→Option Int) (f:Nat) (g:List aA→Int→Int→Option Int) (a:List aA) (c:Int) (b:Int):Option Int:=
 cond (bM b (a.length:Int)) (bE (bW b a.length) ((iZ f (nth (default:aA) a b) c).bind fun d=>cond (bM d 0) (some (-1)) (g a d (aN .i64 b 1)))) (e c)
def lq (k:Nat) (a:List aA) (b:Int):Option Int:=
 cond (bM (bS .i64 b (a.length:Int)) 0) (some (-1)) (share (fun (c:Int)=>some c) fun d=>iter (ts:=o8) (R:=Int) k (sS d) a (bS .i64 b (a.length:Int)) (0:Int))
def uO (k:Nat):CT:=⟨30,[.d (.sl (.st 5)),.d (.int .i64)],[],[⟨false,.d (.int .i64),[]⟩],lq k⟩
def yK (_k:Nat) (a:List Int) (b:Int):Option Int:=
 cond (bM (bS .i64 b (a.length:Int)) 0) (some (-1)) (some (bS .i64 b (a.length:Int)))
def FO (k:Nat):CT:=⟨187,[.d (.sl (.int .i64)),.d (.int .i64)],[],[⟨false,.d (.int .i64),[]⟩],yK k⟩
def pC (k:Nat) (a:bG) (c:Int):Option Int:=
 (yK k a.b_ c).bind fun b=>cond (bM b 0) (some (-1)) (cond (bM (bS .i64 b (a.Kind.length:Int)) 0) (some (-1)) (cond (bM (bS .i64 (bS .i64 b (a.Kind.length:Int)) (a.aY.length:Int)) 0) (some (-1)) (cond (bM (bS .i64 (bS .i64 (bS .i64 b (a.Kind.length:Int)) (a.aY.length:Int)) (a.cP.length:Int)) 0) (some (-1)) (some (bS .i64 (bS .i64 (bS .i64 b (a.Kind.length:Int)) (a.aY.length:Int)) (a.cP.length:Int))))))
def yL (k:Nat):CT:=⟨154,[.d (.st 6),.d (.int .i64)],[],[⟨false,.d (.int .i64),[]⟩],pC k⟩
def kF (k:Nat) (a:aG) (b:Int):Option Int:=
 cond (bM (bS .i64 b (a.To.length:Int)) 0) (some (-1)) (cond (bM (bS .i64 (bS .i64 b (a.To.length:Int)) (a.By.length:Int)) 0) (some (-1)) ((pC k a.cF (bS .i64 (bS .i64 b (a.To.length:Int)) (a.By.length:Int))).bind fun c=>cond (bM c 0) (some (-1)) (some c)))
def xg (k:Nat):CT:=⟨90,[.d (.st 7),.d (.int .i64)],[],[⟨false,.d (.int .i64),[]⟩],kF k⟩
abbrev qz:List Ty:=[.sl (.st 7),.int .i64,.int .i64]
def uP (e:Int→Option Int) (f:Nat) (g:List aG→Int→Int→Option Int) (a:List aG) (c:Int) (b:Int):Option Int:=
 cond (bM b (a.length:Int)) (bE (bW b a.length) ((kF f (nth (default:aG) a b) c).bind fun d=>cond (bM d 0) (some (-1)) (g a d (aN .i64 b 1)))) (e c)
def mR (k:Nat) (a:List aG) (b:Int):Option Int:=
 cond (bM (bS .i64 b (a.length:Int)) 0) (some (-1)) (share (fun (c:Int)=>some c) fun d=>iter (ts:=qz) (R:=Int) k (uP d) a (bS .i64 b (a.length:Int)) (0:Int))
def vR (k:Nat):CT:=⟨31,[.d (.sl (.st 7)),.d (.int .i64)],[],[⟨false,.d (.int .i64),[]⟩],mR k⟩
def i_ (_k:Nat) (a:aE) (b:Int):Option Int:=
 cond (bM (bS .i64 b (a.aY.length:Int)) 0) (some (-1)) (cond (bM (bS .i64 (bS .i64 b (a.aY.length:Int)) (a.aL.length:Int)) 0) (some (-1)) (some (bS .i64 (bS .i64 b (a.aY.length:Int)) (a.aL.length:Int))))
def vS (k:Nat):CT:=⟨91,[.d (.st 8),.d (.int .i64)],[],[⟨false,.d (.int .i64),[]⟩],i_ k⟩
abbrev o9:List Ty:=[.sl (.st 8),.int .i64,.int .i64]
def sT (e:Int→Option Int) (f:Nat) (g:List aE→Int→Int→Option Int) (a:List aE) (c:Int) (b:Int):Option Int:=
 cond (bM b (a.length:Int)) (bE (bW b a.length) ((i_ f (nth (default:aE) a b) c).bind fun d=>cond (bM d 0) (some (-1)) (g a d (aN .i64 b 1)))) (e c)
def lr (k:Nat) (a:List aE) (b:Int):Option Int:=
 cond (bM (bS .i64 b (a.length:Int)) 0) (some (-1)) (share (fun (c:Int)=>some c) fun d=>iter (ts:=o9) (R:=Int) k (sT d) a (bS .i64 b (a.length:Int)) (0:Int))
def uQ (k:Nat):CT:=⟨32,[.d (.sl (.st 8)),.d (.int .i64)],[],[⟨false,.d (.int .i64),[]⟩],lr k⟩
def kG (_k:Nat) (a:aC) (b:Int):Option Int:=
 cond (bM (bS .i64 b (a.cT.length:Int)) 0) (some (-1)) (cond (bM (bS .i64 (bS .i64 b (a.cT.length:Int)) (a.aY.length:Int)) 0) (some (-1)) (cond (bM (bS .i64 (bS .i64 (bS .i64 b (a.cT.length:Int)) (a.aY.length:Int)) (a.aL.length:Int)) 0) (some (-1)) (some (bS .i64 (bS .i64 (bS .i64 b (a.cT.length:Int)) (a.aY.length:Int)) (a.aL.length:Int)))))
def xh (k:Nat):CT:=⟨92,[.d (.st 9),.d (.int .i64)],[],[⟨false,.d (.int .i64),[]⟩],kG k⟩
abbrev qA:List Ty:=[.sl (.st 9),.int .i64,.int .i64]
def uR (e:Int→Option Int) (f:Nat) (g:List aC→Int→Int→Option Int) (a:List aC) (c:Int) (b:Int):Option Int:=
 cond (bM b (a.length:Int)) (bE (bW b a.length) ((kG f (nth (default:aC) a b) c).bind fun d=>cond (bM d 0) (some (-1)) (g a d (aN .i64 b 1)))) (e c)
def mS (k:Nat) (a:List aC) (b:Int):Option Int:=
 cond (bM (bS .i64 b (a.length:Int)) 0) (some (-1)) (share (fun (c:Int)=>some c) fun d=>iter (ts:=qA) (R:=Int) k (uR d) a (bS .i64 b (a.length:Int)) (0:Int))
def vT (k:Nat):CT:=⟨33,[.d (.sl (.st 9)),.d (.int .i64)],[],[⟨false,.d (.int .i64),[]⟩],mS k⟩
def pB (k:Nat) (a:aI) (f:Int):Option Int:=
 (lq k a.aO f).bind fun b=>cond (bM b 0) (some (-1)) ((mR k a.bK b).bind fun c=>cond (bM c 0) (some (-1)) ((lr k a.aK c).bind fun d=>cond (bM d 0) (some (-1)) ((mS k a.aU d).bind fun e=>cond (bM e 0) (some (-1)) (some e))))
def yM (k:Nat):CT:=⟨9,[.d (.st 10),.d (.int .i64)],[],[⟨false,.d (.int .i64),[]⟩],pB k⟩
def l8 (_k:Nat) (a:aF):Option aF:=
 some a
def yN (k:Nat):CT:=⟨101,[.d (.st 2)],[],[⟨false,.d (.st 2),[]⟩],l8 k⟩
def l9 (_k:Nat) (a:aJ):Option aJ:=
 some a
def yO (k:Nat):CT:=⟨102,[.d (.st 3)],[],[⟨false,.d (.st 3),[]⟩],l9 k⟩
def iR (_k:Nat) (a:aE):Option aE:=
 some a
def vU (k:Nat):CT:=⟨105,[.d (.st 8)],[],[⟨false,.d (.st 8),[]⟩],iR k⟩
def ky (_k:Nat) (a:aC):Option aC:=
 some a
def xj (k:Nat):CT:=⟨106,[.d (.st 9)],[],[⟨false,.d (.st 9),[]⟩],ky k⟩
def dw (_k:Nat) (a:Int) (b:Int) (c:Int):Option Bool:=
 cond (b6 b a) (some (b6 a c)) (some false)
def eZ (k:Nat):CT:=⟨69,[.d (.int .i64),.d (.int .i64),.d (.int .i64)],[],[⟨false,.d .bool,[]⟩],dw k⟩
def uS (_k:Nat) (a:Int):Option Bool:=
 cond (b6 97 a) (cond (b6 a 122) (some true) (cond (b6 48 a) (cond (b6 a 57) (some true) (some (bI a 45))) (some (bI a 45)))) (cond (b6 48 a) (cond (b6 a 57) (some true) (some (bI a 45))) (some (bI a 45)))
def zu (k:Nat):CT:=⟨133,[.d (.int .u8)],[],[⟨false,.d .bool,[]⟩],uS k⟩
abbrev vV:List Ty:=[.str,.int .i64]
def nY (c:Option Bool) (d:Nat) (e:List UInt8→Int→Option Bool) (a:List UInt8) (b:Int):Option Bool:=
 cond (bM b (a.length:Int)) (bE (bW b a.length) ((uS d (zZ a b)).bind fun f=>cond (!f) (some false) (e a (aN .i64 b 1)))) (c)
def ct (k:Nat) (a:List UInt8):Option Bool:=
 (dw k (a.length:Int) 1 16).bind fun c=>cond (!c) (some false) (share (some true) fun b=>iter (ts:=vV) (R:=Bool) k (nY b) a (0:Int))
def dk (k:Nat):CT:=⟨68,[.d .str],[],[⟨false,.d .bool,[]⟩],ct k⟩
def yP (_k:Nat) (c:aB):Option Bool:=
 share (fun (a:aB) (i:Bool)=>share (fun (d:aB) (j:Bool)=>cond j (some false) (share (fun (f:aB) (g:Bool)=>cond g (some false) (cond (bI f.Kind 4) (some true) (cond (seq f.To ([]:List UInt8)) (some (bI f.cB 0)) (some false)))) fun e=>cond (!bI d.Kind 2) (e d (bM 0 (d.Words.length:Int))) (e d false))) fun b=>cond (!i) (cond (!bI a.bR 0) (b a true) (cond (!bI a.bU 0) (b a true) (cond (!bI a.Kind 1) (b a (!seq a.bD ([]:List UInt8))) (b a false)))) (cond (!bI a.Kind 1) (b a (!seq a.bD ([]:List UInt8))) (b a false))) fun h=>cond (bI c.Kind 1) (h c true) (h c (bI c.Kind 3))
def FP (k:Nat):CT:=⟨223,[.d (.st 0)],[],[⟨false,.d .bool,[]⟩],yP k⟩
abbrev vW:List Ty:=[.str,.int .i64,.int .i64]
def nZ (g:Int→Option Int) (k:Nat) (h:List UInt8→Int→Int→Option Int) (a:List UInt8) (c:Int) (b:Int):Option Int:=
 cond (bM b (a.length:Int)) (share (fun (d:List UInt8) (i:Int) (e:Int) (j:Bool)=>cond j (some (-1)) (bE (bW e d.length) (h d (bS .i64 (aN .i64 (W6 .i64 i 10) (yE .i64 (zZ d e))) 48) (aN .i64 e 1)))) fun f=>bE (bW b a.length) (cond (bM (zZ a b) 48) (f a c b true) (bE (bW b a.length) (f a c b (bM 57 (zZ a b)))))) (g c)
def o_ (k:Nat) (a:List UInt8):Option Int:=
 share (fun (f:List UInt8) (g:Bool)=>cond g (some (-1)) (share (fun (c:Int)=>some c) fun d=>iter (ts:=vW) (R:=Int) k (nZ d) f (0:Int) (0:Int))) fun b=>(dw k (a.length:Int) 1 7).bind fun e=>cond (!e) (b a true) (cond (bM 1 (a.length:Int)) (bE (bW 0 a.length) (b a (bI (zZ a 0) 48))) (b a false))
def vi (k:Nat):CT:=⟨180,[.d .str],[],[⟨false,.d (.int .i64),[]⟩],o_ k⟩
abbrev z0:List Ty:=[.sl .str,.str,.int .i64]
def tV (e:Option Bool) (f:Nat) (d:List (List UInt8)→List UInt8→Int→Option Bool) (a:List (List UInt8)) (c:List UInt8) (b:Int):Option Bool:=
 cond (bM b (a.length:Int)) (bE (bW b a.length) (cond (seq (nth ([]:List UInt8) a b) c) (some true) (d a c (aN .i64 b 1)))) (e)
def nj (k:Nat) (a:List (List UInt8)) (b:List UInt8):Option Bool:=
 share (some false) fun c=>iter (ts:=z0) (R:=Bool) k (tV c) a b (0:Int)
def wy (k:Nat):CT:=⟨211,[.d (.sl .str),.d .str],[],[⟨false,.d .bool,[]⟩],nj k⟩
abbrev vX:List Ty:=[.str,.st 0,.int .i64]
def n4 (d:List UInt8→aB→Option Bool) (e:Nat) (f:List UInt8→aB→Int→Option Bool) (a:List UInt8) (c:aB) (b:Int):Option Bool:=
 cond (bM b (a.length:Int)) (bE (bW b a.length) ((dw e (yE .i64 (zZ a b)) 33 126).bind fun g=>cond (!g) (some false) (f a c (aN .i64 b 1)))) (d a c)
def mn (k:Nat) (a:aB) (b:List UInt8):Option Bool:=
 cond (bI a.Kind 1) ((o_ k b).bind fun c=>cond (b6 0 c) ((dw k c a.bR a.bU).bind fun f=>some f) (some false)) (cond (bI a.Kind 2) (cond (!seq b ([]:List UInt8)) ((nj k a.Words b).bind fun g=>some g) (some false)) (cond (bI a.Kind 3) (share (fun (d:List UInt8) (e:aB)=>cond (!seq d ([]:List UInt8)) ((dw k (d.length:Int) e.bR e.bU).bind fun h=>some h) (some false)) fun i=>iter (ts:=vX) (R:=Bool) k (n4 i) b a (0:Int)) (cond (bI a.Kind 4) ((ct k b).bind fun j=>some j) (some false))))
def pD (k:Nat):CT:=⟨192,[.d (.st 0),.d .str],[],[⟨false,.d .bool,[]⟩],mn k⟩
abbrev rC:List Ty:=[.sl .str,.int .i64]
def jR (d:Option Bool) (e:Nat) (f:List (List UInt8)→Int→Option Bool) (b:List (List UInt8)) (a:Int):Option Bool:=
 cond (bM a (b.length:Int)) (share (fun (g:List (List UInt8)) (h:Int) (i:Bool)=>cond i (some false) (f g (aN .i64 h 1))) fun c=>bE (bW a b.length) ((ct e (nth ([]:List UInt8) b a)).bind fun j=>cond (!j) (c b a true) (cond (bM 0 a) (bE (bW (bS .i64 a 1) b.length) (bE (bW a b.length) (c b a (!slt (nth ([]:List UInt8) b (bS .i64 a 1)) (nth ([]:List UInt8) b a))))) (c b a false)))) (d)
def kH (k:Nat) (b:List (List UInt8)):Option Bool:=
 share (some true) fun a=>iter (ts:=rC) (R:=Bool) k (jR a) b (0:Int)
def p8 (k:Nat):CT:=⟨191,[.d (.sl .str)],[],[⟨false,.d .bool,[]⟩],kH k⟩
abbrev xk:List Ty:=[.sl (.st 1),.str,.int .i64]
def pE (e:Option Int) (f:Nat) (d:List aD→List UInt8→Int→Option Int) (b:List aD) (c:List UInt8) (a:Int):Option Int:=
 cond (bM a (b.length:Int)) (bE (bW a b.length) (cond (seq (nth (default:aD) b a).Kind c) (some a) (d b c (aN .i64 a 1)))) (e)
def lu (k:Nat) (a:List aD) (b:List UInt8):Option Int:=
 share (some (-1)) fun c=>iter (ts:=xk) (R:=Int) k (pE c) a b (0:Int)
def nk (k:Nat):CT:=⟨195,[.d (.sl (.st 1)),.d .str],[],[⟨false,.d (.int .i64),[]⟩],lu k⟩
def rD (k:Nat) (d:List aD) (b:aB):Option Bool:=
 share (fun (e:List aD) (a:aB) (f:Bool)=>cond f (some false) (cond (bI a.Kind 1) (cond (b6 0 a.bR) (cond (b6 a.bR a.bU) (cond (b6 a.bU 1000000) (cond (seq a.bD ([]:List UInt8)) (some true) ((ct k a.bD).bind fun g=>some g)) (some false)) (some false)) (some false)) (cond (bI a.Kind 2) ((dw k (a.Words.length:Int) 1 6).bind fun h=>cond h ((kH k a.Words).bind fun i=>some i) (some false)) (cond (bI a.Kind 3) (cond (b6 1 a.bR) (cond (b6 a.bR a.bU) (some (b6 a.bU 40)) (some false)) (some false)) (cond (bI a.Kind 4) ((lu k e a.To).bind fun j=>cond (b6 0 j) ((dw k a.cB 1 3).bind fun l=>cond l (cond (seq a.Default ([]:List UInt8)) (cond (!bI a.cB 2) (some true) (some (!a.cV))) (some false)) (some false)) (some false)) (some false)))))) fun c=>(ct k b.Name).bind fun m=>cond (!m) (c d b true) ((yP k b).bind fun n=>cond (!n) (c d b true) (cond (!seq b.Default ([]:List UInt8)) ((mn k b b.Default).bind fun o=>c d b (!o)) (c d b false)))
def z6 (k:Nat):CT:=⟨208,[.d (.sl (.st 1)),.d (.st 0)],[],[⟨false,.d .bool,[]⟩],rD k⟩
abbrev js:List Ty:=[.sl (.st 1),.int .i64,.int .i64,.int .i64,.st 1]
def fg (f:List aD→Int→Int→aD→Option Bool) (h:Nat) (g:List aD→Int→Int→Int→aD→Option Bool) (d:List aD) (e:Int) (b:Int) (c:Int) (a:aD):Option Bool:=
 cond (bM c b) (bE (bW c a.aW.length) (bE (bW b a.aW.length) (cond (seq (nth (default:aB) a.aW c).Name (nth (default:aB) a.aW b).Name) (some false) (g d e b (aN .i64 c 1) a)))) (f d e b a)
abbrev fA:List Ty:=[.sl (.st 1),.int .i64,.int .i64,.st 1]
def dN (f:List aD→Int→Option Bool) (d:Nat) (g:List aD→Int→Int→aD→Option Bool) (c:List aD) (e:Int) (a:Int) (b:aD):Option Bool:=
 cond (bM a (b.aW.length:Int)) (share (fun (h:List aD) (i:Int) (j:Int) (k:aD)=>g h i (aN .i64 j 1) k) fun l=>bE (bW a b.aW.length) ((rD d c (nth (default:aB) b.aW a)).bind fun m=>cond (!m) (some false) (iter (ts:=js) (R:=Bool) d (fg l) c e a (0:Int) b))) (f c e)
abbrev gf:List Ty:=[.sl (.st 1),.int .i64]
def ee (e:Option Bool) (d:Nat) (f:List aD→Int→Option Bool) (b:List aD) (a:Int):Option Bool:=
 cond (bM a (b.length:Int)) (share (fun (g:List aD) (h:Int)=>f g (aN .i64 h 1)) fun i=>bE (bW a b.length) (share (fun (j:List aD) (k:Int) (l:Bool) (m:aD)=>cond l (some false) (iter (ts:=fA) (R:=Bool) d (dN i) j k (0:Int) m)) fun c=>(ct d (nth (default:aD) b a).Kind).bind fun n=>cond (!n) (c b a true (nth (default:aD) b a)) (cond (bM 0 a) (bE (bW (bS .i64 a 1) b.length) (cond (!slt (nth (default:aD) b (bS .i64 a 1)).Kind (nth (default:aD) b a).Kind) (c b a true (nth (default:aD) b a)) (c b a (bM 6 ((nth (default:aD) b a).aW.length:Int)) (nth (default:aD) b a)))) (c b a (bM 6 ((nth (default:aD) b a).aW.length:Int)) (nth (default:aD) b a))))) (e)
def mU (k:Nat) (b:List aD):Option Bool:=
 cond (bM 6 (b.length:Int)) (some false) (share (some true) fun a=>iter (ts:=gf) (R:=Bool) k (ee a) b (0:Int))
def vY (k:Nat):CT:=⟨188,[.d (.sl (.st 1))],[],[⟨false,.d .bool,[]⟩],mU k⟩
abbrev xm:List Ty:=[.sl (.st 0),.str,.int .i64]
def pF (e:Option Int) (f:Nat) (d:List aB→List UInt8→Int→Option Int) (b:List aB) (c:List UInt8) (a:Int):Option Int:=
 cond (bM a (b.length:Int)) (bE (bW a b.length) (cond (seq (nth (default:aB) b a).Name c) (some a) (d b c (aN .i64 a 1)))) (e)
def eE (k:Nat) (a:List aB) (b:List UInt8):Option Int:=
 share (some (-1)) fun c=>iter (ts:=xm) (R:=Int) k (pF c) a b (0:Int)
def nn (k:Nat):CT:=⟨210,[.d (.sl (.st 0)),.d .str],[],[⟨false,.d (.int .i64),[]⟩],eE k⟩
def lx (k:Nat) (a:List aB) (c:List UInt8):Option Bool:=
 (eE k a c).bind fun b=>cond (b6 0 b) (bE (bW b a.length) (some (!bI (nth (default:aB) a b).Kind 4))) (some false)
def Dc (k:Nat):CT:=⟨209,[.d (.sl (.st 0)),.d .str],[],[⟨false,.d .bool,[]⟩],lx k⟩
def tW (k:Nat) (c:List aD) (b:aF):Option Bool:=
 (lu k c b.Kind).bind fun d=>cond (bM d 0) (some false) (bE (bW d c.length) (share (fun (a:aF) (f:List aB) (l:Bool)=>cond l (some false) (share (fun (h:aF) (i:List aB) (m:Bool)=>cond m (some false) (cond (seq h.sq ([]:List UInt8)) (some true) ((eE k i h.Field).bind fun j=>bE (bW j i.length) ((mn k (nth (default:aB) i j) h.sq).bind fun n=>some n)))) fun g=>cond (seq a.db a.Field) (g a f true) (cond (seq a.cM a.Field) (g a f true) (cond (seq a.db ([]:List UInt8)) (cond (!seq a.Is ([]:List UInt8)) (g a f true) (g a f (beq (seq a.sq ([]:List UInt8)) (seq a.cM ([]:List UInt8))))) (g a f (beq (seq a.sq ([]:List UInt8)) (seq a.cM ([]:List UInt8)))))))) fun e=>(lx k (nth (default:aD) c d).aW b.Field).bind fun o=>cond (!o) (e b (nth (default:aD) c d).aW true) (cond (!seq b.db ([]:List UInt8)) ((lx k (nth (default:aD) c d).aW b.db).bind fun p=>cond (!p) (e b (nth (default:aD) c d).aW true) (cond (!seq b.cM ([]:List UInt8)) ((lx k (nth (default:aD) c d).aW b.cM).bind fun q=>e b (nth (default:aD) c d).aW (!q)) (e b (nth (default:aD) c d).aW false))) (cond (!seq b.cM ([]:List UInt8)) ((lx k (nth (default:aD) c d).aW b.cM).bind fun r=>e b (nth (default:aD) c d).aW (!r)) (e b (nth (default:aD) c d).aW false)))))
def Ca (k:Nat):CT:=⟨189,[.d (.sl (.st 1)),.d (.st 2)],[],[⟨false,.d .bool,[]⟩],tW k⟩
abbrev xn:List Ty:=[.sl (.st 2),.str,.str,.sl .str,.int .i64]
def pG (q:Option Bool) (g:Nat) (r:List aF→List UInt8→List UInt8→List (List UInt8)→Int→Option Bool) (a:List aF) (e:List UInt8) (f:List UInt8) (c:List (List UInt8)) (b:Int):Option Bool:=
 cond (bM b (a.length:Int)) (bE (bW b a.length) (share (fun (h:List aF) (i:List UInt8) (j:List UInt8) (k:List (List UInt8)) (l:Int) (m:Bool)=>cond m (some false) (r h i j k (aN .i64 l 1))) fun d=>cond (seq (nth (default:aF) a b).Kind e) (cond (seq (nth (default:aF) a b).Field f) (cond (!seq (nth (default:aF) a b).db ([]:List UInt8)) ((nj g c (nth (default:aF) a b).db).bind fun n=>cond (!n) (d a e f c b true) (cond (!seq (nth (default:aF) a b).cM ([]:List UInt8)) ((nj g c (nth (default:aF) a b).cM).bind fun o=>d a e f c b (!o)) (d a e f c b false))) (cond (!seq (nth (default:aF) a b).cM ([]:List UInt8)) ((nj g c (nth (default:aF) a b).cM).bind fun p=>d a e f c b (!p)) (d a e f c b false))) (d a e f c b false)) (d a e f c b false))) (q)
def wz (k:Nat) (b:List aF) (c:List UInt8) (d:List UInt8) (e:List (List UInt8)):Option Bool:=
 share (some true) fun a=>iter (ts:=xn) (R:=Bool) k (pG a) b c d e (0:Int)
def Dd (k:Nat):CT:=⟨212,[.d (.sl (.st 2)),.d .str,.d .str,.d (.sl .str)],[],[⟨false,.d .bool,[]⟩],wz k⟩
abbrev tj:List Ty:=[.sl (.st 2),.st 1,.int .i64,.int .i64,.sl .str]
def pa (g:List aF→aD→Int→List (List UInt8)→Option (List (List UInt8))) (h:Nat) (n:List aF→aD→Int→Int→List (List UInt8)→Option (List (List UInt8))) (d:List aF) (a:aD) (e:Int) (b:Int) (c:List (List UInt8)):Option (List (List UInt8)):=
 cond (bM b (a.aW.length:Int)) (bE (bW b a.aW.length) (share (fun (i:List aF) (j:aD) (k:Int) (o:Int) (l:List UInt8) (p:Bool) (f:List (List UInt8))=>cond p (bE (kW (f.length+([l]:List (List UInt8)).length) 16) (g i j k (f++([l]:List (List UInt8))))) (n i j k (aN .i64 o 1) f)) fun m=>(nj h c (nth (default:aB) a.aW b).Name).bind fun q=>cond (!q) ((wz h d a.Kind (nth (default:aB) a.aW b).Name c).bind fun r=>m d a e b (nth (default:aB) a.aW b).Name r c) (m d a e b (nth (default:aB) a.aW b).Name false c))) (g d a e c)
abbrev z7:List Ty:=[.sl (.st 2),.st 1,.int .i64,.sl .str]
def tX (d:List (List UInt8)→Option (List (List UInt8))) (e:Nat) (f:List aF→aD→Int→List (List UInt8)→Option (List (List UInt8))) (g:List aF) (a:aD) (b:Int) (c:List (List UInt8)):Option (List (List UInt8)):=
 cond (bM b (a.aW.length:Int)) (share (fun (h:List aF) (i:aD) (j:Int) (k:List (List UInt8))=>f h i (aN .i64 j 1) k) fun l=>iter (ts:=tj) (R:=List (List UInt8)) e (pa l) g a b (0:Int) c) (d c)
def xo (k:Nat) (c:aD) (d:List aF):Option (List (List UInt8)):=
 share (fun (a:List (List UInt8))=>some a) fun b=>iter (ts:=z7) (R:=List (List UInt8)) k (tX b) d c (0:Int) ([]:List (List UInt8))
def A7 (k:Nat):CT:=⟨190,[.d (.st 1),.d (.sl (.st 2))],[],[⟨false,.d (.sl .str),[]⟩],xo k⟩
abbrev rE:List Ty:=[.sl (.st 1),.sl (.st 2),.int .i64]
def jS (d:Option Bool) (e:Nat) (f:List aD→List aF→Int→Option Bool) (a:List aD) (c:List aF) (b:Int):Option Bool:=
 cond (bM b (a.length:Int)) (bE (bW b a.length) ((xo e (nth (default:aD) a b) c).bind fun g=>bE (bW b a.length) (cond (!bI (g.length:Int) ((nth (default:aD) a b).aW.length:Int)) (some false) (f a c (aN .i64 b 1))))) (d)
abbrev rF:List Ty:=[.sl (.st 1),.sl (.st 2),.int .i64]
def jT (d:List aD→List aF→Option Bool) (e:Nat) (f:List aD→List aF→Int→Option Bool) (c:List aD) (a:List aF) (b:Int):Option Bool:=
 cond (bM b (a.length:Int)) (bE (bW b a.length) ((tW e c (nth (default:aF) a b)).bind fun g=>cond (!g) (some false) (f c a (aN .i64 b 1)))) (d c a)
def n5 (k:Nat) (a:List aD) (b:List aF):Option Bool:=
 share (fun (i:List aD) (j:List aF) (l:Bool)=>cond l (some false) (share (fun (c:List aD) (d:List aF)=>share (some true) fun e=>iter (ts:=rE) (R:=Bool) k (jS e) c d (0:Int)) fun f=>iter (ts:=rF) (R:=Bool) k (jT f) i j (0:Int))) fun g=>(mU k a).bind fun h=>cond (!h) (g a b true) (g a b (bM 12 (b.length:Int)))
def xp (k:Nat):CT:=⟨155,[.d (.sl (.st 1)),.d (.sl (.st 2))],[],[⟨false,.d .bool,[]⟩],n5 k⟩
abbrev yQ:List Ty:=[.sl (.st 3),.str,.int .i64]
def rG (e:Option Bool) (f:Nat) (d:List aJ→List UInt8→Int→Option Bool) (a:List aJ) (c:List UInt8) (b:Int):Option Bool:=
 cond (bM b (a.length:Int)) (bE (bW b a.length) (cond (seq (nth (default:aJ) a b).Name c) (some true) (d a c (aN .i64 b 1)))) (e)
def np (k:Nat) (a:List aJ) (b:List UInt8):Option Bool:=
 share (some false) fun c=>iter (ts:=yQ) (R:=Bool) k (rG c) a b (0:Int)
def tY (k:Nat):CT:=⟨67,[.d (.sl (.st 3)),.d .str],[],[⟨false,.d .bool,[]⟩],np k⟩
abbrev yR:List Ty:=[.sl (.st 3),.str,.int .i64]
def rH (e:Option (List UInt8)) (f:Nat) (d:List aJ→List UInt8→Int→Option (List UInt8)) (a:List aJ) (c:List UInt8) (b:Int):Option (List UInt8):=
 cond (bM b (a.length:Int)) (bE (bW b a.length) (cond (seq (nth (default:aJ) a b).Name c) (bE (bW b a.length) (some (nth (default:aJ) a b).g9)) (d a c (aN .i64 b 1)))) (e)
def uT (k:Nat) (a:List aJ) (b:List UInt8):Option (List UInt8):=
 share (some ([]:List UInt8)) fun c=>iter (ts:=yR) (R:=List UInt8) k (rH c) a b (0:Int)
def zw (k:Nat):CT:=⟨179,[.d (.sl (.st 3)),.d .str],[],[⟨false,.d .str,[]⟩],uT k⟩
abbrev qB:List Ty:=[.sl (.st 3),.int .i64,.str,.int .i64]
def ja (d:List aJ→Int→List UInt8→Option Bool) (f:Nat) (g:List aJ→Int→List UInt8→Int→Option Bool) (a:List aJ) (c:Int) (b:List UInt8) (e:Int):Option Bool:=
 cond (b6 e 4) (cond (!seq b ([]:List UInt8)) ((uT f a b).bind fun h=>g a c h (aN .i64 e 1)) (d a c b)) (d a c b)
abbrev eG:List Ty:=[.sl (.st 3),.int .i64]
def dI (e:Option Bool) (d:Nat) (f:List aJ→Int→Option Bool) (a:List aJ) (b:Int):Option Bool:=
 cond (bM b (a.length:Int)) (share (fun (g:List aJ) (h:Int)=>f g (aN .i64 h 1)) fun i=>bE (bW b a.length) (share (fun (j:List aJ) (k:Int) (l:Bool) (m:aJ)=>cond l (some false) (share (fun (n:List aJ) (o:Int) (p:List UInt8)=>cond (!seq p ([]:List UInt8)) (some false) (i n o)) fun q=>iter (ts:=qB) (R:=Bool) d (ja q) j k m.Name (0:Int))) fun c=>(ct d (nth (default:aJ) a b).Name).bind fun r=>cond (!r) (c a b true (nth (default:aJ) a b)) (cond (bM 0 b) (bE (bW (bS .i64 b 1) a.length) (cond (!slt (nth (default:aJ) a (bS .i64 b 1)).Name (nth (default:aJ) a b).Name) (c a b true (nth (default:aJ) a b)) (cond (!seq (nth (default:aJ) a b).g9 ([]:List UInt8)) ((np d a (nth (default:aJ) a b).g9).bind fun s=>c a b (!s) (nth (default:aJ) a b)) (c a b false (nth (default:aJ) a b))))) (cond (!seq (nth (default:aJ) a b).g9 ([]:List UInt8)) ((np d a (nth (default:aJ) a b).g9).bind fun t=>c a b (!t) (nth (default:aJ) a b)) (c a b false (nth (default:aJ) a b)))))) (e)
def kI (k:Nat) (b:List aJ):Option Bool:=
 cond (bM 12 (b.length:Int)) (some false) (share (some true) fun a=>iter (ts:=eG) (R:=Bool) k (dI a) b (0:Int))
def xq (k:Nat):CT:=⟨156,[.d (.sl (.st 3))],[],[⟨false,.d .bool,[]⟩],kI k⟩
def rI (k:Nat) (a:aT):Option Bool:=
 (n5 k a.cf a.iA).bind fun b=>cond b ((kI k a.eB).bind fun c=>some c) (some false)
def z8 (k:Nat):CT:=⟨93,[.d (.st 4)],[],[⟨false,.d .bool,[]⟩],rI k⟩
def g7 (k:Nat) (a:List aD) (c:aA):Option ((List aB)×Bool):=
 (lu k a c.Kind).bind fun b=>share (fun (d:List aD) (e:Int) (g:Bool)=>cond g (some (([]:List aB),false)) (bE (bW e d.length) (some ((nth (default:aD) d e).aW,true)))) fun f=>cond (bM b 0) (f a b true) (bE (bW b a.length) (f a b (!bI ((nth (default:aD) a b).aW.length:Int) (c.aP.length:Int))))
def iH (k:Nat):CT:=⟨160,[.d (.sl (.st 1)),.d (.st 5)],[],[⟨false,.ov [.d (.sl (.st 0)),.d .bool],[]⟩],g7 k⟩
abbrev ly:List Ty:=[.st 5,.sl (.st 0),.int .i64]
def iI (e:Option (Int×Int)) (f:Nat) (g:aA→List aB→Int→Option (Int×Int)) (c:aA) (b:List aB) (a:Int):Option (Int×Int):=
 cond (bM a (b.length:Int)) (share (fun (h:aA) (i:List aB) (j:Int)=>g h i (aN .i64 j 1)) fun d=>bE (bW a c.aP.length) (cond (seq (nth ([]:List UInt8) c.aP a) ([]:List UInt8)) (bE (bW a b.length) (cond (nth (default:aB) b a).cV (some (2,a)) (d c b a))) (bE (bW a b.length) (bE (bW a c.aP.length) ((mn f (nth (default:aB) b a) (nth ([]:List UInt8) c.aP a)).bind fun k=>cond (!k) (some (3,a)) (d c b a)))))) (e)
def wA (k:Nat) (m:List aD) (a:aA):Option (Int×Int):=
 (g7 k m a).bind fun c=>share (fun (d:aA) (e:List aB) (f:Bool)=>cond f (some (1,0)) (share (some (0,0)) fun g=>iter (ts:=ly) (R:=Int×Int) k (iI g) d e (0:Int))) fun b=>cond (!c.2) (b a c.1 true) ((ct k a.Name).bind fun h=>cond (!h) (b a c.1 true) ((ct k a.aY).bind fun i=>cond (!i) (b a c.1 true) (cond (bM 3 (a.b8.length:Int)) (b a c.1 true) ((kH k a.b8).bind fun j=>cond (!j) (b a c.1 true) ((dw k a.Version 0 1000000).bind fun l=>b a c.1 (!l))))))
def De (k:Nat):CT:=⟨157,[.d (.sl (.st 1)),.d (.st 5)],[],[⟨false,.ov [.d (.int .i64),.d (.int .i64)],[]⟩],wA k⟩
def p9 (_k:Nat) (a:List UInt8) (b:List UInt8):Option Int:=
 cond (slt a b) (some (-1)) (cond (!(slt a b||seq a b)) (some 1) (some 0))
def A8 (k:Nat):CT:=⟨136,[.d .str,.d .str],[],[⟨false,.d (.int .i64),[]⟩],p9 k⟩
def tn (k:Nat) (a:List UInt8) (c:List UInt8) (b:List UInt8) (d:List UInt8):Option Int:=
 (p9 k a b).bind fun e=>cond (!bI e 0) ((p9 k a b).bind fun f=>some f) ((p9 k c d).bind fun g=>some g)
def wB (k:Nat):CT:=⟨72,[.d .str,.d .str,.d .str,.d .str],[],[⟨false,.d (.int .i64),[]⟩],tn k⟩
def mo (_k:Nat) (a:aA):Option ((List UInt8)×(List UInt8)×(List UInt8)×Bool×Int×(List (List UInt8))×(List (List UInt8))):=
 bE (kW (([]:List (List UInt8)).length+a.aP.length) 16) (bE (kW (([]:List (List UInt8)).length+a.b8.length) 16) (some (a.Kind,a.Name,a.aY,a.Ending,a.Version,(([]:List (List UInt8))++a.aP),(([]:List (List UInt8))++a.b8))))
def pH (k:Nat):CT:=⟨97,[.d (.st 5)],[],[⟨false,.agg [.d .str,.d .str,.d .str,.ow 0,.d .bool,.ow 1,.d (.int .i64)],[.row .str .vs,.row .str .vs]⟩],mo k⟩
abbrev yS:List Ty:=[.sl (.st 0),.int .i64,.st 5,.str,.str,.str,.bool,.int .i64,.sl .str,.sl .str]
def rJ (l:aA→List UInt8→List UInt8→List UInt8→Bool→Int→List (List UInt8)→List (List UInt8)→Option aA) (x:Nat) (m:List aB→Int→aA→List UInt8→List UInt8→List UInt8→Bool→Int→List (List UInt8)→List (List UInt8)→Option aA) (c:List aB) (a:Int) (d:aA) (e:List UInt8) (f:List UInt8) (g:List UInt8) (h:Bool) (i:Int) (b:List (List UInt8)) (j:List (List UInt8)):Option aA:=
 cond (bM a (c.length:Int)) (share (fun (n:List aB) (o:Int) (p:aA) (q:List UInt8) (r:List UInt8) (s:List UInt8) (t:Bool) (u:Int) (v:List (List UInt8)) (w:List (List UInt8))=>m n (aN .i64 o 1) p q r s t u v w) fun k=>bE (bW a b.length) (cond (seq (nth ([]:List UInt8) b a) ([]:List UInt8)) (bE (bW a c.length) (bE (bW a b.length) (k c a d e f g h i (nQ b a (nth (default:aB) c a).Default) j))) (k c a d e f g h i b j))) (l d e f g h i b j)
def yT (k:Nat) (m:List aD) (b:aA):Option aA:=
 (mo k b).bind fun a=>(g7 k m b).bind fun c=>cond (!c.2) (some (⟨a.1,a.2.1,a.2.2.1,a.2.2.2.2.2.1,a.2.2.2.1,a.2.2.2.2.2.2,a.2.2.2.2.1⟩:aA)) (share (fun (n:aA) (d:List UInt8) (e:List UInt8) (f:List UInt8) (g:Bool) (h:Int) (i:List (List UInt8)) (j:List (List UInt8))=>some (⟨d,e,f,i,g,j,h⟩:aA)) fun l=>iter (ts:=yS) (R:=aA) k (rJ l) c.1 (0:Int) (⟨([]:List UInt8),([]:List UInt8),([]:List UInt8),[],false,[],0⟩:aA) a.1 a.2.1 a.2.2.1 a.2.2.2.1 a.2.2.2.2.1 a.2.2.2.2.2.1 a.2.2.2.2.2.2)
def FQ (k:Nat):CT:=⟨194,[.d (.sl (.st 1)),.d (.st 5)],[],[⟨false,.d (.st 5),[]⟩],yT k⟩
abbrev fL:List Ty:=[.sl (.st 0),.sl (.st 2),.str,.st 5,.int .i64]
def eI (v:List aB→List UInt8→aA→Option (List UInt8)) (m:Nat) (w:List aB→List aF→List UInt8→aA→Int→Option (List UInt8)) (d:List aB) (a:List aF) (e:List UInt8) (c:aA) (b:Int):Option (List UInt8):=
 cond (bM b (a.length:Int)) (share (fun (n:List aB) (o:List aF) (p:List UInt8) (q:aA) (r:Int)=>w n o p q (aN .i64 r 1)) fun f=>bE (bW b a.length) (share (fun (j:List aB) (s:List aF) (t:List UInt8) (g:aA) (u:Int) (h:aF)=>cond (seq h.cM ([]:List UInt8)) (some h.sq) ((eE m j h.cM).bind fun i=>bE (bW i g.aP.length) (cond (!seq (nth ([]:List UInt8) g.aP i) ([]:List UInt8)) (some (nth ([]:List UInt8) g.aP i)) (f j s t g u)))) fun k=>cond (!seq (nth (default:aF) a b).Kind c.Kind) (f d a e c b) (cond (!seq (nth (default:aF) a b).Field e) (f d a e c b) (cond (!seq (nth (default:aF) a b).db ([]:List UInt8)) ((eE m d (nth (default:aF) a b).db).bind fun l=>bE (bW l c.aP.length) (cond (!seq (nth ([]:List UInt8) c.aP l) (nth (default:aF) a b).Is) (f d a e c b) (k d a e c b (nth (default:aF) a b)))) (k d a e c b (nth (default:aF) a b)))))) (v d e c)
def rK (k:Nat) (f:List aB) (g:List aF) (h:aA) (i:List UInt8):Option (List UInt8):=
 share (fun (c:List aB) (d:List UInt8) (a:aA)=>(eE k c d).bind fun b=>bE (bW b a.aP.length) (some (nth ([]:List UInt8) a.aP b))) fun e=>iter (ts:=fL) (R:=List UInt8) k (eI e) f g i h (0:Int)
def z9 (k:Nat):CT:=⟨213,[.d (.sl (.st 0)),.d (.sl (.st 2)),.d (.st 5),.d .str],[],[⟨false,.d .str,[]⟩],rK k⟩
abbrev vZ:List Ty:=[.sl (.st 2),.sl (.st 0),.sl .str,.int .i64,.st 5,.str,.str,.str,.bool,.int .i64,.sl .str,.sl .str]
def n6 (o:aA→List UInt8→List UInt8→List UInt8→Bool→Int→List (List UInt8)→List (List UInt8)→Option aA) (k:Nat) (p:List aF→List aB→List (List UInt8)→Int→aA→List UInt8→List UInt8→List UInt8→Bool→Int→List (List UInt8)→List (List UInt8)→Option aA) (l:List aF) (d:List aB) (a:List (List UInt8)) (b:Int) (m:aA) (e:List UInt8) (f:List UInt8) (g:List UInt8) (h:Bool) (i:Int) (c:List (List UInt8)) (j:List (List UInt8)):Option aA:=
 cond (bM b (a.length:Int)) (bE (bW b a.length) ((eE k d (nth ([]:List UInt8) a b)).bind fun n=>bE (bW b a.length) ((rK k d l (⟨e,f,g,c,h,j,i⟩:aA) (nth ([]:List UInt8) a b)).bind fun q=>bE (bW n c.length) (p l d a (aN .i64 b 1) m e f g h i (nQ c n q) j)))) (o m e f g h i c j)
def tZ (k:Nat) (b:List aD) (d:List aF) (c:aA):Option aA:=
 (mo k c).bind fun a=>(g7 k b c).bind fun e=>cond (!e.2) (some (⟨a.1,a.2.1,a.2.2.1,a.2.2.2.2.2.1,a.2.2.2.1,a.2.2.2.2.2.2,a.2.2.2.2.1⟩:aA)) ((lu k b c.Kind).bind fun f=>bE (bW f b.length) ((xo k (nth (default:aD) b f) d).bind fun p=>share (fun (q:aA) (g:List UInt8) (h:List UInt8) (i:List UInt8) (j:Bool) (l:Int) (m:List (List UInt8)) (n:List (List UInt8))=>some (⟨g,h,i,m,j,n,l⟩:aA)) fun o=>iter (ts:=vZ) (R:=aA) k (n6 o) d e.1 p (0:Int) (⟨([]:List UInt8),([]:List UInt8),([]:List UInt8),[],false,[],0⟩:aA) a.1 a.2.1 a.2.2.1 a.2.2.2.1 a.2.2.2.2.1 a.2.2.2.2.2.1 a.2.2.2.2.2.2))
def Cb (k:Nat):CT:=⟨193,[.d (.sl (.st 1)),.d (.sl (.st 2)),.d (.st 5)],[],[⟨false,.d (.st 5),[]⟩],tZ k⟩
def t_ (k:Nat) (a:List aD) (b:List aF) (c:aA):Option aA:=
 (yT k a c).bind fun d=>(tZ k a b d).bind fun e=>some e
def Cc (k:Nat):CT:=⟨159,[.d (.sl (.st 1)),.d (.sl (.st 2)),.d (.st 5)],[],[⟨false,.d (.st 5),[]⟩],t_ k⟩
abbrev rL:List Ty:=[.sl .str,.sl .str,.int .i64]
def jU (e:Option Bool) (f:Nat) (d:List (List UInt8)→List (List UInt8)→Int→Option Bool) (b:List (List UInt8)) (c:List (List UInt8)) (a:Int):Option Bool:=
 cond (bM a (b.length:Int)) (bE (bW a b.length) (bE (bW a c.length) (cond (!seq (nth ([]:List UInt8) b a) (nth ([]:List UInt8) c a)) (some false) (d b c (aN .i64 a 1))))) (e)
def n7 (k:Nat) (a:List (List UInt8)) (b:List (List UInt8)):Option Bool:=
 cond (!bI (a.length:Int) (b.length:Int)) (some false) (share (some true) fun c=>iter (ts:=rL) (R:=Bool) k (jU c) a b (0:Int))
def xr (k:Nat):CT:=⟨158,[.d (.sl .str),.d (.sl .str)],[],[⟨false,.d .bool,[]⟩],n7 k⟩
abbrev Cd:List Ty:=[.str,.str,.st 10,.int .i64]
def wC (g:Option Int) (m:Nat) (h:List UInt8→List UInt8→aI→Int→Option Int) (c:List UInt8) (d:List UInt8) (a:aI) (b:Int):Option Int:=
 cond (bM b (a.aO.length:Int)) (share (fun (i:List UInt8) (j:List UInt8) (k:aI) (e:Int) (l:Bool)=>cond l (some e) (h i j k (aN .i64 e 1))) fun f=>bE (bW b a.aO.length) (cond (seq (nth (default:aA) a.aO b).Kind c) (bE (bW b a.aO.length) (f c d a b (seq (nth (default:aA) a.aO b).Name d))) (f c d a b false))) (g)
def Ex (k:Nat) (b:aI) (c:List UInt8) (d:List UInt8):Option Int:=
 share (some (-1)) fun a=>iter (ts:=Cd) (R:=Int) k (wC a) c d b (0:Int)
def Kv (k:Nat):CT:=⟨161,[.d (.st 10),.d .str,.d .str],[],[⟨false,.d (.int .i64),[]⟩],Ex k⟩
abbrev gg:List Ty:=[.st 4,.st 10,.int .i64,.sl (.st 0),.int .i64,.st 5]
def ef (h:aT→aI→Int→Option Bool) (i:Nat) (j:aT→aI→Int→List aB→Int→aA→Option Bool) (e:aT) (d:aI) (f:Int) (b:List aB) (a:Int) (c:aA):Option Bool:=
 cond (bM a (b.length:Int)) (share (fun (k:aT) (l:aI) (m:Int) (n:List aB) (o:Int) (p:Bool) (q:aA)=>cond p (some false) (j k l m n (aN .i64 o 1) q)) fun g=>bE (bW a b.length) (cond (bI (nth (default:aB) b a).Kind 4) (bE (bW a c.aP.length) (cond (!seq (nth ([]:List UInt8) c.aP a) ([]:List UInt8)) (bE (bW a b.length) (bE (bW a c.aP.length) ((Ex i d (nth (default:aB) b a).To (nth ([]:List UInt8) c.aP a)).bind fun r=>g e d f b a (bM r 0) c))) (g e d f b a false c))) (g e d f b a false c))) (h e d f)
abbrev eJ:List Ty:=[.st 4,.st 10,.int .i64]
def dJ (m:Option Bool) (c:Nat) (n:aT→aI→Int→Option Bool) (f:aT) (a:aI) (b:Int):Option Bool:=
 cond (bM b (a.aO.length:Int)) (share (fun (o:aT) (p:aI) (q:Int)=>n o p (aN .i64 q 1)) fun r=>bE (bW b a.aO.length) ((wA c f.cf (nth (default:aA) a.aO b)).bind fun s=>share (fun (k:aT) (e:aI) (d:Int) (t:Bool) (g:aA)=>cond t (some false) (share (fun (h:aT) (u:aI) (v:Int) (w:Bool) (i:aA)=>cond w (some false) ((t_ c h.cf h.iA i).bind fun x=>(n7 c x.aP i.aP).bind fun y=>cond (!y) (some false) ((g7 c h.cf i).bind fun z=>iter (ts:=gg) (R:=Bool) c (ef r) h u v z.1 (0:Int) i))) fun l=>cond (bM 0 d) (bE (bW (bS .i64 d 1) e.aO.length) (bE (bW (bS .i64 d 1) e.aO.length) ((tn c (nth (default:aA) e.aO (bS .i64 d 1)).Kind (nth (default:aA) e.aO (bS .i64 d 1)).Name g.Kind g.Name).bind fun A=>l k e d (b6 0 A) g))) (l k e d false g))) fun j=>cond (!bI s.1 0) (j f a b true (nth (default:aA) a.aO b)) ((np c f.eB (nth (default:aA) a.aO b).aY).bind fun B=>cond (!B) (j f a b true (nth (default:aA) a.aO b)) ((dw c (nth (default:aA) a.aO b).Version 1 a.zR).bind fun C=>j f a b (!C) (nth (default:aA) a.aO b))))) (m)
def n9 (k:Nat) (c:aT) (b:aI):Option Bool:=
 cond (bM 40 (b.aO.length:Int)) (some false) (share (some true) fun a=>iter (ts:=eJ) (R:=Bool) k (dJ a) c b (0:Int))
def xt (k:Nat):CT:=⟨94,[.d (.st 4),.d (.st 10)],[],[⟨false,.d .bool,[]⟩],n9 k⟩
abbrev oN:List Ty:=[.st 6,.int .i64]
def kJ (c:Option Bool) (d:Nat) (e:bG→Int→Option Bool) (a:bG) (b:Int):Option Bool:=
 cond (bM b (a.cP.length:Int)) (bE (bW b a.cP.length) ((uS d (zZ a.cP b)).bind fun f=>cond (!f) (some false) (e a (aN .i64 b 1)))) (c)
abbrev oO:List Ty:=[.st 6,.int .i64]
def kK (d:bG→Option Bool) (e:Nat) (f:bG→Int→Option Bool) (a:bG) (b:Int):Option Bool:=
 cond (bM b (a.b_.length:Int)) (share (fun (g:bG) (h:Int) (i:Bool)=>cond i (some false) (f g (aN .i64 h 1))) fun c=>bE (bW b a.b_.length) ((dw e (nth 0 a.b_ b) 1 5).bind fun j=>cond (!j) (c a b true) (cond (bM 0 b) (bE (bW (bS .i64 b 1) a.b_.length) (bE (bW b a.b_.length) (c a b (b6 (nth 0 a.b_ b) (nth 0 a.b_ (bS .i64 b 1)))))) (c a b false)))) (d a)
def jt (k:Nat) (a:bG):Option Bool:=
 share (fun (c:bG) (d:Bool)=>cond d (some false) (share (fun (e:bG)=>share (some true) fun f=>iter (ts:=oN) (R:=Bool) k (kJ f) e (0:Int)) fun g=>iter (ts:=oO) (R:=Bool) k (kK g) c (0:Int))) fun b=>cond (bI (a.b_.length:Int) 0) (b a true) (cond (bM 16 (a.cP.length:Int)) (b a true) (cond (!seq a.Kind ([]:List UInt8)) ((ct k a.Kind).bind fun h=>cond (!h) (b a true) (cond (!seq a.aY ([]:List UInt8)) ((ct k a.aY).bind fun i=>b a (!i)) (b a false))) (cond (!seq a.aY ([]:List UInt8)) ((ct k a.aY).bind fun j=>b a (!j)) (b a false))))
def Ce (k:Nat):CT:=⟨162,[.d (.st 6)],[],[⟨false,.d .bool,[]⟩],jt k⟩
abbrev sU:List Ty:=[.st 10,.int .i64]
def lz (r:Option Bool) (d:Nat) (e:aI→Int→Option Bool) (a:aI) (b:Int):Option Bool:=
 cond (bM b (a.bK.length:Int)) (bE (bW b a.bK.length) (share (fun (f:aI) (g:Int) (h:Bool)=>cond h (some false) (e f (aN .i64 g 1))) fun c=>(dw d (nth (default:aG) a.bK b).Number 1 a.fX).bind fun i=>cond (!i) (c a b true) (cond (bM 0 b) (bE (bW (bS .i64 b 1) a.bK.length) (cond (b6 (nth (default:aG) a.bK b).Number (nth (default:aG) a.bK (bS .i64 b 1)).Number) (c a b true) ((ct d (nth (default:aG) a.bK b).To).bind fun j=>cond (!j) (c a b true) (cond (!seq (nth (default:aG) a.bK b).By ([]:List UInt8)) ((ct d (nth (default:aG) a.bK b).By).bind fun k=>cond (!k) (c a b true) ((jt d (nth (default:aG) a.bK b).cF).bind fun l=>c a b (!l))) ((jt d (nth (default:aG) a.bK b).cF).bind fun m=>c a b (!m)))))) ((ct d (nth (default:aG) a.bK b).To).bind fun n=>cond (!n) (c a b true) (cond (!seq (nth (default:aG) a.bK b).By ([]:List UInt8)) ((ct d (nth (default:aG) a.bK b).By).bind fun o=>cond (!o) (c a b true) ((jt d (nth (default:aG) a.bK b).cF).bind fun p=>c a b (!p))) ((jt d (nth (default:aG) a.bK b).cF).bind fun q=>c a b (!q))))))) (r)
def pI (k:Nat) (a:aI):Option Bool:=
 cond (bM 24 (a.bK.length:Int)) (some false) (share (some true) fun b=>iter (ts:=sU) (R:=Bool) k (lz b) a (0:Int))
def yU (k:Nat):CT:=⟨95,[.d (.st 10)],[],[⟨false,.d .bool,[]⟩],pI k⟩
abbrev v7:List Ty:=[.str,.str,.st 10,.int .i64]
def n_ (g:Option Int) (m:Nat) (h:List UInt8→List UInt8→aI→Int→Option Int) (c:List UInt8) (d:List UInt8) (a:aI) (b:Int):Option Int:=
 cond (bM b (a.aK.length:Int)) (share (fun (i:List UInt8) (j:List UInt8) (k:aI) (e:Int) (l:Bool)=>cond l (some e) (h i j k (aN .i64 e 1))) fun f=>bE (bW b a.aK.length) (cond (seq (nth (default:aE) a.aK b).aY c) (bE (bW b a.aK.length) (f c d a b (seq (nth (default:aE) a.aK b).aL d))) (f c d a b false))) (g)
def o5 (k:Nat) (b:aI) (c:List UInt8) (d:List UInt8):Option Int:=
 share (some (-1)) fun a=>iter (ts:=v7) (R:=Int) k (n_ a) c d b (0:Int)
def vj (k:Nat):CT:=⟨70,[.d (.st 10),.d .str,.d .str],[],[⟨false,.d (.int .i64),[]⟩],o5 k⟩
def gz (k:Nat) (a:aC) (b:aC):Option Int:=
 cond (!seq a.cT b.cT) ((p9 k a.cT b.cT).bind fun c=>some c) ((tn k a.aY a.aL b.aY b.aL).bind fun d=>some d)
def rM (k:Nat):CT:=⟨140,[.d (.st 9),.d (.st 9)],[],[⟨false,.d (.int .i64),[]⟩],gz k⟩
abbrev uU:List Ty:=[.sl (.st 3),.str,.str,.int .i64]
def mV (e:Option Bool) (f:Nat) (g:List aJ→List UInt8→List UInt8→Int→Option Bool) (b:List aJ) (h:List UInt8) (c:List UInt8) (d:Int):Option Bool:=
 cond (bM d 4) ((uT f b h).bind fun a=>cond (seq a ([]:List UInt8)) (some false) (cond (seq a c) (some true) (g b a c (aN .i64 d 1)))) (e)
def xu (k:Nat) (d:List aJ) (a:List UInt8) (b:List UInt8):Option Bool:=
 cond (seq a b) (some true) (share (some false) fun c=>iter (ts:=uU) (R:=Bool) k (mV c) d a b (0:Int))
def z_ (k:Nat):CT:=⟨134,[.d (.sl (.st 3)),.d .str,.d .str],[],[⟨false,.d .bool,[]⟩],xu k⟩
abbrev sV:List Ty:=[.str,.st 5,.sl (.st 0),.int .i64,.int .i64]
def lB (w:Int→Option Int) (n:Nat) (o:List UInt8→aA→List aB→Int→Int→Option Int) (d:List UInt8) (c:aA) (b:List aB) (e:Int) (a:Int):Option Int:=
 cond (bM a (b.length:Int)) (share (fun (p:List UInt8) (q:aA) (r:List aB) (s:Int) (t:Int)=>o p q r s (aN .i64 t 1)) fun h=>bE (bW a c.aP.length) ((o_ n (nth ([]:List UInt8) c.aP a)).bind fun f=>share (fun (i:List UInt8) (j:aA) (k:List aB) (l:Int) (m:Int) (u:Int) (v:Bool)=>cond v (h i j k (aN .i64 l u) m) (h i j k l m)) fun g=>bE (bW a b.length) (cond (bI (nth (default:aB) b a).Kind 1) (bE (bW a b.length) (cond (seq (nth (default:aB) b a).bD d) (g d c b e a f (bM 0 f)) (g d c b e a f false))) (g d c b e a f false)))) (w e)
def pJ (k:Nat) (q:aT) (c:aA) (d:List UInt8):Option Int:=
 (g7 k q.cf c).bind fun e=>share (fun (f:List UInt8) (g:aA) (h:List aB) (i:Bool)=>cond i (some 0) (share (fun (j:List UInt8) (l:aA) (m:List aB) (n:Int)=>share (fun (o:Int)=>some o) fun p=>iter (ts:=sV) (R:=Int) k (lB p) j l m n (0:Int)) fun a=>cond (seq f g.Kind) (a f g h 1) (a f g h 0))) fun b=>cond (!e.2) (b d c e.1 true) (b d c e.1 (seq d ([]:List UInt8)))
def yV (k:Nat):CT:=⟨135,[.d (.st 4),.d (.st 5),.d .str],[],[⟨false,.d (.int .i64),[]⟩],pJ k⟩
abbrev v8:List Ty:=[.str,.str,.st 4,.st 10,.int .i64,.int .i64]
def oa (i:Int→Option Int) (g:Nat) (j:List UInt8→List UInt8→aT→aI→Int→Int→Option Int) (d:List UInt8) (e:List UInt8) (c:aT) (a:aI) (f:Int) (b:Int):Option Int:=
 cond (bM b (a.aO.length:Int)) (share (fun (k:List UInt8) (l:List UInt8) (m:aT) (n:aI) (o:Int) (p:Int)=>j k l m n o (aN .i64 p 1)) fun h=>bE (bW b a.aO.length) ((xu g c.eB (nth (default:aA) a.aO b).aY d).bind fun q=>cond q (bE (bW b a.aO.length) ((pJ g c (nth (default:aA) a.aO b) e).bind fun r=>h d e c a (aN .i64 f r) b)) (h d e c a f b))) (i f)
def ua (k:Nat) (c:aT) (d:aI) (e:List UInt8) (f:List UInt8):Option Int:=
 share (fun (a:Int)=>some a) fun b=>iter (ts:=v8) (R:=Int) k (oa b) e f c d (0:Int) (0:Int)
def Cf (k:Nat):CT:=⟨71,[.d (.st 4),.d (.st 10),.d .str,.d .str],[],[⟨false,.d (.int .i64),[]⟩],ua k⟩
abbrev Aa:List Ty:=[.str,.str,.st 10,.int .i64,.int .i64]
def ub (m:Int→Option Int) (u:Nat) (n:List UInt8→List UInt8→aI→Int→Int→Option Int) (e:List UInt8) (f:List UInt8) (a:aI) (g:Int) (b:Int):Option Int:=
 cond (bM b (a.aU.length:Int)) (share (fun (o:List UInt8) (p:List UInt8) (q:aI) (r:Int) (s:Int)=>n o p q r (aN .i64 s 1)) fun h=>share (fun (i:List UInt8) (j:List UInt8) (c:aI) (k:Int) (d:Int) (t:Bool)=>cond t (bE (bW d c.aU.length) (h i j c (aN .i64 k (nth (default:aC) c.aU d).cm) d)) (h i j c k d)) fun l=>bE (bW b a.aU.length) (cond (seq (nth (default:aC) a.aU b).aY e) (bE (bW b a.aU.length) (l e f a g b (seq (nth (default:aC) a.aU b).aL f))) (l e f a g b false))) (m g)
def A9 (k:Nat) (c:aI) (d:List UInt8) (e:List UInt8):Option Int:=
 share (fun (a:Int)=>some a) fun b=>iter (ts:=Aa) (R:=Int) k (ub b) d e c (0:Int) (0:Int)
def HB (k:Nat):CT:=⟨163,[.d (.st 10),.d .str,.d .str],[],[⟨false,.d (.int .i64),[]⟩],A9 k⟩
abbrev nq:List Ty:=[.st 4,.st 10,.int .i64]
def jb (n:Option Bool) (g:Nat) (o:aT→aI→Int→Option Bool) (d:aT) (a:aI) (b:Int):Option Bool:=
 cond (bM b (a.aK.length:Int)) (bE (bW b a.aK.length) (share (fun (k:aT) (e:aI) (c:Int) (p:Bool) (i:aE)=>cond p (some false) (share (fun (l:aT) (j:aI) (q:Int) (r:Bool) (f:aE)=>cond r (some false) ((ua g l j f.aY f.aL).bind fun s=>(A9 g j f.aY f.aL).bind fun t=>cond (!bI (aN .i64 (aN .i64 s t) f.dP) f.bU) (some false) (o l j (aN .i64 q 1)))) fun m=>cond (bM 0 c) (bE (bW (bS .i64 c 1) e.aK.length) (bE (bW (bS .i64 c 1) e.aK.length) ((tn g (nth (default:aE) e.aK (bS .i64 c 1)).aY (nth (default:aE) e.aK (bS .i64 c 1)).aL i.aY i.aL).bind fun u=>m k e c (b6 0 u) i))) (m k e c false i))) fun h=>(np g d.eB (nth (default:aE) a.aK b).aY).bind fun v=>cond (!v) (h d a b true (nth (default:aE) a.aK b)) ((ct g (nth (default:aE) a.aK b).aL).bind fun w=>cond (!w) (h d a b true (nth (default:aE) a.aK b)) (cond (bM (nth (default:aE) a.aK b).dP 0) (h d a b true (nth (default:aE) a.aK b)) (cond (bM (nth (default:aE) a.aK b).bU (nth (default:aE) a.aK b).dP) (h d a b true (nth (default:aE) a.aK b)) (h d a b (bM 1000000 (nth (default:aE) a.aK b).bU) (nth (default:aE) a.aK b))))))) (n)
abbrev v9:List Ty:=[.st 4,.st 10,.int .i64]
def oc (p:aT→aI→Option Bool) (e:Nat) (f:aT→aI→Int→Option Bool) (c:aT) (a:aI) (b:Int):Option Bool:=
 cond (bM b (a.aU.length:Int)) (bE (bW b a.aU.length) (share (fun (g:aT) (h:aI) (i:Int) (j:Bool)=>cond j (some false) (f g h (aN .i64 i 1))) fun d=>(ct e (nth (default:aC) a.aU b).cT).bind fun k=>cond (!k) (d c a b true) ((o5 e a (nth (default:aC) a.aU b).aY (nth (default:aC) a.aU b).aL).bind fun l=>cond (bM l 0) (d c a b true) ((dw e (nth (default:aC) a.aU b).cm 1 1000000).bind fun m=>cond (!m) (d c a b true) ((dw e (nth (default:aC) a.aU b).ez a.ix (aN .i64 a.ix 10)).bind fun n=>cond (!n) (d c a b true) (cond (bM 0 b) (bE (bW (bS .i64 b 1) a.aU.length) ((gz e (nth (default:aC) a.aU (bS .i64 b 1)) (nth (default:aC) a.aU b)).bind fun o=>d c a b (b6 0 o))) (d c a b false))))))) (p c a)
def uc (k:Nat) (c:aT) (a:aI):Option Bool:=
 share (fun (h:aT) (i:aI) (j:Bool)=>cond j (some false) (share (fun (d:aT) (e:aI)=>share (some true) fun b=>iter (ts:=nq) (R:=Bool) k (jb b) d e (0:Int)) fun f=>iter (ts:=v9) (R:=Bool) k (oc f) h i (0:Int))) fun g=>cond (bM 10 (a.aK.length:Int)) (g c a true) (g c a (bM 24 (a.aU.length:Int)))
def Cg (k:Nat):CT:=⟨96,[.d (.st 4),.d (.st 10)],[],[⟨false,.d .bool,[]⟩],uc k⟩
def pA (k:Nat) (c:aT) (a:aI):Option Bool:=
 share (fun (e:aT) (d:aI) (f:Bool)=>cond f (some false) ((n9 k e d).bind fun g=>cond g ((pI k d).bind fun h=>cond h ((uc k e d).bind fun i=>some i) (some false)) (some false))) fun b=>(rI k c).bind fun j=>cond (!j) (b c a true) ((dw k a.zR 0 1000000).bind fun l=>cond (!l) (b c a true) ((dw k a.ix 0 1000000).bind fun m=>cond (!m) (b c a true) ((dw k a.fX 0 a.zR).bind fun n=>b c a (!n))))
def yW (k:Nat):CT:=⟨34,[.d (.st 4),.d (.st 10)],[],[⟨false,.d .bool,[]⟩],pA k⟩
abbrev xw:List Ty:=[.str,.str,.str,.st 10,.int .i64]
def pK (h:Option Int) (o:Nat) (i:List UInt8→List UInt8→List UInt8→aI→Int→Option Int) (c:List UInt8) (d:List UInt8) (e:List UInt8) (a:aI) (b:Int):Option Int:=
 cond (bM b (a.aU.length:Int)) (share (fun (j:List UInt8) (k:List UInt8) (l:List UInt8) (m:aI) (g:Int) (n:Bool)=>cond n (some g) (i j k l m (aN .i64 g 1))) fun f=>bE (bW b a.aU.length) (cond (seq (nth (default:aC) a.aU b).cT c) (bE (bW b a.aU.length) (cond (seq (nth (default:aC) a.aU b).aY d) (bE (bW b a.aU.length) (f c d e a b (seq (nth (default:aC) a.aU b).aL e))) (f c d e a b false))) (f c d e a b false))) (h)
def wx (k:Nat) (b:aI) (c:List UInt8) (d:List UInt8) (e:List UInt8):Option Int:=
 share (some (-1)) fun a=>iter (ts:=xw) (R:=Int) k (pK a) c d e b (0:Int)
def Df (k:Nat):CT:=⟨65,[.d (.st 10),.d .str,.d .str,.d .str],[],[⟨false,.d (.int .i64),[]⟩],wx k⟩
def zx (_k:Nat) (a:bG):Option ((List UInt8)×(List UInt8)×(List UInt8)×(List Int)):=
 bE (kW (([]:List Int).length+a.b_.length) 8) (some (a.Kind,a.aY,a.cP,(([]:List Int)++a.b_)))
def Ch (k:Nat):CT:=⟨98,[.d (.st 6)],[],[⟨false,.agg [.ow 0,.d .str,.d .str,.d .str],[.row (.int .i64) .vs]⟩],zx k⟩
abbrev oP:List Ty:=[.int .i64,.st 10,.int .i64,.int .i64,.int .i64,.int .i64,.int .i64,.int .i64,.sl (.st 5),.sl (.st 7),.sl (.st 8),.sl (.st 9),.sl (.st 5),.sl (.st 7),.sl (.st 8),.sl (.st 9)]
def kL (r:aI→Int→Int→Int→Int→Int→Int→List aA→List aG→List aE→List aC→List aA→List aG→List aE→List aC→Option (Int×Int×Int×(List aA)×(List aG)×(List aE)×(List aC))) (s:Nat) (t:Int→aI→Int→Int→Int→Int→Int→Int→List aA→List aG→List aE→List aC→List aA→List aG→List aE→List aC→Option (Int×Int×Int×(List aA)×(List aG)×(List aE)×(List aC))) (b:Int) (a:aI) (e:Int) (f:Int) (g:Int) (h:Int) (i:Int) (j:Int) (k:List aA) (l:List aG) (m:List aE) (n:List aC) (o:List aA) (d:List aG) (p:List aE) (q:List aC):Option (Int×Int×Int×(List aA)×(List aG)×(List aE)×(List aC)):=
 cond (bM b (a.bK.length:Int)) (bE (bW b a.bK.length) ((zx s (nth (default:aG) a.bK b).cF).bind fun c=>bE (kW (d.length+([(⟨(nth (default:aG) a.bK b).Number,(nth (default:aG) a.bK b).To,(nth (default:aG) a.bK b).By,(⟨c.2.2.2,c.1,c.2.1,c.2.2.1⟩:bG)⟩:aG)]:List aG).length) 112) (t (aN .i64 b 1) a e f g h i j k l m n o (d++([(⟨(nth (default:aG) a.bK b).Number,(nth (default:aG) a.bK b).To,(nth (default:aG) a.bK b).By,(⟨c.2.2.2,c.1,c.2.1,c.2.2.1⟩:bG)⟩:aG)]:List aG)) p q))) (r a e f g h i j k l m n o d p q)
abbrev oQ:List Ty:=[.int .i64,.st 10,.int .i64,.int .i64,.int .i64,.int .i64,.int .i64,.int .i64,.sl (.st 5),.sl (.st 7),.sl (.st 8),.sl (.st 9),.sl (.st 5),.sl (.st 7),.sl (.st 8),.sl (.st 9)]
def kM (t:aI→Int→Int→Int→Int→Int→Int→List aA→List aG→List aE→List aC→List aA→List aG→List aE→List aC→Option (Int×Int×Int×(List aA)×(List aG)×(List aE)×(List aC))) (r:Nat) (s:Int→aI→Int→Int→Int→Int→Int→Int→List aA→List aG→List aE→List aC→List aA→List aG→List aE→List aC→Option (Int×Int×Int×(List aA)×(List aG)×(List aE)×(List aC))) (c:Int) (b:aI) (e:Int) (f:Int) (g:Int) (h:Int) (i:Int) (j:Int) (k:List aA) (l:List aG) (m:List aE) (n:List aC) (d:List aA) (o:List aG) (p:List aE) (q:List aC):Option (Int×Int×Int×(List aA)×(List aG)×(List aE)×(List aC)):=
 cond (bM c (b.aO.length:Int)) (bE (bW c b.aO.length) ((mo r (nth (default:aA) b.aO c)).bind fun a=>bE (kW (d.length+([(⟨a.1,a.2.1,a.2.2.1,a.2.2.2.2.2.1,a.2.2.2.1,a.2.2.2.2.2.2,a.2.2.2.2.1⟩:aA)]:List aA).length) 112) (s (aN .i64 c 1) b e f g h i j k l m n (d++([(⟨a.1,a.2.1,a.2.2.1,a.2.2.2.2.2.1,a.2.2.2.1,a.2.2.2.2.2.2,a.2.2.2.2.1⟩:aA)]:List aA)) o p q))) (t b e f g h i j k l m n d o p q)
def tR (k:Nat) (d:aI):Option (Int×Int×Int×(List aA)×(List aG)×(List aE)×(List aC)):=
 share (fun (h:aI) (i:Int) (j:Int) (l:Int) (m:Int) (n:Int) (o:Int) (p:List aA) (q:List aG) (r:List aE) (s:List aC) (t:List aA) (u:List aG) (v:List aE) (w:List aC)=>share (fun (a:aI) (E:Int) (F:Int) (G:Int) (x:Int) (y:Int) (z:Int) (H:List aA) (B:List aG) (C:List aE) (D:List aC) (e:List aA) (f:List aG) (b:List aE) (c:List aC)=>bE (kW (b.length+a.aK.length) 48) (bE (kW (c.length+a.aU.length) 64) (some (x,y,z,e,f,(b++a.aK),(c++a.aU))))) fun g=>iter (ts:=oP) (R:=Int×Int×Int×(List aA)×(List aG)×(List aE)×(List aC)) k (kL g) (0:Int) h i j l m n o p q r s t u v w) fun A=>iter (ts:=oQ) (R:=Int×Int×Int×(List aA)×(List aG)×(List aE)×(List aC)) k (kM A) (0:Int) d (0:Int) (0:Int) (0:Int) d.zR d.ix d.fX [] [] [] [] [] [] [] []
def Ci (k:Nat):CT:=⟨35,[.d (.st 10)],[],[⟨false,.agg [.d (.int .i64),.d (.int .i64),.d (.int .i64),.ow 0,.ow 1,.ow 2,.ow 3],[.row (.st 5) .dv,.row (.st 7) .dv,.row (.st 8) .vs,.row (.st 9) .vs]⟩],tR k⟩
def ud (_k:Nat) (a:Int):Option Bool:=
 cond (b6 97 a) (cond (b6 a 122) (some true) (cond (b6 48 a) (cond (b6 a 57) (some true) (some (bI a 45))) (some (bI a 45)))) (cond (b6 48 a) (cond (b6 a 57) (some true) (some (bI a 45))) (some (bI a 45)))
def Cj (k:Nat):CT:=⟨181,[.d (.int .u8)],[],[⟨false,.d .bool,[]⟩],ud k⟩
abbrev uV:List Ty:=[.str,.int .i64,.int .i64]
def mW (d:Option Bool) (e:Nat) (f:List UInt8→Int→Int→Option Bool) (b:List UInt8) (c:Int) (a:Int):Option Bool:=
 cond (bM a c) (bE (bW a b.length) ((ud e (zZ b a)).bind fun g=>cond (!g) (some false) (f b c (aN .i64 a 1)))) (d)
def fM (k:Nat) (a:List UInt8):Option Bool:=
 share (some true) fun b=>iter (ts:=uV) (R:=Bool) k (mW b) a (a.length:Int) (0:Int)
def tp (k:Nat):CT:=⟨137,[.d .str],[],[⟨false,.d .bool,[]⟩],fM k⟩
def cR (k:Nat) (a:List UInt8):Option Bool:=
 cond (b6 1 (a.length:Int)) (cond (b6 (a.length:Int) 16) ((fM k a).bind fun b=>some b) (some false)) (some false)
def dQ (k:Nat):CT:=⟨74,[.d .str],[],[⟨false,.d .bool,[]⟩],cR k⟩
abbrev oH:List Ty:=[.sl .str,.sl .str,.int .i64,.int .i64]
def gU (f:Option Bool) (g:Nat) (h:List (List UInt8)→List (List UInt8)→Int→Int→Option Bool) (c:List (List UInt8)) (b:List (List UInt8)) (d:Int) (a:Int):Option Bool:=
 cond (bM a d) (bE (bW a b.length) (share (fun (i:List (List UInt8)) (j:List (List UInt8)) (k:Int) (l:Int) (m:Bool)=>cond m (some false) (h i j k (aN .i64 l 1))) fun e=>(cR g (nth ([]:List UInt8) b a)).bind fun n=>cond (!n) (e c b d a true) (cond (bM 0 a) (bE (bW (bS .i64 a 1) c.length) (e c b d a (!slt (nth ([]:List UInt8) c (bS .i64 a 1)) (nth ([]:List UInt8) b a)))) (e c b d a false)))) (f)
def eV (k:Nat) (a:List (List UInt8)):Option Bool:=
 share (some true) fun b=>iter (ts:=oH) (R:=Bool) k (gU b) a a (a.length:Int) (0:Int)
def ir (k:Nat):CT:=⟨214,[.d (.sl .str)],[],[⟨false,.d .bool,[]⟩],eV k⟩
def ue (_k:Nat) (a:aB):Option bH:=
 some (⟨a⟩:bH)
def Ck (k:Nat):CT:=⟨233,[.d (.st 0)],[],[⟨false,.oR 292 (.d (.st 14)),[]⟩],ue k⟩
def uf (_k:Nat) (a:aB):Option bH:=
 some (⟨a⟩:bH)
def Cl (k:Nat):CT:=⟨232,[.d (.st 0)],[],[⟨false,.oR 291 (.d (.st 14)),[]⟩],uf k⟩
def ug (_k:Nat) (a:aB):Option bH:=
 some (⟨a⟩:bH)
def Cm (k:Nat):CT:=⟨231,[.d (.st 0)],[],[⟨false,.oR 290 (.d (.st 14)),[]⟩],ug k⟩
def uh (_k:Nat) (a:aB):Option bH:=
 some (⟨a⟩:bH)
def Cn (k:Nat):CT:=⟨230,[.d (.st 0)],[],[⟨false,.oR 288 (.d (.st 14)),[]⟩],uh k⟩
def uW (k:Nat) (a:aB):Option (Unit ⊕ (bH ⊕ (bH ⊕ (bH ⊕ bH)))):=
 cond (bI a.Kind 1) ((uh k a).bind fun b=>some (.inr (.inr (.inr (.inr b))))) (cond (bI a.Kind 2) ((ug k a).bind fun c=>some (.inr (.inr (.inr (.inl c))))) (cond (bI a.Kind 3) ((uf k a).bind fun d=>some (.inr (.inr (.inl d)))) (cond (bI a.Kind 4) ((ue k a).bind fun e=>some (.inr (.inl e))) (some (.inl ())))))
def zy (k:Nat):CT:=⟨224,[.d (.st 0)],[],[⟨false,.ov [.Qg,.kb false],[]⟩,⟨false,.ov [.oR 292 (.d (.st 14)),.kb true],[]⟩,⟨false,.ov [.oR 291 (.d (.st 14)),.kb true],[]⟩,⟨false,.ov [.oR 290 (.d (.st 14)),.kb true],[]⟩,⟨false,.ov [.oR 288 (.d (.st 14)),.kb true],[]⟩],uW k⟩
def nr (_k:Nat) (a:bH):Option Bool:=
 cond (bI a.aB.bR 0) (cond (bI a.aB.bU 0) (cond (bI (a.aB.Words.length:Int) 0) (some (seq a.aB.bD ([]:List UInt8))) (some false)) (some false)) (some false)
def rN (k:Nat):CT:=⟨267,[.d (.st 14)],[],[⟨false,.d .bool,[]⟩],nr k⟩
abbrev ns:List Ty:=[.st 14,.bool,.sl .str,.int .i64,.int .i64]
def gh (g:bH→Bool→Option Bool) (n:Nat) (h:bH→Bool→List (List UInt8)→Int→Int→Option Bool) (b:bH) (e:Bool) (c:List (List UInt8)) (d:Int) (a:Int):Option Bool:=
 cond (bM a d) (share (fun (i:bH) (j:Bool) (k:List (List UInt8)) (l:Int) (m:Int)=>h i j k l (aN .i64 m 1)) fun f=>bE (bW a c.length) (cond e (f b true c d a) (f b (seq (nth ([]:List UInt8) c a) b.aB.To) c d a))) (g b e)
def jc (k:Nat) (e:bH) (b:List (List UInt8)):Option Bool:=
 share (fun (a:bH) (c:Bool)=>cond c (cond (b6 1 a.aB.cB) (cond (b6 a.aB.cB 3) (cond (seq a.aB.Default ([]:List UInt8)) (cond (bI a.aB.cB 2) (some (!a.aB.cV)) (some true)) (some false)) (some false)) (some false)) (some false)) fun d=>iter (ts:=ns) (R:=Bool) k (gh d) e false b (b.length:Int) (0:Int)
def rO (k:Nat):CT:=⟨269,[.d (.st 14),.d (.sl .str)],[],[⟨false,.d .bool,[]⟩],jc k⟩
def oS (k:Nat) (c:bH) (a:List UInt8):Option Bool:=
 (cR k a).bind fun b=>some b
def sW (k:Nat):CT:=⟨268,[.d (.st 14),.d .str],[],[⟨false,.d .bool,[]⟩],oS k⟩
abbrev oI:List Ty:=[.str,.int .i64,.int .i64]
def gV (e:Option Bool) (k:Nat) (f:List UInt8→Int→Int→Option Bool) (b:List UInt8) (c:Int) (a:Int):Option Bool:=
 cond (bM a c) (share (fun (g:List UInt8) (h:Int) (i:Int) (j:Bool)=>cond j (some false) (f g h (aN .i64 i 1))) fun d=>bE (bW a b.length) (cond (bM (zZ b a) 33) (d b c a true) (bE (bW a b.length) (d b c a (bM 126 (zZ b a)))))) (e)
def jV (k:Nat) (b:bH) (a:List UInt8):Option Bool:=
 share (fun (c:List UInt8) (f:Bool)=>cond f (some false) (share (some true) fun d=>iter (ts:=oI) (R:=Bool) k (gV d) c (c.length:Int) (0:Int))) fun e=>cond (bM (a.length:Int) b.aB.bR) (e a true) (e a (bM b.aB.bU (a.length:Int)))
def sX (k:Nat):CT:=⟨265,[.d (.st 14),.d .str],[],[⟨false,.d .bool,[]⟩],jV k⟩
abbrev oJ:List Ty:=[.str,.sl .str,.int .i64,.int .i64]
def gW (f:Option Bool) (g:Nat) (e:List UInt8→List (List UInt8)→Int→Int→Option Bool) (c:List UInt8) (b:List (List UInt8)) (d:Int) (a:Int):Option Bool:=
 cond (bM a d) (bE (bW a b.length) (cond (seq (nth ([]:List UInt8) b a) c) (some true) (e c b d (aN .i64 a 1)))) (f)
def jW (k:Nat) (a:bH) (b:List UInt8):Option Bool:=
 share (some false) fun c=>iter (ts:=oJ) (R:=Bool) k (gW c) b a.aB.Words (a.aB.Words.length:Int) (0:Int)
def sY (k:Nat):CT:=⟨262,[.d (.st 14),.d .str],[],[⟨false,.d .bool,[]⟩],jW k⟩
abbrev xy:List Ty:=[.str,.int .i64,.int .i64,.int .i64]
def pL (l:Int→Option (Int×Bool)) (n:Nat) (m:List UInt8→Int→Int→Int→Option (Int×Bool)) (b:List UInt8) (d:Int) (e:Int) (a:Int):Option (Int×Bool):=
 cond (bM a e) (share (fun (c:List UInt8) (h:Int) (f:Int) (i:Int) (j:Int) (k:Bool)=>cond k (some (0,false)) (bE (bW f c.length) (m c (aN .i64 (W6 .i64 h 10) (yE .i64 (bS .u8 (zZ c f) 48))) i (aN .i64 j 1)))) fun g=>bE (bW a b.length) (cond (bM (zZ b a) 48) (g b d a e a true) (bE (bW a b.length) (g b d a e a (bM 57 (zZ b a)))))) (l d)
def rP (k:Nat) (a:List UInt8):Option (Int×Bool):=
 share (fun (c:List UInt8) (f:Bool)=>cond f (some (0,false)) (share (fun (d:Int)=>some (d,true)) fun e=>iter (ts:=xy) (R:=Int×Bool) k (pL e) c (0:Int) (c.length:Int) (0:Int))) fun b=>cond (bM (a.length:Int) 1) (b a true) (cond (bM 7 (a.length:Int)) (b a true) (bE (bW 0 a.length) (cond (bI (zZ a 0) 48) (b a (bM 1 (a.length:Int))) (b a false))))
def xz (k:Nat):CT:=⟨182,[.d .str],[],[⟨false,.ov [.d (.int .i64),.d .bool],[]⟩],rP k⟩
def iu (k:Nat) (b:bH) (c:List UInt8):Option Bool:=
 (rP k c).bind fun a=>cond a.2 (cond (b6 b.aB.bR a.1) (some (b6 a.1 b.aB.bU)) (some false)) (some false)
def qC (k:Nat):CT:=⟨259,[.d (.st 14),.d .str],[],[⟨false,.d .bool,[]⟩],iu k⟩
def fB (k:Nat) (o:aB) (a:List UInt8):Option Bool:=
 (uW k o).bind fun b=>xA b (fun p=>some false) (fun c=>xA c (fun d=>cond (!seq a ([]:List UInt8)) ((oS k d a).bind fun e=>some e) (some false)) (fun f=>xA f (fun g=>cond (!seq a ([]:List UInt8)) ((jV k g a).bind fun h=>some h) (some false)) (fun i=>xA i (fun j=>cond (!seq a ([]:List UInt8)) ((jW k j a).bind fun l=>some l) (some false)) (fun m=>cond (!seq a ([]:List UInt8)) ((iu k m a).bind fun n=>some n) (some false)))))
def pM (k:Nat):CT:=⟨218,[.d (.st 0),.d .str],[],[⟨false,.d .bool,[]⟩],fB k⟩
def nu (_k:Nat) (a:bH):Option Bool:=
 cond (bI (a.aB.Words.length:Int) 0) (cond (seq a.aB.To ([]:List UInt8)) (cond (bI a.aB.cB 0) (some (seq a.aB.bD ([]:List UInt8))) (some false)) (some false)) (some false)
def rQ (k:Nat):CT:=⟨264,[.d (.st 14)],[],[⟨false,.d .bool,[]⟩],nu k⟩
def nv (_k:Nat) (a:bH) (b:List (List UInt8)):Option Bool:=
 cond (b6 1 a.aB.bR) (cond (b6 a.aB.bR a.aB.bU) (some (b6 a.aB.bU 40)) (some false)) (some false)
def rR (k:Nat):CT:=⟨266,[.d (.st 14),.d (.sl .str)],[],[⟨false,.d .bool,[]⟩],nv k⟩
def nw (_k:Nat) (a:bH):Option Bool:=
 cond (bI a.aB.bR 0) (cond (bI a.aB.bU 0) (cond (seq a.aB.To ([]:List UInt8)) (cond (bI a.aB.cB 0) (some (seq a.aB.bD ([]:List UInt8))) (some false)) (some false)) (some false)) (some false)
def rS (k:Nat):CT:=⟨261,[.d (.st 14)],[],[⟨false,.d .bool,[]⟩],nw k⟩
def nx (k:Nat) (a:bH) (c:List (List UInt8)):Option Bool:=
 cond (b6 1 (a.aB.Words.length:Int)) (cond (b6 (a.aB.Words.length:Int) 6) ((eV k a.aB.Words).bind fun b=>some b) (some false)) (some false)
def rT (k:Nat):CT:=⟨263,[.d (.st 14),.d (.sl .str)],[],[⟨false,.d .bool,[]⟩],nx k⟩
def lC (_k:Nat) (a:bH):Option Bool:=
 cond (bI (a.aB.Words.length:Int) 0) (cond (seq a.aB.To ([]:List UInt8)) (some (bI a.aB.cB 0)) (some false)) (some false)
def pb (k:Nat):CT:=⟨258,[.d (.st 14)],[],[⟨false,.d .bool,[]⟩],lC k⟩
def lD (k:Nat) (a:bH) (c:List (List UInt8)):Option Bool:=
 cond (b6 0 a.aB.bR) (cond (b6 a.aB.bR a.aB.bU) (cond (b6 a.aB.bU 1000000) (cond (seq a.aB.bD ([]:List UInt8)) (some true) ((cR k a.aB.bD).bind fun b=>some b)) (some false)) (some false)) (some false)
def pc (k:Nat):CT:=⟨260,[.d (.st 14),.d (.sl .str)],[],[⟨false,.d .bool,[]⟩],lD k⟩
abbrev p_:List Ty:=[.sl .str,.sl (.st 0),.int .i64,.int .i64,.sl (.st 15)]
def mc (bw:Option Bool) (d:Nat) (bx:List (List UInt8)→List aB→Int→Int→List cx→Option Bool) (Y:List (List UInt8)) (b:List aB) (q:Int) (a:Int) (j:List cx):Option Bool:=
 cond (bM a q) (share (fun (Z:List (List UInt8)) (aa:List aB) (ab:Int) (ad:Int) (ae:List cx)=>bx Z aa ab (aN .i64 ad 1) ae) fun k=>bE (bW a b.length) (share (fun (c:List (List UInt8)) (f:List aB) (g:Int) (h:Int) (af:Bool) (i:List cx) (e:aB)=>cond af (some false) ((uW d e).bind fun ag=>xA ag (fun bz=>some false) (fun ah=>xA ah (fun r=>share (fun (s:List (List UInt8)) (t:List aB) (u:Int) (v:Int) (ai:Bool) (w:List cx) (l:aB)=>cond ai (some false) (share (fun (aj:List (List UInt8)) (ak:List aB) (al:Int) (an:Int) (ao:Bool) (aq:List cx)=>cond ao (some false) (k aj ak al an aq)) fun x=>cond (!seq l.Default ([]:List UInt8)) ((fB d l l.Default).bind fun ar=>x s t u v (!ar) w) (x s t u v false w))) fun y=>(nr d r).bind fun au=>cond (!au) (y c f g h true i e) ((jc d r c).bind fun av=>y c f g h (!av) i e)) (fun aw=>xA aw (fun z=>share (fun (A:List (List UInt8)) (B:List aB) (C:Int) (D:Int) (ax:Bool) (E:List cx) (m:aB)=>cond ax (some false) (share (fun (ay:List (List UInt8)) (az:List aB) (a0:Int) (a1:Int) (a2:Bool) (a3:List cx)=>cond a2 (some false) (k ay az a0 a1 a3)) fun F=>cond (!seq m.Default ([]:List UInt8)) ((fB d m m.Default).bind fun a4=>F A B C D (!a4) E) (F A B C D false E))) fun G=>(nu d z).bind fun a5=>cond (!a5) (G c f g h true i e) ((nv d z c).bind fun a6=>G c f g h (!a6) i e)) (fun a7=>xA a7 (fun H=>share (fun (I:List (List UInt8)) (J:List aB) (K:Int) (L:Int) (a8:Bool) (M:List cx) (n:aB)=>cond a8 (some false) (share (fun (a9:List (List UInt8)) (ba:List aB) (bb:Int) (bc:Int) (bd:Bool) (bf:List cx)=>cond bd (some false) (k a9 ba bb bc bf)) fun N=>cond (!seq n.Default ([]:List UInt8)) ((fB d n n.Default).bind fun bg=>N I J K L (!bg) M) (N I J K L false M))) fun O=>(nw d H).bind fun bh=>cond (!bh) (O c f g h true i e) ((nx d H c).bind fun bj=>O c f g h (!bj) i e)) (fun P=>share (fun (Q:List (List UInt8)) (R:List aB) (S:Int) (T:Int) (bk:Bool) (U:List cx) (o:aB)=>cond bk (some false) (share (fun (bl:List (List UInt8)) (bm:List aB) (bn:Int) (bo:Int) (bp:Bool) (bq:List cx)=>cond bp (some false) (k bl bm bn bo bq)) fun V=>cond (!seq o.Default ([]:List UInt8)) ((fB d o o.Default).bind fun br=>V Q R S T (!br) U) (V Q R S T false U))) fun W=>(lC d P).bind fun bs=>cond (!bs) (W c f g h true i e) ((lD d P c).bind fun bt=>W c f g h (!bt) i e))))))) fun X=>(cR d (nth (default:aB) b a).Name).bind fun bu=>cond (!bu) (X Y b q a true (oM (fun p:cx=>seq (nth (default:aB) b a).Name p.Key) j (⟨(nth (default:aB) b a).Name,(aN .i64 (m7 (fun p:cx=>seq (nth (default:aB) b a).Name p.Key) (fun p:cx=>p.L4) 0 j) 1)⟩:cx)) (nth (default:aB) b a)) (X Y b q a (bM 1 (m7 (fun p:cx=>seq (nth (default:aB) b a).Name p.Key) (fun p:cx=>p.L4) 0 (oM (fun p:cx=>seq (nth (default:aB) b a).Name p.Key) j (⟨(nth (default:aB) b a).Name,(aN .i64 (m7 (fun p:cx=>seq (nth (default:aB) b a).Name p.Key) (fun p:cx=>p.L4) 0 j) 1)⟩:cx)))) (oM (fun p:cx=>seq (nth (default:aB) b a).Name p.Key) j (⟨(nth (default:aB) b a).Name,(aN .i64 (m7 (fun p:cx=>seq (nth (default:aB) b a).Name p.Key) (fun p:cx=>p.L4) 0 j) 1)⟩:cx)) (nth (default:aB) b a)))) (bw)
def wD (k:Nat) (a:aD) (c:List (List UInt8)):Option Bool:=
 cond (bM 6 (a.aW.length:Int)) (some false) (share (some true) fun b=>iter (ts:=p_) (R:=Bool) k (mc b) c a.aW (a.aW.length:Int) (0:Int) ([]:List cx))
def Dg (k:Nat):CT:=⟨215,[.d (.st 1),.d (.sl .str)],[],[⟨false,.d .bool,[]⟩],wD k⟩
abbrev pd:List Ty:=[.sl (.st 1),.int .i64,.int .i64,.sl .str]
def iv (e:Option Bool) (f:Nat) (g:List aD→Int→Int→List (List UInt8)→Option Bool) (b:List aD) (c:Int) (a:Int) (d:List (List UInt8)):Option Bool:=
 cond (bM a c) (bE (bW a b.length) ((wD f (nth (default:aD) b a) d).bind fun h=>cond (!h) (some false) (g b c (aN .i64 a 1) d))) (e)
abbrev qD:List Ty:=[.sl (.st 1),.sl (.st 1),.int .i64,.int .i64,.sl .str]
def jd (f:List aD→List (List UInt8)→Option Bool) (h:Nat) (g:List aD→List aD→Int→Int→List (List UInt8)→Option Bool) (d:List aD) (b:List aD) (e:Int) (a:Int) (c:List (List UInt8)):Option Bool:=
 cond (bM a e) (bE (bW a b.length) (bE (kW (c.length+([(nth (default:aD) b a).Kind]:List (List UInt8)).length) 16) (g d b e (aN .i64 a 1) (c++([(nth (default:aD) b a).Kind]:List (List UInt8)))))) (f d c)
def gi (k:Nat) (a:List aD):Option Bool:=
 cond (bM 6 (a.length:Int)) (some false) (bE (Gf 0 (a.length:Int) 16) (share (fun (b:List aD) (c:List (List UInt8))=>(eV k c).bind fun d=>cond (!d) (some false) (share (some true) fun e=>iter (ts:=pd) (R:=Bool) k (iv e) b (b.length:Int) (0:Int) c)) fun f=>iter (ts:=qD) (R:=Bool) k (jd f) a a (a.length:Int) (0:Int) (List.replicate (Int.toNat 0) ([]:List UInt8))))
def jX (k:Nat):CT:=⟨198,[.d (.sl (.st 1))],[],[⟨false,.d .bool,[]⟩],gi k⟩
abbrev xB:List Ty:=[.str,.sl (.st 1),.int .i64,.int .i64]
def pN (f:Option Int) (g:Nat) (e:List UInt8→List aD→Int→Int→Option Int) (c:List UInt8) (b:List aD) (d:Int) (a:Int):Option Int:=
 cond (bM a d) (bE (bW a b.length) (cond (seq (nth (default:aD) b a).Kind c) (some a) (e c b d (aN .i64 a 1)))) (f)
def lE (k:Nat) (a:List aD) (b:List UInt8):Option Int:=
 share (some (-1)) fun c=>iter (ts:=xB) (R:=Int) k (pN c) b a (a.length:Int) (0:Int)
def ny (k:Nat):CT:=⟨185,[.d (.sl (.st 1)),.d .str],[],[⟨false,.d (.int .i64),[]⟩],lE k⟩
abbrev xC:List Ty:=[.str,.sl (.st 0),.int .i64,.int .i64]
def pO (f:Option Int) (g:Nat) (e:List UInt8→List aB→Int→Int→Option Int) (c:List UInt8) (b:List aB) (d:Int) (a:Int):Option Int:=
 cond (bM a d) (bE (bW a b.length) (cond (seq (nth (default:aB) b a).Name c) (some a) (e c b d (aN .i64 a 1)))) (f)
def je (k:Nat) (a:List aB) (b:List UInt8):Option Int:=
 share (some (-1)) fun c=>iter (ts:=xC) (R:=Int) k (pO c) b a (a.length:Int) (0:Int)
def nz (k:Nat):CT:=⟨217,[.d (.sl (.st 0)),.d .str],[],[⟨false,.d (.int .i64),[]⟩],je k⟩
def ju (k:Nat) (c:List UInt8) (a:List aB):Option (Bool×(List aB)):=
 (je k a c).bind fun b=>cond (b6 0 b) (bE (bW b a.length) (some ((!bI (nth (default:aB) a b).Kind 4),a))) (some (false,a))
def Co (k:Nat):CT:=⟨216,[.d .str,.bp 0 0],[.box [.d (.sl (.st 0))]],[⟨false,.d .bool,[.box [.d (.sl (.st 0))]]⟩],ju k⟩
def yX (k:Nat) (q:List aB) (b:aF):Option Bool:=
 share (fun (a:aF) (n:Bool) (d:List aB)=>cond n (some false) (share (fun (h:aF) (o:Bool) (i:List aB)=>cond o (some false) (cond (seq h.sq ([]:List UInt8)) (some true) ((je k i h.Field).bind fun j=>bE (bW j i.length) ((fB k (nth (default:aB) i j) h.sq).bind fun p=>some p)))) fun e=>cond (seq a.db a.Field) (e a true d) (cond (seq a.cM a.Field) (e a true d) (cond (seq a.db ([]:List UInt8)) (cond (!seq a.Is ([]:List UInt8)) (e a true d) (e a (beq (seq a.sq ([]:List UInt8)) (seq a.cM ([]:List UInt8))) d)) (e a (beq (seq a.sq ([]:List UInt8)) (seq a.cM ([]:List UInt8))) d))))) fun c=>(ju k b.Field q).bind fun f=>cond (!f.1) (c b true f.2) (cond (!seq b.db ([]:List UInt8)) ((ju k b.db f.2).bind fun g=>cond (!g.1) (c b true g.2) (cond (!seq b.cM ([]:List UInt8)) ((ju k b.cM g.2).bind fun l=>c b (!l.1) l.2) (c b false g.2))) (cond (!seq b.cM ([]:List UInt8)) ((ju k b.cM f.2).bind fun m=>c b (!m.1) m.2) (c b false f.2)))
def FR (k:Nat):CT:=⟨199,[.d (.sl (.st 0)),.d (.st 2)],[],[⟨false,.d .bool,[]⟩],yX k⟩
abbrev xD:List Ty:=[.str,.sl (.st 2),.int .i64,.int .i64,.sl (.st 2),.st 1,.sl .str]
def pP (z:List aF→aD→List (List UInt8)→Option ((List (List UInt8))×(List aF)×aD)) (A:Nat) (r:List UInt8→List aF→Int→Int→List aF→aD→List (List UInt8)→Option ((List (List UInt8))×(List aF)×aD)) (f:List UInt8) (b:List aF) (g:Int) (a:Int) (h:List aF) (d:aD) (c:List (List UInt8)):Option ((List (List UInt8))×(List aF)×aD):=
 cond (bM a g) (share (fun (s:List UInt8) (t:List aF) (u:Int) (v:Int) (w:List aF) (x:aD) (y:List (List UInt8))=>r s t u (aN .i64 v 1) w x y) fun e=>bE (bW a b.length) (cond (!seq (nth (default:aF) b a).Kind d.Kind) (e f b g a h d c) (cond (!seq (nth (default:aF) b a).Field f) (e f b g a h d c) (share (fun (k:List UInt8) (l:List aF) (m:Int) (n:Int) (o:List aF) (p:aD) (i:List (List UInt8)) (j:aF)=>cond (!seq j.cM ([]:List UInt8)) (bE (kW (i.length+([j.cM]:List (List UInt8)).length) 16) (e k l m n o p (i++([j.cM]:List (List UInt8))))) (e k l m n o p i)) fun q=>cond (!seq (nth (default:aF) b a).db ([]:List UInt8)) (bE (kW (c.length+([(nth (default:aF) b a).db]:List (List UInt8)).length) 16) (q f b g a h d (c++([(nth (default:aF) b a).db]:List (List UInt8))) (nth (default:aF) b a))) (q f b g a h d c (nth (default:aF) b a)))))) (z h d c)
def wE (k:Nat) (f:List UInt8) (a:List aF) (g:aD):Option ((List (List UInt8))×(List aF)×aD):=
 share (fun (b:List aF) (c:aD) (d:List (List UInt8))=>some (d,b,c)) fun e=>iter (ts:=xD) (R:=(List (List UInt8))×(List aF)×aD) k (pP e) f a (a.length:Int) (0:Int) a g []
def Dh (k:Nat):CT:=⟨220,[.d .str,.bp 0 0,.bp 1 0],[.box [.d (.sl (.st 2))],.c7 (.st 1)],[⟨false,.d (.sl .str),[.box [.d (.sl (.st 2))],.c7 (.st 1)]⟩],wE k⟩
abbrev jv:List Ty:=[.str,.sl .str,.int .i64,.int .i64,.sl (.st 15),.sl (.st 2),.st 1,.sl .str]
def dO (aeE:Nat→List UInt8→List cx→List aF→aD→List (List UInt8)→Option (Bool×(List cx)×(List aF)×aD×(List (List UInt8)))) (j:List UInt8→List cx→List aF→aD→List (List UInt8)→Option (Bool×(List cx)×(List aF)×aD×(List (List UInt8)))) (k:Nat) (l:List UInt8→List (List UInt8)→Int→Int→List cx→List aF→aD→List (List UInt8)→Option (Bool×(List cx)×(List aF)×aD×(List (List UInt8)))) (d:List UInt8) (c:List (List UInt8)) (e:Int) (b:Int) (f:List cx) (g:List aF) (h:aD) (i:List (List UInt8)):Option (Bool×(List cx)×(List aF)×aD×(List (List UInt8))):=
 cond (bM b e) (bE (bW b c.length) ((aeE k (nth ([]:List UInt8) c b) f g h i).bind fun a=>cond (!a.1) (some (false,a.2.1,a.2.2.1,a.2.2.2.1,a.2.2.2.2)) (l d c e (aN .i64 b 1) a.2.1 a.2.2.1 a.2.2.2.1 a.2.2.2.2))) (j d f g h i)
def d_:Nat→Nat→List UInt8→List cx→List aF→aD→List (List UInt8)→Option (Bool×(List cx)×(List aF)×aD×(List (List UInt8)))
 | 0,_,_,_,_,_,_=>none
 | n+1,k,c,d,f,g,h=>
 cond (bI (m7 (fun p:cx=>seq c p.Key) (fun p:cx=>p.L4) 0 d) 1) (some (false,d,f,g,h)) (cond (bI (m7 (fun p:cx=>seq c p.Key) (fun p:cx=>p.L4) 0 d) 2) (some (true,d,f,g,h)) (share (fun (a:List UInt8) (i:List cx) (j:List aF) (l:aD) (e:List (List UInt8))=>bE (kW (e.length+([a]:List (List UInt8)).length) 16) (some (true,(oM (fun p:cx=>seq a p.Key) i (⟨a,2⟩:cx)),j,l,(e++([a]:List (List UInt8)))))) fun m=>(wE k c f g).bind fun b=>iter (ts:=jv) (R:=Bool×(List cx)×(List aF)×aD×(List (List UInt8))) k (dO (d_ n) m) c b.1 (b.1.length:Int) (0:Int) (oM (fun p:cx=>seq c p.Key) d (⟨c,1⟩:cx)) b.2.1 b.2.2 h))
def lF (n k:Nat):CT:=⟨225,[.d .str,.bp 0 0,.bp 1 0,.bp 2 0,.bp 3 0],[.box [.mp 4],.box [.fn (.func 220) [] [.bp 5 0,.bp 6 0]],.box [.fn (.func 225) [] [.bp 0 0,.bp 1 0,.bp 2 0,.bp 3 0]],.box [.ow 7],.dmap 15,.box [.d (.sl (.st 2))],.c7 (.st 1),.row .str .vs],[⟨false,.d .bool,[.box [.mp 4],.box [.fn (.func 220) [] [.bp 5 0,.bp 6 0]],.box [.fn (.func 225) [] [.bp 0 0,.bp 1 0,.bp 2 0,.bp 3 0]],.box [.ow 8],.dmap 15,.box [.d (.sl (.st 2))],.c7 (.st 1),.gone,.row .str .vs]⟩],d_ n k⟩
def uX (k:Nat):CT:=lF k k
abbrev rU:List Ty:=[.sl .str,.int .i64,.int .i64,.sl (.st 2),.st 1,.sl .str,.sl (.st 15)]
def gG (i:List aF→aD→List (List UInt8)→Option ((List (List UInt8))×Bool×(List aF)×aD)) (d:Nat) (j:List (List UInt8)→Int→Int→List aF→aD→List (List UInt8)→List cx→Option ((List (List UInt8))×Bool×(List aF)×aD)) (c:List (List UInt8)) (e:Int) (b:Int) (f:List aF) (g:aD) (h:List (List UInt8)) (k:List cx):Option ((List (List UInt8))×Bool×(List aF)×aD):=
 cond (bM b e) (bE (bW b c.length) ((d_ d d (nth ([]:List UInt8) c b) k f g h).bind fun a=>cond (!a.1) (some ([],false,a.2.2.1,a.2.2.2.1)) (j c e (aN .i64 b 1) a.2.2.1 a.2.2.2.1 a.2.2.2.2 a.2.1))) (i f g h)
def kN (k:Nat) (a:List (List UInt8)) (f:List aF) (g:aD):Option ((List (List UInt8))×Bool×(List aF)×aD):=
 share (fun (b:List aF) (c:aD) (d:List (List UInt8))=>some (d,true,b,c)) fun e=>iter (ts:=rU) (R:=(List (List UInt8))×Bool×(List aF)×aD) k (gG e) a (a.length:Int) (0:Int) f g ([]:List (List UInt8)) ([]:List cx)
def xE (k:Nat):CT:=⟨219,[.d (.sl .str),.fn (.func 220) [] [.bp 0 0,.bp 1 0]],[.box [.d (.sl (.st 2))],.c7 (.st 1)],[⟨false,.ov [.d (.sl .str),.d .bool],[.box [.d (.sl (.st 2))],.c7 (.st 1)]⟩],kN k⟩
abbrev Ab:List Ty:=[.sl (.st 0),.int .i64,.int .i64,.st 1,.sl (.st 2),.sl .str]
def ui (g:aD→List aF→List (List UInt8)→Option ((List (List UInt8))×Bool)) (i:Nat) (h:List aB→Int→Int→aD→List aF→List (List UInt8)→Option ((List (List UInt8))×Bool)) (b:List aB) (d:Int) (a:Int) (e:aD) (f:List aF) (c:List (List UInt8)):Option ((List (List UInt8))×Bool):=
 cond (bM a d) (bE (bW a b.length) (bE (kW (c.length+([(nth (default:aB) b a).Name]:List (List UInt8)).length) 16) (h b d (aN .i64 a 1) e f (c++([(nth (default:aB) b a).Name]:List (List UInt8)))))) (g e f c)
def tq (k:Nat) (b:aD) (g:List aF):Option ((List (List UInt8))×Bool):=
 share (fun (c:aD) (d:List aF) (e:List (List UInt8))=>(kN k e d c).bind fun a=>some (a.1,a.2.1)) fun f=>iter (ts:=Ab) (R:=(List (List UInt8))×Bool) k (ui f) b.aW (b.aW.length:Int) (0:Int) b g []
def A_ (k:Nat):CT:=⟨200,[.d (.st 1),.d (.sl (.st 2))],[],[⟨false,.ov [.d (.sl .str),.d .bool],[]⟩],tq k⟩
abbrev qE:List Ty:=[.sl (.st 2),.sl (.st 1),.int .i64,.int .i64]
def jf (e:Option Bool) (f:Nat) (g:List aF→List aD→Int→Int→Option Bool) (c:List aF) (b:List aD) (d:Int) (a:Int):Option Bool:=
 cond (bM a d) (bE (bW a b.length) ((tq f (nth (default:aD) b a) c).bind fun h=>cond (!h.2) (some false) (g c b d (aN .i64 a 1)))) (e)
abbrev rV:List Ty:=[.sl (.st 1),.sl (.st 2),.sl (.st 2),.int .i64,.int .i64]
def jY (q:List aD→List aF→Option Bool) (g:Nat) (i:List aD→List aF→List aF→Int→Int→Option Bool) (a:List aD) (d:List aF) (c:List aF) (e:Int) (b:Int):Option Bool:=
 cond (bM b e) (bE (bW b c.length) ((lE g a (nth (default:aF) c b).Kind).bind fun f=>share (fun (j:List aD) (k:List aF) (l:List aF) (m:Int) (n:Int) (o:Bool)=>cond o (some false) (i j k l m (aN .i64 n 1))) fun h=>cond (bM f 0) (h a d c e b true) (bE (bW f a.length) ((yX g (nth (default:aD) a f).aW (nth (default:aF) c b)).bind fun p=>h a d c e b (!p))))) (q a d)
def hJ (k:Nat) (b:List aD) (c:List aF):Option Bool:=
 share (fun (j:List aD) (d:List aF) (l:Bool)=>cond l (some false) (share (fun (a:List aD) (f:List aF)=>share (some true) fun g=>iter (ts:=qE) (R:=Bool) k (jf g) f a (a.length:Int) (0:Int)) fun h=>iter (ts:=rV) (R:=Bool) k (jY h) j d d (d.length:Int) (0:Int))) fun i=>(gi k b).bind fun e=>cond (!e) (i b c true) (i b c (bM 12 (c.length:Int)))
def lG (k:Nat):CT:=⟨167,[.d (.sl (.st 1)),.d (.sl (.st 2))],[],[⟨false,.d .bool,[]⟩],hJ k⟩
abbrev yY:List Ty:=[.str,.sl (.st 3),.int .i64,.int .i64]
def rW (f:Option Int) (g:Nat) (e:List UInt8→List aJ→Int→Int→Option Int) (c:List UInt8) (b:List aJ) (d:Int) (a:Int):Option Int:=
 cond (bM a d) (bE (bW a b.length) (cond (seq (nth (default:aJ) b a).Name c) (some a) (e c b d (aN .i64 a 1)))) (f)
def iK (k:Nat) (a:List aJ) (b:List UInt8):Option Int:=
 share (some (-1)) fun c=>iter (ts:=yY) (R:=Int) k (rW c) b a (a.length:Int) (0:Int)
def pe (k:Nat):CT:=⟨73,[.d (.sl (.st 3)),.d .str],[],[⟨false,.d (.int .i64),[]⟩],iK k⟩
abbrev qF:List Ty:=[.sl (.st 3),.int .i64,.str,.sl (.st 3),.int .i64,.int .i64]
def jg (h:List aJ→List aJ→Int→Int→Option Bool) (i:Nat) (j:List aJ→Int→List UInt8→List aJ→Int→Int→Option Bool) (a:List aJ) (b:Int) (c:List UInt8) (d:List aJ) (e:Int) (f:Int):Option Bool:=
 cond (!seq c ([]:List UInt8)) (cond (bM 4 (aN .i64 b 1)) (some false) ((iK i a c).bind fun g=>bE (bW g a.length) (j a (aN .i64 b 1) (nth (default:aJ) a g).g9 d e f))) (h a d e f)
abbrev qG:List Ty:=[.sl (.st 3),.sl (.st 3),.int .i64,.int .i64]
def jh (d:Option Bool) (e:Nat) (f:List aJ→List aJ→Int→Int→Option Bool) (g:List aJ) (b:List aJ) (c:Int) (a:Int):Option Bool:=
 cond (bM a c) (share (fun (h:List aJ) (i:List aJ) (j:Int) (k:Int)=>f h i j (aN .i64 k 1)) fun l=>bE (bW a b.length) (iter (ts:=qF) (R:=Bool) e (jg l) g (0:Int) (nth (default:aJ) b a).g9 b c a)) (d)
abbrev rX:List Ty:=[.sl (.st 3),.sl (.st 3),.int .i64,.int .i64]
def jZ (p:List aJ→Option Bool) (f:Nat) (g:List aJ→List aJ→Int→Int→Option Bool) (c:List aJ) (b:List aJ) (d:Int) (a:Int):Option Bool:=
 cond (bM a d) (bE (bW a b.length) (share (fun (h:List aJ) (i:List aJ) (j:Int) (k:Int) (l:Bool)=>cond l (some false) (g h i j (aN .i64 k 1))) fun e=>(cR f (nth (default:aJ) b a).Name).bind fun m=>cond (!m) (e c b d a true) (cond (bM 0 a) (bE (bW (bS .i64 a 1) c.length) (cond (!slt (nth (default:aJ) c (bS .i64 a 1)).Name (nth (default:aJ) b a).Name) (e c b d a true) (cond (!seq (nth (default:aJ) b a).g9 ([]:List UInt8)) ((iK f c (nth (default:aJ) b a).g9).bind fun n=>e c b d a (bM n 0)) (e c b d a false)))) (cond (!seq (nth (default:aJ) b a).g9 ([]:List UInt8)) ((iK f c (nth (default:aJ) b a).g9).bind fun o=>e c b d a (bM o 0)) (e c b d a false))))) (p c)
def od (k:Nat) (b:List aJ):Option Bool:=
 cond (bM 12 (b.length:Int)) (some false) (share (fun (a:List aJ)=>share (some true) fun c=>iter (ts:=qG) (R:=Bool) k (jh c) a a (a.length:Int) (0:Int)) fun d=>iter (ts:=rX) (R:=Bool) k (jZ d) b b (b.length:Int) (0:Int))
def xF (k:Nat):CT:=⟨168,[.d (.sl (.st 3))],[],[⟨false,.d .bool,[]⟩],od k⟩
def qV (k:Nat) (a:aT):Option Bool:=
 (hJ k a.cf a.iA).bind fun b=>cond b ((od k a.eB).bind fun c=>some c) (some false)
def Ac (k:Nat):CT:=⟨107,[.d (.st 4)],[],[⟨false,.d .bool,[]⟩],qV k⟩
def jw (k:Nat) (a:List aD) (c:aA):Option ((List aB)×Bool):=
 (lE k a c.Kind).bind fun b=>share (fun (d:List aD) (e:Int) (g:Bool)=>cond g (some ([],false)) (bE (bW e d.length) (some ((nth (default:aD) d e).aW,true)))) fun f=>cond (bM b 0) (f a b true) (bE (bW b a.length) (f a b (!bI (c.aP.length:Int) ((nth (default:aD) a b).aW.length:Int))))
def me (k:Nat):CT:=⟨151,[.d (.sl (.st 1)),.d (.st 5)],[],[⟨false,.ov [.d (.sl (.st 0)),.d .bool],[]⟩],jw k⟩
abbrev rY:List Ty:=[.st 5,.sl (.st 0),.int .i64,.int .i64]
def j7 (w:Option (Unit ⊕ (eD ⊕ eD))) (l:Nat) (m:aA→List aB→Int→Int→Option (Unit ⊕ (eD ⊕ eD))) (e:aA) (c:List aB) (f:Int) (a:Int):Option (Unit ⊕ (eD ⊕ eD)):=
 cond (bM a f) (bE (bW a c.length) (share (fun (d:aA) (b:Int) (g:List aB) (h:Int) (i:Int) (n:Bool) (o:aB)=>cond n (some (.inr (.inl (⟨2,b⟩:eD)))) (share (fun (p:aA) (q:Int) (r:List aB) (s:Int) (t:Int) (u:Bool)=>cond u (some (.inr (.inl (⟨3,q⟩:eD)))) (m p r s (aN .i64 t 1))) fun j=>bE (bW b d.aP.length) (cond (!seq (nth ([]:List UInt8) d.aP b) ([]:List UInt8)) (bE (bW b d.aP.length) ((fB l o (nth ([]:List UInt8) d.aP b)).bind fun v=>j d b g h i (!v))) (j d b g h i false)))) fun k=>cond (nth (default:aB) c a).cV (bE (bW a e.aP.length) (k e a c f a (seq (nth ([]:List UInt8) e.aP a) ([]:List UInt8)) (nth (default:aB) c a))) (k e a c f a false (nth (default:aB) c a)))) (w)
def oe (k:Nat) (d:List aD) (a:aA):Option (Unit ⊕ (eD ⊕ eD)):=
 (jw k d a).bind fun b=>share (some (.inl ())) fun c=>iter (ts:=rY) (R:=Unit ⊕ (eD ⊕ eD)) k (j7 c) a b.1 (b.1.length:Int) (0:Int)
def xG (k:Nat):CT:=⟨202,[.d (.sl (.st 1)),.d (.st 5)],[],[⟨false,.Qg,[]⟩,⟨false,.oR 263 (.fp (.st 13) 0),[]⟩,⟨false,.oR 263 (.fp (.st 13) 0),[]⟩],oe k⟩
def O9 (_k:Nat) (a:eD):Option (Bool×eD):=some (true,a)
def Kw (k:Nat):CT:=⟨221,[.oR 263 (.fp (.st 13) 0),.oR 267 (.bp 0 0)],[.box [.any]],[⟨false,.d .bool,[.box [.fp (.st 13) 0]]⟩],O9 k⟩
def Ad (k:Nat) (b:eD):Option (Int×Int):=
 (O9 k b).bind fun a=>cond a.1 (some (a.2.code,a.2.place)) (some (0,0))
def Kx (k:Nat):CT:=⟨203,[.oR 263 (.fp (.st 13) 0)],[],[⟨false,.ov [.d (.int .i64),.d (.int .i64)],[]⟩],Ad k⟩
def rZ (k:Nat) (c:List aD) (b:aA):Option (eD ⊕ Unit):=
 (jw k c b).bind fun i=>share (fun (d:Bool)=>cond d (some (.inl (⟨1,0⟩:eD))) (some (.inr ()))) fun a=>cond (!i.2) (a true) ((gi k c).bind fun e=>cond (!e) (a true) ((cR k b.Name).bind fun f=>cond (!f) (a true) ((cR k b.aY).bind fun g=>cond (!g) (a true) (cond (bM 3 (b.b8.length:Int)) (a true) ((eV k b.b8).bind fun h=>cond (!h) (a true) (cond (bM b.Version 0) (a true) (a (bM 1000000 b.Version))))))))
def Ae (k:Nat):CT:=⟨201,[.d (.sl (.st 1)),.d (.st 5)],[],[⟨false,.oR 263 (.fp (.st 13) 0),[]⟩,⟨false,.Qg,[]⟩],rZ k⟩
abbrev Di:List Ty:=[.sl (.st 1),.st 5,.int .i64,.int .i64]
def yZ (j:Option (Int×Int)) (a:Nat) (k:List aD→aA→Int→Int→Option (Int×Int)) (c:List aD) (d:aA) (e:Int) (b:Int):Option (Int×Int):=
 cond (bM b e) (share (fun (l:List aD) (m:aA) (n:Int) (o:Int)=>k l m n (aN .i64 o 1)) fun f=>cond (bI b 0) ((rZ a c d).bind fun p=>xA p (fun q=>(Ad a q).bind fun g=>some (g.1,g.2)) (fun v=>f c d e b)) (cond (bI b 1) ((oe a c d).bind fun r=>xA r (fun w=>f c d e b) (fun s=>xA s (fun t=>(Ad a t).bind fun h=>some (h.1,h.2)) (fun u=>(Ad a u).bind fun i=>some (i.1,i.2)))) (none))) (j)
def r4 (k:Nat) (b:List aD) (c:aA):Option (Int×Int):=
 share (some (0,0)) fun a=>iter (ts:=Di) (R:=Int×Int) k (yZ a) b c (2:Int) (0:Int)
def Af (k:Nat):CT:=⟨169,[.d (.sl (.st 1)),.d (.st 5)],[],[⟨false,.ov [.d (.int .i64),.d (.int .i64)],[]⟩],r4 k⟩
def nA (_k:Nat) (a:List (List UInt8)):Option (List (List UInt8)):=
 cond (bI (a.length:Int) 0) (some []) (bE (Gf (a.length:Int) (a.length:Int) 16) (bE (leq a.length (List.replicate (Int.toNat (a.length:Int)) ([]:List UInt8)).length) (some a)))
def Ag (k:Nat):CT:=⟨174,[.d (.sl .str)],[],[⟨false,.d (.sl .str),[]⟩],nA k⟩
def ji (k:Nat) (a:aA):Option aA:=
 (nA k a.aP).bind fun b=>(nA k a.b8).bind fun c=>some (⟨a.Kind,a.Name,a.aY,b,a.Ending,c,a.Version⟩:aA)
def r5 (k:Nat):CT:=⟨112,[.d (.st 5)],[],[⟨false,.d (.st 5),[]⟩],ji k⟩
def kO (_k:Nat) (a:List (List UInt8)):Option (List (List UInt8)):=
 cond (bI (a.length:Int) 0) (some []) (bE (Gf (a.length:Int) (a.length:Int) 16) (bE (leq a.length (List.replicate (Int.toNat (a.length:Int)) ([]:List UInt8)).length) (some a)))
def xH (k:Nat):CT:=⟨174,[.d (.sl .str)],[],[⟨false,.ow 0,[.row .str .vs]⟩],kO k⟩
def dD (k:Nat) (a:aA):Option ((List UInt8)×(List UInt8)×(List UInt8)×Bool×Int×(List (List UInt8))×(List (List UInt8))):=
 (kO k a.aP).bind fun b=>(kO k a.b8).bind fun c=>some (a.Kind,a.Name,a.aY,a.Ending,a.Version,b,c)
def fC (k:Nat):CT:=⟨112,[.d (.st 5)],[],[⟨false,.agg [.d .str,.d .str,.d .str,.ow 0,.d .bool,.ow 1,.d (.int .i64)],[.row .str .vs,.row .str .vs]⟩],dD k⟩
def mf (k:Nat) (a:List aD) (l:List UInt8) (m:List UInt8) (n:List UInt8) (o:Bool) (p:Int) (f:List (List UInt8)) (g:List (List UInt8)):Option ((List aB)×Bool×(List (List UInt8))×(List (List UInt8))):=
 (lE k a l).bind fun b=>share (fun (h:List aD) (i:Int) (j:Bool) (c:List (List UInt8)) (d:List (List UInt8))=>cond j (some ([],false,c,d)) (bE (bW i h.length) (some ((nth (default:aD) h i).aW,true,c,d)))) fun e=>cond (bM b 0) (e a b true f g) (bE (bW b a.length) (e a b (!bI (f.length:Int) ((nth (default:aD) a b).aW.length:Int)) f g))
def r6 (k:Nat):CT:=⟨151,[.d (.sl (.st 1)),.agg [.d .str,.d .str,.d .str,.ow 0,.d .bool,.ow 1,.d (.int .i64)]],[.row .str .vs,.row .str .vs],[⟨false,.ov [.d (.sl (.st 0)),.d .bool],[.row .str .vs,.row .str .vs]⟩],mf k⟩
abbrev v_:List Ty:=[.sl (.st 0),.int .i64,.int .i64,.str,.str,.str,.bool,.int .i64,.st 5,.sl .str,.sl .str]
def og (y:List UInt8→List UInt8→List UInt8→Bool→Int→aA→List (List UInt8)→List (List UInt8)→Option aA) (z:Nat) (m:List aB→Int→Int→List UInt8→List UInt8→List UInt8→Bool→Int→aA→List (List UInt8)→List (List UInt8)→Option aA) (c:List aB) (d:Int) (a:Int) (e:List UInt8) (f:List UInt8) (g:List UInt8) (h:Bool) (i:Int) (j:aA) (b:List (List UInt8)) (k:List (List UInt8)):Option aA:=
 cond (bM a d) (share (fun (n:List aB) (o:Int) (p:Int) (q:List UInt8) (r:List UInt8) (s:List UInt8) (t:Bool) (u:Int) (v:aA) (w:List (List UInt8)) (x:List (List UInt8))=>m n o (aN .i64 p 1) q r s t u v w x) fun l=>bE (bW a c.length) (bE (bW a b.length) (cond (seq (nth ([]:List UInt8) b a) ([]:List UInt8)) (bE (bW a b.length) (l c d a e f g h i j (nQ b a (nth (default:aB) c a).Default) k)) (l c d a e f g h i j b k)))) (y e f g h i j b k)
def uj (k:Nat) (n:List aD) (y:aA):Option aA:=
 (dD k y).bind fun a=>(mf k n a.1 a.2.1 a.2.2.1 a.2.2.2.1 a.2.2.2.2.1 a.2.2.2.2.2.1 a.2.2.2.2.2.2).bind fun b=>bE (leq b.2.2.1.length a.2.2.2.2.2.1.length) (bE (leq b.2.2.2.length a.2.2.2.2.2.2.length) (share (fun (c:List aB) (o:Bool) (d:List UInt8) (e:List UInt8) (f:List UInt8) (g:Bool) (h:Int) (p:aA) (i:List (List UInt8)) (j:List (List UInt8))=>cond o (some (⟨d,e,f,i,g,j,h⟩:aA)) (share (fun (q:List UInt8) (r:List UInt8) (s:List UInt8) (t:Bool) (u:Int) (z:aA) (v:List (List UInt8)) (w:List (List UInt8))=>some (⟨q,r,s,v,t,w,u⟩:aA)) fun x=>iter (ts:=v_) (R:=aA) k (og x) c (c.length:Int) (0:Int) d e f g h p i j)) fun l=>cond (!b.2.1) (l b.1 true a.1 a.2.1 a.2.2.1 a.2.2.2.1 a.2.2.2.2.1 (⟨([]:List UInt8),([]:List UInt8),([]:List UInt8),[],false,[],0⟩:aA) b.2.2.1 b.2.2.2) ((gi k n).bind fun m=>l b.1 (!m) a.1 a.2.1 a.2.2.1 a.2.2.2.1 a.2.2.2.2.1 (⟨([]:List UInt8),([]:List UInt8),([]:List UInt8),[],false,[],0⟩:aA) b.2.2.1 b.2.2.2)))
def Cp (k:Nat):CT:=⟨205,[.d (.sl (.st 1)),.d (.st 5)],[],[⟨false,.d (.st 5),[]⟩],uj k⟩
def dK (k:Nat) (d:List UInt8) (e:List UInt8) (f:List UInt8) (g:List UInt8) (h:Bool) (i:Int) (b:List aB) (a:List (List UInt8)) (j:List (List UInt8)):Option ((List UInt8)×(List UInt8)×(List UInt8)×(List UInt8)×Bool×Int×(List aB)×(List (List UInt8))×(List (List UInt8))):=
 (je k b d).bind fun c=>bE (bW c a.length) (some ((nth ([]:List UInt8) a c),e,f,g,h,i,b,a,j))
def sZ (k:Nat):CT:=⟨222,[.d .str,.bp 0 0,.bp 1 0],[.box [.d .str,.d .str,.d .str,.ow 2,.d .bool,.ow 3,.d (.int .i64)],.box [.d (.sl (.st 0))],.row .str .vs,.row .str .vs],[⟨false,.d .str,[.box [.d .str,.d .str,.d .str,.ow 2,.d .bool,.ow 3,.d (.int .i64)],.box [.d (.sl (.st 0))],.row .str .vs,.row .str .vs]⟩],dK k⟩
abbrev gX:List Ty:=[.sl (.st 2),.str,.sl .str,.int .i64,.int .i64,.sl (.st 2),.int .i64,.int .i64,.str,.str,.str,.bool,.int .i64,.st 5,.sl (.st 0),.sl .str,.sl .str]
def eW (B:List aF→List (List UInt8)→Int→Int→List UInt8→List UInt8→List UInt8→Bool→Int→aA→List aB→List (List UInt8)→List (List UInt8)→Option aA) (v:Nat) (S:List aF→List UInt8→List (List UInt8)→Int→Int→List aF→Int→Int→List UInt8→List UInt8→List UInt8→Bool→Int→aA→List aB→List (List UInt8)→List (List UInt8)→Option aA) (g:List aF) (h:List UInt8) (i:List (List UInt8)) (j:Int) (k:Int) (c:List aF) (p:Int) (b:Int) (o:List UInt8) (q:List UInt8) (r:List UInt8) (s:Bool) (t:Int) (l:aA) (u:List aB) (m:List (List UInt8)) (n:List (List UInt8)):Option aA:=
 cond (bM b p) (share (fun (T:List aF) (U:List UInt8) (V:List (List UInt8)) (W:Int) (X:Int) (Y:List aF) (Z:Int) (aa:Int) (ab:List UInt8) (ad:List UInt8) (ae:List UInt8) (af:Bool) (ag:Int) (ah:aA) (ai:List aB) (aj:List (List UInt8)) (ak:List (List UInt8))=>S T U V W X Y Z (aN .i64 aa 1) ab ad ae af ag ah ai aj ak) fun w=>bE (bW b c.length) (cond (!seq (nth (default:aF) c b).Kind o) (w g h i j k c p b o q r s t l u m n) (cond (!seq (nth (default:aF) c b).Field h) (w g h i j k c p b o q r s t l u m n) (share (fun (C:List aF) (D:List UInt8) (E:List (List UInt8)) (F:Int) (G:Int) (H:List UInt8) (I:List UInt8) (J:List UInt8) (K:Bool) (L:Int) (M:aA) (N:List aB) (y:aF) (z:List (List UInt8)) (A:List (List UInt8))=>share (fun (al:List aF) (an:List UInt8) (ao:List UInt8) (aq:List (List UInt8)) (ar:Int) (au:Int) (av:List UInt8) (aw:List UInt8) (ax:List UInt8) (ay:Bool) (az:Int) (a0:aA) (O:List aB) (P:List (List UInt8)) (a1:List (List UInt8))=>(je v O an).bind fun Q=>bE (bW Q P.length) (B al aq ar au av aw ax ay az a0 O (nQ P Q ao) a1)) fun R=>cond (!seq y.cM ([]:List UInt8)) ((dK v y.cM H I J K L N z A).bind fun f=>bE (leq f.2.2.2.2.2.2.2.1.length z.length) (bE (leq f.2.2.2.2.2.2.2.2.length A.length) (R C D f.1 E F G f.2.1 f.2.2.1 f.2.2.2.1 f.2.2.2.2.1 f.2.2.2.2.2.1 M f.2.2.2.2.2.2.1 f.2.2.2.2.2.2.2.1 f.2.2.2.2.2.2.2.2))) (R C D y.sq E F G H I J K L M N z A)) fun x=>cond (!seq (nth (default:aF) c b).db ([]:List UInt8)) ((dK v (nth (default:aF) c b).db o q r s t u m n).bind fun a=>bE (leq a.2.2.2.2.2.2.2.1.length m.length) (bE (leq a.2.2.2.2.2.2.2.2.length n.length) (cond (!seq a.1 (nth (default:aF) c b).Is) (w g h i j k c p b a.2.1 a.2.2.1 a.2.2.2.1 a.2.2.2.2.1 a.2.2.2.2.2.1 l a.2.2.2.2.2.2.1 a.2.2.2.2.2.2.2.1 a.2.2.2.2.2.2.2.2) (cond (!seq (nth (default:aF) c b).cM ([]:List UInt8)) ((dK v (nth (default:aF) c b).cM a.2.1 a.2.2.1 a.2.2.2.1 a.2.2.2.2.1 a.2.2.2.2.2.1 a.2.2.2.2.2.2.1 a.2.2.2.2.2.2.2.1 a.2.2.2.2.2.2.2.2).bind fun d=>bE (leq d.2.2.2.2.2.2.2.1.length a.2.2.2.2.2.2.2.1.length) (bE (leq d.2.2.2.2.2.2.2.2.length a.2.2.2.2.2.2.2.2.length) (cond (seq d.1 ([]:List UInt8)) (w g h i j k c p b d.2.1 d.2.2.1 d.2.2.2.1 d.2.2.2.2.1 d.2.2.2.2.2.1 l d.2.2.2.2.2.2.1 d.2.2.2.2.2.2.2.1 d.2.2.2.2.2.2.2.2) (x g h i j k d.2.1 d.2.2.1 d.2.2.2.1 d.2.2.2.2.1 d.2.2.2.2.2.1 l d.2.2.2.2.2.2.1 (nth (default:aF) c b) d.2.2.2.2.2.2.2.1 d.2.2.2.2.2.2.2.2)))) (x g h i j k a.2.1 a.2.2.1 a.2.2.2.1 a.2.2.2.2.1 a.2.2.2.2.2.1 l a.2.2.2.2.2.2.1 (nth (default:aF) c b) a.2.2.2.2.2.2.2.1 a.2.2.2.2.2.2.2.2))))) (cond (!seq (nth (default:aF) c b).cM ([]:List UInt8)) ((dK v (nth (default:aF) c b).cM o q r s t u m n).bind fun e=>bE (leq e.2.2.2.2.2.2.2.1.length m.length) (bE (leq e.2.2.2.2.2.2.2.2.length n.length) (cond (seq e.1 ([]:List UInt8)) (w g h i j k c p b e.2.1 e.2.2.1 e.2.2.2.1 e.2.2.2.2.1 e.2.2.2.2.2.1 l e.2.2.2.2.2.2.1 e.2.2.2.2.2.2.2.1 e.2.2.2.2.2.2.2.2) (x g h i j k e.2.1 e.2.2.1 e.2.2.2.1 e.2.2.2.2.1 e.2.2.2.2.2.1 l e.2.2.2.2.2.2.1 (nth (default:aF) c b) e.2.2.2.2.2.2.2.1 e.2.2.2.2.2.2.2.2)))) (x g h i j k o q r s t l u (nth (default:aF) c b) m n)))))) (B g i j k o q r s t l u m n)
abbrev s6:List Ty:=[.sl (.st 2),.sl .str,.int .i64,.int .i64,.str,.str,.str,.bool,.int .i64,.st 5,.sl (.st 0),.sl .str,.sl .str]
def lH (D:List UInt8→List UInt8→List UInt8→Bool→Int→aA→List (List UInt8)→List (List UInt8)→Option aA) (m:Nat) (n:List aF→List (List UInt8)→Int→Int→List UInt8→List UInt8→List UInt8→Bool→Int→aA→List aB→List (List UInt8)→List (List UInt8)→Option aA) (b:List aF) (c:List (List UInt8)) (d:Int) (a:Int) (e:List UInt8) (f:List UInt8) (g:List UInt8) (h:Bool) (i:Int) (j:aA) (o:List aB) (k:List (List UInt8)) (l:List (List UInt8)):Option aA:=
 cond (bM a d) (share (fun (p:List aF) (q:List (List UInt8)) (r:Int) (s:Int) (t:List UInt8) (u:List UInt8) (v:List UInt8) (w:Bool) (x:Int) (y:aA) (z:List aB) (A:List (List UInt8)) (B:List (List UInt8))=>n p q r (aN .i64 s 1) t u v w x y z A B) fun C=>bE (bW a c.length) (iter (ts:=gX) (R:=aA) m (eW C) b (nth ([]:List UInt8) c a) c d a b (b.length:Int) (0:Int) e f g h i j o k l)) (D e f g h i j k l)
def pQ (k:Nat) (e:List aD) (r:List aF) (D:aA):Option aA:=
 (dD k D).bind fun a=>(mf k e a.1 a.2.1 a.2.2.1 a.2.2.2.1 a.2.2.2.2.1 a.2.2.2.2.2.1 a.2.2.2.2.2.2).bind fun b=>bE (leq b.2.2.1.length a.2.2.2.2.2.1.length) (bE (leq b.2.2.2.length a.2.2.2.2.2.2.length) (share (fun (c:List aD) (g:List aF) (A:Bool) (d:List UInt8) (h:List UInt8) (i:List UInt8) (j:Bool) (l:Int) (B:aA) (C:List aB) (m:List (List UInt8)) (n:List (List UInt8))=>cond A (some (⟨d,h,i,m,j,n,l⟩:aA)) ((lE k c d).bind fun o=>bE (bW o c.length) ((tq k (nth (default:aD) c o) g).bind fun p=>share (fun (s:List UInt8) (t:List UInt8) (u:List UInt8) (v:Bool) (w:Int) (E:aA) (x:List (List UInt8)) (y:List (List UInt8))=>some (⟨s,t,u,x,v,y,w⟩:aA)) fun z=>iter (ts:=s6) (R:=aA) k (lH z) g p.1 (p.1.length:Int) (0:Int) d h i j l B C m n))) fun q=>cond (!b.2.1) (q e r true a.1 a.2.1 a.2.2.1 a.2.2.2.1 a.2.2.2.2.1 (⟨([]:List UInt8),([]:List UInt8),([]:List UInt8),[],false,[],0⟩:aA) b.1 b.2.2.1 b.2.2.2) ((hJ k e r).bind fun f=>q e r (!f) a.1 a.2.1 a.2.2.1 a.2.2.2.1 a.2.2.2.2.1 (⟨([]:List UInt8),([]:List UInt8),([]:List UInt8),[],false,[],0⟩:aA) b.1 b.2.2.1 b.2.2.2)))
def y5 (k:Nat):CT:=⟨204,[.d (.sl (.st 1)),.d (.sl (.st 2)),.d (.st 5)],[],[⟨false,.d (.st 5),[]⟩],pQ k⟩
def pR (k:Nat) (a:List aD) (b:List aF) (c:aA):Option aA:=
 (hJ k a b).bind fun d=>cond (!d) ((ji k c).bind fun e=>some e) ((uj k a c).bind fun f=>(pQ k a b f).bind fun g=>some g)
def y6 (k:Nat):CT:=⟨171,[.d (.sl (.st 1)),.d (.sl (.st 2)),.d (.st 5)],[],[⟨false,.d (.st 5),[]⟩],pR k⟩
abbrev s7:List Ty:=[.sl .str,.sl .str,.int .i64,.int .i64]
def lI (f:Option Bool) (g:Nat) (e:List (List UInt8)→List (List UInt8)→Int→Int→Option Bool) (b:List (List UInt8)) (c:List (List UInt8)) (d:Int) (a:Int):Option Bool:=
 cond (bM a d) (bE (bW a b.length) (bE (bW a c.length) (cond (!seq (nth ([]:List UInt8) b a) (nth ([]:List UInt8) c a)) (some false) (e b c d (aN .i64 a 1))))) (f)
def pS (k:Nat) (a:List (List UInt8)) (b:List (List UInt8)):Option Bool:=
 cond (!bI (a.length:Int) (b.length:Int)) (some false) (share (some true) fun c=>iter (ts:=s7) (R:=Bool) k (lI c) a b (a.length:Int) (0:Int))
def y7 (k:Nat):CT:=⟨170,[.d (.sl .str),.d (.sl .str)],[],[⟨false,.d .bool,[]⟩],pS k⟩
def xI (_k:Nat) (a:aT) (b:aA):Option (aT×aA):=
 some (a,b)
def HC (k:Nat):CT:=⟨85,[.d (.st 4),.d (.st 5)],[],[⟨false,.fn (.func 150) [] [.fp (.st 4) 0,.fp (.st 5) 0],[]⟩],xI k⟩
abbrev uY:List Ty:=[.st 5,.sl (.st 0),.int .i64,.int .i64]
def mX (f:Nat) (e:aA→List aB→Int→Int→Option (List (Int×(aB×Unit)))) (c:aA) (b:List aB) (d:Int) (a:Int):Option (List (Int×(aB×Unit))):=
 cond (bM a d) (bE (bW a b.length) (cond (bI (nth (default:aB) b a).Kind 4) (bE (bW a c.aP.length) (cond (!seq (nth ([]:List UInt8) c.aP a) ([]:List UInt8)) (Qh (a,(nth (default:aB) b a),()) (e c b d (aN .i64 a 1)) (some [])) (e c b d (aN .i64 a 1)))) (e c b d (aN .i64 a 1)))) (some [])
def kP (k:Nat) (c:aT) (b:aA):Option (List (Int×(aB×Unit))):=
 (jw k c.cf b).bind fun a=>cond (!a.2) (some []) (iter (ts:=uY) (R:=List (Int×(aB×Unit))) k (mX) b a.1 (a.1.length:Int) (0:Int))
def y8 (k:Nat):IT:=⟨150,[.fp (.st 4) 0,.fp (.st 5) 0],[.int .i64,.st 0],kP k⟩
abbrev pf:List Ty:=[.str,.str,.sl (.st 5),.int .i64,.int .i64]
def iw (g:Option Int) (p:Nat) (h:List UInt8→List UInt8→List aA→Int→Int→Option Int) (c:List UInt8) (d:List UInt8) (b:List aA) (e:Int) (a:Int):Option Int:=
 cond (bM a e) (bE (bW a b.length) (share (fun (i:List UInt8) (j:List UInt8) (k:Int) (l:List aA) (m:Int) (n:Int) (o:Bool)=>cond o (some k) (h i j l m (aN .i64 n 1))) fun f=>cond (seq (nth (default:aA) b a).Kind c) (f c d a b e a (seq (nth (default:aA) b a).Name d)) (f c d a b e a false))) (g)
def lJ (k:Nat) (a:aI) (c:List UInt8) (d:List UInt8):Option Int:=
 share (some (-1)) fun b=>iter (ts:=pf) (R:=Int) k (iw b) c d a.aO (a.aO.length:Int) (0:Int)
def uZ (k:Nat):CT:=⟨172,[.d (.st 10),.d .str,.d .str],[],[⟨false,.d (.int .i64),[]⟩],lJ k⟩
abbrev c9:List Ty:=[.st 10,.st 4,.sl (.st 5),.int .i64,.int .i64,.bool,.st 5]
def cN (c:Nat) (ac6:Int×(aB×Unit)) (d:aI→aT→List aA→Int→Int→Bool→aA→Option Bool) (b:aI) (e:aT) (f:List aA) (g:Int) (h:Int) (i:Bool) (a:aA):Option Bool:=
 bE (bW ac6.1 a.aP.length) ((lJ c b ac6.2.1.To (nth ([]:List UInt8) a.aP ac6.1)).bind fun j=>cond (bM j 0) (some false) (d b e f g h i a))
abbrev cS:List Ty:=[.st 10,.st 4,.sl (.st 5),.int .i64,.int .i64,.bool]
def cD (v:Bool→Option Bool) (f:Nat) (w:aI→aT→List aA→Int→Int→Bool→Option Bool) (d:aI) (j:aT) (b:List aA) (g:Int) (a:Int) (h:Bool):Option Bool:=
 cond (bM a g) (bE (bW a b.length) (share (fun (i:aI) (e:aT) (k:List aA) (l:Int) (m:Int) (n:Bool) (c:aA)=>(r4 f e.cf c).bind fun x=>cond (!bI x.1 0) (some false) (share (fun (y:aI) (q:aT) (z:List aA) (A:Int) (B:Int) (C:Bool) (D:Bool) (r:aA)=>cond C (some false) ((xI f q r).bind fun s=>(kP f s.1 s.2).bind fun t=>HD (ts:=c9) (R:=Bool) (cN f) (fun (E:aI) (F:aT) (G:List aA) (H:Int) (I:Int) (J:Bool) (t:aA)=>w E F G H (aN .i64 I 1) J) t y q z A B D r)) fun o=>(iK f e.eB c.aY).bind fun K=>cond (bM K 0) (o i e k l m true n c) (cond (bM c.Version 1) (o i e k l m true n c) (cond (bM i.zR c.Version) (o i e k l m true n c) ((pR f e.cf e.iA c).bind fun L=>(pS f L.aP c.aP).bind fun M=>o i e k l m (!M) n c))))) fun u=>cond (bM 0 a) (bE (bW (bS .i64 a 1) d.aO.length) (share (fun (N:aI) (O:aT) (P:List aA) (Q:Int) (S:Int) (T:Bool) (U:Bool) (V:aA)=>cond T (some false) (u N O P Q S U V)) fun p=>cond (!(slt (nth (default:aA) d.aO (bS .i64 a 1)).Kind (nth (default:aA) b a).Kind||seq (nth (default:aA) d.aO (bS .i64 a 1)).Kind (nth (default:aA) b a).Kind)) (p d j b g a true h (nth (default:aA) b a)) (cond (seq (nth (default:aA) d.aO (bS .i64 a 1)).Kind (nth (default:aA) b a).Kind) (p d j b g a (!slt (nth (default:aA) d.aO (bS .i64 a 1)).Name (nth (default:aA) b a).Name) h (nth (default:aA) b a)) (p d j b g a false h (nth (default:aA) b a))))) (u d j b g a h (nth (default:aA) b a)))) (v h)
def fW (k:Nat) (a:aI) (c:aT):Option Bool:=
 cond (bM 40 (a.aO.length:Int)) (some false) (share (fun (d:Bool)=>some true) fun b=>iter (ts:=cS) (R:=Bool) k (cD b) a c a.aO (a.aO.length:Int) (0:Int) false)
def oK (k:Nat):CT:=⟨108,[.d (.st 10),.d (.st 4)],[],[⟨false,.d .bool,[]⟩],fW k⟩
abbrev lK:List Ty:=[.st 6,.sl (.int .i64),.int .i64,.int .i64]
def gH (f:Option Bool) (m:Nat) (g:bG→List Int→Int→Int→Option Bool) (c:bG) (b:List Int) (d:Int) (a:Int):Option Bool:=
 cond (bM a d) (bE (bW a b.length) (share (fun (h:bG) (i:List Int) (j:Int) (k:Int) (l:Bool)=>cond l (some false) (g h i j (aN .i64 k 1))) fun e=>cond (bM (nth 0 b a) 1) (e c b d a true) (cond (bM 5 (nth 0 b a)) (e c b d a true) (cond (bM 0 a) (bE (bW (bS .i64 a 1) c.b_.length) (e c b d a (b6 (nth 0 b a) (nth 0 c.b_ (bS .i64 a 1))))) (e c b d a false))))) (f)
def fk (k:Nat) (a:bG):Option Bool:=
 share (fun (c:bG) (d:Bool)=>cond d (some false) (share (some true) fun e=>iter (ts:=lK) (R:=Bool) k (gH e) c c.b_ (c.b_.length:Int) (0:Int))) fun b=>cond (bI (a.b_.length:Int) 0) (b a true) (cond (!seq a.Kind ([]:List UInt8)) ((cR k a.Kind).bind fun f=>cond (!f) (b a true) (cond (!seq a.aY ([]:List UInt8)) ((cR k a.aY).bind fun g=>cond (!g) (b a true) (cond (bM 16 (a.cP.length:Int)) (b a true) ((fM k a.cP).bind fun h=>b a (!h)))) (cond (bM 16 (a.cP.length:Int)) (b a true) ((fM k a.cP).bind fun i=>b a (!i))))) (cond (!seq a.aY ([]:List UInt8)) ((cR k a.aY).bind fun j=>cond (!j) (b a true) (cond (bM 16 (a.cP.length:Int)) (b a true) ((fM k a.cP).bind fun l=>b a (!l)))) (cond (bM 16 (a.cP.length:Int)) (b a true) ((fM k a.cP).bind fun m=>b a (!m)))))
def xJ (k:Nat):CT:=⟨173,[.d (.st 6)],[],[⟨false,.d .bool,[]⟩],fk k⟩
abbrev mg:List Ty:=[.st 10,.sl (.st 7),.int .i64,.int .i64]
def fe (u:Option Bool) (f:Nat) (g:aI→List aG→Int→Int→Option Bool) (c:aI) (b:List aG) (d:Int) (a:Int):Option Bool:=
 cond (bM a d) (bE (bW a b.length) (share (fun (h:aI) (i:List aG) (j:Int) (k:Int) (l:Bool)=>cond l (some false) (g h i j (aN .i64 k 1))) fun e=>cond (bM (nth (default:aG) b a).Number 1) (e c b d a true) (cond (bM c.fX (nth (default:aG) b a).Number) (e c b d a true) (cond (bM 0 a) (bE (bW (bS .i64 a 1) c.bK.length) (cond (b6 (nth (default:aG) b a).Number (nth (default:aG) c.bK (bS .i64 a 1)).Number) (e c b d a true) ((cR f (nth (default:aG) b a).To).bind fun m=>cond (!m) (e c b d a true) (cond (!seq (nth (default:aG) b a).By ([]:List UInt8)) ((cR f (nth (default:aG) b a).By).bind fun n=>cond (!n) (e c b d a true) ((fk f (nth (default:aG) b a).cF).bind fun o=>e c b d a (!o))) ((fk f (nth (default:aG) b a).cF).bind fun p=>e c b d a (!p)))))) ((cR f (nth (default:aG) b a).To).bind fun q=>cond (!q) (e c b d a true) (cond (!seq (nth (default:aG) b a).By ([]:List UInt8)) ((cR f (nth (default:aG) b a).By).bind fun r=>cond (!r) (e c b d a true) ((fk f (nth (default:aG) b a).cF).bind fun s=>e c b d a (!s))) ((fk f (nth (default:aG) b a).cF).bind fun t=>e c b d a (!t)))))))) (u)
def gL (k:Nat) (a:aI):Option Bool:=
 cond (bM 24 (a.bK.length:Int)) (some false) (share (some true) fun b=>iter (ts:=mg) (R:=Bool) k (fe b) a a.bK (a.bK.length:Int) (0:Int))
def pg (k:Nat):CT:=⟨109,[.d (.st 10)],[],[⟨false,.d .bool,[]⟩],gL k⟩
abbrev u4:List Ty:=[.sl (.st 3),.str,.str,.int .i64]
def mY (l:Option Bool) (m:Nat) (n:List aJ→List UInt8→List UInt8→Int→Option Bool) (b:List aJ) (h:List UInt8) (e:List UInt8) (f:Int):Option Bool:=
 cond (!seq h e) ((iK m b h).bind fun a=>share (fun (c:List aJ) (i:List UInt8) (j:Int) (g:Int) (k:Bool)=>cond k (some false) (bE (bW g c.length) (n c (nth (default:aJ) c g).g9 i (aN .i64 j 1)))) fun d=>cond (bI f 4) (d b e f a true) (cond (bM a 0) (d b e f a true) (bE (bW a b.length) (d b e f a (seq (nth (default:aJ) b a).g9 ([]:List UInt8)))))) (l)
def xK (k:Nat) (b:List aJ) (c:List UInt8) (d:List UInt8):Option Bool:=
 share (some true) fun a=>iter (ts:=u4) (R:=Bool) k (mY a) b c d (0:Int)
def Ah (k:Nat):CT:=⟨138,[.d (.sl (.st 3)),.d .str,.d .str],[],[⟨false,.d .bool,[]⟩],xK k⟩
abbrev s8:List Ty:=[.str,.st 5,.int .i64,.sl (.st 0),.int .i64,.int .i64]
def lL (h:Int→Option Int) (i:Nat) (j:List UInt8→aA→Int→List aB→Int→Int→Option Int) (d:List UInt8) (c:aA) (e:Int) (b:List aB) (f:Int) (a:Int):Option Int:=
 cond (bM a f) (share (fun (k:List UInt8) (l:aA) (m:Int) (n:List aB) (o:Int) (p:Int)=>j k l m n o (aN .i64 p 1)) fun g=>bE (bW a b.length) (cond (!bI (nth (default:aB) b a).Kind 1) (g d c e b f a) (cond (!seq (nth (default:aB) b a).bD d) (g d c e b f a) (bE (bW a c.aP.length) ((rP i (nth ([]:List UInt8) c.aP a)).bind fun q=>g d c (aN .i64 e q.1) b f a))))) (h e)
def pT (k:Nat) (q:aT) (d:aA) (e:List UInt8):Option Int:=
 (jw k q.cf d).bind fun f=>share (fun (g:List UInt8) (h:aA) (i:List aB) (j:Bool)=>cond j (some 0) (share (fun (l:List UInt8) (m:aA) (a:List aB) (n:Int)=>share (fun (o:Int)=>some o) fun p=>iter (ts:=s8) (R:=Int) k (lL p) l m n a (a.length:Int) (0:Int)) fun b=>cond (seq g h.Kind) (b g h i 1) (b g h i 0))) fun c=>cond (!f.2) (c e d f.1 true) (c e d f.1 (seq e ([]:List UInt8)))
def y9 (k:Nat):CT:=⟨139,[.d (.st 4),.d (.st 5),.d .str],[],[⟨false,.d (.int .i64),[]⟩],pT k⟩
abbrev wa:List Ty:=[.str,.str,.st 4,.int .i64,.sl (.st 5),.int .i64,.int .i64]
def oh (j:Int→Option Int) (h:Nat) (k:List UInt8→List UInt8→aT→Int→List aA→Int→Int→Option Int) (d:List UInt8) (e:List UInt8) (c:aT) (f:Int) (b:List aA) (g:Int) (a:Int):Option Int:=
 cond (bM a g) (share (fun (l:List UInt8) (m:List UInt8) (n:aT) (o:Int) (p:List aA) (q:Int) (r:Int)=>k l m n o p q (aN .i64 r 1)) fun i=>bE (bW a b.length) ((xK h c.eB (nth (default:aA) b a).aY d).bind fun s=>cond s ((pT h c (nth (default:aA) b a) e).bind fun t=>i d e c (aN .i64 f t) b g a) (i d e c f b g a))) (j f)
def tQ (k:Nat) (d:aT) (a:aI) (e:List UInt8) (f:List UInt8):Option Int:=
 share (fun (b:Int)=>some b) fun c=>iter (ts:=wa) (R:=Int) k (oh c) e f d (0:Int) a.aO (a.aO.length:Int) (0:Int)
def Cq (k:Nat):CT:=⟨76,[.d (.st 4),.d (.st 10),.d .str,.d .str],[],[⟨false,.d (.int .i64),[]⟩],tQ k⟩
def ki (_k:Nat) (a:aC) (b:aC):Option Bool:=
 cond (!seq a.cT b.cT) (some (slt a.cT b.cT)) (cond (!seq a.aY b.aY) (some (slt a.aY b.aY)) (some (slt a.aL b.aL)))
def qa (k:Nat):CT:=⟨141,[.d (.st 9),.d (.st 9)],[],[⟨false,.d .bool,[]⟩],ki k⟩
abbrev nB:List Ty:=[.str,.str,.sl (.st 8),.int .i64,.int .i64]
def gj (g:Option Int) (p:Nat) (h:List UInt8→List UInt8→List aE→Int→Int→Option Int) (c:List UInt8) (d:List UInt8) (b:List aE) (e:Int) (a:Int):Option Int:=
 cond (bM a e) (bE (bW a b.length) (share (fun (i:List UInt8) (j:List UInt8) (k:Int) (l:List aE) (m:Int) (n:Int) (o:Bool)=>cond o (some k) (h i j l m (aN .i64 n 1))) fun f=>cond (seq (nth (default:aE) b a).aY c) (f c d a b e a (seq (nth (default:aE) b a).aL d)) (f c d a b e a false))) (g)
def fK (k:Nat) (a:aI) (c:List UInt8) (d:List UInt8):Option Int:=
 share (some (-1)) fun b=>iter (ts:=nB) (R:=Int) k (gj b) c d a.aK (a.aK.length:Int) (0:Int)
def lM (k:Nat):CT:=⟨75,[.d (.st 10),.d .str,.d .str],[],[⟨false,.d (.int .i64),[]⟩],fK k⟩
end Go.Proofs.YtjkbbdldmdajkaaGreatDoor.Fn
