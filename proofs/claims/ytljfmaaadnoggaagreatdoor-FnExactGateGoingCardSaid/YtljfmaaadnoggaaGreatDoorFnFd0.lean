/- The functions, as printed from their code; their contracts. No condition. -/
import Derived.Test.YtljfmaaadnoggaaGreatDoorWB
import Derived.Test.YtljfmaaadnoggaaGreatDoorProg
set_option linter.unusedSimpArgs false
set_option linter.unusedVariables false
namespace Go.Proofs.YtljfmaaadnoggaaGreatDoor.Fn
open Go Go.RowKit Go.Proofs.YtljfmaaadnoggaaGreatDoor.cX
def cy:List (Nat×Ty):=[(2,.int .i64),(3,.int .i64),(4,.bool),(5,.int .u8),(6,.int .u8),(9,.str),(10,.str),(11,.str),(12,.int .u64),(21,.int .i32),(22,.sl (.st 1)),(23,.sl (.st 2)),(24,.sl (.st 3)),(25,.st 4),(26,.st 4),(27,.sl (.st 5)),(28,.sl (.st 7)),(29,.sl (.st 8)),(30,.sl (.st 9)),(31,.st 10),(32,.st 10),(35,.sl (.int .i64)),(37,.sl (.st 1)),(38,.sl (.st 2)),(39,.sl (.st 3)),(40,.st 4),(41,.st 4),(43,.sl (.st 5)),(44,.sl (.st 7)),(45,.sl (.st 8)),(46,.sl (.st 9)),(47,.st 10),(48,.st 10),(87,.sl .bool),(93,.sl .str),(94,.st 5),(95,.st 5),(100,.sl (.st 0)),(101,.st 1),(102,.st 1),(104,.st 2),(105,.st 2),(107,.st 3),(108,.st 3),(110,.st 5),(112,.st 6),(113,.st 6),(114,.st 7),(115,.st 7),(117,.st 8),(118,.st 8),(120,.st 9),(121,.st 9),(125,.sl (.st 0)),(126,.st 1),(127,.st 1),(129,.st 2),(131,.st 3),(134,.st 6),(135,.st 7),(136,.st 7),(138,.st 8),(140,.st 9),(156,.st 0),(157,.st 0),(182,.st 11),(183,.st 11),(186,.sl (.int .u8)),(190,.st 0),(225,.st 12),(226,.st 12),(239,.int .u64),(246,.int .u8),(250,.st 13),(251,.st 13),(253,.st 13),(254,.st 13),(255,.st 13),(280,.int .u32),(281,.int .u8),(284,.int .i32),(285,.int .i32),(294,.st 14),(295,.st 14),(298,.int .u16),(302,.int .i32)]
theorem a_:Tryz.prog.follows .mixedOrders=true:=by kernel_rfl
theorem OE:gC Tryz.prog 251 "loop.example/wharfgate/impl.clean" 225:=fun v w=>by kernel_rfl
theorem QW:gC Tryz.prog 251 "loop.example/wharfgate/impl.fits" 226:=fun v w=>by kernel_rfl
theorem OF:gC Tryz.prog 251 "loop.example/wharfgate/impl.sound" 227:=fun v w=>by kernel_rfl
theorem OG:gC Tryz.prog 253 "loop.example/wharfgate/impl.clean" 228:=fun v w=>by kernel_rfl
theorem QX:gC Tryz.prog 253 "loop.example/wharfgate/impl.fits" 229:=fun v w=>by kernel_rfl
theorem OH:gC Tryz.prog 253 "loop.example/wharfgate/impl.sound" 230:=fun v w=>by kernel_rfl
theorem OI:gC Tryz.prog 254 "loop.example/wharfgate/impl.clean" 231:=fun v w=>by kernel_rfl
theorem QY:gC Tryz.prog 254 "loop.example/wharfgate/impl.fits" 232:=fun v w=>by kernel_rfl
theorem OJ:gC Tryz.prog 254 "loop.example/wharfgate/impl.sound" 233:=fun v w=>by kernel_rfl
theorem OK:gC Tryz.prog 255 "loop.example/wharfgate/impl.clean" 234:=fun v w=>by kernel_rfl
theorem QZ:gC Tryz.prog 255 "loop.example/wharfgate/impl.fits" 235:=fun v w=>by kernel_rfl
theorem OL:gC Tryz.prog 255 "loop.example/wharfgate/impl.sound" 236:=fun v w=>by kernel_rfl
def fc (x:List UInt8):Prop:=x.length≤maxLen
def GN {α:Type} (p:α→Prop) (xs:List α):Prop:=xs.length≤maxLen∧∀ x,x∈xs→p x
def mn (k:IntKind) (x:Int):Prop:=k.min≤x∧x≤k.max
def _root_.Go.Proofs.YtljfmaaadnoggaaGreatDoor.cX.aB.ok (x:aB):Prop:=fc x.Name∧mn .i64 x.Kind∧mn .i64 x.bP∧mn .i64 x.b7∧GN fc x.Words∧fc x.To∧mn .i64 x.cz∧True∧True∧fc x.Default∧fc x.bA
def _root_.Go.Proofs.YtljfmaaadnoggaaGreatDoor.cX.aC.ok (x:aC):Prop:=fc x.Kind∧GN aB.ok x.aU
def _root_.Go.Proofs.YtljfmaaadnoggaaGreatDoor.cX.aD.ok (x:aD):Prop:=fc x.Kind∧fc x.Field∧fc x.cY∧fc x.Is∧fc x.tz∧fc x.cF
def _root_.Go.Proofs.YtljfmaaadnoggaaGreatDoor.cX.aJ.ok (x:aJ):Prop:=fc x.Name∧fc x.g9
def _root_.Go.Proofs.YtljfmaaadnoggaaGreatDoor.cX.aH.ok (x:aH):Prop:=GN aC.ok x.bS∧GN aD.ok x.ib∧GN aJ.ok x.eg
def _root_.Go.Proofs.YtljfmaaadnoggaaGreatDoor.cX.aA.ok (x:aA):Prop:=fc x.Kind∧fc x.Name∧fc x.aZ∧GN fc x.aN∧True∧GN fc x.bX∧mn .i64 x.Version
def _root_.Go.Proofs.YtljfmaaadnoggaaGreatDoor.cX.bD.ok (x:bD):Prop:=GN (mn .i64) x.cB∧fc x.Kind∧fc x.aZ∧fc x.cT
def _root_.Go.Proofs.YtljfmaaadnoggaaGreatDoor.cX.aK.ok (x:aK):Prop:=mn .i64 x.Number∧fc x.To∧fc x.By∧bD.ok x.cP
def _root_.Go.Proofs.YtljfmaaadnoggaaGreatDoor.cX.aI.ok (x:aI):Prop:=fc x.aZ∧fc x.aX∧mn .i64 x.b7∧mn .i64 x.mN
def _root_.Go.Proofs.YtljfmaaadnoggaaGreatDoor.cX.aL.ok (x:aL):Prop:=fc x.iP∧fc x.aZ∧fc x.aX∧mn .i64 x.cM∧mn .i64 x.fX
def _root_.Go.Proofs.YtljfmaaadnoggaaGreatDoor.cX.aE.ok (x:aE):Prop:=mn .i64 x.GL∧mn .i64 x.pd∧mn .i64 x.lh∧GN aA.ok x.aF∧GN aK.ok x.bZ∧GN aI.ok x.aT∧GN aL.ok x.bN
def _root_.Go.Proofs.YtljfmaaadnoggaaGreatDoor.cX.cw.ok (x:cw):Prop:=fc x.dE∧fc x.resource
def _root_.Go.Proofs.YtljfmaaadnoggaaGreatDoor.cX.cZ.ok (x:cZ):Prop:=mn .i64 x.code∧mn .i64 x.place
def _root_.Go.Proofs.YtljfmaaadnoggaaGreatDoor.cX.bG.ok (x:bG):Prop:=aB.ok x.aB
def _root_.Go.Proofs.YtljfmaaadnoggaaGreatDoor.cX.IL.ok (x:IL):Prop:=fc x.kind∧fc x.name
def _root_.Go.Proofs.YtljfmaaadnoggaaGreatDoor.cX.cq.ok (x:cq):Prop:=fc x.Key∧mn .i64 x.El
def _root_.Go.Proofs.YtljfmaaadnoggaaGreatDoor.cX.cK.ok (x:cK):Prop:=cw.ok x.Key∧mn .i64 x.El
def _root_.Go.Proofs.YtljfmaaadnoggaaGreatDoor.cX.aW.ok (x:aW):Prop:=mn .i64 x.Key∧mn .i64 x.El
abbrev vL:List Ty:=[.sl .str,.int .i64,.int .i64]
def Au (e:Int→Option Int) (f:Nat) (d:List (List UInt8)→Int→Int→Option Int) (a:List (List UInt8)) (c:Int) (b:Int):Option Int:=
 cond (bO b (a.length:Int)) (bE (bU b a.length) (cond (bO (bW .i64 c ((nth ([]:List UInt8) a b).length:Int)) (0:Int)) (some (-1:Int)) (d a (bW .i64 c ((nth ([]:List UInt8) a b).length:Int)) (aQ .i64 b (1:Int))))) (e c)
def kH (k:Nat) (a:List (List UInt8)) (b:Int):Option Int:=
 cond (bO (bW .i64 b (a.length:Int)) (0:Int)) (some (-1:Int)) (share (fun (c:Int)=>some c) fun (d:Int→Option Int)=>iter (ts:=vL) (R:=Int) k (Au d) a (bW .i64 b (a.length:Int)) (0:Int))
def uv (k:Nat):CT:=⟨101,[.d (.sl .str),.d (.int .i64)],[],[⟨false,.d (.int .i64),[]⟩],kH k⟩
def kI (k:Nat) (a:aB) (c:Int):Option Int:=
 cond (bO (bW .i64 c (a.Name.length:Int)) (0:Int)) (some (-1:Int)) ((kH k a.Words (bW .i64 c (a.Name.length:Int))).bind fun b=>cond (bO b (0:Int)) (some (-1:Int)) (cond (bO (bW .i64 b (a.To.length:Int)) (0:Int)) (some (-1:Int)) (cond (bO (bW .i64 (bW .i64 b (a.To.length:Int)) (a.Default.length:Int)) (0:Int)) (some (-1:Int)) (cond (bO (bW .i64 (bW .i64 (bW .i64 b (a.To.length:Int)) (a.Default.length:Int)) (a.bA.length:Int)) (0:Int)) (some (-1:Int)) (some (bW .i64 (bW .i64 (bW .i64 b (a.To.length:Int)) (a.Default.length:Int)) (a.bA.length:Int)))))))
def yJ (k:Nat):CT:=⟨138,[.d (.st 0),.d (.int .i64)],[],[⟨false,.d (.int .i64),[]⟩],kI k⟩
abbrev re:List Ty:=[.sl (.st 0),.int .i64,.int .i64]
def vM (e:Int→Option Int) (f:Nat) (g:List aB→Int→Int→Option Int) (a:List aB) (c:Int) (b:Int):Option Int:=
 cond (bO b (a.length:Int)) (bE (bU b a.length) ((kI f (nth (default:aB) a b) c).bind fun d=>cond (bO d (0:Int)) (some (-1:Int)) (g a d (aQ .i64 b (1:Int))))) (e c)
def nn (k:Nat) (a:List aB) (b:Int):Option Int:=
 cond (bO (bW .i64 b (a.length:Int)) (0:Int)) (some (-1:Int)) (share (fun (c:Int)=>some c) fun (d:Int→Option Int)=>iter (ts:=re) (R:=Int) k (vM d) a (bW .i64 b (a.length:Int)) (0:Int))
def xh (k:Nat):CT:=⟨100,[.d (.sl (.st 0)),.d (.int .i64)],[],[⟨false,.d (.int .i64),[]⟩],nn k⟩
def kJ (k:Nat) (a:aC) (b:Int):Option Int:=
 cond (bO (bW .i64 b (a.Kind.length:Int)) (0:Int)) (some (-1:Int)) ((nn k a.aU (bW .i64 b (a.Kind.length:Int))).bind fun c=>cond (bO c (0:Int)) (some (-1:Int)) (some c))
def yK (k:Nat):CT:=⟨64,[.d (.st 1),.d (.int .i64)],[],[⟨false,.d (.int .i64),[]⟩],kJ k⟩
abbrev rf:List Ty:=[.sl (.st 1),.int .i64,.int .i64]
def vN (e:Int→Option Int) (f:Nat) (g:List aC→Int→Int→Option Int) (a:List aC) (c:Int) (b:Int):Option Int:=
 cond (bO b (a.length:Int)) (bE (bU b a.length) ((kJ f (nth (default:aC) a b) c).bind fun d=>cond (bO d (0:Int)) (some (-1:Int)) (g a d (aQ .i64 b (1:Int))))) (e c)
def np (k:Nat) (a:List aC) (b:Int):Option Int:=
 cond (bO (bW .i64 b (a.length:Int)) (0:Int)) (some (-1:Int)) (share (fun (c:Int)=>some c) fun (d:Int→Option Int)=>iter (ts:=rf) (R:=Int) k (vN d) a (bW .i64 b (a.length:Int)) (0:Int))
def xj (k:Nat):CT:=⟨23,[.d (.sl (.st 1)),.d (.int .i64)],[],[⟨false,.d (.int .i64),[]⟩],np k⟩
def mo (_k:Nat) (a:aD) (b:Int):Option Int:=
 cond (bO (bW .i64 b (a.Kind.length:Int)) (0:Int)) (some (-1:Int)) (cond (bO (bW .i64 (bW .i64 b (a.Kind.length:Int)) (a.Field.length:Int)) (0:Int)) (some (-1:Int)) (cond (bO (bW .i64 (bW .i64 (bW .i64 b (a.Kind.length:Int)) (a.Field.length:Int)) (a.cY.length:Int)) (0:Int)) (some (-1:Int)) (cond (bO (bW .i64 (bW .i64 (bW .i64 (bW .i64 b (a.Kind.length:Int)) (a.Field.length:Int)) (a.cY.length:Int)) (a.Is.length:Int)) (0:Int)) (some (-1:Int)) (cond (bO (bW .i64 (bW .i64 (bW .i64 (bW .i64 (bW .i64 b (a.Kind.length:Int)) (a.Field.length:Int)) (a.cY.length:Int)) (a.Is.length:Int)) (a.tz.length:Int)) (0:Int)) (some (-1:Int)) (cond (bO (bW .i64 (bW .i64 (bW .i64 (bW .i64 (bW .i64 (bW .i64 b (a.Kind.length:Int)) (a.Field.length:Int)) (a.cY.length:Int)) (a.Is.length:Int)) (a.tz.length:Int)) (a.cF.length:Int)) (0:Int)) (some (-1:Int)) (some (bW .i64 (bW .i64 (bW .i64 (bW .i64 (bW .i64 (bW .i64 b (a.Kind.length:Int)) (a.Field.length:Int)) (a.cY.length:Int)) (a.Is.length:Int)) (a.tz.length:Int)) (a.cF.length:Int))))))))
def Av (k:Nat):CT:=⟨65,[.d (.st 2),.d (.int .i64)],[],[⟨false,.d (.int .i64),[]⟩],mo k⟩
abbrev sb:List Ty:=[.sl (.st 2),.int .i64,.int .i64]
def xk (e:Int→Option Int) (f:Nat) (g:List aD→Int→Int→Option Int) (a:List aD) (c:Int) (b:Int):Option Int:=
 cond (bO b (a.length:Int)) (bE (bU b a.length) ((mo f (nth (default:aD) a b) c).bind fun d=>cond (bO d (0:Int)) (some (-1:Int)) (g a d (aQ .i64 b (1:Int))))) (e c)
def oq (k:Nat) (a:List aD) (b:Int):Option Int:=
 cond (bO (bW .i64 b (a.length:Int)) (0:Int)) (some (-1:Int)) (share (fun (c:Int)=>some c) fun (d:Int→Option Int)=>iter (ts:=sb) (R:=Int) k (xk d) a (bW .i64 b (a.length:Int)) (0:Int))
def yL (k:Nat):CT:=⟨24,[.d (.sl (.st 2)),.d (.int .i64)],[],[⟨false,.d (.int .i64),[]⟩],oq k⟩
def mq (_k:Nat) (a:aJ) (b:Int):Option Int:=
 cond (bO (bW .i64 b (a.Name.length:Int)) (0:Int)) (some (-1:Int)) (cond (bO (bW .i64 (bW .i64 b (a.Name.length:Int)) (a.g9.length:Int)) (0:Int)) (some (-1:Int)) (some (bW .i64 (bW .i64 b (a.Name.length:Int)) (a.g9.length:Int))))
def Aw (k:Nat):CT:=⟨66,[.d (.st 3),.d (.int .i64)],[],[⟨false,.d (.int .i64),[]⟩],mq k⟩
abbrev sc:List Ty:=[.sl (.st 3),.int .i64,.int .i64]
def xm (e:Int→Option Int) (f:Nat) (g:List aJ→Int→Int→Option Int) (a:List aJ) (c:Int) (b:Int):Option Int:=
 cond (bO b (a.length:Int)) (bE (bU b a.length) ((mq f (nth (default:aJ) a b) c).bind fun d=>cond (bO d (0:Int)) (some (-1:Int)) (g a d (aQ .i64 b (1:Int))))) (e c)
def ot (k:Nat) (a:List aJ) (b:Int):Option Int:=
 cond (bO (bW .i64 b (a.length:Int)) (0:Int)) (some (-1:Int)) (share (fun (c:Int)=>some c) fun (d:Int→Option Int)=>iter (ts:=sc) (R:=Int) k (xm d) a (bW .i64 b (a.length:Int)) (0:Int))
def yM (k:Nat):CT:=⟨25,[.d (.sl (.st 3)),.d (.int .i64)],[],[⟨false,.d (.int .i64),[]⟩],ot k⟩
def nJ (k:Nat) (a:aH) (e:Int):Option Int:=
 (np k a.bS e).bind fun b=>cond (bO b (0:Int)) (some (-1:Int)) ((oq k a.ib b).bind fun c=>cond (bO c (0:Int)) (some (-1:Int)) ((ot k a.eg c).bind fun d=>cond (bO d (0:Int)) (some (-1:Int)) (some d)))
def uw (k:Nat):CT:=⟨6,[.d (.st 4),.d (.int .i64)],[],[⟨false,.d (.int .i64),[]⟩],nJ k⟩
def jm (k:Nat) (a:aA) (b:Int):Option Int:=
 cond (bO (bW .i64 b (a.Kind.length:Int)) (0:Int)) (some (-1:Int)) (cond (bO (bW .i64 (bW .i64 b (a.Kind.length:Int)) (a.Name.length:Int)) (0:Int)) (some (-1:Int)) (cond (bO (bW .i64 (bW .i64 (bW .i64 b (a.Kind.length:Int)) (a.Name.length:Int)) (a.aZ.length:Int)) (0:Int)) (some (-1:Int)) ((kH k a.aN (bW .i64 (bW .i64 (bW .i64 b (a.Kind.length:Int)) (a.Name.length:Int)) (a.aZ.length:Int))).bind fun c=>cond (bO c (0:Int)) (some (-1:Int)) ((kH k a.bX c).bind fun d=>cond (bO d (0:Int)) (some (-1:Int)) (some d)))))
def xn (k:Nat):CT:=⟨67,[.d (.st 5),.d (.int .i64)],[],[⟨false,.d (.int .i64),[]⟩],jm k⟩
abbrev pJ:List Ty:=[.sl (.st 5),.int .i64,.int .i64]
def tV (e:Int→Option Int) (f:Nat) (g:List aA→Int→Int→Option Int) (a:List aA) (c:Int) (b:Int):Option Int:=
 cond (bO b (a.length:Int)) (bE (bU b a.length) ((jm f (nth (default:aA) a b) c).bind fun d=>cond (bO d (0:Int)) (some (-1:Int)) (g a d (aQ .i64 b (1:Int))))) (e c)
def lJ (k:Nat) (a:List aA) (b:Int):Option Int:=
 cond (bO (bW .i64 b (a.length:Int)) (0:Int)) (some (-1:Int)) (share (fun (c:Int)=>some c) fun (d:Int→Option Int)=>iter (ts:=pJ) (R:=Int) k (tV d) a (bW .i64 b (a.length:Int)) (0:Int))
def vO (k:Nat):CT:=⟨26,[.d (.sl (.st 5)),.d (.int .i64)],[],[⟨false,.d (.int .i64),[]⟩],lJ k⟩
def Ax (_k:Nat) (a:List Int) (b:Int):Option Int:=
 cond (bO (bW .i64 b (a.length:Int)) (0:Int)) (some (-1:Int)) (some (bW .i64 b (a.length:Int)))
def Ik (k:Nat):CT:=⟨139,[.d (.sl (.int .i64)),.d (.int .i64)],[],[⟨false,.d (.int .i64),[]⟩],Ax k⟩
def qc (k:Nat) (a:bD) (c:Int):Option Int:=
 (Ax k a.cB c).bind fun b=>cond (bO b (0:Int)) (some (-1:Int)) (cond (bO (bW .i64 b (a.Kind.length:Int)) (0:Int)) (some (-1:Int)) (cond (bO (bW .i64 (bW .i64 b (a.Kind.length:Int)) (a.aZ.length:Int)) (0:Int)) (some (-1:Int)) (cond (bO (bW .i64 (bW .i64 (bW .i64 b (a.Kind.length:Int)) (a.aZ.length:Int)) (a.cT.length:Int)) (0:Int)) (some (-1:Int)) (some (bW .i64 (bW .i64 (bW .i64 b (a.Kind.length:Int)) (a.aZ.length:Int)) (a.cT.length:Int))))))
def Ay (k:Nat):CT:=⟨102,[.d (.st 6),.d (.int .i64)],[],[⟨false,.d (.int .i64),[]⟩],qc k⟩
def kK (k:Nat) (a:aK) (b:Int):Option Int:=
 cond (bO (bW .i64 b (a.To.length:Int)) (0:Int)) (some (-1:Int)) (cond (bO (bW .i64 (bW .i64 b (a.To.length:Int)) (a.By.length:Int)) (0:Int)) (some (-1:Int)) ((qc k a.cP (bW .i64 (bW .i64 b (a.To.length:Int)) (a.By.length:Int))).bind fun c=>cond (bO c (0:Int)) (some (-1:Int)) (some c)))
def yN (k:Nat):CT:=⟨68,[.d (.st 7),.d (.int .i64)],[],[⟨false,.d (.int .i64),[]⟩],kK k⟩
abbrev rh:List Ty:=[.sl (.st 7),.int .i64,.int .i64]
def vP (e:Int→Option Int) (f:Nat) (g:List aK→Int→Int→Option Int) (a:List aK) (c:Int) (b:Int):Option Int:=
 cond (bO b (a.length:Int)) (bE (bU b a.length) ((kK f (nth (default:aK) a b) c).bind fun d=>cond (bO d (0:Int)) (some (-1:Int)) (g a d (aQ .i64 b (1:Int))))) (e c)
def nq (k:Nat) (a:List aK) (b:Int):Option Int:=
 cond (bO (bW .i64 b (a.length:Int)) (0:Int)) (some (-1:Int)) (share (fun (c:Int)=>some c) fun (d:Int→Option Int)=>iter (ts:=rh) (R:=Int) k (vP d) a (bW .i64 b (a.length:Int)) (0:Int))
def xo (k:Nat):CT:=⟨27,[.d (.sl (.st 7)),.d (.int .i64)],[],[⟨false,.d (.int .i64),[]⟩],nq k⟩
def jn (_k:Nat) (a:aI) (b:Int):Option Int:=
 cond (bO (bW .i64 b (a.aZ.length:Int)) (0:Int)) (some (-1:Int)) (cond (bO (bW .i64 (bW .i64 b (a.aZ.length:Int)) (a.aX.length:Int)) (0:Int)) (some (-1:Int)) (some (bW .i64 (bW .i64 b (a.aZ.length:Int)) (a.aX.length:Int))))
def xp (k:Nat):CT:=⟨69,[.d (.st 8),.d (.int .i64)],[],[⟨false,.d (.int .i64),[]⟩],jn k⟩
abbrev pK:List Ty:=[.sl (.st 8),.int .i64,.int .i64]
def tW (e:Int→Option Int) (f:Nat) (g:List aI→Int→Int→Option Int) (a:List aI) (c:Int) (b:Int):Option Int:=
 cond (bO b (a.length:Int)) (bE (bU b a.length) ((jn f (nth (default:aI) a b) c).bind fun d=>cond (bO d (0:Int)) (some (-1:Int)) (g a d (aQ .i64 b (1:Int))))) (e c)
def lK (k:Nat) (a:List aI) (b:Int):Option Int:=
 cond (bO (bW .i64 b (a.length:Int)) (0:Int)) (some (-1:Int)) (share (fun (c:Int)=>some c) fun (d:Int→Option Int)=>iter (ts:=pK) (R:=Int) k (tW d) a (bW .i64 b (a.length:Int)) (0:Int))
def vQ (k:Nat):CT:=⟨28,[.d (.sl (.st 8)),.d (.int .i64)],[],[⟨false,.d (.int .i64),[]⟩],lK k⟩
def kL (_k:Nat) (a:aL) (b:Int):Option Int:=
 cond (bO (bW .i64 b (a.iP.length:Int)) (0:Int)) (some (-1:Int)) (cond (bO (bW .i64 (bW .i64 b (a.iP.length:Int)) (a.aZ.length:Int)) (0:Int)) (some (-1:Int)) (cond (bO (bW .i64 (bW .i64 (bW .i64 b (a.iP.length:Int)) (a.aZ.length:Int)) (a.aX.length:Int)) (0:Int)) (some (-1:Int)) (some (bW .i64 (bW .i64 (bW .i64 b (a.iP.length:Int)) (a.aZ.length:Int)) (a.aX.length:Int)))))
def yO (k:Nat):CT:=⟨70,[.d (.st 9),.d (.int .i64)],[],[⟨false,.d (.int .i64),[]⟩],kL k⟩
abbrev ri:List Ty:=[.sl (.st 9),.int .i64,.int .i64]
def vR (e:Int→Option Int) (f:Nat) (g:List aL→Int→Int→Option Int) (a:List aL) (c:Int) (b:Int):Option Int:=
 cond (bO b (a.length:Int)) (bE (bU b a.length) ((kL f (nth (default:aL) a b) c).bind fun d=>cond (bO d (0:Int)) (some (-1:Int)) (g a d (aQ .i64 b (1:Int))))) (e c)
def nr (k:Nat) (a:List aL) (b:Int):Option Int:=
 cond (bO (bW .i64 b (a.length:Int)) (0:Int)) (some (-1:Int)) (share (fun (c:Int)=>some c) fun (d:Int→Option Int)=>iter (ts:=ri) (R:=Int) k (vR d) a (bW .i64 b (a.length:Int)) (0:Int))
def xq (k:Nat):CT:=⟨29,[.d (.sl (.st 9)),.d (.int .i64)],[],[⟨false,.d (.int .i64),[]⟩],nr k⟩
def mj (k:Nat) (a:aE) (f:Int):Option Int:=
 (lJ k a.aF f).bind fun b=>cond (bO b (0:Int)) (some (-1:Int)) ((nq k a.bZ b).bind fun c=>cond (bO c (0:Int)) (some (-1:Int)) ((lK k a.aT c).bind fun d=>cond (bO d (0:Int)) (some (-1:Int)) ((nr k a.bN d).bind fun e=>cond (bO e (0:Int)) (some (-1:Int)) (some e))))
def se (k:Nat):CT:=⟨7,[.d (.st 10),.d (.int .i64)],[],[⟨false,.d (.int .i64),[]⟩],mj k⟩
abbrev vS:List Ty:=[.sl .str,.int .i64,.sl .str]
def Az (e:List (List UInt8)→Option (List (List UInt8))) (f:Nat) (d:List (List UInt8)→Int→List (List UInt8)→Option (List (List UInt8))) (b:List (List UInt8)) (a:Int) (c:List (List UInt8)):Option (List (List UInt8)):=
 cond (bO a (b.length:Int)) (bE (bU a b.length) (bE (bU a c.length) (d b (aQ .i64 a (1:Int)) (gK c a (nth ([]:List UInt8) b a))))) (e c)
def kM (k:Nat) (a:List (List UInt8)):Option (List (List UInt8)):=
 bE (GM (a.length:Int) (a.length:Int) 16) (share (fun (b:List (List UInt8))=>some b) fun (c:List (List UInt8)→Option (List (List UInt8)))=>iter (ts:=vS) (R:=List (List UInt8)) k (Az c) a (0:Int) (List.replicate (Int.toNat (a.length:Int)) ([]:List UInt8)))
def ux (k:Nat):CT:=⟨118,[.d (.sl .str)],[],[⟨false,.d (.sl .str),[]⟩],kM k⟩
def kN (k:Nat) (a:aB):Option aB:=
 (kM k a.Words).bind fun b=>some (⟨a.Name,a.Kind,a.bP,a.b7,b,a.To,a.cz,a.cR,a.cv,a.Default,a.bA⟩:aB)
def yP (k:Nat):CT:=⟨152,[.d (.st 0)],[],[⟨false,.d (.st 0),[]⟩],kN k⟩
abbrev rj:List Ty:=[.sl (.st 0),.int .i64,.sl (.st 0)]
def vT (d:List aB→Option (List aB)) (e:Nat) (f:List aB→Int→List aB→Option (List aB)) (b:List aB) (a:Int) (c:List aB):Option (List aB):=
 cond (bO a (b.length:Int)) (bE (bU a b.length) ((kN e (nth (default:aB) b a)).bind fun g=>bE (bU a c.length) (f b (aQ .i64 a (1:Int)) (gK c a g)))) (d c)
def ns (k:Nat) (a:List aB):Option (List aB):=
 bE (GM (a.length:Int) (a.length:Int) 128) (share (fun (b:List aB)=>some b) fun (c:List aB→Option (List aB))=>iter (ts:=rj) (R:=List aB) k (vT c) a (0:Int) (List.replicate (Int.toNat (a.length:Int)) (⟨([]:List UInt8),(0:Int),(0:Int),(0:Int),[],([]:List UInt8),(0:Int),false,false,([]:List UInt8),([]:List UInt8)⟩:aB)))
def xr (k:Nat):CT:=⟨117,[.d (.sl (.st 0))],[],[⟨false,.d (.sl (.st 0)),[]⟩],ns k⟩
def kO (k:Nat) (a:aC):Option aC:=
 (ns k a.aU).bind fun b=>some (⟨a.Kind,b⟩:aC)
def yQ (k:Nat):CT:=⟨76,[.d (.st 1)],[],[⟨false,.d (.st 1),[]⟩],kO k⟩
abbrev rk:List Ty:=[.sl (.st 1),.int .i64,.sl (.st 1)]
def vU (d:List aC→Option (List aC)) (e:Nat) (f:List aC→Int→List aC→Option (List aC)) (b:List aC) (a:Int) (c:List aC):Option (List aC):=
 cond (bO a (b.length:Int)) (bE (bU a b.length) ((kO e (nth (default:aC) b a)).bind fun g=>bE (bU a c.length) (f b (aQ .i64 a (1:Int)) (gK c a g)))) (d c)
def nu (k:Nat) (a:List aC):Option (List aC):=
 bE (GM (a.length:Int) (a.length:Int) 40) (share (fun (b:List aC)=>some b) fun (c:List aC→Option (List aC))=>iter (ts:=rk) (R:=List aC) k (vU c) a (0:Int) (List.replicate (Int.toNat (a.length:Int)) (⟨([]:List UInt8),[]⟩:aC)))
def xt (k:Nat):CT:=⟨32,[.d (.sl (.st 1))],[],[⟨false,.d (.sl (.st 1)),[]⟩],nu k⟩
def gq (_k:Nat) (a:aD):Option aD:=
 some a
def sf (k:Nat):CT:=⟨77,[.d (.st 2)],[],[⟨false,.d (.st 2),[]⟩],gq k⟩
abbrev sg:List Ty:=[.sl (.st 2),.int .i64,.sl (.st 2)]
def xu (d:List aD→Option (List aD)) (e:Nat) (f:List aD→Int→List aD→Option (List aD)) (b:List aD) (a:Int) (c:List aD):Option (List aD):=
 cond (bO a (b.length:Int)) (bE (bU a b.length) ((gq e (nth (default:aD) b a)).bind fun g=>bE (bU a c.length) (f b (aQ .i64 a (1:Int)) (gK c a g)))) (d c)
def ou (k:Nat) (a:List aD):Option (List aD):=
 bE (GM (a.length:Int) (a.length:Int) 96) (share (fun (b:List aD)=>some b) fun (c:List aD→Option (List aD))=>iter (ts:=sg) (R:=List aD) k (xu c) a (0:Int) (List.replicate (Int.toNat (a.length:Int)) (⟨([]:List UInt8),([]:List UInt8),([]:List UInt8),([]:List UInt8),([]:List UInt8),([]:List UInt8)⟩:aD)))
def yR (k:Nat):CT:=⟨33,[.d (.sl (.st 2))],[],[⟨false,.d (.sl (.st 2)),[]⟩],ou k⟩
def gr (_k:Nat) (a:aJ):Option aJ:=
 some a
def si (k:Nat):CT:=⟨78,[.d (.st 3)],[],[⟨false,.d (.st 3),[]⟩],gr k⟩
abbrev sj:List Ty:=[.sl (.st 3),.int .i64,.sl (.st 3)]
def xw (d:List aJ→Option (List aJ)) (e:Nat) (f:List aJ→Int→List aJ→Option (List aJ)) (b:List aJ) (a:Int) (c:List aJ):Option (List aJ):=
 cond (bO a (b.length:Int)) (bE (bU a b.length) ((gr e (nth (default:aJ) b a)).bind fun g=>bE (bU a c.length) (f b (aQ .i64 a (1:Int)) (gK c a g)))) (d c)
def ov (k:Nat) (a:List aJ):Option (List aJ):=
 bE (GM (a.length:Int) (a.length:Int) 32) (share (fun (b:List aJ)=>some b) fun (c:List aJ→Option (List aJ))=>iter (ts:=sj) (R:=List aJ) k (xw c) a (0:Int) (List.replicate (Int.toNat (a.length:Int)) (⟨([]:List UInt8),([]:List UInt8)⟩:aJ)))
def yS (k:Nat):CT:=⟨34,[.d (.sl (.st 3))],[],[⟨false,.d (.sl (.st 3)),[]⟩],ov k⟩
def eB (k:Nat) (a:aH):Option aH:=
 (nu k a.bS).bind fun b=>(ou k a.ib).bind fun c=>(ov k a.eg).bind fun d=>some (⟨b,c,d⟩:aH)
def uy (k:Nat):CT:=⟨9,[.d (.st 4)],[],[⟨false,.d (.st 4),[]⟩],eB k⟩
def jo (k:Nat) (a:aA):Option aA:=
 (kM k a.aN).bind fun b=>(kM k a.bX).bind fun c=>some (⟨a.Kind,a.Name,a.aZ,b,a.Ending,c,a.Version⟩:aA)
def xy (k:Nat):CT:=⟨79,[.d (.st 5)],[],[⟨false,.d (.st 5),[]⟩],jo k⟩
abbrev pL:List Ty:=[.sl (.st 5),.int .i64,.sl (.st 5)]
def tX (d:List aA→Option (List aA)) (e:Nat) (f:List aA→Int→List aA→Option (List aA)) (b:List aA) (a:Int) (c:List aA):Option (List aA):=
 cond (bO a (b.length:Int)) (bE (bU a b.length) ((jo e (nth (default:aA) b a)).bind fun g=>bE (bU a c.length) (f b (aQ .i64 a (1:Int)) (gK c a g)))) (d c)
def lL (k:Nat) (a:List aA):Option (List aA):=
 bE (GM (a.length:Int) (a.length:Int) 112) (share (fun (b:List aA)=>some b) fun (c:List aA→Option (List aA))=>iter (ts:=pL) (R:=List aA) k (tX c) a (0:Int) (List.replicate (Int.toNat (a.length:Int)) (⟨([]:List UInt8),([]:List UInt8),([]:List UInt8),[],false,[],(0:Int)⟩:aA)))
def vV (k:Nat):CT:=⟨35,[.d (.sl (.st 5))],[],[⟨false,.d (.sl (.st 5)),[]⟩],lL k⟩
abbrev AA:List Ty:=[.sl (.int .i64),.int .i64,.sl (.int .i64)]
def E4 (e:List Int→Option (List Int)) (f:Nat) (d:List Int→Int→List Int→Option (List Int)) (b:List Int) (a:Int) (c:List Int):Option (List Int):=
 cond (bO a (b.length:Int)) (bE (bU a b.length) (bE (bU a c.length) (d b (aQ .i64 a (1:Int)) (gK c a (nth (0:Int) b a))))) (e c)
def AB (k:Nat) (a:List Int):Option (List Int):=
 bE (GM (a.length:Int) (a.length:Int) 8) (share (fun (b:List Int)=>some b) fun (c:List Int→Option (List Int))=>iter (ts:=AA) (R:=List Int) k (E4 c) a (0:Int) (List.replicate (Int.toNat (a.length:Int)) (0:Int)))
def Il (k:Nat):CT:=⟨153,[.d (.sl (.int .i64))],[],[⟨false,.d (.sl (.int .i64)),[]⟩],AB k⟩
def qd (k:Nat) (a:bD):Option bD:=
 (AB k a.cB).bind fun b=>some (⟨b,a.Kind,a.aZ,a.cT⟩:bD)
def AD (k:Nat):CT:=⟨119,[.d (.st 6)],[],[⟨false,.d (.st 6),[]⟩],qd k⟩
def kP (k:Nat) (a:aK):Option aK:=
 (qd k a.cP).bind fun b=>some (⟨a.Number,a.To,a.By,b⟩:aK)
def yT (k:Nat):CT:=⟨80,[.d (.st 7)],[],[⟨false,.d (.st 7),[]⟩],kP k⟩
abbrev rl:List Ty:=[.sl (.st 7),.int .i64,.sl (.st 7)]
def vW (d:List aK→Option (List aK)) (e:Nat) (f:List aK→Int→List aK→Option (List aK)) (b:List aK) (a:Int) (c:List aK):Option (List aK):=
 cond (bO a (b.length:Int)) (bE (bU a b.length) ((kP e (nth (default:aK) b a)).bind fun g=>bE (bU a c.length) (f b (aQ .i64 a (1:Int)) (gK c a g)))) (d c)
def nv (k:Nat) (a:List aK):Option (List aK):=
 bE (GM (a.length:Int) (a.length:Int) 112) (share (fun (b:List aK)=>some b) fun (c:List aK→Option (List aK))=>iter (ts:=rl) (R:=List aK) k (vW c) a (0:Int) (List.replicate (Int.toNat (a.length:Int)) (⟨(0:Int),([]:List UInt8),([]:List UInt8),(⟨[],([]:List UInt8),([]:List UInt8),([]:List UInt8)⟩:bD)⟩:aK)))
def xz (k:Nat):CT:=⟨36,[.d (.sl (.st 7))],[],[⟨false,.d (.sl (.st 7)),[]⟩],nv k⟩
def eA (_k:Nat) (a:aI):Option aI:=
 some a
def pn (k:Nat):CT:=⟨81,[.d (.st 8)],[],[⟨false,.d (.st 8),[]⟩],eA k⟩
abbrev pM:List Ty:=[.sl (.st 8),.int .i64,.sl (.st 8)]
def tY (d:List aI→Option (List aI)) (e:Nat) (f:List aI→Int→List aI→Option (List aI)) (b:List aI) (a:Int) (c:List aI):Option (List aI):=
 cond (bO a (b.length:Int)) (bE (bU a b.length) ((eA e (nth (default:aI) b a)).bind fun g=>bE (bU a c.length) (f b (aQ .i64 a (1:Int)) (gK c a g)))) (d c)
def lM (k:Nat) (a:List aI):Option (List aI):=
 bE (GM (a.length:Int) (a.length:Int) 48) (share (fun (b:List aI)=>some b) fun (c:List aI→Option (List aI))=>iter (ts:=pM) (R:=List aI) k (tY c) a (0:Int) (List.replicate (Int.toNat (a.length:Int)) (⟨([]:List UInt8),([]:List UInt8),(0:Int),(0:Int)⟩:aI)))
def vX (k:Nat):CT:=⟨37,[.d (.sl (.st 8))],[],[⟨false,.d (.sl (.st 8)),[]⟩],lM k⟩
def fj (_k:Nat) (a:aL):Option aL:=
 some a
def qG (k:Nat):CT:=⟨82,[.d (.st 9)],[],[⟨false,.d (.st 9),[]⟩],fj k⟩
abbrev rm:List Ty:=[.sl (.st 9),.int .i64,.sl (.st 9)]
def vY (d:List aL→Option (List aL)) (e:Nat) (f:List aL→Int→List aL→Option (List aL)) (b:List aL) (a:Int) (c:List aL):Option (List aL):=
 cond (bO a (b.length:Int)) (bE (bU a b.length) ((fj e (nth (default:aL) b a)).bind fun g=>bE (bU a c.length) (f b (aQ .i64 a (1:Int)) (gK c a g)))) (d c)
def nw (k:Nat) (a:List aL):Option (List aL):=
 bE (GM (a.length:Int) (a.length:Int) 64) (share (fun (b:List aL)=>some b) fun (c:List aL→Option (List aL))=>iter (ts:=rm) (R:=List aL) k (vY c) a (0:Int) (List.replicate (Int.toNat (a.length:Int)) (⟨([]:List UInt8),([]:List UInt8),([]:List UInt8),(0:Int),(0:Int)⟩:aL)))
def xA (k:Nat):CT:=⟨38,[.d (.sl (.st 9))],[],[⟨false,.d (.sl (.st 9)),[]⟩],nw k⟩
def dS (k:Nat) (a:aE):Option aE:=
 (lL k a.aF).bind fun b=>(nv k a.bZ).bind fun c=>(lM k a.aT).bind fun d=>(nw k a.bN).bind fun e=>some (⟨a.GL,a.pd,a.lh,b,c,d,e⟩:aE)
def sk (k:Nat):CT:=⟨10,[.d (.st 10)],[],[⟨false,.d (.st 10),[]⟩],dS k⟩
def dA (_k:Nat) (a:Int) (b:Int) (c:Int):Option Bool:=
 cond (ck b a) (some (ck a c)) (some false)
def fQ (k:Nat):CT:=⟨72,[.d (.int .i64),.d (.int .i64),.d (.int .i64)],[],[⟨false,.d .bool,[]⟩],dA k⟩
def vZ (_k:Nat) (a:Int):Option Bool:=
 cond (ck (97:Int) a) (cond (ck a (122:Int)) (some true) (cond (ck (48:Int) a) (cond (ck a (57:Int)) (some true) (some (bL a (45:Int)))) (some (bL a (45:Int))))) (cond (ck (48:Int) a) (cond (ck a (57:Int)) (some true) (some (bL a (45:Int)))) (some (bL a (45:Int))))
def Bi (k:Nat):CT:=⟨149,[.d (.int .u8)],[],[⟨false,.d .bool,[]⟩],vZ k⟩
abbrev xB:List Ty:=[.str,.int .i64]
def ox (c:Option Bool) (d:Nat) (e:List UInt8→Int→Option Bool) (a:List UInt8) (b:Int):Option Bool:=
 cond (bO b (a.length:Int)) (bE (bU b a.length) ((vZ d (BK a b)).bind fun f=>cond (!f) (some false) (e a (aQ .i64 b (1:Int))))) (c)
def cA (k:Nat) (a:List UInt8):Option Bool:=
 (dA k (a.length:Int) (1:Int) (16:Int)).bind fun c=>cond (!c) (some false) (share (some true) fun (b:Option Bool)=>iter (ts:=xB) (R:=Bool) k (ox b) a (0:Int))
def dy (k:Nat):CT:=⟨111,[.d .str],[],[⟨false,.d .bool,[]⟩],cA k⟩
def AE (_k:Nat) (c:aB):Option Bool:=
 share (fun (a:aB) (i:Bool)=>share (fun (d:aB) (j:Bool)=>cond j (some false) (share (fun (f:aB) (g:Bool)=>cond g (some false) (cond (bL f.Kind (4:Int)) (some true) (cond (seq f.To ([]:List UInt8)) (some (bL f.cz (0:Int))) (some false)))) fun (e:aB→Bool→Option Bool)=>cond (!bL d.Kind (2:Int)) (e d (bO (0:Int) (d.Words.length:Int))) (e d false))) fun (b:aB→Bool→Option Bool)=>cond (!i) (cond (!bL a.bP (0:Int)) (b a true) (cond (!bL a.b7 (0:Int)) (b a true) (cond (!bL a.Kind (1:Int)) (b a (!seq a.bA ([]:List UInt8))) (b a false)))) (cond (!bL a.Kind (1:Int)) (b a (!seq a.bA ([]:List UInt8))) (b a false))) fun (h:aB→Bool→Option Bool)=>cond (bL c.Kind (1:Int)) (h c true) (h c (bL c.Kind (3:Int)))
def Im (k:Nat):CT:=⟨188,[.d (.st 0)],[],[⟨false,.d .bool,[]⟩],AE k⟩
abbrev xC:List Ty:=[.str,.int .i64,.int .i64]
def oy (g:Int→Option Int) (k:Nat) (h:List UInt8→Int→Int→Option Int) (a:List UInt8) (c:Int) (b:Int):Option Int:=
 cond (bO b (a.length:Int)) (share (fun (d:List UInt8) (i:Int) (e:Int) (j:Bool)=>cond j (some (-1:Int)) (bE (bU e d.length) (h d (bW .i64 (aQ .i64 (ZX .i64 i (10:Int)) (Ao .i64 (BK d e))) (48:Int)) (aQ .i64 e (1:Int))))) fun (f:List UInt8→Int→Int→Bool→Option Int)=>bE (bU b a.length) (cond (bO (BK a b) (48:Int)) (f a c b true) (bE (bU b a.length) (f a c b (bO (57:Int) (BK a b)))))) (g c)
def pN (k:Nat) (a:List UInt8):Option Int:=
 share (fun (f:List UInt8) (g:Bool)=>cond g (some (-1:Int)) (share (fun (c:Int)=>some c) fun (d:Int→Option Int)=>iter (ts:=xC) (R:=Int) k (oy d) f (0:Int) (0:Int))) fun (b:List UInt8→Bool→Option Int)=>(dA k (a.length:Int) (1:Int) (7:Int)).bind fun e=>cond (!e) (b a true) (cond (bO (1:Int) (a.length:Int)) (bE (bU (0:Int) a.length) (b a (bL (BK a (0:Int)) (48:Int)))) (b a false))
def wH (k:Nat):CT:=⟨173,[.d .str],[],[⟨false,.d (.int .i64),[]⟩],pN k⟩
abbrev BL:List Ty:=[.sl .str,.str,.int .i64]
def uY (e:Option Bool) (f:Nat) (d:List (List UInt8)→List UInt8→Int→Option Bool) (a:List (List UInt8)) (c:List UInt8) (b:Int):Option Bool:=
 cond (bO b (a.length:Int)) (bE (bU b a.length) (cond (seq (nth ([]:List UInt8) a b) c) (some true) (d a c (aQ .i64 b (1:Int))))) (e)
def lN (k:Nat) (a:List (List UInt8)) (b:List UInt8):Option Bool:=
 share (some false) fun (c:Option Bool)=>iter (ts:=BL) (R:=Bool) k (uY c) a b (0:Int)
def sm (k:Nat):CT:=⟨171,[.d (.sl .str),.d .str],[],[⟨false,.d .bool,[]⟩],lN k⟩
abbrev xD:List Ty:=[.str,.st 0,.int .i64]
def oz (d:List UInt8→aB→Option Bool) (e:Nat) (f:List UInt8→aB→Int→Option Bool) (a:List UInt8) (c:aB) (b:Int):Option Bool:=
 cond (bO b (a.length:Int)) (bE (bU b a.length) ((dA e (Ao .i64 (BK a b)) (33:Int) (126:Int)).bind fun g=>cond (!g) (some false) (f a c (aQ .i64 b (1:Int))))) (d a c)
def mG (k:Nat) (a:aB) (b:List UInt8):Option Bool:=
 cond (bL a.Kind (1:Int)) ((pN k b).bind fun c=>cond (ck (0:Int) c) ((dA k c a.bP a.b7).bind fun f=>some f) (some false)) (cond (bL a.Kind (2:Int)) (cond (!seq b ([]:List UInt8)) ((lN k a.Words b).bind fun g=>some g) (some false)) (cond (bL a.Kind (3:Int)) (share (fun (d:List UInt8) (e:aB)=>cond (!seq d ([]:List UInt8)) ((dA k (d.length:Int) e.bP e.b7).bind fun h=>some h) (some false)) fun (i:List UInt8→aB→Option Bool)=>iter (ts:=xD) (R:=Bool) k (oz i) b a (0:Int)) (cond (bL a.Kind (4:Int)) ((cA k b).bind fun j=>some j) (some false))))
def qe (k:Nat):CT:=⟨145,[.d (.st 0),.d .str],[],[⟨false,.d .bool,[]⟩],mG k⟩
abbrev sn:List Ty:=[.sl .str,.int .i64]
def j9 (d:Option Bool) (e:Nat) (f:List (List UInt8)→Int→Option Bool) (b:List (List UInt8)) (a:Int):Option Bool:=
 cond (bO a (b.length:Int)) (share (fun (g:List (List UInt8)) (h:Int) (i:Bool)=>cond i (some false) (f g (aQ .i64 h (1:Int)))) fun (c:List (List UInt8)→Int→Bool→Option Bool)=>bE (bU a b.length) ((cA e (nth ([]:List UInt8) b a)).bind fun j=>cond (!j) (c b a true) (cond (bO (0:Int) a) (bE (bU (bW .i64 a (1:Int)) b.length) (bE (bU a b.length) (c b a (!slt (nth ([]:List UInt8) b (bW .i64 a (1:Int))) (nth ([]:List UInt8) b a))))) (c b a false)))) (d)
def kQ (k:Nat) (b:List (List UInt8)):Option Bool:=
 share (some true) fun (a:Option Bool)=>iter (ts:=sn) (R:=Bool) k (j9 a) b (0:Int)
def qH (k:Nat):CT:=⟨144,[.d (.sl .str)],[],[⟨false,.d .bool,[]⟩],kQ k⟩
abbrev yU:List Ty:=[.sl (.st 1),.str,.int .i64]
def qf (e:Option Int) (f:Nat) (d:List aC→List UInt8→Int→Option Int) (b:List aC) (c:List UInt8) (a:Int):Option Int:=
 cond (bO a (b.length:Int)) (bE (bU a b.length) (cond (seq (nth (default:aC) b a).Kind c) (some a) (d b c (aQ .i64 a (1:Int))))) (e)
def lO (k:Nat) (a:List aC) (b:List UInt8):Option Int:=
 share (some (-1:Int)) fun (c:Option Int)=>iter (ts:=yU) (R:=Int) k (qf c) a b (0:Int)
def nK (k:Nat):CT:=⟨135,[.d (.sl (.st 1)),.d .str],[],[⟨false,.d (.int .i64),[]⟩],lO k⟩
def so (k:Nat) (d:List aC) (b:aB):Option Bool:=
 share (fun (e:List aC) (a:aB) (f:Bool)=>cond f (some false) (cond (bL a.Kind (1:Int)) (cond (ck (0:Int) a.bP) (cond (ck a.bP a.b7) (cond (ck a.b7 (1000000:Int)) (cond (seq a.bA ([]:List UInt8)) (some true) ((cA k a.bA).bind fun g=>some g)) (some false)) (some false)) (some false)) (cond (bL a.Kind (2:Int)) ((dA k (a.Words.length:Int) (1:Int) (6:Int)).bind fun h=>cond h ((kQ k a.Words).bind fun i=>some i) (some false)) (cond (bL a.Kind (3:Int)) (cond (ck (1:Int) a.bP) (cond (ck a.bP a.b7) (some (ck a.b7 (40:Int))) (some false)) (some false)) (cond (bL a.Kind (4:Int)) ((lO k e a.To).bind fun j=>cond (ck (0:Int) j) ((dA k a.cz (1:Int) (3:Int)).bind fun l=>cond l (cond (seq a.Default ([]:List UInt8)) (cond (!bL a.cz (2:Int)) (some true) (some (!a.cR))) (some false)) (some false)) (some false)) (some false)))))) fun (c:List aC→aB→Bool→Option Bool)=>(cA k b.Name).bind fun m=>cond (!m) (c d b true) ((AE k b).bind fun n=>cond (!n) (c d b true) (cond (!seq b.Default ([]:List UInt8)) ((mG k b b.Default).bind fun o=>c d b (!o)) (c d b false)))
def BM (k:Nat):CT:=⟨168,[.d (.sl (.st 1)),.d (.st 0)],[],[⟨false,.d .bool,[]⟩],so k⟩
abbrev jI:List Ty:=[.sl (.st 1),.int .i64,.int .i64,.int .i64,.st 1]
def fe (f:List aC→Int→Int→aC→Option Bool) (h:Nat) (g:List aC→Int→Int→Int→aC→Option Bool) (d:List aC) (e:Int) (b:Int) (c:Int) (a:aC):Option Bool:=
 cond (bO c b) (bE (bU c a.aU.length) (bE (bU b a.aU.length) (cond (seq (nth (default:aB) a.aU c).Name (nth (default:aB) a.aU b).Name) (some false) (g d e b (aQ .i64 c (1:Int)) a)))) (f d e b a)
abbrev fG:List Ty:=[.sl (.st 1),.int .i64,.int .i64,.st 1]
def dO (f:List aC→Int→Option Bool) (d:Nat) (g:List aC→Int→Int→aC→Option Bool) (c:List aC) (e:Int) (a:Int) (b:aC):Option Bool:=
 cond (bO a (b.aU.length:Int)) (share (fun (h:List aC) (i:Int) (j:Int) (k:aC)=>g h i (aQ .i64 j (1:Int)) k) fun (l:List aC→Int→Int→aC→Option Bool)=>bE (bU a b.aU.length) ((so d c (nth (default:aB) b.aU a)).bind fun m=>cond (!m) (some false) (iter (ts:=jI) (R:=Bool) d (fe l) c e a (0:Int) b))) (f c e)
abbrev ga:List Ty:=[.sl (.st 1),.int .i64]
def d_ (e:Option Bool) (d:Nat) (f:List aC→Int→Option Bool) (b:List aC) (a:Int):Option Bool:=
 cond (bO a (b.length:Int)) (share (fun (g:List aC) (h:Int)=>f g (aQ .i64 h (1:Int))) fun (i:List aC→Int→Option Bool)=>bE (bU a b.length) (share (fun (j:List aC) (k:Int) (l:Bool) (m:aC)=>cond l (some false) (iter (ts:=fG) (R:=Bool) d (dO i) j k (0:Int) m)) fun (c:List aC→Int→Bool→aC→Option Bool)=>(cA d (nth (default:aC) b a).Kind).bind fun n=>cond (!n) (c b a true (nth (default:aC) b a)) (cond (bO (0:Int) a) (bE (bU (bW .i64 a (1:Int)) b.length) (cond (!slt (nth (default:aC) b (bW .i64 a (1:Int))).Kind (nth (default:aC) b a).Kind) (c b a true (nth (default:aC) b a)) (c b a (bO (6:Int) ((nth (default:aC) b a).aU.length:Int)) (nth (default:aC) b a)))) (c b a (bO (6:Int) ((nth (default:aC) b a).aU.length:Int)) (nth (default:aC) b a))))) (e)
def nx (k:Nat) (b:List aC):Option Bool:=
 cond (bO (6:Int) (b.length:Int)) (some false) (share (some true) fun (a:Option Bool)=>iter (ts:=ga) (R:=Bool) k (d_ a) b (0:Int))
def xE (k:Nat):CT:=⟨140,[.d (.sl (.st 1))],[],[⟨false,.d .bool,[]⟩],nx k⟩
abbrev yV:List Ty:=[.sl (.st 0),.str,.int .i64]
def qg (e:Option Int) (f:Nat) (d:List aB→List UInt8→Int→Option Int) (b:List aB) (c:List UInt8) (a:Int):Option Int:=
 cond (bO a (b.length:Int)) (bE (bU a b.length) (cond (seq (nth (default:aB) b a).Name c) (some a) (d b c (aQ .i64 a (1:Int))))) (e)
def eC (k:Nat) (a:List aB) (b:List UInt8):Option Int:=
 share (some (-1:Int)) fun (c:Option Int)=>iter (ts:=yV) (R:=Int) k (qg c) a b (0:Int)
def nL (k:Nat):CT:=⟨170,[.d (.sl (.st 0)),.d .str],[],[⟨false,.d (.int .i64),[]⟩],eC k⟩
def lP (k:Nat) (a:List aB) (c:List UInt8):Option Bool:=
 (eC k a c).bind fun b=>cond (ck (0:Int) b) (bE (bU b a.length) (some (!bL (nth (default:aB) a b).Kind (4:Int)))) (some false)
def E5 (k:Nat):CT:=⟨169,[.d (.sl (.st 0)),.d .str],[],[⟨false,.d .bool,[]⟩],lP k⟩
def uZ (k:Nat) (c:List aC) (b:aD):Option Bool:=
 (lO k c b.Kind).bind fun d=>cond (bO d (0:Int)) (some false) (bE (bU d c.length) (share (fun (a:aD) (f:List aB) (l:Bool)=>cond l (some false) (share (fun (h:aD) (i:List aB) (m:Bool)=>cond m (some false) (cond (seq h.tz ([]:List UInt8)) (some true) ((eC k i h.Field).bind fun j=>bE (bU j i.length) ((mG k (nth (default:aB) i j) h.tz).bind fun n=>some n)))) fun (g:aD→List aB→Bool→Option Bool)=>cond (seq a.cY a.Field) (g a f true) (cond (seq a.cF a.Field) (g a f true) (cond (seq a.cY ([]:List UInt8)) (cond (!seq a.Is ([]:List UInt8)) (g a f true) (g a f (beq (seq a.tz ([]:List UInt8)) (seq a.cF ([]:List UInt8))))) (g a f (beq (seq a.tz ([]:List UInt8)) (seq a.cF ([]:List UInt8)))))))) fun (e:aD→List aB→Bool→Option Bool)=>(lP k (nth (default:aC) c d).aU b.Field).bind fun o=>cond (!o) (e b (nth (default:aC) c d).aU true) (cond (!seq b.cY ([]:List UInt8)) ((lP k (nth (default:aC) c d).aU b.cY).bind fun p=>cond (!p) (e b (nth (default:aC) c d).aU true) (cond (!seq b.cF ([]:List UInt8)) ((lP k (nth (default:aC) c d).aU b.cF).bind fun q=>e b (nth (default:aC) c d).aU (!q)) (e b (nth (default:aC) c d).aU false))) (cond (!seq b.cF ([]:List UInt8)) ((lP k (nth (default:aC) c d).aU b.cF).bind fun r=>e b (nth (default:aC) c d).aU (!r)) (e b (nth (default:aC) c d).aU false)))))
def DP (k:Nat):CT:=⟨141,[.d (.sl (.st 1)),.d (.st 2)],[],[⟨false,.d .bool,[]⟩],uZ k⟩
abbrev yW:List Ty:=[.sl (.st 2),.str,.str,.sl .str,.int .i64]
def qh (q:Option Bool) (g:Nat) (r:List aD→List UInt8→List UInt8→List (List UInt8)→Int→Option Bool) (a:List aD) (e:List UInt8) (f:List UInt8) (c:List (List UInt8)) (b:Int):Option Bool:=
 cond (bO b (a.length:Int)) (bE (bU b a.length) (share (fun (h:List aD) (i:List UInt8) (j:List UInt8) (k:List (List UInt8)) (l:Int) (m:Bool)=>cond m (some false) (r h i j k (aQ .i64 l (1:Int)))) fun (d:List aD→List UInt8→List UInt8→List (List UInt8)→Int→Bool→Option Bool)=>cond (seq (nth (default:aD) a b).Kind e) (cond (seq (nth (default:aD) a b).Field f) (cond (!seq (nth (default:aD) a b).cY ([]:List UInt8)) ((lN g c (nth (default:aD) a b).cY).bind fun n=>cond (!n) (d a e f c b true) (cond (!seq (nth (default:aD) a b).cF ([]:List UInt8)) ((lN g c (nth (default:aD) a b).cF).bind fun o=>d a e f c b (!o)) (d a e f c b false))) (cond (!seq (nth (default:aD) a b).cF ([]:List UInt8)) ((lN g c (nth (default:aD) a b).cF).bind fun p=>d a e f c b (!p)) (d a e f c b false))) (d a e f c b false)) (d a e f c b false))) (q)
def sq (k:Nat) (b:List aD) (c:List UInt8) (d:List UInt8) (e:List (List UInt8)):Option Bool:=
 share (some true) fun (a:Option Bool)=>iter (ts:=yW) (R:=Bool) k (qh a) b c d e (0:Int)
def yX (k:Nat):CT:=⟨172,[.d (.sl (.st 2)),.d .str,.d .str,.d (.sl .str)],[],[⟨false,.d .bool,[]⟩],sq k⟩
abbrev uz:List Ty:=[.sl (.st 2),.st 1,.int .i64,.int .i64,.sl .str]
def pO (g:List aD→aC→Int→List (List UInt8)→Option (List (List UInt8))) (h:Nat) (n:List aD→aC→Int→Int→List (List UInt8)→Option (List (List UInt8))) (d:List aD) (a:aC) (e:Int) (b:Int) (c:List (List UInt8)):Option (List (List UInt8)):=
 cond (bO b (a.aU.length:Int)) (bE (bU b a.aU.length) (share (fun (i:List aD) (j:aC) (k:Int) (o:Int) (l:List UInt8) (p:Bool) (f:List (List UInt8))=>cond p (bE (tB (f.length+([l]:List (List UInt8)).length) 16) (g i j k (f++([l]:List (List UInt8))))) (n i j k (aQ .i64 o (1:Int)) f)) fun (m:List aD→aC→Int→Int→List UInt8→Bool→List (List UInt8)→Option (List (List UInt8)))=>(lN h c (nth (default:aB) a.aU b).Name).bind fun q=>cond (!q) ((sq h d a.Kind (nth (default:aB) a.aU b).Name c).bind fun r=>m d a e b (nth (default:aB) a.aU b).Name r c) (m d a e b (nth (default:aB) a.aU b).Name false c))) (g d a e c)
abbrev BN:List Ty:=[.sl (.st 2),.st 1,.int .i64,.sl .str]
def u4 (d:List (List UInt8)→Option (List (List UInt8))) (e:Nat) (f:List aD→aC→Int→List (List UInt8)→Option (List (List UInt8))) (g:List aD) (a:aC) (b:Int) (c:List (List UInt8)):Option (List (List UInt8)):=
 cond (bO b (a.aU.length:Int)) (share (fun (h:List aD) (i:aC) (j:Int) (k:List (List UInt8))=>f h i (aQ .i64 j (1:Int)) k) fun (l:List aD→aC→Int→List (List UInt8)→Option (List (List UInt8)))=>iter (ts:=uz) (R:=List (List UInt8)) e (pO l) g a b (0:Int) c) (d c)
def CQ (k:Nat) (c:aC) (d:List aD):Option (List (List UInt8)):=
 share (fun (a:List (List UInt8))=>some a) fun (b:List (List UInt8)→Option (List (List UInt8)))=>iter (ts:=BN) (R:=List (List UInt8)) k (u4 b) d c (0:Int) ([]:List (List UInt8))
def J5 (k:Nat):CT:=⟨142,[.d (.st 1),.d (.sl (.st 2))],[],[⟨false,.d (.sl .str),[]⟩],CQ k⟩
abbrev ss:List Ty:=[.sl (.st 1),.sl (.st 2),.int .i64]
def j_ (d:Option Bool) (e:Nat) (f:List aC→List aD→Int→Option Bool) (a:List aC) (c:List aD) (b:Int):Option Bool:=
 cond (bO b (a.length:Int)) (bE (bU b a.length) ((CQ e (nth (default:aC) a b) c).bind fun g=>bE (bU b a.length) (cond (!bL (g.length:Int) ((nth (default:aC) a b).aU.length:Int)) (some false) (f a c (aQ .i64 b (1:Int)))))) (d)
abbrev su:List Ty:=[.sl (.st 1),.sl (.st 2),.int .i64]
def kc (d:List aC→List aD→Option Bool) (e:Nat) (f:List aC→List aD→Int→Option Bool) (c:List aC) (a:List aD) (b:Int):Option Bool:=
 cond (bO b (a.length:Int)) (bE (bU b a.length) ((uZ e c (nth (default:aD) a b)).bind fun g=>cond (!g) (some false) (f c a (aQ .i64 b (1:Int))))) (d c a)
def oA (k:Nat) (a:List aC) (b:List aD):Option Bool:=
 share (fun (i:List aC) (j:List aD) (l:Bool)=>cond l (some false) (share (fun (c:List aC) (d:List aD)=>share (some true) fun (e:Option Bool)=>iter (ts:=ss) (R:=Bool) k (j_ e) c d (0:Int)) fun (f:List aC→List aD→Option Bool)=>iter (ts:=su) (R:=Bool) k (kc f) i j (0:Int))) fun (g:List aC→List aD→Bool→Option Bool)=>(nx k a).bind fun h=>cond (!h) (g a b true) (g a b (bO (12:Int) (b.length:Int)))
def yY (k:Nat):CT:=⟨103,[.d (.sl (.st 1)),.d (.sl (.st 2))],[],[⟨false,.d .bool,[]⟩],oA k⟩
abbrev AF:List Ty:=[.sl (.st 3),.str,.int .i64]
def sv (e:Option Bool) (f:Nat) (d:List aJ→List UInt8→Int→Option Bool) (a:List aJ) (c:List UInt8) (b:Int):Option Bool:=
 cond (bO b (a.length:Int)) (bE (bU b a.length) (cond (seq (nth (default:aJ) a b).Name c) (some true) (d a c (aQ .i64 b (1:Int))))) (e)
def nM (k:Nat) (a:List aJ) (b:List UInt8):Option Bool:=
 share (some false) fun (c:Option Bool)=>iter (ts:=AF) (R:=Bool) k (sv c) a b (0:Int)
def u5 (k:Nat):CT:=⟨106,[.d (.sl (.st 3)),.d .str],[],[⟨false,.d .bool,[]⟩],nM k⟩
abbrev AG:List Ty:=[.sl (.st 3),.str,.int .i64]
def sw (e:Option (List UInt8)) (f:Nat) (d:List aJ→List UInt8→Int→Option (List UInt8)) (a:List aJ) (c:List UInt8) (b:Int):Option (List UInt8):=
 cond (bO b (a.length:Int)) (bE (bU b a.length) (cond (seq (nth (default:aJ) a b).Name c) (bE (bU b a.length) (some (nth (default:aJ) a b).g9)) (d a c (aQ .i64 b (1:Int))))) (e)
def v7 (k:Nat) (a:List aJ) (b:List UInt8):Option (List UInt8):=
 share (some ([]:List UInt8)) fun (c:Option (List UInt8))=>iter (ts:=AG) (R:=List UInt8) k (sw c) a b (0:Int)
def Bj (k:Nat):CT:=⟨143,[.d (.sl (.st 3)),.d .str],[],[⟨false,.d .str,[]⟩],v7 k⟩
abbrev rn:List Ty:=[.sl (.st 3),.int .i64,.str,.int .i64]
def jq (d:List aJ→Int→List UInt8→Option Bool) (f:Nat) (g:List aJ→Int→List UInt8→Int→Option Bool) (a:List aJ) (c:Int) (b:List UInt8) (e:Int):Option Bool:=
 cond (ck e (4:Int)) (cond (!seq b ([]:List UInt8)) ((v7 f a b).bind fun h=>g a c h (aQ .i64 e (1:Int))) (d a c b)) (d a c b)
abbrev eD:List Ty:=[.sl (.st 3),.int .i64]
def dJ (e:Option Bool) (d:Nat) (f:List aJ→Int→Option Bool) (a:List aJ) (b:Int):Option Bool:=
 cond (bO b (a.length:Int)) (share (fun (g:List aJ) (h:Int)=>f g (aQ .i64 h (1:Int))) fun (i:List aJ→Int→Option Bool)=>bE (bU b a.length) (share (fun (j:List aJ) (k:Int) (l:Bool) (m:aJ)=>cond l (some false) (share (fun (n:List aJ) (o:Int) (p:List UInt8)=>cond (!seq p ([]:List UInt8)) (some false) (i n o)) fun (q:List aJ→Int→List UInt8→Option Bool)=>iter (ts:=rn) (R:=Bool) d (jq q) j k m.Name (0:Int))) fun (c:List aJ→Int→Bool→aJ→Option Bool)=>(cA d (nth (default:aJ) a b).Name).bind fun r=>cond (!r) (c a b true (nth (default:aJ) a b)) (cond (bO (0:Int) b) (bE (bU (bW .i64 b (1:Int)) a.length) (cond (!slt (nth (default:aJ) a (bW .i64 b (1:Int))).Name (nth (default:aJ) a b).Name) (c a b true (nth (default:aJ) a b)) (cond (!seq (nth (default:aJ) a b).g9 ([]:List UInt8)) ((nM d a (nth (default:aJ) a b).g9).bind fun s=>c a b (!s) (nth (default:aJ) a b)) (c a b false (nth (default:aJ) a b))))) (cond (!seq (nth (default:aJ) a b).g9 ([]:List UInt8)) ((nM d a (nth (default:aJ) a b).g9).bind fun t=>c a b (!t) (nth (default:aJ) a b)) (c a b false (nth (default:aJ) a b)))))) (e)
def kR (k:Nat) (b:List aJ):Option Bool:=
 cond (bO (12:Int) (b.length:Int)) (some false) (share (some true) fun (a:Option Bool)=>iter (ts:=eD) (R:=Bool) k (dJ a) b (0:Int))
def yZ (k:Nat):CT:=⟨104,[.d (.sl (.st 3))],[],[⟨false,.d .bool,[]⟩],kR k⟩
def sx (k:Nat) (a:aH):Option Bool:=
 (oA k a.bS a.ib).bind fun b=>cond b ((kR k a.eg).bind fun c=>some c) (some false)
def BO (k:Nat):CT:=⟨71,[.d (.st 4)],[],[⟨false,.d .bool,[]⟩],sx k⟩
def fH (k:Nat) (a:List aC) (c:aA):Option ((List aB)×Bool):=
 (lO k a c.Kind).bind fun b=>share (fun (d:List aC) (e:Int) (g:Bool)=>cond g (some (([]:List aB),false)) (bE (bU e d.length) (some ((nth (default:aC) d e).aU,true)))) fun (f:List aC→Int→Bool→Option ((List aB)×Bool))=>cond (bO b (0:Int)) (f a b true) (bE (bU b a.length) (f a b (!bL ((nth (default:aC) a b).aU.length:Int) (c.aN.length:Int))))
def gv (k:Nat):CT:=⟨98,[.d (.sl (.st 1)),.d (.st 5)],[],[⟨false,.ph [.d (.sl (.st 0)),.d .bool],[]⟩],fH k⟩
abbrev lQ:List Ty:=[.st 5,.sl (.st 0),.int .i64]
def iT (e:Option (Int×Int)) (f:Nat) (g:aA→List aB→Int→Option (Int×Int)) (c:aA) (b:List aB) (a:Int):Option (Int×Int):=
 cond (bO a (b.length:Int)) (share (fun (h:aA) (i:List aB) (j:Int)=>g h i (aQ .i64 j (1:Int))) fun (d:aA→List aB→Int→Option (Int×Int))=>bE (bU a c.aN.length) (cond (seq (nth ([]:List UInt8) c.aN a) ([]:List UInt8)) (bE (bU a b.length) (cond (nth (default:aB) b a).cR (some ((2:Int),a)) (d c b a))) (bE (bU a b.length) (bE (bU a c.aN.length) ((mG f (nth (default:aB) b a) (nth ([]:List UInt8) c.aN a)).bind fun k=>cond (!k) (some ((3:Int),a)) (d c b a)))))) (e)
def x7 (k:Nat) (m:List aC) (a:aA):Option (Int×Int):=
 (fH k m a).bind fun c=>share (fun (d:aA) (e:List aB) (f:Bool)=>cond f (some ((1:Int),(0:Int))) (share (some ((0:Int),(0:Int))) fun (g:Option (Int×Int))=>iter (ts:=lQ) (R:=Int×Int) k (iT g) d e (0:Int))) fun (b:aA→List aB→Bool→Option (Int×Int))=>cond (!c.2) (b a c.1 true) ((cA k a.Name).bind fun h=>cond (!h) (b a c.1 true) ((cA k a.aZ).bind fun i=>cond (!i) (b a c.1 true) (cond (bO (3:Int) (a.bX.length:Int)) (b a c.1 true) ((kQ k a.bX).bind fun j=>cond (!j) (b a c.1 true) ((dA k a.Version (0:Int) (1000000:Int)).bind fun l=>b a c.1 (!l))))))
def E6 (k:Nat):CT:=⟨105,[.d (.sl (.st 1)),.d (.st 5)],[],[⟨false,.ph [.d (.int .i64),.d (.int .i64)],[]⟩],x7 k⟩
def qI (_k:Nat) (a:List UInt8) (b:List UInt8):Option Int:=
 cond (slt a b) (some (-1:Int)) (cond (!(slt a b||seq a b)) (some (1:Int)) (some (0:Int)))
def CR (k:Nat):CT:=⟨146,[.d .str,.d .str],[],[⟨false,.d (.int .i64),[]⟩],qI k⟩
def uA (k:Nat) (a:List UInt8) (c:List UInt8) (b:List UInt8) (d:List UInt8):Option Int:=
 (qI k a b).bind fun e=>cond (!bL e (0:Int)) ((qI k a b).bind fun f=>some f) ((qI k c d).bind fun g=>some g)
def x8 (k:Nat):CT:=⟨107,[.d .str,.d .str,.d .str,.d .str],[],[⟨false,.d (.int .i64),[]⟩],uA k⟩
def UJ (_k:Nat) (a:aA):Option aA:=
 bE (tB (([]:List (List UInt8)).length+a.aN.length) 16) (bE (tB (([]:List (List UInt8)).length+a.bX.length) 16) (some (⟨a.Kind,a.Name,a.aZ,(([]:List (List UInt8))++a.aN),a.Ending,(([]:List (List UInt8))++a.bX),a.Version⟩:aA)))
def Q0 (k:Nat):CT:=⟨174,[.d (.st 5)],[],[⟨false,.d (.st 5),[]⟩],UJ k⟩
def pP (_k:Nat) (a:aA):Option ((List UInt8)×(List UInt8)×(List UInt8)×Bool×Int×(List (List UInt8))×(List (List UInt8))):=
 bE (tB (([]:List (List UInt8)).length+a.aN.length) 16) (bE (tB (([]:List (List UInt8)).length+a.bX.length) 16) (some (a.Kind,a.Name,a.aZ,a.Ending,a.Version,(([]:List (List UInt8))++a.aN),(([]:List (List UInt8))++a.bX))))
def wI (k:Nat):CT:=⟨174,[.d (.st 5)],[],[⟨false,.agg [.d .str,.d .str,.d .str,.ow 0,.d .bool,.ow 1,.d (.int .i64)],[.row .str .ms,.row .str .ms]⟩],pP k⟩
abbrev AH:List Ty:=[.sl (.st 0),.int .i64,.st 5,.str,.str,.str,.bool,.int .i64,.sl .str,.sl .str]
def sy (l:aA→List UInt8→List UInt8→List UInt8→Bool→Int→List (List UInt8)→List (List UInt8)→Option aA) (x:Nat) (m:List aB→Int→aA→List UInt8→List UInt8→List UInt8→Bool→Int→List (List UInt8)→List (List UInt8)→Option aA) (c:List aB) (a:Int) (d:aA) (e:List UInt8) (f:List UInt8) (g:List UInt8) (h:Bool) (i:Int) (b:List (List UInt8)) (j:List (List UInt8)):Option aA:=
 cond (bO a (c.length:Int)) (share (fun (n:List aB) (o:Int) (p:aA) (q:List UInt8) (r:List UInt8) (s:List UInt8) (t:Bool) (u:Int) (v:List (List UInt8)) (w:List (List UInt8))=>m n (aQ .i64 o (1:Int)) p q r s t u v w) fun (k:List aB→Int→aA→List UInt8→List UInt8→List UInt8→Bool→Int→List (List UInt8)→List (List UInt8)→Option aA)=>bE (bU a b.length) (cond (seq (nth ([]:List UInt8) b a) ([]:List UInt8)) (bE (bU a c.length) (bE (bU a b.length) (k c a d e f g h i (gK b a (nth (default:aB) c a).Default) j))) (k c a d e f g h i b j))) (l d e f g h i b j)
def AI (k:Nat) (m:List aC) (b:aA):Option aA:=
 (pP k b).bind fun a=>(fH k m b).bind fun c=>cond (!c.2) (some (⟨a.1,a.2.1,a.2.2.1,a.2.2.2.2.2.1,a.2.2.2.1,a.2.2.2.2.2.2,a.2.2.2.2.1⟩:aA)) (share (fun (n:aA) (d:List UInt8) (e:List UInt8) (f:List UInt8) (g:Bool) (h:Int) (i:List (List UInt8)) (j:List (List UInt8))=>some (⟨d,e,f,i,g,j,h⟩:aA)) fun (l:aA→List UInt8→List UInt8→List UInt8→Bool→Int→List (List UInt8)→List (List UInt8)→Option aA)=>iter (ts:=AH) (R:=aA) k (sy l) c.1 (0:Int) (⟨([]:List UInt8),([]:List UInt8),([]:List UInt8),[],false,[],(0:Int)⟩:aA) a.1 a.2.1 a.2.2.1 a.2.2.2.1 a.2.2.2.2.1 a.2.2.2.2.2.1 a.2.2.2.2.2.2)
def Io (k:Nat):CT:=⟨148,[.d (.sl (.st 1)),.d (.st 5)],[],[⟨false,.d (.st 5),[]⟩],AI k⟩
abbrev fR:List Ty:=[.sl (.st 0),.sl (.st 2),.str,.st 5,.int .i64]
def eE (v:List aB→List UInt8→aA→Option (List UInt8)) (m:Nat) (w:List aB→List aD→List UInt8→aA→Int→Option (List UInt8)) (d:List aB) (a:List aD) (e:List UInt8) (c:aA) (b:Int):Option (List UInt8):=
 cond (bO b (a.length:Int)) (share (fun (n:List aB) (o:List aD) (p:List UInt8) (q:aA) (r:Int)=>w n o p q (aQ .i64 r (1:Int))) fun (f:List aB→List aD→List UInt8→aA→Int→Option (List UInt8))=>bE (bU b a.length) (share (fun (j:List aB) (s:List aD) (t:List UInt8) (g:aA) (u:Int) (h:aD)=>cond (seq h.cF ([]:List UInt8)) (some h.tz) ((eC m j h.cF).bind fun i=>bE (bU i g.aN.length) (cond (!seq (nth ([]:List UInt8) g.aN i) ([]:List UInt8)) (some (nth ([]:List UInt8) g.aN i)) (f j s t g u)))) fun (k:List aB→List aD→List UInt8→aA→Int→aD→Option (List UInt8))=>cond (!seq (nth (default:aD) a b).Kind c.Kind) (f d a e c b) (cond (!seq (nth (default:aD) a b).Field e) (f d a e c b) (cond (!seq (nth (default:aD) a b).cY ([]:List UInt8)) ((eC m d (nth (default:aD) a b).cY).bind fun l=>bE (bU l c.aN.length) (cond (!seq (nth ([]:List UInt8) c.aN l) (nth (default:aD) a b).Is) (f d a e c b) (k d a e c b (nth (default:aD) a b)))) (k d a e c b (nth (default:aD) a b)))))) (v d e c)
def sA (k:Nat) (f:List aB) (g:List aD) (h:aA) (i:List UInt8):Option (List UInt8):=
 share (fun (c:List aB) (d:List UInt8) (a:aA)=>(eC k c d).bind fun b=>bE (bU b a.aN.length) (some (nth ([]:List UInt8) a.aN b))) fun (e:List aB→List UInt8→aA→Option (List UInt8))=>iter (ts:=fR) (R:=List UInt8) k (eE e) f g i h (0:Int)
def BP (k:Nat):CT:=⟨175,[.d (.sl (.st 0)),.d (.sl (.st 2)),.d (.st 5),.d .str],[],[⟨false,.d .str,[]⟩],sA k⟩
abbrev qJ:List Ty:=[.sl (.st 2),.int .i64,.int .i64,.st 1,.sl .str]
def mr (g:List aD→Int→aC→List (List UInt8)→Option (List (List UInt8))) (h:Nat) (n:List aD→Int→Int→aC→List (List UInt8)→Option (List (List UInt8))) (d:List aD) (e:Int) (b:Int) (a:aC) (c:List (List UInt8)):Option (List (List UInt8)):=
 cond (bO b (a.aU.length:Int)) (bE (bU b a.aU.length) (share (fun (i:List aD) (j:Int) (o:Int) (k:List UInt8) (p:Bool) (l:aC) (f:List (List UInt8))=>cond p (bE (tB (f.length+([k]:List (List UInt8)).length) 16) (g i j l (f++([k]:List (List UInt8))))) (n i j (aQ .i64 o (1:Int)) l f)) fun (m:List aD→Int→Int→List UInt8→Bool→aC→List (List UInt8)→Option (List (List UInt8)))=>(lN h c (nth (default:aB) a.aU b).Name).bind fun q=>cond (!q) ((sq h d a.Kind (nth (default:aB) a.aU b).Name c).bind fun r=>m d e b (nth (default:aB) a.aU b).Name r a c) (m d e b (nth (default:aB) a.aU b).Name false a c))) (g d e a c)
abbrev y5:List Ty:=[.sl (.st 2),.int .i64,.st 1,.sl .str]
def qi (d:List (List UInt8)→Option (List (List UInt8))) (e:Nat) (f:List aD→Int→aC→List (List UInt8)→Option (List (List UInt8))) (g:List aD) (a:Int) (b:aC) (c:List (List UInt8)):Option (List (List UInt8)):=
 cond (bO a (b.aU.length:Int)) (share (fun (h:List aD) (i:Int) (j:aC) (k:List (List UInt8))=>f h (aQ .i64 i (1:Int)) j k) fun (l:List aD→Int→aC→List (List UInt8)→Option (List (List UInt8)))=>iter (ts:=qJ) (R:=List (List UInt8)) e (mr l) g a (0:Int) b c) (d c)
def x9 (k:Nat) (c:aC) (d:List aD):Option (List (List UInt8)):=
 share (fun (a:List (List UInt8))=>some a) fun (b:List (List UInt8)→Option (List (List UInt8)))=>iter (ts:=y5) (R:=List (List UInt8)) k (qi b) d (0:Int) c ([]:List (List UInt8))
def E7 (k:Nat):CT:=⟨142,[.d (.st 1),.d (.sl (.st 2))],[],[⟨false,.ow 0,[.row .str .ms]⟩],x9 k⟩
abbrev xF:List Ty:=[.sl (.st 2),.sl (.st 0),.int .i64,.st 5,.str,.str,.str,.bool,.int .i64,.sl .str,.sl .str,.sl .str]
def oB (o:aA→List UInt8→List UInt8→List UInt8→Bool→Int→List (List UInt8)→List (List UInt8)→Option aA) (k:Nat) (p:List aD→List aB→Int→aA→List UInt8→List UInt8→List UInt8→Bool→Int→List (List UInt8)→List (List UInt8)→List (List UInt8)→Option aA) (l:List aD) (d:List aB) (a:Int) (m:aA) (e:List UInt8) (f:List UInt8) (g:List UInt8) (h:Bool) (i:Int) (b:List (List UInt8)) (c:List (List UInt8)) (j:List (List UInt8)):Option aA:=
 cond (bO a (b.length:Int)) (bE (bU a b.length) ((eC k d (nth ([]:List UInt8) b a)).bind fun n=>bE (bU a b.length) ((sA k d l (⟨e,f,g,c,h,j,i⟩:aA) (nth ([]:List UInt8) b a)).bind fun q=>bE (bU n c.length) (p l d (aQ .i64 a (1:Int)) m e f g h i b (gK c n q) j)))) (o m e f g h i c j)
def u6 (k:Nat) (b:List aC) (d:List aD) (c:aA):Option aA:=
 (pP k c).bind fun a=>(fH k b c).bind fun e=>cond (!e.2) (some (⟨a.1,a.2.1,a.2.2.1,a.2.2.2.2.2.1,a.2.2.2.1,a.2.2.2.2.2.2,a.2.2.2.2.1⟩:aA)) ((lO k b c.Kind).bind fun f=>bE (bU f b.length) ((x9 k (nth (default:aC) b f) d).bind fun p=>share (fun (q:aA) (g:List UInt8) (h:List UInt8) (i:List UInt8) (j:Bool) (l:Int) (m:List (List UInt8)) (n:List (List UInt8))=>some (⟨g,h,i,m,j,n,l⟩:aA)) fun (o:aA→List UInt8→List UInt8→List UInt8→Bool→Int→List (List UInt8)→List (List UInt8)→Option aA)=>iter (ts:=xF) (R:=aA) k (oB o) d e.1 (0:Int) (⟨([]:List UInt8),([]:List UInt8),([]:List UInt8),[],false,[],(0:Int)⟩:aA) a.1 a.2.1 a.2.2.1 a.2.2.2.1 a.2.2.2.2.1 p a.2.2.2.2.2.1 a.2.2.2.2.2.2))
def DQ (k:Nat):CT:=⟨147,[.d (.sl (.st 1)),.d (.sl (.st 2)),.d (.st 5)],[],[⟨false,.d (.st 5),[]⟩],u6 k⟩
def u7 (k:Nat) (a:List aC) (b:List aD) (c:aA):Option aA:=
 (AI k a c).bind fun d=>(u6 k a b d).bind fun e=>some e
def DR (k:Nat):CT:=⟨109,[.d (.sl (.st 1)),.d (.sl (.st 2)),.d (.st 5)],[],[⟨false,.d (.st 5),[]⟩],u7 k⟩
abbrev sB:List Ty:=[.sl .str,.sl .str,.int .i64]
def kf (e:Option Bool) (f:Nat) (d:List (List UInt8)→List (List UInt8)→Int→Option Bool) (b:List (List UInt8)) (c:List (List UInt8)) (a:Int):Option Bool:=
 cond (bO a (b.length:Int)) (bE (bU a b.length) (bE (bU a c.length) (cond (!seq (nth ([]:List UInt8) b a) (nth ([]:List UInt8) c a)) (some false) (d b c (aQ .i64 a (1:Int)))))) (e)
def oC (k:Nat) (a:List (List UInt8)) (b:List (List UInt8)):Option Bool:=
 cond (!bL (a.length:Int) (b.length:Int)) (some false) (share (some true) fun (c:Option Bool)=>iter (ts:=sB) (R:=Bool) k (kf c) a b (0:Int))
def y6 (k:Nat):CT:=⟨108,[.d (.sl .str),.d (.sl .str)],[],[⟨false,.d .bool,[]⟩],oC k⟩
abbrev DS:List Ty:=[.str,.str,.st 10,.int .i64]
def x_ (g:Option Int) (m:Nat) (h:List UInt8→List UInt8→aE→Int→Option Int) (c:List UInt8) (d:List UInt8) (a:aE) (b:Int):Option Int:=
 cond (bO b (a.aF.length:Int)) (share (fun (i:List UInt8) (j:List UInt8) (k:aE) (e:Int) (l:Bool)=>cond l (some e) (h i j k (aQ .i64 e (1:Int)))) fun (f:List UInt8→List UInt8→aE→Int→Bool→Option Int)=>bE (bU b a.aF.length) (cond (seq (nth (default:aA) a.aF b).Kind c) (bE (bU b a.aF.length) (f c d a b (seq (nth (default:aA) a.aF b).Name d))) (f c d a b false))) (g)
def GO (k:Nat) (b:aE) (c:List UInt8) (d:List UInt8):Option Int:=
 share (some (-1:Int)) fun (a:Option Int)=>iter (ts:=DS) (R:=Int) k (x_ a) c d b (0:Int)
def M6 (k:Nat):CT:=⟨110,[.d (.st 10),.d .str,.d .str],[],[⟨false,.d (.int .i64),[]⟩],GO k⟩
abbrev gb:List Ty:=[.st 4,.st 10,.int .i64,.sl (.st 0),.int .i64,.st 5]
def ea (h:aH→aE→Int→Option Bool) (i:Nat) (j:aH→aE→Int→List aB→Int→aA→Option Bool) (e:aH) (d:aE) (f:Int) (b:List aB) (a:Int) (c:aA):Option Bool:=
 cond (bO a (b.length:Int)) (share (fun (k:aH) (l:aE) (m:Int) (n:List aB) (o:Int) (p:Bool) (q:aA)=>cond p (some false) (j k l m n (aQ .i64 o (1:Int)) q)) fun (g:aH→aE→Int→List aB→Int→Bool→aA→Option Bool)=>bE (bU a b.length) (cond (bL (nth (default:aB) b a).Kind (4:Int)) (bE (bU a c.aN.length) (cond (!seq (nth ([]:List UInt8) c.aN a) ([]:List UInt8)) (bE (bU a b.length) (bE (bU a c.aN.length) ((GO i d (nth (default:aB) b a).To (nth ([]:List UInt8) c.aN a)).bind fun r=>g e d f b a (bO r (0:Int)) c))) (g e d f b a false c))) (g e d f b a false c))) (h e d f)
abbrev eG:List Ty:=[.st 4,.st 10,.int .i64]
def dK (m:Option Bool) (c:Nat) (n:aH→aE→Int→Option Bool) (f:aH) (a:aE) (b:Int):Option Bool:=
 cond (bO b (a.aF.length:Int)) (share (fun (o:aH) (p:aE) (q:Int)=>n o p (aQ .i64 q (1:Int))) fun (r:aH→aE→Int→Option Bool)=>bE (bU b a.aF.length) ((x7 c f.bS (nth (default:aA) a.aF b)).bind fun s=>share (fun (k:aH) (e:aE) (d:Int) (t:Bool) (g:aA)=>cond t (some false) (share (fun (h:aH) (u:aE) (v:Int) (w:Bool) (i:aA)=>cond w (some false) ((u7 c h.bS h.ib i).bind fun x=>(oC c x.aN i.aN).bind fun y=>cond (!y) (some false) ((fH c h.bS i).bind fun z=>iter (ts:=gb) (R:=Bool) c (ea r) h u v z.1 (0:Int) i))) fun (l:aH→aE→Int→Bool→aA→Option Bool)=>cond (bO (0:Int) d) (bE (bU (bW .i64 d (1:Int)) e.aF.length) (bE (bU (bW .i64 d (1:Int)) e.aF.length) ((uA c (nth (default:aA) e.aF (bW .i64 d (1:Int))).Kind (nth (default:aA) e.aF (bW .i64 d (1:Int))).Name g.Kind g.Name).bind fun A=>l k e d (ck (0:Int) A) g))) (l k e d false g))) fun (j:aH→aE→Int→Bool→aA→Option Bool)=>cond (!bL s.1 (0:Int)) (j f a b true (nth (default:aA) a.aF b)) ((nM c f.eg (nth (default:aA) a.aF b).aZ).bind fun B=>cond (!B) (j f a b true (nth (default:aA) a.aF b)) ((dA c (nth (default:aA) a.aF b).Version (1:Int) a.GL).bind fun C=>j f a b (!C) (nth (default:aA) a.aF b))))) (m)
def oD (k:Nat) (c:aH) (b:aE):Option Bool:=
 cond (bO (40:Int) (b.aF.length:Int)) (some false) (share (some true) fun (a:Option Bool)=>iter (ts:=eG) (R:=Bool) k (dK a) c b (0:Int))
def y7 (k:Nat):CT:=⟨73,[.d (.st 4),.d (.st 10)],[],[⟨false,.d .bool,[]⟩],oD k⟩
abbrev po:List Ty:=[.st 6,.int .i64]
def kS (c:Option Bool) (d:Nat) (e:bD→Int→Option Bool) (a:bD) (b:Int):Option Bool:=
 cond (bO b (a.cT.length:Int)) (bE (bU b a.cT.length) ((vZ d (BK a.cT b)).bind fun f=>cond (!f) (some false) (e a (aQ .i64 b (1:Int))))) (c)
abbrev pq:List Ty:=[.st 6,.int .i64]
def kT (d:bD→Option Bool) (e:Nat) (f:bD→Int→Option Bool) (a:bD) (b:Int):Option Bool:=
 cond (bO b (a.cB.length:Int)) (share (fun (g:bD) (h:Int) (i:Bool)=>cond i (some false) (f g (aQ .i64 h (1:Int)))) fun (c:bD→Int→Bool→Option Bool)=>bE (bU b a.cB.length) ((dA e (nth (0:Int) a.cB b) (1:Int) (5:Int)).bind fun j=>cond (!j) (c a b true) (cond (bO (0:Int) b) (bE (bU (bW .i64 b (1:Int)) a.cB.length) (bE (bU b a.cB.length) (c a b (ck (nth (0:Int) a.cB b) (nth (0:Int) a.cB (bW .i64 b (1:Int))))))) (c a b false)))) (d a)
def jJ (k:Nat) (a:bD):Option Bool:=
 share (fun (c:bD) (d:Bool)=>cond d (some false) (share (fun (e:bD)=>share (some true) fun (f:Option Bool)=>iter (ts:=po) (R:=Bool) k (kS f) e (0:Int)) fun (g:bD→Option Bool)=>iter (ts:=pq) (R:=Bool) k (kT g) c (0:Int))) fun (b:bD→Bool→Option Bool)=>cond (bL (a.cB.length:Int) (0:Int)) (b a true) (cond (bO (16:Int) (a.cT.length:Int)) (b a true) (cond (!seq a.Kind ([]:List UInt8)) ((cA k a.Kind).bind fun h=>cond (!h) (b a true) (cond (!seq a.aZ ([]:List UInt8)) ((cA k a.aZ).bind fun i=>b a (!i)) (b a false))) (cond (!seq a.aZ ([]:List UInt8)) ((cA k a.aZ).bind fun j=>b a (!j)) (b a false))))
def DT (k:Nat):CT:=⟨112,[.d (.st 6)],[],[⟨false,.d .bool,[]⟩],jJ k⟩
abbrev tZ:List Ty:=[.st 10,.int .i64]
def lR (r:Option Bool) (d:Nat) (e:aE→Int→Option Bool) (a:aE) (b:Int):Option Bool:=
 cond (bO b (a.bZ.length:Int)) (bE (bU b a.bZ.length) (share (fun (f:aE) (g:Int) (h:Bool)=>cond h (some false) (e f (aQ .i64 g (1:Int)))) fun (c:aE→Int→Bool→Option Bool)=>(dA d (nth (default:aK) a.bZ b).Number (1:Int) a.lh).bind fun i=>cond (!i) (c a b true) (cond (bO (0:Int) b) (bE (bU (bW .i64 b (1:Int)) a.bZ.length) (cond (ck (nth (default:aK) a.bZ b).Number (nth (default:aK) a.bZ (bW .i64 b (1:Int))).Number) (c a b true) ((cA d (nth (default:aK) a.bZ b).To).bind fun j=>cond (!j) (c a b true) (cond (!seq (nth (default:aK) a.bZ b).By ([]:List UInt8)) ((cA d (nth (default:aK) a.bZ b).By).bind fun k=>cond (!k) (c a b true) ((jJ d (nth (default:aK) a.bZ b).cP).bind fun l=>c a b (!l))) ((jJ d (nth (default:aK) a.bZ b).cP).bind fun m=>c a b (!m)))))) ((cA d (nth (default:aK) a.bZ b).To).bind fun n=>cond (!n) (c a b true) (cond (!seq (nth (default:aK) a.bZ b).By ([]:List UInt8)) ((cA d (nth (default:aK) a.bZ b).By).bind fun o=>cond (!o) (c a b true) ((jJ d (nth (default:aK) a.bZ b).cP).bind fun p=>c a b (!p))) ((jJ d (nth (default:aK) a.bZ b).cP).bind fun q=>c a b (!q))))))) (r)
def qj (k:Nat) (a:aE):Option Bool:=
 cond (bO (24:Int) (a.bZ.length:Int)) (some false) (share (some true) fun (b:Option Bool)=>iter (ts:=tZ) (R:=Bool) k (lR b) a (0:Int))
def AJ (k:Nat):CT:=⟨74,[.d (.st 10)],[],[⟨false,.d .bool,[]⟩],qj k⟩
abbrev xG:List Ty:=[.str,.str,.st 10,.int .i64]
def oE (g:Option Int) (m:Nat) (h:List UInt8→List UInt8→aE→Int→Option Int) (c:List UInt8) (d:List UInt8) (a:aE) (b:Int):Option Int:=
 cond (bO b (a.aT.length:Int)) (share (fun (i:List UInt8) (j:List UInt8) (k:aE) (e:Int) (l:Bool)=>cond l (some e) (h i j k (aQ .i64 e (1:Int)))) fun (f:List UInt8→List UInt8→aE→Int→Bool→Option Int)=>bE (bU b a.aT.length) (cond (seq (nth (default:aI) a.aT b).aZ c) (bE (bU b a.aT.length) (f c d a b (seq (nth (default:aI) a.aT b).aX d))) (f c d a b false))) (g)
def u9 (k:Nat) (b:aE) (c:List UInt8) (d:List UInt8):Option Int:=
 share (some (-1:Int)) fun (a:Option Int)=>iter (ts:=xG) (R:=Int) k (oE a) c d b (0:Int)
def DU (k:Nat):CT:=⟨113,[.d (.st 10),.d .str,.d .str],[],[⟨false,.d (.int .i64),[]⟩],u9 k⟩
def qk (k:Nat) (a:aL) (b:aL):Option Int:=
 cond (!seq a.iP b.iP) ((qI k a.iP b.iP).bind fun c=>some c) ((uA k a.aZ a.aX b.aZ b.aX).bind fun d=>some d)
def AK (k:Nat):CT:=⟨114,[.d (.st 9),.d (.st 9)],[],[⟨false,.d (.int .i64),[]⟩],qk k⟩
abbrev v8:List Ty:=[.sl (.st 3),.str,.str,.int .i64]
def ny (e:Option Bool) (f:Nat) (g:List aJ→List UInt8→List UInt8→Int→Option Bool) (b:List aJ) (h:List UInt8) (c:List UInt8) (d:Int):Option Bool:=
 cond (bO d (4:Int)) ((v7 f b h).bind fun a=>cond (seq a ([]:List UInt8)) (some false) (cond (seq a c) (some true) (g b a c (aQ .i64 d (1:Int))))) (e)
def y8 (k:Nat) (d:List aJ) (a:List UInt8) (b:List UInt8):Option Bool:=
 cond (seq a b) (some true) (share (some false) fun (c:Option Bool)=>iter (ts:=v8) (R:=Bool) k (ny c) d a b (0:Int))
def BQ (k:Nat):CT:=⟨150,[.d (.sl (.st 3)),.d .str,.d .str],[],[⟨false,.d .bool,[]⟩],y8 k⟩
abbrev t_:List Ty:=[.str,.st 5,.sl (.st 0),.int .i64,.int .i64]
def lS (w:Int→Option Int) (n:Nat) (o:List UInt8→aA→List aB→Int→Int→Option Int) (d:List UInt8) (c:aA) (b:List aB) (e:Int) (a:Int):Option Int:=
 cond (bO a (b.length:Int)) (share (fun (p:List UInt8) (q:aA) (r:List aB) (s:Int) (t:Int)=>o p q r s (aQ .i64 t (1:Int))) fun (h:List UInt8→aA→List aB→Int→Int→Option Int)=>bE (bU a c.aN.length) ((pN n (nth ([]:List UInt8) c.aN a)).bind fun f=>share (fun (i:List UInt8) (j:aA) (k:List aB) (l:Int) (m:Int) (u:Int) (v:Bool)=>cond v (h i j k (aQ .i64 l u) m) (h i j k l m)) fun (g:List UInt8→aA→List aB→Int→Int→Int→Bool→Option Int)=>bE (bU a b.length) (cond (bL (nth (default:aB) b a).Kind (1:Int)) (bE (bU a b.length) (cond (seq (nth (default:aB) b a).bA d) (g d c b e a f (bO (0:Int) f)) (g d c b e a f false))) (g d c b e a f false)))) (w e)
def ql (k:Nat) (q:aH) (c:aA) (d:List UInt8):Option Int:=
 (fH k q.bS c).bind fun e=>share (fun (f:List UInt8) (g:aA) (h:List aB) (i:Bool)=>cond i (some (0:Int)) (share (fun (j:List UInt8) (l:aA) (m:List aB) (n:Int)=>share (fun (o:Int)=>some o) fun (p:Int→Option Int)=>iter (ts:=t_) (R:=Int) k (lS p) j l m n (0:Int)) fun (a:List UInt8→aA→List aB→Int→Option Int)=>cond (seq f g.Kind) (a f g h (1:Int)) (a f g h (0:Int)))) fun (b:List UInt8→aA→List aB→Bool→Option Int)=>cond (!e.2) (b d c e.1 true) (b d c e.1 (seq d ([]:List UInt8)))
def AL (k:Nat):CT:=⟨151,[.d (.st 4),.d (.st 5),.d .str],[],[⟨false,.d (.int .i64),[]⟩],ql k⟩
abbrev xH:List Ty:=[.str,.str,.st 4,.st 10,.int .i64,.int .i64]
def oF (i:Int→Option Int) (g:Nat) (j:List UInt8→List UInt8→aH→aE→Int→Int→Option Int) (d:List UInt8) (e:List UInt8) (c:aH) (a:aE) (f:Int) (b:Int):Option Int:=
 cond (bO b (a.aF.length:Int)) (share (fun (k:List UInt8) (l:List UInt8) (m:aH) (n:aE) (o:Int) (p:Int)=>j k l m n o (aQ .i64 p (1:Int))) fun (h:List UInt8→List UInt8→aH→aE→Int→Int→Option Int)=>bE (bU b a.aF.length) ((y8 g c.eg (nth (default:aA) a.aF b).aZ d).bind fun q=>cond q (bE (bU b a.aF.length) ((ql g c (nth (default:aA) a.aF b) e).bind fun r=>h d e c a (aQ .i64 f r) b)) (h d e c a f b))) (i f)
def u_ (k:Nat) (c:aH) (d:aE) (e:List UInt8) (f:List UInt8):Option Int:=
 share (fun (a:Int)=>some a) fun (b:Int→Option Int)=>iter (ts:=xH) (R:=Int) k (oF b) e f c d (0:Int) (0:Int)
def DV (k:Nat):CT:=⟨115,[.d (.st 4),.d (.st 10),.d .str,.d .str],[],[⟨false,.d (.int .i64),[]⟩],u_ k⟩
abbrev BR:List Ty:=[.str,.str,.st 10,.int .i64,.int .i64]
def vc (m:Int→Option Int) (u:Nat) (n:List UInt8→List UInt8→aE→Int→Int→Option Int) (e:List UInt8) (f:List UInt8) (a:aE) (g:Int) (b:Int):Option Int:=
 cond (bO b (a.bN.length:Int)) (share (fun (o:List UInt8) (p:List UInt8) (q:aE) (r:Int) (s:Int)=>n o p q r (aQ .i64 s (1:Int))) fun (h:List UInt8→List UInt8→aE→Int→Int→Option Int)=>share (fun (i:List UInt8) (j:List UInt8) (c:aE) (k:Int) (d:Int) (t:Bool)=>cond t (bE (bU d c.bN.length) (h i j c (aQ .i64 k (nth (default:aL) c.bN d).cM) d)) (h i j c k d)) fun (l:List UInt8→List UInt8→aE→Int→Int→Bool→Option Int)=>bE (bU b a.bN.length) (cond (seq (nth (default:aL) a.bN b).aZ e) (bE (bU b a.bN.length) (l e f a g b (seq (nth (default:aL) a.bN b).aX f))) (l e f a g b false))) (m g)
def CS (k:Nat) (c:aE) (d:List UInt8) (e:List UInt8):Option Int:=
 share (fun (a:Int)=>some a) fun (b:Int→Option Int)=>iter (ts:=BR) (R:=Int) k (vc b) d e c (0:Int) (0:Int)
def J6 (k:Nat):CT:=⟨116,[.d (.st 10),.d .str,.d .str],[],[⟨false,.d (.int .i64),[]⟩],CS k⟩
abbrev nN:List Ty:=[.st 4,.st 10,.int .i64]
def jr (n:Option Bool) (g:Nat) (o:aH→aE→Int→Option Bool) (d:aH) (a:aE) (b:Int):Option Bool:=
 cond (bO b (a.aT.length:Int)) (bE (bU b a.aT.length) (share (fun (k:aH) (e:aE) (c:Int) (p:Bool) (i:aI)=>cond p (some false) (share (fun (l:aH) (j:aE) (q:Int) (r:Bool) (f:aI)=>cond r (some false) ((u_ g l j f.aZ f.aX).bind fun s=>(CS g j f.aZ f.aX).bind fun t=>cond (!bL (aQ .i64 (aQ .i64 s t) f.mN) f.b7) (some false) (o l j (aQ .i64 q (1:Int))))) fun (m:aH→aE→Int→Bool→aI→Option Bool)=>cond (bO (0:Int) c) (bE (bU (bW .i64 c (1:Int)) e.aT.length) (bE (bU (bW .i64 c (1:Int)) e.aT.length) ((uA g (nth (default:aI) e.aT (bW .i64 c (1:Int))).aZ (nth (default:aI) e.aT (bW .i64 c (1:Int))).aX i.aZ i.aX).bind fun u=>m k e c (ck (0:Int) u) i))) (m k e c false i))) fun (h:aH→aE→Int→Bool→aI→Option Bool)=>(nM g d.eg (nth (default:aI) a.aT b).aZ).bind fun v=>cond (!v) (h d a b true (nth (default:aI) a.aT b)) ((cA g (nth (default:aI) a.aT b).aX).bind fun w=>cond (!w) (h d a b true (nth (default:aI) a.aT b)) (cond (bO (nth (default:aI) a.aT b).mN (0:Int)) (h d a b true (nth (default:aI) a.aT b)) (cond (bO (nth (default:aI) a.aT b).b7 (nth (default:aI) a.aT b).mN) (h d a b true (nth (default:aI) a.aT b)) (h d a b (bO (1000000:Int) (nth (default:aI) a.aT b).b7) (nth (default:aI) a.aT b))))))) (n)
abbrev xI:List Ty:=[.st 4,.st 10,.int .i64]
def oG (p:aH→aE→Option Bool) (e:Nat) (f:aH→aE→Int→Option Bool) (c:aH) (a:aE) (b:Int):Option Bool:=
 cond (bO b (a.bN.length:Int)) (bE (bU b a.bN.length) (share (fun (g:aH) (h:aE) (i:Int) (j:Bool)=>cond j (some false) (f g h (aQ .i64 i (1:Int)))) fun (d:aH→aE→Int→Bool→Option Bool)=>(cA e (nth (default:aL) a.bN b).iP).bind fun k=>cond (!k) (d c a b true) ((u9 e a (nth (default:aL) a.bN b).aZ (nth (default:aL) a.bN b).aX).bind fun l=>cond (bO l (0:Int)) (d c a b true) ((dA e (nth (default:aL) a.bN b).cM (1:Int) (1000000:Int)).bind fun m=>cond (!m) (d c a b true) ((dA e (nth (default:aL) a.bN b).fX a.pd (aQ .i64 a.pd (10:Int))).bind fun n=>cond (!n) (d c a b true) (cond (bO (0:Int) b) (bE (bU (bW .i64 b (1:Int)) a.bN.length) ((qk e (nth (default:aL) a.bN (bW .i64 b (1:Int))) (nth (default:aL) a.bN b)).bind fun o=>d c a b (ck (0:Int) o))) (d c a b false))))))) (p c a)
def vd (k:Nat) (c:aH) (a:aE):Option Bool:=
 share (fun (h:aH) (i:aE) (j:Bool)=>cond j (some false) (share (fun (d:aH) (e:aE)=>share (some true) fun (b:Option Bool)=>iter (ts:=nN) (R:=Bool) k (jr b) d e (0:Int)) fun (f:aH→aE→Option Bool)=>iter (ts:=xI) (R:=Bool) k (oG f) h i (0:Int))) fun (g:aH→aE→Bool→Option Bool)=>cond (bO (10:Int) (a.aT.length:Int)) (g c a true) (g c a (bO (24:Int) (a.bN.length:Int)))
def DW (k:Nat):CT:=⟨75,[.d (.st 4),.d (.st 10)],[],[⟨false,.d .bool,[]⟩],vd k⟩
def ml (k:Nat) (c:aH) (a:aE):Option Bool:=
 share (fun (e:aH) (d:aE) (f:Bool)=>cond f (some false) ((oD k e d).bind fun g=>cond g ((qj k d).bind fun h=>cond h ((vd k e d).bind fun i=>some i) (some false)) (some false))) fun (b:aH→aE→Bool→Option Bool)=>(sx k c).bind fun j=>cond (!j) (b c a true) ((dA k a.GL (0:Int) (1000000:Int)).bind fun l=>cond (!l) (b c a true) ((dA k a.pd (0:Int) (1000000:Int)).bind fun m=>cond (!m) (b c a true) ((dA k a.lh (0:Int) a.GL).bind fun n=>b c a (!n))))
def sC (k:Nat):CT:=⟨30,[.d (.st 4),.d (.st 10)],[],[⟨false,.d .bool,[]⟩],ml k⟩
abbrev xJ:List Ty:=[.st 10,.int .i64,.sl .bool]
def oH (e:List Bool→Option (List Bool)) (f:Nat) (d:aE→Int→List Bool→Option (List Bool)) (a:aE) (b:Int) (c:List Bool):Option (List Bool):=
 cond (bO b (a.aF.length:Int)) (bE (bU b a.aF.length) (bE (tB (c.length+([(nth (default:aA) a.aF b).Ending]:List Bool).length) 1) (d a (aQ .i64 b (1:Int)) (c++([(nth (default:aA) a.aF b).Ending]:List Bool))))) (e c)
def ve (k:Nat) (a:aE):Option (List Bool):=
 share (fun (b:List Bool)=>some b) fun (c:List Bool→Option (List Bool))=>iter (ts:=xJ) (R:=List Bool) k (oH c) a (0:Int) ([]:List Bool)
def DX (k:Nat):CT:=⟨57,[.d (.st 10)],[],[⟨false,.d (.sl .bool),[]⟩],ve k⟩
abbrev qK:List Ty:=[.int .i64,.int .i64,.st 10,.sl (.st 0),.int .i64,.st 5]
def mv (h:Option Bool) (q:Nat) (i:Int→Int→aE→List aB→Int→aA→Option Bool) (c:Int) (f:Int) (d:aE) (b:List aB) (a:Int) (e:aA):Option Bool:=
 cond (bO a (b.length:Int)) (bE (bU a b.length) (share (fun (j:Int) (k:Int) (l:aE) (m:List aB) (n:Int) (o:Bool) (p:aA)=>cond o (some true) (i j k l m (aQ .i64 n (1:Int)) p)) fun (g:Int→Int→aE→List aB→Int→Bool→aA→Option Bool)=>cond (bL (nth (default:aB) b a).Kind (4:Int)) (cond (bL (nth (default:aB) b a).cz f) (bE (bU a e.aN.length) (cond (!seq (nth ([]:List UInt8) e.aN a) ([]:List UInt8)) (bE (bU c d.aF.length) (cond (seq (nth (default:aB) b a).To (nth (default:aA) d.aF c).Kind) (bE (bU a e.aN.length) (bE (bU c d.aF.length) (g c f d b a (seq (nth ([]:List UInt8) e.aN a) (nth (default:aA) d.aF c).Name) e))) (g c f d b a false e))) (g c f d b a false e))) (g c f d b a false e)) (g c f d b a false e))) (h)
def lI (k:Nat) (d:aH) (a:aE) (b:Int) (e:Int) (f:Int):Option Bool:=
 bE (bU b a.aF.length) ((fH k d.bS (nth (default:aA) a.aF b)).bind fun g=>share (some false) fun (c:Option Bool)=>iter (ts:=qK) (R:=Bool) k (mv c) e f a g.1 (0:Int) (nth (default:aA) a.aF b))
def y9 (k:Nat):CT:=⟨59,[.d (.st 4),.d (.st 10),.d (.int .i64),.d (.int .i64),.d (.int .i64)],[],[⟨false,.d .bool,[]⟩],lI k⟩
abbrev y_:List Ty:=[.sl .bool,.int .i64,.st 4,.st 10,.int .i64]
def qm (i:Option Bool) (g:Nat) (j:List Bool→Int→aH→aE→Int→Option Bool) (c:List Bool) (d:Int) (e:aH) (b:aE) (a:Int):Option Bool:=
 cond (bO a (b.aF.length:Int)) (share (fun (k:List Bool) (l:Int) (m:aH) (n:aE) (o:Int) (p:Bool)=>cond p (some true) (j k l m n (aQ .i64 o (1:Int)))) fun (f:List Bool→Int→aH→aE→Int→Bool→Option Bool)=>bE (bU a c.length) (cond (!(nth false c a)) ((lI g e b a d (1:Int)).bind fun q=>cond q (f c d e b a true) ((lI g e b a d (3:Int)).bind fun h=>f c d e b a h)) (f c d e b a false))) (i)
def ya (k:Nat) (b:aH) (c:aE) (d:List Bool) (e:Int):Option Bool:=
 share (some false) fun (a:Option Bool)=>iter (ts:=y_) (R:=Bool) k (qm a) d e b c (0:Int)
def E8 (k:Nat):CT:=⟨97,[.d (.st 4),.d (.st 10),.d (.sl .bool),.d (.int .i64)],[],[⟨false,.d .bool,[]⟩],ya k⟩
abbrev mS:List Ty:=[.st 4,.st 10,.int .i64,.int .i64,.sl .bool]
def il (m:aH→aE→Int→List Bool→Option (List Bool)) (n:Nat) (o:aH→aE→Int→Int→List Bool→Option (List Bool)) (d:aH) (c:aE) (e:Int) (a:Int) (b:List Bool):Option (List Bool):=
 cond (bO a (b.length:Int)) (share (fun (p:aH) (q:aE) (r:Int) (s:Int) (t:List Bool)=>o p q r (aQ .i64 s (1:Int)) t) fun (i:aH→aE→Int→Int→List Bool→Option (List Bool))=>share (fun (j:aH) (k:aE) (l:Int) (f:Int) (u:Bool) (g:List Bool)=>cond u (bE (bU f g.length) (i j k l f (gK g f false))) (i j k l f g)) fun (h:aH→aE→Int→Int→Bool→List Bool→Option (List Bool))=>bE (bU a b.length) (cond (nth false b a) (bE (bU a c.aF.length) (cond (bO (0:Int) ((nth (default:aA) c.aF a).bX.length:Int)) (h d c e a true b) ((ya n d c b a).bind fun v=>h d c e a v b))) (h d c e a false b))) (m d c e b)
abbrev ua:List Ty:=[.st 4,.st 10,.int .i64,.sl .bool]
def lT (c:List Bool→Option (List Bool)) (d:Nat) (e:aH→aE→Int→List Bool→Option (List Bool)) (f:aH) (g:aE) (b:Int) (a:List Bool):Option (List Bool):=
 cond (ck b (a.length:Int)) (share (fun (h:aH) (i:aE) (j:Int) (k:List Bool)=>e h i (aQ .i64 j (1:Int)) k) fun (l:aH→aE→Int→List Bool→Option (List Bool))=>iter (ts:=mS) (R:=List Bool) d (il l) f g b (0:Int) a) (c a)
def mm (k:Nat) (d:aH) (e:aE) (c:List Bool):Option (List Bool):=
 bE (tB (([]:List Bool).length+c.length) 1) (share (fun (a:List Bool)=>some a) fun (b:List Bool→Option (List Bool))=>iter (ts:=ua) (R:=List Bool) k (lT b) d e (0:Int) (([]:List Bool)++c))
def sD (k:Nat):CT:=⟨56,[.d (.st 4),.d (.st 10),.d (.sl .bool)],[],[⟨false,.d (.sl .bool),[]⟩],mm k⟩
abbrev xK:List Ty:=[.sl .bool,.int .i64,.sl (.int .i64)]
def oI (e:List Int→Option (List Int)) (j:Nat) (f:List Bool→Int→List Int→Option (List Int)) (b:List Bool) (a:Int) (c:List Int):Option (List Int):=
 cond (bO a (b.length:Int)) (share (fun (g:List Bool) (h:Int) (i:List Int)=>f g (aQ .i64 h (1:Int)) i) fun (d:List Bool→Int→List Int→Option (List Int))=>bE (bU a b.length) (cond (nth false b a) (bE (tB (c.length+([a]:List Int).length) 8) (d b a (c++([a]:List Int)))) (d b a c))) (e c)
def pH (k:Nat) (c:List Bool):Option (List Int):=
 share (fun (a:List Int)=>some a) fun (b:List Int→Option (List Int))=>iter (ts:=xK) (R:=List Int) k (oI b) c (0:Int) ([]:List Int)
def wJ (k:Nat):CT:=⟨55,[.d (.sl .bool)],[],[⟨false,.d (.sl (.int .i64)),[]⟩],pH k⟩
def sa (k:Nat) (b:aH) (a:aE):Option (List Int):=
 (ml k b a).bind fun c=>cond (!c) (some ([]:List Int)) ((ve k a).bind fun d=>(mm k b a d).bind fun e=>(pH k e).bind fun f=>some f)
def BS (k:Nat):CT:=⟨19,[.d (.st 4),.d (.st 10)],[],[⟨false,.d (.sl (.int .i64)),[]⟩],sa k⟩
def vf (_k:Nat) (a:Int):Option Bool:=
 cond (ck (97:Int) a) (cond (ck a (122:Int)) (some true) (cond (ck (48:Int) a) (cond (ck a (57:Int)) (some true) (some (bL a (45:Int)))) (some (bL a (45:Int))))) (cond (ck (48:Int) a) (cond (ck a (57:Int)) (some true) (some (bL a (45:Int)))) (some (bL a (45:Int))))
def DY (k:Nat):CT:=⟨186,[.d (.int .u8)],[],[⟨false,.d .bool,[]⟩],vf k⟩
abbrev v9:List Ty:=[.str,.int .i64,.int .i64]
def nz (d:Option Bool) (e:Nat) (f:List UInt8→Int→Int→Option Bool) (b:List UInt8) (c:Int) (a:Int):Option Bool:=
 cond (bO a c) (bE (bU a b.length) ((vf e (BK b a)).bind fun g=>cond (!g) (some false) (f b c (aQ .i64 a (1:Int))))) (d)
def fP (k:Nat) (a:List UInt8):Option Bool:=
 share (some true) fun (b:Option Bool)=>iter (ts:=v9) (R:=Bool) k (nz b) a (a.length:Int) (0:Int)
def uB (k:Nat):CT:=⟨164,[.d .str],[],[⟨false,.d .bool,[]⟩],fP k⟩
def cS (k:Nat) (a:List UInt8):Option Bool:=
 cond (ck (1:Int) (a.length:Int)) (cond (ck (a.length:Int) (16:Int)) ((fP k a).bind fun b=>some b) (some false)) (some false)
def ey (k:Nat):CT:=⟨127,[.d .str],[],[⟨false,.d .bool,[]⟩],cS k⟩
abbrev o8:List Ty:=[.sl .str,.sl .str,.int .i64,.int .i64]
def gS (f:Option Bool) (g:Nat) (h:List (List UInt8)→List (List UInt8)→Int→Int→Option Bool) (c:List (List UInt8)) (b:List (List UInt8)) (d:Int) (a:Int):Option Bool:=
 cond (bO a d) (bE (bU a b.length) (share (fun (i:List (List UInt8)) (j:List (List UInt8)) (k:Int) (l:Int) (m:Bool)=>cond m (some false) (h i j k (aQ .i64 l (1:Int)))) fun (e:List (List UInt8)→List (List UInt8)→Int→Int→Bool→Option Bool)=>(cS g (nth ([]:List UInt8) b a)).bind fun n=>cond (!n) (e c b d a true) (cond (bO (0:Int) a) (bE (bU (bW .i64 a (1:Int)) c.length) (e c b d a (!slt (nth ([]:List UInt8) c (bW .i64 a (1:Int))) (nth ([]:List UInt8) b a)))) (e c b d a false)))) (f)
def eW (k:Nat) (a:List (List UInt8)):Option Bool:=
 share (some true) fun (b:Option Bool)=>iter (ts:=o8) (R:=Bool) k (gS b) a a (a.length:Int) (0:Int)
def iD (k:Nat):CT:=⟨176,[.d (.sl .str)],[],[⟨false,.d .bool,[]⟩],eW k⟩
def vg (_k:Nat) (a:aB):Option bG:=
 some (⟨a⟩:bG)
def DZ (k:Nat):CT:=⟨198,[.d (.st 0)],[],[⟨false,.pe 255 (.d (.st 13)),[]⟩],vg k⟩
def vh (_k:Nat) (a:aB):Option bG:=
 some (⟨a⟩:bG)
def D0 (k:Nat):CT:=⟨197,[.d (.st 0)],[],[⟨false,.pe 254 (.d (.st 13)),[]⟩],vh k⟩
def vi (_k:Nat) (a:aB):Option bG:=
 some (⟨a⟩:bG)
def D3 (k:Nat):CT:=⟨196,[.d (.st 0)],[],[⟨false,.pe 253 (.d (.st 13)),[]⟩],vi k⟩
def vj (_k:Nat) (a:aB):Option bG:=
 some (⟨a⟩:bG)
def D4 (k:Nat):CT:=⟨195,[.d (.st 0)],[],[⟨false,.pe 251 (.d (.st 13)),[]⟩],vj k⟩
def v_ (k:Nat) (a:aB):Option (Unit ⊕ (bG ⊕ (bG ⊕ (bG ⊕ bG)))):=
 cond (bL a.Kind (1:Int)) ((vj k a).bind fun b=>some (.inr (.inr (.inr (.inr b))))) (cond (bL a.Kind (2:Int)) ((vi k a).bind fun c=>some (.inr (.inr (.inr (.inl c))))) (cond (bL a.Kind (3:Int)) ((vh k a).bind fun d=>some (.inr (.inr (.inl d)))) (cond (bL a.Kind (4:Int)) ((vg k a).bind fun e=>some (.inr (.inl e))) (some (.inl ())))))
def Bk (k:Nat):CT:=⟨189,[.d (.st 0)],[],[⟨false,.ph [.QV,.kb false],[]⟩,⟨false,.ph [.pe 255 (.d (.st 13)),.kb true],[]⟩,⟨false,.ph [.pe 254 (.d (.st 13)),.kb true],[]⟩,⟨false,.ph [.pe 253 (.d (.st 13)),.kb true],[]⟩,⟨false,.ph [.pe 251 (.d (.st 13)),.kb true],[]⟩],v_ k⟩
def nO (_k:Nat) (a:bG):Option Bool:=
 cond (bL a.aB.bP (0:Int)) (cond (bL a.aB.b7 (0:Int)) (cond (bL (a.aB.Words.length:Int) (0:Int)) (some (seq a.aB.bA ([]:List UInt8))) (some false)) (some false)) (some false)
def sE (k:Nat):CT:=⟨234,[.d (.st 13)],[],[⟨false,.d .bool,[]⟩],nO k⟩
abbrev nP:List Ty:=[.st 13,.bool,.sl .str,.int .i64,.int .i64]
def gf (g:bG→Bool→Option Bool) (n:Nat) (h:bG→Bool→List (List UInt8)→Int→Int→Option Bool) (b:bG) (e:Bool) (c:List (List UInt8)) (d:Int) (a:Int):Option Bool:=
 cond (bO a d) (share (fun (i:bG) (j:Bool) (k:List (List UInt8)) (l:Int) (m:Int)=>h i j k l (aQ .i64 m (1:Int))) fun (f:bG→Bool→List (List UInt8)→Int→Int→Option Bool)=>bE (bU a c.length) (cond e (f b true c d a) (f b (seq (nth ([]:List UInt8) c a) b.aB.To) c d a))) (g b e)
def js (k:Nat) (e:bG) (b:List (List UInt8)):Option Bool:=
 share (fun (a:bG) (c:Bool)=>cond c (cond (ck (1:Int) a.aB.cz) (cond (ck a.aB.cz (3:Int)) (cond (seq a.aB.Default ([]:List UInt8)) (cond (bL a.aB.cz (2:Int)) (some (!a.aB.cR)) (some true)) (some false)) (some false)) (some false)) (some false)) fun (d:bG→Bool→Option Bool)=>iter (ts:=nP) (R:=Bool) k (gf d) e false b (b.length:Int) (0:Int)
def sF (k:Nat):CT:=⟨236,[.d (.st 13),.d (.sl .str)],[],[⟨false,.d .bool,[]⟩],js k⟩
def pr (k:Nat) (c:bG) (a:List UInt8):Option Bool:=
 (cS k a).bind fun b=>some b
def ub (k:Nat):CT:=⟨235,[.d (.st 13),.d .str],[],[⟨false,.d .bool,[]⟩],pr k⟩
abbrev o9:List Ty:=[.str,.int .i64,.int .i64]
def gT (e:Option Bool) (k:Nat) (f:List UInt8→Int→Int→Option Bool) (b:List UInt8) (c:Int) (a:Int):Option Bool:=
 cond (bO a c) (share (fun (g:List UInt8) (h:Int) (i:Int) (j:Bool)=>cond j (some false) (f g h (aQ .i64 i (1:Int)))) fun (d:List UInt8→Int→Int→Bool→Option Bool)=>bE (bU a b.length) (cond (bO (BK b a) (33:Int)) (d b c a true) (bE (bU a b.length) (d b c a (bO (126:Int) (BK b a)))))) (e)
def kg (k:Nat) (b:bG) (a:List UInt8):Option Bool:=
 share (fun (c:List UInt8) (f:Bool)=>cond f (some false) (share (some true) fun (d:Option Bool)=>iter (ts:=o9) (R:=Bool) k (gT d) c (c.length:Int) (0:Int))) fun (e:List UInt8→Bool→Option Bool)=>cond (bO (a.length:Int) b.aB.bP) (e a true) (e a (bO b.aB.b7 (a.length:Int)))
def uc (k:Nat):CT:=⟨232,[.d (.st 13),.d .str],[],[⟨false,.d .bool,[]⟩],kg k⟩
abbrev o_:List Ty:=[.str,.sl .str,.int .i64,.int .i64]
def gU (f:Option Bool) (g:Nat) (e:List UInt8→List (List UInt8)→Int→Int→Option Bool) (c:List UInt8) (b:List (List UInt8)) (d:Int) (a:Int):Option Bool:=
 cond (bO a d) (bE (bU a b.length) (cond (seq (nth ([]:List UInt8) b a) c) (some true) (e c b d (aQ .i64 a (1:Int))))) (f)
def kh (k:Nat) (a:bG) (b:List UInt8):Option Bool:=
 share (some false) fun (c:Option Bool)=>iter (ts:=o_) (R:=Bool) k (gU c) b a.aB.Words (a.aB.Words.length:Int) (0:Int)
def ud (k:Nat):CT:=⟨229,[.d (.st 13),.d .str],[],[⟨false,.d .bool,[]⟩],kh k⟩
abbrev zb:List Ty:=[.str,.int .i64,.int .i64,.int .i64]
def qn (l:Int→Option (Int×Bool)) (n:Nat) (m:List UInt8→Int→Int→Int→Option (Int×Bool)) (b:List UInt8) (d:Int) (e:Int) (a:Int):Option (Int×Bool):=
 cond (bO a e) (share (fun (c:List UInt8) (h:Int) (f:Int) (i:Int) (j:Int) (k:Bool)=>cond k (some ((0:Int),false)) (bE (bU f c.length) (m c (aQ .i64 (ZX .i64 h (10:Int)) (Ao .i64 (bW .u8 (BK c f) (48:Int)))) i (aQ .i64 j (1:Int))))) fun (g:List UInt8→Int→Int→Int→Int→Bool→Option (Int×Bool))=>bE (bU a b.length) (cond (bO (BK b a) (48:Int)) (g b d a e a true) (bE (bU a b.length) (g b d a e a (bO (57:Int) (BK b a)))))) (l d)
def rM (k:Nat) (a:List UInt8):Option (Int×Bool):=
 share (fun (c:List UInt8) (f:Bool)=>cond f (some ((0:Int),false)) (share (fun (d:Int)=>some (d,true)) fun (e:Int→Option (Int×Bool))=>iter (ts:=zb) (R:=Int×Bool) k (qn e) c (0:Int) (c.length:Int) (0:Int))) fun (b:List UInt8→Bool→Option (Int×Bool))=>cond (bO (a.length:Int) (1:Int)) (b a true) (cond (bO (7:Int) (a.length:Int)) (b a true) (bE (bU (0:Int) a.length) (cond (bL (BK a (0:Int)) (48:Int)) (b a (bO (1:Int) (a.length:Int))) (b a false))))
def zc (k:Nat):CT:=⟨187,[.d .str],[],[⟨false,.ph [.d (.int .i64),.d .bool],[]⟩],rM k⟩
def iE (k:Nat) (b:bG) (c:List UInt8):Option Bool:=
 (rM k c).bind fun a=>cond a.2 (cond (ck b.aB.bP a.1) (some (ck a.1 b.aB.b7)) (some false)) (some false)
def ru (k:Nat):CT:=⟨226,[.d (.st 13),.d .str],[],[⟨false,.d .bool,[]⟩],iE k⟩
def ew (k:Nat) (o:aB) (a:List UInt8):Option Bool:=
 (v_ k o).bind fun b=>zd b (fun p=>some false) (fun c=>zd c (fun d=>cond (!seq a ([]:List UInt8)) ((pr k d a).bind fun e=>some e) (some false)) (fun f=>zd f (fun g=>cond (!seq a ([]:List UInt8)) ((kg k g a).bind fun h=>some h) (some false)) (fun i=>zd i (fun j=>cond (!seq a ([]:List UInt8)) ((kh k j a).bind fun l=>some l) (some false)) (fun m=>cond (!seq a ([]:List UInt8)) ((iE k m a).bind fun n=>some n) (some false)))))
def mw (k:Nat):CT:=⟨180,[.d (.st 0),.d .str],[],[⟨false,.d .bool,[]⟩],ew k⟩
def nQ (_k:Nat) (a:bG):Option Bool:=
 cond (bL (a.aB.Words.length:Int) (0:Int)) (cond (seq a.aB.To ([]:List UInt8)) (cond (bL a.aB.cz (0:Int)) (some (seq a.aB.bA ([]:List UInt8))) (some false)) (some false)) (some false)
def sG (k:Nat):CT:=⟨231,[.d (.st 13)],[],[⟨false,.d .bool,[]⟩],nQ k⟩
def nR (_k:Nat) (a:bG) (b:List (List UInt8)):Option Bool:=
 cond (ck (1:Int) a.aB.bP) (cond (ck a.aB.bP a.aB.b7) (some (ck a.aB.b7 (40:Int))) (some false)) (some false)
def sH (k:Nat):CT:=⟨233,[.d (.st 13),.d (.sl .str)],[],[⟨false,.d .bool,[]⟩],nR k⟩
def nS (_k:Nat) (a:bG):Option Bool:=
 cond (bL a.aB.bP (0:Int)) (cond (bL a.aB.b7 (0:Int)) (cond (seq a.aB.To ([]:List UInt8)) (cond (bL a.aB.cz (0:Int)) (some (seq a.aB.bA ([]:List UInt8))) (some false)) (some false)) (some false)) (some false)
def sI (k:Nat):CT:=⟨228,[.d (.st 13)],[],[⟨false,.d .bool,[]⟩],nS k⟩
def nU (k:Nat) (a:bG) (c:List (List UInt8)):Option Bool:=
 cond (ck (1:Int) (a.aB.Words.length:Int)) (cond (ck (a.aB.Words.length:Int) (6:Int)) ((eW k a.aB.Words).bind fun b=>some b) (some false)) (some false)
def sJ (k:Nat):CT:=⟨230,[.d (.st 13),.d (.sl .str)],[],[⟨false,.d .bool,[]⟩],nU k⟩
def lU (_k:Nat) (a:bG):Option Bool:=
 cond (bL (a.aB.Words.length:Int) (0:Int)) (cond (seq a.aB.To ([]:List UInt8)) (some (bL a.aB.cz (0:Int))) (some false)) (some false)
def pQ (k:Nat):CT:=⟨225,[.d (.st 13)],[],[⟨false,.d .bool,[]⟩],lU k⟩
def lV (k:Nat) (a:bG) (c:List (List UInt8)):Option Bool:=
 cond (ck (0:Int) a.aB.bP) (cond (ck a.aB.bP a.aB.b7) (cond (ck a.aB.b7 (1000000:Int)) (cond (seq a.aB.bA ([]:List UInt8)) (some true) ((cS k a.aB.bA).bind fun b=>some b)) (some false)) (some false)) (some false)
def pR (k:Nat):CT:=⟨227,[.d (.st 13),.d (.sl .str)],[],[⟨false,.d .bool,[]⟩],lV k⟩
abbrev qL:List Ty:=[.sl .str,.sl (.st 0),.int .i64,.int .i64,.sl (.st 15)]
def my (bw:Option Bool) (d:Nat) (bx:List (List UInt8)→List aB→Int→Int→List cq→Option Bool) (Y:List (List UInt8)) (b:List aB) (q:Int) (a:Int) (j:List cq):Option Bool:=
 cond (bO a q) (share (fun (Z:List (List UInt8)) (aa:List aB) (ab:Int) (ad:Int) (ae:List cq)=>bx Z aa ab (aQ .i64 ad (1:Int)) ae) fun (k:List (List UInt8)→List aB→Int→Int→List cq→Option Bool)=>bE (bU a b.length) (share (fun (c:List (List UInt8)) (f:List aB) (g:Int) (h:Int) (af:Bool) (i:List cq) (e:aB)=>cond af (some false) ((v_ d e).bind fun ag=>zd ag (fun bz=>some false) (fun ah=>zd ah (fun r=>share (fun (s:List (List UInt8)) (t:List aB) (u:Int) (v:Int) (ai:Bool) (w:List cq) (l:aB)=>cond ai (some false) (share (fun (aj:List (List UInt8)) (ak:List aB) (al:Int) (an:Int) (ao:Bool) (aq:List cq)=>cond ao (some false) (k aj ak al an aq)) fun (x:List (List UInt8)→List aB→Int→Int→Bool→List cq→Option Bool)=>cond (!seq l.Default ([]:List UInt8)) ((ew d l l.Default).bind fun ar=>x s t u v (!ar) w) (x s t u v false w))) fun (y:List (List UInt8)→List aB→Int→Int→Bool→List cq→aB→Option Bool)=>(nO d r).bind fun au=>cond (!au) (y c f g h true i e) ((js d r c).bind fun av=>y c f g h (!av) i e)) (fun aw=>zd aw (fun z=>share (fun (A:List (List UInt8)) (B:List aB) (C:Int) (D:Int) (ax:Bool) (E:List cq) (m:aB)=>cond ax (some false) (share (fun (ay:List (List UInt8)) (az:List aB) (a0:Int) (a1:Int) (a2:Bool) (a3:List cq)=>cond a2 (some false) (k ay az a0 a1 a3)) fun (F:List (List UInt8)→List aB→Int→Int→Bool→List cq→Option Bool)=>cond (!seq m.Default ([]:List UInt8)) ((ew d m m.Default).bind fun a4=>F A B C D (!a4) E) (F A B C D false E))) fun (G:List (List UInt8)→List aB→Int→Int→Bool→List cq→aB→Option Bool)=>(nQ d z).bind fun a5=>cond (!a5) (G c f g h true i e) ((nR d z c).bind fun a6=>G c f g h (!a6) i e)) (fun a7=>zd a7 (fun H=>share (fun (I:List (List UInt8)) (J:List aB) (K:Int) (L:Int) (a8:Bool) (M:List cq) (n:aB)=>cond a8 (some false) (share (fun (a9:List (List UInt8)) (ba:List aB) (bb:Int) (bc:Int) (bd:Bool) (bf:List cq)=>cond bd (some false) (k a9 ba bb bc bf)) fun (N:List (List UInt8)→List aB→Int→Int→Bool→List cq→Option Bool)=>cond (!seq n.Default ([]:List UInt8)) ((ew d n n.Default).bind fun bg=>N I J K L (!bg) M) (N I J K L false M))) fun (O:List (List UInt8)→List aB→Int→Int→Bool→List cq→aB→Option Bool)=>(nS d H).bind fun bh=>cond (!bh) (O c f g h true i e) ((nU d H c).bind fun bj=>O c f g h (!bj) i e)) (fun P=>share (fun (Q:List (List UInt8)) (R:List aB) (S:Int) (T:Int) (bk:Bool) (U:List cq) (o:aB)=>cond bk (some false) (share (fun (bl:List (List UInt8)) (bm:List aB) (bn:Int) (bo:Int) (bp:Bool) (bq:List cq)=>cond bp (some false) (k bl bm bn bo bq)) fun (V:List (List UInt8)→List aB→Int→Int→Bool→List cq→Option Bool)=>cond (!seq o.Default ([]:List UInt8)) ((ew d o o.Default).bind fun br=>V Q R S T (!br) U) (V Q R S T false U))) fun (W:List (List UInt8)→List aB→Int→Int→Bool→List cq→aB→Option Bool)=>(lU d P).bind fun bs=>cond (!bs) (W c f g h true i e) ((lV d P c).bind fun bt=>W c f g h (!bt) i e))))))) fun (X:List (List UInt8)→List aB→Int→Int→Bool→List cq→aB→Option Bool)=>(cS d (nth (default:aB) b a).Name).bind fun bu=>cond (!bu) (X Y b q a true (lb (fun p:cq=>seq (nth (default:aB) b a).Name p.Key) j (⟨(nth (default:aB) b a).Name,(aQ .i64 (ja (fun p:cq=>seq (nth (default:aB) b a).Name p.Key) (fun p:cq=>p.El) (0:Int) j) (1:Int))⟩:cq)) (nth (default:aB) b a)) (X Y b q a (bO (1:Int) (ja (fun p:cq=>seq (nth (default:aB) b a).Name p.Key) (fun p:cq=>p.El) (0:Int) (lb (fun p:cq=>seq (nth (default:aB) b a).Name p.Key) j (⟨(nth (default:aB) b a).Name,(aQ .i64 (ja (fun p:cq=>seq (nth (default:aB) b a).Name p.Key) (fun p:cq=>p.El) (0:Int) j) (1:Int))⟩:cq)))) (lb (fun p:cq=>seq (nth (default:aB) b a).Name p.Key) j (⟨(nth (default:aB) b a).Name,(aQ .i64 (ja (fun p:cq=>seq (nth (default:aB) b a).Name p.Key) (fun p:cq=>p.El) (0:Int) j) (1:Int))⟩:cq)) (nth (default:aB) b a)))) (bw)
def yb (k:Nat) (a:aC) (c:List (List UInt8)):Option Bool:=
 cond (bO (6:Int) (a.aU.length:Int)) (some false) (share (some true) fun (b:Option Bool)=>iter (ts:=qL) (R:=Bool) k (my b) c a.aU (a.aU.length:Int) (0:Int) ([]:List cq))
def E9 (k:Nat):CT:=⟨177,[.d (.st 1),.d (.sl .str)],[],[⟨false,.d .bool,[]⟩],yb k⟩
abbrev pS:List Ty:=[.sl (.st 1),.int .i64,.int .i64,.sl .str]
def iF (e:Option Bool) (f:Nat) (g:List aC→Int→Int→List (List UInt8)→Option Bool) (b:List aC) (c:Int) (a:Int) (d:List (List UInt8)):Option Bool:=
 cond (bO a c) (bE (bU a b.length) ((yb f (nth (default:aC) b a) d).bind fun h=>cond (!h) (some false) (g b c (aQ .i64 a (1:Int)) d))) (e)
abbrev ry:List Ty:=[.sl (.st 1),.sl (.st 1),.int .i64,.int .i64,.sl .str]
def jt (f:List aC→List (List UInt8)→Option Bool) (h:Nat) (g:List aC→List aC→Int→Int→List (List UInt8)→Option Bool) (d:List aC) (b:List aC) (e:Int) (a:Int) (c:List (List UInt8)):Option Bool:=
 cond (bO a e) (bE (bU a b.length) (bE (tB (c.length+([(nth (default:aC) b a).Kind]:List (List UInt8)).length) 16) (g d b e (aQ .i64 a (1:Int)) (c++([(nth (default:aC) b a).Kind]:List (List UInt8)))))) (f d c)
def ez (k:Nat) (a:List aC):Option Bool:=
 cond (bO (6:Int) (a.length:Int)) (some false) (bE (GM (0:Int) (a.length:Int) 16) (share (fun (b:List aC) (c:List (List UInt8))=>(eW k c).bind fun d=>cond (!d) (some false) (share (some true) fun (e:Option Bool)=>iter (ts:=pS) (R:=Bool) k (iF e) b (b.length:Int) (0:Int) c)) fun (f:List aC→List (List UInt8)→Option Bool)=>iter (ts:=ry) (R:=Bool) k (jt f) a a (a.length:Int) (0:Int) (List.replicate (Int.toNat (0:Int)) ([]:List UInt8))))
def gD (k:Nat):CT:=⟨154,[.d (.sl (.st 1))],[],[⟨false,.d .bool,[]⟩],ez k⟩
abbrev ze:List Ty:=[.str,.sl (.st 1),.int .i64,.int .i64]
def qo (f:Option Int) (g:Nat) (e:List UInt8→List aC→Int→Int→Option Int) (c:List UInt8) (b:List aC) (d:Int) (a:Int):Option Int:=
 cond (bO a d) (bE (bU a b.length) (cond (seq (nth (default:aC) b a).Kind c) (some a) (e c b d (aQ .i64 a (1:Int))))) (f)
def gL (k:Nat) (a:List aC) (b:List UInt8):Option Int:=
 share (some (-1:Int)) fun (c:Option Int)=>iter (ts:=ze) (R:=Int) k (qo c) b a (a.length:Int) (0:Int)
def im (k:Nat):CT:=⟨155,[.d (.sl (.st 1)),.d .str],[],[⟨false,.d (.int .i64),[]⟩],gL k⟩
abbrev zf:List Ty:=[.str,.sl (.st 0),.int .i64,.int .i64]
def qp (f:Option Int) (g:Nat) (e:List UInt8→List aB→Int→Int→Option Int) (c:List UInt8) (b:List aB) (d:Int) (a:Int):Option Int:=
 cond (bO a d) (bE (bU a b.length) (cond (seq (nth (default:aB) b a).Name c) (some a) (e c b d (aQ .i64 a (1:Int))))) (f)
def fC (k:Nat) (a:List aB) (b:List UInt8):Option Int:=
 share (some (-1:Int)) fun (c:Option Int)=>iter (ts:=zf) (R:=Int) k (qp c) b a (a.length:Int) (0:Int)
def iq (k:Nat):CT:=⟨179,[.d (.sl (.st 0)),.d .str],[],[⟨false,.d (.int .i64),[]⟩],fC k⟩
def jK (k:Nat) (c:List UInt8) (a:List aB):Option (Bool×(List aB)):=
 (fC k a c).bind fun b=>cond (ck (0:Int) b) (bE (bU b a.length) (some ((!bL (nth (default:aB) a b).Kind (4:Int)),a))) (some (false,a))
def D5 (k:Nat):CT:=⟨178,[.d .str,.bp 0 0],[.box [.d (.sl (.st 0))]],[⟨false,.d .bool,[.box [.d (.sl (.st 0))]]⟩],jK k⟩
def AM (k:Nat) (q:List aB) (b:aD):Option Bool:=
 share (fun (a:aD) (n:Bool) (d:List aB)=>cond n (some false) (share (fun (h:aD) (o:Bool) (i:List aB)=>cond o (some false) (cond (seq h.tz ([]:List UInt8)) (some true) ((fC k i h.Field).bind fun j=>bE (bU j i.length) ((ew k (nth (default:aB) i j) h.tz).bind fun p=>some p)))) fun (e:aD→Bool→List aB→Option Bool)=>cond (seq a.cY a.Field) (e a true d) (cond (seq a.cF a.Field) (e a true d) (cond (seq a.cY ([]:List UInt8)) (cond (!seq a.Is ([]:List UInt8)) (e a true d) (e a (beq (seq a.tz ([]:List UInt8)) (seq a.cF ([]:List UInt8))) d)) (e a (beq (seq a.tz ([]:List UInt8)) (seq a.cF ([]:List UInt8))) d))))) fun (c:aD→Bool→List aB→Option Bool)=>(jK k b.Field q).bind fun f=>cond (!f.1) (c b true f.2) (cond (!seq b.cY ([]:List UInt8)) ((jK k b.cY f.2).bind fun g=>cond (!g.1) (c b true g.2) (cond (!seq b.cF ([]:List UInt8)) ((jK k b.cF g.2).bind fun l=>c b (!l.1) l.2) (c b false g.2))) (cond (!seq b.cF ([]:List UInt8)) ((jK k b.cF f.2).bind fun m=>c b (!m.1) m.2) (c b false f.2)))
def Ip (k:Nat):CT:=⟨156,[.d (.sl (.st 0)),.d (.st 2)],[],[⟨false,.d .bool,[]⟩],AM k⟩
abbrev zg:List Ty:=[.str,.sl (.st 2),.int .i64,.int .i64,.sl (.st 2),.st 1,.sl .str]
def qt (z:List aD→aC→List (List UInt8)→Option ((List (List UInt8))×(List aD)×aC)) (A:Nat) (r:List UInt8→List aD→Int→Int→List aD→aC→List (List UInt8)→Option ((List (List UInt8))×(List aD)×aC)) (f:List UInt8) (b:List aD) (g:Int) (a:Int) (h:List aD) (d:aC) (c:List (List UInt8)):Option ((List (List UInt8))×(List aD)×aC):=
 cond (bO a g) (share (fun (s:List UInt8) (t:List aD) (u:Int) (v:Int) (w:List aD) (x:aC) (y:List (List UInt8))=>r s t u (aQ .i64 v (1:Int)) w x y) fun (e:List UInt8→List aD→Int→Int→List aD→aC→List (List UInt8)→Option ((List (List UInt8))×(List aD)×aC))=>bE (bU a b.length) (cond (!seq (nth (default:aD) b a).Kind d.Kind) (e f b g a h d c) (cond (!seq (nth (default:aD) b a).Field f) (e f b g a h d c) (share (fun (k:List UInt8) (l:List aD) (m:Int) (n:Int) (o:List aD) (p:aC) (i:List (List UInt8)) (j:aD)=>cond (!seq j.cF ([]:List UInt8)) (bE (tB (i.length+([j.cF]:List (List UInt8)).length) 16) (e k l m n o p (i++([j.cF]:List (List UInt8))))) (e k l m n o p i)) fun (q:List UInt8→List aD→Int→Int→List aD→aC→List (List UInt8)→aD→Option ((List (List UInt8))×(List aD)×aC))=>cond (!seq (nth (default:aD) b a).cY ([]:List UInt8)) (bE (tB (c.length+([(nth (default:aD) b a).cY]:List (List UInt8)).length) 16) (q f b g a h d (c++([(nth (default:aD) b a).cY]:List (List UInt8))) (nth (default:aD) b a))) (q f b g a h d c (nth (default:aD) b a)))))) (z h d c)
def ye (k:Nat) (f:List UInt8) (a:List aD) (g:aC):Option ((List (List UInt8))×(List aD)×aC):=
 share (fun (b:List aD) (c:aC) (d:List (List UInt8))=>some (d,b,c)) fun (e:List aD→aC→List (List UInt8)→Option ((List (List UInt8))×(List aD)×aC))=>iter (ts:=zg) (R:=(List (List UInt8))×(List aD)×aC) k (qt e) f a (a.length:Int) (0:Int) a g []
def E_ (k:Nat):CT:=⟨182,[.d .str,.bp 0 0,.bp 1 0],[.box [.d (.sl (.st 2))],.b_ (.st 1)],[⟨false,.d (.sl .str),[.box [.d (.sl (.st 2))],.b_ (.st 1)]⟩],ye k⟩
abbrev jL:List Ty:=[.str,.sl .str,.int .i64,.int .i64,.sl (.st 15),.sl (.st 2),.st 1,.sl .str]
def dP (abi:Nat→List UInt8→List cq→List aD→aC→List (List UInt8)→Option (Bool×(List cq)×(List aD)×aC×(List (List UInt8)))) (j:List UInt8→List cq→List aD→aC→List (List UInt8)→Option (Bool×(List cq)×(List aD)×aC×(List (List UInt8)))) (k:Nat) (l:List UInt8→List (List UInt8)→Int→Int→List cq→List aD→aC→List (List UInt8)→Option (Bool×(List cq)×(List aD)×aC×(List (List UInt8)))) (d:List UInt8) (c:List (List UInt8)) (e:Int) (b:Int) (f:List cq) (g:List aD) (h:aC) (i:List (List UInt8)):Option (Bool×(List cq)×(List aD)×aC×(List (List UInt8))):=
 cond (bO b e) (bE (bU b c.length) ((abi k (nth ([]:List UInt8) c b) f g h i).bind fun a=>cond (!a.1) (some (false,a.2.1,a.2.2.1,a.2.2.2.1,a.2.2.2.2)) (l d c e (aQ .i64 b (1:Int)) a.2.1 a.2.2.1 a.2.2.2.1 a.2.2.2.2))) (j d f g h i)
def dc:Nat→Nat→List UInt8→List cq→List aD→aC→List (List UInt8)→Option (Bool×(List cq)×(List aD)×aC×(List (List UInt8)))
 | 0,_,_,_,_,_,_=>none
 | n+1,k,c,d,f,g,h=>
 cond (bL (ja (fun p:cq=>seq c p.Key) (fun p:cq=>p.El) (0:Int) d) (1:Int)) (some (false,d,f,g,h)) (cond (bL (ja (fun p:cq=>seq c p.Key) (fun p:cq=>p.El) (0:Int) d) (2:Int)) (some (true,d,f,g,h)) (share (fun (a:List UInt8) (i:List cq) (j:List aD) (l:aC) (e:List (List UInt8))=>bE (tB (e.length+([a]:List (List UInt8)).length) 16) (some (true,(lb (fun p:cq=>seq a p.Key) i (⟨a,(2:Int)⟩:cq)),j,l,(e++([a]:List (List UInt8)))))) fun (m:List UInt8→List cq→List aD→aC→List (List UInt8)→Option (Bool×(List cq)×(List aD)×aC×(List (List UInt8))))=>(ye k c f g).bind fun b=>iter (ts:=jL) (R:=Bool×(List cq)×(List aD)×aC×(List (List UInt8))) k (dP (dc n) m) c b.1 (b.1.length:Int) (0:Int) (lb (fun p:cq=>seq c p.Key) d (⟨c,(1:Int)⟩:cq)) b.2.1 b.2.2 h))
def lW (n k:Nat):CT:=⟨190,[.d .str,.bp 0 0,.bp 1 0,.bp 2 0,.bp 3 0],[.box [.mp 4],.box [.fn (.func 182) [] [.bp 5 0,.bp 6 0]],.box [.fn (.func 190) [] [.bp 0 0,.bp 1 0,.bp 2 0,.bp 3 0]],.box [.ow 7],.dmap 15,.box [.d (.sl (.st 2))],.b_ (.st 1),.row .str .vs],[⟨false,.d .bool,[.box [.mp 4],.box [.fn (.func 182) [] [.bp 5 0,.bp 6 0]],.box [.fn (.func 190) [] [.bp 0 0,.bp 1 0,.bp 2 0,.bp 3 0]],.box [.ow 8],.dmap 15,.box [.d (.sl (.st 2))],.b_ (.st 1),.gone,.row .str .vs]⟩],dc n k⟩
def nV (k:Nat):CT:=lW k k
abbrev lX:List Ty:=[.sl .str,.int .i64,.int .i64,.sl (.st 2),.st 1,.sl .str,.sl (.st 15)]
def dL (i:List aD→aC→List (List UInt8)→Option ((List (List UInt8))×Bool×(List aD)×aC)) (d:Nat) (j:List (List UInt8)→Int→Int→List aD→aC→List (List UInt8)→List cq→Option ((List (List UInt8))×Bool×(List aD)×aC)) (c:List (List UInt8)) (e:Int) (b:Int) (f:List aD) (g:aC) (h:List (List UInt8)) (k:List cq):Option ((List (List UInt8))×Bool×(List aD)×aC):=
 cond (bO b e) (bE (bU b c.length) ((dc d d (nth ([]:List UInt8) c b) k f g h).bind fun a=>cond (!a.1) (some ([],false,a.2.2.1,a.2.2.2.1)) (j c e (aQ .i64 b (1:Int)) a.2.2.1 a.2.2.2.1 a.2.2.2.2 a.2.1))) (i f g h)
def fm (k:Nat) (a:List (List UInt8)) (f:List aD) (g:aC):Option ((List (List UInt8))×Bool×(List aD)×aC):=
 share (fun (b:List aD) (c:aC) (d:List (List UInt8))=>some (d,true,b,c)) fun (e:List aD→aC→List (List UInt8)→Option ((List (List UInt8))×Bool×(List aD)×aC))=>iter (ts:=lX) (R:=(List (List UInt8))×Bool×(List aD)×aC) k (dL e) a (a.length:Int) (0:Int) f g ([]:List (List UInt8)) ([]:List cq)
def zh (k:Nat):CT:=⟨181,[.d (.sl .str),.fn (.func 182) [] [.bp 0 0,.bp 1 0]],[.box [.d (.sl (.st 2))],.b_ (.st 1)],[⟨false,.ph [.d (.sl .str),.d .bool],[.box [.d (.sl (.st 2))],.b_ (.st 1)]⟩],fm k⟩
abbrev uC:List Ty:=[.sl (.st 0),.int .i64,.int .i64,.st 1,.sl (.st 2),.sl .str]
def mJ (g:aC→List aD→List (List UInt8)→Option ((List (List UInt8))×Bool)) (i:Nat) (h:List aB→Int→Int→aC→List aD→List (List UInt8)→Option ((List (List UInt8))×Bool)) (b:List aB) (d:Int) (a:Int) (e:aC) (f:List aD) (c:List (List UInt8)):Option ((List (List UInt8))×Bool):=
 cond (bO a d) (bE (bU a b.length) (bE (tB (c.length+([(nth (default:aB) b a).Name]:List (List UInt8)).length) 16) (h b d (aQ .i64 a (1:Int)) e f (c++([(nth (default:aB) b a).Name]:List (List UInt8)))))) (g e f c)
def qM (k:Nat) (b:aC) (g:List aD):Option ((List (List UInt8))×Bool):=
 share (fun (c:aC) (d:List aD) (e:List (List UInt8))=>(fm k e d c).bind fun a=>some (a.1,a.2.1)) fun (f:aC→List aD→List (List UInt8)→Option ((List (List UInt8))×Bool))=>iter (ts:=uC) (R:=(List (List UInt8))×Bool) k (mJ f) b.aU (b.aU.length:Int) (0:Int) b g []
def J7 (k:Nat):CT:=⟨157,[.d (.st 1),.d (.sl (.st 2))],[],[⟨false,.ph [.d (.sl .str),.d .bool],[]⟩],qM k⟩
abbrev rz:List Ty:=[.sl (.st 2),.sl (.st 1),.int .i64,.int .i64]
def ju (e:Option Bool) (f:Nat) (g:List aD→List aC→Int→Int→Option Bool) (c:List aD) (b:List aC) (d:Int) (a:Int):Option Bool:=
 cond (bO a d) (bE (bU a b.length) ((qM f (nth (default:aC) b a) c).bind fun h=>cond (!h.2) (some false) (g c b d (aQ .i64 a (1:Int))))) (e)
abbrev sK:List Ty:=[.sl (.st 1),.sl (.st 2),.sl (.st 2),.int .i64,.int .i64]
def ki (q:List aC→List aD→Option Bool) (g:Nat) (i:List aC→List aD→List aD→Int→Int→Option Bool) (a:List aC) (d:List aD) (c:List aD) (e:Int) (b:Int):Option Bool:=
 cond (bO b e) (bE (bU b c.length) ((gL g a (nth (default:aD) c b).Kind).bind fun f=>share (fun (j:List aC) (k:List aD) (l:List aD) (m:Int) (n:Int) (o:Bool)=>cond o (some false) (i j k l m (aQ .i64 n (1:Int)))) fun (h:List aC→List aD→List aD→Int→Int→Bool→Option Bool)=>cond (bO f (0:Int)) (h a d c e b true) (bE (bU f a.length) ((AM g (nth (default:aC) a f).aU (nth (default:aD) c b)).bind fun p=>h a d c e b (!p))))) (q a d)
def dY (k:Nat) (b:List aC) (c:List aD):Option Bool:=
 share (fun (j:List aC) (d:List aD) (l:Bool)=>cond l (some false) (share (fun (a:List aC) (f:List aD)=>share (some true) fun (g:Option Bool)=>iter (ts:=rz) (R:=Bool) k (ju g) f a (a.length:Int) (0:Int)) fun (h:List aC→List aD→Option Bool)=>iter (ts:=sK) (R:=Bool) k (ki h) j d d (d.length:Int) (0:Int))) fun (i:List aC→List aD→Bool→Option Bool)=>(ez k b).bind fun e=>cond (!e) (i b c true) (i b c (bO (12:Int) (c.length:Int)))
def fo (k:Nat):CT:=⟨120,[.d (.sl (.st 1)),.d (.sl (.st 2))],[],[⟨false,.d .bool,[]⟩],dY k⟩
abbrev AN:List Ty:=[.str,.sl (.st 3),.int .i64,.int .i64]
def sL (f:Option Int) (g:Nat) (e:List UInt8→List aJ→Int→Int→Option Int) (c:List UInt8) (b:List aJ) (d:Int) (a:Int):Option Int:=
 cond (bO a d) (bE (bU a b.length) (cond (seq (nth (default:aJ) b a).Name c) (some a) (e c b d (aQ .i64 a (1:Int))))) (f)
def iZ (k:Nat) (a:List aJ) (b:List UInt8):Option Int:=
 share (some (-1:Int)) fun (c:Option Int)=>iter (ts:=AN) (R:=Int) k (sL c) b a (a.length:Int) (0:Int)
def pT (k:Nat):CT:=⟨123,[.d (.sl (.st 3)),.d .str],[],[⟨false,.d (.int .i64),[]⟩],iZ k⟩
abbrev rA:List Ty:=[.sl (.st 3),.int .i64,.str,.sl (.st 3),.int .i64,.int .i64]
def jv (h:List aJ→List aJ→Int→Int→Option Bool) (i:Nat) (j:List aJ→Int→List UInt8→List aJ→Int→Int→Option Bool) (a:List aJ) (b:Int) (c:List UInt8) (d:List aJ) (e:Int) (f:Int):Option Bool:=
 cond (!seq c ([]:List UInt8)) (cond (bO (4:Int) (aQ .i64 b (1:Int))) (some false) ((iZ i a c).bind fun g=>bE (bU g a.length) (j a (aQ .i64 b (1:Int)) (nth (default:aJ) a g).g9 d e f))) (h a d e f)
abbrev rB:List Ty:=[.sl (.st 3),.sl (.st 3),.int .i64,.int .i64]
def jw (d:Option Bool) (e:Nat) (f:List aJ→List aJ→Int→Int→Option Bool) (g:List aJ) (b:List aJ) (c:Int) (a:Int):Option Bool:=
 cond (bO a c) (share (fun (h:List aJ) (i:List aJ) (j:Int) (k:Int)=>f h i j (aQ .i64 k (1:Int))) fun (l:List aJ→List aJ→Int→Int→Option Bool)=>bE (bU a b.length) (iter (ts:=rA) (R:=Bool) e (jv l) g (0:Int) (nth (default:aJ) b a).g9 b c a)) (d)
abbrev sM:List Ty:=[.sl (.st 3),.sl (.st 3),.int .i64,.int .i64]
def kj (p:List aJ→Option Bool) (f:Nat) (g:List aJ→List aJ→Int→Int→Option Bool) (c:List aJ) (b:List aJ) (d:Int) (a:Int):Option Bool:=
 cond (bO a d) (bE (bU a b.length) (share (fun (h:List aJ) (i:List aJ) (j:Int) (k:Int) (l:Bool)=>cond l (some false) (g h i j (aQ .i64 k (1:Int)))) fun (e:List aJ→List aJ→Int→Int→Bool→Option Bool)=>(cS f (nth (default:aJ) b a).Name).bind fun m=>cond (!m) (e c b d a true) (cond (bO (0:Int) a) (bE (bU (bW .i64 a (1:Int)) c.length) (cond (!slt (nth (default:aJ) c (bW .i64 a (1:Int))).Name (nth (default:aJ) b a).Name) (e c b d a true) (cond (!seq (nth (default:aJ) b a).g9 ([]:List UInt8)) ((iZ f c (nth (default:aJ) b a).g9).bind fun n=>e c b d a (bO n (0:Int))) (e c b d a false)))) (cond (!seq (nth (default:aJ) b a).g9 ([]:List UInt8)) ((iZ f c (nth (default:aJ) b a).g9).bind fun o=>e c b d a (bO o (0:Int))) (e c b d a false))))) (p c)
def oJ (k:Nat) (b:List aJ):Option Bool:=
 cond (bO (12:Int) (b.length:Int)) (some false) (share (fun (a:List aJ)=>share (some true) fun (c:Option Bool)=>iter (ts:=rB) (R:=Bool) k (jw c) a a (a.length:Int) (0:Int)) fun (d:List aJ→Option Bool)=>iter (ts:=sM) (R:=Bool) k (kj d) b b (b.length:Int) (0:Int))
def zi (k:Nat):CT:=⟨121,[.d (.sl (.st 3))],[],[⟨false,.d .bool,[]⟩],oJ k⟩
def rP (k:Nat) (a:aH):Option Bool:=
 (dY k a.bS a.ib).bind fun b=>cond b ((oJ k a.eg).bind fun c=>some c) (some false)
def BT (k:Nat):CT:=⟨83,[.d (.st 4)],[],[⟨false,.d .bool,[]⟩],rP k⟩
def gZ (k:Nat) (a:List aC) (c:aA):Option ((List aB)×Bool):=
 (gL k a c.Kind).bind fun b=>share (fun (d:List aC) (e:Int) (g:Bool)=>cond g (some ([],false)) (bE (bU e d.length) (some ((nth (default:aC) d e).aU,true)))) fun (f:List aC→Int→Bool→Option ((List aB)×Bool))=>cond (bO b (0:Int)) (f a b true) (bE (bU b a.length) (f a b (!bL (c.aN.length:Int) ((nth (default:aC) a b).aU.length:Int))))
def iU (k:Nat):CT:=⟨137,[.d (.sl (.st 1)),.d (.st 5)],[],[⟨false,.ph [.d (.sl (.st 0)),.d .bool],[]⟩],gZ k⟩
abbrev sN:List Ty:=[.st 5,.sl (.st 0),.int .i64,.int .i64]
def kl (w:Option (Unit ⊕ (cZ ⊕ cZ))) (l:Nat) (m:aA→List aB→Int→Int→Option (Unit ⊕ (cZ ⊕ cZ))) (e:aA) (c:List aB) (f:Int) (a:Int):Option (Unit ⊕ (cZ ⊕ cZ)):=
 cond (bO a f) (bE (bU a c.length) (share (fun (d:aA) (b:Int) (g:List aB) (h:Int) (i:Int) (n:Bool) (o:aB)=>cond n (some (.inr (.inl (⟨(2:Int),b⟩:cZ)))) (share (fun (p:aA) (q:Int) (r:List aB) (s:Int) (t:Int) (u:Bool)=>cond u (some (.inr (.inl (⟨(3:Int),q⟩:cZ)))) (m p r s (aQ .i64 t (1:Int)))) fun (j:aA→Int→List aB→Int→Int→Bool→Option (Unit ⊕ (cZ ⊕ cZ)))=>bE (bU b d.aN.length) (cond (!seq (nth ([]:List UInt8) d.aN b) ([]:List UInt8)) (bE (bU b d.aN.length) ((ew l o (nth ([]:List UInt8) d.aN b)).bind fun v=>j d b g h i (!v))) (j d b g h i false)))) fun (k:aA→Int→List aB→Int→Int→Bool→aB→Option (Unit ⊕ (cZ ⊕ cZ)))=>cond (nth (default:aB) c a).cR (bE (bU a e.aN.length) (k e a c f a (seq (nth ([]:List UInt8) e.aN a) ([]:List UInt8)) (nth (default:aB) c a))) (k e a c f a false (nth (default:aB) c a)))) (w)
def oK (k:Nat) (d:List aC) (a:aA):Option (Unit ⊕ (cZ ⊕ cZ)):=
 (gZ k d a).bind fun b=>share (some (.inl ())) fun (c:Option (Unit ⊕ (cZ ⊕ cZ)))=>iter (ts:=sN) (R:=Unit ⊕ (cZ ⊕ cZ)) k (kl c) a b.1 (b.1.length:Int) (0:Int)
def zj (k:Nat):CT:=⟨159,[.d (.sl (.st 1)),.d (.st 5)],[],[⟨false,.QV,[]⟩,⟨false,.pe 224 (.fp (.st 12) 0),[]⟩,⟨false,.pe 224 (.fp (.st 12) 0),[]⟩],oK k⟩
def RB (_k:Nat) (a:cZ):Option (Bool×cZ):=some (true,a)
def M7 (k:Nat):CT:=⟨183,[.pe 224 (.fp (.st 12) 0),.pe 228 (.bp 0 0)],[.box [.any]],[⟨false,.d .bool,[.box [.fp (.st 12) 0]]⟩],RB k⟩
def BU (k:Nat) (b:cZ):Option (Int×Int):=
 (RB k b).bind fun a=>cond a.1 (some (a.2.code,a.2.place)) (some ((0:Int),(0:Int)))
def M8 (k:Nat):CT:=⟨160,[.pe 224 (.fp (.st 12) 0)],[],[⟨false,.ph [.d (.int .i64),.d (.int .i64)],[]⟩],BU k⟩
def sO (k:Nat) (c:List aC) (b:aA):Option (cZ ⊕ Unit):=
 (gZ k c b).bind fun i=>share (fun (d:Bool)=>cond d (some (.inl (⟨(1:Int),(0:Int)⟩:cZ))) (some (.inr ()))) fun (a:Bool→Option (cZ ⊕ Unit))=>cond (!i.2) (a true) ((ez k c).bind fun e=>cond (!e) (a true) ((cS k b.Name).bind fun f=>cond (!f) (a true) ((cS k b.aZ).bind fun g=>cond (!g) (a true) (cond (bO (3:Int) (b.bX.length:Int)) (a true) ((eW k b.bX).bind fun h=>cond (!h) (a true) (cond (bO b.Version (0:Int)) (a true) (a (bO (1000000:Int) b.Version))))))))
def BV (k:Nat):CT:=⟨158,[.d (.sl (.st 1)),.d (.st 5)],[],[⟨false,.pe 224 (.fp (.st 12) 0),[]⟩,⟨false,.QV,[]⟩],sO k⟩
abbrev Fa:List Ty:=[.sl (.st 1),.st 5,.int .i64,.int .i64]
def AO (j:Option (Int×Int)) (a:Nat) (k:List aC→aA→Int→Int→Option (Int×Int)) (c:List aC) (d:aA) (e:Int) (b:Int):Option (Int×Int):=
 cond (bO b e) (share (fun (l:List aC) (m:aA) (n:Int) (o:Int)=>k l m n (aQ .i64 o (1:Int))) fun (f:List aC→aA→Int→Int→Option (Int×Int))=>cond (bL b 0) ((sO a c d).bind fun p=>zd p (fun q=>(BU a q).bind fun g=>some (g.1,g.2)) (fun v=>f c d e b)) (cond (bL b 1) ((oK a c d).bind fun r=>zd r (fun w=>f c d e b) (fun s=>zd s (fun t=>(BU a t).bind fun h=>some (h.1,h.2)) (fun u=>(BU a u).bind fun i=>some (i.1,i.2)))) (none))) (j)
def rL (k:Nat) (b:List aC) (c:aA):Option (Int×Int):=
 share (some ((0:Int),(0:Int))) fun (a:Option (Int×Int))=>iter (ts:=Fa) (R:=Int×Int) k (AO a) b c (2:Int) (0:Int)
def BW (k:Nat):CT:=⟨122,[.d (.sl (.st 1)),.d (.st 5)],[],[⟨false,.ph [.d (.int .i64),.d (.int .i64)],[]⟩],rL k⟩
def nW (_k:Nat) (a:List (List UInt8)):Option (List (List UInt8)):=
 cond (bL (a.length:Int) (0:Int)) (some []) (bE (GM (a.length:Int) (a.length:Int) 16) (bE (leq a.length (List.replicate (Int.toNat (a.length:Int)) ([]:List UInt8)).length) (some a)))
def BX (k:Nat):CT:=⟨184,[.d (.sl .str)],[],[⟨false,.d (.sl .str),[]⟩],nW k⟩
def iY (k:Nat) (a:aA):Option aA:=
 (nW k a.aN).bind fun b=>(nW k a.bX).bind fun c=>some (⟨a.Kind,a.Name,a.aZ,b,a.Ending,c,a.Version⟩:aA)
def sP (k:Nat):CT:=⟨161,[.d (.st 5)],[],[⟨false,.d (.st 5),[]⟩],iY k⟩
def kU (_k:Nat) (a:List (List UInt8)):Option (List (List UInt8)):=
 cond (bL (a.length:Int) (0:Int)) (some []) (bE (GM (a.length:Int) (a.length:Int) 16) (bE (leq a.length (List.replicate (Int.toNat (a.length:Int)) ([]:List UInt8)).length) (some a)))
def zk (k:Nat):CT:=⟨184,[.d (.sl .str)],[],[⟨false,.ow 0,[.row .str .vs]⟩],kU k⟩
def cU (k:Nat) (a:aA):Option ((List UInt8)×(List UInt8)×(List UInt8)×Bool×Int×(List (List UInt8))×(List (List UInt8))):=
 (kU k a.aN).bind fun b=>(kU k a.bX).bind fun c=>some (a.Kind,a.Name,a.aZ,a.Ending,a.Version,b,c)
def dh (k:Nat):CT:=⟨161,[.d (.st 5)],[],[⟨false,.agg [.d .str,.d .str,.d .str,.ow 0,.d .bool,.ow 1,.d (.int .i64)],[.row .str .vs,.row .str .vs]⟩],cU k⟩
def NL (k:Nat) (a:List aC) (c:List UInt8) (d:List UInt8) (e:List UInt8) (f:Bool) (g:Int) (h:List (List UInt8)) (i:List (List UInt8)):Option ((List aB)×Bool):=
 (gL k a (⟨c,d,e,h,f,i,g⟩:aA).Kind).bind fun b=>share (fun (j:List aC) (l:Int) (n:Bool)=>cond n (some ([],false)) (bE (bU l j.length) (some ((nth (default:aC) j l).aU,true)))) fun (m:List aC→Int→Bool→Option ((List aB)×Bool))=>cond (bO b (0:Int)) (m a b true) (bE (bU b a.length) (m a b (!bL ((⟨c,d,e,h,f,i,g⟩:aA).aN.length:Int) ((nth (default:aC) a b).aU.length:Int))))
def J8 (k:Nat):CT:=⟨137,[.d (.sl (.st 1)),.agg [.d .str,.d .str,.d .str,.ow 0,.d .bool,.ow 1,.d (.int .i64)]],[.row .str .vs,.row .str .vs],[⟨false,.ph [.d (.sl (.st 0)),.d .bool],[.gone,.gone]⟩],NL k⟩
def gu (k:Nat) (a:List aC) (l:List UInt8) (m:List UInt8) (n:List UInt8) (o:Bool) (p:Int) (f:List (List UInt8)) (g:List (List UInt8)):Option ((List aB)×Bool×(List (List UInt8))×(List (List UInt8))):=
 (gL k a l).bind fun b=>share (fun (h:List aC) (i:Int) (j:Bool) (c:List (List UInt8)) (d:List (List UInt8))=>cond j (some ([],false,c,d)) (bE (bU i h.length) (some ((nth (default:aC) h i).aU,true,c,d)))) fun (e:List aC→Int→Bool→List (List UInt8)→List (List UInt8)→Option ((List aB)×Bool×(List (List UInt8))×(List (List UInt8))))=>cond (bO b (0:Int)) (e a b true f g) (bE (bU b a.length) (e a b (!bL (f.length:Int) ((nth (default:aC) a b).aU.length:Int)) f g))
def jx (k:Nat):CT:=⟨137,[.d (.sl (.st 1)),.agg [.d .str,.d .str,.d .str,.ow 0,.d .bool,.ow 1,.d (.int .i64)]],[.row .str .vs,.row .str .vs],[⟨false,.ph [.d (.sl (.st 0)),.d .bool],[.row .str .vs,.row .str .vs]⟩],gu k⟩
abbrev xL:List Ty:=[.sl (.st 0),.int .i64,.int .i64,.str,.str,.str,.bool,.int .i64,.st 5,.sl .str,.sl .str]
def oL (y:List UInt8→List UInt8→List UInt8→Bool→Int→aA→List (List UInt8)→List (List UInt8)→Option aA) (z:Nat) (m:List aB→Int→Int→List UInt8→List UInt8→List UInt8→Bool→Int→aA→List (List UInt8)→List (List UInt8)→Option aA) (c:List aB) (d:Int) (a:Int) (e:List UInt8) (f:List UInt8) (g:List UInt8) (h:Bool) (i:Int) (j:aA) (b:List (List UInt8)) (k:List (List UInt8)):Option aA:=
 cond (bO a d) (share (fun (n:List aB) (o:Int) (p:Int) (q:List UInt8) (r:List UInt8) (s:List UInt8) (t:Bool) (u:Int) (v:aA) (w:List (List UInt8)) (x:List (List UInt8))=>m n o (aQ .i64 p (1:Int)) q r s t u v w x) fun (l:List aB→Int→Int→List UInt8→List UInt8→List UInt8→Bool→Int→aA→List (List UInt8)→List (List UInt8)→Option aA)=>bE (bU a c.length) (bE (bU a b.length) (cond (seq (nth ([]:List UInt8) b a) ([]:List UInt8)) (bE (bU a b.length) (l c d a e f g h i j (gK b a (nth (default:aB) c a).Default) k)) (l c d a e f g h i j b k)))) (y e f g h i j b k)
def uU (k:Nat) (n:List aC) (y:aA):Option aA:=
 (cU k y).bind fun a=>(gu k n a.1 a.2.1 a.2.2.1 a.2.2.2.1 a.2.2.2.2.1 a.2.2.2.2.2.1 a.2.2.2.2.2.2).bind fun b=>bE (leq b.2.2.1.length a.2.2.2.2.2.1.length) (bE (leq b.2.2.2.length a.2.2.2.2.2.2.length) (share (fun (c:List aB) (o:Bool) (d:List UInt8) (e:List UInt8) (f:List UInt8) (g:Bool) (h:Int) (p:aA) (i:List (List UInt8)) (j:List (List UInt8))=>cond o (some (⟨d,e,f,i,g,j,h⟩:aA)) (share (fun (q:List UInt8) (r:List UInt8) (s:List UInt8) (t:Bool) (u:Int) (z:aA) (v:List (List UInt8)) (w:List (List UInt8))=>some (⟨q,r,s,v,t,w,u⟩:aA)) fun (x:List UInt8→List UInt8→List UInt8→Bool→Int→aA→List (List UInt8)→List (List UInt8)→Option aA)=>iter (ts:=xL) (R:=aA) k (oL x) c (c.length:Int) (0:Int) d e f g h p i j)) fun (l:List aB→Bool→List UInt8→List UInt8→List UInt8→Bool→Int→aA→List (List UInt8)→List (List UInt8)→Option aA)=>cond (!b.2.1) (l b.1 true a.1 a.2.1 a.2.2.1 a.2.2.2.1 a.2.2.2.2.1 (⟨([]:List UInt8),([]:List UInt8),([]:List UInt8),[],false,[],(0:Int)⟩:aA) b.2.2.1 b.2.2.2) ((ez k n).bind fun m=>l b.1 (!m) a.1 a.2.1 a.2.2.1 a.2.2.2.1 a.2.2.2.2.1 (⟨([]:List UInt8),([]:List UInt8),([]:List UInt8),[],false,[],(0:Int)⟩:aA) b.2.2.1 b.2.2.2)))
def D6 (k:Nat):CT:=⟨163,[.d (.sl (.st 1)),.d (.st 5)],[],[⟨false,.d (.st 5),[]⟩],uU k⟩
def J9 (k:Nat) (d:List UInt8) (a:aA) (b:List aB):Option ((List UInt8)×aA×(List aB)):=
 (fC k b d).bind fun c=>bE (bU c a.aN.length) (some ((nth ([]:List UInt8) a.aN c),a,b))
def Hi (k:Nat):CT:=⟨185,[.d .str,.bp 0 0,.bp 1 0],[.b_ (.st 5),.box [.d (.sl (.st 0))]],[⟨false,.d .str,[.b_ (.st 5),.box [.d (.sl (.st 0))]]⟩],J9 k⟩
abbrev Fb:List Ty:=[.str,.sl (.st 2),.int .i64,.int .i64,.sl (.st 2),.st 1,.sl .str]
def J_ (z:List aD→aC→List (List UInt8)→Option ((List aD)×aC×(List (List UInt8)))) (A:Nat) (r:List UInt8→List aD→Int→Int→List aD→aC→List (List UInt8)→Option ((List aD)×aC×(List (List UInt8)))) (f:List UInt8) (b:List aD) (g:Int) (a:Int) (h:List aD) (d:aC) (c:List (List UInt8)):Option ((List aD)×aC×(List (List UInt8))):=
 cond (bO a g) (share (fun (s:List UInt8) (t:List aD) (u:Int) (v:Int) (w:List aD) (x:aC) (y:List (List UInt8))=>r s t u (aQ .i64 v (1:Int)) w x y) fun (e:List UInt8→List aD→Int→Int→List aD→aC→List (List UInt8)→Option ((List aD)×aC×(List (List UInt8))))=>bE (bU a b.length) (cond (!seq (nth (default:aD) b a).Kind d.Kind) (e f b g a h d c) (cond (!seq (nth (default:aD) b a).Field f) (e f b g a h d c) (share (fun (k:List UInt8) (l:List aD) (m:Int) (n:Int) (o:List aD) (p:aC) (i:List (List UInt8)) (j:aD)=>cond (!seq j.cF ([]:List UInt8)) (bE (tB (i.length+([j.cF]:List (List UInt8)).length) 16) (e k l m n o p (i++([j.cF]:List (List UInt8))))) (e k l m n o p i)) fun (q:List UInt8→List aD→Int→Int→List aD→aC→List (List UInt8)→aD→Option ((List aD)×aC×(List (List UInt8))))=>cond (!seq (nth (default:aD) b a).cY ([]:List UInt8)) (bE (tB (c.length+([(nth (default:aD) b a).cY]:List (List UInt8)).length) 16) (q f b g a h d (c++([(nth (default:aD) b a).cY]:List (List UInt8))) (nth (default:aD) b a))) (q f b g a h d c (nth (default:aD) b a)))))) (z h d c)
def OM (k:Nat) (f:List UInt8) (a:List aD) (g:aC):Option ((List aD)×aC×(List (List UInt8))):=
 share (fun (b:List aD) (c:aC) (d:List (List UInt8))=>some (b,c,d)) fun (e:List aD→aC→List (List UInt8)→Option ((List aD)×aC×(List (List UInt8))))=>iter (ts:=Fb) (R:=(List aD)×aC×(List (List UInt8))) k (J_ e) f a (a.length:Int) (0:Int) a g []
def LJ (k:Nat):CT:=⟨182,[.d .str,.bp 0 0,.bp 1 0],[.box [.d (.sl (.st 2))],.b_ (.st 1)],[⟨false,.ow 2,[.box [.d (.sl (.st 2))],.b_ (.st 1),.row .str .vs]⟩],OM k⟩
abbrev pU:List Ty:=[.sl .str,.int .i64,.int .i64,.sl (.st 2),.st 1,.sl .str,.sl (.st 15)]
def mU (i:List aD→aC→List (List UInt8)→Option (Bool×(List aD)×aC×(List (List UInt8)))) (d:Nat) (j:List (List UInt8)→Int→Int→List aD→aC→List (List UInt8)→List cq→Option (Bool×(List aD)×aC×(List (List UInt8)))) (c:List (List UInt8)) (e:Int) (b:Int) (f:List aD) (g:aC) (h:List (List UInt8)) (k:List cq):Option (Bool×(List aD)×aC×(List (List UInt8))):=
 cond (bO b e) (bE (bU b c.length) ((dc d d (nth ([]:List UInt8) c b) k f g h).bind fun a=>cond (!a.1) (some (false,a.2.2.1,a.2.2.2.1,[])) (j c e (aQ .i64 b (1:Int)) a.2.2.1 a.2.2.2.1 a.2.2.2.2 a.2.1))) (i f g h)
def qN (k:Nat) (a:List (List UInt8)) (f:List aD) (g:aC):Option (Bool×(List aD)×aC×(List (List UInt8))):=
 share (fun (b:List aD) (c:aC) (d:List (List UInt8))=>some (true,b,c,d)) fun (e:List aD→aC→List (List UInt8)→Option (Bool×(List aD)×aC×(List (List UInt8))))=>iter (ts:=pU) (R:=Bool×(List aD)×aC×(List (List UInt8))) k (mU e) a (a.length:Int) (0:Int) f g ([]:List (List UInt8)) ([]:List cq)
def wa (k:Nat):CT:=⟨181,[.d (.sl .str),.fn (.func 182) [] [.bp 0 0,.bp 1 0]],[.box [.d (.sl (.st 2))],.b_ (.st 1)],[⟨false,.ph [.ow 2,.d .bool],[.box [.d (.sl (.st 2))],.b_ (.st 1),.row .str .vs]⟩],qN k⟩
abbrev zl:List Ty:=[.sl (.st 0),.int .i64,.int .i64,.st 1,.sl (.st 2),.sl .str]
def wK (g:aC→List aD→List (List UInt8)→Option (Bool×(List (List UInt8)))) (i:Nat) (h:List aB→Int→Int→aC→List aD→List (List UInt8)→Option (Bool×(List (List UInt8)))) (b:List aB) (d:Int) (a:Int) (e:aC) (f:List aD) (c:List (List UInt8)):Option (Bool×(List (List UInt8))):=
 cond (bO a d) (bE (bU a b.length) (bE (tB (c.length+([(nth (default:aB) b a).Name]:List (List UInt8)).length) 16) (h b d (aQ .i64 a (1:Int)) e f (c++([(nth (default:aB) b a).Name]:List (List UInt8)))))) (g e f c)
def rZ (k:Nat) (b:aC) (g:List aD):Option (Bool×(List (List UInt8))):=
 share (fun (c:aC) (d:List aD) (e:List (List UInt8))=>(qN k e d c).bind fun a=>some (a.1,a.2.2.2)) fun (f:aC→List aD→List (List UInt8)→Option (Bool×(List (List UInt8))))=>iter (ts:=zl) (R:=Bool×(List (List UInt8))) k (wK f) b.aU (b.aU.length:Int) (0:Int) b g []
def zm (k:Nat):CT:=⟨157,[.d (.st 1),.d (.sl (.st 2))],[],[⟨false,.ph [.ow 0,.d .bool],[.row .str .vs]⟩],rZ k⟩
def cJ (k:Nat) (d:List UInt8) (e:List UInt8) (f:List UInt8) (g:List UInt8) (h:Bool) (i:Int) (b:List aB) (a:List (List UInt8)) (j:List (List UInt8)):Option ((List UInt8)×(List UInt8)×(List UInt8)×(List UInt8)×Bool×Int×(List aB)×(List (List UInt8))×(List (List UInt8))):=
 (fC k b d).bind fun c=>bE (bU c a.length) (some ((nth ([]:List UInt8) a c),e,f,g,h,i,b,a,j))
def mV (k:Nat):CT:=⟨185,[.d .str,.bp 0 0,.bp 1 0],[.box [.d .str,.d .str,.d .str,.ow 2,.d .bool,.ow 3,.d (.int .i64)],.box [.d (.sl (.st 0))],.row .str .vs,.row .str .vs],[⟨false,.d .str,[.box [.d .str,.d .str,.d .str,.ow 2,.d .bool,.ow 3,.d (.int .i64)],.box [.d (.sl (.st 0))],.row .str .vs,.row .str .vs]⟩],cJ k⟩
abbrev gV:List Ty:=[.sl (.st 2),.str,.int .i64,.int .i64,.sl (.st 2),.int .i64,.int .i64,.str,.str,.str,.bool,.int .i64,.st 5,.sl (.st 0),.sl .str,.sl .str,.sl .str]
def eX (B:List aD→Int→Int→List UInt8→List UInt8→List UInt8→Bool→Int→aA→List aB→List (List UInt8)→List (List UInt8)→List (List UInt8)→Option aA) (v:Nat) (S:List aD→List UInt8→Int→Int→List aD→Int→Int→List UInt8→List UInt8→List UInt8→Bool→Int→aA→List aB→List (List UInt8)→List (List UInt8)→List (List UInt8)→Option aA) (g:List aD) (h:List UInt8) (i:Int) (j:Int) (c:List aD) (p:Int) (b:Int) (o:List UInt8) (q:List UInt8) (r:List UInt8) (s:Bool) (t:Int) (k:aA) (u:List aB) (l:List (List UInt8)) (m:List (List UInt8)) (n:List (List UInt8)):Option aA:=
 cond (bO b p) (share (fun (T:List aD) (U:List UInt8) (V:Int) (W:Int) (X:List aD) (Y:Int) (Z:Int) (aa:List UInt8) (ab:List UInt8) (ad:List UInt8) (ae:Bool) (af:Int) (ag:aA) (ah:List aB) (ai:List (List UInt8)) (aj:List (List UInt8)) (ak:List (List UInt8))=>S T U V W X Y (aQ .i64 Z (1:Int)) aa ab ad ae af ag ah ai aj ak) fun (w:List aD→List UInt8→Int→Int→List aD→Int→Int→List UInt8→List UInt8→List UInt8→Bool→Int→aA→List aB→List (List UInt8)→List (List UInt8)→List (List UInt8)→Option aA)=>bE (bU b c.length) (cond (!seq (nth (default:aD) c b).Kind o) (w g h i j c p b o q r s t k u l m n) (cond (!seq (nth (default:aD) c b).Field h) (w g h i j c p b o q r s t k u l m n) (share (fun (C:List aD) (D:List UInt8) (E:Int) (F:Int) (G:List UInt8) (H:List UInt8) (I:List UInt8) (J:Bool) (K:Int) (L:aA) (M:List aB) (y:aD) (N:List (List UInt8)) (z:List (List UInt8)) (A:List (List UInt8))=>share (fun (al:List aD) (an:List UInt8) (ao:List UInt8) (aq:Int) (ar:Int) (au:List UInt8) (av:List UInt8) (aw:List UInt8) (ax:Bool) (ay:Int) (az:aA) (O:List aB) (a0:List (List UInt8)) (P:List (List UInt8)) (a1:List (List UInt8))=>(fC v O an).bind fun Q=>bE (bU Q P.length) (B al aq ar au av aw ax ay az O a0 (gK P Q ao) a1)) fun (R:List aD→List UInt8→List UInt8→Int→Int→List UInt8→List UInt8→List UInt8→Bool→Int→aA→List aB→List (List UInt8)→List (List UInt8)→List (List UInt8)→Option aA)=>cond (!seq y.cF ([]:List UInt8)) ((cJ v y.cF G H I J K M z A).bind fun f=>bE (leq f.2.2.2.2.2.2.2.1.length z.length) (bE (leq f.2.2.2.2.2.2.2.2.length A.length) (R C D f.1 E F f.2.1 f.2.2.1 f.2.2.2.1 f.2.2.2.2.1 f.2.2.2.2.2.1 L f.2.2.2.2.2.2.1 N f.2.2.2.2.2.2.2.1 f.2.2.2.2.2.2.2.2))) (R C D y.tz E F G H I J K L M N z A)) fun (x:List aD→List UInt8→Int→Int→List UInt8→List UInt8→List UInt8→Bool→Int→aA→List aB→aD→List (List UInt8)→List (List UInt8)→List (List UInt8)→Option aA)=>cond (!seq (nth (default:aD) c b).cY ([]:List UInt8)) ((cJ v (nth (default:aD) c b).cY o q r s t u m n).bind fun a=>bE (leq a.2.2.2.2.2.2.2.1.length m.length) (bE (leq a.2.2.2.2.2.2.2.2.length n.length) (cond (!seq a.1 (nth (default:aD) c b).Is) (w g h i j c p b a.2.1 a.2.2.1 a.2.2.2.1 a.2.2.2.2.1 a.2.2.2.2.2.1 k a.2.2.2.2.2.2.1 l a.2.2.2.2.2.2.2.1 a.2.2.2.2.2.2.2.2) (cond (!seq (nth (default:aD) c b).cF ([]:List UInt8)) ((cJ v (nth (default:aD) c b).cF a.2.1 a.2.2.1 a.2.2.2.1 a.2.2.2.2.1 a.2.2.2.2.2.1 a.2.2.2.2.2.2.1 a.2.2.2.2.2.2.2.1 a.2.2.2.2.2.2.2.2).bind fun d=>bE (leq d.2.2.2.2.2.2.2.1.length a.2.2.2.2.2.2.2.1.length) (bE (leq d.2.2.2.2.2.2.2.2.length a.2.2.2.2.2.2.2.2.length) (cond (seq d.1 ([]:List UInt8)) (w g h i j c p b d.2.1 d.2.2.1 d.2.2.2.1 d.2.2.2.2.1 d.2.2.2.2.2.1 k d.2.2.2.2.2.2.1 l d.2.2.2.2.2.2.2.1 d.2.2.2.2.2.2.2.2) (x g h i j d.2.1 d.2.2.1 d.2.2.2.1 d.2.2.2.2.1 d.2.2.2.2.2.1 k d.2.2.2.2.2.2.1 (nth (default:aD) c b) l d.2.2.2.2.2.2.2.1 d.2.2.2.2.2.2.2.2)))) (x g h i j a.2.1 a.2.2.1 a.2.2.2.1 a.2.2.2.2.1 a.2.2.2.2.2.1 k a.2.2.2.2.2.2.1 (nth (default:aD) c b) l a.2.2.2.2.2.2.2.1 a.2.2.2.2.2.2.2.2))))) (cond (!seq (nth (default:aD) c b).cF ([]:List UInt8)) ((cJ v (nth (default:aD) c b).cF o q r s t u m n).bind fun e=>bE (leq e.2.2.2.2.2.2.2.1.length m.length) (bE (leq e.2.2.2.2.2.2.2.2.length n.length) (cond (seq e.1 ([]:List UInt8)) (w g h i j c p b e.2.1 e.2.2.1 e.2.2.2.1 e.2.2.2.2.1 e.2.2.2.2.2.1 k e.2.2.2.2.2.2.1 l e.2.2.2.2.2.2.2.1 e.2.2.2.2.2.2.2.2) (x g h i j e.2.1 e.2.2.1 e.2.2.2.1 e.2.2.2.2.1 e.2.2.2.2.2.1 k e.2.2.2.2.2.2.1 (nth (default:aD) c b) l e.2.2.2.2.2.2.2.1 e.2.2.2.2.2.2.2.2)))) (x g h i j o q r s t k u (nth (default:aD) c b) l m n)))))) (B g i j o q r s t k u l m n)
abbrev ue:List Ty:=[.sl (.st 2),.int .i64,.int .i64,.str,.str,.str,.bool,.int .i64,.st 5,.sl (.st 0),.sl .str,.sl .str,.sl .str]
def lY (D:List UInt8→List UInt8→List UInt8→Bool→Int→aA→List (List UInt8)→List (List UInt8)→Option aA) (m:Nat) (n:List aD→Int→Int→List UInt8→List UInt8→List UInt8→Bool→Int→aA→List aB→List (List UInt8)→List (List UInt8)→List (List UInt8)→Option aA) (b:List aD) (d:Int) (a:Int) (e:List UInt8) (f:List UInt8) (g:List UInt8) (h:Bool) (i:Int) (j:aA) (o:List aB) (c:List (List UInt8)) (k:List (List UInt8)) (l:List (List UInt8)):Option aA:=
 cond (bO a d) (share (fun (p:List aD) (q:Int) (r:Int) (s:List UInt8) (t:List UInt8) (u:List UInt8) (v:Bool) (w:Int) (x:aA) (y:List aB) (z:List (List UInt8)) (A:List (List UInt8)) (B:List (List UInt8))=>n p q (aQ .i64 r (1:Int)) s t u v w x y z A B) fun (C:List aD→Int→Int→List UInt8→List UInt8→List UInt8→Bool→Int→aA→List aB→List (List UInt8)→List (List UInt8)→List (List UInt8)→Option aA)=>bE (bU a c.length) (iter (ts:=gV) (R:=aA) m (eX C) b (nth ([]:List UInt8) c a) d a b (b.length:Int) (0:Int) e f g h i j o c k l)) (D e f g h i j k l)
def p4 (k:Nat) (e:List aC) (r:List aD) (D:aA):Option aA:=
 (cU k D).bind fun a=>(gu k e a.1 a.2.1 a.2.2.1 a.2.2.2.1 a.2.2.2.2.1 a.2.2.2.2.2.1 a.2.2.2.2.2.2).bind fun b=>bE (leq b.2.2.1.length a.2.2.2.2.2.1.length) (bE (leq b.2.2.2.length a.2.2.2.2.2.2.length) (share (fun (c:List aC) (g:List aD) (A:Bool) (d:List UInt8) (h:List UInt8) (i:List UInt8) (j:Bool) (l:Int) (B:aA) (C:List aB) (m:List (List UInt8)) (n:List (List UInt8))=>cond A (some (⟨d,h,i,m,j,n,l⟩:aA)) ((gL k c d).bind fun o=>bE (bU o c.length) ((rZ k (nth (default:aC) c o) g).bind fun p=>share (fun (s:List UInt8) (t:List UInt8) (u:List UInt8) (v:Bool) (w:Int) (E:aA) (x:List (List UInt8)) (y:List (List UInt8))=>some (⟨s,t,u,x,v,y,w⟩:aA)) fun (z:List UInt8→List UInt8→List UInt8→Bool→Int→aA→List (List UInt8)→List (List UInt8)→Option aA)=>iter (ts:=ue) (R:=aA) k (lY z) g (p.2.length:Int) (0:Int) d h i j l B C p.2 m n))) fun (q:List aC→List aD→Bool→List UInt8→List UInt8→List UInt8→Bool→Int→aA→List aB→List (List UInt8)→List (List UInt8)→Option aA)=>cond (!b.2.1) (q e r true a.1 a.2.1 a.2.2.1 a.2.2.2.1 a.2.2.2.2.1 (⟨([]:List UInt8),([]:List UInt8),([]:List UInt8),[],false,[],(0:Int)⟩:aA) b.1 b.2.2.1 b.2.2.2) ((dY k e r).bind fun f=>q e r (!f) a.1 a.2.1 a.2.2.1 a.2.2.2.1 a.2.2.2.2.1 (⟨([]:List UInt8),([]:List UInt8),([]:List UInt8),[],false,[],(0:Int)⟩:aA) b.1 b.2.2.1 b.2.2.2)))
def AP (k:Nat):CT:=⟨162,[.d (.sl (.st 1)),.d (.sl (.st 2)),.d (.st 5)],[],[⟨false,.d (.st 5),[]⟩],p4 k⟩
end Go.Proofs.YtljfmaaadnoggaaGreatDoor.Fn
