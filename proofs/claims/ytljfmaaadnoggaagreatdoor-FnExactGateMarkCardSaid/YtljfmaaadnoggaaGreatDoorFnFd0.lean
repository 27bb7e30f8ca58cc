/- The functions, as printed from their code; their contracts. No condition. -/
import Derived.Test.YtljfmaaadnoggaaGreatDoorWB
import Derived.Test.YtljfmaaadnoggaaGreatDoorProg
set_option linter.unusedSimpArgs false
set_option linter.unusedVariables false
namespace Go.Proofs.YtljfmaaadnoggaaGreatDoor.Fn
open Go Go.RowKit Go.Proofs.YtljfmaaadnoggaaGreatDoor.cU
def cx:List (Nat×Ty):=[(2,.int .i64),(3,.int .i64),(4,.bool),(5,.int .u8),(6,.int .u8),(9,.str),(10,.str),(11,.str),(12,.int .u64),(21,.int .i32),(22,.sl (.st 1)),(23,.sl (.st 2)),(24,.sl (.st 3)),(25,.st 4),(26,.st 4),(27,.sl (.st 5)),(28,.sl (.st 7)),(29,.sl (.st 8)),(30,.sl (.st 9)),(31,.st 10),(32,.st 10),(35,.sl (.int .i64)),(37,.sl (.st 1)),(38,.sl (.st 2)),(39,.sl (.st 3)),(40,.st 4),(41,.st 4),(43,.sl (.st 5)),(44,.sl (.st 7)),(45,.sl (.st 8)),(46,.sl (.st 9)),(47,.st 10),(48,.st 10),(87,.sl .bool),(93,.sl .str),(94,.st 5),(95,.st 5),(100,.sl (.st 0)),(101,.st 1),(102,.st 1),(104,.st 2),(105,.st 2),(107,.st 3),(108,.st 3),(110,.st 5),(112,.st 6),(113,.st 6),(114,.st 7),(115,.st 7),(117,.st 8),(118,.st 8),(120,.st 9),(121,.st 9),(125,.sl (.st 0)),(126,.st 1),(127,.st 1),(129,.st 2),(131,.st 3),(134,.st 6),(135,.st 7),(136,.st 7),(138,.st 8),(140,.st 9),(156,.st 0),(157,.st 0),(182,.st 11),(183,.st 11),(186,.sl (.int .u8)),(190,.st 0),(225,.st 12),(226,.st 12),(239,.int .u64),(246,.int .u8),(250,.st 13),(251,.st 13),(253,.st 13),(254,.st 13),(255,.st 13),(280,.int .u32),(281,.int .u8),(284,.int .i32),(285,.int .i32),(294,.st 14),(295,.st 14),(298,.int .u16),(302,.int .i32)]
theorem bA:Tryz.prog.follows .mixedOrders=true:=by kernel_rfl
theorem Md:f_ Tryz.prog 251 "loop.example/wharfgate/impl.clean" 225:=fun v w=>by kernel_rfl
theorem Om:f_ Tryz.prog 251 "loop.example/wharfgate/impl.fits" 226:=fun v w=>by kernel_rfl
theorem Me:f_ Tryz.prog 251 "loop.example/wharfgate/impl.sound" 227:=fun v w=>by kernel_rfl
theorem Mf:f_ Tryz.prog 253 "loop.example/wharfgate/impl.clean" 228:=fun v w=>by kernel_rfl
theorem On:f_ Tryz.prog 253 "loop.example/wharfgate/impl.fits" 229:=fun v w=>by kernel_rfl
theorem Mg:f_ Tryz.prog 253 "loop.example/wharfgate/impl.sound" 230:=fun v w=>by kernel_rfl
theorem Mh:f_ Tryz.prog 254 "loop.example/wharfgate/impl.clean" 231:=fun v w=>by kernel_rfl
theorem Oq:f_ Tryz.prog 254 "loop.example/wharfgate/impl.fits" 232:=fun v w=>by kernel_rfl
theorem Mi:f_ Tryz.prog 254 "loop.example/wharfgate/impl.sound" 233:=fun v w=>by kernel_rfl
theorem Mj:f_ Tryz.prog 255 "loop.example/wharfgate/impl.clean" 234:=fun v w=>by kernel_rfl
theorem Ot:f_ Tryz.prog 255 "loop.example/wharfgate/impl.fits" 235:=fun v w=>by kernel_rfl
theorem Mk:f_ Tryz.prog 255 "loop.example/wharfgate/impl.sound" 236:=fun v w=>by kernel_rfl
def eM (x:List UInt8):Prop:=x.length≤maxLen
def EJ {α:Type} (p:α→Prop) (xs:List α):Prop:=xs.length≤maxLen∧∀ x,x∈xs→p x
def nO (k:IntKind) (x:Int):Prop:=k.min≤x∧x≤k.max
def _root_.Go.Proofs.YtljfmaaadnoggaaGreatDoor.cU.aB.ok (x:aB):Prop:=eM x.Name∧nO .i64 x.Kind∧nO .i64 x.bP∧nO .i64 x.bW∧EJ eM x.Words∧eM x.To∧nO .i64 x.cu∧True∧True∧eM x.Default∧eM x.aY
def _root_.Go.Proofs.YtljfmaaadnoggaaGreatDoor.cU.aC.ok (x:aC):Prop:=eM x.Kind∧EJ aB.ok x.aT
def _root_.Go.Proofs.YtljfmaaadnoggaaGreatDoor.cU.aD.ok (x:aD):Prop:=eM x.Kind∧eM x.Field∧eM x.cT∧eM x.Is∧eM x.rN∧eM x.cA
def _root_.Go.Proofs.YtljfmaaadnoggaaGreatDoor.cU.aH.ok (x:aH):Prop:=eM x.Name∧eM x.gC
def _root_.Go.Proofs.YtljfmaaadnoggaaGreatDoor.cU.aL.ok (x:aL):Prop:=EJ aC.ok x.bX∧EJ aD.ok x.gH∧EJ aH.ok x.dS
def _root_.Go.Proofs.YtljfmaaadnoggaaGreatDoor.cU.aA.ok (x:aA):Prop:=eM x.Kind∧eM x.Name∧eM x.aX∧EJ eM x.aN∧True∧EJ eM x.b6∧nO .i64 x.Version
def _root_.Go.Proofs.YtljfmaaadnoggaaGreatDoor.cU.a_.ok (x:a_):Prop:=EJ (nO .i64) x.cw∧eM x.Kind∧eM x.aX∧eM x.cP
def _root_.Go.Proofs.YtljfmaaadnoggaaGreatDoor.cU.aI.ok (x:aI):Prop:=nO .i64 x.Number∧eM x.To∧eM x.By∧a_.ok x.cL
def _root_.Go.Proofs.YtljfmaaadnoggaaGreatDoor.cU.aF.ok (x:aF):Prop:=eM x.aX∧eM x.aV∧nO .i64 x.bW∧nO .i64 x.ly
def _root_.Go.Proofs.YtljfmaaadnoggaaGreatDoor.cU.aJ.ok (x:aJ):Prop:=eM x.hC∧eM x.aX∧eM x.aV∧nO .i64 x.cI∧nO .i64 x.fC
def _root_.Go.Proofs.YtljfmaaadnoggaaGreatDoor.cU.aG.ok (x:aG):Prop:=nO .i64 x.Ei∧nO .i64 x.nW∧nO .i64 x.jX∧EJ aA.ok x.aK∧EJ aI.ok x.bV∧EJ aF.ok x.aS∧EJ aJ.ok x.bG
def _root_.Go.Proofs.YtljfmaaadnoggaaGreatDoor.cU.ck.ok (x:ck):Prop:=eM x.dw∧eM x.resource
def _root_.Go.Proofs.YtljfmaaadnoggaaGreatDoor.cU.cV.ok (x:cV):Prop:=nO .i64 x.code∧nO .i64 x.place
def _root_.Go.Proofs.YtljfmaaadnoggaaGreatDoor.cU.bD.ok (x:bD):Prop:=aB.ok x.aB
def _root_.Go.Proofs.YtljfmaaadnoggaaGreatDoor.cU.Gi.ok (x:Gi):Prop:=eM x.kind∧eM x.name
def _root_.Go.Proofs.YtljfmaaadnoggaaGreatDoor.cU.cb.ok (x:cb):Prop:=eM x.Key∧nO .i64 x.Mb
def _root_.Go.Proofs.YtljfmaaadnoggaaGreatDoor.cU.cG.ok (x:cG):Prop:=ck.ok x.Key∧nO .i64 x.Mb
abbrev tR:List Ty:=[.sl .str,.int .i64,.int .i64]
def yk (e:Int→Option Int) (f:Nat) (d:List (List UInt8)→Int→Int→Option Int) (a:List (List UInt8)) (c:Int) (b:Int):Option Int:=
 cond (bN b (a.length:Int)) (bC (bT b a.length) (cond (bN (bS .i64 c ((nth ([]:List UInt8) a b).length:Int)) (0:Int)) (some (-1:Int)) (d a (bS .i64 c ((nth ([]:List UInt8) a b).length:Int)) (aQ .i64 b (1:Int))))) (e c)
def jD (k:Nat) (a:List (List UInt8)) (b:Int):Option Int:=
 cond (bN (bS .i64 b (a.length:Int)) (0:Int)) (some (-1:Int)) (share (fun (c:Int)=>some c) fun (d:Int→Option Int)=>iter (ts:=tR) (R:=Int) k (yk d) a (bS .i64 b (a.length:Int)) (0:Int))
def sy (k:Nat):CT:=⟨101,[.d (.sl .str),.d (.int .i64)],[],[⟨false,.d (.int .i64),[]⟩],jD k⟩
def jE (k:Nat) (a:aB) (c:Int):Option Int:=
 cond (bN (bS .i64 c (a.Name.length:Int)) (0:Int)) (some (-1:Int)) ((jD k a.Words (bS .i64 c (a.Name.length:Int))).bind fun b=>cond (bN b (0:Int)) (some (-1:Int)) (cond (bN (bS .i64 b (a.To.length:Int)) (0:Int)) (some (-1:Int)) (cond (bN (bS .i64 (bS .i64 b (a.To.length:Int)) (a.Default.length:Int)) (0:Int)) (some (-1:Int)) (cond (bN (bS .i64 (bS .i64 (bS .i64 b (a.To.length:Int)) (a.Default.length:Int)) (a.aY.length:Int)) (0:Int)) (some (-1:Int)) (some (bS .i64 (bS .i64 (bS .i64 b (a.To.length:Int)) (a.Default.length:Int)) (a.aY.length:Int)))))))
def wL (k:Nat):CT:=⟨138,[.d (.st 0),.d (.int .i64)],[],[⟨false,.d (.int .i64),[]⟩],jE k⟩
abbrev pI:List Ty:=[.sl (.st 0),.int .i64,.int .i64]
def tS (e:Int→Option Int) (f:Nat) (g:List aB→Int→Int→Option Int) (a:List aB) (c:Int) (b:Int):Option Int:=
 cond (bN b (a.length:Int)) (bC (bT b a.length) ((jE f (nth (default:aB) a b) c).bind fun d=>cond (bN d (0:Int)) (some (-1:Int)) (g a d (aQ .i64 b (1:Int))))) (e c)
def lP (k:Nat) (a:List aB) (b:Int):Option Int:=
 cond (bN (bS .i64 b (a.length:Int)) (0:Int)) (some (-1:Int)) (share (fun (c:Int)=>some c) fun (d:Int→Option Int)=>iter (ts:=pI) (R:=Int) k (tS d) a (bS .i64 b (a.length:Int)) (0:Int))
def vh (k:Nat):CT:=⟨100,[.d (.sl (.st 0)),.d (.int .i64)],[],[⟨false,.d (.int .i64),[]⟩],lP k⟩
def jF (k:Nat) (a:aC) (b:Int):Option Int:=
 cond (bN (bS .i64 b (a.Kind.length:Int)) (0:Int)) (some (-1:Int)) ((lP k a.aT (bS .i64 b (a.Kind.length:Int))).bind fun c=>cond (bN c (0:Int)) (some (-1:Int)) (some c))
def wM (k:Nat):CT:=⟨64,[.d (.st 1),.d (.int .i64)],[],[⟨false,.d (.int .i64),[]⟩],jF k⟩
abbrev pJ:List Ty:=[.sl (.st 1),.int .i64,.int .i64]
def tT (e:Int→Option Int) (f:Nat) (g:List aC→Int→Int→Option Int) (a:List aC) (c:Int) (b:Int):Option Int:=
 cond (bN b (a.length:Int)) (bC (bT b a.length) ((jF f (nth (default:aC) a b) c).bind fun d=>cond (bN d (0:Int)) (some (-1:Int)) (g a d (aQ .i64 b (1:Int))))) (e c)
def lQ (k:Nat) (a:List aC) (b:Int):Option Int:=
 cond (bN (bS .i64 b (a.length:Int)) (0:Int)) (some (-1:Int)) (share (fun (c:Int)=>some c) fun (d:Int→Option Int)=>iter (ts:=pJ) (R:=Int) k (tT d) a (bS .i64 b (a.length:Int)) (0:Int))
def vi (k:Nat):CT:=⟨23,[.d (.sl (.st 1)),.d (.int .i64)],[],[⟨false,.d (.int .i64),[]⟩],lQ k⟩
def kU (_k:Nat) (a:aD) (b:Int):Option Int:=
 cond (bN (bS .i64 b (a.Kind.length:Int)) (0:Int)) (some (-1:Int)) (cond (bN (bS .i64 (bS .i64 b (a.Kind.length:Int)) (a.Field.length:Int)) (0:Int)) (some (-1:Int)) (cond (bN (bS .i64 (bS .i64 (bS .i64 b (a.Kind.length:Int)) (a.Field.length:Int)) (a.cT.length:Int)) (0:Int)) (some (-1:Int)) (cond (bN (bS .i64 (bS .i64 (bS .i64 (bS .i64 b (a.Kind.length:Int)) (a.Field.length:Int)) (a.cT.length:Int)) (a.Is.length:Int)) (0:Int)) (some (-1:Int)) (cond (bN (bS .i64 (bS .i64 (bS .i64 (bS .i64 (bS .i64 b (a.Kind.length:Int)) (a.Field.length:Int)) (a.cT.length:Int)) (a.Is.length:Int)) (a.rN.length:Int)) (0:Int)) (some (-1:Int)) (cond (bN (bS .i64 (bS .i64 (bS .i64 (bS .i64 (bS .i64 (bS .i64 b (a.Kind.length:Int)) (a.Field.length:Int)) (a.cT.length:Int)) (a.Is.length:Int)) (a.rN.length:Int)) (a.cA.length:Int)) (0:Int)) (some (-1:Int)) (some (bS .i64 (bS .i64 (bS .i64 (bS .i64 (bS .i64 (bS .i64 b (a.Kind.length:Int)) (a.Field.length:Int)) (a.cT.length:Int)) (a.Is.length:Int)) (a.rN.length:Int)) (a.cA.length:Int))))))))
def yl (k:Nat):CT:=⟨65,[.d (.st 2),.d (.int .i64)],[],[⟨false,.d (.int .i64),[]⟩],kU k⟩
abbrev qy:List Ty:=[.sl (.st 2),.int .i64,.int .i64]
def vj (e:Int→Option Int) (f:Nat) (g:List aD→Int→Int→Option Int) (a:List aD) (c:Int) (b:Int):Option Int:=
 cond (bN b (a.length:Int)) (bC (bT b a.length) ((kU f (nth (default:aD) a b) c).bind fun d=>cond (bN d (0:Int)) (some (-1:Int)) (g a d (aQ .i64 b (1:Int))))) (e c)
def mZ (k:Nat) (a:List aD) (b:Int):Option Int:=
 cond (bN (bS .i64 b (a.length:Int)) (0:Int)) (some (-1:Int)) (share (fun (c:Int)=>some c) fun (d:Int→Option Int)=>iter (ts:=qy) (R:=Int) k (vj d) a (bS .i64 b (a.length:Int)) (0:Int))
def wN (k:Nat):CT:=⟨24,[.d (.sl (.st 2)),.d (.int .i64)],[],[⟨false,.d (.int .i64),[]⟩],mZ k⟩
def kV (_k:Nat) (a:aH) (b:Int):Option Int:=
 cond (bN (bS .i64 b (a.Name.length:Int)) (0:Int)) (some (-1:Int)) (cond (bN (bS .i64 (bS .i64 b (a.Name.length:Int)) (a.gC.length:Int)) (0:Int)) (some (-1:Int)) (some (bS .i64 (bS .i64 b (a.Name.length:Int)) (a.gC.length:Int))))
def ym (k:Nat):CT:=⟨66,[.d (.st 3),.d (.int .i64)],[],[⟨false,.d (.int .i64),[]⟩],kV k⟩
abbrev qz:List Ty:=[.sl (.st 3),.int .i64,.int .i64]
def vk (e:Int→Option Int) (f:Nat) (g:List aH→Int→Int→Option Int) (a:List aH) (c:Int) (b:Int):Option Int:=
 cond (bN b (a.length:Int)) (bC (bT b a.length) ((kV f (nth (default:aH) a b) c).bind fun d=>cond (bN d (0:Int)) (some (-1:Int)) (g a d (aQ .i64 b (1:Int))))) (e c)
def m7 (k:Nat) (a:List aH) (b:Int):Option Int:=
 cond (bN (bS .i64 b (a.length:Int)) (0:Int)) (some (-1:Int)) (share (fun (c:Int)=>some c) fun (d:Int→Option Int)=>iter (ts:=qz) (R:=Int) k (vk d) a (bS .i64 b (a.length:Int)) (0:Int))
def wO (k:Nat):CT:=⟨25,[.d (.sl (.st 3)),.d (.int .i64)],[],[⟨false,.d (.int .i64),[]⟩],m7 k⟩
def qw (k:Nat) (a:aL) (e:Int):Option Int:=
 (lQ k a.bX e).bind fun b=>cond (bN b (0:Int)) (some (-1:Int)) ((mZ k a.gH b).bind fun c=>cond (bN c (0:Int)) (some (-1:Int)) ((m7 k a.dS c).bind fun d=>cond (bN d (0:Int)) (some (-1:Int)) (some d)))
def zG (k:Nat):CT:=⟨6,[.d (.st 4),.d (.int .i64)],[],[⟨false,.d (.int .i64),[]⟩],qw k⟩
def ix (k:Nat) (a:aA) (b:Int):Option Int:=
 cond (bN (bS .i64 b (a.Kind.length:Int)) (0:Int)) (some (-1:Int)) (cond (bN (bS .i64 (bS .i64 b (a.Kind.length:Int)) (a.Name.length:Int)) (0:Int)) (some (-1:Int)) (cond (bN (bS .i64 (bS .i64 (bS .i64 b (a.Kind.length:Int)) (a.Name.length:Int)) (a.aX.length:Int)) (0:Int)) (some (-1:Int)) ((jD k a.aN (bS .i64 (bS .i64 (bS .i64 b (a.Kind.length:Int)) (a.Name.length:Int)) (a.aX.length:Int))).bind fun c=>cond (bN c (0:Int)) (some (-1:Int)) ((jD k a.b6 c).bind fun d=>cond (bN d (0:Int)) (some (-1:Int)) (some d)))))
def vl (k:Nat):CT:=⟨67,[.d (.st 5),.d (.int .i64)],[],[⟨false,.d (.int .i64),[]⟩],ix k⟩
abbrev oj:List Ty:=[.sl (.st 5),.int .i64,.int .i64]
def sa (e:Int→Option Int) (f:Nat) (g:List aA→Int→Int→Option Int) (a:List aA) (c:Int) (b:Int):Option Int:=
 cond (bN b (a.length:Int)) (bC (bT b a.length) ((ix f (nth (default:aA) a b) c).bind fun d=>cond (bN d (0:Int)) (some (-1:Int)) (g a d (aQ .i64 b (1:Int))))) (e c)
def kl (k:Nat) (a:List aA) (b:Int):Option Int:=
 cond (bN (bS .i64 b (a.length:Int)) (0:Int)) (some (-1:Int)) (share (fun (c:Int)=>some c) fun (d:Int→Option Int)=>iter (ts:=oj) (R:=Int) k (sa d) a (bS .i64 b (a.length:Int)) (0:Int))
def tU (k:Nat):CT:=⟨26,[.d (.sl (.st 5)),.d (.int .i64)],[],[⟨false,.d (.int .i64),[]⟩],kl k⟩
def yn (_k:Nat) (a:List Int) (b:Int):Option Int:=
 cond (bN (bS .i64 b (a.length:Int)) (0:Int)) (some (-1:Int)) (some (bS .i64 b (a.length:Int)))
def FK (k:Nat):CT:=⟨139,[.d (.sl (.int .i64)),.d (.int .i64)],[],[⟨false,.d (.int .i64),[]⟩],yn k⟩
def oM (k:Nat) (a:a_) (c:Int):Option Int:=
 (yn k a.cw c).bind fun b=>cond (bN b (0:Int)) (some (-1:Int)) (cond (bN (bS .i64 b (a.Kind.length:Int)) (0:Int)) (some (-1:Int)) (cond (bN (bS .i64 (bS .i64 b (a.Kind.length:Int)) (a.aX.length:Int)) (0:Int)) (some (-1:Int)) (cond (bN (bS .i64 (bS .i64 (bS .i64 b (a.Kind.length:Int)) (a.aX.length:Int)) (a.cP.length:Int)) (0:Int)) (some (-1:Int)) (some (bS .i64 (bS .i64 (bS .i64 b (a.Kind.length:Int)) (a.aX.length:Int)) (a.cP.length:Int))))))
def yo (k:Nat):CT:=⟨102,[.d (.st 6),.d (.int .i64)],[],[⟨false,.d (.int .i64),[]⟩],oM k⟩
def jG (k:Nat) (a:aI) (b:Int):Option Int:=
 cond (bN (bS .i64 b (a.To.length:Int)) (0:Int)) (some (-1:Int)) (cond (bN (bS .i64 (bS .i64 b (a.To.length:Int)) (a.By.length:Int)) (0:Int)) (some (-1:Int)) ((oM k a.cL (bS .i64 (bS .i64 b (a.To.length:Int)) (a.By.length:Int))).bind fun c=>cond (bN c (0:Int)) (some (-1:Int)) (some c)))
def wP (k:Nat):CT:=⟨68,[.d (.st 7),.d (.int .i64)],[],[⟨false,.d (.int .i64),[]⟩],jG k⟩
abbrev pK:List Ty:=[.sl (.st 7),.int .i64,.int .i64]
def tV (e:Int→Option Int) (f:Nat) (g:List aI→Int→Int→Option Int) (a:List aI) (c:Int) (b:Int):Option Int:=
 cond (bN b (a.length:Int)) (bC (bT b a.length) ((jG f (nth (default:aI) a b) c).bind fun d=>cond (bN d (0:Int)) (some (-1:Int)) (g a d (aQ .i64 b (1:Int))))) (e c)
def lR (k:Nat) (a:List aI) (b:Int):Option Int:=
 cond (bN (bS .i64 b (a.length:Int)) (0:Int)) (some (-1:Int)) (share (fun (c:Int)=>some c) fun (d:Int→Option Int)=>iter (ts:=pK) (R:=Int) k (tV d) a (bS .i64 b (a.length:Int)) (0:Int))
def vm (k:Nat):CT:=⟨27,[.d (.sl (.st 7)),.d (.int .i64)],[],[⟨false,.d (.int .i64),[]⟩],lR k⟩
def iy (_k:Nat) (a:aF) (b:Int):Option Int:=
 cond (bN (bS .i64 b (a.aX.length:Int)) (0:Int)) (some (-1:Int)) (cond (bN (bS .i64 (bS .i64 b (a.aX.length:Int)) (a.aV.length:Int)) (0:Int)) (some (-1:Int)) (some (bS .i64 (bS .i64 b (a.aX.length:Int)) (a.aV.length:Int))))
def vn (k:Nat):CT:=⟨69,[.d (.st 8),.d (.int .i64)],[],[⟨false,.d (.int .i64),[]⟩],iy k⟩
abbrev om:List Ty:=[.sl (.st 8),.int .i64,.int .i64]
def sb (e:Int→Option Int) (f:Nat) (g:List aF→Int→Int→Option Int) (a:List aF) (c:Int) (b:Int):Option Int:=
 cond (bN b (a.length:Int)) (bC (bT b a.length) ((iy f (nth (default:aF) a b) c).bind fun d=>cond (bN d (0:Int)) (some (-1:Int)) (g a d (aQ .i64 b (1:Int))))) (e c)
def km (k:Nat) (a:List aF) (b:Int):Option Int:=
 cond (bN (bS .i64 b (a.length:Int)) (0:Int)) (some (-1:Int)) (share (fun (c:Int)=>some c) fun (d:Int→Option Int)=>iter (ts:=om) (R:=Int) k (sb d) a (bS .i64 b (a.length:Int)) (0:Int))
def tW (k:Nat):CT:=⟨28,[.d (.sl (.st 8)),.d (.int .i64)],[],[⟨false,.d (.int .i64),[]⟩],km k⟩
def jH (_k:Nat) (a:aJ) (b:Int):Option Int:=
 cond (bN (bS .i64 b (a.hC.length:Int)) (0:Int)) (some (-1:Int)) (cond (bN (bS .i64 (bS .i64 b (a.hC.length:Int)) (a.aX.length:Int)) (0:Int)) (some (-1:Int)) (cond (bN (bS .i64 (bS .i64 (bS .i64 b (a.hC.length:Int)) (a.aX.length:Int)) (a.aV.length:Int)) (0:Int)) (some (-1:Int)) (some (bS .i64 (bS .i64 (bS .i64 b (a.hC.length:Int)) (a.aX.length:Int)) (a.aV.length:Int)))))
def wQ (k:Nat):CT:=⟨70,[.d (.st 9),.d (.int .i64)],[],[⟨false,.d (.int .i64),[]⟩],jH k⟩
abbrev pL:List Ty:=[.sl (.st 9),.int .i64,.int .i64]
def tX (e:Int→Option Int) (f:Nat) (g:List aJ→Int→Int→Option Int) (a:List aJ) (c:Int) (b:Int):Option Int:=
 cond (bN b (a.length:Int)) (bC (bT b a.length) ((jH f (nth (default:aJ) a b) c).bind fun d=>cond (bN d (0:Int)) (some (-1:Int)) (g a d (aQ .i64 b (1:Int))))) (e c)
def lS (k:Nat) (a:List aJ) (b:Int):Option Int:=
 cond (bN (bS .i64 b (a.length:Int)) (0:Int)) (some (-1:Int)) (share (fun (c:Int)=>some c) fun (d:Int→Option Int)=>iter (ts:=pL) (R:=Int) k (tX d) a (bS .i64 b (a.length:Int)) (0:Int))
def vo (k:Nat):CT:=⟨29,[.d (.sl (.st 9)),.d (.int .i64)],[],[⟨false,.d (.int .i64),[]⟩],lS k⟩
def oL (k:Nat) (a:aG) (f:Int):Option Int:=
 (kl k a.aK f).bind fun b=>cond (bN b (0:Int)) (some (-1:Int)) ((lR k a.bV b).bind fun c=>cond (bN c (0:Int)) (some (-1:Int)) ((km k a.aS c).bind fun d=>cond (bN d (0:Int)) (some (-1:Int)) ((lS k a.bG d).bind fun e=>cond (bN e (0:Int)) (some (-1:Int)) (some e))))
def yp (k:Nat):CT:=⟨7,[.d (.st 10),.d (.int .i64)],[],[⟨false,.d (.int .i64),[]⟩],oL k⟩
abbrev tY:List Ty:=[.sl .str,.int .i64,.sl .str]
def yq (e:List (List UInt8)→Option (List (List UInt8))) (f:Nat) (d:List (List UInt8)→Int→List (List UInt8)→Option (List (List UInt8))) (b:List (List UInt8)) (a:Int) (c:List (List UInt8)):Option (List (List UInt8)):=
 cond (bN a (b.length:Int)) (bC (bT a b.length) (bC (bT a c.length) (d b (aQ .i64 a (1:Int)) (g8 c a (nth ([]:List UInt8) b a))))) (e c)
def jI (k:Nat) (a:List (List UInt8)):Option (List (List UInt8)):=
 bC (Ej (a.length:Int) (a.length:Int) 16) (share (fun (b:List (List UInt8))=>some b) fun (c:List (List UInt8)→Option (List (List UInt8)))=>iter (ts:=tY) (R:=List (List UInt8)) k (yq c) a (0:Int) (List.replicate (Int.toNat (a.length:Int)) ([]:List UInt8)))
def sA (k:Nat):CT:=⟨118,[.d (.sl .str)],[],[⟨false,.d (.sl .str),[]⟩],jI k⟩
def jJ (k:Nat) (a:aB):Option aB:=
 (jI k a.Words).bind fun b=>some (⟨a.Name,a.Kind,a.bP,a.bW,b,a.To,a.cu,a.cN,a.cg,a.Default,a.aY⟩:aB)
def wR (k:Nat):CT:=⟨152,[.d (.st 0)],[],[⟨false,.d (.st 0),[]⟩],jJ k⟩
abbrev pM:List Ty:=[.sl (.st 0),.int .i64,.sl (.st 0)]
def tZ (d:List aB→Option (List aB)) (e:Nat) (f:List aB→Int→List aB→Option (List aB)) (b:List aB) (a:Int) (c:List aB):Option (List aB):=
 cond (bN a (b.length:Int)) (bC (bT a b.length) ((jJ e (nth (default:aB) b a)).bind fun g=>bC (bT a c.length) (f b (aQ .i64 a (1:Int)) (g8 c a g)))) (d c)
def lT (k:Nat) (a:List aB):Option (List aB):=
 bC (Ej (a.length:Int) (a.length:Int) 128) (share (fun (b:List aB)=>some b) fun (c:List aB→Option (List aB))=>iter (ts:=pM) (R:=List aB) k (tZ c) a (0:Int) (List.replicate (Int.toNat (a.length:Int)) (⟨([]:List UInt8),(0:Int),(0:Int),(0:Int),[],([]:List UInt8),(0:Int),false,false,([]:List UInt8),([]:List UInt8)⟩:aB)))
def vp (k:Nat):CT:=⟨117,[.d (.sl (.st 0))],[],[⟨false,.d (.sl (.st 0)),[]⟩],lT k⟩
def jK (k:Nat) (a:aC):Option aC:=
 (lT k a.aT).bind fun b=>some (⟨a.Kind,b⟩:aC)
def wS (k:Nat):CT:=⟨76,[.d (.st 1)],[],[⟨false,.d (.st 1),[]⟩],jK k⟩
abbrev pN:List Ty:=[.sl (.st 1),.int .i64,.sl (.st 1)]
def t_ (d:List aC→Option (List aC)) (e:Nat) (f:List aC→Int→List aC→Option (List aC)) (b:List aC) (a:Int) (c:List aC):Option (List aC):=
 cond (bN a (b.length:Int)) (bC (bT a b.length) ((jK e (nth (default:aC) b a)).bind fun g=>bC (bT a c.length) (f b (aQ .i64 a (1:Int)) (g8 c a g)))) (d c)
def lU (k:Nat) (a:List aC):Option (List aC):=
 bC (Ej (a.length:Int) (a.length:Int) 40) (share (fun (b:List aC)=>some b) fun (c:List aC→Option (List aC))=>iter (ts:=pN) (R:=List aC) k (t_ c) a (0:Int) (List.replicate (Int.toNat (a.length:Int)) (⟨([]:List UInt8),[]⟩:aC)))
def vq (k:Nat):CT:=⟨32,[.d (.sl (.st 1))],[],[⟨false,.d (.sl (.st 1)),[]⟩],lU k⟩
def fS (_k:Nat) (a:aD):Option aD:=
 some a
def qA (k:Nat):CT:=⟨77,[.d (.st 2)],[],[⟨false,.d (.st 2),[]⟩],fS k⟩
abbrev qB:List Ty:=[.sl (.st 2),.int .i64,.sl (.st 2)]
def vt (d:List aD→Option (List aD)) (e:Nat) (f:List aD→Int→List aD→Option (List aD)) (b:List aD) (a:Int) (c:List aD):Option (List aD):=
 cond (bN a (b.length:Int)) (bC (bT a b.length) ((fS e (nth (default:aD) b a)).bind fun g=>bC (bT a c.length) (f b (aQ .i64 a (1:Int)) (g8 c a g)))) (d c)
def m8 (k:Nat) (a:List aD):Option (List aD):=
 bC (Ej (a.length:Int) (a.length:Int) 96) (share (fun (b:List aD)=>some b) fun (c:List aD→Option (List aD))=>iter (ts:=qB) (R:=List aD) k (vt c) a (0:Int) (List.replicate (Int.toNat (a.length:Int)) (⟨([]:List UInt8),([]:List UInt8),([]:List UInt8),([]:List UInt8),([]:List UInt8),([]:List UInt8)⟩:aD)))
def wT (k:Nat):CT:=⟨33,[.d (.sl (.st 2))],[],[⟨false,.d (.sl (.st 2)),[]⟩],m8 k⟩
def fT (_k:Nat) (a:aH):Option aH:=
 some a
def qC (k:Nat):CT:=⟨78,[.d (.st 3)],[],[⟨false,.d (.st 3),[]⟩],fT k⟩
abbrev qD:List Ty:=[.sl (.st 3),.int .i64,.sl (.st 3)]
def vu (d:List aH→Option (List aH)) (e:Nat) (f:List aH→Int→List aH→Option (List aH)) (b:List aH) (a:Int) (c:List aH):Option (List aH):=
 cond (bN a (b.length:Int)) (bC (bT a b.length) ((fT e (nth (default:aH) b a)).bind fun g=>bC (bT a c.length) (f b (aQ .i64 a (1:Int)) (g8 c a g)))) (d c)
def m9 (k:Nat) (a:List aH):Option (List aH):=
 bC (Ej (a.length:Int) (a.length:Int) 32) (share (fun (b:List aH)=>some b) fun (c:List aH→Option (List aH))=>iter (ts:=qD) (R:=List aH) k (vu c) a (0:Int) (List.replicate (Int.toNat (a.length:Int)) (⟨([]:List UInt8),([]:List UInt8)⟩:aH)))
def wU (k:Nat):CT:=⟨34,[.d (.sl (.st 3))],[],[⟨false,.d (.sl (.st 3)),[]⟩],m9 k⟩
def jC (k:Nat) (a:aL):Option aL:=
 (lU k a.bX).bind fun b=>(m8 k a.gH).bind fun c=>(m9 k a.dS).bind fun d=>some (⟨b,c,d⟩:aL)
def zH (k:Nat):CT:=⟨9,[.d (.st 4)],[],[⟨false,.d (.st 4),[]⟩],jC k⟩
def iz (k:Nat) (a:aA):Option aA:=
 (jI k a.aN).bind fun b=>(jI k a.b6).bind fun c=>some (⟨a.Kind,a.Name,a.aX,b,a.Ending,c,a.Version⟩:aA)
def vw (k:Nat):CT:=⟨79,[.d (.st 5)],[],[⟨false,.d (.st 5),[]⟩],iz k⟩
abbrev oo:List Ty:=[.sl (.st 5),.int .i64,.sl (.st 5)]
def sc (d:List aA→Option (List aA)) (e:Nat) (f:List aA→Int→List aA→Option (List aA)) (b:List aA) (a:Int) (c:List aA):Option (List aA):=
 cond (bN a (b.length:Int)) (bC (bT a b.length) ((iz e (nth (default:aA) b a)).bind fun g=>bC (bT a c.length) (f b (aQ .i64 a (1:Int)) (g8 c a g)))) (d c)
def ko (k:Nat) (a:List aA):Option (List aA):=
 bC (Ej (a.length:Int) (a.length:Int) 112) (share (fun (b:List aA)=>some b) fun (c:List aA→Option (List aA))=>iter (ts:=oo) (R:=List aA) k (sc c) a (0:Int) (List.replicate (Int.toNat (a.length:Int)) (⟨([]:List UInt8),([]:List UInt8),([]:List UInt8),[],false,[],(0:Int)⟩:aA)))
def ua (k:Nat):CT:=⟨35,[.d (.sl (.st 5))],[],[⟨false,.d (.sl (.st 5)),[]⟩],ko k⟩
abbrev yr:List Ty:=[.sl (.int .i64),.int .i64,.sl (.int .i64)]
def CP (e:List Int→Option (List Int)) (f:Nat) (d:List Int→Int→List Int→Option (List Int)) (b:List Int) (a:Int) (c:List Int):Option (List Int):=
 cond (bN a (b.length:Int)) (bC (bT a b.length) (bC (bT a c.length) (d b (aQ .i64 a (1:Int)) (g8 c a (nth (0:Int) b a))))) (e c)
def yt (k:Nat) (a:List Int):Option (List Int):=
 bC (Ej (a.length:Int) (a.length:Int) 8) (share (fun (b:List Int)=>some b) fun (c:List Int→Option (List Int))=>iter (ts:=yr) (R:=List Int) k (CP c) a (0:Int) (List.replicate (Int.toNat (a.length:Int)) (0:Int)))
def FL (k:Nat):CT:=⟨153,[.d (.sl (.int .i64))],[],[⟨false,.d (.sl (.int .i64)),[]⟩],yt k⟩
def oN (k:Nat) (a:a_):Option a_:=
 (yt k a.cw).bind fun b=>some (⟨b,a.Kind,a.aX,a.cP⟩:a_)
def yu (k:Nat):CT:=⟨119,[.d (.st 6)],[],[⟨false,.d (.st 6),[]⟩],oN k⟩
def jL (k:Nat) (a:aI):Option aI:=
 (oN k a.cL).bind fun b=>some (⟨a.Number,a.To,a.By,b⟩:aI)
def wV (k:Nat):CT:=⟨80,[.d (.st 7)],[],[⟨false,.d (.st 7),[]⟩],jL k⟩
abbrev pO:List Ty:=[.sl (.st 7),.int .i64,.sl (.st 7)]
def ub (d:List aI→Option (List aI)) (e:Nat) (f:List aI→Int→List aI→Option (List aI)) (b:List aI) (a:Int) (c:List aI):Option (List aI):=
 cond (bN a (b.length:Int)) (bC (bT a b.length) ((jL e (nth (default:aI) b a)).bind fun g=>bC (bT a c.length) (f b (aQ .i64 a (1:Int)) (g8 c a g)))) (d c)
def lV (k:Nat) (a:List aI):Option (List aI):=
 bC (Ej (a.length:Int) (a.length:Int) 112) (share (fun (b:List aI)=>some b) fun (c:List aI→Option (List aI))=>iter (ts:=pO) (R:=List aI) k (ub c) a (0:Int) (List.replicate (Int.toNat (a.length:Int)) (⟨(0:Int),([]:List UInt8),([]:List UInt8),(⟨[],([]:List UInt8),([]:List UInt8),([]:List UInt8)⟩:a_)⟩:aI)))
def vx (k:Nat):CT:=⟨36,[.d (.sl (.st 7))],[],[⟨false,.d (.sl (.st 7)),[]⟩],lV k⟩
def dY (_k:Nat) (a:aF):Option aF:=
 some a
def nZ (k:Nat):CT:=⟨81,[.d (.st 8)],[],[⟨false,.d (.st 8),[]⟩],dY k⟩
abbrev oq:List Ty:=[.sl (.st 8),.int .i64,.sl (.st 8)]
def se (d:List aF→Option (List aF)) (e:Nat) (f:List aF→Int→List aF→Option (List aF)) (b:List aF) (a:Int) (c:List aF):Option (List aF):=
 cond (bN a (b.length:Int)) (bC (bT a b.length) ((dY e (nth (default:aF) b a)).bind fun g=>bC (bT a c.length) (f b (aQ .i64 a (1:Int)) (g8 c a g)))) (d c)
def kq (k:Nat) (a:List aF):Option (List aF):=
 bC (Ej (a.length:Int) (a.length:Int) 48) (share (fun (b:List aF)=>some b) fun (c:List aF→Option (List aF))=>iter (ts:=oq) (R:=List aF) k (se c) a (0:Int) (List.replicate (Int.toNat (a.length:Int)) (⟨([]:List UInt8),([]:List UInt8),(0:Int),(0:Int)⟩:aF)))
def uc (k:Nat):CT:=⟨37,[.d (.sl (.st 8))],[],[⟨false,.d (.sl (.st 8)),[]⟩],kq k⟩
def eV (_k:Nat) (a:aJ):Option aJ:=
 some a
def pe (k:Nat):CT:=⟨82,[.d (.st 9)],[],[⟨false,.d (.st 9),[]⟩],eV k⟩
abbrev pP:List Ty:=[.sl (.st 9),.int .i64,.sl (.st 9)]
def ud (d:List aJ→Option (List aJ)) (e:Nat) (f:List aJ→Int→List aJ→Option (List aJ)) (b:List aJ) (a:Int) (c:List aJ):Option (List aJ):=
 cond (bN a (b.length:Int)) (bC (bT a b.length) ((eV e (nth (default:aJ) b a)).bind fun g=>bC (bT a c.length) (f b (aQ .i64 a (1:Int)) (g8 c a g)))) (d c)
def lW (k:Nat) (a:List aJ):Option (List aJ):=
 bC (Ej (a.length:Int) (a.length:Int) 64) (share (fun (b:List aJ)=>some b) fun (c:List aJ→Option (List aJ))=>iter (ts:=pP) (R:=List aJ) k (ud c) a (0:Int) (List.replicate (Int.toNat (a.length:Int)) (⟨([]:List UInt8),([]:List UInt8),([]:List UInt8),(0:Int),(0:Int)⟩:aJ)))
def vy (k:Nat):CT:=⟨38,[.d (.sl (.st 9))],[],[⟨false,.d (.sl (.st 9)),[]⟩],lW k⟩
def hU (k:Nat) (a:aG):Option aG:=
 (ko k a.aK).bind fun b=>(lV k a.bV).bind fun c=>(kq k a.aS).bind fun d=>(lW k a.bG).bind fun e=>some (⟨a.Ei,a.nW,a.jX,b,c,d,e⟩:aG)
def yw (k:Nat):CT:=⟨10,[.d (.st 10)],[],[⟨false,.d (.st 10),[]⟩],hU k⟩
def dq (_k:Nat) (a:Int) (b:Int) (c:Int):Option Bool:=
 cond (b_ b a) (some (b_ a c)) (some false)
def fm (k:Nat):CT:=⟨72,[.d (.int .i64),.d (.int .i64),.d (.int .i64)],[],[⟨false,.d .bool,[]⟩],dq k⟩
def ue (_k:Nat) (a:Int):Option Bool:=
 cond (b_ (97:Int) a) (cond (b_ a (122:Int)) (some true) (cond (b_ (48:Int) a) (cond (b_ a (57:Int)) (some true) (some (bM a (45:Int)))) (some (bM a (45:Int))))) (cond (b_ (48:Int) a) (cond (b_ a (57:Int)) (some true) (some (bM a (45:Int)))) (some (bM a (45:Int))))
def zi (k:Nat):CT:=⟨149,[.d (.int .u8)],[],[⟨false,.d .bool,[]⟩],ue k⟩
abbrev vz:List Ty:=[.str,.int .i64]
def m_ (c:Option Bool) (d:Nat) (e:List UInt8→Int→Option Bool) (a:List UInt8) (b:Int):Option Bool:=
 cond (bN b (a.length:Int)) (bC (bT b a.length) ((ue d (zI a b)).bind fun f=>cond (!f) (some false) (e a (aQ .i64 b (1:Int))))) (c)
def cv (k:Nat) (a:List UInt8):Option Bool:=
 (dq k (a.length:Int) (1:Int) (16:Int)).bind fun c=>cond (!c) (some false) (share (some true) fun (b:Option Bool)=>iter (ts:=vz) (R:=Bool) k (m_ b) a (0:Int))
def dh (k:Nat):CT:=⟨111,[.d .str],[],[⟨false,.d .bool,[]⟩],cv k⟩
def yx (_k:Nat) (c:aB):Option Bool:=
 share (fun (a:aB) (i:Bool)=>share (fun (d:aB) (j:Bool)=>cond j (some false) (share (fun (f:aB) (g:Bool)=>cond g (some false) (cond (bM f.Kind (4:Int)) (some true) (cond (seq f.To ([]:List UInt8)) (some (bM f.cu (0:Int))) (some false)))) fun (e:aB→Bool→Option Bool)=>cond (!bM d.Kind (2:Int)) (e d (bN (0:Int) (d.Words.length:Int))) (e d false))) fun (b:aB→Bool→Option Bool)=>cond (!i) (cond (!bM a.bP (0:Int)) (b a true) (cond (!bM a.bW (0:Int)) (b a true) (cond (!bM a.Kind (1:Int)) (b a (!seq a.aY ([]:List UInt8))) (b a false)))) (cond (!bM a.Kind (1:Int)) (b a (!seq a.aY ([]:List UInt8))) (b a false))) fun (h:aB→Bool→Option Bool)=>cond (bM c.Kind (1:Int)) (h c true) (h c (bM c.Kind (3:Int)))
def FM (k:Nat):CT:=⟨188,[.d (.st 0)],[],[⟨false,.d .bool,[]⟩],yx k⟩
abbrev vA:List Ty:=[.str,.int .i64,.int .i64]
def na (g:Int→Option Int) (k:Nat) (h:List UInt8→Int→Int→Option Int) (a:List UInt8) (c:Int) (b:Int):Option Int:=
 cond (bN b (a.length:Int)) (share (fun (d:List UInt8) (i:Int) (e:Int) (j:Bool)=>cond j (some (-1:Int)) (bC (bT e d.length) (h d (bS .i64 (aQ .i64 (WO .i64 i (10:Int)) (yg .i64 (zI d e))) (48:Int)) (aQ .i64 e (1:Int))))) fun (f:List UInt8→Int→Int→Bool→Option Int)=>bC (bT b a.length) (cond (bN (zI a b) (48:Int)) (f a c b true) (bC (bT b a.length) (f a c b (bN (57:Int) (zI a b)))))) (g c)
def ot (k:Nat) (a:List UInt8):Option Int:=
 share (fun (f:List UInt8) (g:Bool)=>cond g (some (-1:Int)) (share (fun (c:Int)=>some c) fun (d:Int→Option Int)=>iter (ts:=vA) (R:=Int) k (na d) f (0:Int) (0:Int))) fun (b:List UInt8→Bool→Option Int)=>(dq k (a.length:Int) (1:Int) (7:Int)).bind fun e=>cond (!e) (b a true) (cond (bN (1:Int) (a.length:Int)) (bC (bT (0:Int) a.length) (b a (bM (zI a (0:Int)) (48:Int)))) (b a false))
def uH (k:Nat):CT:=⟨173,[.d .str],[],[⟨false,.d (.int .i64),[]⟩],ot k⟩
abbrev zJ:List Ty:=[.sl .str,.str,.int .i64]
def s7 (e:Option Bool) (f:Nat) (d:List (List UInt8)→List UInt8→Int→Option Bool) (a:List (List UInt8)) (c:List UInt8) (b:Int):Option Bool:=
 cond (bN b (a.length:Int)) (bC (bT b a.length) (cond (seq (nth ([]:List UInt8) a b) c) (some true) (d a c (aQ .i64 b (1:Int))))) (e)
def kr (k:Nat) (a:List (List UInt8)) (b:List UInt8):Option Bool:=
 share (some false) fun (c:Option Bool)=>iter (ts:=zJ) (R:=Bool) k (s7 c) a b (0:Int)
def qE (k:Nat):CT:=⟨171,[.d (.sl .str),.d .str],[],[⟨false,.d .bool,[]⟩],kr k⟩
abbrev vB:List Ty:=[.str,.st 0,.int .i64]
def ng (d:List UInt8→aB→Option Bool) (e:Nat) (f:List UInt8→aB→Int→Option Bool) (a:List UInt8) (c:aB) (b:Int):Option Bool:=
 cond (bN b (a.length:Int)) (bC (bT b a.length) ((dq e (yg .i64 (zI a b)) (33:Int) (126:Int)).bind fun g=>cond (!g) (some false) (f a c (aQ .i64 b (1:Int))))) (d a c)
def ll (k:Nat) (a:aB) (b:List UInt8):Option Bool:=
 cond (bM a.Kind (1:Int)) ((ot k b).bind fun c=>cond (b_ (0:Int) c) ((dq k c a.bP a.bW).bind fun f=>some f) (some false)) (cond (bM a.Kind (2:Int)) (cond (!seq b ([]:List UInt8)) ((kr k a.Words b).bind fun g=>some g) (some false)) (cond (bM a.Kind (3:Int)) (share (fun (d:List UInt8) (e:aB)=>cond (!seq d ([]:List UInt8)) ((dq k (d.length:Int) e.bP e.bW).bind fun h=>some h) (some false)) fun (i:List UInt8→aB→Option Bool)=>iter (ts:=vB) (R:=Bool) k (ng i) b a (0:Int)) (cond (bM a.Kind (4:Int)) ((cv k b).bind fun j=>some j) (some false))))
def oO (k:Nat):CT:=⟨145,[.d (.st 0),.d .str],[],[⟨false,.d .bool,[]⟩],ll k⟩
abbrev qF:List Ty:=[.sl .str,.int .i64]
def ji (d:Option Bool) (e:Nat) (f:List (List UInt8)→Int→Option Bool) (b:List (List UInt8)) (a:Int):Option Bool:=
 cond (bN a (b.length:Int)) (share (fun (g:List (List UInt8)) (h:Int) (i:Bool)=>cond i (some false) (f g (aQ .i64 h (1:Int)))) fun (c:List (List UInt8)→Int→Bool→Option Bool)=>bC (bT a b.length) ((cv e (nth ([]:List UInt8) b a)).bind fun j=>cond (!j) (c b a true) (cond (bN (0:Int) a) (bC (bT (bS .i64 a (1:Int)) b.length) (bC (bT a b.length) (c b a (!slt (nth ([]:List UInt8) b (bS .i64 a (1:Int))) (nth ([]:List UInt8) b a))))) (c b a false)))) (d)
def jM (k:Nat) (b:List (List UInt8)):Option Bool:=
 share (some true) fun (a:Option Bool)=>iter (ts:=qF) (R:=Bool) k (ji a) b (0:Int)
def pf (k:Nat):CT:=⟨144,[.d (.sl .str)],[],[⟨false,.d .bool,[]⟩],jM k⟩
abbrev wW:List Ty:=[.sl (.st 1),.str,.int .i64]
def oP (e:Option Int) (f:Nat) (d:List aC→List UInt8→Int→Option Int) (b:List aC) (c:List UInt8) (a:Int):Option Int:=
 cond (bN a (b.length:Int)) (bC (bT a b.length) (cond (seq (nth (default:aC) b a).Kind c) (some a) (d b c (aQ .i64 a (1:Int))))) (e)
def ku (k:Nat) (a:List aC) (b:List UInt8):Option Int:=
 share (some (-1:Int)) fun (c:Option Int)=>iter (ts:=wW) (R:=Int) k (oP c) a b (0:Int)
def mf (k:Nat):CT:=⟨135,[.d (.sl (.st 1)),.d .str],[],[⟨false,.d (.int .i64),[]⟩],ku k⟩
def qG (k:Nat) (d:List aC) (b:aB):Option Bool:=
 share (fun (e:List aC) (a:aB) (f:Bool)=>cond f (some false) (cond (bM a.Kind (1:Int)) (cond (b_ (0:Int) a.bP) (cond (b_ a.bP a.bW) (cond (b_ a.bW (1000000:Int)) (cond (seq a.aY ([]:List UInt8)) (some true) ((cv k a.aY).bind fun g=>some g)) (some false)) (some false)) (some false)) (cond (bM a.Kind (2:Int)) ((dq k (a.Words.length:Int) (1:Int) (6:Int)).bind fun h=>cond h ((jM k a.Words).bind fun i=>some i) (some false)) (cond (bM a.Kind (3:Int)) (cond (b_ (1:Int) a.bP) (cond (b_ a.bP a.bW) (some (b_ a.bW (40:Int))) (some false)) (some false)) (cond (bM a.Kind (4:Int)) ((ku k e a.To).bind fun j=>cond (b_ (0:Int) j) ((dq k a.cu (1:Int) (3:Int)).bind fun l=>cond l (cond (seq a.Default ([]:List UInt8)) (cond (!bM a.cu (2:Int)) (some true) (some (!a.cN))) (some false)) (some false)) (some false)) (some false)))))) fun (c:List aC→aB→Bool→Option Bool)=>(cv k b.Name).bind fun m=>cond (!m) (c d b true) ((yx k b).bind fun n=>cond (!n) (c d b true) (cond (!seq b.Default ([]:List UInt8)) ((ll k b b.Default).bind fun o=>c d b (!o)) (c d b false)))
def zK (k:Nat):CT:=⟨168,[.d (.sl (.st 1)),.d (.st 0)],[],[⟨false,.d .bool,[]⟩],qG k⟩
abbrev iR:List Ty:=[.sl (.st 1),.int .i64,.int .i64,.int .i64,.st 1]
def eP (f:List aC→Int→Int→aC→Option Bool) (h:Nat) (g:List aC→Int→Int→Int→aC→Option Bool) (d:List aC) (e:Int) (b:Int) (c:Int) (a:aC):Option Bool:=
 cond (bN c b) (bC (bT c a.aT.length) (bC (bT b a.aT.length) (cond (seq (nth (default:aB) a.aT c).Name (nth (default:aB) a.aT b).Name) (some false) (g d e b (aQ .i64 c (1:Int)) a)))) (f d e b a)
abbrev fe:List Ty:=[.sl (.st 1),.int .i64,.int .i64,.st 1]
def dF (f:List aC→Int→Option Bool) (d:Nat) (g:List aC→Int→Int→aC→Option Bool) (c:List aC) (e:Int) (a:Int) (b:aC):Option Bool:=
 cond (bN a (b.aT.length:Int)) (share (fun (h:List aC) (i:Int) (j:Int) (k:aC)=>g h i (aQ .i64 j (1:Int)) k) fun (l:List aC→Int→Int→aC→Option Bool)=>bC (bT a b.aT.length) ((qG d c (nth (default:aB) b.aT a)).bind fun m=>cond (!m) (some false) (iter (ts:=iR) (R:=Bool) d (eP l) c e a (0:Int) b))) (f c e)
abbrev fH:List Ty:=[.sl (.st 1),.int .i64]
def dO (e:Option Bool) (d:Nat) (f:List aC→Int→Option Bool) (b:List aC) (a:Int):Option Bool:=
 cond (bN a (b.length:Int)) (share (fun (g:List aC) (h:Int)=>f g (aQ .i64 h (1:Int))) fun (i:List aC→Int→Option Bool)=>bC (bT a b.length) (share (fun (j:List aC) (k:Int) (l:Bool) (m:aC)=>cond l (some false) (iter (ts:=fe) (R:=Bool) d (dF i) j k (0:Int) m)) fun (c:List aC→Int→Bool→aC→Option Bool)=>(cv d (nth (default:aC) b a).Kind).bind fun n=>cond (!n) (c b a true (nth (default:aC) b a)) (cond (bN (0:Int) a) (bC (bT (bS .i64 a (1:Int)) b.length) (cond (!slt (nth (default:aC) b (bS .i64 a (1:Int))).Kind (nth (default:aC) b a).Kind) (c b a true (nth (default:aC) b a)) (c b a (bN (6:Int) ((nth (default:aC) b a).aT.length:Int)) (nth (default:aC) b a)))) (c b a (bN (6:Int) ((nth (default:aC) b a).aT.length:Int)) (nth (default:aC) b a))))) (e)
def lX (k:Nat) (b:List aC):Option Bool:=
 cond (bN (6:Int) (b.length:Int)) (some false) (share (some true) fun (a:Option Bool)=>iter (ts:=fH) (R:=Bool) k (dO a) b (0:Int))
def vC (k:Nat):CT:=⟨140,[.d (.sl (.st 1))],[],[⟨false,.d .bool,[]⟩],lX k⟩
abbrev wX:List Ty:=[.sl (.st 0),.str,.int .i64]
def oQ (e:Option Int) (f:Nat) (d:List aB→List UInt8→Int→Option Int) (b:List aB) (c:List UInt8) (a:Int):Option Int:=
 cond (bN a (b.length:Int)) (bC (bT a b.length) (cond (seq (nth (default:aB) b a).Name c) (some a) (d b c (aQ .i64 a (1:Int))))) (e)
def dZ (k:Nat) (a:List aB) (b:List UInt8):Option Int:=
 share (some (-1:Int)) fun (c:Option Int)=>iter (ts:=wX) (R:=Int) k (oQ c) a b (0:Int)
def mg (k:Nat):CT:=⟨170,[.d (.sl (.st 0)),.d .str],[],[⟨false,.d (.int .i64),[]⟩],dZ k⟩
def kx (k:Nat) (a:List aB) (c:List UInt8):Option Bool:=
 (dZ k a c).bind fun b=>cond (b_ (0:Int) b) (bC (bT b a.length) (some (!bM (nth (default:aB) a b).Kind (4:Int)))) (some false)
def CQ (k:Nat):CT:=⟨169,[.d (.sl (.st 0)),.d .str],[],[⟨false,.d .bool,[]⟩],kx k⟩
def s8 (k:Nat) (c:List aC) (b:aD):Option Bool:=
 (ku k c b.Kind).bind fun d=>cond (bN d (0:Int)) (some false) (bC (bT d c.length) (share (fun (a:aD) (f:List aB) (l:Bool)=>cond l (some false) (share (fun (h:aD) (i:List aB) (m:Bool)=>cond m (some false) (cond (seq h.rN ([]:List UInt8)) (some true) ((dZ k i h.Field).bind fun j=>bC (bT j i.length) ((ll k (nth (default:aB) i j) h.rN).bind fun n=>some n)))) fun (g:aD→List aB→Bool→Option Bool)=>cond (seq a.cT a.Field) (g a f true) (cond (seq a.cA a.Field) (g a f true) (cond (seq a.cT ([]:List UInt8)) (cond (!seq a.Is ([]:List UInt8)) (g a f true) (g a f (beq (seq a.rN ([]:List UInt8)) (seq a.cA ([]:List UInt8))))) (g a f (beq (seq a.rN ([]:List UInt8)) (seq a.cA ([]:List UInt8)))))))) fun (e:aD→List aB→Bool→Option Bool)=>(kx k (nth (default:aC) c d).aT b.Field).bind fun o=>cond (!o) (e b (nth (default:aC) c d).aT true) (cond (!seq b.cT ([]:List UInt8)) ((kx k (nth (default:aC) c d).aT b.cT).bind fun p=>cond (!p) (e b (nth (default:aC) c d).aT true) (cond (!seq b.cA ([]:List UInt8)) ((kx k (nth (default:aC) c d).aT b.cA).bind fun q=>e b (nth (default:aC) c d).aT (!q)) (e b (nth (default:aC) c d).aT false))) (cond (!seq b.cA ([]:List UInt8)) ((kx k (nth (default:aC) c d).aT b.cA).bind fun r=>e b (nth (default:aC) c d).aT (!r)) (e b (nth (default:aC) c d).aT false)))))
def BL (k:Nat):CT:=⟨141,[.d (.sl (.st 1)),.d (.st 2)],[],[⟨false,.d .bool,[]⟩],s8 k⟩
abbrev wY:List Ty:=[.sl (.st 2),.str,.str,.sl .str,.int .i64]
def oR (q:Option Bool) (g:Nat) (r:List aD→List UInt8→List UInt8→List (List UInt8)→Int→Option Bool) (a:List aD) (e:List UInt8) (f:List UInt8) (c:List (List UInt8)) (b:Int):Option Bool:=
 cond (bN b (a.length:Int)) (bC (bT b a.length) (share (fun (h:List aD) (i:List UInt8) (j:List UInt8) (k:List (List UInt8)) (l:Int) (m:Bool)=>cond m (some false) (r h i j k (aQ .i64 l (1:Int)))) fun (d:List aD→List UInt8→List UInt8→List (List UInt8)→Int→Bool→Option Bool)=>cond (seq (nth (default:aD) a b).Kind e) (cond (seq (nth (default:aD) a b).Field f) (cond (!seq (nth (default:aD) a b).cT ([]:List UInt8)) ((kr g c (nth (default:aD) a b).cT).bind fun n=>cond (!n) (d a e f c b true) (cond (!seq (nth (default:aD) a b).cA ([]:List UInt8)) ((kr g c (nth (default:aD) a b).cA).bind fun o=>d a e f c b (!o)) (d a e f c b false))) (cond (!seq (nth (default:aD) a b).cA ([]:List UInt8)) ((kr g c (nth (default:aD) a b).cA).bind fun p=>d a e f c b (!p)) (d a e f c b false))) (d a e f c b false)) (d a e f c b false))) (q)
def qH (k:Nat) (b:List aD) (c:List UInt8) (d:List UInt8) (e:List (List UInt8)):Option Bool:=
 share (some true) fun (a:Option Bool)=>iter (ts:=wY) (R:=Bool) k (oR a) b c d e (0:Int)
def wZ (k:Nat):CT:=⟨172,[.d (.sl (.st 2)),.d .str,.d .str,.d (.sl .str)],[],[⟨false,.d .bool,[]⟩],qH k⟩
abbrev sB:List Ty:=[.sl (.st 2),.st 1,.int .i64,.int .i64,.sl .str]
def ou (g:List aD→aC→Int→List (List UInt8)→Option (List (List UInt8))) (h:Nat) (n:List aD→aC→Int→Int→List (List UInt8)→Option (List (List UInt8))) (d:List aD) (a:aC) (e:Int) (b:Int) (c:List (List UInt8)):Option (List (List UInt8)):=
 cond (bN b (a.aT.length:Int)) (bC (bT b a.aT.length) (share (fun (i:List aD) (j:aC) (k:Int) (o:Int) (l:List UInt8) (p:Bool) (f:List (List UInt8))=>cond p (bC (uF (f.length+([l]:List (List UInt8)).length) 16) (g i j k (f++([l]:List (List UInt8))))) (n i j k (aQ .i64 o (1:Int)) f)) fun (m:List aD→aC→Int→Int→List UInt8→Bool→List (List UInt8)→Option (List (List UInt8)))=>(kr h c (nth (default:aB) a.aT b).Name).bind fun q=>cond (!q) ((qH h d a.Kind (nth (default:aB) a.aT b).Name c).bind fun r=>m d a e b (nth (default:aB) a.aT b).Name r c) (m d a e b (nth (default:aB) a.aT b).Name false c))) (g d a e c)
abbrev zL:List Ty:=[.sl (.st 2),.st 1,.int .i64,.sl .str]
def s9 (d:List (List UInt8)→Option (List (List UInt8))) (e:Nat) (f:List aD→aC→Int→List (List UInt8)→Option (List (List UInt8))) (g:List aD) (a:aC) (b:Int) (c:List (List UInt8)):Option (List (List UInt8)):=
 cond (bN b (a.aT.length:Int)) (share (fun (h:List aD) (i:aC) (j:Int) (k:List (List UInt8))=>f h i (aQ .i64 j (1:Int)) k) fun (l:List aD→aC→Int→List (List UInt8)→Option (List (List UInt8)))=>iter (ts:=sB) (R:=List (List UInt8)) e (ou l) g a b (0:Int) c) (d c)
def AN (k:Nat) (c:aC) (d:List aD):Option (List (List UInt8)):=
 share (fun (a:List (List UInt8))=>some a) fun (b:List (List UInt8)→Option (List (List UInt8)))=>iter (ts:=zL) (R:=List (List UInt8)) k (s9 b) d c (0:Int) ([]:List (List UInt8))
def HH (k:Nat):CT:=⟨142,[.d (.st 1),.d (.sl (.st 2))],[],[⟨false,.d (.sl .str),[]⟩],AN k⟩
abbrev qI:List Ty:=[.sl (.st 1),.sl (.st 2),.int .i64]
def jk (d:Option Bool) (e:Nat) (f:List aC→List aD→Int→Option Bool) (a:List aC) (c:List aD) (b:Int):Option Bool:=
 cond (bN b (a.length:Int)) (bC (bT b a.length) ((AN e (nth (default:aC) a b) c).bind fun g=>bC (bT b a.length) (cond (!bM (g.length:Int) ((nth (default:aC) a b).aT.length:Int)) (some false) (f a c (aQ .i64 b (1:Int)))))) (d)
abbrev qJ:List Ty:=[.sl (.st 1),.sl (.st 2),.int .i64]
def jl (d:List aC→List aD→Option Bool) (e:Nat) (f:List aC→List aD→Int→Option Bool) (c:List aC) (a:List aD) (b:Int):Option Bool:=
 cond (bN b (a.length:Int)) (bC (bT b a.length) ((s8 e c (nth (default:aD) a b)).bind fun g=>cond (!g) (some false) (f c a (aQ .i64 b (1:Int))))) (d c a)
def nh (k:Nat) (a:List aC) (b:List aD):Option Bool:=
 share (fun (i:List aC) (j:List aD) (l:Bool)=>cond l (some false) (share (fun (c:List aC) (d:List aD)=>share (some true) fun (e:Option Bool)=>iter (ts:=qI) (R:=Bool) k (jk e) c d (0:Int)) fun (f:List aC→List aD→Option Bool)=>iter (ts:=qJ) (R:=Bool) k (jl f) i j (0:Int))) fun (g:List aC→List aD→Bool→Option Bool)=>(lX k a).bind fun h=>cond (!h) (g a b true) (g a b (bN (12:Int) (b.length:Int)))
def w6 (k:Nat):CT:=⟨103,[.d (.sl (.st 1)),.d (.sl (.st 2))],[],[⟨false,.d .bool,[]⟩],nh k⟩
abbrev yA:List Ty:=[.sl (.st 3),.str,.int .i64]
def qK (e:Option Bool) (f:Nat) (d:List aH→List UInt8→Int→Option Bool) (a:List aH) (c:List UInt8) (b:Int):Option Bool:=
 cond (bN b (a.length:Int)) (bC (bT b a.length) (cond (seq (nth (default:aH) a b).Name c) (some true) (d a c (aQ .i64 b (1:Int))))) (e)
def mh (k:Nat) (a:List aH) (b:List UInt8):Option Bool:=
 share (some false) fun (c:Option Bool)=>iter (ts:=yA) (R:=Bool) k (qK c) a b (0:Int)
def s_ (k:Nat):CT:=⟨106,[.d (.sl (.st 3)),.d .str],[],[⟨false,.d .bool,[]⟩],mh k⟩
abbrev yB:List Ty:=[.sl (.st 3),.str,.int .i64]
def qL (e:Option (List UInt8)) (f:Nat) (d:List aH→List UInt8→Int→Option (List UInt8)) (a:List aH) (c:List UInt8) (b:Int):Option (List UInt8):=
 cond (bN b (a.length:Int)) (bC (bT b a.length) (cond (seq (nth (default:aH) a b).Name c) (bC (bT b a.length) (some (nth (default:aH) a b).gC)) (d a c (aQ .i64 b (1:Int))))) (e)
def uf (k:Nat) (a:List aH) (b:List UInt8):Option (List UInt8):=
 share (some ([]:List UInt8)) fun (c:Option (List UInt8))=>iter (ts:=yB) (R:=List UInt8) k (qL c) a b (0:Int)
def zj (k:Nat):CT:=⟨143,[.d (.sl (.st 3)),.d .str],[],[⟨false,.d .str,[]⟩],uf k⟩
abbrev pQ:List Ty:=[.sl (.st 3),.int .i64,.str,.int .i64]
def iA (d:List aH→Int→List UInt8→Option Bool) (f:Nat) (g:List aH→Int→List UInt8→Int→Option Bool) (a:List aH) (c:Int) (b:List UInt8) (e:Int):Option Bool:=
 cond (b_ e (4:Int)) (cond (!seq b ([]:List UInt8)) ((uf f a b).bind fun h=>g a c h (aQ .i64 e (1:Int))) (d a c b)) (d a c b)
abbrev d_:List Ty:=[.sl (.st 3),.int .i64]
def dA (e:Option Bool) (d:Nat) (f:List aH→Int→Option Bool) (a:List aH) (b:Int):Option Bool:=
 cond (bN b (a.length:Int)) (share (fun (g:List aH) (h:Int)=>f g (aQ .i64 h (1:Int))) fun (i:List aH→Int→Option Bool)=>bC (bT b a.length) (share (fun (j:List aH) (k:Int) (l:Bool) (m:aH)=>cond l (some false) (share (fun (n:List aH) (o:Int) (p:List UInt8)=>cond (!seq p ([]:List UInt8)) (some false) (i n o)) fun (q:List aH→Int→List UInt8→Option Bool)=>iter (ts:=pQ) (R:=Bool) d (iA q) j k m.Name (0:Int))) fun (c:List aH→Int→Bool→aH→Option Bool)=>(cv d (nth (default:aH) a b).Name).bind fun r=>cond (!r) (c a b true (nth (default:aH) a b)) (cond (bN (0:Int) b) (bC (bT (bS .i64 b (1:Int)) a.length) (cond (!slt (nth (default:aH) a (bS .i64 b (1:Int))).Name (nth (default:aH) a b).Name) (c a b true (nth (default:aH) a b)) (cond (!seq (nth (default:aH) a b).gC ([]:List UInt8)) ((mh d a (nth (default:aH) a b).gC).bind fun s=>c a b (!s) (nth (default:aH) a b)) (c a b false (nth (default:aH) a b))))) (cond (!seq (nth (default:aH) a b).gC ([]:List UInt8)) ((mh d a (nth (default:aH) a b).gC).bind fun t=>c a b (!t) (nth (default:aH) a b)) (c a b false (nth (default:aH) a b)))))) (e)
def jN (k:Nat) (b:List aH):Option Bool:=
 cond (bN (12:Int) (b.length:Int)) (some false) (share (some true) fun (a:Option Bool)=>iter (ts:=d_) (R:=Bool) k (dA a) b (0:Int))
def w7 (k:Nat):CT:=⟨104,[.d (.sl (.st 3))],[],[⟨false,.d .bool,[]⟩],jN k⟩
def qM (k:Nat) (a:aL):Option Bool:=
 (nh k a.bX a.gH).bind fun b=>cond b ((jN k a.dS).bind fun c=>some c) (some false)
def zM (k:Nat):CT:=⟨71,[.d (.st 4)],[],[⟨false,.d .bool,[]⟩],qM k⟩
def ff (k:Nat) (a:List aC) (c:aA):Option ((List aB)×Bool):=
 (ku k a c.Kind).bind fun b=>share (fun (d:List aC) (e:Int) (g:Bool)=>cond g (some (([]:List aB),false)) (bC (bT e d.length) (some ((nth (default:aC) d e).aT,true)))) fun (f:List aC→Int→Bool→Option ((List aB)×Bool))=>cond (bN b (0:Int)) (f a b true) (bC (bT b a.length) (f a b (!bM ((nth (default:aC) a b).aT.length:Int) (c.aN.length:Int))))
def fV (k:Nat):CT:=⟨98,[.d (.sl (.st 1)),.d (.st 5)],[],[⟨false,.n9 [.d (.sl (.st 0)),.d .bool],[]⟩],ff k⟩
abbrev ky:List Ty:=[.st 5,.sl (.st 0),.int .i64]
def hY (e:Option (Int×Int)) (f:Nat) (g:aA→List aB→Int→Option (Int×Int)) (c:aA) (b:List aB) (a:Int):Option (Int×Int):=
 cond (bN a (b.length:Int)) (share (fun (h:aA) (i:List aB) (j:Int)=>g h i (aQ .i64 j (1:Int))) fun (d:aA→List aB→Int→Option (Int×Int))=>bC (bT a c.aN.length) (cond (seq (nth ([]:List UInt8) c.aN a) ([]:List UInt8)) (bC (bT a b.length) (cond (nth (default:aB) b a).cN (some ((2:Int),a)) (d c b a))) (bC (bT a b.length) (bC (bT a c.aN.length) ((ll f (nth (default:aB) b a) (nth ([]:List UInt8) c.aN a)).bind fun k=>cond (!k) (some ((3:Int),a)) (d c b a)))))) (e)
def vV (k:Nat) (m:List aC) (a:aA):Option (Int×Int):=
 (ff k m a).bind fun c=>share (fun (d:aA) (e:List aB) (f:Bool)=>cond f (some ((1:Int),(0:Int))) (share (some ((0:Int),(0:Int))) fun (g:Option (Int×Int))=>iter (ts:=ky) (R:=Int×Int) k (hY g) d e (0:Int))) fun (b:aA→List aB→Bool→Option (Int×Int))=>cond (!c.2) (b a c.1 true) ((cv k a.Name).bind fun h=>cond (!h) (b a c.1 true) ((cv k a.aX).bind fun i=>cond (!i) (b a c.1 true) (cond (bN (3:Int) (a.b6.length:Int)) (b a c.1 true) ((jM k a.b6).bind fun j=>cond (!j) (b a c.1 true) ((dq k a.Version (0:Int) (1000000:Int)).bind fun l=>b a c.1 (!l))))))
def CR (k:Nat):CT:=⟨105,[.d (.sl (.st 1)),.d (.st 5)],[],[⟨false,.n9 [.d (.int .i64),.d (.int .i64)],[]⟩],vV k⟩
def pg (_k:Nat) (a:List UInt8) (b:List UInt8):Option Int:=
 cond (slt a b) (some (-1:Int)) (cond (!(slt a b||seq a b)) (some (1:Int)) (some (0:Int)))
def AO (k:Nat):CT:=⟨146,[.d .str,.d .str],[],[⟨false,.d (.int .i64),[]⟩],pg k⟩
def sC (k:Nat) (a:List UInt8) (c:List UInt8) (b:List UInt8) (d:List UInt8):Option Int:=
 (pg k a b).bind fun e=>cond (!bM e (0:Int)) ((pg k a b).bind fun f=>some f) ((pg k c d).bind fun g=>some g)
def vW (k:Nat):CT:=⟨107,[.d .str,.d .str,.d .str,.d .str],[],[⟨false,.d (.int .i64),[]⟩],sC k⟩
def RT (_k:Nat) (a:aA):Option aA:=
 bC (uF (([]:List (List UInt8)).length+a.aN.length) 16) (bC (uF (([]:List (List UInt8)).length+a.b6.length) 16) (some (⟨a.Kind,a.Name,a.aX,(([]:List (List UInt8))++a.aN),a.Ending,(([]:List (List UInt8))++a.b6),a.Version⟩:aA)))
def Ou (k:Nat):CT:=⟨174,[.d (.st 5)],[],[⟨false,.d (.st 5),[]⟩],RT k⟩
def ov (_k:Nat) (a:aA):Option ((List UInt8)×(List UInt8)×(List UInt8)×Bool×Int×(List (List UInt8))×(List (List UInt8))):=
 bC (uF (([]:List (List UInt8)).length+a.aN.length) 16) (bC (uF (([]:List (List UInt8)).length+a.b6.length) 16) (some (a.Kind,a.Name,a.aX,a.Ending,a.Version,(([]:List (List UInt8))++a.aN),(([]:List (List UInt8))++a.b6))))
def uI (k:Nat):CT:=⟨174,[.d (.st 5)],[],[⟨false,.agg [.d .str,.d .str,.d .str,.ow 0,.d .bool,.ow 1,.d (.int .i64)],[.row .str .ms,.row .str .ms]⟩],ov k⟩
abbrev yC:List Ty:=[.sl (.st 0),.int .i64,.st 5,.str,.str,.str,.bool,.int .i64,.sl .str,.sl .str]
def qN (l:aA→List UInt8→List UInt8→List UInt8→Bool→Int→List (List UInt8)→List (List UInt8)→Option aA) (x:Nat) (m:List aB→Int→aA→List UInt8→List UInt8→List UInt8→Bool→Int→List (List UInt8)→List (List UInt8)→Option aA) (c:List aB) (a:Int) (d:aA) (e:List UInt8) (f:List UInt8) (g:List UInt8) (h:Bool) (i:Int) (b:List (List UInt8)) (j:List (List UInt8)):Option aA:=
 cond (bN a (c.length:Int)) (share (fun (n:List aB) (o:Int) (p:aA) (q:List UInt8) (r:List UInt8) (s:List UInt8) (t:Bool) (u:Int) (v:List (List UInt8)) (w:List (List UInt8))=>m n (aQ .i64 o (1:Int)) p q r s t u v w) fun (k:List aB→Int→aA→List UInt8→List UInt8→List UInt8→Bool→Int→List (List UInt8)→List (List UInt8)→Option aA)=>bC (bT a b.length) (cond (seq (nth ([]:List UInt8) b a) ([]:List UInt8)) (bC (bT a c.length) (bC (bT a b.length) (k c a d e f g h i (g8 b a (nth (default:aB) c a).Default) j))) (k c a d e f g h i b j))) (l d e f g h i b j)
def yD (k:Nat) (m:List aC) (b:aA):Option aA:=
 (ov k b).bind fun a=>(ff k m b).bind fun c=>cond (!c.2) (some (⟨a.1,a.2.1,a.2.2.1,a.2.2.2.2.2.1,a.2.2.2.1,a.2.2.2.2.2.2,a.2.2.2.2.1⟩:aA)) (share (fun (n:aA) (d:List UInt8) (e:List UInt8) (f:List UInt8) (g:Bool) (h:Int) (i:List (List UInt8)) (j:List (List UInt8))=>some (⟨d,e,f,i,g,j,h⟩:aA)) fun (l:aA→List UInt8→List UInt8→List UInt8→Bool→Int→List (List UInt8)→List (List UInt8)→Option aA)=>iter (ts:=yC) (R:=aA) k (qN l) c.1 (0:Int) (⟨([]:List UInt8),([]:List UInt8),([]:List UInt8),[],false,[],(0:Int)⟩:aA) a.1 a.2.1 a.2.2.1 a.2.2.2.1 a.2.2.2.2.1 a.2.2.2.2.2.1 a.2.2.2.2.2.2)
def FN (k:Nat):CT:=⟨148,[.d (.sl (.st 1)),.d (.st 5)],[],[⟨false,.d (.st 5),[]⟩],yD k⟩
abbrev fo:List Ty:=[.sl (.st 0),.sl (.st 2),.str,.st 5,.int .i64]
def ea (v:List aB→List UInt8→aA→Option (List UInt8)) (m:Nat) (w:List aB→List aD→List UInt8→aA→Int→Option (List UInt8)) (d:List aB) (a:List aD) (e:List UInt8) (c:aA) (b:Int):Option (List UInt8):=
 cond (bN b (a.length:Int)) (share (fun (n:List aB) (o:List aD) (p:List UInt8) (q:aA) (r:Int)=>w n o p q (aQ .i64 r (1:Int))) fun (f:List aB→List aD→List UInt8→aA→Int→Option (List UInt8))=>bC (bT b a.length) (share (fun (j:List aB) (s:List aD) (t:List UInt8) (g:aA) (u:Int) (h:aD)=>cond (seq h.cA ([]:List UInt8)) (some h.rN) ((dZ m j h.cA).bind fun i=>bC (bT i g.aN.length) (cond (!seq (nth ([]:List UInt8) g.aN i) ([]:List UInt8)) (some (nth ([]:List UInt8) g.aN i)) (f j s t g u)))) fun (k:List aB→List aD→List UInt8→aA→Int→aD→Option (List UInt8))=>cond (!seq (nth (default:aD) a b).Kind c.Kind) (f d a e c b) (cond (!seq (nth (default:aD) a b).Field e) (f d a e c b) (cond (!seq (nth (default:aD) a b).cT ([]:List UInt8)) ((dZ m d (nth (default:aD) a b).cT).bind fun l=>bC (bT l c.aN.length) (cond (!seq (nth ([]:List UInt8) c.aN l) (nth (default:aD) a b).Is) (f d a e c b) (k d a e c b (nth (default:aD) a b)))) (k d a e c b (nth (default:aD) a b)))))) (v d e c)
def qO (k:Nat) (f:List aB) (g:List aD) (h:aA) (i:List UInt8):Option (List UInt8):=
 share (fun (c:List aB) (d:List UInt8) (a:aA)=>(dZ k c d).bind fun b=>bC (bT b a.aN.length) (some (nth ([]:List UInt8) a.aN b))) fun (e:List aB→List UInt8→aA→Option (List UInt8))=>iter (ts:=fo) (R:=List UInt8) k (ea e) f g i h (0:Int)
def zN (k:Nat):CT:=⟨175,[.d (.sl (.st 0)),.d (.sl (.st 2)),.d (.st 5),.d .str],[],[⟨false,.d .str,[]⟩],qO k⟩
abbrev ph:List Ty:=[.sl (.st 2),.int .i64,.int .i64,.st 1,.sl .str]
def kW (g:List aD→Int→aC→List (List UInt8)→Option (List (List UInt8))) (h:Nat) (n:List aD→Int→Int→aC→List (List UInt8)→Option (List (List UInt8))) (d:List aD) (e:Int) (b:Int) (a:aC) (c:List (List UInt8)):Option (List (List UInt8)):=
 cond (bN b (a.aT.length:Int)) (bC (bT b a.aT.length) (share (fun (i:List aD) (j:Int) (o:Int) (k:List UInt8) (p:Bool) (l:aC) (f:List (List UInt8))=>cond p (bC (uF (f.length+([k]:List (List UInt8)).length) 16) (g i j l (f++([k]:List (List UInt8))))) (n i j (aQ .i64 o (1:Int)) l f)) fun (m:List aD→Int→Int→List UInt8→Bool→aC→List (List UInt8)→Option (List (List UInt8)))=>(kr h c (nth (default:aB) a.aT b).Name).bind fun q=>cond (!q) ((qH h d a.Kind (nth (default:aB) a.aT b).Name c).bind fun r=>m d e b (nth (default:aB) a.aT b).Name r a c) (m d e b (nth (default:aB) a.aT b).Name false a c))) (g d e a c)
abbrev w8:List Ty:=[.sl (.st 2),.int .i64,.st 1,.sl .str]
def oS (d:List (List UInt8)→Option (List (List UInt8))) (e:Nat) (f:List aD→Int→aC→List (List UInt8)→Option (List (List UInt8))) (g:List aD) (a:Int) (b:aC) (c:List (List UInt8)):Option (List (List UInt8)):=
 cond (bN a (b.aT.length:Int)) (share (fun (h:List aD) (i:Int) (j:aC) (k:List (List UInt8))=>f h (aQ .i64 i (1:Int)) j k) fun (l:List aD→Int→aC→List (List UInt8)→Option (List (List UInt8)))=>iter (ts:=ph) (R:=List (List UInt8)) e (kW l) g a (0:Int) b c) (d c)
def vX (k:Nat) (c:aC) (d:List aD):Option (List (List UInt8)):=
 share (fun (a:List (List UInt8))=>some a) fun (b:List (List UInt8)→Option (List (List UInt8)))=>iter (ts:=w8) (R:=List (List UInt8)) k (oS b) d (0:Int) c ([]:List (List UInt8))
def CS (k:Nat):CT:=⟨142,[.d (.st 1),.d (.sl (.st 2))],[],[⟨false,.ow 0,[.row .str .ms]⟩],vX k⟩
abbrev vD:List Ty:=[.sl (.st 2),.sl (.st 0),.int .i64,.st 5,.str,.str,.str,.bool,.int .i64,.sl .str,.sl .str,.sl .str]
def ni (o:aA→List UInt8→List UInt8→List UInt8→Bool→Int→List (List UInt8)→List (List UInt8)→Option aA) (k:Nat) (p:List aD→List aB→Int→aA→List UInt8→List UInt8→List UInt8→Bool→Int→List (List UInt8)→List (List UInt8)→List (List UInt8)→Option aA) (l:List aD) (d:List aB) (a:Int) (m:aA) (e:List UInt8) (f:List UInt8) (g:List UInt8) (h:Bool) (i:Int) (b:List (List UInt8)) (c:List (List UInt8)) (j:List (List UInt8)):Option aA:=
 cond (bN a (b.length:Int)) (bC (bT a b.length) ((dZ k d (nth ([]:List UInt8) b a)).bind fun n=>bC (bT a b.length) ((qO k d l (⟨e,f,g,c,h,j,i⟩:aA) (nth ([]:List UInt8) b a)).bind fun q=>bC (bT n c.length) (p l d (aQ .i64 a (1:Int)) m e f g h i b (g8 c n q) j)))) (o m e f g h i c j)
def tb (k:Nat) (b:List aC) (d:List aD) (c:aA):Option aA:=
 (ov k c).bind fun a=>(ff k b c).bind fun e=>cond (!e.2) (some (⟨a.1,a.2.1,a.2.2.1,a.2.2.2.2.2.1,a.2.2.2.1,a.2.2.2.2.2.2,a.2.2.2.2.1⟩:aA)) ((ku k b c.Kind).bind fun f=>bC (bT f b.length) ((vX k (nth (default:aC) b f) d).bind fun p=>share (fun (q:aA) (g:List UInt8) (h:List UInt8) (i:List UInt8) (j:Bool) (l:Int) (m:List (List UInt8)) (n:List (List UInt8))=>some (⟨g,h,i,m,j,n,l⟩:aA)) fun (o:aA→List UInt8→List UInt8→List UInt8→Bool→Int→List (List UInt8)→List (List UInt8)→Option aA)=>iter (ts:=vD) (R:=aA) k (ni o) d e.1 (0:Int) (⟨([]:List UInt8),([]:List UInt8),([]:List UInt8),[],false,[],(0:Int)⟩:aA) a.1 a.2.1 a.2.2.1 a.2.2.2.1 a.2.2.2.2.1 p a.2.2.2.2.2.1 a.2.2.2.2.2.2))
def BM (k:Nat):CT:=⟨147,[.d (.sl (.st 1)),.d (.sl (.st 2)),.d (.st 5)],[],[⟨false,.d (.st 5),[]⟩],tb k⟩
def td (k:Nat) (a:List aC) (b:List aD) (c:aA):Option aA:=
 (yD k a c).bind fun d=>(tb k a b d).bind fun e=>some e
def BN (k:Nat):CT:=⟨109,[.d (.sl (.st 1)),.d (.sl (.st 2)),.d (.st 5)],[],[⟨false,.d (.st 5),[]⟩],td k⟩
abbrev qP:List Ty:=[.sl .str,.sl .str,.int .i64]
def jm (e:Option Bool) (f:Nat) (d:List (List UInt8)→List (List UInt8)→Int→Option Bool) (b:List (List UInt8)) (c:List (List UInt8)) (a:Int):Option Bool:=
 cond (bN a (b.length:Int)) (bC (bT a b.length) (bC (bT a c.length) (cond (!seq (nth ([]:List UInt8) b a) (nth ([]:List UInt8) c a)) (some false) (d b c (aQ .i64 a (1:Int)))))) (e)
def nj (k:Nat) (a:List (List UInt8)) (b:List (List UInt8)):Option Bool:=
 cond (!bM (a.length:Int) (b.length:Int)) (some false) (share (some true) fun (c:Option Bool)=>iter (ts:=qP) (R:=Bool) k (jm c) a b (0:Int))
def w9 (k:Nat):CT:=⟨108,[.d (.sl .str),.d (.sl .str)],[],[⟨false,.d .bool,[]⟩],nj k⟩
abbrev BO:List Ty:=[.str,.str,.st 10,.int .i64]
def vY (g:Option Int) (m:Nat) (h:List UInt8→List UInt8→aG→Int→Option Int) (c:List UInt8) (d:List UInt8) (a:aG) (b:Int):Option Int:=
 cond (bN b (a.aK.length:Int)) (share (fun (i:List UInt8) (j:List UInt8) (k:aG) (e:Int) (l:Bool)=>cond l (some e) (h i j k (aQ .i64 e (1:Int)))) fun (f:List UInt8→List UInt8→aG→Int→Bool→Option Int)=>bC (bT b a.aK.length) (cond (seq (nth (default:aA) a.aK b).Kind c) (bC (bT b a.aK.length) (f c d a b (seq (nth (default:aA) a.aK b).Name d))) (f c d a b false))) (g)
def Ek (k:Nat) (b:aG) (c:List UInt8) (d:List UInt8):Option Int:=
 share (some (-1:Int)) fun (a:Option Int)=>iter (ts:=BO) (R:=Int) k (vY a) c d b (0:Int)
def KO (k:Nat):CT:=⟨110,[.d (.st 10),.d .str,.d .str],[],[⟨false,.d (.int .i64),[]⟩],Ek k⟩
abbrev fJ:List Ty:=[.st 4,.st 10,.int .i64,.sl (.st 0),.int .i64,.st 5]
def dP (h:aL→aG→Int→Option Bool) (i:Nat) (j:aL→aG→Int→List aB→Int→aA→Option Bool) (e:aL) (d:aG) (f:Int) (b:List aB) (a:Int) (c:aA):Option Bool:=
 cond (bN a (b.length:Int)) (share (fun (k:aL) (l:aG) (m:Int) (n:List aB) (o:Int) (p:Bool) (q:aA)=>cond p (some false) (j k l m n (aQ .i64 o (1:Int)) q)) fun (g:aL→aG→Int→List aB→Int→Bool→aA→Option Bool)=>bC (bT a b.length) (cond (bM (nth (default:aB) b a).Kind (4:Int)) (bC (bT a c.aN.length) (cond (!seq (nth ([]:List UInt8) c.aN a) ([]:List UInt8)) (bC (bT a b.length) (bC (bT a c.aN.length) ((Ek i d (nth (default:aB) b a).To (nth ([]:List UInt8) c.aN a)).bind fun r=>g e d f b a (bN r (0:Int)) c))) (g e d f b a false c))) (g e d f b a false c))) (h e d f)
abbrev ec:List Ty:=[.st 4,.st 10,.int .i64]
def dB (m:Option Bool) (c:Nat) (n:aL→aG→Int→Option Bool) (f:aL) (a:aG) (b:Int):Option Bool:=
 cond (bN b (a.aK.length:Int)) (share (fun (o:aL) (p:aG) (q:Int)=>n o p (aQ .i64 q (1:Int))) fun (r:aL→aG→Int→Option Bool)=>bC (bT b a.aK.length) ((vV c f.bX (nth (default:aA) a.aK b)).bind fun s=>share (fun (k:aL) (e:aG) (d:Int) (t:Bool) (g:aA)=>cond t (some false) (share (fun (h:aL) (u:aG) (v:Int) (w:Bool) (i:aA)=>cond w (some false) ((td c h.bX h.gH i).bind fun x=>(nj c x.aN i.aN).bind fun y=>cond (!y) (some false) ((ff c h.bX i).bind fun z=>iter (ts:=fJ) (R:=Bool) c (dP r) h u v z.1 (0:Int) i))) fun (l:aL→aG→Int→Bool→aA→Option Bool)=>cond (bN (0:Int) d) (bC (bT (bS .i64 d (1:Int)) e.aK.length) (bC (bT (bS .i64 d (1:Int)) e.aK.length) ((sC c (nth (default:aA) e.aK (bS .i64 d (1:Int))).Kind (nth (default:aA) e.aK (bS .i64 d (1:Int))).Name g.Kind g.Name).bind fun A=>l k e d (b_ (0:Int) A) g))) (l k e d false g))) fun (j:aL→aG→Int→Bool→aA→Option Bool)=>cond (!bM s.1 (0:Int)) (j f a b true (nth (default:aA) a.aK b)) ((mh c f.dS (nth (default:aA) a.aK b).aX).bind fun B=>cond (!B) (j f a b true (nth (default:aA) a.aK b)) ((dq c (nth (default:aA) a.aK b).Version (1:Int) a.Ei).bind fun C=>j f a b (!C) (nth (default:aA) a.aK b))))) (m)
def nk (k:Nat) (c:aL) (b:aG):Option Bool:=
 cond (bN (40:Int) (b.aK.length:Int)) (some false) (share (some true) fun (a:Option Bool)=>iter (ts:=ec) (R:=Bool) k (dB a) c b (0:Int))
def w_ (k:Nat):CT:=⟨73,[.d (.st 4),.d (.st 10)],[],[⟨false,.d .bool,[]⟩],nk k⟩
abbrev n4:List Ty:=[.st 6,.int .i64]
def jO (c:Option Bool) (d:Nat) (e:a_→Int→Option Bool) (a:a_) (b:Int):Option Bool:=
 cond (bN b (a.cP.length:Int)) (bC (bT b a.cP.length) ((ue d (zI a.cP b)).bind fun f=>cond (!f) (some false) (e a (aQ .i64 b (1:Int))))) (c)
abbrev n5:List Ty:=[.st 6,.int .i64]
def jP (d:a_→Option Bool) (e:Nat) (f:a_→Int→Option Bool) (a:a_) (b:Int):Option Bool:=
 cond (bN b (a.cw.length:Int)) (share (fun (g:a_) (h:Int) (i:Bool)=>cond i (some false) (f g (aQ .i64 h (1:Int)))) fun (c:a_→Int→Bool→Option Bool)=>bC (bT b a.cw.length) ((dq e (nth (0:Int) a.cw b) (1:Int) (5:Int)).bind fun j=>cond (!j) (c a b true) (cond (bN (0:Int) b) (bC (bT (bS .i64 b (1:Int)) a.cw.length) (bC (bT b a.cw.length) (c a b (b_ (nth (0:Int) a.cw b) (nth (0:Int) a.cw (bS .i64 b (1:Int))))))) (c a b false)))) (d a)
def iS (k:Nat) (a:a_):Option Bool:=
 share (fun (c:a_) (d:Bool)=>cond d (some false) (share (fun (e:a_)=>share (some true) fun (f:Option Bool)=>iter (ts:=n4) (R:=Bool) k (jO f) e (0:Int)) fun (g:a_→Option Bool)=>iter (ts:=n5) (R:=Bool) k (jP g) c (0:Int))) fun (b:a_→Bool→Option Bool)=>cond (bM (a.cw.length:Int) (0:Int)) (b a true) (cond (bN (16:Int) (a.cP.length:Int)) (b a true) (cond (!seq a.Kind ([]:List UInt8)) ((cv k a.Kind).bind fun h=>cond (!h) (b a true) (cond (!seq a.aX ([]:List UInt8)) ((cv k a.aX).bind fun i=>b a (!i)) (b a false))) (cond (!seq a.aX ([]:List UInt8)) ((cv k a.aX).bind fun j=>b a (!j)) (b a false))))
def BP (k:Nat):CT:=⟨112,[.d (.st 6)],[],[⟨false,.d .bool,[]⟩],iS k⟩
abbrev sf:List Ty:=[.st 10,.int .i64]
def kz (r:Option Bool) (d:Nat) (e:aG→Int→Option Bool) (a:aG) (b:Int):Option Bool:=
 cond (bN b (a.bV.length:Int)) (bC (bT b a.bV.length) (share (fun (f:aG) (g:Int) (h:Bool)=>cond h (some false) (e f (aQ .i64 g (1:Int)))) fun (c:aG→Int→Bool→Option Bool)=>(dq d (nth (default:aI) a.bV b).Number (1:Int) a.jX).bind fun i=>cond (!i) (c a b true) (cond (bN (0:Int) b) (bC (bT (bS .i64 b (1:Int)) a.bV.length) (cond (b_ (nth (default:aI) a.bV b).Number (nth (default:aI) a.bV (bS .i64 b (1:Int))).Number) (c a b true) ((cv d (nth (default:aI) a.bV b).To).bind fun j=>cond (!j) (c a b true) (cond (!seq (nth (default:aI) a.bV b).By ([]:List UInt8)) ((cv d (nth (default:aI) a.bV b).By).bind fun k=>cond (!k) (c a b true) ((iS d (nth (default:aI) a.bV b).cL).bind fun l=>c a b (!l))) ((iS d (nth (default:aI) a.bV b).cL).bind fun m=>c a b (!m)))))) ((cv d (nth (default:aI) a.bV b).To).bind fun n=>cond (!n) (c a b true) (cond (!seq (nth (default:aI) a.bV b).By ([]:List UInt8)) ((cv d (nth (default:aI) a.bV b).By).bind fun o=>cond (!o) (c a b true) ((iS d (nth (default:aI) a.bV b).cL).bind fun p=>c a b (!p))) ((iS d (nth (default:aI) a.bV b).cL).bind fun q=>c a b (!q))))))) (r)
def oT (k:Nat) (a:aG):Option Bool:=
 cond (bN (24:Int) (a.bV.length:Int)) (some false) (share (some true) fun (b:Option Bool)=>iter (ts:=sf) (R:=Bool) k (kz b) a (0:Int))
def yE (k:Nat):CT:=⟨74,[.d (.st 10)],[],[⟨false,.d .bool,[]⟩],oT k⟩
abbrev vE:List Ty:=[.str,.str,.st 10,.int .i64]
def nn (g:Option Int) (m:Nat) (h:List UInt8→List UInt8→aG→Int→Option Int) (c:List UInt8) (d:List UInt8) (a:aG) (b:Int):Option Int:=
 cond (bN b (a.aS.length:Int)) (share (fun (i:List UInt8) (j:List UInt8) (k:aG) (e:Int) (l:Bool)=>cond l (some e) (h i j k (aQ .i64 e (1:Int)))) fun (f:List UInt8→List UInt8→aG→Int→Bool→Option Int)=>bC (bT b a.aS.length) (cond (seq (nth (default:aF) a.aS b).aX c) (bC (bT b a.aS.length) (f c d a b (seq (nth (default:aF) a.aS b).aV d))) (f c d a b false))) (g)
def te (k:Nat) (b:aG) (c:List UInt8) (d:List UInt8):Option Int:=
 share (some (-1:Int)) fun (a:Option Int)=>iter (ts:=vE) (R:=Int) k (nn a) c d b (0:Int)
def BQ (k:Nat):CT:=⟨113,[.d (.st 10),.d .str,.d .str],[],[⟨false,.d (.int .i64),[]⟩],te k⟩
def oU (k:Nat) (a:aJ) (b:aJ):Option Int:=
 cond (!seq a.hC b.hC) ((pg k a.hC b.hC).bind fun c=>some c) ((sC k a.aX a.aV b.aX b.aV).bind fun d=>some d)
def yF (k:Nat):CT:=⟨114,[.d (.st 9),.d (.st 9)],[],[⟨false,.d (.int .i64),[]⟩],oU k⟩
abbrev ug:List Ty:=[.sl (.st 3),.str,.str,.int .i64]
def lY (e:Option Bool) (f:Nat) (g:List aH→List UInt8→List UInt8→Int→Option Bool) (b:List aH) (h:List UInt8) (c:List UInt8) (d:Int):Option Bool:=
 cond (bN d (4:Int)) ((uf f b h).bind fun a=>cond (seq a ([]:List UInt8)) (some false) (cond (seq a c) (some true) (g b a c (aQ .i64 d (1:Int))))) (e)
def xa (k:Nat) (d:List aH) (a:List UInt8) (b:List UInt8):Option Bool:=
 cond (seq a b) (some true) (share (some false) fun (c:Option Bool)=>iter (ts:=ug) (R:=Bool) k (lY c) d a b (0:Int))
def zO (k:Nat):CT:=⟨150,[.d (.sl (.st 3)),.d .str,.d .str],[],[⟨false,.d .bool,[]⟩],xa k⟩
abbrev sg:List Ty:=[.str,.st 5,.sl (.st 0),.int .i64,.int .i64]
def kA (w:Int→Option Int) (n:Nat) (o:List UInt8→aA→List aB→Int→Int→Option Int) (d:List UInt8) (c:aA) (b:List aB) (e:Int) (a:Int):Option Int:=
 cond (bN a (b.length:Int)) (share (fun (p:List UInt8) (q:aA) (r:List aB) (s:Int) (t:Int)=>o p q r s (aQ .i64 t (1:Int))) fun (h:List UInt8→aA→List aB→Int→Int→Option Int)=>bC (bT a c.aN.length) ((ot n (nth ([]:List UInt8) c.aN a)).bind fun f=>share (fun (i:List UInt8) (j:aA) (k:List aB) (l:Int) (m:Int) (u:Int) (v:Bool)=>cond v (h i j k (aQ .i64 l u) m) (h i j k l m)) fun (g:List UInt8→aA→List aB→Int→Int→Int→Bool→Option Int)=>bC (bT a b.length) (cond (bM (nth (default:aB) b a).Kind (1:Int)) (bC (bT a b.length) (cond (seq (nth (default:aB) b a).aY d) (g d c b e a f (bN (0:Int) f)) (g d c b e a f false))) (g d c b e a f false)))) (w e)
def oV (k:Nat) (q:aL) (c:aA) (d:List UInt8):Option Int:=
 (ff k q.bX c).bind fun e=>share (fun (f:List UInt8) (g:aA) (h:List aB) (i:Bool)=>cond i (some (0:Int)) (share (fun (j:List UInt8) (l:aA) (m:List aB) (n:Int)=>share (fun (o:Int)=>some o) fun (p:Int→Option Int)=>iter (ts:=sg) (R:=Int) k (kA p) j l m n (0:Int)) fun (a:List UInt8→aA→List aB→Int→Option Int)=>cond (seq f g.Kind) (a f g h (1:Int)) (a f g h (0:Int)))) fun (b:List UInt8→aA→List aB→Bool→Option Int)=>cond (!e.2) (b d c e.1 true) (b d c e.1 (seq d ([]:List UInt8)))
def yG (k:Nat):CT:=⟨151,[.d (.st 4),.d (.st 5),.d .str],[],[⟨false,.d (.int .i64),[]⟩],oV k⟩
abbrev vF:List Ty:=[.str,.str,.st 4,.st 10,.int .i64,.int .i64]
def np (i:Int→Option Int) (g:Nat) (j:List UInt8→List UInt8→aL→aG→Int→Int→Option Int) (d:List UInt8) (e:List UInt8) (c:aL) (a:aG) (f:Int) (b:Int):Option Int:=
 cond (bN b (a.aK.length:Int)) (share (fun (k:List UInt8) (l:List UInt8) (m:aL) (n:aG) (o:Int) (p:Int)=>j k l m n o (aQ .i64 p (1:Int))) fun (h:List UInt8→List UInt8→aL→aG→Int→Int→Option Int)=>bC (bT b a.aK.length) ((xa g c.dS (nth (default:aA) a.aK b).aX d).bind fun q=>cond q (bC (bT b a.aK.length) ((oV g c (nth (default:aA) a.aK b) e).bind fun r=>h d e c a (aQ .i64 f r) b)) (h d e c a f b))) (i f)
def tf (k:Nat) (c:aL) (d:aG) (e:List UInt8) (f:List UInt8):Option Int:=
 share (fun (a:Int)=>some a) fun (b:Int→Option Int)=>iter (ts:=vF) (R:=Int) k (np b) e f c d (0:Int) (0:Int)
def BR (k:Nat):CT:=⟨115,[.d (.st 4),.d (.st 10),.d .str,.d .str],[],[⟨false,.d (.int .i64),[]⟩],tf k⟩
abbrev zP:List Ty:=[.str,.str,.st 10,.int .i64,.int .i64]
def tg (m:Int→Option Int) (u:Nat) (n:List UInt8→List UInt8→aG→Int→Int→Option Int) (e:List UInt8) (f:List UInt8) (a:aG) (g:Int) (b:Int):Option Int:=
 cond (bN b (a.bG.length:Int)) (share (fun (o:List UInt8) (p:List UInt8) (q:aG) (r:Int) (s:Int)=>n o p q r (aQ .i64 s (1:Int))) fun (h:List UInt8→List UInt8→aG→Int→Int→Option Int)=>share (fun (i:List UInt8) (j:List UInt8) (c:aG) (k:Int) (d:Int) (t:Bool)=>cond t (bC (bT d c.bG.length) (h i j c (aQ .i64 k (nth (default:aJ) c.bG d).cI) d)) (h i j c k d)) fun (l:List UInt8→List UInt8→aG→Int→Int→Bool→Option Int)=>bC (bT b a.bG.length) (cond (seq (nth (default:aJ) a.bG b).aX e) (bC (bT b a.bG.length) (l e f a g b (seq (nth (default:aJ) a.bG b).aV f))) (l e f a g b false))) (m g)
def AP (k:Nat) (c:aG) (d:List UInt8) (e:List UInt8):Option Int:=
 share (fun (a:Int)=>some a) fun (b:Int→Option Int)=>iter (ts:=zP) (R:=Int) k (tg b) d e c (0:Int) (0:Int)
def HI (k:Nat):CT:=⟨116,[.d (.st 10),.d .str,.d .str],[],[⟨false,.d (.int .i64),[]⟩],AP k⟩
abbrev mi:List Ty:=[.st 4,.st 10,.int .i64]
def iB (n:Option Bool) (g:Nat) (o:aL→aG→Int→Option Bool) (d:aL) (a:aG) (b:Int):Option Bool:=
 cond (bN b (a.aS.length:Int)) (bC (bT b a.aS.length) (share (fun (k:aL) (e:aG) (c:Int) (p:Bool) (i:aF)=>cond p (some false) (share (fun (l:aL) (j:aG) (q:Int) (r:Bool) (f:aF)=>cond r (some false) ((tf g l j f.aX f.aV).bind fun s=>(AP g j f.aX f.aV).bind fun t=>cond (!bM (aQ .i64 (aQ .i64 s t) f.ly) f.bW) (some false) (o l j (aQ .i64 q (1:Int))))) fun (m:aL→aG→Int→Bool→aF→Option Bool)=>cond (bN (0:Int) c) (bC (bT (bS .i64 c (1:Int)) e.aS.length) (bC (bT (bS .i64 c (1:Int)) e.aS.length) ((sC g (nth (default:aF) e.aS (bS .i64 c (1:Int))).aX (nth (default:aF) e.aS (bS .i64 c (1:Int))).aV i.aX i.aV).bind fun u=>m k e c (b_ (0:Int) u) i))) (m k e c false i))) fun (h:aL→aG→Int→Bool→aF→Option Bool)=>(mh g d.dS (nth (default:aF) a.aS b).aX).bind fun v=>cond (!v) (h d a b true (nth (default:aF) a.aS b)) ((cv g (nth (default:aF) a.aS b).aV).bind fun w=>cond (!w) (h d a b true (nth (default:aF) a.aS b)) (cond (bN (nth (default:aF) a.aS b).ly (0:Int)) (h d a b true (nth (default:aF) a.aS b)) (cond (bN (nth (default:aF) a.aS b).bW (nth (default:aF) a.aS b).ly) (h d a b true (nth (default:aF) a.aS b)) (h d a b (bN (1000000:Int) (nth (default:aF) a.aS b).bW) (nth (default:aF) a.aS b))))))) (n)
abbrev vG:List Ty:=[.st 4,.st 10,.int .i64]
def nq (p:aL→aG→Option Bool) (e:Nat) (f:aL→aG→Int→Option Bool) (c:aL) (a:aG) (b:Int):Option Bool:=
 cond (bN b (a.bG.length:Int)) (bC (bT b a.bG.length) (share (fun (g:aL) (h:aG) (i:Int) (j:Bool)=>cond j (some false) (f g h (aQ .i64 i (1:Int)))) fun (d:aL→aG→Int→Bool→Option Bool)=>(cv e (nth (default:aJ) a.bG b).hC).bind fun k=>cond (!k) (d c a b true) ((te e a (nth (default:aJ) a.bG b).aX (nth (default:aJ) a.bG b).aV).bind fun l=>cond (bN l (0:Int)) (d c a b true) ((dq e (nth (default:aJ) a.bG b).cI (1:Int) (1000000:Int)).bind fun m=>cond (!m) (d c a b true) ((dq e (nth (default:aJ) a.bG b).fC a.nW (aQ .i64 a.nW (10:Int))).bind fun n=>cond (!n) (d c a b true) (cond (bN (0:Int) b) (bC (bT (bS .i64 b (1:Int)) a.bG.length) ((oU e (nth (default:aJ) a.bG (bS .i64 b (1:Int))) (nth (default:aJ) a.bG b)).bind fun o=>d c a b (b_ (0:Int) o))) (d c a b false))))))) (p c a)
def th (k:Nat) (c:aL) (a:aG):Option Bool:=
 share (fun (h:aL) (i:aG) (j:Bool)=>cond j (some false) (share (fun (d:aL) (e:aG)=>share (some true) fun (b:Option Bool)=>iter (ts:=mi) (R:=Bool) k (iB b) d e (0:Int)) fun (f:aL→aG→Option Bool)=>iter (ts:=vG) (R:=Bool) k (nq f) h i (0:Int))) fun (g:aL→aG→Bool→Option Bool)=>cond (bN (10:Int) (a.aS.length:Int)) (g c a true) (g c a (bN (24:Int) (a.bG.length:Int)))
def BS (k:Nat):CT:=⟨75,[.d (.st 4),.d (.st 10)],[],[⟨false,.d .bool,[]⟩],th k⟩
def oW (k:Nat) (c:aL) (a:aG):Option Bool:=
 share (fun (e:aL) (d:aG) (f:Bool)=>cond f (some false) ((nk k e d).bind fun g=>cond g ((oT k d).bind fun h=>cond h ((th k e d).bind fun i=>some i) (some false)) (some false))) fun (b:aL→aG→Bool→Option Bool)=>(qM k c).bind fun j=>cond (!j) (b c a true) ((dq k a.Ei (0:Int) (1000000:Int)).bind fun l=>cond (!l) (b c a true) ((dq k a.nW (0:Int) (1000000:Int)).bind fun m=>cond (!m) (b c a true) ((dq k a.jX (0:Int) a.Ei).bind fun n=>b c a (!n))))
def yH (k:Nat):CT:=⟨30,[.d (.st 4),.d (.st 10)],[],[⟨false,.d .bool,[]⟩],oW k⟩
abbrev pj:List Ty:=[.int .i64,.int .i64,.st 10,.sl (.st 0),.int .i64,.st 5]
def kX (h:Option Bool) (q:Nat) (i:Int→Int→aG→List aB→Int→aA→Option Bool) (c:Int) (f:Int) (d:aG) (b:List aB) (a:Int) (e:aA):Option Bool:=
 cond (bN a (b.length:Int)) (bC (bT a b.length) (share (fun (j:Int) (k:Int) (l:aG) (m:List aB) (n:Int) (o:Bool) (p:aA)=>cond o (some true) (i j k l m (aQ .i64 n (1:Int)) p)) fun (g:Int→Int→aG→List aB→Int→Bool→aA→Option Bool)=>cond (bM (nth (default:aB) b a).Kind (4:Int)) (cond (bM (nth (default:aB) b a).cu f) (bC (bT a e.aN.length) (cond (!seq (nth ([]:List UInt8) e.aN a) ([]:List UInt8)) (bC (bT c d.aK.length) (cond (seq (nth (default:aB) b a).To (nth (default:aA) d.aK c).Kind) (bC (bT a e.aN.length) (bC (bT c d.aK.length) (g c f d b a (seq (nth ([]:List UInt8) e.aN a) (nth (default:aA) d.aK c).Name) e))) (g c f d b a false e))) (g c f d b a false e))) (g c f d b a false e)) (g c f d b a false e))) (h)
def vZ (k:Nat) (d:aL) (a:aG) (b:Int) (e:Int) (f:Int):Option Bool:=
 bC (bT b a.aK.length) ((ff k d.bX (nth (default:aA) a.aK b)).bind fun g=>share (some false) fun (c:Option Bool)=>iter (ts:=pj) (R:=Bool) k (kX c) e f a g.1 (0:Int) (nth (default:aA) a.aK b))
def CU (k:Nat):CT:=⟨59,[.d (.st 4),.d (.st 10),.d (.int .i64),.d (.int .i64),.d (.int .i64)],[],[⟨false,.d .bool,[]⟩],vZ k⟩
abbrev yI:List Ty:=[.st 4,.st 10,.int .i64,.bool,.int .i64,.sl (.int .i64)]
def qQ (n:aL→aG→Int→Bool→List Int→Option (List Int)) (o:Nat) (p:aL→aG→Int→Bool→Int→List Int→Option (List Int)) (c:aL) (a:aG) (d:Int) (e:Bool) (b:Int) (f:List Int):Option (List Int):=
 cond (bN b (a.aK.length:Int)) (share (fun (q:aL) (r:aG) (s:Int) (t:Bool) (u:Int) (v:List Int)=>p q r s t (aQ .i64 u (1:Int)) v) fun (g:aL→aG→Int→Bool→Int→List Int→Option (List Int))=>share (fun (h:aL) (i:aG) (j:Int) (w:Bool) (k:Int) (x:Bool) (l:List Int)=>cond x (g h i j true k l) (g h i j w k l)) fun (m:aL→aG→Int→Bool→Int→Bool→List Int→Option (List Int))=>bC (bT b a.aK.length) (cond (nth (default:aA) a.aK b).Ending ((vZ o c a d b (3:Int)).bind fun y=>m c a d e b y f) (m c a d e b false f))) (n c a d e f)
abbrev yJ:List Ty:=[.st 4,.st 10,.int .i64,.sl (.int .i64)]
def qR (q:List Int→Option (List Int)) (r:Nat) (s:aL→aG→Int→List Int→Option (List Int)) (t:aL) (j:aG) (k:Int) (l:List Int):Option (List Int):=
 cond (bN k (j.aK.length:Int)) (share (fun (u:aL) (v:aG) (w:Int) (x:List Int)=>s u v (aQ .i64 w (1:Int)) x) fun (m:aL→aG→Int→List Int→Option (List Int))=>share (fun (e:aL) (a:aG) (b:Int) (n:Bool) (f:List Int)=>share (fun (g:aL) (h:aG) (c:Int) (o:Bool) (d:List Int)=>cond o (bC (uF (d.length+([c]:List Int).length) 8) (m g h c (d++([c]:List Int)))) (m g h c d)) fun (i:aL→aG→Int→Bool→List Int→Option (List Int))=>bC (bT b a.aK.length) (cond (!(nth (default:aA) a.aK b).Ending) (i e a b n f) (i e a b false f))) fun (p:aL→aG→Int→Bool→List Int→Option (List Int))=>iter (ts:=yI) (R:=List Int) r (qQ p) t j k false (0:Int) l) (q l)
def yK (k:Nat) (c:aL) (d:aG):Option (List Int):=
 share (fun (a:List Int)=>some a) fun (b:List Int→Option (List Int))=>iter (ts:=yJ) (R:=List Int) k (qR b) c d (0:Int) ([]:List Int)
def FO (k:Nat):CT:=⟨31,[.d (.st 4),.d (.st 10)],[],[⟨false,.d (.sl (.int .i64)),[]⟩],yK k⟩
def s6 (k:Nat) (a:aL) (b:aG):Option (List Int):=
 (oW k a b).bind fun c=>cond (!c) (some ([]:List Int)) ((yK k a b).bind fun d=>some d)
def BT (k:Nat):CT:=⟨8,[.d (.st 4),.d (.st 10)],[],[⟨false,.d (.sl (.int .i64)),[]⟩],s6 k⟩
def tj (_k:Nat) (a:Int):Option Bool:=
 cond (b_ (97:Int) a) (cond (b_ a (122:Int)) (some true) (cond (b_ (48:Int) a) (cond (b_ a (57:Int)) (some true) (some (bM a (45:Int)))) (some (bM a (45:Int))))) (cond (b_ (48:Int) a) (cond (b_ a (57:Int)) (some true) (some (bM a (45:Int)))) (some (bM a (45:Int))))
def BU (k:Nat):CT:=⟨186,[.d (.int .u8)],[],[⟨false,.d .bool,[]⟩],tj k⟩
abbrev uh:List Ty:=[.str,.int .i64,.int .i64]
def lZ (d:Option Bool) (e:Nat) (f:List UInt8→Int→Int→Option Bool) (b:List UInt8) (c:Int) (a:Int):Option Bool:=
 cond (bN a c) (bC (bT a b.length) ((tj e (zI b a)).bind fun g=>cond (!g) (some false) (f b c (aQ .i64 a (1:Int))))) (d)
def fk (k:Nat) (a:List UInt8):Option Bool:=
 share (some true) fun (b:Option Bool)=>iter (ts:=uh) (R:=Bool) k (lZ b) a (a.length:Int) (0:Int)
def sD (k:Nat):CT:=⟨164,[.d .str],[],[⟨false,.d .bool,[]⟩],fk k⟩
def cO (k:Nat) (a:List UInt8):Option Bool:=
 cond (b_ (1:Int) (a.length:Int)) (cond (b_ (a.length:Int) (16:Int)) ((fk k a).bind fun b=>some b) (some false)) (some false)
def dW (k:Nat):CT:=⟨127,[.d .str],[],[⟨false,.d .bool,[]⟩],cO k⟩
abbrev nP:List Ty:=[.sl .str,.sl .str,.int .i64,.int .i64]
def gq (f:Option Bool) (g:Nat) (h:List (List UInt8)→List (List UInt8)→Int→Int→Option Bool) (c:List (List UInt8)) (b:List (List UInt8)) (d:Int) (a:Int):Option Bool:=
 cond (bN a d) (bC (bT a b.length) (share (fun (i:List (List UInt8)) (j:List (List UInt8)) (k:Int) (l:Int) (m:Bool)=>cond m (some false) (h i j k (aQ .i64 l (1:Int)))) fun (e:List (List UInt8)→List (List UInt8)→Int→Int→Bool→Option Bool)=>(cO g (nth ([]:List UInt8) b a)).bind fun n=>cond (!n) (e c b d a true) (cond (bN (0:Int) a) (bC (bT (bS .i64 a (1:Int)) c.length) (e c b d a (!slt (nth ([]:List UInt8) c (bS .i64 a (1:Int))) (nth ([]:List UInt8) b a)))) (e c b d a false)))) (f)
def eA (k:Nat) (a:List (List UInt8)):Option Bool:=
 share (some true) fun (b:Option Bool)=>iter (ts:=nP) (R:=Bool) k (gq b) a a (a.length:Int) (0:Int)
def gV (k:Nat):CT:=⟨176,[.d (.sl .str)],[],[⟨false,.d .bool,[]⟩],eA k⟩
def tl (_k:Nat) (a:aB):Option bD:=
 some (⟨a⟩:bD)
def BV (k:Nat):CT:=⟨198,[.d (.st 0)],[],[⟨false,.nX 255 (.d (.st 13)),[]⟩],tl k⟩
def tn (_k:Nat) (a:aB):Option bD:=
 some (⟨a⟩:bD)
def BW (k:Nat):CT:=⟨197,[.d (.st 0)],[],[⟨false,.nX 254 (.d (.st 13)),[]⟩],tn k⟩
def tp (_k:Nat) (a:aB):Option bD:=
 some (⟨a⟩:bD)
def BX (k:Nat):CT:=⟨196,[.d (.st 0)],[],[⟨false,.nX 253 (.d (.st 13)),[]⟩],tp k⟩
def tq (_k:Nat) (a:aB):Option bD:=
 some (⟨a⟩:bD)
def BY (k:Nat):CT:=⟨195,[.d (.st 0)],[],[⟨false,.nX 251 (.d (.st 13)),[]⟩],tq k⟩
def ui (k:Nat) (a:aB):Option (Unit ⊕ (bD ⊕ (bD ⊕ (bD ⊕ bD)))):=
 cond (bM a.Kind (1:Int)) ((tq k a).bind fun b=>some (.inr (.inr (.inr (.inr b))))) (cond (bM a.Kind (2:Int)) ((tp k a).bind fun c=>some (.inr (.inr (.inr (.inl c))))) (cond (bM a.Kind (3:Int)) ((tn k a).bind fun d=>some (.inr (.inr (.inl d)))) (cond (bM a.Kind (4:Int)) ((tl k a).bind fun e=>some (.inr (.inl e))) (some (.inl ())))))
def zk (k:Nat):CT:=⟨189,[.d (.st 0)],[],[⟨false,.n9 [.Ol,.kb false],[]⟩,⟨false,.n9 [.nX 255 (.d (.st 13)),.kb true],[]⟩,⟨false,.n9 [.nX 254 (.d (.st 13)),.kb true],[]⟩,⟨false,.n9 [.nX 253 (.d (.st 13)),.kb true],[]⟩,⟨false,.n9 [.nX 251 (.d (.st 13)),.kb true],[]⟩],ui k⟩
def mj (_k:Nat) (a:bD):Option Bool:=
 cond (bM a.aB.bP (0:Int)) (cond (bM a.aB.bW (0:Int)) (cond (bM (a.aB.Words.length:Int) (0:Int)) (some (seq a.aB.aY ([]:List UInt8))) (some false)) (some false)) (some false)
def qS (k:Nat):CT:=⟨234,[.d (.st 13)],[],[⟨false,.d .bool,[]⟩],mj k⟩
abbrev ml:List Ty:=[.st 13,.bool,.sl .str,.int .i64,.int .i64]
def fK (g:bD→Bool→Option Bool) (n:Nat) (h:bD→Bool→List (List UInt8)→Int→Int→Option Bool) (b:bD) (e:Bool) (c:List (List UInt8)) (d:Int) (a:Int):Option Bool:=
 cond (bN a d) (share (fun (i:bD) (j:Bool) (k:List (List UInt8)) (l:Int) (m:Int)=>h i j k l (aQ .i64 m (1:Int))) fun (f:bD→Bool→List (List UInt8)→Int→Int→Option Bool)=>bC (bT a c.length) (cond e (f b true c d a) (f b (seq (nth ([]:List UInt8) c a) b.aB.To) c d a))) (g b e)
def iC (k:Nat) (e:bD) (b:List (List UInt8)):Option Bool:=
 share (fun (a:bD) (c:Bool)=>cond c (cond (b_ (1:Int) a.aB.cu) (cond (b_ a.aB.cu (3:Int)) (cond (seq a.aB.Default ([]:List UInt8)) (cond (bM a.aB.cu (2:Int)) (some (!a.aB.cN)) (some true)) (some false)) (some false)) (some false)) (some false)) fun (d:bD→Bool→Option Bool)=>iter (ts:=ml) (R:=Bool) k (fK d) e false b (b.length:Int) (0:Int)
def qT (k:Nat):CT:=⟨236,[.d (.st 13),.d (.sl .str)],[],[⟨false,.d .bool,[]⟩],iC k⟩
def n6 (k:Nat) (c:bD) (a:List UInt8):Option Bool:=
 (cO k a).bind fun b=>some b
def si (k:Nat):CT:=⟨235,[.d (.st 13),.d .str],[],[⟨false,.d .bool,[]⟩],n6 k⟩
abbrev nQ:List Ty:=[.str,.int .i64,.int .i64]
def gr (e:Option Bool) (k:Nat) (f:List UInt8→Int→Int→Option Bool) (b:List UInt8) (c:Int) (a:Int):Option Bool:=
 cond (bN a c) (share (fun (g:List UInt8) (h:Int) (i:Int) (j:Bool)=>cond j (some false) (f g h (aQ .i64 i (1:Int)))) fun (d:List UInt8→Int→Int→Bool→Option Bool)=>bC (bT a b.length) (cond (bN (zI b a) (33:Int)) (d b c a true) (bC (bT a b.length) (d b c a (bN (126:Int) (zI b a)))))) (e)
def jn (k:Nat) (b:bD) (a:List UInt8):Option Bool:=
 share (fun (c:List UInt8) (f:Bool)=>cond f (some false) (share (some true) fun (d:Option Bool)=>iter (ts:=nQ) (R:=Bool) k (gr d) c (c.length:Int) (0:Int))) fun (e:List UInt8→Bool→Option Bool)=>cond (bN (a.length:Int) b.aB.bP) (e a true) (e a (bN b.aB.bW (a.length:Int)))
def sj (k:Nat):CT:=⟨232,[.d (.st 13),.d .str],[],[⟨false,.d .bool,[]⟩],jn k⟩
abbrev nR:List Ty:=[.str,.sl .str,.int .i64,.int .i64]
def gu (f:Option Bool) (g:Nat) (e:List UInt8→List (List UInt8)→Int→Int→Option Bool) (c:List UInt8) (b:List (List UInt8)) (d:Int) (a:Int):Option Bool:=
 cond (bN a d) (bC (bT a b.length) (cond (seq (nth ([]:List UInt8) b a) c) (some true) (e c b d (aQ .i64 a (1:Int))))) (f)
def jo (k:Nat) (a:bD) (b:List UInt8):Option Bool:=
 share (some false) fun (c:Option Bool)=>iter (ts:=nR) (R:=Bool) k (gu c) b a.aB.Words (a.aB.Words.length:Int) (0:Int)
def sk (k:Nat):CT:=⟨229,[.d (.st 13),.d .str],[],[⟨false,.d .bool,[]⟩],jo k⟩
abbrev xc:List Ty:=[.str,.int .i64,.int .i64,.int .i64]
def oX (l:Int→Option (Int×Bool)) (n:Nat) (m:List UInt8→Int→Int→Int→Option (Int×Bool)) (b:List UInt8) (d:Int) (e:Int) (a:Int):Option (Int×Bool):=
 cond (bN a e) (share (fun (c:List UInt8) (h:Int) (f:Int) (i:Int) (j:Int) (k:Bool)=>cond k (some ((0:Int),false)) (bC (bT f c.length) (m c (aQ .i64 (WO .i64 h (10:Int)) (yg .i64 (bS .u8 (zI c f) (48:Int)))) i (aQ .i64 j (1:Int))))) fun (g:List UInt8→Int→Int→Int→Int→Bool→Option (Int×Bool))=>bC (bT a b.length) (cond (bN (zI b a) (48:Int)) (g b d a e a true) (bC (bT a b.length) (g b d a e a (bN (57:Int) (zI b a)))))) (l d)
def p6 (k:Nat) (a:List UInt8):Option (Int×Bool):=
 share (fun (c:List UInt8) (f:Bool)=>cond f (some ((0:Int),false)) (share (fun (d:Int)=>some (d,true)) fun (e:Int→Option (Int×Bool))=>iter (ts:=xc) (R:=Int×Bool) k (oX e) c (0:Int) (c.length:Int) (0:Int))) fun (b:List UInt8→Bool→Option (Int×Bool))=>cond (bN (a.length:Int) (1:Int)) (b a true) (cond (bN (7:Int) (a.length:Int)) (b a true) (bC (bT (0:Int) a.length) (cond (bM (zI a (0:Int)) (48:Int)) (b a (bN (1:Int) (a.length:Int))) (b a false))))
def xd (k:Nat):CT:=⟨187,[.d .str],[],[⟨false,.n9 [.d (.int .i64),.d .bool],[]⟩],p6 k⟩
def gW (k:Nat) (b:bD) (c:List UInt8):Option Bool:=
 (p6 k c).bind fun a=>cond a.2 (cond (b_ b.aB.bP a.1) (some (b_ a.1 b.aB.bW)) (some false)) (some false)
def pR (k:Nat):CT:=⟨226,[.d (.st 13),.d .str],[],[⟨false,.d .bool,[]⟩],gW k⟩
def dV (k:Nat) (o:aB) (a:List UInt8):Option Bool:=
 (ui k o).bind fun b=>xe b (fun p=>some false) (fun c=>xe c (fun d=>cond (!seq a ([]:List UInt8)) ((n6 k d a).bind fun e=>some e) (some false)) (fun f=>xe f (fun g=>cond (!seq a ([]:List UInt8)) ((jn k g a).bind fun h=>some h) (some false)) (fun i=>xe i (fun j=>cond (!seq a ([]:List UInt8)) ((jo k j a).bind fun l=>some l) (some false)) (fun m=>cond (!seq a ([]:List UInt8)) ((gW k m a).bind fun n=>some n) (some false)))))
def kY (k:Nat):CT:=⟨180,[.d (.st 0),.d .str],[],[⟨false,.d .bool,[]⟩],dV k⟩
def mm (_k:Nat) (a:bD):Option Bool:=
 cond (bM (a.aB.Words.length:Int) (0:Int)) (cond (seq a.aB.To ([]:List UInt8)) (cond (bM a.aB.cu (0:Int)) (some (seq a.aB.aY ([]:List UInt8))) (some false)) (some false)) (some false)
def qU (k:Nat):CT:=⟨231,[.d (.st 13)],[],[⟨false,.d .bool,[]⟩],mm k⟩
def mn (_k:Nat) (a:bD) (b:List (List UInt8)):Option Bool:=
 cond (b_ (1:Int) a.aB.bP) (cond (b_ a.aB.bP a.aB.bW) (some (b_ a.aB.bW (40:Int))) (some false)) (some false)
def qV (k:Nat):CT:=⟨233,[.d (.st 13),.d (.sl .str)],[],[⟨false,.d .bool,[]⟩],mn k⟩
def mo (_k:Nat) (a:bD):Option Bool:=
 cond (bM a.aB.bP (0:Int)) (cond (bM a.aB.bW (0:Int)) (cond (seq a.aB.To ([]:List UInt8)) (cond (bM a.aB.cu (0:Int)) (some (seq a.aB.aY ([]:List UInt8))) (some false)) (some false)) (some false)) (some false)
def qW (k:Nat):CT:=⟨228,[.d (.st 13)],[],[⟨false,.d .bool,[]⟩],mo k⟩
def mq (k:Nat) (a:bD) (c:List (List UInt8)):Option Bool:=
 cond (b_ (1:Int) (a.aB.Words.length:Int)) (cond (b_ (a.aB.Words.length:Int) (6:Int)) ((eA k a.aB.Words).bind fun b=>some b) (some false)) (some false)
def qX (k:Nat):CT:=⟨230,[.d (.st 13),.d (.sl .str)],[],[⟨false,.d .bool,[]⟩],mq k⟩
def kB (_k:Nat) (a:bD):Option Bool:=
 cond (bM (a.aB.Words.length:Int) (0:Int)) (cond (seq a.aB.To ([]:List UInt8)) (some (bM a.aB.cu (0:Int))) (some false)) (some false)
def ox (k:Nat):CT:=⟨225,[.d (.st 13)],[],[⟨false,.d .bool,[]⟩],kB k⟩
def kC (k:Nat) (a:bD) (c:List (List UInt8)):Option Bool:=
 cond (b_ (0:Int) a.aB.bP) (cond (b_ a.aB.bP a.aB.bW) (cond (b_ a.aB.bW (1000000:Int)) (cond (seq a.aB.aY ([]:List UInt8)) (some true) ((cO k a.aB.aY).bind fun b=>some b)) (some false)) (some false)) (some false)
def oy (k:Nat):CT:=⟨227,[.d (.st 13),.d (.sl .str)],[],[⟨false,.d .bool,[]⟩],kC k⟩
abbrev pn:List Ty:=[.sl .str,.sl (.st 0),.int .i64,.int .i64,.sl (.st 15)]
def kZ (bw:Option Bool) (d:Nat) (bx:List (List UInt8)→List aB→Int→Int→List cb→Option Bool) (Y:List (List UInt8)) (b:List aB) (q:Int) (a:Int) (j:List cb):Option Bool:=
 cond (bN a q) (share (fun (Z:List (List UInt8)) (aa:List aB) (ab:Int) (ad:Int) (ae:List cb)=>bx Z aa ab (aQ .i64 ad (1:Int)) ae) fun (k:List (List UInt8)→List aB→Int→Int→List cb→Option Bool)=>bC (bT a b.length) (share (fun (c:List (List UInt8)) (f:List aB) (g:Int) (h:Int) (af:Bool) (i:List cb) (e:aB)=>cond af (some false) ((ui d e).bind fun ag=>xe ag (fun bz=>some false) (fun ah=>xe ah (fun r=>share (fun (s:List (List UInt8)) (t:List aB) (u:Int) (v:Int) (ai:Bool) (w:List cb) (l:aB)=>cond ai (some false) (share (fun (aj:List (List UInt8)) (ak:List aB) (al:Int) (an:Int) (ao:Bool) (aq:List cb)=>cond ao (some false) (k aj ak al an aq)) fun (x:List (List UInt8)→List aB→Int→Int→Bool→List cb→Option Bool)=>cond (!seq l.Default ([]:List UInt8)) ((dV d l l.Default).bind fun ar=>x s t u v (!ar) w) (x s t u v false w))) fun (y:List (List UInt8)→List aB→Int→Int→Bool→List cb→aB→Option Bool)=>(mj d r).bind fun au=>cond (!au) (y c f g h true i e) ((iC d r c).bind fun av=>y c f g h (!av) i e)) (fun aw=>xe aw (fun z=>share (fun (A:List (List UInt8)) (B:List aB) (C:Int) (D:Int) (ax:Bool) (E:List cb) (m:aB)=>cond ax (some false) (share (fun (ay:List (List UInt8)) (az:List aB) (a0:Int) (a1:Int) (a2:Bool) (a3:List cb)=>cond a2 (some false) (k ay az a0 a1 a3)) fun (F:List (List UInt8)→List aB→Int→Int→Bool→List cb→Option Bool)=>cond (!seq m.Default ([]:List UInt8)) ((dV d m m.Default).bind fun a4=>F A B C D (!a4) E) (F A B C D false E))) fun (G:List (List UInt8)→List aB→Int→Int→Bool→List cb→aB→Option Bool)=>(mm d z).bind fun a5=>cond (!a5) (G c f g h true i e) ((mn d z c).bind fun a6=>G c f g h (!a6) i e)) (fun a7=>xe a7 (fun H=>share (fun (I:List (List UInt8)) (J:List aB) (K:Int) (L:Int) (a8:Bool) (M:List cb) (n:aB)=>cond a8 (some false) (share (fun (a9:List (List UInt8)) (ba:List aB) (bb:Int) (bc:Int) (bd:Bool) (bf:List cb)=>cond bd (some false) (k a9 ba bb bc bf)) fun (N:List (List UInt8)→List aB→Int→Int→Bool→List cb→Option Bool)=>cond (!seq n.Default ([]:List UInt8)) ((dV d n n.Default).bind fun bg=>N I J K L (!bg) M) (N I J K L false M))) fun (O:List (List UInt8)→List aB→Int→Int→Bool→List cb→aB→Option Bool)=>(mo d H).bind fun bh=>cond (!bh) (O c f g h true i e) ((mq d H c).bind fun bj=>O c f g h (!bj) i e)) (fun P=>share (fun (Q:List (List UInt8)) (R:List aB) (S:Int) (T:Int) (bk:Bool) (U:List cb) (o:aB)=>cond bk (some false) (share (fun (bl:List (List UInt8)) (bm:List aB) (bn:Int) (bo:Int) (bp:Bool) (bq:List cb)=>cond bp (some false) (k bl bm bn bo bq)) fun (V:List (List UInt8)→List aB→Int→Int→Bool→List cb→Option Bool)=>cond (!seq o.Default ([]:List UInt8)) ((dV d o o.Default).bind fun br=>V Q R S T (!br) U) (V Q R S T false U))) fun (W:List (List UInt8)→List aB→Int→Int→Bool→List cb→aB→Option Bool)=>(kB d P).bind fun bs=>cond (!bs) (W c f g h true i e) ((kC d P c).bind fun bt=>W c f g h (!bt) i e))))))) fun (X:List (List UInt8)→List aB→Int→Int→Bool→List cb→aB→Option Bool)=>(cO d (nth (default:aB) b a).Name).bind fun bu=>cond (!bu) (X Y b q a true (nV (fun p:cb=>seq (nth (default:aB) b a).Name p.Key) j (⟨(nth (default:aB) b a).Name,(aQ .i64 (l8 (fun p:cb=>seq (nth (default:aB) b a).Name p.Key) (fun p:cb=>p.Mb) (0:Int) j) (1:Int))⟩:cb)) (nth (default:aB) b a)) (X Y b q a (bN (1:Int) (l8 (fun p:cb=>seq (nth (default:aB) b a).Name p.Key) (fun p:cb=>p.Mb) (0:Int) (nV (fun p:cb=>seq (nth (default:aB) b a).Name p.Key) j (⟨(nth (default:aB) b a).Name,(aQ .i64 (l8 (fun p:cb=>seq (nth (default:aB) b a).Name p.Key) (fun p:cb=>p.Mb) (0:Int) j) (1:Int))⟩:cb)))) (nV (fun p:cb=>seq (nth (default:aB) b a).Name p.Key) j (⟨(nth (default:aB) b a).Name,(aQ .i64 (l8 (fun p:cb=>seq (nth (default:aB) b a).Name p.Key) (fun p:cb=>p.Mb) (0:Int) j) (1:Int))⟩:cb)) (nth (default:aB) b a)))) (bw)
def v7 (k:Nat) (a:aC) (c:List (List UInt8)):Option Bool:=
 cond (bN (6:Int) (a.aT.length:Int)) (some false) (share (some true) fun (b:Option Bool)=>iter (ts:=pn) (R:=Bool) k (kZ b) c a.aT (a.aT.length:Int) (0:Int) ([]:List cb))
def CV (k:Nat):CT:=⟨177,[.d (.st 1),.d (.sl .str)],[],[⟨false,.d .bool,[]⟩],v7 k⟩
abbrev oz:List Ty:=[.sl (.st 1),.int .i64,.int .i64,.sl .str]
def gX (e:Option Bool) (f:Nat) (g:List aC→Int→Int→List (List UInt8)→Option Bool) (b:List aC) (c:Int) (a:Int) (d:List (List UInt8)):Option Bool:=
 cond (bN a c) (bC (bT a b.length) ((v7 f (nth (default:aC) b a) d).bind fun h=>cond (!h) (some false) (g b c (aQ .i64 a (1:Int)) d))) (e)
abbrev pS:List Ty:=[.sl (.st 1),.sl (.st 1),.int .i64,.int .i64,.sl .str]
def iD (f:List aC→List (List UInt8)→Option Bool) (h:Nat) (g:List aC→List aC→Int→Int→List (List UInt8)→Option Bool) (d:List aC) (b:List aC) (e:Int) (a:Int) (c:List (List UInt8)):Option Bool:=
 cond (bN a e) (bC (bT a b.length) (bC (uF (c.length+([(nth (default:aC) b a).Kind]:List (List UInt8)).length) 16) (g d b e (aQ .i64 a (1:Int)) (c++([(nth (default:aC) b a).Kind]:List (List UInt8)))))) (f d c)
def dX (k:Nat) (a:List aC):Option Bool:=
 cond (bN (6:Int) (a.length:Int)) (some false) (bC (Ej (0:Int) (a.length:Int) 16) (share (fun (b:List aC) (c:List (List UInt8))=>(eA k c).bind fun d=>cond (!d) (some false) (share (some true) fun (e:Option Bool)=>iter (ts:=oz) (R:=Bool) k (gX e) b (b.length:Int) (0:Int) c)) fun (f:List aC→List (List UInt8)→Option Bool)=>iter (ts:=pS) (R:=Bool) k (iD f) a a (a.length:Int) (0:Int) (List.replicate (Int.toNat (0:Int)) ([]:List UInt8))))
def ga (k:Nat):CT:=⟨154,[.d (.sl (.st 1))],[],[⟨false,.d .bool,[]⟩],dX k⟩
abbrev xf:List Ty:=[.str,.sl (.st 1),.int .i64,.int .i64]
def oY (f:Option Int) (g:Nat) (e:List UInt8→List aC→Int→Int→Option Int) (c:List UInt8) (b:List aC) (d:Int) (a:Int):Option Int:=
 cond (bN a d) (bC (bT a b.length) (cond (seq (nth (default:aC) b a).Kind c) (some a) (e c b d (aQ .i64 a (1:Int))))) (f)
def gj (k:Nat) (a:List aC) (b:List UInt8):Option Int:=
 share (some (-1:Int)) fun (c:Option Int)=>iter (ts:=xf) (R:=Int) k (oY c) b a (a.length:Int) (0:Int)
def gL (k:Nat):CT:=⟨155,[.d (.sl (.st 1)),.d .str],[],[⟨false,.d (.int .i64),[]⟩],gj k⟩
abbrev xg:List Ty:=[.str,.sl (.st 0),.int .i64,.int .i64]
def oZ (f:Option Int) (g:Nat) (e:List UInt8→List aB→Int→Int→Option Int) (c:List UInt8) (b:List aB) (d:Int) (a:Int):Option Int:=
 cond (bN a d) (bC (bT a b.length) (cond (seq (nth (default:aB) b a).Name c) (some a) (e c b d (aQ .i64 a (1:Int))))) (f)
def fc (k:Nat) (a:List aB) (b:List UInt8):Option Int:=
 share (some (-1:Int)) fun (c:Option Int)=>iter (ts:=xg) (R:=Int) k (oZ c) b a (a.length:Int) (0:Int)
def gM (k:Nat):CT:=⟨179,[.d (.sl (.st 0)),.d .str],[],[⟨false,.d (.int .i64),[]⟩],fc k⟩
def iT (k:Nat) (c:List UInt8) (a:List aB):Option (Bool×(List aB)):=
 (fc k a c).bind fun b=>cond (b_ (0:Int) b) (bC (bT b a.length) (some ((!bM (nth (default:aB) a b).Kind (4:Int)),a))) (some (false,a))
def BZ (k:Nat):CT:=⟨178,[.d .str,.bp 0 0],[.box [.d (.sl (.st 0))]],[⟨false,.d .bool,[.box [.d (.sl (.st 0))]]⟩],iT k⟩
def yL (k:Nat) (q:List aB) (b:aD):Option Bool:=
 share (fun (a:aD) (n:Bool) (d:List aB)=>cond n (some false) (share (fun (h:aD) (o:Bool) (i:List aB)=>cond o (some false) (cond (seq h.rN ([]:List UInt8)) (some true) ((fc k i h.Field).bind fun j=>bC (bT j i.length) ((dV k (nth (default:aB) i j) h.rN).bind fun p=>some p)))) fun (e:aD→Bool→List aB→Option Bool)=>cond (seq a.cT a.Field) (e a true d) (cond (seq a.cA a.Field) (e a true d) (cond (seq a.cT ([]:List UInt8)) (cond (!seq a.Is ([]:List UInt8)) (e a true d) (e a (beq (seq a.rN ([]:List UInt8)) (seq a.cA ([]:List UInt8))) d)) (e a (beq (seq a.rN ([]:List UInt8)) (seq a.cA ([]:List UInt8))) d))))) fun (c:aD→Bool→List aB→Option Bool)=>(iT k b.Field q).bind fun f=>cond (!f.1) (c b true f.2) (cond (!seq b.cT ([]:List UInt8)) ((iT k b.cT f.2).bind fun g=>cond (!g.1) (c b true g.2) (cond (!seq b.cA ([]:List UInt8)) ((iT k b.cA g.2).bind fun l=>c b (!l.1) l.2) (c b false g.2))) (cond (!seq b.cA ([]:List UInt8)) ((iT k b.cA f.2).bind fun m=>c b (!m.1) m.2) (c b false f.2)))
def FP (k:Nat):CT:=⟨156,[.d (.sl (.st 0)),.d (.st 2)],[],[⟨false,.d .bool,[]⟩],yL k⟩
abbrev xh:List Ty:=[.str,.sl (.st 2),.int .i64,.int .i64,.sl (.st 2),.st 1,.sl .str]
def o4 (z:List aD→aC→List (List UInt8)→Option ((List (List UInt8))×(List aD)×aC)) (A:Nat) (r:List UInt8→List aD→Int→Int→List aD→aC→List (List UInt8)→Option ((List (List UInt8))×(List aD)×aC)) (f:List UInt8) (b:List aD) (g:Int) (a:Int) (h:List aD) (d:aC) (c:List (List UInt8)):Option ((List (List UInt8))×(List aD)×aC):=
 cond (bN a g) (share (fun (s:List UInt8) (t:List aD) (u:Int) (v:Int) (w:List aD) (x:aC) (y:List (List UInt8))=>r s t u (aQ .i64 v (1:Int)) w x y) fun (e:List UInt8→List aD→Int→Int→List aD→aC→List (List UInt8)→Option ((List (List UInt8))×(List aD)×aC))=>bC (bT a b.length) (cond (!seq (nth (default:aD) b a).Kind d.Kind) (e f b g a h d c) (cond (!seq (nth (default:aD) b a).Field f) (e f b g a h d c) (share (fun (k:List UInt8) (l:List aD) (m:Int) (n:Int) (o:List aD) (p:aC) (i:List (List UInt8)) (j:aD)=>cond (!seq j.cA ([]:List UInt8)) (bC (uF (i.length+([j.cA]:List (List UInt8)).length) 16) (e k l m n o p (i++([j.cA]:List (List UInt8))))) (e k l m n o p i)) fun (q:List UInt8→List aD→Int→Int→List aD→aC→List (List UInt8)→aD→Option ((List (List UInt8))×(List aD)×aC))=>cond (!seq (nth (default:aD) b a).cT ([]:List UInt8)) (bC (uF (c.length+([(nth (default:aD) b a).cT]:List (List UInt8)).length) 16) (q f b g a h d (c++([(nth (default:aD) b a).cT]:List (List UInt8))) (nth (default:aD) b a))) (q f b g a h d c (nth (default:aD) b a)))))) (z h d c)
def v8 (k:Nat) (f:List UInt8) (a:List aD) (g:aC):Option ((List (List UInt8))×(List aD)×aC):=
 share (fun (b:List aD) (c:aC) (d:List (List UInt8))=>some (d,b,c)) fun (e:List aD→aC→List (List UInt8)→Option ((List (List UInt8))×(List aD)×aC))=>iter (ts:=xh) (R:=(List (List UInt8))×(List aD)×aC) k (o4 e) f a (a.length:Int) (0:Int) a g []
def CW (k:Nat):CT:=⟨182,[.d .str,.bp 0 0,.bp 1 0],[.box [.d (.sl (.st 2))],.cq (.st 1)],[⟨false,.d (.sl .str),[.box [.d (.sl (.st 2))],.cq (.st 1)]⟩],v8 k⟩
abbrev iU:List Ty:=[.str,.sl .str,.int .i64,.int .i64,.sl (.st 15),.sl (.st 2),.st 1,.sl .str]
def dG (adY:Nat→List UInt8→List cb→List aD→aC→List (List UInt8)→Option (Bool×(List cb)×(List aD)×aC×(List (List UInt8)))) (j:List UInt8→List cb→List aD→aC→List (List UInt8)→Option (Bool×(List cb)×(List aD)×aC×(List (List UInt8)))) (k:Nat) (l:List UInt8→List (List UInt8)→Int→Int→List cb→List aD→aC→List (List UInt8)→Option (Bool×(List cb)×(List aD)×aC×(List (List UInt8)))) (d:List UInt8) (c:List (List UInt8)) (e:Int) (b:Int) (f:List cb) (g:List aD) (h:aC) (i:List (List UInt8)):Option (Bool×(List cb)×(List aD)×aC×(List (List UInt8))):=
 cond (bN b e) (bC (bT b c.length) ((adY k (nth ([]:List UInt8) c b) f g h i).bind fun a=>cond (!a.1) (some (false,a.2.1,a.2.2.1,a.2.2.2.1,a.2.2.2.2)) (l d c e (aQ .i64 b (1:Int)) a.2.1 a.2.2.1 a.2.2.2.1 a.2.2.2.2))) (j d f g h i)
def c9:Nat→Nat→List UInt8→List cb→List aD→aC→List (List UInt8)→Option (Bool×(List cb)×(List aD)×aC×(List (List UInt8)))
 | 0,_,_,_,_,_,_=>none
 | n+1,k,c,d,f,g,h=>
 cond (bM (l8 (fun p:cb=>seq c p.Key) (fun p:cb=>p.Mb) (0:Int) d) (1:Int)) (some (false,d,f,g,h)) (cond (bM (l8 (fun p:cb=>seq c p.Key) (fun p:cb=>p.Mb) (0:Int) d) (2:Int)) (some (true,d,f,g,h)) (share (fun (a:List UInt8) (i:List cb) (j:List aD) (l:aC) (e:List (List UInt8))=>bC (uF (e.length+([a]:List (List UInt8)).length) 16) (some (true,(nV (fun p:cb=>seq a p.Key) i (⟨a,(2:Int)⟩:cb)),j,l,(e++([a]:List (List UInt8)))))) fun (m:List UInt8→List cb→List aD→aC→List (List UInt8)→Option (Bool×(List cb)×(List aD)×aC×(List (List UInt8))))=>(v8 k c f g).bind fun b=>iter (ts:=iU) (R:=Bool×(List cb)×(List aD)×aC×(List (List UInt8))) k (dG (c9 n) m) c b.1 (b.1.length:Int) (0:Int) (nV (fun p:cb=>seq c p.Key) d (⟨c,(1:Int)⟩:cb)) b.2.1 b.2.2 h))
def kE (n k:Nat):CT:=⟨190,[.d .str,.bp 0 0,.bp 1 0,.bp 2 0,.bp 3 0],[.box [.mp 4],.box [.fn (.func 182) [] [.bp 5 0,.bp 6 0]],.box [.fn (.func 190) [] [.bp 0 0,.bp 1 0,.bp 2 0,.bp 3 0]],.box [.ow 7],.dmap 15,.box [.d (.sl (.st 2))],.cq (.st 1),.row .str .vs],[⟨false,.d .bool,[.box [.mp 4],.box [.fn (.func 182) [] [.bp 5 0,.bp 6 0]],.box [.fn (.func 190) [] [.bp 0 0,.bp 1 0,.bp 2 0,.bp 3 0]],.box [.ow 8],.dmap 15,.box [.d (.sl (.st 2))],.cq (.st 1),.gone,.row .str .vs]⟩],c9 n k⟩
def mr (k:Nat):CT:=kE k k
abbrev kF:List Ty:=[.sl .str,.int .i64,.int .i64,.sl (.st 2),.st 1,.sl .str,.sl (.st 15)]
def dC (i:List aD→aC→List (List UInt8)→Option ((List (List UInt8))×Bool×(List aD)×aC)) (d:Nat) (j:List (List UInt8)→Int→Int→List aD→aC→List (List UInt8)→List cb→Option ((List (List UInt8))×Bool×(List aD)×aC)) (c:List (List UInt8)) (e:Int) (b:Int) (f:List aD) (g:aC) (h:List (List UInt8)) (k:List cb):Option ((List (List UInt8))×Bool×(List aD)×aC):=
 cond (bN b e) (bC (bT b c.length) ((c9 d d (nth ([]:List UInt8) c b) k f g h).bind fun a=>cond (!a.1) (some ([],false,a.2.2.1,a.2.2.2.1)) (j c e (aQ .i64 b (1:Int)) a.2.2.1 a.2.2.2.1 a.2.2.2.2 a.2.1))) (i f g h)
def eW (k:Nat) (a:List (List UInt8)) (f:List aD) (g:aC):Option ((List (List UInt8))×Bool×(List aD)×aC):=
 share (fun (b:List aD) (c:aC) (d:List (List UInt8))=>some (d,true,b,c)) fun (e:List aD→aC→List (List UInt8)→Option ((List (List UInt8))×Bool×(List aD)×aC))=>iter (ts:=kF) (R:=(List (List UInt8))×Bool×(List aD)×aC) k (dC e) a (a.length:Int) (0:Int) f g ([]:List (List UInt8)) ([]:List cb)
def xj (k:Nat):CT:=⟨181,[.d (.sl .str),.fn (.func 182) [] [.bp 0 0,.bp 1 0]],[.box [.d (.sl (.st 2))],.cq (.st 1)],[⟨false,.n9 [.d (.sl .str),.d .bool],[.box [.d (.sl (.st 2))],.cq (.st 1)]⟩],eW k⟩
abbrev sE:List Ty:=[.sl (.st 0),.int .i64,.int .i64,.st 1,.sl (.st 2),.sl .str]
def ln (g:aC→List aD→List (List UInt8)→Option ((List (List UInt8))×Bool)) (i:Nat) (h:List aB→Int→Int→aC→List aD→List (List UInt8)→Option ((List (List UInt8))×Bool)) (b:List aB) (d:Int) (a:Int) (e:aC) (f:List aD) (c:List (List UInt8)):Option ((List (List UInt8))×Bool):=
 cond (bN a d) (bC (bT a b.length) (bC (uF (c.length+([(nth (default:aB) b a).Name]:List (List UInt8)).length) 16) (h b d (aQ .i64 a (1:Int)) e f (c++([(nth (default:aB) b a).Name]:List (List UInt8)))))) (g e f c)
def po (k:Nat) (b:aC) (g:List aD):Option ((List (List UInt8))×Bool):=
 share (fun (c:aC) (d:List aD) (e:List (List UInt8))=>(eW k e d c).bind fun a=>some (a.1,a.2.1)) fun (f:aC→List aD→List (List UInt8)→Option ((List (List UInt8))×Bool))=>iter (ts:=sE) (R:=(List (List UInt8))×Bool) k (ln f) b.aT (b.aT.length:Int) (0:Int) b g []
def HJ (k:Nat):CT:=⟨157,[.d (.st 1),.d (.sl (.st 2))],[],[⟨false,.n9 [.d (.sl .str),.d .bool],[]⟩],po k⟩
abbrev pT:List Ty:=[.sl (.st 2),.sl (.st 1),.int .i64,.int .i64]
def iE (e:Option Bool) (f:Nat) (g:List aD→List aC→Int→Int→Option Bool) (c:List aD) (b:List aC) (d:Int) (a:Int):Option Bool:=
 cond (bN a d) (bC (bT a b.length) ((po f (nth (default:aC) b a) c).bind fun h=>cond (!h.2) (some false) (g c b d (aQ .i64 a (1:Int))))) (e)
abbrev qY:List Ty:=[.sl (.st 1),.sl (.st 2),.sl (.st 2),.int .i64,.int .i64]
def jq (q:List aC→List aD→Option Bool) (g:Nat) (i:List aC→List aD→List aD→Int→Int→Option Bool) (a:List aC) (d:List aD) (c:List aD) (e:Int) (b:Int):Option Bool:=
 cond (bN b e) (bC (bT b c.length) ((gj g a (nth (default:aD) c b).Kind).bind fun f=>share (fun (j:List aC) (k:List aD) (l:List aD) (m:Int) (n:Int) (o:Bool)=>cond o (some false) (i j k l m (aQ .i64 n (1:Int)))) fun (h:List aC→List aD→List aD→Int→Int→Bool→Option Bool)=>cond (bN f (0:Int)) (h a d c e b true) (bC (bT f a.length) ((yL g (nth (default:aC) a f).aT (nth (default:aD) c b)).bind fun p=>h a d c e b (!p))))) (q a d)
def dN (k:Nat) (b:List aC) (c:List aD):Option Bool:=
 share (fun (j:List aC) (d:List aD) (l:Bool)=>cond l (some false) (share (fun (a:List aC) (f:List aD)=>share (some true) fun (g:Option Bool)=>iter (ts:=pT) (R:=Bool) k (iE g) f a (a.length:Int) (0:Int)) fun (h:List aC→List aD→Option Bool)=>iter (ts:=qY) (R:=Bool) k (jq h) j d d (d.length:Int) (0:Int))) fun (i:List aC→List aD→Bool→Option Bool)=>(dX k b).bind fun e=>cond (!e) (i b c true) (i b c (bN (12:Int) (c.length:Int)))
def eX (k:Nat):CT:=⟨120,[.d (.sl (.st 1)),.d (.sl (.st 2))],[],[⟨false,.d .bool,[]⟩],dN k⟩
abbrev yM:List Ty:=[.str,.sl (.st 3),.int .i64,.int .i64]
def qZ (f:Option Int) (g:Nat) (e:List UInt8→List aH→Int→Int→Option Int) (c:List UInt8) (b:List aH) (d:Int) (a:Int):Option Int:=
 cond (bN a d) (bC (bT a b.length) (cond (seq (nth (default:aH) b a).Name c) (some a) (e c b d (aQ .i64 a (1:Int))))) (f)
def ig (k:Nat) (a:List aH) (b:List UInt8):Option Int:=
 share (some (-1:Int)) fun (c:Option Int)=>iter (ts:=yM) (R:=Int) k (qZ c) b a (a.length:Int) (0:Int)
def oA (k:Nat):CT:=⟨123,[.d (.sl (.st 3)),.d .str],[],[⟨false,.d (.int .i64),[]⟩],ig k⟩
abbrev pU:List Ty:=[.sl (.st 3),.int .i64,.str,.sl (.st 3),.int .i64,.int .i64]
def iF (h:List aH→List aH→Int→Int→Option Bool) (i:Nat) (j:List aH→Int→List UInt8→List aH→Int→Int→Option Bool) (a:List aH) (b:Int) (c:List UInt8) (d:List aH) (e:Int) (f:Int):Option Bool:=
 cond (!seq c ([]:List UInt8)) (cond (bN (4:Int) (aQ .i64 b (1:Int))) (some false) ((ig i a c).bind fun g=>bC (bT g a.length) (j a (aQ .i64 b (1:Int)) (nth (default:aH) a g).gC d e f))) (h a d e f)
abbrev pV:List Ty:=[.sl (.st 3),.sl (.st 3),.int .i64,.int .i64]
def iG (d:Option Bool) (e:Nat) (f:List aH→List aH→Int→Int→Option Bool) (g:List aH) (b:List aH) (c:Int) (a:Int):Option Bool:=
 cond (bN a c) (share (fun (h:List aH) (i:List aH) (j:Int) (k:Int)=>f h i j (aQ .i64 k (1:Int))) fun (l:List aH→List aH→Int→Int→Option Bool)=>bC (bT a b.length) (iter (ts:=pU) (R:=Bool) e (iF l) g (0:Int) (nth (default:aH) b a).gC b c a)) (d)
abbrev q7:List Ty:=[.sl (.st 3),.sl (.st 3),.int .i64,.int .i64]
def jr (p:List aH→Option Bool) (f:Nat) (g:List aH→List aH→Int→Int→Option Bool) (c:List aH) (b:List aH) (d:Int) (a:Int):Option Bool:=
 cond (bN a d) (bC (bT a b.length) (share (fun (h:List aH) (i:List aH) (j:Int) (k:Int) (l:Bool)=>cond l (some false) (g h i j (aQ .i64 k (1:Int)))) fun (e:List aH→List aH→Int→Int→Bool→Option Bool)=>(cO f (nth (default:aH) b a).Name).bind fun m=>cond (!m) (e c b d a true) (cond (bN (0:Int) a) (bC (bT (bS .i64 a (1:Int)) c.length) (cond (!slt (nth (default:aH) c (bS .i64 a (1:Int))).Name (nth (default:aH) b a).Name) (e c b d a true) (cond (!seq (nth (default:aH) b a).gC ([]:List UInt8)) ((ig f c (nth (default:aH) b a).gC).bind fun n=>e c b d a (bN n (0:Int))) (e c b d a false)))) (cond (!seq (nth (default:aH) b a).gC ([]:List UInt8)) ((ig f c (nth (default:aH) b a).gC).bind fun o=>e c b d a (bN o (0:Int))) (e c b d a false))))) (p c)
def nr (k:Nat) (b:List aH):Option Bool:=
 cond (bN (12:Int) (b.length:Int)) (some false) (share (fun (a:List aH)=>share (some true) fun (c:Option Bool)=>iter (ts:=pV) (R:=Bool) k (iG c) a a (a.length:Int) (0:Int)) fun (d:List aH→Option Bool)=>iter (ts:=q7) (R:=Bool) k (jr d) b b (b.length:Int) (0:Int))
def xk (k:Nat):CT:=⟨121,[.d (.sl (.st 3))],[],[⟨false,.d .bool,[]⟩],nr k⟩
def p9 (k:Nat) (a:aL):Option Bool:=
 (dN k a.bX a.gH).bind fun b=>cond b ((nr k a.dS).bind fun c=>some c) (some false)
def zQ (k:Nat):CT:=⟨83,[.d (.st 4)],[],[⟨false,.d .bool,[]⟩],p9 k⟩
def gz (k:Nat) (a:List aC) (c:aA):Option ((List aB)×Bool):=
 (gj k a c.Kind).bind fun b=>share (fun (d:List aC) (e:Int) (g:Bool)=>cond g (some ([],false)) (bC (bT e d.length) (some ((nth (default:aC) d e).aT,true)))) fun (f:List aC→Int→Bool→Option ((List aB)×Bool))=>cond (bN b (0:Int)) (f a b true) (bC (bT b a.length) (f a b (!bM (c.aN.length:Int) ((nth (default:aC) a b).aT.length:Int))))
def h_ (k:Nat):CT:=⟨137,[.d (.sl (.st 1)),.d (.st 5)],[],[⟨false,.n9 [.d (.sl (.st 0)),.d .bool],[]⟩],gz k⟩
abbrev q8:List Ty:=[.st 5,.sl (.st 0),.int .i64,.int .i64]
def js (w:Option (Unit ⊕ (cV ⊕ cV))) (l:Nat) (m:aA→List aB→Int→Int→Option (Unit ⊕ (cV ⊕ cV))) (e:aA) (c:List aB) (f:Int) (a:Int):Option (Unit ⊕ (cV ⊕ cV)):=
 cond (bN a f) (bC (bT a c.length) (share (fun (d:aA) (b:Int) (g:List aB) (h:Int) (i:Int) (n:Bool) (o:aB)=>cond n (some (.inr (.inl (⟨(2:Int),b⟩:cV)))) (share (fun (p:aA) (q:Int) (r:List aB) (s:Int) (t:Int) (u:Bool)=>cond u (some (.inr (.inl (⟨(3:Int),q⟩:cV)))) (m p r s (aQ .i64 t (1:Int)))) fun (j:aA→Int→List aB→Int→Int→Bool→Option (Unit ⊕ (cV ⊕ cV)))=>bC (bT b d.aN.length) (cond (!seq (nth ([]:List UInt8) d.aN b) ([]:List UInt8)) (bC (bT b d.aN.length) ((dV l o (nth ([]:List UInt8) d.aN b)).bind fun v=>j d b g h i (!v))) (j d b g h i false)))) fun (k:aA→Int→List aB→Int→Int→Bool→aB→Option (Unit ⊕ (cV ⊕ cV)))=>cond (nth (default:aB) c a).cN (bC (bT a e.aN.length) (k e a c f a (seq (nth ([]:List UInt8) e.aN a) ([]:List UInt8)) (nth (default:aB) c a))) (k e a c f a false (nth (default:aB) c a)))) (w)
def ns (k:Nat) (d:List aC) (a:aA):Option (Unit ⊕ (cV ⊕ cV)):=
 (gz k d a).bind fun b=>share (some (.inl ())) fun (c:Option (Unit ⊕ (cV ⊕ cV)))=>iter (ts:=q8) (R:=Unit ⊕ (cV ⊕ cV)) k (js c) a b.1 (b.1.length:Int) (0:Int)
def xm (k:Nat):CT:=⟨159,[.d (.sl (.st 1)),.d (.st 5)],[],[⟨false,.Ol,[]⟩,⟨false,.nX 224 (.fp (.st 12) 0),[]⟩,⟨false,.nX 224 (.fp (.st 12) 0),[]⟩],ns k⟩
def O_ (_k:Nat) (a:cV):Option (Bool×cV):=some (true,a)
def KP (k:Nat):CT:=⟨183,[.nX 224 (.fp (.st 12) 0),.nX 228 (.bp 0 0)],[.box [.any]],[⟨false,.d .bool,[.box [.fp (.st 12) 0]]⟩],O_ k⟩
def zR (k:Nat) (b:cV):Option (Int×Int):=
 (O_ k b).bind fun a=>cond a.1 (some (a.2.code,a.2.place)) (some ((0:Int),(0:Int)))
def KQ (k:Nat):CT:=⟨160,[.nX 224 (.fp (.st 12) 0)],[],[⟨false,.n9 [.d (.int .i64),.d (.int .i64)],[]⟩],zR k⟩
def q9 (k:Nat) (c:List aC) (b:aA):Option (cV ⊕ Unit):=
 (gz k c b).bind fun i=>share (fun (d:Bool)=>cond d (some (.inl (⟨(1:Int),(0:Int)⟩:cV))) (some (.inr ()))) fun (a:Bool→Option (cV ⊕ Unit))=>cond (!i.2) (a true) ((dX k c).bind fun e=>cond (!e) (a true) ((cO k b.Name).bind fun f=>cond (!f) (a true) ((cO k b.aX).bind fun g=>cond (!g) (a true) (cond (bN (3:Int) (b.b6.length:Int)) (a true) ((eA k b.b6).bind fun h=>cond (!h) (a true) (cond (bN b.Version (0:Int)) (a true) (a (bN (1000000:Int) b.Version))))))))
def zS (k:Nat):CT:=⟨158,[.d (.sl (.st 1)),.d (.st 5)],[],[⟨false,.nX 224 (.fp (.st 12) 0),[]⟩,⟨false,.Ol,[]⟩],q9 k⟩
abbrev CX:List Ty:=[.sl (.st 1),.st 5,.int .i64,.int .i64]
def yN (j:Option (Int×Int)) (a:Nat) (k:List aC→aA→Int→Int→Option (Int×Int)) (c:List aC) (d:aA) (e:Int) (b:Int):Option (Int×Int):=
 cond (bN b e) (share (fun (l:List aC) (m:aA) (n:Int) (o:Int)=>k l m n (aQ .i64 o (1:Int))) fun (f:List aC→aA→Int→Int→Option (Int×Int))=>cond (bM b 0) ((q9 a c d).bind fun p=>xe p (fun q=>(zR a q).bind fun g=>some (g.1,g.2)) (fun v=>f c d e b)) (cond (bM b 1) ((ns a c d).bind fun r=>xe r (fun w=>f c d e b) (fun s=>xe s (fun t=>(zR a t).bind fun h=>some (h.1,h.2)) (fun u=>(zR a u).bind fun i=>some (i.1,i.2)))) (none))) (j)
def p5 (k:Nat) (b:List aC) (c:aA):Option (Int×Int):=
 share (some ((0:Int),(0:Int))) fun (a:Option (Int×Int))=>iter (ts:=CX) (R:=Int×Int) k (yN a) b c (2:Int) (0:Int)
def zT (k:Nat):CT:=⟨122,[.d (.sl (.st 1)),.d (.st 5)],[],[⟨false,.n9 [.d (.int .i64),.d (.int .i64)],[]⟩],p5 k⟩
def mv (_k:Nat) (a:List (List UInt8)):Option (List (List UInt8)):=
 cond (bM (a.length:Int) (0:Int)) (some []) (bC (Ej (a.length:Int) (a.length:Int) 16) (bC (leq a.length (List.replicate (Int.toNat (a.length:Int)) ([]:List UInt8)).length) (some a)))
def zU (k:Nat):CT:=⟨184,[.d (.sl .str)],[],[⟨false,.d (.sl .str),[]⟩],mv k⟩
def iH (k:Nat) (a:aA):Option aA:=
 (mv k a.aN).bind fun b=>(mv k a.b6).bind fun c=>some (⟨a.Kind,a.Name,a.aX,b,a.Ending,c,a.Version⟩:aA)
def q_ (k:Nat):CT:=⟨161,[.d (.st 5)],[],[⟨false,.d (.st 5),[]⟩],iH k⟩
def jQ (_k:Nat) (a:List (List UInt8)):Option (List (List UInt8)):=
 cond (bM (a.length:Int) (0:Int)) (some []) (bC (Ej (a.length:Int) (a.length:Int) 16) (bC (leq a.length (List.replicate (Int.toNat (a.length:Int)) ([]:List UInt8)).length) (some a)))
def xn (k:Nat):CT:=⟨184,[.d (.sl .str)],[],[⟨false,.ow 0,[.row .str .vs]⟩],jQ k⟩
def cQ (k:Nat) (a:aA):Option ((List UInt8)×(List UInt8)×(List UInt8)×Bool×Int×(List (List UInt8))×(List (List UInt8))):=
 (jQ k a.aN).bind fun b=>(jQ k a.b6).bind fun c=>some (a.Kind,a.Name,a.aX,a.Ending,a.Version,b,c)
def da (k:Nat):CT:=⟨161,[.d (.st 5)],[],[⟨false,.agg [.d .str,.d .str,.d .str,.ow 0,.d .bool,.ow 1,.d (.int .i64)],[.row .str .vs,.row .str .vs]⟩],cQ k⟩
def Lt (k:Nat) (a:List aC) (c:List UInt8) (d:List UInt8) (e:List UInt8) (f:Bool) (g:Int) (h:List (List UInt8)) (i:List (List UInt8)):Option ((List aB)×Bool):=
 (gj k a (⟨c,d,e,h,f,i,g⟩:aA).Kind).bind fun b=>share (fun (j:List aC) (l:Int) (n:Bool)=>cond n (some ([],false)) (bC (bT l j.length) (some ((nth (default:aC) j l).aT,true)))) fun (m:List aC→Int→Bool→Option ((List aB)×Bool))=>cond (bN b (0:Int)) (m a b true) (bC (bT b a.length) (m a b (!bM ((⟨c,d,e,h,f,i,g⟩:aA).aN.length:Int) ((nth (default:aC) a b).aT.length:Int))))
def HK (k:Nat):CT:=⟨137,[.d (.sl (.st 1)),.agg [.d .str,.d .str,.d .str,.ow 0,.d .bool,.ow 1,.d (.int .i64)]],[.row .str .vs,.row .str .vs],[⟨false,.n9 [.d (.sl (.st 0)),.d .bool],[.gone,.gone]⟩],Lt k⟩
def fU (k:Nat) (a:List aC) (l:List UInt8) (m:List UInt8) (n:List UInt8) (o:Bool) (p:Int) (f:List (List UInt8)) (g:List (List UInt8)):Option ((List aB)×Bool×(List (List UInt8))×(List (List UInt8))):=
 (gj k a l).bind fun b=>share (fun (h:List aC) (i:Int) (j:Bool) (c:List (List UInt8)) (d:List (List UInt8))=>cond j (some ([],false,c,d)) (bC (bT i h.length) (some ((nth (default:aC) h i).aT,true,c,d)))) fun (e:List aC→Int→Bool→List (List UInt8)→List (List UInt8)→Option ((List aB)×Bool×(List (List UInt8))×(List (List UInt8))))=>cond (bN b (0:Int)) (e a b true f g) (bC (bT b a.length) (e a b (!bM (f.length:Int) ((nth (default:aC) a b).aT.length:Int)) f g))
def iI (k:Nat):CT:=⟨137,[.d (.sl (.st 1)),.agg [.d .str,.d .str,.d .str,.ow 0,.d .bool,.ow 1,.d (.int .i64)]],[.row .str .vs,.row .str .vs],[⟨false,.n9 [.d (.sl (.st 0)),.d .bool],[.row .str .vs,.row .str .vs]⟩],fU k⟩
abbrev vH:List Ty:=[.sl (.st 0),.int .i64,.int .i64,.str,.str,.str,.bool,.int .i64,.st 5,.sl .str,.sl .str]
def nu (y:List UInt8→List UInt8→List UInt8→Bool→Int→aA→List (List UInt8)→List (List UInt8)→Option aA) (z:Nat) (m:List aB→Int→Int→List UInt8→List UInt8→List UInt8→Bool→Int→aA→List (List UInt8)→List (List UInt8)→Option aA) (c:List aB) (d:Int) (a:Int) (e:List UInt8) (f:List UInt8) (g:List UInt8) (h:Bool) (i:Int) (j:aA) (b:List (List UInt8)) (k:List (List UInt8)):Option aA:=
 cond (bN a d) (share (fun (n:List aB) (o:Int) (p:Int) (q:List UInt8) (r:List UInt8) (s:List UInt8) (t:Bool) (u:Int) (v:aA) (w:List (List UInt8)) (x:List (List UInt8))=>m n o (aQ .i64 p (1:Int)) q r s t u v w x) fun (l:List aB→Int→Int→List UInt8→List UInt8→List UInt8→Bool→Int→aA→List (List UInt8)→List (List UInt8)→Option aA)=>bC (bT a c.length) (bC (bT a b.length) (cond (seq (nth ([]:List UInt8) b a) ([]:List UInt8)) (bC (bT a b.length) (l c d a e f g h i j (g8 b a (nth (default:aB) c a).Default) k)) (l c d a e f g h i j b k)))) (y e f g h i j b k)
def tr (k:Nat) (n:List aC) (y:aA):Option aA:=
 (cQ k y).bind fun a=>(fU k n a.1 a.2.1 a.2.2.1 a.2.2.2.1 a.2.2.2.2.1 a.2.2.2.2.2.1 a.2.2.2.2.2.2).bind fun b=>bC (leq b.2.2.1.length a.2.2.2.2.2.1.length) (bC (leq b.2.2.2.length a.2.2.2.2.2.2.length) (share (fun (c:List aB) (o:Bool) (d:List UInt8) (e:List UInt8) (f:List UInt8) (g:Bool) (h:Int) (p:aA) (i:List (List UInt8)) (j:List (List UInt8))=>cond o (some (⟨d,e,f,i,g,j,h⟩:aA)) (share (fun (q:List UInt8) (r:List UInt8) (s:List UInt8) (t:Bool) (u:Int) (z:aA) (v:List (List UInt8)) (w:List (List UInt8))=>some (⟨q,r,s,v,t,w,u⟩:aA)) fun (x:List UInt8→List UInt8→List UInt8→Bool→Int→aA→List (List UInt8)→List (List UInt8)→Option aA)=>iter (ts:=vH) (R:=aA) k (nu x) c (c.length:Int) (0:Int) d e f g h p i j)) fun (l:List aB→Bool→List UInt8→List UInt8→List UInt8→Bool→Int→aA→List (List UInt8)→List (List UInt8)→Option aA)=>cond (!b.2.1) (l b.1 true a.1 a.2.1 a.2.2.1 a.2.2.2.1 a.2.2.2.2.1 (⟨([]:List UInt8),([]:List UInt8),([]:List UInt8),[],false,[],(0:Int)⟩:aA) b.2.2.1 b.2.2.2) ((dX k n).bind fun m=>l b.1 (!m) a.1 a.2.1 a.2.2.1 a.2.2.2.1 a.2.2.2.2.1 (⟨([]:List UInt8),([]:List UInt8),([]:List UInt8),[],false,[],(0:Int)⟩:aA) b.2.2.1 b.2.2.2)))
def B0 (k:Nat):CT:=⟨163,[.d (.sl (.st 1)),.d (.st 5)],[],[⟨false,.d (.st 5),[]⟩],tr k⟩
def HL (k:Nat) (d:List UInt8) (a:aA) (b:List aB):Option ((List UInt8)×aA×(List aB)):=
 (fc k b d).bind fun c=>bC (bT c a.aN.length) (some ((nth ([]:List UInt8) a.aN c),a,b))
def EK (k:Nat):CT:=⟨185,[.d .str,.bp 0 0,.bp 1 0],[.cq (.st 5),.box [.d (.sl (.st 0))]],[⟨false,.d .str,[.cq (.st 5),.box [.d (.sl (.st 0))]]⟩],HL k⟩
abbrev CY:List Ty:=[.str,.sl (.st 2),.int .i64,.int .i64,.sl (.st 2),.st 1,.sl .str]
def HM (z:List aD→aC→List (List UInt8)→Option ((List aD)×aC×(List (List UInt8)))) (A:Nat) (r:List UInt8→List aD→Int→Int→List aD→aC→List (List UInt8)→Option ((List aD)×aC×(List (List UInt8)))) (f:List UInt8) (b:List aD) (g:Int) (a:Int) (h:List aD) (d:aC) (c:List (List UInt8)):Option ((List aD)×aC×(List (List UInt8))):=
 cond (bN a g) (share (fun (s:List UInt8) (t:List aD) (u:Int) (v:Int) (w:List aD) (x:aC) (y:List (List UInt8))=>r s t u (aQ .i64 v (1:Int)) w x y) fun (e:List UInt8→List aD→Int→Int→List aD→aC→List (List UInt8)→Option ((List aD)×aC×(List (List UInt8))))=>bC (bT a b.length) (cond (!seq (nth (default:aD) b a).Kind d.Kind) (e f b g a h d c) (cond (!seq (nth (default:aD) b a).Field f) (e f b g a h d c) (share (fun (k:List UInt8) (l:List aD) (m:Int) (n:Int) (o:List aD) (p:aC) (i:List (List UInt8)) (j:aD)=>cond (!seq j.cA ([]:List UInt8)) (bC (uF (i.length+([j.cA]:List (List UInt8)).length) 16) (e k l m n o p (i++([j.cA]:List (List UInt8))))) (e k l m n o p i)) fun (q:List UInt8→List aD→Int→Int→List aD→aC→List (List UInt8)→aD→Option ((List aD)×aC×(List (List UInt8))))=>cond (!seq (nth (default:aD) b a).cT ([]:List UInt8)) (bC (uF (c.length+([(nth (default:aD) b a).cT]:List (List UInt8)).length) 16) (q f b g a h d (c++([(nth (default:aD) b a).cT]:List (List UInt8))) (nth (default:aD) b a))) (q f b g a h d c (nth (default:aD) b a)))))) (z h d c)
def Ml (k:Nat) (f:List UInt8) (a:List aD) (g:aC):Option ((List aD)×aC×(List (List UInt8))):=
 share (fun (b:List aD) (c:aC) (d:List (List UInt8))=>some (b,c,d)) fun (e:List aD→aC→List (List UInt8)→Option ((List aD)×aC×(List (List UInt8))))=>iter (ts:=CY) (R:=(List aD)×aC×(List (List UInt8))) k (HM e) f a (a.length:Int) (0:Int) a g []
def Jn (k:Nat):CT:=⟨182,[.d .str,.bp 0 0,.bp 1 0],[.box [.d (.sl (.st 2))],.cq (.st 1)],[⟨false,.ow 2,[.box [.d (.sl (.st 2))],.cq (.st 1),.row .str .vs]⟩],Ml k⟩
abbrev oB:List Ty:=[.sl .str,.int .i64,.int .i64,.sl (.st 2),.st 1,.sl .str,.sl (.st 15)]
def lz (i:List aD→aC→List (List UInt8)→Option (Bool×(List aD)×aC×(List (List UInt8)))) (d:Nat) (j:List (List UInt8)→Int→Int→List aD→aC→List (List UInt8)→List cb→Option (Bool×(List aD)×aC×(List (List UInt8)))) (c:List (List UInt8)) (e:Int) (b:Int) (f:List aD) (g:aC) (h:List (List UInt8)) (k:List cb):Option (Bool×(List aD)×aC×(List (List UInt8))):=
 cond (bN b e) (bC (bT b c.length) ((c9 d d (nth ([]:List UInt8) c b) k f g h).bind fun a=>cond (!a.1) (some (false,a.2.2.1,a.2.2.2.1,[])) (j c e (aQ .i64 b (1:Int)) a.2.2.1 a.2.2.2.1 a.2.2.2.2 a.2.1))) (i f g h)
def pq (k:Nat) (a:List (List UInt8)) (f:List aD) (g:aC):Option (Bool×(List aD)×aC×(List (List UInt8))):=
 share (fun (b:List aD) (c:aC) (d:List (List UInt8))=>some (true,b,c,d)) fun (e:List aD→aC→List (List UInt8)→Option (Bool×(List aD)×aC×(List (List UInt8))))=>iter (ts:=oB) (R:=Bool×(List aD)×aC×(List (List UInt8))) k (lz e) a (a.length:Int) (0:Int) f g ([]:List (List UInt8)) ([]:List cb)
def uj (k:Nat):CT:=⟨181,[.d (.sl .str),.fn (.func 182) [] [.bp 0 0,.bp 1 0]],[.box [.d (.sl (.st 2))],.cq (.st 1)],[⟨false,.n9 [.ow 2,.d .bool],[.box [.d (.sl (.st 2))],.cq (.st 1),.row .str .vs]⟩],pq k⟩
abbrev xo:List Ty:=[.sl (.st 0),.int .i64,.int .i64,.st 1,.sl (.st 2),.sl .str]
def uJ (g:aC→List aD→List (List UInt8)→Option (Bool×(List (List UInt8)))) (i:Nat) (h:List aB→Int→Int→aC→List aD→List (List UInt8)→Option (Bool×(List (List UInt8)))) (b:List aB) (d:Int) (a:Int) (e:aC) (f:List aD) (c:List (List UInt8)):Option (Bool×(List (List UInt8))):=
 cond (bN a d) (bC (bT a b.length) (bC (uF (c.length+([(nth (default:aB) b a).Name]:List (List UInt8)).length) 16) (h b d (aQ .i64 a (1:Int)) e f (c++([(nth (default:aB) b a).Name]:List (List UInt8)))))) (g e f c)
def qk (k:Nat) (b:aC) (g:List aD):Option (Bool×(List (List UInt8))):=
 share (fun (c:aC) (d:List aD) (e:List (List UInt8))=>(pq k e d c).bind fun a=>some (a.1,a.2.2.2)) fun (f:aC→List aD→List (List UInt8)→Option (Bool×(List (List UInt8))))=>iter (ts:=xo) (R:=Bool×(List (List UInt8))) k (uJ f) b.aT (b.aT.length:Int) (0:Int) b g []
def xp (k:Nat):CT:=⟨157,[.d (.st 1),.d (.sl (.st 2))],[],[⟨false,.n9 [.ow 0,.d .bool],[.row .str .vs]⟩],qk k⟩
def cF (k:Nat) (d:List UInt8) (e:List UInt8) (f:List UInt8) (g:List UInt8) (h:Bool) (i:Int) (b:List aB) (a:List (List UInt8)) (j:List (List UInt8)):Option ((List UInt8)×(List UInt8)×(List UInt8)×(List UInt8)×Bool×Int×(List aB)×(List (List UInt8))×(List (List UInt8))):=
 (fc k b d).bind fun c=>bC (bT c a.length) (some ((nth ([]:List UInt8) a c),e,f,g,h,i,b,a,j))
def lB (k:Nat):CT:=⟨185,[.d .str,.bp 0 0,.bp 1 0],[.box [.d .str,.d .str,.d .str,.ow 2,.d .bool,.ow 3,.d (.int .i64)],.box [.d (.sl (.st 0))],.row .str .vs,.row .str .vs],[⟨false,.d .str,[.box [.d .str,.d .str,.d .str,.ow 2,.d .bool,.ow 3,.d (.int .i64)],.box [.d (.sl (.st 0))],.row .str .vs,.row .str .vs]⟩],cF k⟩
abbrev gv:List Ty:=[.sl (.st 2),.str,.int .i64,.int .i64,.sl (.st 2),.int .i64,.int .i64,.str,.str,.str,.bool,.int .i64,.st 5,.sl (.st 0),.sl .str,.sl .str,.sl .str]
def eB (B:List aD→Int→Int→List UInt8→List UInt8→List UInt8→Bool→Int→aA→List aB→List (List UInt8)→List (List UInt8)→List (List UInt8)→Option aA) (v:Nat) (S:List aD→List UInt8→Int→Int→List aD→Int→Int→List UInt8→List UInt8→List UInt8→Bool→Int→aA→List aB→List (List UInt8)→List (List UInt8)→List (List UInt8)→Option aA) (g:List aD) (h:List UInt8) (i:Int) (j:Int) (c:List aD) (p:Int) (b:Int) (o:List UInt8) (q:List UInt8) (r:List UInt8) (s:Bool) (t:Int) (k:aA) (u:List aB) (l:List (List UInt8)) (m:List (List UInt8)) (n:List (List UInt8)):Option aA:=
 cond (bN b p) (share (fun (T:List aD) (U:List UInt8) (V:Int) (W:Int) (X:List aD) (Y:Int) (Z:Int) (aa:List UInt8) (ab:List UInt8) (ad:List UInt8) (ae:Bool) (af:Int) (ag:aA) (ah:List aB) (ai:List (List UInt8)) (aj:List (List UInt8)) (ak:List (List UInt8))=>S T U V W X Y (aQ .i64 Z (1:Int)) aa ab ad ae af ag ah ai aj ak) fun (w:List aD→List UInt8→Int→Int→List aD→Int→Int→List UInt8→List UInt8→List UInt8→Bool→Int→aA→List aB→List (List UInt8)→List (List UInt8)→List (List UInt8)→Option aA)=>bC (bT b c.length) (cond (!seq (nth (default:aD) c b).Kind o) (w g h i j c p b o q r s t k u l m n) (cond (!seq (nth (default:aD) c b).Field h) (w g h i j c p b o q r s t k u l m n) (share (fun (C:List aD) (D:List UInt8) (E:Int) (F:Int) (G:List UInt8) (H:List UInt8) (I:List UInt8) (J:Bool) (K:Int) (L:aA) (M:List aB) (y:aD) (N:List (List UInt8)) (z:List (List UInt8)) (A:List (List UInt8))=>share (fun (al:List aD) (an:List UInt8) (ao:List UInt8) (aq:Int) (ar:Int) (au:List UInt8) (av:List UInt8) (aw:List UInt8) (ax:Bool) (ay:Int) (az:aA) (O:List aB) (a0:List (List UInt8)) (P:List (List UInt8)) (a1:List (List UInt8))=>(fc v O an).bind fun Q=>bC (bT Q P.length) (B al aq ar au av aw ax ay az O a0 (g8 P Q ao) a1)) fun (R:List aD→List UInt8→List UInt8→Int→Int→List UInt8→List UInt8→List UInt8→Bool→Int→aA→List aB→List (List UInt8)→List (List UInt8)→List (List UInt8)→Option aA)=>cond (!seq y.cA ([]:List UInt8)) ((cF v y.cA G H I J K M z A).bind fun f=>bC (leq f.2.2.2.2.2.2.2.1.length z.length) (bC (leq f.2.2.2.2.2.2.2.2.length A.length) (R C D f.1 E F f.2.1 f.2.2.1 f.2.2.2.1 f.2.2.2.2.1 f.2.2.2.2.2.1 L f.2.2.2.2.2.2.1 N f.2.2.2.2.2.2.2.1 f.2.2.2.2.2.2.2.2))) (R C D y.rN E F G H I J K L M N z A)) fun (x:List aD→List UInt8→Int→Int→List UInt8→List UInt8→List UInt8→Bool→Int→aA→List aB→aD→List (List UInt8)→List (List UInt8)→List (List UInt8)→Option aA)=>cond (!seq (nth (default:aD) c b).cT ([]:List UInt8)) ((cF v (nth (default:aD) c b).cT o q r s t u m n).bind fun a=>bC (leq a.2.2.2.2.2.2.2.1.length m.length) (bC (leq a.2.2.2.2.2.2.2.2.length n.length) (cond (!seq a.1 (nth (default:aD) c b).Is) (w g h i j c p b a.2.1 a.2.2.1 a.2.2.2.1 a.2.2.2.2.1 a.2.2.2.2.2.1 k a.2.2.2.2.2.2.1 l a.2.2.2.2.2.2.2.1 a.2.2.2.2.2.2.2.2) (cond (!seq (nth (default:aD) c b).cA ([]:List UInt8)) ((cF v (nth (default:aD) c b).cA a.2.1 a.2.2.1 a.2.2.2.1 a.2.2.2.2.1 a.2.2.2.2.2.1 a.2.2.2.2.2.2.1 a.2.2.2.2.2.2.2.1 a.2.2.2.2.2.2.2.2).bind fun d=>bC (leq d.2.2.2.2.2.2.2.1.length a.2.2.2.2.2.2.2.1.length) (bC (leq d.2.2.2.2.2.2.2.2.length a.2.2.2.2.2.2.2.2.length) (cond (seq d.1 ([]:List UInt8)) (w g h i j c p b d.2.1 d.2.2.1 d.2.2.2.1 d.2.2.2.2.1 d.2.2.2.2.2.1 k d.2.2.2.2.2.2.1 l d.2.2.2.2.2.2.2.1 d.2.2.2.2.2.2.2.2) (x g h i j d.2.1 d.2.2.1 d.2.2.2.1 d.2.2.2.2.1 d.2.2.2.2.2.1 k d.2.2.2.2.2.2.1 (nth (default:aD) c b) l d.2.2.2.2.2.2.2.1 d.2.2.2.2.2.2.2.2)))) (x g h i j a.2.1 a.2.2.1 a.2.2.2.1 a.2.2.2.2.1 a.2.2.2.2.2.1 k a.2.2.2.2.2.2.1 (nth (default:aD) c b) l a.2.2.2.2.2.2.2.1 a.2.2.2.2.2.2.2.2))))) (cond (!seq (nth (default:aD) c b).cA ([]:List UInt8)) ((cF v (nth (default:aD) c b).cA o q r s t u m n).bind fun e=>bC (leq e.2.2.2.2.2.2.2.1.length m.length) (bC (leq e.2.2.2.2.2.2.2.2.length n.length) (cond (seq e.1 ([]:List UInt8)) (w g h i j c p b e.2.1 e.2.2.1 e.2.2.2.1 e.2.2.2.2.1 e.2.2.2.2.2.1 k e.2.2.2.2.2.2.1 l e.2.2.2.2.2.2.2.1 e.2.2.2.2.2.2.2.2) (x g h i j e.2.1 e.2.2.1 e.2.2.2.1 e.2.2.2.2.1 e.2.2.2.2.2.1 k e.2.2.2.2.2.2.1 (nth (default:aD) c b) l e.2.2.2.2.2.2.2.1 e.2.2.2.2.2.2.2.2)))) (x g h i j o q r s t k u (nth (default:aD) c b) l m n)))))) (B g i j o q r s t k u l m n)
abbrev sm:List Ty:=[.sl (.st 2),.int .i64,.int .i64,.str,.str,.str,.bool,.int .i64,.st 5,.sl (.st 0),.sl .str,.sl .str,.sl .str]
def kG (D:List UInt8→List UInt8→List UInt8→Bool→Int→aA→List (List UInt8)→List (List UInt8)→Option aA) (m:Nat) (n:List aD→Int→Int→List UInt8→List UInt8→List UInt8→Bool→Int→aA→List aB→List (List UInt8)→List (List UInt8)→List (List UInt8)→Option aA) (b:List aD) (d:Int) (a:Int) (e:List UInt8) (f:List UInt8) (g:List UInt8) (h:Bool) (i:Int) (j:aA) (o:List aB) (c:List (List UInt8)) (k:List (List UInt8)) (l:List (List UInt8)):Option aA:=
 cond (bN a d) (share (fun (p:List aD) (q:Int) (r:Int) (s:List UInt8) (t:List UInt8) (u:List UInt8) (v:Bool) (w:Int) (x:aA) (y:List aB) (z:List (List UInt8)) (A:List (List UInt8)) (B:List (List UInt8))=>n p q (aQ .i64 r (1:Int)) s t u v w x y z A B) fun (C:List aD→Int→Int→List UInt8→List UInt8→List UInt8→Bool→Int→aA→List aB→List (List UInt8)→List (List UInt8)→List (List UInt8)→Option aA)=>bC (bT a c.length) (iter (ts:=gv) (R:=aA) m (eB C) b (nth ([]:List UInt8) c a) d a b (b.length:Int) (0:Int) e f g h i j o c k l)) (D e f g h i j k l)
def o5 (k:Nat) (e:List aC) (r:List aD) (D:aA):Option aA:=
 (cQ k D).bind fun a=>(fU k e a.1 a.2.1 a.2.2.1 a.2.2.2.1 a.2.2.2.2.1 a.2.2.2.2.2.1 a.2.2.2.2.2.2).bind fun b=>bC (leq b.2.2.1.length a.2.2.2.2.2.1.length) (bC (leq b.2.2.2.length a.2.2.2.2.2.2.length) (share (fun (c:List aC) (g:List aD) (A:Bool) (d:List UInt8) (h:List UInt8) (i:List UInt8) (j:Bool) (l:Int) (B:aA) (C:List aB) (m:List (List UInt8)) (n:List (List UInt8))=>cond A (some (⟨d,h,i,m,j,n,l⟩:aA)) ((gj k c d).bind fun o=>bC (bT o c.length) ((qk k (nth (default:aC) c o) g).bind fun p=>share (fun (s:List UInt8) (t:List UInt8) (u:List UInt8) (v:Bool) (w:Int) (E:aA) (x:List (List UInt8)) (y:List (List UInt8))=>some (⟨s,t,u,x,v,y,w⟩:aA)) fun (z:List UInt8→List UInt8→List UInt8→Bool→Int→aA→List (List UInt8)→List (List UInt8)→Option aA)=>iter (ts:=sm) (R:=aA) k (kG z) g (p.2.length:Int) (0:Int) d h i j l B C p.2 m n))) fun (q:List aC→List aD→Bool→List UInt8→List UInt8→List UInt8→Bool→Int→aA→List aB→List (List UInt8)→List (List UInt8)→Option aA)=>cond (!b.2.1) (q e r true a.1 a.2.1 a.2.2.1 a.2.2.2.1 a.2.2.2.2.1 (⟨([]:List UInt8),([]:List UInt8),([]:List UInt8),[],false,[],(0:Int)⟩:aA) b.1 b.2.2.1 b.2.2.2) ((dN k e r).bind fun f=>q e r (!f) a.1 a.2.1 a.2.2.1 a.2.2.2.1 a.2.2.2.2.1 (⟨([]:List UInt8),([]:List UInt8),([]:List UInt8),[],false,[],(0:Int)⟩:aA) b.1 b.2.2.1 b.2.2.2)))
def yO (k:Nat):CT:=⟨162,[.d (.sl (.st 1)),.d (.sl (.st 2)),.d (.st 5)],[],[⟨false,.d (.st 5),[]⟩],o5 k⟩
def oF (k:Nat) (a:List aC) (b:List aD) (c:aA):Option aA:=
 (dN k a b).bind fun d=>cond (!d) ((iH k c).bind fun e=>some e) ((tr k a c).bind fun f=>(o5 k a b f).bind fun g=>some g)
def yP (k:Nat):CT:=⟨125,[.d (.sl (.st 1)),.d (.sl (.st 2)),.d (.st 5)],[],[⟨false,.d (.st 5),[]⟩],oF k⟩
abbrev sn:List Ty:=[.sl .str,.sl .str,.int .i64,.int .i64]
def kH (f:Option Bool) (g:Nat) (e:List (List UInt8)→List (List UInt8)→Int→Int→Option Bool) (b:List (List UInt8)) (c:List (List UInt8)) (d:Int) (a:Int):Option Bool:=
 cond (bN a d) (bC (bT a b.length) (bC (bT a c.length) (cond (!seq (nth ([]:List UInt8) b a) (nth ([]:List UInt8) c a)) (some false) (e b c d (aQ .i64 a (1:Int)))))) (f)
def oG (k:Nat) (a:List (List UInt8)) (b:List (List UInt8)):Option Bool:=
 cond (!bM (a.length:Int) (b.length:Int)) (some false) (share (some true) fun (c:Option Bool)=>iter (ts:=sn) (R:=Bool) k (kH c) a b (a.length:Int) (0:Int))
def yQ (k:Nat):CT:=⟨124,[.d (.sl .str),.d (.sl .str)],[],[⟨false,.d .bool,[]⟩],oG k⟩
def pa (_k:Nat) (a:aL) (b:aA):Option (aL×aA):=
 some (a,b)
def AQ (k:Nat):CT:=⟨99,[.d (.st 4),.d (.st 5)],[],[⟨false,.fn (.func 136) [] [.fp (.st 4) 0,.fp (.st 5) 0],[]⟩],pa k⟩
abbrev uk:List Ty:=[.st 5,.sl (.st 0),.int .i64,.int .i64]
def l6 (f:Nat) (e:aA→List aB→Int→Int→Option (List (Int×(aB×Unit)))) (c:aA) (b:List aB) (d:Int) (a:Int):Option (List (Int×(aB×Unit))):=
 cond (bN a d) (bC (bT a b.length) (cond (bM (nth (default:aB) b a).Kind (4:Int)) (bC (bT a c.aN.length) (cond (!seq (nth ([]:List UInt8) c.aN a) ([]:List UInt8)) (Qi (a,(nth (default:aB) b a),()) (e c b d (aQ .i64 a (1:Int))) (some [])) (e c b d (aQ .i64 a (1:Int))))) (e c b d (aQ .i64 a (1:Int))))) (some [])
def gG (k:Nat) (c:aL) (b:aA):Option (List (Int×(aB×Unit))):=
 (gz k c.bX b).bind fun a=>cond (!a.2) (some []) (iter (ts:=uk) (R:=List (Int×(aB×Unit))) k (l6) b a.1 (a.1.length:Int) (0:Int))
def re (k:Nat):IT:=⟨136,[.fp (.st 4) 0,.fp (.st 5) 0],[.int .i64,.st 0],gG k⟩
end Go.Proofs.YtljfmaaadnoggaaGreatDoor.Fn
