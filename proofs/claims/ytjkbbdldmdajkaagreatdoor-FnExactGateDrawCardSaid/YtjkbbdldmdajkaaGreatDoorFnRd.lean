/- What the laws are handed is data. No condition. -/
import Derived.Test.YtjkbbdldmdajkaaGreatDoorFnFd
import Derived.Test.YtjkbbdldmdajkaaGreatDoorWR
namespace Go.Proofs.YtjkbbdldmdajkaaGreatDoor.Fn
open Go Go.RowKit Go.Proofs.YtjkbbdldmdajkaaGreatDoor.c5
section
variable {H:Type} {enc:TypeId×Value→H} {w:World}
set_option maxRecDepth 100000 in
theorem aeF:Rd enc Tryz.prog w 139 7 aA.c aA.ok:=
 kR Tryz.underlying139 (by kernel_rfl) (bT rfl (dS (t:=9) Tryz.underlying9 (by kernel_rfl)) (bT rfl (dS (t:=9) Tryz.underlying9 (by kernel_rfl)) (bT rfl (dS (t:=9) Tryz.underlying9 (by kernel_rfl)) (bT rfl (mh (t:=112) (e:=9) (d:=([]:List UInt8)) (c:=(fun y:List UInt8=>[.str y])) Tryz.underlying112 (by kernel_rfl) (dS (t:=9) Tryz.underlying9 (by kernel_rfl)) (by decide)) (bT rfl (Ql (t:=4) Tryz.underlying4 (by kernel_rfl)) (bT rfl (mh (t:=112) (e:=9) (d:=([]:List UInt8)) (c:=(fun y:List UInt8=>[.str y])) Tryz.underlying112 (by kernel_rfl) (dS (t:=9) Tryz.underlying9 (by kernel_rfl)) (by decide)) (bT rfl (qc (t:=3) (k:=.i64) Tryz.underlying3 (by kernel_rfl)) r8))))))) (fun p:(List UInt8)×(List UInt8)×(List UInt8)×(List (List UInt8))×(Bool)×(List (List UInt8))×(Int)×Unit=>(⟨p.1,p.2.1,p.2.2.1,p.2.2.2.1,p.2.2.2.2.1,p.2.2.2.2.2.1,p.2.2.2.2.2.2.1⟩:aA)) (fun _=>rfl) (fun _=>rfl) (fun _ h=>⟨h.1,h.2.1,h.2.2.1,h.2.2.2.1,h.2.2.2.2.1,h.2.2.2.2.2.1,h.2.2.2.2.2.2.1⟩)
set_option maxRecDepth 100000 in
theorem aeG:Rd enc Tryz.prog w 142 4 bG.c bG.ok:=
 kR Tryz.underlying142 (by kernel_rfl) (bT rfl (mh (t:=110) (e:=3) (d:=(0:Int)) (c:=(fun y:Int=>[.int .i64 y])) Tryz.underlying110 (by kernel_rfl) (qc (t:=3) (k:=.i64) Tryz.underlying3 (by kernel_rfl)) (by decide)) (bT rfl (dS (t:=9) Tryz.underlying9 (by kernel_rfl)) (bT rfl (dS (t:=9) Tryz.underlying9 (by kernel_rfl)) (bT rfl (dS (t:=9) Tryz.underlying9 (by kernel_rfl)) r8)))) (fun p:(List Int)×(List UInt8)×(List UInt8)×(List UInt8)×Unit=>(⟨p.1,p.2.1,p.2.2.1,p.2.2.2.1⟩:bG)) (fun _=>rfl) (fun _=>rfl) (fun _ h=>⟨h.1,h.2.1,h.2.2.1,h.2.2.2.1⟩)
set_option maxRecDepth 100000 in
theorem aeH:Rd enc Tryz.prog w 144 7 aG.c aG.ok:=
 kR Tryz.underlying144 (by kernel_rfl) (bT rfl (qc (t:=3) (k:=.i64) Tryz.underlying3 (by kernel_rfl)) (bT rfl (dS (t:=9) Tryz.underlying9 (by kernel_rfl)) (bT rfl (dS (t:=9) Tryz.underlying9 (by kernel_rfl)) (bT rfl aeG r8)))) (fun p:(Int)×(List UInt8)×(List UInt8)×(bG)×Unit=>(⟨p.1,p.2.1,p.2.2.1,p.2.2.2.1⟩:aG)) (fun _=>rfl) (fun _=>rfl) (fun _ h=>⟨h.1,h.2.1,h.2.2.1,h.2.2.2.1⟩)
set_option maxRecDepth 100000 in
theorem aeI:Rd enc Tryz.prog w 146 4 aE.c aE.ok:=
 kR Tryz.underlying146 (by kernel_rfl) (bT rfl (dS (t:=9) Tryz.underlying9 (by kernel_rfl)) (bT rfl (dS (t:=9) Tryz.underlying9 (by kernel_rfl)) (bT rfl (qc (t:=3) (k:=.i64) Tryz.underlying3 (by kernel_rfl)) (bT rfl (qc (t:=3) (k:=.i64) Tryz.underlying3 (by kernel_rfl)) r8)))) (fun p:(List UInt8)×(List UInt8)×(Int)×(Int)×Unit=>(⟨p.1,p.2.1,p.2.2.1,p.2.2.2.1⟩:aE)) (fun _=>rfl) (fun _=>rfl) (fun _ h=>⟨h.1,h.2.1,h.2.2.1,h.2.2.2.1⟩)
set_option maxRecDepth 100000 in
theorem aeJ:Rd enc Tryz.prog w 148 5 aC.c aC.ok:=
 kR Tryz.underlying148 (by kernel_rfl) (bT rfl (dS (t:=9) Tryz.underlying9 (by kernel_rfl)) (bT rfl (dS (t:=9) Tryz.underlying9 (by kernel_rfl)) (bT rfl (dS (t:=9) Tryz.underlying9 (by kernel_rfl)) (bT rfl (qc (t:=3) (k:=.i64) Tryz.underlying3 (by kernel_rfl)) (bT rfl (qc (t:=3) (k:=.i64) Tryz.underlying3 (by kernel_rfl)) r8))))) (fun p:(List UInt8)×(List UInt8)×(List UInt8)×(Int)×(Int)×Unit=>(⟨p.1,p.2.1,p.2.2.1,p.2.2.2.1,p.2.2.2.2.1⟩:aC)) (fun _=>rfl) (fun _=>rfl) (fun _ h=>⟨h.1,h.2.1,h.2.2.1,h.2.2.2.1,h.2.2.2.2.1⟩)
set_option maxRecDepth 100000 in
theorem agm:Rd enc Tryz.prog w 32 7 aI.c aI.ok:=
 kR Tryz.underlying32 (by kernel_rfl) (bT rfl (qc (t:=3) (k:=.i64) Tryz.underlying3 (by kernel_rfl)) (bT rfl (qc (t:=3) (k:=.i64) Tryz.underlying3 (by kernel_rfl)) (bT rfl (qc (t:=3) (k:=.i64) Tryz.underlying3 (by kernel_rfl)) (bT rfl (mh (t:=27) (e:=139) (d:=(default:aA)) (c:=aA.c) Tryz.underlying27 (by kernel_rfl) aeF (by decide)) (bT rfl (mh (t:=28) (e:=144) (d:=(default:aG)) (c:=aG.c) Tryz.underlying28 (by kernel_rfl) aeH (by decide)) (bT rfl (mh (t:=29) (e:=146) (d:=(default:aE)) (c:=aE.c) Tryz.underlying29 (by kernel_rfl) aeI (by decide)) (bT rfl (mh (t:=30) (e:=148) (d:=(default:aC)) (c:=aC.c) Tryz.underlying30 (by kernel_rfl) aeJ (by decide)) r8))))))) (fun p:(Int)×(Int)×(Int)×(List aA)×(List aG)×(List aE)×(List aC)×Unit=>(⟨p.1,p.2.1,p.2.2.1,p.2.2.2.1,p.2.2.2.2.1,p.2.2.2.2.2.1,p.2.2.2.2.2.2.1⟩:aI)) (fun _=>rfl) (fun _=>rfl) (fun _ h=>⟨h.1,h.2.1,h.2.2.1,h.2.2.2.1,h.2.2.2.2.1,h.2.2.2.2.2.1,h.2.2.2.2.2.2.1⟩)
set_option maxRecDepth 100000 in
theorem aeK:Rd enc Tryz.prog w 235 11 aB.c aB.ok:=
 kR Tryz.underlying235 (by kernel_rfl) (bT rfl (dS (t:=9) Tryz.underlying9 (by kernel_rfl)) (bT rfl (qc (t:=3) (k:=.i64) Tryz.underlying3 (by kernel_rfl)) (bT rfl (qc (t:=3) (k:=.i64) Tryz.underlying3 (by kernel_rfl)) (bT rfl (qc (t:=3) (k:=.i64) Tryz.underlying3 (by kernel_rfl)) (bT rfl (mh (t:=112) (e:=9) (d:=([]:List UInt8)) (c:=(fun y:List UInt8=>[.str y])) Tryz.underlying112 (by kernel_rfl) (dS (t:=9) Tryz.underlying9 (by kernel_rfl)) (by decide)) (bT rfl (dS (t:=9) Tryz.underlying9 (by kernel_rfl)) (bT rfl (qc (t:=3) (k:=.i64) Tryz.underlying3 (by kernel_rfl)) (bT rfl (Ql (t:=4) Tryz.underlying4 (by kernel_rfl)) (bT rfl (Ql (t:=4) Tryz.underlying4 (by kernel_rfl)) (bT rfl (dS (t:=9) Tryz.underlying9 (by kernel_rfl)) (bT rfl (dS (t:=9) Tryz.underlying9 (by kernel_rfl)) r8))))))))))) (fun p:(List UInt8)×(Int)×(Int)×(Int)×(List (List UInt8))×(List UInt8)×(Int)×(Bool)×(Bool)×(List UInt8)×(List UInt8)×Unit=>(⟨p.1,p.2.1,p.2.2.1,p.2.2.2.1,p.2.2.2.2.1,p.2.2.2.2.2.1,p.2.2.2.2.2.2.1,p.2.2.2.2.2.2.2.1,p.2.2.2.2.2.2.2.2.1,p.2.2.2.2.2.2.2.2.2.1,p.2.2.2.2.2.2.2.2.2.2.1⟩:aB)) (fun _=>rfl) (fun _=>rfl) (fun _ h=>⟨h.1,h.2.1,h.2.2.1,h.2.2.2.1,h.2.2.2.2.1,h.2.2.2.2.2.1,h.2.2.2.2.2.2.1,h.2.2.2.2.2.2.2.1,h.2.2.2.2.2.2.2.2.1,h.2.2.2.2.2.2.2.2.2.1,h.2.2.2.2.2.2.2.2.2.2.1⟩)
set_option maxRecDepth 100000 in
theorem aeL:Rd enc Tryz.prog w 131 2 aD.c aD.ok:=
 kR Tryz.underlying131 (by kernel_rfl) (bT rfl (dS (t:=9) Tryz.underlying9 (by kernel_rfl)) (bT rfl (mh (t:=129) (e:=235) (d:=(default:aB)) (c:=aB.c) Tryz.underlying129 (by kernel_rfl) aeK (by decide)) r8)) (fun p:(List UInt8)×(List aB)×Unit=>(⟨p.1,p.2.1⟩:aD)) (fun _=>rfl) (fun _=>rfl) (fun _ h=>⟨h.1,h.2.1⟩)
set_option maxRecDepth 100000 in
theorem aeM:Rd enc Tryz.prog w 134 6 aF.c aF.ok:=
 kR Tryz.underlying134 (by kernel_rfl) (bT rfl (dS (t:=9) Tryz.underlying9 (by kernel_rfl)) (bT rfl (dS (t:=9) Tryz.underlying9 (by kernel_rfl)) (bT rfl (dS (t:=9) Tryz.underlying9 (by kernel_rfl)) (bT rfl (dS (t:=9) Tryz.underlying9 (by kernel_rfl)) (bT rfl (dS (t:=9) Tryz.underlying9 (by kernel_rfl)) (bT rfl (dS (t:=9) Tryz.underlying9 (by kernel_rfl)) r8)))))) (fun p:(List UInt8)×(List UInt8)×(List UInt8)×(List UInt8)×(List UInt8)×(List UInt8)×Unit=>(⟨p.1,p.2.1,p.2.2.1,p.2.2.2.1,p.2.2.2.2.1,p.2.2.2.2.2.1⟩:aF)) (fun _=>rfl) (fun _=>rfl) (fun _ h=>⟨h.1,h.2.1,h.2.2.1,h.2.2.2.1,h.2.2.2.2.1,h.2.2.2.2.2.1⟩)
set_option maxRecDepth 100000 in
theorem aeN:Rd enc Tryz.prog w 137 2 aJ.c aJ.ok:=
 kR Tryz.underlying137 (by kernel_rfl) (bT rfl (dS (t:=9) Tryz.underlying9 (by kernel_rfl)) (bT rfl (dS (t:=9) Tryz.underlying9 (by kernel_rfl)) r8)) (fun p:(List UInt8)×(List UInt8)×Unit=>(⟨p.1,p.2.1⟩:aJ)) (fun _=>rfl) (fun _=>rfl) (fun _ h=>⟨h.1,h.2.1⟩)
set_option maxRecDepth 100000 in
theorem agn:Rd enc Tryz.prog w 26 3 aT.c aT.ok:=
 kR Tryz.underlying26 (by kernel_rfl) (bT rfl (mh (t:=22) (e:=131) (d:=(default:aD)) (c:=aD.c) Tryz.underlying22 (by kernel_rfl) aeL (by decide)) (bT rfl (mh (t:=23) (e:=134) (d:=(default:aF)) (c:=aF.c) Tryz.underlying23 (by kernel_rfl) aeM (by decide)) (bT rfl (mh (t:=24) (e:=137) (d:=(default:aJ)) (c:=aJ.c) Tryz.underlying24 (by kernel_rfl) aeN (by decide)) r8))) (fun p:(List aD)×(List aF)×(List aJ)×Unit=>(⟨p.1,p.2.1,p.2.2.1⟩:aT)) (fun _=>rfl) (fun _=>rfl) (fun _ h=>⟨h.1,h.2.1,h.2.2.1⟩)
set_option maxRecDepth 100000 in
theorem ago:RdA enc Tryz.prog w [26,32,9,9,9,3] (fun x:(aT)×(aI)×(List UInt8)×(List UInt8)×(List UInt8)×(Int)×Unit=>[.agg (aT.c x.1),.agg (aI.c x.2.1),.str x.2.2.1,.str x.2.2.2.1,.str x.2.2.2.2.1,.int .i64 x.2.2.2.2.2.1]) (fun x=>aT.ok x.1∧aI.ok x.2.1∧dC x.2.2.1∧dC x.2.2.2.1∧dC x.2.2.2.2.1∧kA .i64 x.2.2.2.2.2.1∧True):=
 fun base vs ds ps h hv=>by
  obtain ⟨x,h1,h2⟩:=((Mh Tryz.underlying26 agn (Mh Tryz.underlying32 agm (HQ (d:=_) Tryz.underlying9 rfl (dS (t:=9) Tryz.underlying9 (by kernel_rfl)) (HQ (d:=_) Tryz.underlying9 rfl (dS (t:=9) Tryz.underlying9 (by kernel_rfl)) (HQ (d:=_) Tryz.underlying9 rfl (dS (t:=9) Tryz.underlying9 (by kernel_rfl)) (HQ (d:=_) Tryz.underlying3 rfl (qc (t:=3) (k:=.i64) Tryz.underlying3 (by kernel_rfl)) aaV)))))):RdA enc Tryz.prog w _ _ _) base vs ds ps h hv;exact ⟨x,⟨h1.1,h1.2.1,h1.2.2.1,h1.2.2.2.1,h1.2.2.2.2.1,h1.2.2.2.2.2.1,trivial⟩,h2⟩
end
end Go.Proofs.YtjkbbdldmdajkaaGreatDoor.Fn
