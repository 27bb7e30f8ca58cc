/- What the laws are handed is data. No condition. -/
import Derived.Test.YtjkbbdldmdajkaaGreatDoorFnFd
import Derived.Test.YtjkbbdldmdajkaaGreatDoorWR
namespace Go.Proofs.YtjkbbdldmdajkaaGreatDoor.Fn
open Go Go.RowKit Go.Proofs.YtjkbbdldmdajkaaGreatDoor.c_
section
variable {H:Type} {enc:TypeId×Value→H} {w:World}
set_option maxRecDepth 100000 in
theorem aeS:Rd enc Tryz.prog w 139 7 aA.c aA.ok:=
 lC Tryz.underlying139 (by kernel_rfl) (bU rfl (dL (t:=9) Tryz.underlying9 (by kernel_rfl)) (bU rfl (dL (t:=9) Tryz.underlying9 (by kernel_rfl)) (bU rfl (dL (t:=9) Tryz.underlying9 (by kernel_rfl)) (bU rfl (mP (t:=112) (e:=9) (d:=([]:List UInt8)) (c:=(fun y:List UInt8=>[.str y])) Tryz.underlying112 (by kernel_rfl) (dL (t:=9) Tryz.underlying9 (by kernel_rfl)) (by decide)) (bU rfl (QI (t:=4) Tryz.underlying4 (by kernel_rfl)) (bU rfl (mP (t:=112) (e:=9) (d:=([]:List UInt8)) (c:=(fun y:List UInt8=>[.str y])) Tryz.underlying112 (by kernel_rfl) (dL (t:=9) Tryz.underlying9 (by kernel_rfl)) (by decide)) (bU rfl (qY (t:=3) (k:=.i64) Tryz.underlying3 (by kernel_rfl)) sT))))))) (fun p:(List UInt8)×(List UInt8)×(List UInt8)×(List (List UInt8))×(Bool)×(List (List UInt8))×(Int)×Unit=>(⟨p.1,p.2.1,p.2.2.1,p.2.2.2.1,p.2.2.2.2.1,p.2.2.2.2.2.1,p.2.2.2.2.2.2.1⟩:aA)) (fun _=>rfl) (fun _=>rfl) (fun _ h=>⟨h.1,h.2.1,h.2.2.1,h.2.2.2.1,h.2.2.2.2.1,h.2.2.2.2.2.1,h.2.2.2.2.2.2.1⟩)
set_option maxRecDepth 100000 in
theorem aeT:Rd enc Tryz.prog w 142 4 bF.c bF.ok:=
 lC Tryz.underlying142 (by kernel_rfl) (bU rfl (mP (t:=110) (e:=3) (d:=(0:Int)) (c:=(fun y:Int=>[.int .i64 y])) Tryz.underlying110 (by kernel_rfl) (qY (t:=3) (k:=.i64) Tryz.underlying3 (by kernel_rfl)) (by decide)) (bU rfl (dL (t:=9) Tryz.underlying9 (by kernel_rfl)) (bU rfl (dL (t:=9) Tryz.underlying9 (by kernel_rfl)) (bU rfl (dL (t:=9) Tryz.underlying9 (by kernel_rfl)) sT)))) (fun p:(List Int)×(List UInt8)×(List UInt8)×(List UInt8)×Unit=>(⟨p.1,p.2.1,p.2.2.1,p.2.2.2.1⟩:bF)) (fun _=>rfl) (fun _=>rfl) (fun _ h=>⟨h.1,h.2.1,h.2.2.1,h.2.2.2.1⟩)
set_option maxRecDepth 100000 in
theorem aeU:Rd enc Tryz.prog w 144 7 aF.c aF.ok:=
 lC Tryz.underlying144 (by kernel_rfl) (bU rfl (qY (t:=3) (k:=.i64) Tryz.underlying3 (by kernel_rfl)) (bU rfl (dL (t:=9) Tryz.underlying9 (by kernel_rfl)) (bU rfl (dL (t:=9) Tryz.underlying9 (by kernel_rfl)) (bU rfl aeT sT)))) (fun p:(Int)×(List UInt8)×(List UInt8)×(bF)×Unit=>(⟨p.1,p.2.1,p.2.2.1,p.2.2.2.1⟩:aF)) (fun _=>rfl) (fun _=>rfl) (fun _ h=>⟨h.1,h.2.1,h.2.2.1,h.2.2.2.1⟩)
set_option maxRecDepth 100000 in
theorem aeV:Rd enc Tryz.prog w 146 4 aB.c aB.ok:=
 lC Tryz.underlying146 (by kernel_rfl) (bU rfl (dL (t:=9) Tryz.underlying9 (by kernel_rfl)) (bU rfl (dL (t:=9) Tryz.underlying9 (by kernel_rfl)) (bU rfl (qY (t:=3) (k:=.i64) Tryz.underlying3 (by kernel_rfl)) (bU rfl (qY (t:=3) (k:=.i64) Tryz.underlying3 (by kernel_rfl)) sT)))) (fun p:(List UInt8)×(List UInt8)×(Int)×(Int)×Unit=>(⟨p.1,p.2.1,p.2.2.1,p.2.2.2.1⟩:aB)) (fun _=>rfl) (fun _=>rfl) (fun _ h=>⟨h.1,h.2.1,h.2.2.1,h.2.2.2.1⟩)
set_option maxRecDepth 100000 in
theorem aeW:Rd enc Tryz.prog w 148 5 aE.c aE.ok:=
 lC Tryz.underlying148 (by kernel_rfl) (bU rfl (dL (t:=9) Tryz.underlying9 (by kernel_rfl)) (bU rfl (dL (t:=9) Tryz.underlying9 (by kernel_rfl)) (bU rfl (dL (t:=9) Tryz.underlying9 (by kernel_rfl)) (bU rfl (qY (t:=3) (k:=.i64) Tryz.underlying3 (by kernel_rfl)) (bU rfl (qY (t:=3) (k:=.i64) Tryz.underlying3 (by kernel_rfl)) sT))))) (fun p:(List UInt8)×(List UInt8)×(List UInt8)×(Int)×(Int)×Unit=>(⟨p.1,p.2.1,p.2.2.1,p.2.2.2.1,p.2.2.2.2.1⟩:aE)) (fun _=>rfl) (fun _=>rfl) (fun _ h=>⟨h.1,h.2.1,h.2.2.1,h.2.2.2.1,h.2.2.2.2.1⟩)
set_option maxRecDepth 100000 in
theorem adt:Rd enc Tryz.prog w 32 7 aG.c aG.ok:=
 lC Tryz.underlying32 (by kernel_rfl) (bU rfl (qY (t:=3) (k:=.i64) Tryz.underlying3 (by kernel_rfl)) (bU rfl (qY (t:=3) (k:=.i64) Tryz.underlying3 (by kernel_rfl)) (bU rfl (qY (t:=3) (k:=.i64) Tryz.underlying3 (by kernel_rfl)) (bU rfl (mP (t:=27) (e:=139) (d:=(default:aA)) (c:=aA.c) Tryz.underlying27 (by kernel_rfl) aeS (by decide)) (bU rfl (mP (t:=28) (e:=144) (d:=(default:aF)) (c:=aF.c) Tryz.underlying28 (by kernel_rfl) aeU (by decide)) (bU rfl (mP (t:=29) (e:=146) (d:=(default:aB)) (c:=aB.c) Tryz.underlying29 (by kernel_rfl) aeV (by decide)) (bU rfl (mP (t:=30) (e:=148) (d:=(default:aE)) (c:=aE.c) Tryz.underlying30 (by kernel_rfl) aeW (by decide)) sT))))))) (fun p:(Int)×(Int)×(Int)×(List aA)×(List aF)×(List aB)×(List aE)×Unit=>(⟨p.1,p.2.1,p.2.2.1,p.2.2.2.1,p.2.2.2.2.1,p.2.2.2.2.2.1,p.2.2.2.2.2.2.1⟩:aG)) (fun _=>rfl) (fun _=>rfl) (fun _ h=>⟨h.1,h.2.1,h.2.2.1,h.2.2.2.1,h.2.2.2.2.1,h.2.2.2.2.2.1,h.2.2.2.2.2.2.1⟩)
set_option maxRecDepth 100000 in
theorem aeX:Rd enc Tryz.prog w 235 11 aC.c aC.ok:=
 lC Tryz.underlying235 (by kernel_rfl) (bU rfl (dL (t:=9) Tryz.underlying9 (by kernel_rfl)) (bU rfl (qY (t:=3) (k:=.i64) Tryz.underlying3 (by kernel_rfl)) (bU rfl (qY (t:=3) (k:=.i64) Tryz.underlying3 (by kernel_rfl)) (bU rfl (qY (t:=3) (k:=.i64) Tryz.underlying3 (by kernel_rfl)) (bU rfl (mP (t:=112) (e:=9) (d:=([]:List UInt8)) (c:=(fun y:List UInt8=>[.str y])) Tryz.underlying112 (by kernel_rfl) (dL (t:=9) Tryz.underlying9 (by kernel_rfl)) (by decide)) (bU rfl (dL (t:=9) Tryz.underlying9 (by kernel_rfl)) (bU rfl (qY (t:=3) (k:=.i64) Tryz.underlying3 (by kernel_rfl)) (bU rfl (QI (t:=4) Tryz.underlying4 (by kernel_rfl)) (bU rfl (QI (t:=4) Tryz.underlying4 (by kernel_rfl)) (bU rfl (dL (t:=9) Tryz.underlying9 (by kernel_rfl)) (bU rfl (dL (t:=9) Tryz.underlying9 (by kernel_rfl)) sT))))))))))) (fun p:(List UInt8)×(Int)×(Int)×(Int)×(List (List UInt8))×(List UInt8)×(Int)×(Bool)×(Bool)×(List UInt8)×(List UInt8)×Unit=>(⟨p.1,p.2.1,p.2.2.1,p.2.2.2.1,p.2.2.2.2.1,p.2.2.2.2.2.1,p.2.2.2.2.2.2.1,p.2.2.2.2.2.2.2.1,p.2.2.2.2.2.2.2.2.1,p.2.2.2.2.2.2.2.2.2.1,p.2.2.2.2.2.2.2.2.2.2.1⟩:aC)) (fun _=>rfl) (fun _=>rfl) (fun _ h=>⟨h.1,h.2.1,h.2.2.1,h.2.2.2.1,h.2.2.2.2.1,h.2.2.2.2.2.1,h.2.2.2.2.2.2.1,h.2.2.2.2.2.2.2.1,h.2.2.2.2.2.2.2.2.1,h.2.2.2.2.2.2.2.2.2.1,h.2.2.2.2.2.2.2.2.2.2.1⟩)
set_option maxRecDepth 100000 in
theorem aeY:Rd enc Tryz.prog w 131 2 aD.c aD.ok:=
 lC Tryz.underlying131 (by kernel_rfl) (bU rfl (dL (t:=9) Tryz.underlying9 (by kernel_rfl)) (bU rfl (mP (t:=129) (e:=235) (d:=(default:aC)) (c:=aC.c) Tryz.underlying129 (by kernel_rfl) aeX (by decide)) sT)) (fun p:(List UInt8)×(List aC)×Unit=>(⟨p.1,p.2.1⟩:aD)) (fun _=>rfl) (fun _=>rfl) (fun _ h=>⟨h.1,h.2.1⟩)
set_option maxRecDepth 100000 in
theorem aeZ:Rd enc Tryz.prog w 134 6 aH.c aH.ok:=
 lC Tryz.underlying134 (by kernel_rfl) (bU rfl (dL (t:=9) Tryz.underlying9 (by kernel_rfl)) (bU rfl (dL (t:=9) Tryz.underlying9 (by kernel_rfl)) (bU rfl (dL (t:=9) Tryz.underlying9 (by kernel_rfl)) (bU rfl (dL (t:=9) Tryz.underlying9 (by kernel_rfl)) (bU rfl (dL (t:=9) Tryz.underlying9 (by kernel_rfl)) (bU rfl (dL (t:=9) Tryz.underlying9 (by kernel_rfl)) sT)))))) (fun p:(List UInt8)×(List UInt8)×(List UInt8)×(List UInt8)×(List UInt8)×(List UInt8)×Unit=>(⟨p.1,p.2.1,p.2.2.1,p.2.2.2.1,p.2.2.2.2.1,p.2.2.2.2.2.1⟩:aH)) (fun _=>rfl) (fun _=>rfl) (fun _ h=>⟨h.1,h.2.1,h.2.2.1,h.2.2.2.1,h.2.2.2.2.1,h.2.2.2.2.2.1⟩)
set_option maxRecDepth 100000 in
theorem ae0:Rd enc Tryz.prog w 137 2 aJ.c aJ.ok:=
 lC Tryz.underlying137 (by kernel_rfl) (bU rfl (dL (t:=9) Tryz.underlying9 (by kernel_rfl)) (bU rfl (dL (t:=9) Tryz.underlying9 (by kernel_rfl)) sT)) (fun p:(List UInt8)×(List UInt8)×Unit=>(⟨p.1,p.2.1⟩:aJ)) (fun _=>rfl) (fun _=>rfl) (fun _ h=>⟨h.1,h.2.1⟩)
set_option maxRecDepth 100000 in
theorem adu:Rd enc Tryz.prog w 26 3 aL.c aL.ok:=
 lC Tryz.underlying26 (by kernel_rfl) (bU rfl (mP (t:=22) (e:=131) (d:=(default:aD)) (c:=aD.c) Tryz.underlying22 (by kernel_rfl) aeY (by decide)) (bU rfl (mP (t:=23) (e:=134) (d:=(default:aH)) (c:=aH.c) Tryz.underlying23 (by kernel_rfl) aeZ (by decide)) (bU rfl (mP (t:=24) (e:=137) (d:=(default:aJ)) (c:=aJ.c) Tryz.underlying24 (by kernel_rfl) ae0 (by decide)) sT))) (fun p:(List aD)×(List aH)×(List aJ)×Unit=>(⟨p.1,p.2.1,p.2.2.1⟩:aL)) (fun _=>rfl) (fun _=>rfl) (fun _ h=>⟨h.1,h.2.1,h.2.2.1⟩)
set_option maxRecDepth 100000 in
theorem ago:Y7 enc Tryz.prog w [26,32] (fun x:(aL)×(aG)×Unit=>[.agg (aL.c x.1),.agg (aG.c x.2.1)]) (fun x=>aL.ok x.1∧aG.ok x.2.1∧True):=
 fun base vs ds ps h hv=>by
  obtain ⟨x,h1,h2⟩:=((uv Tryz.underlying26 adu (uv Tryz.underlying32 adt QJ)):Y7 enc Tryz.prog w _ _ _) base vs ds ps h hv;exact ⟨x,⟨h1.1,h1.2.1,trivial⟩,h2⟩
set_option maxRecDepth 100000 in
theorem agp:Y7 enc Tryz.prog w [26,32,9,9,9] (fun x:(aL)×(aG)×(List UInt8)×(List UInt8)×(List UInt8)×Unit=>[.agg (aL.c x.1),.agg (aG.c x.2.1),.str x.2.2.1,.str x.2.2.2.1,.str x.2.2.2.2.1]) (fun x=>aL.ok x.1∧aG.ok x.2.1∧dA x.2.2.1∧dA x.2.2.2.1∧dA x.2.2.2.2.1∧True):=
 fun base vs ds ps h hv=>by
  obtain ⟨x,h1,h2⟩:=((uv Tryz.underlying26 adu (uv Tryz.underlying32 adt (Be (d:=_) Tryz.underlying9 rfl (dL (t:=9) Tryz.underlying9 (by kernel_rfl)) (Be (d:=_) Tryz.underlying9 rfl (dL (t:=9) Tryz.underlying9 (by kernel_rfl)) (Be (d:=_) Tryz.underlying9 rfl (dL (t:=9) Tryz.underlying9 (by kernel_rfl)) QJ))))):Y7 enc Tryz.prog w _ _ _) base vs ds ps h hv;exact ⟨x,⟨h1.1,h1.2.1,h1.2.2.1,h1.2.2.2.1,h1.2.2.2.2.1,trivial⟩,h2⟩
set_option maxRecDepth 100000 in
theorem agq:Y7 enc Tryz.prog w [26,32,9,9,3] (fun x:(aL)×(aG)×(List UInt8)×(List UInt8)×(Int)×Unit=>[.agg (aL.c x.1),.agg (aG.c x.2.1),.str x.2.2.1,.str x.2.2.2.1,.int .i64 x.2.2.2.2.1]) (fun x=>aL.ok x.1∧aG.ok x.2.1∧dA x.2.2.1∧dA x.2.2.2.1∧jr .i64 x.2.2.2.2.1∧True):=
 fun base vs ds ps h hv=>by
  obtain ⟨x,h1,h2⟩:=((uv Tryz.underlying26 adu (uv Tryz.underlying32 adt (Be (d:=_) Tryz.underlying9 rfl (dL (t:=9) Tryz.underlying9 (by kernel_rfl)) (Be (d:=_) Tryz.underlying9 rfl (dL (t:=9) Tryz.underlying9 (by kernel_rfl)) (Be (d:=_) Tryz.underlying3 rfl (qY (t:=3) (k:=.i64) Tryz.underlying3 (by kernel_rfl)) QJ))))):Y7 enc Tryz.prog w _ _ _) base vs ds ps h hv;exact ⟨x,⟨h1.1,h1.2.1,h1.2.2.1,h1.2.2.2.1,h1.2.2.2.2.1,trivial⟩,h2⟩
end
end Go.Proofs.YtjkbbdldmdajkaaGreatDoor.Fn
