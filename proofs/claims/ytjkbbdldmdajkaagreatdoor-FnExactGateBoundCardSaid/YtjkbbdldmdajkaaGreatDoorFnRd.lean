/- What the laws are handed is data. No condition. -/
import Derived.Test.YtjkbbdldmdajkaaGreatDoorFnFd
import Derived.Test.YtjkbbdldmdajkaaGreatDoorWR
namespace Go.Proofs.YtjkbbdldmdajkaaGreatDoor.Fn
open Go Go.RowKit Go.Proofs.YtjkbbdldmdajkaaGreatDoor.c_
section
variable {H:Type} {enc:TypeId×Value→H} {w:World}
set_option maxRecDepth 100000 in
theorem aeW:Rd enc Tryz.prog w 139 7 aA.c aA.ok:=
 lD Tryz.underlying139 (by kernel_rfl) (bU rfl (dN (t:=9) Tryz.underlying9 (by kernel_rfl)) (bU rfl (dN (t:=9) Tryz.underlying9 (by kernel_rfl)) (bU rfl (dN (t:=9) Tryz.underlying9 (by kernel_rfl)) (bU rfl (mQ (t:=112) (e:=9) (d:=([]:List UInt8)) (c:=(fun y:List UInt8=>[.str y])) Tryz.underlying112 (by kernel_rfl) (dN (t:=9) Tryz.underlying9 (by kernel_rfl)) (by decide)) (bU rfl (QM (t:=4) Tryz.underlying4 (by kernel_rfl)) (bU rfl (mQ (t:=112) (e:=9) (d:=([]:List UInt8)) (c:=(fun y:List UInt8=>[.str y])) Tryz.underlying112 (by kernel_rfl) (dN (t:=9) Tryz.underlying9 (by kernel_rfl)) (by decide)) (bU rfl (q7 (t:=3) (k:=.i64) Tryz.underlying3 (by kernel_rfl)) sV))))))) (fun p:(List UInt8)×(List UInt8)×(List UInt8)×(List (List UInt8))×(Bool)×(List (List UInt8))×(Int)×Unit=>(⟨p.1,p.2.1,p.2.2.1,p.2.2.2.1,p.2.2.2.2.1,p.2.2.2.2.2.1,p.2.2.2.2.2.2.1⟩:aA)) (fun _=>rfl) (fun _=>rfl) (fun _ h=>⟨h.1,h.2.1,h.2.2.1,h.2.2.2.1,h.2.2.2.2.1,h.2.2.2.2.2.1,h.2.2.2.2.2.2.1⟩)
set_option maxRecDepth 100000 in
theorem aeX:Rd enc Tryz.prog w 142 4 bG.c bG.ok:=
 lD Tryz.underlying142 (by kernel_rfl) (bU rfl (mQ (t:=110) (e:=3) (d:=(0:Int)) (c:=(fun y:Int=>[.int .i64 y])) Tryz.underlying110 (by kernel_rfl) (q7 (t:=3) (k:=.i64) Tryz.underlying3 (by kernel_rfl)) (by decide)) (bU rfl (dN (t:=9) Tryz.underlying9 (by kernel_rfl)) (bU rfl (dN (t:=9) Tryz.underlying9 (by kernel_rfl)) (bU rfl (dN (t:=9) Tryz.underlying9 (by kernel_rfl)) sV)))) (fun p:(List Int)×(List UInt8)×(List UInt8)×(List UInt8)×Unit=>(⟨p.1,p.2.1,p.2.2.1,p.2.2.2.1⟩:bG)) (fun _=>rfl) (fun _=>rfl) (fun _ h=>⟨h.1,h.2.1,h.2.2.1,h.2.2.2.1⟩)
set_option maxRecDepth 100000 in
theorem aeY:Rd enc Tryz.prog w 144 7 aF.c aF.ok:=
 lD Tryz.underlying144 (by kernel_rfl) (bU rfl (q7 (t:=3) (k:=.i64) Tryz.underlying3 (by kernel_rfl)) (bU rfl (dN (t:=9) Tryz.underlying9 (by kernel_rfl)) (bU rfl (dN (t:=9) Tryz.underlying9 (by kernel_rfl)) (bU rfl aeX sV)))) (fun p:(Int)×(List UInt8)×(List UInt8)×(bG)×Unit=>(⟨p.1,p.2.1,p.2.2.1,p.2.2.2.1⟩:aF)) (fun _=>rfl) (fun _=>rfl) (fun _ h=>⟨h.1,h.2.1,h.2.2.1,h.2.2.2.1⟩)
set_option maxRecDepth 100000 in
theorem aeZ:Rd enc Tryz.prog w 146 4 aB.c aB.ok:=
 lD Tryz.underlying146 (by kernel_rfl) (bU rfl (dN (t:=9) Tryz.underlying9 (by kernel_rfl)) (bU rfl (dN (t:=9) Tryz.underlying9 (by kernel_rfl)) (bU rfl (q7 (t:=3) (k:=.i64) Tryz.underlying3 (by kernel_rfl)) (bU rfl (q7 (t:=3) (k:=.i64) Tryz.underlying3 (by kernel_rfl)) sV)))) (fun p:(List UInt8)×(List UInt8)×(Int)×(Int)×Unit=>(⟨p.1,p.2.1,p.2.2.1,p.2.2.2.1⟩:aB)) (fun _=>rfl) (fun _=>rfl) (fun _ h=>⟨h.1,h.2.1,h.2.2.1,h.2.2.2.1⟩)
set_option maxRecDepth 100000 in
theorem ae0:Rd enc Tryz.prog w 148 5 aE.c aE.ok:=
 lD Tryz.underlying148 (by kernel_rfl) (bU rfl (dN (t:=9) Tryz.underlying9 (by kernel_rfl)) (bU rfl (dN (t:=9) Tryz.underlying9 (by kernel_rfl)) (bU rfl (dN (t:=9) Tryz.underlying9 (by kernel_rfl)) (bU rfl (q7 (t:=3) (k:=.i64) Tryz.underlying3 (by kernel_rfl)) (bU rfl (q7 (t:=3) (k:=.i64) Tryz.underlying3 (by kernel_rfl)) sV))))) (fun p:(List UInt8)×(List UInt8)×(List UInt8)×(Int)×(Int)×Unit=>(⟨p.1,p.2.1,p.2.2.1,p.2.2.2.1,p.2.2.2.2.1⟩:aE)) (fun _=>rfl) (fun _=>rfl) (fun _ h=>⟨h.1,h.2.1,h.2.2.1,h.2.2.2.1,h.2.2.2.2.1⟩)
set_option maxRecDepth 100000 in
theorem adw:Rd enc Tryz.prog w 32 7 aG.c aG.ok:=
 lD Tryz.underlying32 (by kernel_rfl) (bU rfl (q7 (t:=3) (k:=.i64) Tryz.underlying3 (by kernel_rfl)) (bU rfl (q7 (t:=3) (k:=.i64) Tryz.underlying3 (by kernel_rfl)) (bU rfl (q7 (t:=3) (k:=.i64) Tryz.underlying3 (by kernel_rfl)) (bU rfl (mQ (t:=27) (e:=139) (d:=(default:aA)) (c:=aA.c) Tryz.underlying27 (by kernel_rfl) aeW (by decide)) (bU rfl (mQ (t:=28) (e:=144) (d:=(default:aF)) (c:=aF.c) Tryz.underlying28 (by kernel_rfl) aeY (by decide)) (bU rfl (mQ (t:=29) (e:=146) (d:=(default:aB)) (c:=aB.c) Tryz.underlying29 (by kernel_rfl) aeZ (by decide)) (bU rfl (mQ (t:=30) (e:=148) (d:=(default:aE)) (c:=aE.c) Tryz.underlying30 (by kernel_rfl) ae0 (by decide)) sV))))))) (fun p:(Int)×(Int)×(Int)×(List aA)×(List aF)×(List aB)×(List aE)×Unit=>(⟨p.1,p.2.1,p.2.2.1,p.2.2.2.1,p.2.2.2.2.1,p.2.2.2.2.2.1,p.2.2.2.2.2.2.1⟩:aG)) (fun _=>rfl) (fun _=>rfl) (fun _ h=>⟨h.1,h.2.1,h.2.2.1,h.2.2.2.1,h.2.2.2.2.1,h.2.2.2.2.2.1,h.2.2.2.2.2.2.1⟩)
set_option maxRecDepth 100000 in
theorem ae1:Rd enc Tryz.prog w 235 11 aC.c aC.ok:=
 lD Tryz.underlying235 (by kernel_rfl) (bU rfl (dN (t:=9) Tryz.underlying9 (by kernel_rfl)) (bU rfl (q7 (t:=3) (k:=.i64) Tryz.underlying3 (by kernel_rfl)) (bU rfl (q7 (t:=3) (k:=.i64) Tryz.underlying3 (by kernel_rfl)) (bU rfl (q7 (t:=3) (k:=.i64) Tryz.underlying3 (by kernel_rfl)) (bU rfl (mQ (t:=112) (e:=9) (d:=([]:List UInt8)) (c:=(fun y:List UInt8=>[.str y])) Tryz.underlying112 (by kernel_rfl) (dN (t:=9) Tryz.underlying9 (by kernel_rfl)) (by decide)) (bU rfl (dN (t:=9) Tryz.underlying9 (by kernel_rfl)) (bU rfl (q7 (t:=3) (k:=.i64) Tryz.underlying3 (by kernel_rfl)) (bU rfl (QM (t:=4) Tryz.underlying4 (by kernel_rfl)) (bU rfl (QM (t:=4) Tryz.underlying4 (by kernel_rfl)) (bU rfl (dN (t:=9) Tryz.underlying9 (by kernel_rfl)) (bU rfl (dN (t:=9) Tryz.underlying9 (by kernel_rfl)) sV))))))))))) (fun p:(List UInt8)×(Int)×(Int)×(Int)×(List (List UInt8))×(List UInt8)×(Int)×(Bool)×(Bool)×(List UInt8)×(List UInt8)×Unit=>(⟨p.1,p.2.1,p.2.2.1,p.2.2.2.1,p.2.2.2.2.1,p.2.2.2.2.2.1,p.2.2.2.2.2.2.1,p.2.2.2.2.2.2.2.1,p.2.2.2.2.2.2.2.2.1,p.2.2.2.2.2.2.2.2.2.1,p.2.2.2.2.2.2.2.2.2.2.1⟩:aC)) (fun _=>rfl) (fun _=>rfl) (fun _ h=>⟨h.1,h.2.1,h.2.2.1,h.2.2.2.1,h.2.2.2.2.1,h.2.2.2.2.2.1,h.2.2.2.2.2.2.1,h.2.2.2.2.2.2.2.1,h.2.2.2.2.2.2.2.2.1,h.2.2.2.2.2.2.2.2.2.1,h.2.2.2.2.2.2.2.2.2.2.1⟩)
set_option maxRecDepth 100000 in
theorem ae2:Rd enc Tryz.prog w 131 2 aD.c aD.ok:=
 lD Tryz.underlying131 (by kernel_rfl) (bU rfl (dN (t:=9) Tryz.underlying9 (by kernel_rfl)) (bU rfl (mQ (t:=129) (e:=235) (d:=(default:aC)) (c:=aC.c) Tryz.underlying129 (by kernel_rfl) ae1 (by decide)) sV)) (fun p:(List UInt8)×(List aC)×Unit=>(⟨p.1,p.2.1⟩:aD)) (fun _=>rfl) (fun _=>rfl) (fun _ h=>⟨h.1,h.2.1⟩)
set_option maxRecDepth 100000 in
theorem ae3:Rd enc Tryz.prog w 134 6 aH.c aH.ok:=
 lD Tryz.underlying134 (by kernel_rfl) (bU rfl (dN (t:=9) Tryz.underlying9 (by kernel_rfl)) (bU rfl (dN (t:=9) Tryz.underlying9 (by kernel_rfl)) (bU rfl (dN (t:=9) Tryz.underlying9 (by kernel_rfl)) (bU rfl (dN (t:=9) Tryz.underlying9 (by kernel_rfl)) (bU rfl (dN (t:=9) Tryz.underlying9 (by kernel_rfl)) (bU rfl (dN (t:=9) Tryz.underlying9 (by kernel_rfl)) sV)))))) (fun p:(List UInt8)×(List UInt8)×(List UInt8)×(List UInt8)×(List UInt8)×(List UInt8)×Unit=>(⟨p.1,p.2.1,p.2.2.1,p.2.2.2.1,p.2.2.2.2.1,p.2.2.2.2.2.1⟩:aH)) (fun _=>rfl) (fun _=>rfl) (fun _ h=>⟨h.1,h.2.1,h.2.2.1,h.2.2.2.1,h.2.2.2.2.1,h.2.2.2.2.2.1⟩)
set_option maxRecDepth 100000 in
theorem ae4:Rd enc Tryz.prog w 137 2 aJ.c aJ.ok:=
 lD Tryz.underlying137 (by kernel_rfl) (bU rfl (dN (t:=9) Tryz.underlying9 (by kernel_rfl)) (bU rfl (dN (t:=9) Tryz.underlying9 (by kernel_rfl)) sV)) (fun p:(List UInt8)×(List UInt8)×Unit=>(⟨p.1,p.2.1⟩:aJ)) (fun _=>rfl) (fun _=>rfl) (fun _ h=>⟨h.1,h.2.1⟩)
set_option maxRecDepth 100000 in
theorem adx:Rd enc Tryz.prog w 26 3 aL.c aL.ok:=
 lD Tryz.underlying26 (by kernel_rfl) (bU rfl (mQ (t:=22) (e:=131) (d:=(default:aD)) (c:=aD.c) Tryz.underlying22 (by kernel_rfl) ae2 (by decide)) (bU rfl (mQ (t:=23) (e:=134) (d:=(default:aH)) (c:=aH.c) Tryz.underlying23 (by kernel_rfl) ae3 (by decide)) (bU rfl (mQ (t:=24) (e:=137) (d:=(default:aJ)) (c:=aJ.c) Tryz.underlying24 (by kernel_rfl) ae4 (by decide)) sV))) (fun p:(List aD)×(List aH)×(List aJ)×Unit=>(⟨p.1,p.2.1,p.2.2.1⟩:aL)) (fun _=>rfl) (fun _=>rfl) (fun _ h=>⟨h.1,h.2.1,h.2.2.1⟩)
set_option maxRecDepth 100000 in
theorem ags:Za enc Tryz.prog w [26,32] (fun x:(aL)×(aG)×Unit=>[.agg (aL.c x.1),.agg (aG.c x.2.1)]) (fun x=>aL.ok x.1∧aG.ok x.2.1∧True):=
 fun base vs ds ps h hv=>by
  obtain ⟨x,h1,h2⟩:=((uy Tryz.underlying26 adx (uy Tryz.underlying32 adw QN)):Za enc Tryz.prog w _ _ _) base vs ds ps h hv;exact ⟨x,⟨h1.1,h1.2.1,trivial⟩,h2⟩
set_option maxRecDepth 100000 in
theorem agt:Za enc Tryz.prog w [26,32,9,9,9] (fun x:(aL)×(aG)×(List UInt8)×(List UInt8)×(List UInt8)×Unit=>[.agg (aL.c x.1),.agg (aG.c x.2.1),.str x.2.2.1,.str x.2.2.2.1,.str x.2.2.2.2.1]) (fun x=>aL.ok x.1∧aG.ok x.2.1∧dB x.2.2.1∧dB x.2.2.2.1∧dB x.2.2.2.2.1∧True):=
 fun base vs ds ps h hv=>by
  obtain ⟨x,h1,h2⟩:=((uy Tryz.underlying26 adx (uy Tryz.underlying32 adw (Bi (d:=_) Tryz.underlying9 rfl (dN (t:=9) Tryz.underlying9 (by kernel_rfl)) (Bi (d:=_) Tryz.underlying9 rfl (dN (t:=9) Tryz.underlying9 (by kernel_rfl)) (Bi (d:=_) Tryz.underlying9 rfl (dN (t:=9) Tryz.underlying9 (by kernel_rfl)) QN))))):Za enc Tryz.prog w _ _ _) base vs ds ps h hv;exact ⟨x,⟨h1.1,h1.2.1,h1.2.2.1,h1.2.2.2.1,h1.2.2.2.2.1,trivial⟩,h2⟩
set_option maxRecDepth 100000 in
theorem agu:Za enc Tryz.prog w [26,32,9,9,3] (fun x:(aL)×(aG)×(List UInt8)×(List UInt8)×(Int)×Unit=>[.agg (aL.c x.1),.agg (aG.c x.2.1),.str x.2.2.1,.str x.2.2.2.1,.int .i64 x.2.2.2.2.1]) (fun x=>aL.ok x.1∧aG.ok x.2.1∧dB x.2.2.1∧dB x.2.2.2.1∧jr .i64 x.2.2.2.2.1∧True):=
 fun base vs ds ps h hv=>by
  obtain ⟨x,h1,h2⟩:=((uy Tryz.underlying26 adx (uy Tryz.underlying32 adw (Bi (d:=_) Tryz.underlying9 rfl (dN (t:=9) Tryz.underlying9 (by kernel_rfl)) (Bi (d:=_) Tryz.underlying9 rfl (dN (t:=9) Tryz.underlying9 (by kernel_rfl)) (Bi (d:=_) Tryz.underlying3 rfl (q7 (t:=3) (k:=.i64) Tryz.underlying3 (by kernel_rfl)) QN))))):Za enc Tryz.prog w _ _ _) base vs ds ps h hv;exact ⟨x,⟨h1.1,h1.2.1,h1.2.2.1,h1.2.2.2.1,h1.2.2.2.2.1,trivial⟩,h2⟩
end
end Go.Proofs.YtjkbbdldmdajkaaGreatDoor.Fn
