/- What the laws are handed is data. No condition. -/
import Derived.Test.YtljfmaaadnoggaaGreatDoorFnFd
import Derived.Test.YtljfmaaadnoggaaGreatDoorWR
namespace Go.Proofs.YtljfmaaadnoggaaGreatDoor.Fn
open Go Go.RowKit Go.Proofs.YtljfmaaadnoggaaGreatDoor.cX
section
variable {H:Type} {enc:TypeId×Value→H} {w:World}
set_option maxRecDepth 100000 in
theorem ag8:Rd enc Tryz.prog w 110 7 aA.c aA.ok:=
 kW Tryz.underlying110 (by kernel_rfl) (bV rfl (eJ (t:=9) Tryz.underlying9 (by kernel_rfl)) (bV rfl (eJ (t:=9) Tryz.underlying9 (by kernel_rfl)) (bV rfl (eJ (t:=9) Tryz.underlying9 (by kernel_rfl)) (bV rfl (mz (t:=93) (e:=9) (d:=([]:List UInt8)) (c:=(fun y:List UInt8=>[.str y])) Tryz.underlying93 (by kernel_rfl) (eJ (t:=9) Tryz.underlying9 (by kernel_rfl)) (by decide)) (bV rfl (SU (t:=4) Tryz.underlying4 (by kernel_rfl)) (bV rfl (mz (t:=93) (e:=9) (d:=([]:List UInt8)) (c:=(fun y:List UInt8=>[.str y])) Tryz.underlying93 (by kernel_rfl) (eJ (t:=9) Tryz.underlying9 (by kernel_rfl)) (by decide)) (bV rfl (sT (t:=3) (k:=.i64) Tryz.underlying3 (by kernel_rfl)) sU))))))) (fun p:(List UInt8)×(List UInt8)×(List UInt8)×(List (List UInt8))×(Bool)×(List (List UInt8))×(Int)×Unit=>(⟨p.1,p.2.1,p.2.2.1,p.2.2.2.1,p.2.2.2.2.1,p.2.2.2.2.2.1,p.2.2.2.2.2.2.1⟩:aA)) (fun _=>rfl) (fun _=>rfl) (fun _ h=>⟨h.1,h.2.1,h.2.2.1,h.2.2.2.1,h.2.2.2.2.1,h.2.2.2.2.2.1,h.2.2.2.2.2.2.1⟩)
set_option maxRecDepth 100000 in
theorem ag9:Rd enc Tryz.prog w 113 4 bD.c bD.ok:=
 kW Tryz.underlying113 (by kernel_rfl) (bV rfl (mz (t:=35) (e:=3) (d:=(0:Int)) (c:=(fun y:Int=>[.int .i64 y])) Tryz.underlying35 (by kernel_rfl) (sT (t:=3) (k:=.i64) Tryz.underlying3 (by kernel_rfl)) (by decide)) (bV rfl (eJ (t:=9) Tryz.underlying9 (by kernel_rfl)) (bV rfl (eJ (t:=9) Tryz.underlying9 (by kernel_rfl)) (bV rfl (eJ (t:=9) Tryz.underlying9 (by kernel_rfl)) sU)))) (fun p:(List Int)×(List UInt8)×(List UInt8)×(List UInt8)×Unit=>(⟨p.1,p.2.1,p.2.2.1,p.2.2.2.1⟩:bD)) (fun _=>rfl) (fun _=>rfl) (fun _ h=>⟨h.1,h.2.1,h.2.2.1,h.2.2.2.1⟩)
set_option maxRecDepth 100000 in
theorem ag_:Rd enc Tryz.prog w 115 7 aK.c aK.ok:=
 kW Tryz.underlying115 (by kernel_rfl) (bV rfl (sT (t:=3) (k:=.i64) Tryz.underlying3 (by kernel_rfl)) (bV rfl (eJ (t:=9) Tryz.underlying9 (by kernel_rfl)) (bV rfl (eJ (t:=9) Tryz.underlying9 (by kernel_rfl)) (bV rfl ag9 sU)))) (fun p:(Int)×(List UInt8)×(List UInt8)×(bD)×Unit=>(⟨p.1,p.2.1,p.2.2.1,p.2.2.2.1⟩:aK)) (fun _=>rfl) (fun _=>rfl) (fun _ h=>⟨h.1,h.2.1,h.2.2.1,h.2.2.2.1⟩)
set_option maxRecDepth 100000 in
theorem aha:Rd enc Tryz.prog w 118 4 aI.c aI.ok:=
 kW Tryz.underlying118 (by kernel_rfl) (bV rfl (eJ (t:=9) Tryz.underlying9 (by kernel_rfl)) (bV rfl (eJ (t:=9) Tryz.underlying9 (by kernel_rfl)) (bV rfl (sT (t:=3) (k:=.i64) Tryz.underlying3 (by kernel_rfl)) (bV rfl (sT (t:=3) (k:=.i64) Tryz.underlying3 (by kernel_rfl)) sU)))) (fun p:(List UInt8)×(List UInt8)×(Int)×(Int)×Unit=>(⟨p.1,p.2.1,p.2.2.1,p.2.2.2.1⟩:aI)) (fun _=>rfl) (fun _=>rfl) (fun _ h=>⟨h.1,h.2.1,h.2.2.1,h.2.2.2.1⟩)
set_option maxRecDepth 100000 in
theorem ahb:Rd enc Tryz.prog w 121 5 aL.c aL.ok:=
 kW Tryz.underlying121 (by kernel_rfl) (bV rfl (eJ (t:=9) Tryz.underlying9 (by kernel_rfl)) (bV rfl (eJ (t:=9) Tryz.underlying9 (by kernel_rfl)) (bV rfl (eJ (t:=9) Tryz.underlying9 (by kernel_rfl)) (bV rfl (sT (t:=3) (k:=.i64) Tryz.underlying3 (by kernel_rfl)) (bV rfl (sT (t:=3) (k:=.i64) Tryz.underlying3 (by kernel_rfl)) sU))))) (fun p:(List UInt8)×(List UInt8)×(List UInt8)×(Int)×(Int)×Unit=>(⟨p.1,p.2.1,p.2.2.1,p.2.2.2.1,p.2.2.2.2.1⟩:aL)) (fun _=>rfl) (fun _=>rfl) (fun _ h=>⟨h.1,h.2.1,h.2.2.1,h.2.2.2.1,h.2.2.2.2.1⟩)
set_option maxRecDepth 100000 in
theorem ahc:Rd enc Tryz.prog w 32 7 aE.c aE.ok:=
 kW Tryz.underlying32 (by kernel_rfl) (bV rfl (sT (t:=3) (k:=.i64) Tryz.underlying3 (by kernel_rfl)) (bV rfl (sT (t:=3) (k:=.i64) Tryz.underlying3 (by kernel_rfl)) (bV rfl (sT (t:=3) (k:=.i64) Tryz.underlying3 (by kernel_rfl)) (bV rfl (mz (t:=27) (e:=110) (d:=(default:aA)) (c:=aA.c) Tryz.underlying27 (by kernel_rfl) ag8 (by decide)) (bV rfl (mz (t:=28) (e:=115) (d:=(default:aK)) (c:=aK.c) Tryz.underlying28 (by kernel_rfl) ag_ (by decide)) (bV rfl (mz (t:=29) (e:=118) (d:=(default:aI)) (c:=aI.c) Tryz.underlying29 (by kernel_rfl) aha (by decide)) (bV rfl (mz (t:=30) (e:=121) (d:=(default:aL)) (c:=aL.c) Tryz.underlying30 (by kernel_rfl) ahb (by decide)) sU))))))) (fun p:(Int)×(Int)×(Int)×(List aA)×(List aK)×(List aI)×(List aL)×Unit=>(⟨p.1,p.2.1,p.2.2.1,p.2.2.2.1,p.2.2.2.2.1,p.2.2.2.2.2.1,p.2.2.2.2.2.2.1⟩:aE)) (fun _=>rfl) (fun _=>rfl) (fun _ h=>⟨h.1,h.2.1,h.2.2.1,h.2.2.2.1,h.2.2.2.2.1,h.2.2.2.2.2.1,h.2.2.2.2.2.2.1⟩)
set_option maxRecDepth 100000 in
theorem ahd:Rd enc Tryz.prog w 190 11 aB.c aB.ok:=
 kW Tryz.underlying190 (by kernel_rfl) (bV rfl (eJ (t:=9) Tryz.underlying9 (by kernel_rfl)) (bV rfl (sT (t:=3) (k:=.i64) Tryz.underlying3 (by kernel_rfl)) (bV rfl (sT (t:=3) (k:=.i64) Tryz.underlying3 (by kernel_rfl)) (bV rfl (sT (t:=3) (k:=.i64) Tryz.underlying3 (by kernel_rfl)) (bV rfl (mz (t:=93) (e:=9) (d:=([]:List UInt8)) (c:=(fun y:List UInt8=>[.str y])) Tryz.underlying93 (by kernel_rfl) (eJ (t:=9) Tryz.underlying9 (by kernel_rfl)) (by decide)) (bV rfl (eJ (t:=9) Tryz.underlying9 (by kernel_rfl)) (bV rfl (sT (t:=3) (k:=.i64) Tryz.underlying3 (by kernel_rfl)) (bV rfl (SU (t:=4) Tryz.underlying4 (by kernel_rfl)) (bV rfl (SU (t:=4) Tryz.underlying4 (by kernel_rfl)) (bV rfl (eJ (t:=9) Tryz.underlying9 (by kernel_rfl)) (bV rfl (eJ (t:=9) Tryz.underlying9 (by kernel_rfl)) sU))))))))))) (fun p:(List UInt8)×(Int)×(Int)×(Int)×(List (List UInt8))×(List UInt8)×(Int)×(Bool)×(Bool)×(List UInt8)×(List UInt8)×Unit=>(⟨p.1,p.2.1,p.2.2.1,p.2.2.2.1,p.2.2.2.2.1,p.2.2.2.2.2.1,p.2.2.2.2.2.2.1,p.2.2.2.2.2.2.2.1,p.2.2.2.2.2.2.2.2.1,p.2.2.2.2.2.2.2.2.2.1,p.2.2.2.2.2.2.2.2.2.2.1⟩:aB)) (fun _=>rfl) (fun _=>rfl) (fun _ h=>⟨h.1,h.2.1,h.2.2.1,h.2.2.2.1,h.2.2.2.2.1,h.2.2.2.2.2.1,h.2.2.2.2.2.2.1,h.2.2.2.2.2.2.2.1,h.2.2.2.2.2.2.2.2.1,h.2.2.2.2.2.2.2.2.2.1,h.2.2.2.2.2.2.2.2.2.2.1⟩)
set_option maxRecDepth 100000 in
theorem ahe:Rd enc Tryz.prog w 102 2 aC.c aC.ok:=
 kW Tryz.underlying102 (by kernel_rfl) (bV rfl (eJ (t:=9) Tryz.underlying9 (by kernel_rfl)) (bV rfl (mz (t:=100) (e:=190) (d:=(default:aB)) (c:=aB.c) Tryz.underlying100 (by kernel_rfl) ahd (by decide)) sU)) (fun p:(List UInt8)×(List aB)×Unit=>(⟨p.1,p.2.1⟩:aC)) (fun _=>rfl) (fun _=>rfl) (fun _ h=>⟨h.1,h.2.1⟩)
set_option maxRecDepth 100000 in
theorem ahf:Rd enc Tryz.prog w 105 6 aD.c aD.ok:=
 kW Tryz.underlying105 (by kernel_rfl) (bV rfl (eJ (t:=9) Tryz.underlying9 (by kernel_rfl)) (bV rfl (eJ (t:=9) Tryz.underlying9 (by kernel_rfl)) (bV rfl (eJ (t:=9) Tryz.underlying9 (by kernel_rfl)) (bV rfl (eJ (t:=9) Tryz.underlying9 (by kernel_rfl)) (bV rfl (eJ (t:=9) Tryz.underlying9 (by kernel_rfl)) (bV rfl (eJ (t:=9) Tryz.underlying9 (by kernel_rfl)) sU)))))) (fun p:(List UInt8)×(List UInt8)×(List UInt8)×(List UInt8)×(List UInt8)×(List UInt8)×Unit=>(⟨p.1,p.2.1,p.2.2.1,p.2.2.2.1,p.2.2.2.2.1,p.2.2.2.2.2.1⟩:aD)) (fun _=>rfl) (fun _=>rfl) (fun _ h=>⟨h.1,h.2.1,h.2.2.1,h.2.2.2.1,h.2.2.2.2.1,h.2.2.2.2.2.1⟩)
set_option maxRecDepth 100000 in
theorem ahg:Rd enc Tryz.prog w 108 2 aJ.c aJ.ok:=
 kW Tryz.underlying108 (by kernel_rfl) (bV rfl (eJ (t:=9) Tryz.underlying9 (by kernel_rfl)) (bV rfl (eJ (t:=9) Tryz.underlying9 (by kernel_rfl)) sU)) (fun p:(List UInt8)×(List UInt8)×Unit=>(⟨p.1,p.2.1⟩:aJ)) (fun _=>rfl) (fun _=>rfl) (fun _ h=>⟨h.1,h.2.1⟩)
set_option maxRecDepth 100000 in
theorem ahh:Rd enc Tryz.prog w 26 3 aH.c aH.ok:=
 kW Tryz.underlying26 (by kernel_rfl) (bV rfl (mz (t:=22) (e:=102) (d:=(default:aC)) (c:=aC.c) Tryz.underlying22 (by kernel_rfl) ahe (by decide)) (bV rfl (mz (t:=23) (e:=105) (d:=(default:aD)) (c:=aD.c) Tryz.underlying23 (by kernel_rfl) ahf (by decide)) (bV rfl (mz (t:=24) (e:=108) (d:=(default:aJ)) (c:=aJ.c) Tryz.underlying24 (by kernel_rfl) ahg (by decide)) sU))) (fun p:(List aC)×(List aD)×(List aJ)×Unit=>(⟨p.1,p.2.1,p.2.2.1⟩:aH)) (fun _=>rfl) (fun _=>rfl) (fun _ h=>⟨h.1,h.2.1,h.2.2.1⟩)
set_option maxRecDepth 100000 in
theorem aiQ:RdA enc Tryz.prog w [26,32] (fun x:(aH)×(aE)×Unit=>[.agg (aH.c x.1),.agg (aE.c x.2.1)]) (fun x=>aH.ok x.1∧aE.ok x.2.1∧True):=
 fun base vs ds ps h hv=>by
  obtain ⟨x,h1,h2⟩:=((C6 Tryz.underlying26 ahh (C6 Tryz.underlying32 ahc Yz)):RdA enc Tryz.prog w _ _ _) base vs ds ps h hv
  exact ⟨x,⟨h1.1,h1.2.1,trivial⟩,h2⟩
set_option maxRecDepth 100000 in
theorem aiR:RdA enc Tryz.prog w [26,32] (fun x:(aH)×(aE)×Unit=>[.agg (aH.c x.1),.agg (aE.c x.2.1)]) (fun x=>aH.ok x.1∧aE.ok x.2.1∧True):=
 fun base vs ds ps h hv=>by
  obtain ⟨x,h1,h2⟩:=((C6 Tryz.underlying26 ahh (C6 Tryz.underlying32 ahc Yz)):RdA enc Tryz.prog w _ _ _) base vs ds ps h hv
  exact ⟨x,⟨h1.1,h1.2.1,trivial⟩,h2⟩
end
end Go.Proofs.YtljfmaaadnoggaaGreatDoor.Fn
