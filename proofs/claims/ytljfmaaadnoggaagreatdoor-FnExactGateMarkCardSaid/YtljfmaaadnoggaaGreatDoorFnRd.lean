/- What the laws are handed is data. No condition. -/
import Derived.Test.YtljfmaaadnoggaaGreatDoorFnFd
import Derived.Test.YtljfmaaadnoggaaGreatDoorWR
namespace Go.Proofs.YtljfmaaadnoggaaGreatDoor.Fn
open Go Go.RowKit Go.Proofs.YtljfmaaadnoggaaGreatDoor.cU
section
variable {H:Type} {enc:TypeId×Value→H} {w:World}
set_option maxRecDepth 100000 in
theorem adZ:Rd enc Tryz.prog w 110 7 aA.c aA.ok:=
 jS Tryz.underlying110 (by kernel_rfl) (bR rfl (ef (t:=9) Tryz.underlying9 (by kernel_rfl)) (bR rfl (ef (t:=9) Tryz.underlying9 (by kernel_rfl)) (bR rfl (ef (t:=9) Tryz.underlying9 (by kernel_rfl)) (bR rfl (k_ (t:=93) (e:=9) (d:=([]:List UInt8)) (c:=(fun y:List UInt8=>[.str y])) Tryz.underlying93 (by kernel_rfl) (ef (t:=9) Tryz.underlying9 (by kernel_rfl)) (by decide)) (bR rfl (Qm (t:=4) Tryz.underlying4 (by kernel_rfl)) (bR rfl (k_ (t:=93) (e:=9) (d:=([]:List UInt8)) (c:=(fun y:List UInt8=>[.str y])) Tryz.underlying93 (by kernel_rfl) (ef (t:=9) Tryz.underlying9 (by kernel_rfl)) (by decide)) (bR rfl (ri (t:=3) (k:=.i64) Tryz.underlying3 (by kernel_rfl)) rj))))))) (fun p:(List UInt8)×(List UInt8)×(List UInt8)×(List (List UInt8))×(Bool)×(List (List UInt8))×(Int)×Unit=>(⟨p.1,p.2.1,p.2.2.1,p.2.2.2.1,p.2.2.2.2.1,p.2.2.2.2.2.1,p.2.2.2.2.2.2.1⟩:aA)) (fun _=>rfl) (fun _=>rfl) (fun _ h=>⟨h.1,h.2.1,h.2.2.1,h.2.2.2.1,h.2.2.2.2.1,h.2.2.2.2.2.1,h.2.2.2.2.2.2.1⟩)
set_option maxRecDepth 100000 in
theorem ad0:Rd enc Tryz.prog w 113 4 a_.c a_.ok:=
 jS Tryz.underlying113 (by kernel_rfl) (bR rfl (k_ (t:=35) (e:=3) (d:=(0:Int)) (c:=(fun y:Int=>[.int .i64 y])) Tryz.underlying35 (by kernel_rfl) (ri (t:=3) (k:=.i64) Tryz.underlying3 (by kernel_rfl)) (by decide)) (bR rfl (ef (t:=9) Tryz.underlying9 (by kernel_rfl)) (bR rfl (ef (t:=9) Tryz.underlying9 (by kernel_rfl)) (bR rfl (ef (t:=9) Tryz.underlying9 (by kernel_rfl)) rj)))) (fun p:(List Int)×(List UInt8)×(List UInt8)×(List UInt8)×Unit=>(⟨p.1,p.2.1,p.2.2.1,p.2.2.2.1⟩:a_)) (fun _=>rfl) (fun _=>rfl) (fun _ h=>⟨h.1,h.2.1,h.2.2.1,h.2.2.2.1⟩)
set_option maxRecDepth 100000 in
theorem ad1:Rd enc Tryz.prog w 115 7 aI.c aI.ok:=
 jS Tryz.underlying115 (by kernel_rfl) (bR rfl (ri (t:=3) (k:=.i64) Tryz.underlying3 (by kernel_rfl)) (bR rfl (ef (t:=9) Tryz.underlying9 (by kernel_rfl)) (bR rfl (ef (t:=9) Tryz.underlying9 (by kernel_rfl)) (bR rfl ad0 rj)))) (fun p:(Int)×(List UInt8)×(List UInt8)×(a_)×Unit=>(⟨p.1,p.2.1,p.2.2.1,p.2.2.2.1⟩:aI)) (fun _=>rfl) (fun _=>rfl) (fun _ h=>⟨h.1,h.2.1,h.2.2.1,h.2.2.2.1⟩)
set_option maxRecDepth 100000 in
theorem ad2:Rd enc Tryz.prog w 118 4 aF.c aF.ok:=
 jS Tryz.underlying118 (by kernel_rfl) (bR rfl (ef (t:=9) Tryz.underlying9 (by kernel_rfl)) (bR rfl (ef (t:=9) Tryz.underlying9 (by kernel_rfl)) (bR rfl (ri (t:=3) (k:=.i64) Tryz.underlying3 (by kernel_rfl)) (bR rfl (ri (t:=3) (k:=.i64) Tryz.underlying3 (by kernel_rfl)) rj)))) (fun p:(List UInt8)×(List UInt8)×(Int)×(Int)×Unit=>(⟨p.1,p.2.1,p.2.2.1,p.2.2.2.1⟩:aF)) (fun _=>rfl) (fun _=>rfl) (fun _ h=>⟨h.1,h.2.1,h.2.2.1,h.2.2.2.1⟩)
set_option maxRecDepth 100000 in
theorem ad3:Rd enc Tryz.prog w 121 5 aJ.c aJ.ok:=
 jS Tryz.underlying121 (by kernel_rfl) (bR rfl (ef (t:=9) Tryz.underlying9 (by kernel_rfl)) (bR rfl (ef (t:=9) Tryz.underlying9 (by kernel_rfl)) (bR rfl (ef (t:=9) Tryz.underlying9 (by kernel_rfl)) (bR rfl (ri (t:=3) (k:=.i64) Tryz.underlying3 (by kernel_rfl)) (bR rfl (ri (t:=3) (k:=.i64) Tryz.underlying3 (by kernel_rfl)) rj))))) (fun p:(List UInt8)×(List UInt8)×(List UInt8)×(Int)×(Int)×Unit=>(⟨p.1,p.2.1,p.2.2.1,p.2.2.2.1,p.2.2.2.2.1⟩:aJ)) (fun _=>rfl) (fun _=>rfl) (fun _ h=>⟨h.1,h.2.1,h.2.2.1,h.2.2.2.1,h.2.2.2.2.1⟩)
set_option maxRecDepth 100000 in
theorem afv:Rd enc Tryz.prog w 32 7 aG.c aG.ok:=
 jS Tryz.underlying32 (by kernel_rfl) (bR rfl (ri (t:=3) (k:=.i64) Tryz.underlying3 (by kernel_rfl)) (bR rfl (ri (t:=3) (k:=.i64) Tryz.underlying3 (by kernel_rfl)) (bR rfl (ri (t:=3) (k:=.i64) Tryz.underlying3 (by kernel_rfl)) (bR rfl (k_ (t:=27) (e:=110) (d:=(default:aA)) (c:=aA.c) Tryz.underlying27 (by kernel_rfl) adZ (by decide)) (bR rfl (k_ (t:=28) (e:=115) (d:=(default:aI)) (c:=aI.c) Tryz.underlying28 (by kernel_rfl) ad1 (by decide)) (bR rfl (k_ (t:=29) (e:=118) (d:=(default:aF)) (c:=aF.c) Tryz.underlying29 (by kernel_rfl) ad2 (by decide)) (bR rfl (k_ (t:=30) (e:=121) (d:=(default:aJ)) (c:=aJ.c) Tryz.underlying30 (by kernel_rfl) ad3 (by decide)) rj))))))) (fun p:(Int)×(Int)×(Int)×(List aA)×(List aI)×(List aF)×(List aJ)×Unit=>(⟨p.1,p.2.1,p.2.2.1,p.2.2.2.1,p.2.2.2.2.1,p.2.2.2.2.2.1,p.2.2.2.2.2.2.1⟩:aG)) (fun _=>rfl) (fun _=>rfl) (fun _ h=>⟨h.1,h.2.1,h.2.2.1,h.2.2.2.1,h.2.2.2.2.1,h.2.2.2.2.2.1,h.2.2.2.2.2.2.1⟩)
set_option maxRecDepth 100000 in
theorem ad4:Rd enc Tryz.prog w 190 11 aB.c aB.ok:=
 jS Tryz.underlying190 (by kernel_rfl) (bR rfl (ef (t:=9) Tryz.underlying9 (by kernel_rfl)) (bR rfl (ri (t:=3) (k:=.i64) Tryz.underlying3 (by kernel_rfl)) (bR rfl (ri (t:=3) (k:=.i64) Tryz.underlying3 (by kernel_rfl)) (bR rfl (ri (t:=3) (k:=.i64) Tryz.underlying3 (by kernel_rfl)) (bR rfl (k_ (t:=93) (e:=9) (d:=([]:List UInt8)) (c:=(fun y:List UInt8=>[.str y])) Tryz.underlying93 (by kernel_rfl) (ef (t:=9) Tryz.underlying9 (by kernel_rfl)) (by decide)) (bR rfl (ef (t:=9) Tryz.underlying9 (by kernel_rfl)) (bR rfl (ri (t:=3) (k:=.i64) Tryz.underlying3 (by kernel_rfl)) (bR rfl (Qm (t:=4) Tryz.underlying4 (by kernel_rfl)) (bR rfl (Qm (t:=4) Tryz.underlying4 (by kernel_rfl)) (bR rfl (ef (t:=9) Tryz.underlying9 (by kernel_rfl)) (bR rfl (ef (t:=9) Tryz.underlying9 (by kernel_rfl)) rj))))))))))) (fun p:(List UInt8)×(Int)×(Int)×(Int)×(List (List UInt8))×(List UInt8)×(Int)×(Bool)×(Bool)×(List UInt8)×(List UInt8)×Unit=>(⟨p.1,p.2.1,p.2.2.1,p.2.2.2.1,p.2.2.2.2.1,p.2.2.2.2.2.1,p.2.2.2.2.2.2.1,p.2.2.2.2.2.2.2.1,p.2.2.2.2.2.2.2.2.1,p.2.2.2.2.2.2.2.2.2.1,p.2.2.2.2.2.2.2.2.2.2.1⟩:aB)) (fun _=>rfl) (fun _=>rfl) (fun _ h=>⟨h.1,h.2.1,h.2.2.1,h.2.2.2.1,h.2.2.2.2.1,h.2.2.2.2.2.1,h.2.2.2.2.2.2.1,h.2.2.2.2.2.2.2.1,h.2.2.2.2.2.2.2.2.1,h.2.2.2.2.2.2.2.2.2.1,h.2.2.2.2.2.2.2.2.2.2.1⟩)
set_option maxRecDepth 100000 in
theorem ad5:Rd enc Tryz.prog w 102 2 aC.c aC.ok:=
 jS Tryz.underlying102 (by kernel_rfl) (bR rfl (ef (t:=9) Tryz.underlying9 (by kernel_rfl)) (bR rfl (k_ (t:=100) (e:=190) (d:=(default:aB)) (c:=aB.c) Tryz.underlying100 (by kernel_rfl) ad4 (by decide)) rj)) (fun p:(List UInt8)×(List aB)×Unit=>(⟨p.1,p.2.1⟩:aC)) (fun _=>rfl) (fun _=>rfl) (fun _ h=>⟨h.1,h.2.1⟩)
set_option maxRecDepth 100000 in
theorem ad6:Rd enc Tryz.prog w 105 6 aD.c aD.ok:=
 jS Tryz.underlying105 (by kernel_rfl) (bR rfl (ef (t:=9) Tryz.underlying9 (by kernel_rfl)) (bR rfl (ef (t:=9) Tryz.underlying9 (by kernel_rfl)) (bR rfl (ef (t:=9) Tryz.underlying9 (by kernel_rfl)) (bR rfl (ef (t:=9) Tryz.underlying9 (by kernel_rfl)) (bR rfl (ef (t:=9) Tryz.underlying9 (by kernel_rfl)) (bR rfl (ef (t:=9) Tryz.underlying9 (by kernel_rfl)) rj)))))) (fun p:(List UInt8)×(List UInt8)×(List UInt8)×(List UInt8)×(List UInt8)×(List UInt8)×Unit=>(⟨p.1,p.2.1,p.2.2.1,p.2.2.2.1,p.2.2.2.2.1,p.2.2.2.2.2.1⟩:aD)) (fun _=>rfl) (fun _=>rfl) (fun _ h=>⟨h.1,h.2.1,h.2.2.1,h.2.2.2.1,h.2.2.2.2.1,h.2.2.2.2.2.1⟩)
set_option maxRecDepth 100000 in
theorem ad7:Rd enc Tryz.prog w 108 2 aH.c aH.ok:=
 jS Tryz.underlying108 (by kernel_rfl) (bR rfl (ef (t:=9) Tryz.underlying9 (by kernel_rfl)) (bR rfl (ef (t:=9) Tryz.underlying9 (by kernel_rfl)) rj)) (fun p:(List UInt8)×(List UInt8)×Unit=>(⟨p.1,p.2.1⟩:aH)) (fun _=>rfl) (fun _=>rfl) (fun _ h=>⟨h.1,h.2.1⟩)
set_option maxRecDepth 100000 in
theorem afw:Rd enc Tryz.prog w 26 3 aL.c aL.ok:=
 jS Tryz.underlying26 (by kernel_rfl) (bR rfl (k_ (t:=22) (e:=102) (d:=(default:aC)) (c:=aC.c) Tryz.underlying22 (by kernel_rfl) ad5 (by decide)) (bR rfl (k_ (t:=23) (e:=105) (d:=(default:aD)) (c:=aD.c) Tryz.underlying23 (by kernel_rfl) ad6 (by decide)) (bR rfl (k_ (t:=24) (e:=108) (d:=(default:aH)) (c:=aH.c) Tryz.underlying24 (by kernel_rfl) ad7 (by decide)) rj))) (fun p:(List aC)×(List aD)×(List aH)×Unit=>(⟨p.1,p.2.1,p.2.2.1⟩:aL)) (fun _=>rfl) (fun _=>rfl) (fun _ h=>⟨h.1,h.2.1,h.2.2.1⟩)
set_option maxRecDepth 100000 in
theorem afx:RdA enc Tryz.prog w [26,32] (fun x:(aL)×(aG)×Unit=>[.agg (aL.c x.1),.agg (aG.c x.2.1)]) (fun x=>aL.ok x.1∧aG.ok x.2.1∧True):=
 fun base vs ds ps h hv=>by
  obtain ⟨x,h1,h2⟩:=((Mt Tryz.underlying26 afw (Mt Tryz.underlying32 afv aay)):RdA enc Tryz.prog w _ _ _) base vs ds ps h hv
  exact ⟨x,⟨h1.1,h1.2.1,trivial⟩,h2⟩
end
end Go.Proofs.YtljfmaaadnoggaaGreatDoor.Fn
