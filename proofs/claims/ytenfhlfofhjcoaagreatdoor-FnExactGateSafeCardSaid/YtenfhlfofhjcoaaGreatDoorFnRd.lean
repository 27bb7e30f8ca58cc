/- What the laws are handed is data. No condition. -/
import Derived.Test.YtenfhlfofhjcoaaGreatDoorFnFd
import Derived.Test.YtenfhlfofhjcoaaGreatDoorWR
namespace Go.Proofs.YtenfhlfofhjcoaaGreatDoor.Fn
open Go Go.RowKit Go.Proofs.YtenfhlfofhjcoaaGreatDoor.Abs
section
variable {H:Type} {enc:TypeId×Value→H} {w:World}
set_option maxRecDepth 100000 in
theorem rd126:Rd enc Tryz.prog w 126 7 GateObject.c GateObject.ok:=
 rd_struct Tryz.underlying126 (by kernel_rfl) (rdf_cons rfl (rd_str (t:=9) Tryz.underlying9 (by kernel_rfl)) (rdf_cons rfl (rd_str (t:=9) Tryz.underlying9 (by kernel_rfl)) (rdf_cons rfl (rd_str (t:=9) Tryz.underlying9 (by kernel_rfl)) (rdf_cons rfl (rd_slice (t:=124) (e:=9) (d:=([]:List UInt8)) (c:=(fun y:List UInt8=>[.str y])) Tryz.underlying124 (by kernel_rfl) (rd_str (t:=9) Tryz.underlying9 (by kernel_rfl)) (by decide)) (rdf_cons rfl (rd_bool (t:=4) Tryz.underlying4 (by kernel_rfl)) (rdf_cons rfl (rd_slice (t:=124) (e:=9) (d:=([]:List UInt8)) (c:=(fun y:List UInt8=>[.str y])) Tryz.underlying124 (by kernel_rfl) (rd_str (t:=9) Tryz.underlying9 (by kernel_rfl)) (by decide)) (rdf_cons rfl (rd_int (t:=3) (k:=.i64) Tryz.underlying3 (by kernel_rfl)) rdf_nil))))))) (fun p:(List UInt8)×(List UInt8)×(List UInt8)×(List (List UInt8))×(Bool)×(List (List UInt8))×(Int)×Unit=>(⟨p.1,p.2.1,p.2.2.1,p.2.2.2.1,p.2.2.2.2.1,p.2.2.2.2.2.1,p.2.2.2.2.2.2.1⟩:GateObject)) (fun _=>rfl) (fun _=>rfl) (fun _ h=>⟨h.1,h.2.1,h.2.2.1,h.2.2.2.1,h.2.2.2.2.1,h.2.2.2.2.2.1,h.2.2.2.2.2.2.1⟩)
set_option maxRecDepth 100000 in
theorem rd128:Rd enc Tryz.prog w 128 4 GateRule.c GateRule.ok:=
 rd_struct Tryz.underlying128 (by kernel_rfl) (rdf_cons rfl (rd_slice (t:=106) (e:=3) (d:=(0:Int)) (c:=(fun y:Int=>[.int .i64 y])) Tryz.underlying106 (by kernel_rfl) (rd_int (t:=3) (k:=.i64) Tryz.underlying3 (by kernel_rfl)) (by decide)) (rdf_cons rfl (rd_str (t:=9) Tryz.underlying9 (by kernel_rfl)) (rdf_cons rfl (rd_str (t:=9) Tryz.underlying9 (by kernel_rfl)) (rdf_cons rfl (rd_str (t:=9) Tryz.underlying9 (by kernel_rfl)) rdf_nil)))) (fun p:(List Int)×(List UInt8)×(List UInt8)×(List UInt8)×Unit=>(⟨p.1,p.2.1,p.2.2.1,p.2.2.2.1⟩:GateRule)) (fun _=>rfl) (fun _=>rfl) (fun _ h=>⟨h.1,h.2.1,h.2.2.1,h.2.2.2.1⟩)
set_option maxRecDepth 100000 in
theorem rd130:Rd enc Tryz.prog w 130 7 GateGrant.c GateGrant.ok:=
 rd_struct Tryz.underlying130 (by kernel_rfl) (rdf_cons rfl (rd_int (t:=3) (k:=.i64) Tryz.underlying3 (by kernel_rfl)) (rdf_cons rfl (rd_str (t:=9) Tryz.underlying9 (by kernel_rfl)) (rdf_cons rfl (rd_str (t:=9) Tryz.underlying9 (by kernel_rfl)) (rdf_cons rfl rd128 rdf_nil)))) (fun p:(Int)×(List UInt8)×(List UInt8)×(GateRule)×Unit=>(⟨p.1,p.2.1,p.2.2.1,p.2.2.2.1⟩:GateGrant)) (fun _=>rfl) (fun _=>rfl) (fun _ h=>⟨h.1,h.2.1,h.2.2.1,h.2.2.2.1⟩)
set_option maxRecDepth 100000 in
theorem rd133:Rd enc Tryz.prog w 133 4 GateLedger.c GateLedger.ok:=
 rd_struct Tryz.underlying133 (by kernel_rfl) (rdf_cons rfl (rd_str (t:=9) Tryz.underlying9 (by kernel_rfl)) (rdf_cons rfl (rd_str (t:=9) Tryz.underlying9 (by kernel_rfl)) (rdf_cons rfl (rd_int (t:=3) (k:=.i64) Tryz.underlying3 (by kernel_rfl)) (rdf_cons rfl (rd_int (t:=3) (k:=.i64) Tryz.underlying3 (by kernel_rfl)) rdf_nil)))) (fun p:(List UInt8)×(List UInt8)×(Int)×(Int)×Unit=>(⟨p.1,p.2.1,p.2.2.1,p.2.2.2.1⟩:GateLedger)) (fun _=>rfl) (fun _=>rfl) (fun _ h=>⟨h.1,h.2.1,h.2.2.1,h.2.2.2.1⟩)
set_option maxRecDepth 100000 in
theorem rd136:Rd enc Tryz.prog w 136 5 GatePurse.c GatePurse.ok:=
 rd_struct Tryz.underlying136 (by kernel_rfl) (rdf_cons rfl (rd_str (t:=9) Tryz.underlying9 (by kernel_rfl)) (rdf_cons rfl (rd_str (t:=9) Tryz.underlying9 (by kernel_rfl)) (rdf_cons rfl (rd_str (t:=9) Tryz.underlying9 (by kernel_rfl)) (rdf_cons rfl (rd_int (t:=3) (k:=.i64) Tryz.underlying3 (by kernel_rfl)) (rdf_cons rfl (rd_int (t:=3) (k:=.i64) Tryz.underlying3 (by kernel_rfl)) rdf_nil))))) (fun p:(List UInt8)×(List UInt8)×(List UInt8)×(Int)×(Int)×Unit=>(⟨p.1,p.2.1,p.2.2.1,p.2.2.2.1,p.2.2.2.2.1⟩:GatePurse)) (fun _=>rfl) (fun _=>rfl) (fun _ h=>⟨h.1,h.2.1,h.2.2.1,h.2.2.2.1,h.2.2.2.2.1⟩)
set_option maxRecDepth 100000 in
theorem rd32:Rd enc Tryz.prog w 32 7 GateBook.c GateBook.ok:=
 rd_struct Tryz.underlying32 (by kernel_rfl) (rdf_cons rfl (rd_int (t:=3) (k:=.i64) Tryz.underlying3 (by kernel_rfl)) (rdf_cons rfl (rd_int (t:=3) (k:=.i64) Tryz.underlying3 (by kernel_rfl)) (rdf_cons rfl (rd_int (t:=3) (k:=.i64) Tryz.underlying3 (by kernel_rfl)) (rdf_cons rfl (rd_slice (t:=27) (e:=126) (d:=(default:GateObject)) (c:=GateObject.c) Tryz.underlying27 (by kernel_rfl) rd126 (by decide)) (rdf_cons rfl (rd_slice (t:=28) (e:=130) (d:=(default:GateGrant)) (c:=GateGrant.c) Tryz.underlying28 (by kernel_rfl) rd130 (by decide)) (rdf_cons rfl (rd_slice (t:=29) (e:=133) (d:=(default:GateLedger)) (c:=GateLedger.c) Tryz.underlying29 (by kernel_rfl) rd133 (by decide)) (rdf_cons rfl (rd_slice (t:=30) (e:=136) (d:=(default:GatePurse)) (c:=GatePurse.c) Tryz.underlying30 (by kernel_rfl) rd136 (by decide)) rdf_nil))))))) (fun p:(Int)×(Int)×(Int)×(List GateObject)×(List GateGrant)×(List GateLedger)×(List GatePurse)×Unit=>(⟨p.1,p.2.1,p.2.2.1,p.2.2.2.1,p.2.2.2.2.1,p.2.2.2.2.2.1,p.2.2.2.2.2.2.1⟩:GateBook)) (fun _=>rfl) (fun _=>rfl) (fun _ h=>⟨h.1,h.2.1,h.2.2.1,h.2.2.2.1,h.2.2.2.2.1,h.2.2.2.2.2.1,h.2.2.2.2.2.2.1⟩)
set_option maxRecDepth 100000 in
theorem rd239:Rd enc Tryz.prog w 239 11 GateField.c GateField.ok:=
 rd_struct Tryz.underlying239 (by kernel_rfl) (rdf_cons rfl (rd_str (t:=9) Tryz.underlying9 (by kernel_rfl)) (rdf_cons rfl (rd_int (t:=3) (k:=.i64) Tryz.underlying3 (by kernel_rfl)) (rdf_cons rfl (rd_int (t:=3) (k:=.i64) Tryz.underlying3 (by kernel_rfl)) (rdf_cons rfl (rd_int (t:=3) (k:=.i64) Tryz.underlying3 (by kernel_rfl)) (rdf_cons rfl (rd_slice (t:=124) (e:=9) (d:=([]:List UInt8)) (c:=(fun y:List UInt8=>[.str y])) Tryz.underlying124 (by kernel_rfl) (rd_str (t:=9) Tryz.underlying9 (by kernel_rfl)) (by decide)) (rdf_cons rfl (rd_str (t:=9) Tryz.underlying9 (by kernel_rfl)) (rdf_cons rfl (rd_int (t:=3) (k:=.i64) Tryz.underlying3 (by kernel_rfl)) (rdf_cons rfl (rd_bool (t:=4) Tryz.underlying4 (by kernel_rfl)) (rdf_cons rfl (rd_bool (t:=4) Tryz.underlying4 (by kernel_rfl)) (rdf_cons rfl (rd_str (t:=9) Tryz.underlying9 (by kernel_rfl)) (rdf_cons rfl (rd_str (t:=9) Tryz.underlying9 (by kernel_rfl)) rdf_nil))))))))))) (fun p:(List UInt8)×(Int)×(Int)×(Int)×(List (List UInt8))×(List UInt8)×(Int)×(Bool)×(Bool)×(List UInt8)×(List UInt8)×Unit=>(⟨p.1,p.2.1,p.2.2.1,p.2.2.2.1,p.2.2.2.2.1,p.2.2.2.2.2.1,p.2.2.2.2.2.2.1,p.2.2.2.2.2.2.2.1,p.2.2.2.2.2.2.2.2.1,p.2.2.2.2.2.2.2.2.2.1,p.2.2.2.2.2.2.2.2.2.2.1⟩:GateField)) (fun _=>rfl) (fun _=>rfl) (fun _ h=>⟨h.1,h.2.1,h.2.2.1,h.2.2.2.1,h.2.2.2.2.1,h.2.2.2.2.2.1,h.2.2.2.2.2.2.1,h.2.2.2.2.2.2.2.1,h.2.2.2.2.2.2.2.2.1,h.2.2.2.2.2.2.2.2.2.1,h.2.2.2.2.2.2.2.2.2.2.1⟩)
set_option maxRecDepth 100000 in
theorem rd116:Rd enc Tryz.prog w 116 2 GateShape.c GateShape.ok:=
 rd_struct Tryz.underlying116 (by kernel_rfl) (rdf_cons rfl (rd_str (t:=9) Tryz.underlying9 (by kernel_rfl)) (rdf_cons rfl (rd_slice (t:=114) (e:=239) (d:=(default:GateField)) (c:=GateField.c) Tryz.underlying114 (by kernel_rfl) rd239 (by decide)) rdf_nil)) (fun p:(List UInt8)×(List GateField)×Unit=>(⟨p.1,p.2.1⟩:GateShape)) (fun _=>rfl) (fun _=>rfl) (fun _ h=>⟨h.1,h.2.1⟩)
set_option maxRecDepth 100000 in
theorem rd119:Rd enc Tryz.prog w 119 6 GateMend.c GateMend.ok:=
 rd_struct Tryz.underlying119 (by kernel_rfl) (rdf_cons rfl (rd_str (t:=9) Tryz.underlying9 (by kernel_rfl)) (rdf_cons rfl (rd_str (t:=9) Tryz.underlying9 (by kernel_rfl)) (rdf_cons rfl (rd_str (t:=9) Tryz.underlying9 (by kernel_rfl)) (rdf_cons rfl (rd_str (t:=9) Tryz.underlying9 (by kernel_rfl)) (rdf_cons rfl (rd_str (t:=9) Tryz.underlying9 (by kernel_rfl)) (rdf_cons rfl (rd_str (t:=9) Tryz.underlying9 (by kernel_rfl)) rdf_nil)))))) (fun p:(List UInt8)×(List UInt8)×(List UInt8)×(List UInt8)×(List UInt8)×(List UInt8)×Unit=>(⟨p.1,p.2.1,p.2.2.1,p.2.2.2.1,p.2.2.2.2.1,p.2.2.2.2.2.1⟩:GateMend)) (fun _=>rfl) (fun _=>rfl) (fun _ h=>⟨h.1,h.2.1,h.2.2.1,h.2.2.2.1,h.2.2.2.2.1,h.2.2.2.2.2.1⟩)
set_option maxRecDepth 100000 in
theorem rd122:Rd enc Tryz.prog w 122 2 GateTeam.c GateTeam.ok:=
 rd_struct Tryz.underlying122 (by kernel_rfl) (rdf_cons rfl (rd_str (t:=9) Tryz.underlying9 (by kernel_rfl)) (rdf_cons rfl (rd_str (t:=9) Tryz.underlying9 (by kernel_rfl)) rdf_nil)) (fun p:(List UInt8)×(List UInt8)×Unit=>(⟨p.1,p.2.1⟩:GateTeam)) (fun _=>rfl) (fun _=>rfl) (fun _ h=>⟨h.1,h.2.1⟩)
set_option maxRecDepth 100000 in
theorem rd26:Rd enc Tryz.prog w 26 3 GateLaw.c GateLaw.ok:=
 rd_struct Tryz.underlying26 (by kernel_rfl) (rdf_cons rfl (rd_slice (t:=22) (e:=116) (d:=(default:GateShape)) (c:=GateShape.c) Tryz.underlying22 (by kernel_rfl) rd116 (by decide)) (rdf_cons rfl (rd_slice (t:=23) (e:=119) (d:=(default:GateMend)) (c:=GateMend.c) Tryz.underlying23 (by kernel_rfl) rd119 (by decide)) (rdf_cons rfl (rd_slice (t:=24) (e:=122) (d:=(default:GateTeam)) (c:=GateTeam.c) Tryz.underlying24 (by kernel_rfl) rd122 (by decide)) rdf_nil))) (fun p:(List GateShape)×(List GateMend)×(List GateTeam)×Unit=>(⟨p.1,p.2.1,p.2.2.1⟩:GateLaw)) (fun _=>rfl) (fun _=>rfl) (fun _ h=>⟨h.1,h.2.1,h.2.2.1⟩)
set_option maxRecDepth 100000 in
theorem rda3:RdA enc Tryz.prog w [26,32] (fun x:(GateLaw)×(GateBook)×Unit=>[.agg (GateLaw.c x.1),.agg (GateBook.c x.2.1)]) (fun x=>GateLaw.ok x.1∧GateBook.ok x.2.1∧True):=
 fun base vs ds ps h hv=>by
  obtain ⟨x,h1,h2⟩:=((rda_struct Tryz.underlying26 rd26 (rda_struct Tryz.underlying32 rd32 rda_nil)):RdA enc Tryz.prog w _ _ _) base vs ds ps h hv
  exact ⟨x,⟨h1.1,h1.2.1,trivial⟩,h2⟩
set_option maxRecDepth 100000 in
theorem rd270:Rd enc Tryz.prog w 270 15 GateAsk.c GateAsk.ok:=
 rd_struct Tryz.underlying270 (by kernel_rfl) (rdf_cons rfl (rd_str (t:=9) Tryz.underlying9 (by kernel_rfl)) (rdf_cons rfl (rd_int (t:=3) (k:=.i64) Tryz.underlying3 (by kernel_rfl)) (rdf_cons rfl (rd_str (t:=9) Tryz.underlying9 (by kernel_rfl)) (rdf_cons rfl (rd_str (t:=9) Tryz.underlying9 (by kernel_rfl)) (rdf_cons rfl (rd_str (t:=9) Tryz.underlying9 (by kernel_rfl)) (rdf_cons rfl (rd_slice (t:=124) (e:=9) (d:=([]:List UInt8)) (c:=(fun y:List UInt8=>[.str y])) Tryz.underlying124 (by kernel_rfl) (rd_str (t:=9) Tryz.underlying9 (by kernel_rfl)) (by decide)) (rdf_cons rfl (rd_slice (t:=124) (e:=9) (d:=([]:List UInt8)) (c:=(fun y:List UInt8=>[.str y])) Tryz.underlying124 (by kernel_rfl) (rd_str (t:=9) Tryz.underlying9 (by kernel_rfl)) (by decide)) (rdf_cons rfl (rd_int (t:=3) (k:=.i64) Tryz.underlying3 (by kernel_rfl)) (rdf_cons rfl (rd_str (t:=9) Tryz.underlying9 (by kernel_rfl)) (rdf_cons rfl (rd_str (t:=9) Tryz.underlying9 (by kernel_rfl)) (rdf_cons rfl rd128 (rdf_cons rfl (rd_int (t:=3) (k:=.i64) Tryz.underlying3 (by kernel_rfl)) rdf_nil)))))))))))) (fun p:(List UInt8)×(Int)×(List UInt8)×(List UInt8)×(List UInt8)×(List (List UInt8))×(List (List UInt8))×(Int)×(List UInt8)×(List UInt8)×(GateRule)×(Int)×Unit=>(⟨p.1,p.2.1,p.2.2.1,p.2.2.2.1,p.2.2.2.2.1,p.2.2.2.2.2.1,p.2.2.2.2.2.2.1,p.2.2.2.2.2.2.2.1,p.2.2.2.2.2.2.2.2.1,p.2.2.2.2.2.2.2.2.2.1,p.2.2.2.2.2.2.2.2.2.2.1,p.2.2.2.2.2.2.2.2.2.2.2.1⟩:GateAsk)) (fun _=>rfl) (fun _=>rfl) (fun _ h=>⟨h.1,h.2.1,h.2.2.1,h.2.2.2.1,h.2.2.2.2.1,h.2.2.2.2.2.1,h.2.2.2.2.2.2.1,h.2.2.2.2.2.2.2.1,h.2.2.2.2.2.2.2.2.1,h.2.2.2.2.2.2.2.2.2.1,h.2.2.2.2.2.2.2.2.2.2.1,h.2.2.2.2.2.2.2.2.2.2.2.1⟩)
set_option maxRecDepth 100000 in
theorem rd337:Rd enc Tryz.prog w 337 3 GateWant.c GateWant.ok:=
 rd_struct Tryz.underlying337 (by kernel_rfl) (rdf_cons rfl (rd_str (t:=9) Tryz.underlying9 (by kernel_rfl)) (rdf_cons rfl (rd_str (t:=9) Tryz.underlying9 (by kernel_rfl)) (rdf_cons rfl (rd_int (t:=3) (k:=.i64) Tryz.underlying3 (by kernel_rfl)) rdf_nil))) (fun p:(List UInt8)×(List UInt8)×(Int)×Unit=>(⟨p.1,p.2.1,p.2.2.1⟩:GateWant)) (fun _=>rfl) (fun _=>rfl) (fun _ h=>⟨h.1,h.2.1,h.2.2.1⟩)
set_option maxRecDepth 100000 in
theorem rd273:Rd enc Tryz.prog w 273 18 GateSlip.c GateSlip.ok:=
 rd_struct Tryz.underlying273 (by kernel_rfl) (rdf_cons rfl (rd_str (t:=9) Tryz.underlying9 (by kernel_rfl)) (rdf_cons rfl rd270 (rdf_cons rfl (rd_int (t:=3) (k:=.i64) Tryz.underlying3 (by kernel_rfl)) (rdf_cons rfl (rd_slice (t:=271) (e:=337) (d:=(default:GateWant)) (c:=GateWant.c) Tryz.underlying271 (by kernel_rfl) rd337 (by decide)) rdf_nil)))) (fun p:(List UInt8)×(GateAsk)×(Int)×(List GateWant)×Unit=>(⟨p.1,p.2.1,p.2.2.1,p.2.2.2.1⟩:GateSlip)) (fun _=>rfl) (fun _=>rfl) (fun _ h=>⟨h.1,h.2.1,h.2.2.1,h.2.2.2.1⟩)
set_option maxRecDepth 100000 in
theorem rd190:Rd enc Tryz.prog w 190 10 GateDoor.c GateDoor.ok:=
 rd_struct Tryz.underlying190 (by kernel_rfl) (rdf_cons rfl (rd_str (t:=9) Tryz.underlying9 (by kernel_rfl)) (rdf_cons rfl (rd_bool (t:=4) Tryz.underlying4 (by kernel_rfl)) (rdf_cons rfl rd32 (rdf_cons rfl (rd_slice (t:=188) (e:=273) (d:=(default:GateSlip)) (c:=GateSlip.c) Tryz.underlying188 (by kernel_rfl) rd273 (by decide)) rdf_nil)))) (fun p:(List UInt8)×(Bool)×(GateBook)×(List GateSlip)×Unit=>(⟨p.1,p.2.1,p.2.2.1,p.2.2.2.1⟩:GateDoor)) (fun _=>rfl) (fun _=>rfl) (fun _ h=>⟨h.1,h.2.1,h.2.2.1,h.2.2.2.1⟩)
set_option maxRecDepth 100000 in
theorem rd61:Rd enc Tryz.prog w 61 8 GateWorld.c GateWorld.ok:=
 rd_struct Tryz.underlying61 (by kernel_rfl) (rdf_cons rfl rd32 (rdf_cons rfl (rd_slice (t:=59) (e:=190) (d:=(default:GateDoor)) (c:=GateDoor.c) Tryz.underlying59 (by kernel_rfl) rd190 (by decide)) rdf_nil)) (fun p:(GateBook)×(List GateDoor)×Unit=>(⟨p.1,p.2.1⟩:GateWorld)) (fun _=>rfl) (fun _=>rfl) (fun _ h=>⟨h.1,h.2.1⟩)
set_option maxRecDepth 100000 in
theorem rda5:RdA enc Tryz.prog w [26,61] (fun x:(GateLaw)×(GateWorld)×Unit=>[.agg (GateLaw.c x.1),.agg (GateWorld.c x.2.1)]) (fun x=>GateLaw.ok x.1∧GateWorld.ok x.2.1∧True):=
 fun base vs ds ps h hv=>by
  obtain ⟨x,h1,h2⟩:=((rda_struct Tryz.underlying26 rd26 (rda_struct Tryz.underlying61 rd61 rda_nil)):RdA enc Tryz.prog w _ _ _) base vs ds ps h hv
  exact ⟨x,⟨h1.1,h1.2.1,trivial⟩,h2⟩
set_option maxRecDepth 100000 in
theorem rda6:RdA enc Tryz.prog w [26,32,61] (fun x:(GateLaw)×(GateBook)×(GateWorld)×Unit=>[.agg (GateLaw.c x.1),.agg (GateBook.c x.2.1),.agg (GateWorld.c x.2.2.1)]) (fun x=>GateLaw.ok x.1∧GateBook.ok x.2.1∧GateWorld.ok x.2.2.1∧True):=
 fun base vs ds ps h hv=>by
  obtain ⟨x,h1,h2⟩:=((rda_struct Tryz.underlying26 rd26 (rda_struct Tryz.underlying32 rd32 (rda_struct Tryz.underlying61 rd61 rda_nil))):RdA enc Tryz.prog w _ _ _) base vs ds ps h hv
  exact ⟨x,⟨h1.1,h1.2.1,h1.2.2.1,trivial⟩,h2⟩
end
end Go.Proofs.YtenfhlfofhjcoaaGreatDoor.Fn
