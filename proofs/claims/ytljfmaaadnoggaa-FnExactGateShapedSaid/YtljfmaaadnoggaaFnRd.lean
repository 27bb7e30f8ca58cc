/- What the laws are handed is data. No condition. -/
import Derived.Test.YtljfmaaadnoggaaFnFd
import Derived.Test.YtljfmaaadnoggaaWR
namespace Go.Proofs.Ytljfmaaadnoggaa.Fn
open Go Go.RowKit Go.Proofs.Ytljfmaaadnoggaa.Abs
section
variable {H:Type} {enc:TypeId×Value→H} {w:World}
set_option maxRecDepth 100000 in
theorem rd25:Rd enc Try.prog w 25 7 GateObject.c GateObject.ok:=
 rd_struct Try.underlying25 (by kernel_rfl) (rdf_cons rfl (rd_str (t:=9) Try.underlying9 (by kernel_rfl)) (rdf_cons rfl (rd_str (t:=9) Try.underlying9 (by kernel_rfl)) (rdf_cons rfl (rd_str (t:=9) Try.underlying9 (by kernel_rfl)) (rdf_cons rfl (rd_slice (t:=23) (e:=9) (d:=([]:List UInt8)) (c:=(fun y:List UInt8=>[.str y])) Try.underlying23 (by kernel_rfl) (rd_str (t:=9) Try.underlying9 (by kernel_rfl)) (by decide)) (rdf_cons rfl (rd_bool (t:=4) Try.underlying4 (by kernel_rfl)) (rdf_cons rfl (rd_slice (t:=23) (e:=9) (d:=([]:List UInt8)) (c:=(fun y:List UInt8=>[.str y])) Try.underlying23 (by kernel_rfl) (rd_str (t:=9) Try.underlying9 (by kernel_rfl)) (by decide)) (rdf_cons rfl (rd_int (t:=3) (k:=.i64) Try.underlying3 (by kernel_rfl)) rdf_nil))))))) (fun p:(List UInt8)×(List UInt8)×(List UInt8)×(List (List UInt8))×(Bool)×(List (List UInt8))×(Int)×Unit=>(⟨p.1,p.2.1,p.2.2.1,p.2.2.2.1,p.2.2.2.2.1,p.2.2.2.2.2.1,p.2.2.2.2.2.2.1⟩:GateObject)) (fun _=>rfl) (fun _=>rfl) (fun _ h=>⟨h.1,h.2.1,h.2.2.1,h.2.2.2.1,h.2.2.2.2.1,h.2.2.2.2.2.1,h.2.2.2.2.2.2.1⟩)
set_option maxRecDepth 100000 in
theorem rd109:Rd enc Try.prog w 109 11 GateField.c GateField.ok:=
 rd_struct Try.underlying109 (by kernel_rfl) (rdf_cons rfl (rd_str (t:=9) Try.underlying9 (by kernel_rfl)) (rdf_cons rfl (rd_int (t:=3) (k:=.i64) Try.underlying3 (by kernel_rfl)) (rdf_cons rfl (rd_int (t:=3) (k:=.i64) Try.underlying3 (by kernel_rfl)) (rdf_cons rfl (rd_int (t:=3) (k:=.i64) Try.underlying3 (by kernel_rfl)) (rdf_cons rfl (rd_slice (t:=23) (e:=9) (d:=([]:List UInt8)) (c:=(fun y:List UInt8=>[.str y])) Try.underlying23 (by kernel_rfl) (rd_str (t:=9) Try.underlying9 (by kernel_rfl)) (by decide)) (rdf_cons rfl (rd_str (t:=9) Try.underlying9 (by kernel_rfl)) (rdf_cons rfl (rd_int (t:=3) (k:=.i64) Try.underlying3 (by kernel_rfl)) (rdf_cons rfl (rd_bool (t:=4) Try.underlying4 (by kernel_rfl)) (rdf_cons rfl (rd_bool (t:=4) Try.underlying4 (by kernel_rfl)) (rdf_cons rfl (rd_str (t:=9) Try.underlying9 (by kernel_rfl)) (rdf_cons rfl (rd_str (t:=9) Try.underlying9 (by kernel_rfl)) rdf_nil))))))))))) (fun p:(List UInt8)×(Int)×(Int)×(Int)×(List (List UInt8))×(List UInt8)×(Int)×(Bool)×(Bool)×(List UInt8)×(List UInt8)×Unit=>(⟨p.1,p.2.1,p.2.2.1,p.2.2.2.1,p.2.2.2.2.1,p.2.2.2.2.2.1,p.2.2.2.2.2.2.1,p.2.2.2.2.2.2.2.1,p.2.2.2.2.2.2.2.2.1,p.2.2.2.2.2.2.2.2.2.1,p.2.2.2.2.2.2.2.2.2.2.1⟩:GateField)) (fun _=>rfl) (fun _=>rfl) (fun _ h=>⟨h.1,h.2.1,h.2.2.1,h.2.2.2.1,h.2.2.2.2.1,h.2.2.2.2.2.1,h.2.2.2.2.2.2.1,h.2.2.2.2.2.2.2.1,h.2.2.2.2.2.2.2.2.1,h.2.2.2.2.2.2.2.2.2.1,h.2.2.2.2.2.2.2.2.2.2.1⟩)
set_option maxRecDepth 100000 in
theorem rd63:Rd enc Try.prog w 63 2 GateShape.c GateShape.ok:=
 rd_struct Try.underlying63 (by kernel_rfl) (rdf_cons rfl (rd_str (t:=9) Try.underlying9 (by kernel_rfl)) (rdf_cons rfl (rd_slice (t:=61) (e:=109) (d:=(default:GateField)) (c:=GateField.c) Try.underlying61 (by kernel_rfl) rd109 (by decide)) rdf_nil)) (fun p:(List UInt8)×(List GateField)×Unit=>(⟨p.1,p.2.1⟩:GateShape)) (fun _=>rfl) (fun _=>rfl) (fun _ h=>⟨h.1,h.2.1⟩)
set_option maxRecDepth 100000 in
theorem rda3:RdA enc Try.prog w [22,25] (fun x:(List GateShape)×(GateObject)×Unit=>[slG 2 (default:GateShape) GateShape.c x.1,.agg (GateObject.c x.2.1)]) (fun x=>okS GateShape.ok x.1∧GateObject.ok x.2.1∧True):=
 fun base vs ds ps h hv=>by
  obtain ⟨x,h1,h2⟩:=((rda_cell (d:=_) Try.underlying22 rfl (rd_slice (t:=22) (e:=63) (d:=(default:GateShape)) (c:=GateShape.c) Try.underlying22 (by kernel_rfl) rd63 (by decide)) (rda_struct Try.underlying25 rd25 rda_nil)):RdA enc Try.prog w _ _ _) base vs ds ps h hv
  exact ⟨x,⟨h1.1,h1.2.1,trivial⟩,h2⟩
set_option maxRecDepth 100000 in
theorem rd87:Rd enc Try.prog w 87 6 GateMend.c GateMend.ok:=
 rd_struct Try.underlying87 (by kernel_rfl) (rdf_cons rfl (rd_str (t:=9) Try.underlying9 (by kernel_rfl)) (rdf_cons rfl (rd_str (t:=9) Try.underlying9 (by kernel_rfl)) (rdf_cons rfl (rd_str (t:=9) Try.underlying9 (by kernel_rfl)) (rdf_cons rfl (rd_str (t:=9) Try.underlying9 (by kernel_rfl)) (rdf_cons rfl (rd_str (t:=9) Try.underlying9 (by kernel_rfl)) (rdf_cons rfl (rd_str (t:=9) Try.underlying9 (by kernel_rfl)) rdf_nil)))))) (fun p:(List UInt8)×(List UInt8)×(List UInt8)×(List UInt8)×(List UInt8)×(List UInt8)×Unit=>(⟨p.1,p.2.1,p.2.2.1,p.2.2.2.1,p.2.2.2.2.1,p.2.2.2.2.2.1⟩:GateMend)) (fun _=>rfl) (fun _=>rfl) (fun _ h=>⟨h.1,h.2.1,h.2.2.1,h.2.2.2.1,h.2.2.2.2.1,h.2.2.2.2.2.1⟩)
set_option maxRecDepth 100000 in
theorem rda5:RdA enc Try.prog w [22,54,25] (fun x:(List GateShape)×(List GateMend)×(GateObject)×Unit=>[slG 2 (default:GateShape) GateShape.c x.1,slG 6 (default:GateMend) GateMend.c x.2.1,.agg (GateObject.c x.2.2.1)]) (fun x=>okS GateShape.ok x.1∧okS GateMend.ok x.2.1∧GateObject.ok x.2.2.1∧True):=
 fun base vs ds ps h hv=>by
  obtain ⟨x,h1,h2⟩:=((rda_cell (d:=_) Try.underlying22 rfl (rd_slice (t:=22) (e:=63) (d:=(default:GateShape)) (c:=GateShape.c) Try.underlying22 (by kernel_rfl) rd63 (by decide)) (rda_cell (d:=_) Try.underlying54 rfl (rd_slice (t:=54) (e:=87) (d:=(default:GateMend)) (c:=GateMend.c) Try.underlying54 (by kernel_rfl) rd87 (by decide)) (rda_struct Try.underlying25 rd25 rda_nil))):RdA enc Try.prog w _ _ _) base vs ds ps h hv
  exact ⟨x,⟨h1.1,h1.2.1,h1.2.2.1,trivial⟩,h2⟩
set_option maxRecDepth 100000 in
theorem rda6:RdA enc Try.prog w [22,54,25] (fun x:(List GateShape)×(List GateMend)×(GateObject)×Unit=>[slG 2 (default:GateShape) GateShape.c x.1,slG 6 (default:GateMend) GateMend.c x.2.1,.agg (GateObject.c x.2.2.1)]) (fun x=>okS GateShape.ok x.1∧okS GateMend.ok x.2.1∧GateObject.ok x.2.2.1∧True):=
 fun base vs ds ps h hv=>by
  obtain ⟨x,h1,h2⟩:=((rda_cell (d:=_) Try.underlying22 rfl (rd_slice (t:=22) (e:=63) (d:=(default:GateShape)) (c:=GateShape.c) Try.underlying22 (by kernel_rfl) rd63 (by decide)) (rda_cell (d:=_) Try.underlying54 rfl (rd_slice (t:=54) (e:=87) (d:=(default:GateMend)) (c:=GateMend.c) Try.underlying54 (by kernel_rfl) rd87 (by decide)) (rda_struct Try.underlying25 rd25 rda_nil))):RdA enc Try.prog w _ _ _) base vs ds ps h hv
  exact ⟨x,⟨h1.1,h1.2.1,h1.2.2.1,trivial⟩,h2⟩
end
end Go.Proofs.Ytljfmaaadnoggaa.Fn
