/- What the laws are handed is data. No condition. -/
import Derived.Test.YtnfalnfifkejhaaFnFd
import Derived.Test.YtnfalnfifkejhaaWR
namespace Go.Proofs.Ytnfalnfifkejhaa.Fn
open Go Go.RowKit Go.Proofs.Ytnfalnfifkejhaa.Abs
section
variable {H : Type} {enc : TypeId × Value → H} {w : World}
set_option maxRecDepth 100000 in
theorem rd24 : Rd enc Try.prog w 24 11 GateField.c GateField.ok :=
  rd_struct Try.underlying24 (by kernel_rfl) (rdf_cons rfl (rd_str (t := 9) Try.underlying9 (by kernel_rfl)) (rdf_cons rfl (rd_int (t := 3) (k := .i64) Try.underlying3 (by kernel_rfl)) (rdf_cons rfl (rd_int (t := 3) (k := .i64) Try.underlying3 (by kernel_rfl)) (rdf_cons rfl (rd_int (t := 3) (k := .i64) Try.underlying3 (by kernel_rfl)) (rdf_cons rfl (rd_slice (t := 22) (e := 9) (d := ([] : List UInt8)) (c := (fun y : List UInt8 => [.str y])) Try.underlying22 (by kernel_rfl) (rd_str (t := 9) Try.underlying9 (by kernel_rfl)) (by decide)) (rdf_cons rfl (rd_str (t := 9) Try.underlying9 (by kernel_rfl)) (rdf_cons rfl (rd_int (t := 3) (k := .i64) Try.underlying3 (by kernel_rfl)) (rdf_cons rfl (rd_bool (t := 4) Try.underlying4 (by kernel_rfl)) (rdf_cons rfl (rd_bool (t := 4) Try.underlying4 (by kernel_rfl)) (rdf_cons rfl (rd_str (t := 9) Try.underlying9 (by kernel_rfl)) (rdf_cons rfl (rd_str (t := 9) Try.underlying9 (by kernel_rfl)) rdf_nil))))))))))) (fun p : (List UInt8) × (Int) × (Int) × (Int) × (List (List UInt8)) × (List UInt8) × (Int) × (Bool) × (Bool) × (List UInt8) × (List UInt8) × Unit => (⟨p.1, p.2.1, p.2.2.1, p.2.2.2.1, p.2.2.2.2.1, p.2.2.2.2.2.1, p.2.2.2.2.2.2.1, p.2.2.2.2.2.2.2.1, p.2.2.2.2.2.2.2.2.1, p.2.2.2.2.2.2.2.2.2.1, p.2.2.2.2.2.2.2.2.2.2.1⟩ : GateField)) (fun _ => rfl) (fun _ => rfl) (fun _ h => ⟨h.1, h.2.1, h.2.2.1, h.2.2.2.1, h.2.2.2.2.1, h.2.2.2.2.2.1, h.2.2.2.2.2.2.1, h.2.2.2.2.2.2.2.1, h.2.2.2.2.2.2.2.2.1, h.2.2.2.2.2.2.2.2.2.1, h.2.2.2.2.2.2.2.2.2.2.1⟩)
set_option maxRecDepth 100000 in
theorem rda3 : RdA enc Try.prog w [24, 9] (fun x : (GateField) × (List UInt8) × Unit => [.agg (GateField.c x.1), .str x.2.1]) (fun x => GateField.ok x.1 ∧ okStr x.2.1 ∧ True) :=
  fun base vs ds ps h hv => by
    obtain ⟨x, h1, h2⟩ := ((rda_struct Try.underlying24 rd24 (rda_cell (d := _) Try.underlying9 rfl (rd_str (t := 9) Try.underlying9 (by kernel_rfl)) rda_nil)) : RdA enc Try.prog w _ _ _) base vs ds ps h hv
    exact ⟨x, ⟨h1.1, h1.2.1, trivial⟩, h2⟩
set_option maxRecDepth 100000 in
theorem rd62 : Rd enc Try.prog w 62 2 GateShape.c GateShape.ok :=
  rd_struct Try.underlying62 (by kernel_rfl) (rdf_cons rfl (rd_str (t := 9) Try.underlying9 (by kernel_rfl)) (rdf_cons rfl (rd_slice (t := 60) (e := 24) (d := (default : GateField)) (c := GateField.c) Try.underlying60 (by kernel_rfl) rd24 (by decide)) rdf_nil)) (fun p : (List UInt8) × (List GateField) × Unit => (⟨p.1, p.2.1⟩ : GateShape)) (fun _ => rfl) (fun _ => rfl) (fun _ h => ⟨h.1, h.2.1⟩)
set_option maxRecDepth 100000 in
theorem rda4 : RdA enc Try.prog w [31] (fun x : (List GateShape) × Unit => [slG 2 (default : GateShape) GateShape.c x.1]) (fun x => okS GateShape.ok x.1 ∧ True) :=
  fun base vs ds ps h hv => by
    obtain ⟨x, h1, h2⟩ := ((rda_cell (d := _) Try.underlying31 rfl (rd_slice (t := 31) (e := 62) (d := (default : GateShape)) (c := GateShape.c) Try.underlying31 (by kernel_rfl) rd62 (by decide)) rda_nil) : RdA enc Try.prog w _ _ _) base vs ds ps h hv
    exact ⟨x, ⟨h1.1, trivial⟩, h2⟩
end
end Go.Proofs.Ytnfalnfifkejhaa.Fn
