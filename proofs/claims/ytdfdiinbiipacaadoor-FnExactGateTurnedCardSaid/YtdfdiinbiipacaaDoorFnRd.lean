/- What the laws are handed is data. No condition. -/
import Derived.Test.YtdfdiinbiipacaaDoorFnFd
import Derived.Test.YtdfdiinbiipacaaDoorWR
namespace Go.Proofs.YtdfdiinbiipacaaDoor.Fn
open Go Go.RowKit Go.Proofs.YtdfdiinbiipacaaDoor.Abs
section
variable {H : Type} {enc : TypeId × Value → H} {w : World}
set_option maxRecDepth 100000 in
theorem rd48 : Rd enc Tryd.prog w 48 7 GateObject.c GateObject.ok :=
  rd_struct Tryd.underlying48 (by kernel_rfl) (rdf_cons rfl (rd_str (t := 9) Tryd.underlying9 (by kernel_rfl)) (rdf_cons rfl (rd_str (t := 9) Tryd.underlying9 (by kernel_rfl)) (rdf_cons rfl (rd_str (t := 9) Tryd.underlying9 (by kernel_rfl)) (rdf_cons rfl (rd_slice (t := 46) (e := 9) (d := ([] : List UInt8)) (c := (fun y : List UInt8 => [.str y])) Tryd.underlying46 (by kernel_rfl) (rd_str (t := 9) Tryd.underlying9 (by kernel_rfl)) (by decide)) (rdf_cons rfl (rd_bool (t := 4) Tryd.underlying4 (by kernel_rfl)) (rdf_cons rfl (rd_slice (t := 46) (e := 9) (d := ([] : List UInt8)) (c := (fun y : List UInt8 => [.str y])) Tryd.underlying46 (by kernel_rfl) (rd_str (t := 9) Tryd.underlying9 (by kernel_rfl)) (by decide)) (rdf_cons rfl (rd_int (t := 3) (k := .i64) Tryd.underlying3 (by kernel_rfl)) rdf_nil))))))) (fun p : (List UInt8) × (List UInt8) × (List UInt8) × (List (List UInt8)) × (Bool) × (List (List UInt8)) × (Int) × Unit => (⟨p.1, p.2.1, p.2.2.1, p.2.2.2.1, p.2.2.2.2.1, p.2.2.2.2.2.1, p.2.2.2.2.2.2.1⟩ : GateObject)) (fun _ => rfl) (fun _ => rfl) (fun _ h => ⟨h.1, h.2.1, h.2.2.1, h.2.2.2.1, h.2.2.2.2.1, h.2.2.2.2.2.1, h.2.2.2.2.2.2.1⟩)
set_option maxRecDepth 100000 in
theorem rd134 : Rd enc Tryd.prog w 134 11 GateField.c GateField.ok :=
  rd_struct Tryd.underlying134 (by kernel_rfl) (rdf_cons rfl (rd_str (t := 9) Tryd.underlying9 (by kernel_rfl)) (rdf_cons rfl (rd_int (t := 3) (k := .i64) Tryd.underlying3 (by kernel_rfl)) (rdf_cons rfl (rd_int (t := 3) (k := .i64) Tryd.underlying3 (by kernel_rfl)) (rdf_cons rfl (rd_int (t := 3) (k := .i64) Tryd.underlying3 (by kernel_rfl)) (rdf_cons rfl (rd_slice (t := 46) (e := 9) (d := ([] : List UInt8)) (c := (fun y : List UInt8 => [.str y])) Tryd.underlying46 (by kernel_rfl) (rd_str (t := 9) Tryd.underlying9 (by kernel_rfl)) (by decide)) (rdf_cons rfl (rd_str (t := 9) Tryd.underlying9 (by kernel_rfl)) (rdf_cons rfl (rd_int (t := 3) (k := .i64) Tryd.underlying3 (by kernel_rfl)) (rdf_cons rfl (rd_bool (t := 4) Tryd.underlying4 (by kernel_rfl)) (rdf_cons rfl (rd_bool (t := 4) Tryd.underlying4 (by kernel_rfl)) (rdf_cons rfl (rd_str (t := 9) Tryd.underlying9 (by kernel_rfl)) (rdf_cons rfl (rd_str (t := 9) Tryd.underlying9 (by kernel_rfl)) rdf_nil))))))))))) (fun p : (List UInt8) × (Int) × (Int) × (Int) × (List (List UInt8)) × (List UInt8) × (Int) × (Bool) × (Bool) × (List UInt8) × (List UInt8) × Unit => (⟨p.1, p.2.1, p.2.2.1, p.2.2.2.1, p.2.2.2.2.1, p.2.2.2.2.2.1, p.2.2.2.2.2.2.1, p.2.2.2.2.2.2.2.1, p.2.2.2.2.2.2.2.2.1, p.2.2.2.2.2.2.2.2.2.1, p.2.2.2.2.2.2.2.2.2.2.1⟩ : GateField)) (fun _ => rfl) (fun _ => rfl) (fun _ h => ⟨h.1, h.2.1, h.2.2.1, h.2.2.2.1, h.2.2.2.2.1, h.2.2.2.2.2.1, h.2.2.2.2.2.2.1, h.2.2.2.2.2.2.2.1, h.2.2.2.2.2.2.2.2.1, h.2.2.2.2.2.2.2.2.2.1, h.2.2.2.2.2.2.2.2.2.2.1⟩)
set_option maxRecDepth 100000 in
theorem rd80 : Rd enc Tryd.prog w 80 2 GateShape.c GateShape.ok :=
  rd_struct Tryd.underlying80 (by kernel_rfl) (rdf_cons rfl (rd_str (t := 9) Tryd.underlying9 (by kernel_rfl)) (rdf_cons rfl (rd_slice (t := 78) (e := 134) (d := (default : GateField)) (c := GateField.c) Tryd.underlying78 (by kernel_rfl) rd134 (by decide)) rdf_nil)) (fun p : (List UInt8) × (List GateField) × Unit => (⟨p.1, p.2.1⟩ : GateShape)) (fun _ => rfl) (fun _ => rfl) (fun _ h => ⟨h.1, h.2.1⟩)
set_option maxRecDepth 100000 in
theorem rda4 : RdA enc Tryd.prog w [45, 48] (fun x : (List GateShape) × (GateObject) × Unit => [slG 2 (default : GateShape) GateShape.c x.1, .agg (GateObject.c x.2.1)]) (fun x => okS GateShape.ok x.1 ∧ GateObject.ok x.2.1 ∧ True) :=
  fun base vs ds ps h hv => by
    obtain ⟨x, h1, h2⟩ := ((rda_cell (d := _) Tryd.underlying45 rfl (rd_slice (t := 45) (e := 80) (d := (default : GateShape)) (c := GateShape.c) Tryd.underlying45 (by kernel_rfl) rd80 (by decide)) (rda_struct Tryd.underlying48 rd48 rda_nil)) : RdA enc Tryd.prog w _ _ _) base vs ds ps h hv
    exact ⟨x, ⟨h1.1, h1.2.1, trivial⟩, h2⟩
set_option maxRecDepth 100000 in
theorem rda5 : RdA enc Tryd.prog w [45, 48, 48] (fun x : (List GateShape) × (GateObject) × (GateObject) × Unit => [slG 2 (default : GateShape) GateShape.c x.1, .agg (GateObject.c x.2.1), .agg (GateObject.c x.2.2.1)]) (fun x => okS GateShape.ok x.1 ∧ GateObject.ok x.2.1 ∧ GateObject.ok x.2.2.1 ∧ True) :=
  fun base vs ds ps h hv => by
    obtain ⟨x, h1, h2⟩ := ((rda_cell (d := _) Tryd.underlying45 rfl (rd_slice (t := 45) (e := 80) (d := (default : GateShape)) (c := GateShape.c) Tryd.underlying45 (by kernel_rfl) rd80 (by decide)) (rda_struct Tryd.underlying48 rd48 (rda_struct Tryd.underlying48 rd48 rda_nil))) : RdA enc Tryd.prog w _ _ _) base vs ds ps h hv
    exact ⟨x, ⟨h1.1, h1.2.1, h1.2.2.1, trivial⟩, h2⟩
end
end Go.Proofs.YtdfdiinbiipacaaDoor.Fn
