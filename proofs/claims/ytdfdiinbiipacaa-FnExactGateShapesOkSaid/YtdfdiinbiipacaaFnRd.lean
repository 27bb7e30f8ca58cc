/- What the laws are handed is data. No condition. -/
import Derived.Test.YtdfdiinbiipacaaFnFd
import Derived.Test.YtdfdiinbiipacaaWR
namespace Go.Proofs.Ytdfdiinbiipacaa.Fn
open Go Go.RowKit Go.Proofs.Ytdfdiinbiipacaa.Abs
section
variable {H : Type} {enc : TypeId × Value → H} {w : World}
set_option maxRecDepth 100000 in
theorem rd108 : Rd enc Try.prog w 108 11 GateField.c GateField.ok :=
  rd_struct Try.underlying108 (by kernel_rfl) (rdf_cons rfl (rd_str (t := 9) Try.underlying9 (by kernel_rfl)) (rdf_cons rfl (rd_int (t := 3) (k := .i64) Try.underlying3 (by kernel_rfl)) (rdf_cons rfl (rd_int (t := 3) (k := .i64) Try.underlying3 (by kernel_rfl)) (rdf_cons rfl (rd_int (t := 3) (k := .i64) Try.underlying3 (by kernel_rfl)) (rdf_cons rfl (rd_slice (t := 56) (e := 9) (d := ([] : List UInt8)) (c := (fun y : List UInt8 => [.str y])) Try.underlying56 (by kernel_rfl) (rd_str (t := 9) Try.underlying9 (by kernel_rfl)) (by decide)) (rdf_cons rfl (rd_str (t := 9) Try.underlying9 (by kernel_rfl)) (rdf_cons rfl (rd_int (t := 3) (k := .i64) Try.underlying3 (by kernel_rfl)) (rdf_cons rfl (rd_bool (t := 4) Try.underlying4 (by kernel_rfl)) (rdf_cons rfl (rd_bool (t := 4) Try.underlying4 (by kernel_rfl)) (rdf_cons rfl (rd_str (t := 9) Try.underlying9 (by kernel_rfl)) (rdf_cons rfl (rd_str (t := 9) Try.underlying9 (by kernel_rfl)) rdf_nil))))))))))) (fun p : (List UInt8) × (Int) × (Int) × (Int) × (List (List UInt8)) × (List UInt8) × (Int) × (Bool) × (Bool) × (List UInt8) × (List UInt8) × Unit => (⟨p.1, p.2.1, p.2.2.1, p.2.2.2.1, p.2.2.2.2.1, p.2.2.2.2.2.1, p.2.2.2.2.2.2.1, p.2.2.2.2.2.2.2.1, p.2.2.2.2.2.2.2.2.1, p.2.2.2.2.2.2.2.2.2.1, p.2.2.2.2.2.2.2.2.2.2.1⟩ : GateField)) (fun _ => rfl) (fun _ => rfl) (fun _ h => ⟨h.1, h.2.1, h.2.2.1, h.2.2.2.1, h.2.2.2.2.1, h.2.2.2.2.2.1, h.2.2.2.2.2.2.1, h.2.2.2.2.2.2.2.1, h.2.2.2.2.2.2.2.2.1, h.2.2.2.2.2.2.2.2.2.1, h.2.2.2.2.2.2.2.2.2.2.1⟩)
set_option maxRecDepth 100000 in
theorem rd50 : Rd enc Try.prog w 50 2 GateShape.c GateShape.ok :=
  rd_struct Try.underlying50 (by kernel_rfl) (rdf_cons rfl (rd_str (t := 9) Try.underlying9 (by kernel_rfl)) (rdf_cons rfl (rd_slice (t := 48) (e := 108) (d := (default : GateField)) (c := GateField.c) Try.underlying48 (by kernel_rfl) rd108 (by decide)) rdf_nil)) (fun p : (List UInt8) × (List GateField) × Unit => (⟨p.1, p.2.1⟩ : GateShape)) (fun _ => rfl) (fun _ => rfl) (fun _ h => ⟨h.1, h.2.1⟩)
set_option maxRecDepth 100000 in
theorem rda3 : RdA enc Try.prog w [22] (fun x : (List GateShape) × Unit => [slG 2 (default : GateShape) GateShape.c x.1]) (fun x => okS GateShape.ok x.1 ∧ True) :=
  fun base vs ds ps h hv => by
    obtain ⟨x, h1, h2⟩ := ((rda_cell (d := _) Try.underlying22 rfl (rd_slice (t := 22) (e := 50) (d := (default : GateShape)) (c := GateShape.c) Try.underlying22 (by kernel_rfl) rd50 (by decide)) rda_nil) : RdA enc Try.prog w _ _ _) base vs ds ps h hv
    exact ⟨x, ⟨h1.1, trivial⟩, h2⟩
end
end Go.Proofs.Ytdfdiinbiipacaa.Fn
