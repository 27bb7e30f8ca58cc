/- What the laws are handed is data. No condition. -/
import Derived.Test.YtdfdiinbiipacaaFnFd
import Derived.Test.YtdfdiinbiipacaaWR
namespace Go.Proofs.Ytdfdiinbiipacaa.Fn
open Go Go.RowKit Go.Proofs.Ytdfdiinbiipacaa.Abs
section
variable {H : Type} {enc : TypeId × Value → H} {w : World}
set_option maxRecDepth 100000 in
theorem rd108 : Rd enc Try.prog w 108 11 GateField.c GateField.ok :=
  rd_struct Try.underlying108 (by kernel_rfl) (rdf_cons rfl (rd_str (t := 9) Try.underlying9 (by kernel_rfl)) (rdf_cons rfl (rd_int (t := 3) (k := .i64) Try.underlying3 (by kernel_rfl)) (rdf_cons rfl (rd_int (t := 3) (k := .i64) Try.underlying3 (by kernel_rfl)) (rdf_cons rfl (rd_int (t := 3) (k := .i64) Try.underlying3 (by kernel_rfl)) (rdf_cons rfl (rd_slice (t := 56) (e := 9) (d := ([] : List UInt8)) (c := (fun y : List UInt8 => [.str y])) Try.underlying56 (by kernel_rfl) (rd_str (t := 9) Try.underlying9 (by kernel_rfl)) (by decide)) (rdf_cons rfl (rd_str (t := 9) Try.underlying9 (by kernel_rfl)) (rdf_cons rfl (rd_int (t := 3) (k := .i64) Try.underlying3 (by kernel_rfl)) (rdf_cons rfl (rd_bool (t := 4) Try.underlying4 (by kernel_rfl)) (rdf_cons rfl (rd_bool (t := 4) Try.underlying4 (by kernel_rfl)) (rdf_cons rfl (rd_str (t := 9) Try.underlying9 (by kernel_rfl)) (rdf_cons rfl (rd_str (t := 9) Try.underlying9 (by kernel_rfl)) rdf_nil))))))))))) (fun p : (List UInt8) × (Int) × (Int) × (Int) × (List (List UInt8)) × (List UInt8) × (Int) × (Bool) × (Bool) × (List UInt8) × (List UInt8) × Unit => (⟨p.1, p.2.1, p.2.2.1, p.2.2.2.1, p.2.2.2.2.1, p.2.2.2.2.2.1, p.2.2.2.2.2.2.1, p.2.2.2.2.2.2.2.1, p.2.2.2.2.2.2.2.2.1, p.2.2.2.2.2.2.2.2.2.1, p.2.2.2.2.2.2.2.2.2.2.1⟩ : GateField)) (fun _ => rfl) (fun _ => rfl) (fun _ h => ⟨h.1, h.2.1, h.2.2.1, h.2.2.2.1, h.2.2.2.2.1, h.2.2.2.2.2.1, h.2.2.2.2.2.2.1, h.2.2.2.2.2.2.2.1, h.2.2.2.2.2.2.2.2.1, h.2.2.2.2.2.2.2.2.2.1, h.2.2.2.2.2.2.2.2.2.2.1⟩)
set_option maxRecDepth 100000 in
theorem rd50 : Rd enc Try.prog w 50 2 GateShape.c GateShape.ok :=
  rd_struct Try.underlying50 (by kernel_rfl) (rdf_cons rfl (rd_str (t := 9) Try.underlying9 (by kernel_rfl)) (rdf_cons rfl (rd_slice (t := 48) (e := 108) (d := (default : GateField)) (c := GateField.c) Try.underlying48 (by kernel_rfl) rd108 (by decide)) rdf_nil)) (fun p : (List UInt8) × (List GateField) × Unit => (⟨p.1, p.2.1⟩ : GateShape)) (fun _ => rfl) (fun _ => rfl) (fun _ h => ⟨h.1, h.2.1⟩)
set_option maxRecDepth 100000 in
theorem rda3 : RdA enc Try.prog w [22] (fun x : (List GateShape) × Unit => [slG 2 (default : GateShape) GateShape.c x.1]) (fun x => okS GateShape.ok x.1 ∧ True) :=
  fun base vs ds ps h hv => by
    obtain ⟨x, h1, h2⟩ := ((rda_cell (d := _) Try.underlying22 rfl (rd_slice (t := 22) (e := 50) (d := (default : GateShape)) (c := GateShape.c) Try.underlying22 (by kernel_rfl) rd50 (by decide)) rda_nil) : RdA enc Try.prog w _ _ _) base vs ds ps h hv
    exact ⟨x, ⟨h1.1, trivial⟩, h2⟩
set_option maxRecDepth 100000 in
theorem rd65 : Rd enc Try.prog w 65 6 GateMend.c GateMend.ok :=
  rd_struct Try.underlying65 (by kernel_rfl) (rdf_cons rfl (rd_str (t := 9) Try.underlying9 (by kernel_rfl)) (rdf_cons rfl (rd_str (t := 9) Try.underlying9 (by kernel_rfl)) (rdf_cons rfl (rd_str (t := 9) Try.underlying9 (by kernel_rfl)) (rdf_cons rfl (rd_str (t := 9) Try.underlying9 (by kernel_rfl)) (rdf_cons rfl (rd_str (t := 9) Try.underlying9 (by kernel_rfl)) (rdf_cons rfl (rd_str (t := 9) Try.underlying9 (by kernel_rfl)) rdf_nil)))))) (fun p : (List UInt8) × (List UInt8) × (List UInt8) × (List UInt8) × (List UInt8) × (List UInt8) × Unit => (⟨p.1, p.2.1, p.2.2.1, p.2.2.2.1, p.2.2.2.2.1, p.2.2.2.2.2.1⟩ : GateMend)) (fun _ => rfl) (fun _ => rfl) (fun _ h => ⟨h.1, h.2.1, h.2.2.1, h.2.2.2.1, h.2.2.2.2.1, h.2.2.2.2.2.1⟩)
set_option maxRecDepth 100000 in
theorem rda4 : RdA enc Try.prog w [22, 29] (fun x : (List GateShape) × (List GateMend) × Unit => [slG 2 (default : GateShape) GateShape.c x.1, slG 6 (default : GateMend) GateMend.c x.2.1]) (fun x => okS GateShape.ok x.1 ∧ okS GateMend.ok x.2.1 ∧ True) :=
  fun base vs ds ps h hv => by
    obtain ⟨x, h1, h2⟩ := ((rda_cell (d := _) Try.underlying22 rfl (rd_slice (t := 22) (e := 50) (d := (default : GateShape)) (c := GateShape.c) Try.underlying22 (by kernel_rfl) rd50 (by decide)) (rda_cell (d := _) Try.underlying29 rfl (rd_slice (t := 29) (e := 65) (d := (default : GateMend)) (c := GateMend.c) Try.underlying29 (by kernel_rfl) rd65 (by decide)) rda_nil)) : RdA enc Try.prog w _ _ _) base vs ds ps h hv
    exact ⟨x, ⟨h1.1, h1.2.1, trivial⟩, h2⟩
set_option maxRecDepth 100000 in
theorem rd100 : Rd enc Try.prog w 100 2 GateTeam.c GateTeam.ok :=
  rd_struct Try.underlying100 (by kernel_rfl) (rdf_cons rfl (rd_str (t := 9) Try.underlying9 (by kernel_rfl)) (rdf_cons rfl (rd_str (t := 9) Try.underlying9 (by kernel_rfl)) rdf_nil)) (fun p : (List UInt8) × (List UInt8) × Unit => (⟨p.1, p.2.1⟩ : GateTeam)) (fun _ => rfl) (fun _ => rfl) (fun _ h => ⟨h.1, h.2.1⟩)
set_option maxRecDepth 100000 in
theorem rd38 : Rd enc Try.prog w 38 3 GateLaw.c GateLaw.ok :=
  rd_struct Try.underlying38 (by kernel_rfl) (rdf_cons rfl (rd_slice (t := 22) (e := 50) (d := (default : GateShape)) (c := GateShape.c) Try.underlying22 (by kernel_rfl) rd50 (by decide)) (rdf_cons rfl (rd_slice (t := 29) (e := 65) (d := (default : GateMend)) (c := GateMend.c) Try.underlying29 (by kernel_rfl) rd65 (by decide)) (rdf_cons rfl (rd_slice (t := 36) (e := 100) (d := (default : GateTeam)) (c := GateTeam.c) Try.underlying36 (by kernel_rfl) rd100 (by decide)) rdf_nil))) (fun p : (List GateShape) × (List GateMend) × (List GateTeam) × Unit => (⟨p.1, p.2.1, p.2.2.1⟩ : GateLaw)) (fun _ => rfl) (fun _ => rfl) (fun _ h => ⟨h.1, h.2.1, h.2.2.1⟩)
set_option maxRecDepth 100000 in
theorem rda5 : RdA enc Try.prog w [38] (fun x : (GateLaw) × Unit => [.agg (GateLaw.c x.1)]) (fun x => GateLaw.ok x.1 ∧ True) :=
  fun base vs ds ps h hv => by
    obtain ⟨x, h1, h2⟩ := ((rda_struct Try.underlying38 rd38 rda_nil) : RdA enc Try.prog w _ _ _) base vs ds ps h hv
    exact ⟨x, ⟨h1.1, trivial⟩, h2⟩
end
end Go.Proofs.Ytdfdiinbiipacaa.Fn
