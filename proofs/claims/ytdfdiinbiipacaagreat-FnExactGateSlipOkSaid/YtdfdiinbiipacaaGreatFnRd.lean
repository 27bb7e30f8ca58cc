/- What the laws are handed is data. No condition. -/
import Derived.Test.YtdfdiinbiipacaaGreatFnFd
import Derived.Test.YtdfdiinbiipacaaGreatWR
namespace Go.Proofs.YtdfdiinbiipacaaGreat.Fn
open Go Go.RowKit Go.Proofs.YtdfdiinbiipacaaGreat.Abs
section
variable {H : Type} {enc : TypeId × Value → H} {w : World}
set_option maxRecDepth 100000 in
theorem rd30 : Rd enc Tryz.prog w 30 4 GateRule.c GateRule.ok :=
  rd_struct Tryz.underlying30 (by kernel_rfl) (rdf_cons rfl (rd_slice (t := 28) (e := 3) (d := (0 : Int)) (c := (fun y : Int => [.int .i64 y])) Tryz.underlying28 (by kernel_rfl) (rd_int (t := 3) (k := .i64) Tryz.underlying3 (by kernel_rfl)) (by decide)) (rdf_cons rfl (rd_str (t := 9) Tryz.underlying9 (by kernel_rfl)) (rdf_cons rfl (rd_str (t := 9) Tryz.underlying9 (by kernel_rfl)) (rdf_cons rfl (rd_str (t := 9) Tryz.underlying9 (by kernel_rfl)) rdf_nil)))) (fun p : (List Int) × (List UInt8) × (List UInt8) × (List UInt8) × Unit => (⟨p.1, p.2.1, p.2.2.1, p.2.2.2.1⟩ : GateRule)) (fun _ => rfl) (fun _ => rfl) (fun _ h => ⟨h.1, h.2.1, h.2.2.1, h.2.2.2.1⟩)
set_option maxRecDepth 100000 in
theorem rd32 : Rd enc Tryz.prog w 32 15 GateAsk.c GateAsk.ok :=
  rd_struct Tryz.underlying32 (by kernel_rfl) (rdf_cons rfl (rd_str (t := 9) Tryz.underlying9 (by kernel_rfl)) (rdf_cons rfl (rd_int (t := 3) (k := .i64) Tryz.underlying3 (by kernel_rfl)) (rdf_cons rfl (rd_str (t := 9) Tryz.underlying9 (by kernel_rfl)) (rdf_cons rfl (rd_str (t := 9) Tryz.underlying9 (by kernel_rfl)) (rdf_cons rfl (rd_str (t := 9) Tryz.underlying9 (by kernel_rfl)) (rdf_cons rfl (rd_slice (t := 27) (e := 9) (d := ([] : List UInt8)) (c := (fun y : List UInt8 => [.str y])) Tryz.underlying27 (by kernel_rfl) (rd_str (t := 9) Tryz.underlying9 (by kernel_rfl)) (by decide)) (rdf_cons rfl (rd_slice (t := 27) (e := 9) (d := ([] : List UInt8)) (c := (fun y : List UInt8 => [.str y])) Tryz.underlying27 (by kernel_rfl) (rd_str (t := 9) Tryz.underlying9 (by kernel_rfl)) (by decide)) (rdf_cons rfl (rd_int (t := 3) (k := .i64) Tryz.underlying3 (by kernel_rfl)) (rdf_cons rfl (rd_str (t := 9) Tryz.underlying9 (by kernel_rfl)) (rdf_cons rfl (rd_str (t := 9) Tryz.underlying9 (by kernel_rfl)) (rdf_cons rfl rd30 (rdf_cons rfl (rd_int (t := 3) (k := .i64) Tryz.underlying3 (by kernel_rfl)) rdf_nil)))))))))))) (fun p : (List UInt8) × (Int) × (List UInt8) × (List UInt8) × (List UInt8) × (List (List UInt8)) × (List (List UInt8)) × (Int) × (List UInt8) × (List UInt8) × (GateRule) × (Int) × Unit => (⟨p.1, p.2.1, p.2.2.1, p.2.2.2.1, p.2.2.2.2.1, p.2.2.2.2.2.1, p.2.2.2.2.2.2.1, p.2.2.2.2.2.2.2.1, p.2.2.2.2.2.2.2.2.1, p.2.2.2.2.2.2.2.2.2.1, p.2.2.2.2.2.2.2.2.2.2.1, p.2.2.2.2.2.2.2.2.2.2.2.1⟩ : GateAsk)) (fun _ => rfl) (fun _ => rfl) (fun _ h => ⟨h.1, h.2.1, h.2.2.1, h.2.2.2.1, h.2.2.2.2.1, h.2.2.2.2.2.1, h.2.2.2.2.2.2.1, h.2.2.2.2.2.2.2.1, h.2.2.2.2.2.2.2.2.1, h.2.2.2.2.2.2.2.2.2.1, h.2.2.2.2.2.2.2.2.2.2.1, h.2.2.2.2.2.2.2.2.2.2.2.1⟩)
set_option maxRecDepth 100000 in
theorem rd144 : Rd enc Tryz.prog w 144 11 GateField.c GateField.ok :=
  rd_struct Tryz.underlying144 (by kernel_rfl) (rdf_cons rfl (rd_str (t := 9) Tryz.underlying9 (by kernel_rfl)) (rdf_cons rfl (rd_int (t := 3) (k := .i64) Tryz.underlying3 (by kernel_rfl)) (rdf_cons rfl (rd_int (t := 3) (k := .i64) Tryz.underlying3 (by kernel_rfl)) (rdf_cons rfl (rd_int (t := 3) (k := .i64) Tryz.underlying3 (by kernel_rfl)) (rdf_cons rfl (rd_slice (t := 27) (e := 9) (d := ([] : List UInt8)) (c := (fun y : List UInt8 => [.str y])) Tryz.underlying27 (by kernel_rfl) (rd_str (t := 9) Tryz.underlying9 (by kernel_rfl)) (by decide)) (rdf_cons rfl (rd_str (t := 9) Tryz.underlying9 (by kernel_rfl)) (rdf_cons rfl (rd_int (t := 3) (k := .i64) Tryz.underlying3 (by kernel_rfl)) (rdf_cons rfl (rd_bool (t := 4) Tryz.underlying4 (by kernel_rfl)) (rdf_cons rfl (rd_bool (t := 4) Tryz.underlying4 (by kernel_rfl)) (rdf_cons rfl (rd_str (t := 9) Tryz.underlying9 (by kernel_rfl)) (rdf_cons rfl (rd_str (t := 9) Tryz.underlying9 (by kernel_rfl)) rdf_nil))))))))))) (fun p : (List UInt8) × (Int) × (Int) × (Int) × (List (List UInt8)) × (List UInt8) × (Int) × (Bool) × (Bool) × (List UInt8) × (List UInt8) × Unit => (⟨p.1, p.2.1, p.2.2.1, p.2.2.2.1, p.2.2.2.2.1, p.2.2.2.2.2.1, p.2.2.2.2.2.2.1, p.2.2.2.2.2.2.2.1, p.2.2.2.2.2.2.2.2.1, p.2.2.2.2.2.2.2.2.2.1, p.2.2.2.2.2.2.2.2.2.2.1⟩ : GateField)) (fun _ => rfl) (fun _ => rfl) (fun _ h => ⟨h.1, h.2.1, h.2.2.1, h.2.2.2.1, h.2.2.2.2.1, h.2.2.2.2.2.1, h.2.2.2.2.2.2.1, h.2.2.2.2.2.2.2.1, h.2.2.2.2.2.2.2.2.1, h.2.2.2.2.2.2.2.2.2.1, h.2.2.2.2.2.2.2.2.2.2.1⟩)
set_option maxRecDepth 100000 in
theorem rd90 : Rd enc Tryz.prog w 90 2 GateShape.c GateShape.ok :=
  rd_struct Tryz.underlying90 (by kernel_rfl) (rdf_cons rfl (rd_str (t := 9) Tryz.underlying9 (by kernel_rfl)) (rdf_cons rfl (rd_slice (t := 88) (e := 144) (d := (default : GateField)) (c := GateField.c) Tryz.underlying88 (by kernel_rfl) rd144 (by decide)) rdf_nil)) (fun p : (List UInt8) × (List GateField) × Unit => (⟨p.1, p.2.1⟩ : GateShape)) (fun _ => rfl) (fun _ => rfl) (fun _ h => ⟨h.1, h.2.1⟩)
set_option maxRecDepth 100000 in
theorem rd93 : Rd enc Tryz.prog w 93 6 GateMend.c GateMend.ok :=
  rd_struct Tryz.underlying93 (by kernel_rfl) (rdf_cons rfl (rd_str (t := 9) Tryz.underlying9 (by kernel_rfl)) (rdf_cons rfl (rd_str (t := 9) Tryz.underlying9 (by kernel_rfl)) (rdf_cons rfl (rd_str (t := 9) Tryz.underlying9 (by kernel_rfl)) (rdf_cons rfl (rd_str (t := 9) Tryz.underlying9 (by kernel_rfl)) (rdf_cons rfl (rd_str (t := 9) Tryz.underlying9 (by kernel_rfl)) (rdf_cons rfl (rd_str (t := 9) Tryz.underlying9 (by kernel_rfl)) rdf_nil)))))) (fun p : (List UInt8) × (List UInt8) × (List UInt8) × (List UInt8) × (List UInt8) × (List UInt8) × Unit => (⟨p.1, p.2.1, p.2.2.1, p.2.2.2.1, p.2.2.2.2.1, p.2.2.2.2.2.1⟩ : GateMend)) (fun _ => rfl) (fun _ => rfl) (fun _ h => ⟨h.1, h.2.1, h.2.2.1, h.2.2.2.1, h.2.2.2.2.1, h.2.2.2.2.2.1⟩)
set_option maxRecDepth 100000 in
theorem rd96 : Rd enc Tryz.prog w 96 2 GateTeam.c GateTeam.ok :=
  rd_struct Tryz.underlying96 (by kernel_rfl) (rdf_cons rfl (rd_str (t := 9) Tryz.underlying9 (by kernel_rfl)) (rdf_cons rfl (rd_str (t := 9) Tryz.underlying9 (by kernel_rfl)) rdf_nil)) (fun p : (List UInt8) × (List UInt8) × Unit => (⟨p.1, p.2.1⟩ : GateTeam)) (fun _ => rfl) (fun _ => rfl) (fun _ h => ⟨h.1, h.2.1⟩)
set_option maxRecDepth 100000 in
theorem rd26 : Rd enc Tryz.prog w 26 3 GateLaw.c GateLaw.ok :=
  rd_struct Tryz.underlying26 (by kernel_rfl) (rdf_cons rfl (rd_slice (t := 22) (e := 90) (d := (default : GateShape)) (c := GateShape.c) Tryz.underlying22 (by kernel_rfl) rd90 (by decide)) (rdf_cons rfl (rd_slice (t := 23) (e := 93) (d := (default : GateMend)) (c := GateMend.c) Tryz.underlying23 (by kernel_rfl) rd93 (by decide)) (rdf_cons rfl (rd_slice (t := 24) (e := 96) (d := (default : GateTeam)) (c := GateTeam.c) Tryz.underlying24 (by kernel_rfl) rd96 (by decide)) rdf_nil))) (fun p : (List GateShape) × (List GateMend) × (List GateTeam) × Unit => (⟨p.1, p.2.1, p.2.2.1⟩ : GateLaw)) (fun _ => rfl) (fun _ => rfl) (fun _ h => ⟨h.1, h.2.1, h.2.2.1⟩)
set_option maxRecDepth 100000 in
theorem rda3 : RdA enc Tryz.prog w [26, 32] (fun x : (GateLaw) × (GateAsk) × Unit => [.agg (GateLaw.c x.1), .agg (GateAsk.c x.2.1)]) (fun x => GateLaw.ok x.1 ∧ GateAsk.ok x.2.1 ∧ True) :=
  fun base vs ds ps h hv => by
    obtain ⟨x, h1, h2⟩ := ((rda_struct Tryz.underlying26 rd26 (rda_struct Tryz.underlying32 rd32 rda_nil)) : RdA enc Tryz.prog w _ _ _) base vs ds ps h hv
    exact ⟨x, ⟨h1.1, h1.2.1, trivial⟩, h2⟩
set_option maxRecDepth 100000 in
theorem rd127 : Rd enc Tryz.prog w 127 3 GateWant.c GateWant.ok :=
  rd_struct Tryz.underlying127 (by kernel_rfl) (rdf_cons rfl (rd_str (t := 9) Tryz.underlying9 (by kernel_rfl)) (rdf_cons rfl (rd_str (t := 9) Tryz.underlying9 (by kernel_rfl)) (rdf_cons rfl (rd_int (t := 3) (k := .i64) Tryz.underlying3 (by kernel_rfl)) rdf_nil))) (fun p : (List UInt8) × (List UInt8) × (Int) × Unit => (⟨p.1, p.2.1, p.2.2.1⟩ : GateWant)) (fun _ => rfl) (fun _ => rfl) (fun _ h => ⟨h.1, h.2.1, h.2.2.1⟩)
set_option maxRecDepth 100000 in
theorem rd51 : Rd enc Tryz.prog w 51 18 GateSlip.c GateSlip.ok :=
  rd_struct Tryz.underlying51 (by kernel_rfl) (rdf_cons rfl (rd_str (t := 9) Tryz.underlying9 (by kernel_rfl)) (rdf_cons rfl rd32 (rdf_cons rfl (rd_int (t := 3) (k := .i64) Tryz.underlying3 (by kernel_rfl)) (rdf_cons rfl (rd_slice (t := 49) (e := 127) (d := (default : GateWant)) (c := GateWant.c) Tryz.underlying49 (by kernel_rfl) rd127 (by decide)) rdf_nil)))) (fun p : (List UInt8) × (GateAsk) × (Int) × (List GateWant) × Unit => (⟨p.1, p.2.1, p.2.2.1, p.2.2.2.1⟩ : GateSlip)) (fun _ => rfl) (fun _ => rfl) (fun _ h => ⟨h.1, h.2.1, h.2.2.1, h.2.2.2.1⟩)
set_option maxRecDepth 100000 in
theorem rda4 : RdA enc Tryz.prog w [26, 51] (fun x : (GateLaw) × (GateSlip) × Unit => [.agg (GateLaw.c x.1), .agg (GateSlip.c x.2.1)]) (fun x => GateLaw.ok x.1 ∧ GateSlip.ok x.2.1 ∧ True) :=
  fun base vs ds ps h hv => by
    obtain ⟨x, h1, h2⟩ := ((rda_struct Tryz.underlying26 rd26 (rda_struct Tryz.underlying51 rd51 rda_nil)) : RdA enc Tryz.prog w _ _ _) base vs ds ps h hv
    exact ⟨x, ⟨h1.1, h1.2.1, trivial⟩, h2⟩
end
end Go.Proofs.YtdfdiinbiipacaaGreat.Fn
