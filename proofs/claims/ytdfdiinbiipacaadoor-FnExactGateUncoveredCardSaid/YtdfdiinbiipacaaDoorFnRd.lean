/- What the laws are handed is data. No condition. -/
import Derived.Test.YtdfdiinbiipacaaDoorFnFd
import Derived.Test.YtdfdiinbiipacaaDoorWR
namespace Go.Proofs.YtdfdiinbiipacaaDoor.Fn
open Go Go.RowKit Go.Proofs.YtdfdiinbiipacaaDoor.Abs
section
variable {H : Type} {enc : TypeId × Value → H} {w : World}
set_option maxRecDepth 100000 in
theorem rd26 : Rd enc Tryd.prog w 26 4 GateRule.c GateRule.ok :=
  rd_struct Tryd.underlying26 (by kernel_rfl) (rdf_cons rfl (rd_slice (t := 24) (e := 3) (d := (0 : Int)) (c := (fun y : Int => [.int .i64 y])) Tryd.underlying24 (by kernel_rfl) (rd_int (t := 3) (k := .i64) Tryd.underlying3 (by kernel_rfl)) (by decide)) (rdf_cons rfl (rd_str (t := 9) Tryd.underlying9 (by kernel_rfl)) (rdf_cons rfl (rd_str (t := 9) Tryd.underlying9 (by kernel_rfl)) (rdf_cons rfl (rd_str (t := 9) Tryd.underlying9 (by kernel_rfl)) rdf_nil)))) (fun p : (List Int) × (List UInt8) × (List UInt8) × (List UInt8) × Unit => (⟨p.1, p.2.1, p.2.2.1, p.2.2.2.1⟩ : GateRule)) (fun _ => rfl) (fun _ => rfl) (fun _ h => ⟨h.1, h.2.1, h.2.2.1, h.2.2.2.1⟩)
set_option maxRecDepth 100000 in
theorem rd64 : Rd enc Tryd.prog w 64 2 GateTeam.c GateTeam.ok :=
  rd_struct Tryd.underlying64 (by kernel_rfl) (rdf_cons rfl (rd_str (t := 9) Tryd.underlying9 (by kernel_rfl)) (rdf_cons rfl (rd_str (t := 9) Tryd.underlying9 (by kernel_rfl)) rdf_nil)) (fun p : (List UInt8) × (List UInt8) × Unit => (⟨p.1, p.2.1⟩ : GateTeam)) (fun _ => rfl) (fun _ => rfl) (fun _ h => ⟨h.1, h.2.1⟩)
set_option maxRecDepth 100000 in
theorem rda3 : RdA enc Tryd.prog w [22, 23, 26] (fun x : (List GateTeam) × (List GateRule) × (GateRule) × Unit => [slG 2 (default : GateTeam) GateTeam.c x.1, slG 4 (default : GateRule) GateRule.c x.2.1, .agg (GateRule.c x.2.2.1)]) (fun x => okS GateTeam.ok x.1 ∧ okS GateRule.ok x.2.1 ∧ GateRule.ok x.2.2.1 ∧ True) :=
  fun base vs ds ps h hv => by
    obtain ⟨x, h1, h2⟩ := ((rda_cell (d := _) Tryd.underlying22 rfl (rd_slice (t := 22) (e := 64) (d := (default : GateTeam)) (c := GateTeam.c) Tryd.underlying22 (by kernel_rfl) rd64 (by decide)) (rda_cell (d := _) Tryd.underlying23 rfl (rd_slice (t := 23) (e := 26) (d := (default : GateRule)) (c := GateRule.c) Tryd.underlying23 (by kernel_rfl) rd26 (by decide)) (rda_struct Tryd.underlying26 rd26 rda_nil))) : RdA enc Tryd.prog w _ _ _) base vs ds ps h hv
    exact ⟨x, ⟨h1.1, h1.2.1, h1.2.2.1, trivial⟩, h2⟩
end
end Go.Proofs.YtdfdiinbiipacaaDoor.Fn
