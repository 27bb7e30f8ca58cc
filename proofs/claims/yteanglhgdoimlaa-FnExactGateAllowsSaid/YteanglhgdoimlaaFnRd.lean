/- What the laws are handed is data. No condition. -/
import Derived.Test.YteanglhgdoimlaaFnTy
import Derived.Test.YteanglhgdoimlaaAbsR
namespace Go.Proofs.Yteanglhgdoimlaa.Fn
open Go Go.RowKit Go.Proofs.Yteanglhgdoimlaa.Abs

section
variable {H : Type} {enc : TypeId × Value → H} {w : World}
theorem rd57 : Rd enc Try.prog w 57 2 GateTeam.c GateTeam.ok :=
  rd_struct Try.underlying57 (by kernel_rfl) (rdf_cons rfl (rd_str (t := 9) Try.underlying9 (by kernel_rfl)) (rdf_cons rfl (rd_str (t := 9) Try.underlying9 (by kernel_rfl)) rdf_nil)) (fun p : (List UInt8) × (List UInt8) × Unit => (⟨p.1, p.2.1⟩ : GateTeam)) (fun _ => rfl) (fun _ => rfl) (fun _ h => ⟨h.1, h.2.1⟩)
theorem rda4 : RdA enc Try.prog w [23, 9, 9] (fun x : (List (GateTeam)) × (List UInt8) × (List UInt8) × Unit => [sl 2 GateTeam.c x.1, .str x.2.1, .str x.2.2.1]) (fun x => okS GateTeam.ok x.1 ∧ okStr x.2.1 ∧ okStr x.2.2.1 ∧ True) :=
  fun base vs ds ps h hv => by
    obtain ⟨x, h1, h2⟩ := ((rda_cell (d := _) Try.underlying23 rfl (rd_slice (t := 23) (e := 57) (c := GateTeam.c) Try.underlying23 (by kernel_rfl) rd57 (by decide)) (rda_cell (d := _) Try.underlying9 rfl (rd_str (t := 9) Try.underlying9 (by kernel_rfl)) (rda_cell (d := _) Try.underlying9 rfl (rd_str (t := 9) Try.underlying9 (by kernel_rfl)) rda_nil))) : RdA enc Try.prog w _ _ _) base vs ds ps h hv
    exact ⟨x, ⟨h1.1, h1.2.1, h1.2.2.1, trivial⟩, h2⟩
theorem rda5 : RdA enc Try.prog w [23] (fun x : (List (GateTeam)) × Unit => [sl 2 GateTeam.c x.1]) (fun x => okS GateTeam.ok x.1 ∧ True) :=
  fun base vs ds ps h hv => by
    obtain ⟨x, h1, h2⟩ := ((rda_cell (d := _) Try.underlying23 rfl (rd_slice (t := 23) (e := 57) (c := GateTeam.c) Try.underlying23 (by kernel_rfl) rd57 (by decide)) rda_nil) : RdA enc Try.prog w _ _ _) base vs ds ps h hv
    exact ⟨x, ⟨h1.1, trivial⟩, h2⟩
theorem rd45 : Rd enc Try.prog w 45 4 GateAct.c GateAct.ok :=
  rd_struct Try.underlying45 (by kernel_rfl) (rdf_cons rfl (rd_int (t := 3) (k := .i64) Try.underlying3 (by kernel_rfl)) (rdf_cons rfl (rd_str (t := 9) Try.underlying9 (by kernel_rfl)) (rdf_cons rfl (rd_str (t := 9) Try.underlying9 (by kernel_rfl)) (rdf_cons rfl (rd_str (t := 9) Try.underlying9 (by kernel_rfl)) rdf_nil)))) (fun p : (Int) × (List UInt8) × (List UInt8) × (List UInt8) × Unit => (⟨p.1, p.2.1, p.2.2.1, p.2.2.2.1⟩ : GateAct)) (fun _ => rfl) (fun _ => rfl) (fun _ h => ⟨h.1, h.2.1, h.2.2.1, h.2.2.2.1⟩)
theorem rd43 : Rd enc Try.prog w 43 4 GateRule.c GateRule.ok :=
  rd_struct Try.underlying43 (by kernel_rfl) (rdf_cons rfl (rd_slice (t := 41) (e := 3) (c := cI64) Try.underlying41 (by kernel_rfl) (rd_int (t := 3) (k := .i64) Try.underlying3 (by kernel_rfl)) (by decide)) (rdf_cons rfl (rd_str (t := 9) Try.underlying9 (by kernel_rfl)) (rdf_cons rfl (rd_str (t := 9) Try.underlying9 (by kernel_rfl)) (rdf_cons rfl (rd_str (t := 9) Try.underlying9 (by kernel_rfl)) rdf_nil)))) (fun p : (List (Int)) × (List UInt8) × (List UInt8) × (List UInt8) × Unit => (⟨p.1, p.2.1, p.2.2.1, p.2.2.2.1⟩ : GateRule)) (fun _ => rfl) (fun _ => rfl) (fun _ h => ⟨h.1, h.2.1, h.2.2.1, h.2.2.2.1⟩)
theorem rda7 : RdA enc Try.prog w [23, 43, 45] (fun x : (List (GateTeam)) × (GateRule) × (GateAct) × Unit => [sl 2 GateTeam.c x.1, .agg (GateRule.c x.2.1), .agg (GateAct.c x.2.2.1)]) (fun x => okS GateTeam.ok x.1 ∧ GateRule.ok x.2.1 ∧ GateAct.ok x.2.2.1 ∧ True) :=
  fun base vs ds ps h hv => by
    obtain ⟨x, h1, h2⟩ := ((rda_cell (d := _) Try.underlying23 rfl (rd_slice (t := 23) (e := 57) (c := GateTeam.c) Try.underlying23 (by kernel_rfl) rd57 (by decide)) (rda_struct Try.underlying43 rd43 (rda_struct Try.underlying45 rd45 rda_nil))) : RdA enc Try.prog w _ _ _) base vs ds ps h hv
    exact ⟨x, ⟨h1.1, h1.2.1, h1.2.2.1, trivial⟩, h2⟩
end
end Go.Proofs.Yteanglhgdoimlaa.Fn
