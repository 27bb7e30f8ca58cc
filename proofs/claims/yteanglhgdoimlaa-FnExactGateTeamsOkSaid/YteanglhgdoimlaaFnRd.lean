/- What the laws are handed is data. No condition. -/
import Derived.Test.YteanglhgdoimlaaFnTy
import Derived.Test.YteanglhgdoimlaaAbsR
namespace Go.Proofs.Yteanglhgdoimlaa.Fn
open Go Go.RowKit Go.Proofs.Yteanglhgdoimlaa.Abs

section
variable {H : Type} {enc : TypeId × Value → H} {w : World}
theorem rd57 : Rd enc Try.prog w 57 2 GateTeam.c GateTeam.ok :=
  rd_struct Try.underlying57 (by kernel_rfl) (rdf_cons rfl (rd_str (by kernel_rfl) (by kernel_rfl)) (rdf_cons rfl (rd_str (by kernel_rfl) (by kernel_rfl)) rdf_nil)) (fun p : (List UInt8) × (List UInt8) × Unit => (⟨p.1, p.2.1⟩ : GateTeam)) (fun _ => rfl) (fun _ => rfl) (fun _ h => ⟨h.1, h.2.1⟩)
theorem rda4 : RdA enc Try.prog w [23, 9, 9] (fun x : (List (GateTeam)) × (List UInt8) × (List UInt8) × Unit => [sl 2 GateTeam.c x.1, .str x.2.1, .str x.2.2.1]) (fun x => okS GateTeam.ok x.1 ∧ okStr x.2.1 ∧ okStr x.2.2.1 ∧ True) :=
  fun base vs ds ps h hv => by
    obtain ⟨x, h1, h2⟩ := ((rda_cell (d := _) Try.underlying23 rfl (rd_slice (c := GateTeam.c) (by kernel_rfl) (by kernel_rfl) rd57 (by decide)) (rda_cell (d := _) Try.underlying9 rfl (rd_str (by kernel_rfl) (by kernel_rfl)) (rda_cell (d := _) Try.underlying9 rfl (rd_str (by kernel_rfl) (by kernel_rfl)) rda_nil))) : RdA enc Try.prog w _ _ _) base vs ds ps h hv
    exact ⟨x, ⟨h1.1, h1.2.1, h1.2.2.1, trivial⟩, h2⟩
theorem rda5 : RdA enc Try.prog w [23] (fun x : (List (GateTeam)) × Unit => [sl 2 GateTeam.c x.1]) (fun x => okS GateTeam.ok x.1 ∧ True) :=
  fun base vs ds ps h hv => by
    obtain ⟨x, h1, h2⟩ := ((rda_cell (d := _) Try.underlying23 rfl (rd_slice (c := GateTeam.c) (by kernel_rfl) (by kernel_rfl) rd57 (by decide)) rda_nil) : RdA enc Try.prog w _ _ _) base vs ds ps h hv
    exact ⟨x, ⟨h1.1, trivial⟩, h2⟩
end
end Go.Proofs.Yteanglhgdoimlaa.Fn
