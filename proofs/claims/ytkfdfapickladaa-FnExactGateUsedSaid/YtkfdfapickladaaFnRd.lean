/- What the laws are handed is data. No condition. -/
import Derived.Test.YtkfdfapickladaaFnTy
import Derived.Test.YtkfdfapickladaaAbsR
namespace Go.Proofs.Ytkfdfapickladaa.Fn
open Go Go.RowKit Go.Proofs.Ytkfdfapickladaa.Abs

section
variable {H : Type} {enc : TypeId × Value → H} {w : World}
set_option maxRecDepth 100000 in
theorem rd26 : Rd enc Try.prog w 26 4 GateRule.c GateRule.ok :=
  rd_struct Try.underlying26 (by kernel_rfl) (rdf_cons rfl (rd_slice (t := 24) (e := 3) (c := cI64) Try.underlying24 (by kernel_rfl) (rd_int (t := 3) (k := .i64) Try.underlying3 (by kernel_rfl)) (by decide)) (rdf_cons rfl (rd_str (t := 9) Try.underlying9 (by kernel_rfl)) (rdf_cons rfl (rd_str (t := 9) Try.underlying9 (by kernel_rfl)) (rdf_cons rfl (rd_str (t := 9) Try.underlying9 (by kernel_rfl)) rdf_nil)))) (fun p : (List (Int)) × (List UInt8) × (List UInt8) × (List UInt8) × Unit => (⟨p.1, p.2.1, p.2.2.1, p.2.2.2.1⟩ : GateRule)) (fun _ => rfl) (fun _ => rfl) (fun _ h => ⟨h.1, h.2.1, h.2.2.1, h.2.2.2.1⟩)
set_option maxRecDepth 100000 in
theorem rd80 : Rd enc Try.prog w 80 2 GateTeam.c GateTeam.ok :=
  rd_struct Try.underlying80 (by kernel_rfl) (rdf_cons rfl (rd_str (t := 9) Try.underlying9 (by kernel_rfl)) (rdf_cons rfl (rd_str (t := 9) Try.underlying9 (by kernel_rfl)) rdf_nil)) (fun p : (List UInt8) × (List UInt8) × Unit => (⟨p.1, p.2.1⟩ : GateTeam)) (fun _ => rfl) (fun _ => rfl) (fun _ h => ⟨h.1, h.2.1⟩)
set_option maxRecDepth 100000 in
theorem rda3 : RdA enc Try.prog w [22, 23, 26] (fun x : (List (GateTeam)) × (List (GateRule)) × (GateRule) × Unit => [sl 2 GateTeam.c x.1, sl 4 GateRule.c x.2.1, .agg (GateRule.c x.2.2.1)]) (fun x => okS GateTeam.ok x.1 ∧ okS GateRule.ok x.2.1 ∧ GateRule.ok x.2.2.1 ∧ True) :=
  fun base vs ds ps h hv => by
    obtain ⟨x, h1, h2⟩ := ((rda_cell (d := _) Try.underlying22 rfl (rd_slice (t := 22) (e := 80) (c := GateTeam.c) Try.underlying22 (by kernel_rfl) rd80 (by decide)) (rda_cell (d := _) Try.underlying23 rfl (rd_slice (t := 23) (e := 26) (c := GateRule.c) Try.underlying23 (by kernel_rfl) rd26 (by decide)) (rda_struct Try.underlying26 rd26 rda_nil))) : RdA enc Try.prog w _ _ _) base vs ds ps h hv
    exact ⟨x, ⟨h1.1, h1.2.1, h1.2.2.1, trivial⟩, h2⟩
set_option maxRecDepth 100000 in
theorem rd47 : Rd enc Try.prog w 47 7 GateObject.c GateObject.ok :=
  rd_struct Try.underlying47 (by kernel_rfl) (rdf_cons rfl (rd_str (t := 9) Try.underlying9 (by kernel_rfl)) (rdf_cons rfl (rd_str (t := 9) Try.underlying9 (by kernel_rfl)) (rdf_cons rfl (rd_str (t := 9) Try.underlying9 (by kernel_rfl)) (rdf_cons rfl (rd_slice (t := 45) (e := 9) (c := cStr) Try.underlying45 (by kernel_rfl) (rd_str (t := 9) Try.underlying9 (by kernel_rfl)) (by decide)) (rdf_cons rfl (rd_bool (t := 4) Try.underlying4 (by kernel_rfl)) (rdf_cons rfl (rd_slice (t := 45) (e := 9) (c := cStr) Try.underlying45 (by kernel_rfl) (rd_str (t := 9) Try.underlying9 (by kernel_rfl)) (by decide)) (rdf_cons rfl (rd_int (t := 3) (k := .i64) Try.underlying3 (by kernel_rfl)) rdf_nil))))))) (fun p : (List UInt8) × (List UInt8) × (List UInt8) × (List (List UInt8)) × (Bool) × (List (List UInt8)) × (Int) × Unit => (⟨p.1, p.2.1, p.2.2.1, p.2.2.2.1, p.2.2.2.2.1, p.2.2.2.2.2.1, p.2.2.2.2.2.2.1⟩ : GateObject)) (fun _ => rfl) (fun _ => rfl) (fun _ h => ⟨h.1, h.2.1, h.2.2.1, h.2.2.2.1, h.2.2.2.2.1, h.2.2.2.2.2.1, h.2.2.2.2.2.2.1⟩)
set_option maxRecDepth 100000 in
theorem rd173 : Rd enc Try.prog w 173 11 GateField.c GateField.ok :=
  rd_struct Try.underlying173 (by kernel_rfl) (rdf_cons rfl (rd_str (t := 9) Try.underlying9 (by kernel_rfl)) (rdf_cons rfl (rd_int (t := 3) (k := .i64) Try.underlying3 (by kernel_rfl)) (rdf_cons rfl (rd_int (t := 3) (k := .i64) Try.underlying3 (by kernel_rfl)) (rdf_cons rfl (rd_int (t := 3) (k := .i64) Try.underlying3 (by kernel_rfl)) (rdf_cons rfl (rd_slice (t := 45) (e := 9) (c := cStr) Try.underlying45 (by kernel_rfl) (rd_str (t := 9) Try.underlying9 (by kernel_rfl)) (by decide)) (rdf_cons rfl (rd_str (t := 9) Try.underlying9 (by kernel_rfl)) (rdf_cons rfl (rd_int (t := 3) (k := .i64) Try.underlying3 (by kernel_rfl)) (rdf_cons rfl (rd_bool (t := 4) Try.underlying4 (by kernel_rfl)) (rdf_cons rfl (rd_bool (t := 4) Try.underlying4 (by kernel_rfl)) (rdf_cons rfl (rd_str (t := 9) Try.underlying9 (by kernel_rfl)) (rdf_cons rfl (rd_str (t := 9) Try.underlying9 (by kernel_rfl)) rdf_nil))))))))))) (fun p : (List UInt8) × (Int) × (Int) × (Int) × (List (List UInt8)) × (List UInt8) × (Int) × (Bool) × (Bool) × (List UInt8) × (List UInt8) × Unit => (⟨p.1, p.2.1, p.2.2.1, p.2.2.2.1, p.2.2.2.2.1, p.2.2.2.2.2.1, p.2.2.2.2.2.2.1, p.2.2.2.2.2.2.2.1, p.2.2.2.2.2.2.2.2.1, p.2.2.2.2.2.2.2.2.2.1, p.2.2.2.2.2.2.2.2.2.2.1⟩ : GateField)) (fun _ => rfl) (fun _ => rfl) (fun _ h => ⟨h.1, h.2.1, h.2.2.1, h.2.2.2.1, h.2.2.2.2.1, h.2.2.2.2.2.1, h.2.2.2.2.2.2.1, h.2.2.2.2.2.2.2.1, h.2.2.2.2.2.2.2.2.1, h.2.2.2.2.2.2.2.2.2.1, h.2.2.2.2.2.2.2.2.2.2.1⟩)
set_option maxRecDepth 100000 in
theorem rd127 : Rd enc Try.prog w 127 2 GateShape.c GateShape.ok :=
  rd_struct Try.underlying127 (by kernel_rfl) (rdf_cons rfl (rd_str (t := 9) Try.underlying9 (by kernel_rfl)) (rdf_cons rfl (rd_slice (t := 125) (e := 173) (c := GateField.c) Try.underlying125 (by kernel_rfl) rd173 (by decide)) rdf_nil)) (fun p : (List UInt8) × (List (GateField)) × Unit => (⟨p.1, p.2.1⟩ : GateShape)) (fun _ => rfl) (fun _ => rfl) (fun _ h => ⟨h.1, h.2.1⟩)
set_option maxRecDepth 100000 in
theorem rd130 : Rd enc Try.prog w 130 6 GateMend.c GateMend.ok :=
  rd_struct Try.underlying130 (by kernel_rfl) (rdf_cons rfl (rd_str (t := 9) Try.underlying9 (by kernel_rfl)) (rdf_cons rfl (rd_str (t := 9) Try.underlying9 (by kernel_rfl)) (rdf_cons rfl (rd_str (t := 9) Try.underlying9 (by kernel_rfl)) (rdf_cons rfl (rd_str (t := 9) Try.underlying9 (by kernel_rfl)) (rdf_cons rfl (rd_str (t := 9) Try.underlying9 (by kernel_rfl)) (rdf_cons rfl (rd_str (t := 9) Try.underlying9 (by kernel_rfl)) rdf_nil)))))) (fun p : (List UInt8) × (List UInt8) × (List UInt8) × (List UInt8) × (List UInt8) × (List UInt8) × Unit => (⟨p.1, p.2.1, p.2.2.1, p.2.2.2.1, p.2.2.2.2.1, p.2.2.2.2.2.1⟩ : GateMend)) (fun _ => rfl) (fun _ => rfl) (fun _ h => ⟨h.1, h.2.1, h.2.2.1, h.2.2.2.1, h.2.2.2.2.1, h.2.2.2.2.2.1⟩)
set_option maxRecDepth 100000 in
theorem rd44 : Rd enc Try.prog w 44 3 GateLaw.c GateLaw.ok :=
  rd_struct Try.underlying44 (by kernel_rfl) (rdf_cons rfl (rd_slice (t := 41) (e := 127) (c := GateShape.c) Try.underlying41 (by kernel_rfl) rd127 (by decide)) (rdf_cons rfl (rd_slice (t := 42) (e := 130) (c := GateMend.c) Try.underlying42 (by kernel_rfl) rd130 (by decide)) (rdf_cons rfl (rd_slice (t := 22) (e := 80) (c := GateTeam.c) Try.underlying22 (by kernel_rfl) rd80 (by decide)) rdf_nil))) (fun p : (List (GateShape)) × (List (GateMend)) × (List (GateTeam)) × Unit => (⟨p.1, p.2.1, p.2.2.1⟩ : GateLaw)) (fun _ => rfl) (fun _ => rfl) (fun _ h => ⟨h.1, h.2.1, h.2.2.1⟩)
set_option maxRecDepth 100000 in
theorem rda4 : RdA enc Try.prog w [44, 47, 9] (fun x : (GateLaw) × (GateObject) × (List UInt8) × Unit => [.agg (GateLaw.c x.1), .agg (GateObject.c x.2.1), .str x.2.2.1]) (fun x => GateLaw.ok x.1 ∧ GateObject.ok x.2.1 ∧ okStr x.2.2.1 ∧ True) :=
  fun base vs ds ps h hv => by
    obtain ⟨x, h1, h2⟩ := ((rda_struct Try.underlying44 rd44 (rda_struct Try.underlying47 rd47 (rda_cell (d := _) Try.underlying9 rfl (rd_str (t := 9) Try.underlying9 (by kernel_rfl)) rda_nil))) : RdA enc Try.prog w _ _ _) base vs ds ps h hv
    exact ⟨x, ⟨h1.1, h1.2.1, h1.2.2.1, trivial⟩, h2⟩
set_option maxRecDepth 100000 in
theorem rd142 : Rd enc Try.prog w 142 7 GateGrant.c GateGrant.ok :=
  rd_struct Try.underlying142 (by kernel_rfl) (rdf_cons rfl (rd_int (t := 3) (k := .i64) Try.underlying3 (by kernel_rfl)) (rdf_cons rfl (rd_str (t := 9) Try.underlying9 (by kernel_rfl)) (rdf_cons rfl (rd_str (t := 9) Try.underlying9 (by kernel_rfl)) (rdf_cons rfl rd26 rdf_nil)))) (fun p : (Int) × (List UInt8) × (List UInt8) × (GateRule) × Unit => (⟨p.1, p.2.1, p.2.2.1, p.2.2.2.1⟩ : GateGrant)) (fun _ => rfl) (fun _ => rfl) (fun _ h => ⟨h.1, h.2.1, h.2.2.1, h.2.2.2.1⟩)
set_option maxRecDepth 100000 in
theorem rd145 : Rd enc Try.prog w 145 4 GateLedger.c GateLedger.ok :=
  rd_struct Try.underlying145 (by kernel_rfl) (rdf_cons rfl (rd_str (t := 9) Try.underlying9 (by kernel_rfl)) (rdf_cons rfl (rd_str (t := 9) Try.underlying9 (by kernel_rfl)) (rdf_cons rfl (rd_int (t := 3) (k := .i64) Try.underlying3 (by kernel_rfl)) (rdf_cons rfl (rd_int (t := 3) (k := .i64) Try.underlying3 (by kernel_rfl)) rdf_nil)))) (fun p : (List UInt8) × (List UInt8) × (Int) × (Int) × Unit => (⟨p.1, p.2.1, p.2.2.1, p.2.2.2.1⟩ : GateLedger)) (fun _ => rfl) (fun _ => rfl) (fun _ h => ⟨h.1, h.2.1, h.2.2.1, h.2.2.2.1⟩)
set_option maxRecDepth 100000 in
theorem rd148 : Rd enc Try.prog w 148 5 GatePurse.c GatePurse.ok :=
  rd_struct Try.underlying148 (by kernel_rfl) (rdf_cons rfl (rd_str (t := 9) Try.underlying9 (by kernel_rfl)) (rdf_cons rfl (rd_str (t := 9) Try.underlying9 (by kernel_rfl)) (rdf_cons rfl (rd_str (t := 9) Try.underlying9 (by kernel_rfl)) (rdf_cons rfl (rd_int (t := 3) (k := .i64) Try.underlying3 (by kernel_rfl)) (rdf_cons rfl (rd_int (t := 3) (k := .i64) Try.underlying3 (by kernel_rfl)) rdf_nil))))) (fun p : (List UInt8) × (List UInt8) × (List UInt8) × (Int) × (Int) × Unit => (⟨p.1, p.2.1, p.2.2.1, p.2.2.2.1, p.2.2.2.2.1⟩ : GatePurse)) (fun _ => rfl) (fun _ => rfl) (fun _ h => ⟨h.1, h.2.1, h.2.2.1, h.2.2.2.1, h.2.2.2.2.1⟩)
set_option maxRecDepth 100000 in
theorem rd66 : Rd enc Try.prog w 66 7 GateBook.c GateBook.ok :=
  rd_struct Try.underlying66 (by kernel_rfl) (rdf_cons rfl (rd_int (t := 3) (k := .i64) Try.underlying3 (by kernel_rfl)) (rdf_cons rfl (rd_int (t := 3) (k := .i64) Try.underlying3 (by kernel_rfl)) (rdf_cons rfl (rd_int (t := 3) (k := .i64) Try.underlying3 (by kernel_rfl)) (rdf_cons rfl (rd_slice (t := 61) (e := 47) (c := GateObject.c) Try.underlying61 (by kernel_rfl) rd47 (by decide)) (rdf_cons rfl (rd_slice (t := 62) (e := 142) (c := GateGrant.c) Try.underlying62 (by kernel_rfl) rd142 (by decide)) (rdf_cons rfl (rd_slice (t := 63) (e := 145) (c := GateLedger.c) Try.underlying63 (by kernel_rfl) rd145 (by decide)) (rdf_cons rfl (rd_slice (t := 64) (e := 148) (c := GatePurse.c) Try.underlying64 (by kernel_rfl) rd148 (by decide)) rdf_nil))))))) (fun p : (Int) × (Int) × (Int) × (List (GateObject)) × (List (GateGrant)) × (List (GateLedger)) × (List (GatePurse)) × Unit => (⟨p.1, p.2.1, p.2.2.1, p.2.2.2.1, p.2.2.2.2.1, p.2.2.2.2.2.1, p.2.2.2.2.2.2.1⟩ : GateBook)) (fun _ => rfl) (fun _ => rfl) (fun _ h => ⟨h.1, h.2.1, h.2.2.1, h.2.2.2.1, h.2.2.2.2.1, h.2.2.2.2.2.1, h.2.2.2.2.2.2.1⟩)
set_option maxRecDepth 100000 in
theorem rda5 : RdA enc Try.prog w [44, 66, 9, 9] (fun x : (GateLaw) × (GateBook) × (List UInt8) × (List UInt8) × Unit => [.agg (GateLaw.c x.1), .agg (GateBook.c x.2.1), .str x.2.2.1, .str x.2.2.2.1]) (fun x => GateLaw.ok x.1 ∧ GateBook.ok x.2.1 ∧ okStr x.2.2.1 ∧ okStr x.2.2.2.1 ∧ True) :=
  fun base vs ds ps h hv => by
    obtain ⟨x, h1, h2⟩ := ((rda_struct Try.underlying44 rd44 (rda_struct Try.underlying66 rd66 (rda_cell (d := _) Try.underlying9 rfl (rd_str (t := 9) Try.underlying9 (by kernel_rfl)) (rda_cell (d := _) Try.underlying9 rfl (rd_str (t := 9) Try.underlying9 (by kernel_rfl)) rda_nil)))) : RdA enc Try.prog w _ _ _) base vs ds ps h hv
    exact ⟨x, ⟨h1.1, h1.2.1, h1.2.2.1, h1.2.2.2.1, trivial⟩, h2⟩
end
end Go.Proofs.Ytkfdfapickladaa.Fn
