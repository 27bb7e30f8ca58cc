/- What the laws are handed is data. No condition. -/
import Derived.Test.YtnhkbghbllbknaaDoorFnFd
import Derived.Test.YtnhkbghbllbknaaDoorWR
namespace Go.Proofs.YtnhkbghbllbknaaDoor.Fn
open Go Go.RowKit Go.Proofs.YtnhkbghbllbknaaDoor.Abs
section
variable {H : Type} {enc : TypeId × Value → H} {w : World}
set_option maxRecDepth 100000 in
theorem rda3 : RdA enc Tryd.prog w [22, 22] (fun x : (List Int) × (List Int) × Unit => [slG 1 (0 : Int) (fun y : Int => [.int .u8 y]) x.1, slG 1 (0 : Int) (fun y : Int => [.int .u8 y]) x.2.1]) (fun x => okS (okInt .u8) x.1 ∧ okS (okInt .u8) x.2.1 ∧ True) :=
  fun base vs ds ps h hv => by
    obtain ⟨x, h1, h2⟩ := ((rda_cell (d := _) Tryd.underlying22 rfl (rd_slice (t := 22) (e := 5) (d := (0 : Int)) (c := (fun y : Int => [.int .u8 y])) Tryd.underlying22 (by kernel_rfl) (rd_int (t := 5) (k := .u8) Tryd.underlying5 (by kernel_rfl)) (by decide)) (rda_cell (d := _) Tryd.underlying22 rfl (rd_slice (t := 22) (e := 5) (d := (0 : Int)) (c := (fun y : Int => [.int .u8 y])) Tryd.underlying22 (by kernel_rfl) (rd_int (t := 5) (k := .u8) Tryd.underlying5 (by kernel_rfl)) (by decide)) rda_nil)) : RdA enc Tryd.prog w _ _ _) base vs ds ps h hv
    exact ⟨x, ⟨h1.1, h1.2.1, trivial⟩, h2⟩
end
end Go.Proofs.YtnhkbghbllbknaaDoor.Fn
