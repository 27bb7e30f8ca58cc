/- laws.FnExactGateShapesOk, plain. No condition. -/
import Derived.Test.YtdfdiinbiipacaaPwT
namespace Go.Proofs.Ytdfdiinbiipacaa.Pu
open Go Go.RowKit Go.Proofs.Ytdfdiinbiipacaa.Abs Go.Proofs.Ytdfdiinbiipacaa.Fn

theorem shapes_law (x0 : List GateShape) (h0 : okS GateShape.ok x0) : ∃ k, laws_FnExactGateShapesOk k x0 = some true := by
  refine Yd.one (F := fun k => laws_FnExactGateShapesOk k x0) ?_
  unfold laws_FnExactGateShapesOk
  obtain ⟨v, k1, k2, k3⟩ := laws_szGateShapeS_y h0 (n := 1048576) (by omega) (by omega)
  refine Yd.bind k1 ?_
  by_cases c : v < 0
  · exact Yd.cp (ilt_t c) Yd.pure
  · refine Yd.cn (ilt_f c) ?_
    have hs := k3 (by omega)
    have s1 : Yd (fun k => spec_GateShapesOk k x0) (shapesOk x0) := Yd.ofE _ fun k hk => specShapesOk_e hs hk
    have s2 : Yd (fun k => impl_GateShapesOk k x0) (shapesOk x0) := Yd.ofE _ fun k hk => implShapesOk_e hs hk
    exact Yd.bind (laws_toGateShapeS_y hs) (Yd.bind s1 (Yd.bind (laws_toGateShapeS_y hs) (Yd.bind s2 (Yd.cn (by rw [beq_self]; rfl) (Yd.bind (laws_toGateShapeS_y hs) (Yd.bind (laws_eqGateShapeS_y h0) (Yd.cn rfl Yd.pure)))))))

end Go.Proofs.Ytdfdiinbiipacaa.Pu
