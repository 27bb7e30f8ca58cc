/- laws.FnExactGateCheck, plain. No condition. -/
import Derived.Test.YtdfdiinbiipacaaDoorPwC
namespace Go.Proofs.YtdfdiinbiipacaaDoor.Pu
open Go Go.RowKit Go.Proofs.YtdfdiinbiipacaaDoor.Abs Go.Proofs.YtdfdiinbiipacaaDoor.Fn

theorem check_law (x0 : List GateShape) (x1 : GateObject) (h0 : okS GateShape.ok x0) (h1 : x1.ok) : ∃ k, laws_FnExactGateCheck k x0 x1 = some true := by
  refine Yd.one (F := fun k => laws_FnExactGateCheck k x0 x1) ?_
  unfold laws_FnExactGateCheck
  obtain ⟨v, k1, k2, k3⟩ := laws_szGateShapeS_y h0 (n := 1048576) (by omega) (by omega)
  refine Yd.bind k1 ?_
  by_cases c : v < 0
  · exact Yd.cp (ilt_t c) Yd.pure
  · refine Yd.cn (ilt_f c) ?_
    have hs := k3 (by omega)
    obtain ⟨v', l1, l2, l3⟩ := laws_szGateObject_y h1 (n := v) (by omega) (by omega)
    refine Yd.bind l1 ?_
    by_cases c' : v' < 0
    · exact Yd.cp (ilt_t c') Yd.pure
    · refine Yd.cn (ilt_f c') ?_
      have hm := l3 (by omega)
      have s1 : Yd (fun k => spec_GateCheck k x0 x1) (checkM x0 x1) := Yd.ofE _ fun k hk => specCheck_e hk hs hm
      have s2 : Yd (fun k => impl_GateCheck k x0 x1) (checkM x0 x1) := Yd.ofE _ fun k hk => implCheck_e hk hs hm
      refine Yd.bind (laws_toGateShapeS_y hs) (Yd.bind (laws_toGateObject_y hm) (Yd.bind s1 (Yd.bind (laws_toGateShapeS_y hs) (Yd.bind (laws_toGateObject_y hm) (Yd.bind s2 ?_)))))
      simp only [share, ieq_self, Bool.not_true]
      exact Yd.cn rfl (Yd.cn rfl (Yd.bind (laws_toGateShapeS_y hs) (Yd.bind (laws_eqGateShapeS_y h0) (Yd.cn rfl (Yd.bind (laws_toGateObject_y hm) (Yd.bind (laws_eqGateObject_y h1) (Yd.cn rfl Yd.pure)))))))

end Go.Proofs.YtdfdiinbiipacaaDoor.Pu
