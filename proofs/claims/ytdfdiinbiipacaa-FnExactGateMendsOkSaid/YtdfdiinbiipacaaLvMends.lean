/- laws.FnExactGateMendsOk, plain. No condition. -/
import Derived.Test.YtdfdiinbiipacaaPwE
namespace Go.Proofs.Ytdfdiinbiipacaa.Pu
open Go Go.RowKit Go.Proofs.Ytdfdiinbiipacaa.Abs Go.Proofs.Ytdfdiinbiipacaa.Fn

theorem mends_law (x0 : List GateShape) (x1 : List GateMend) (h0 : okS GateShape.ok x0) (h1 : okS GateMend.ok x1) : ∃ k, laws_FnExactGateMendsOk k x0 x1 = some true := by
  refine Yd.one (F := fun k => laws_FnExactGateMendsOk k x0 x1) ?_
  unfold laws_FnExactGateMendsOk
  obtain ⟨v, k1, k2, k3⟩ := laws_szGateShapeS_y h0 (n := 1048576) (by omega) (by omega)
  refine Yd.bind k1 ?_
  by_cases c : v < 0
  · exact Yd.cp (ilt_t c) Yd.pure
  · refine Yd.cn (ilt_f c) ?_
    have hs := k3 (by omega)
    obtain ⟨v', l1, l2, l3⟩ := laws_szGateMendS_y h1 (n := v) (by omega) (by omega)
    refine Yd.bind l1 ?_
    by_cases c' : v' < 0
    · exact Yd.cp (ilt_t c') Yd.pure
    · refine Yd.cn (ilt_f c') ?_
      have hm := l3 (by omega)
      have s1 : Yd (fun k => spec_GateMendsOk k x0 x1) (mendsOk x0 x1) := Yd.ofE _ fun k hk => specMendsOk_e hk hs hm
      have s2 : Yd (fun k => impl_GateMendsOk k x0 x1) (mendsOk x0 x1) := Yd.ofE _ fun k hk => implMendsOk_e hk hs hm
      exact Yd.bind (laws_toGateShapeS_y hs) (Yd.bind (laws_toGateMendS_y hm) (Yd.bind s1 (Yd.bind (laws_toGateShapeS_y hs) (Yd.bind (laws_toGateMendS_y hm) (Yd.bind s2 (Yd.cn (by rw [beq_self]; rfl) (Yd.bind (laws_toGateShapeS_y hs) (Yd.bind (laws_eqGateShapeS_y h0) (Yd.cn rfl (Yd.bind (laws_toGateMendS_y hm) (Yd.bind (laws_eqGateMendS_y h1) (Yd.cn rfl Yd.pure))))))))))))

end Go.Proofs.Ytdfdiinbiipacaa.Pu
