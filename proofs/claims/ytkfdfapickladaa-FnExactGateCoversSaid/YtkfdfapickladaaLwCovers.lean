/- laws.FnExactGateCovers, plain: the law. No condition. -/
import Derived.Test.YtkfdfapickladaaPuCovers
import Derived.Test.YtkfdfapickladaaPuSz
namespace Go.Proofs.Ytkfdfapickladaa.Pu
open Go Go.RowKit Go.Proofs.Ytkfdfapickladaa.Abs Go.Proofs.Ytkfdfapickladaa.Fn

theorem covers_law (x : List GateTeam) (qs : List GateRule) (r : GateRule) (hx : okS GateTeam.ok x) (hq : okS GateRule.ok qs) (hr : GateRule.ok r) : ∃ k, laws_FnExactGateCovers k x qs r = some true := by
  refine Yd.one ?_
  unfold laws_FnExactGateCovers
  obtain ⟨v1, k1, l1, m1⟩ := laws_szGateTeamS_y hx (n := 1048576) (by omega) (by omega)
  refine Yd.bind k1 (Yd.ite (fun _ => Yd.pure) fun c1 => ?_)
  obtain ⟨v2, k2, l2, m2⟩ := laws_szGateRuleS_y hq (n := v1) (by omega) (by omega)
  refine Yd.bind k2 (Yd.ite (fun _ => Yd.pure) fun c2 => ?_)
  obtain ⟨v3, k3, l3, m3⟩ := laws_szGateRule_y hr (n := v2) (by omega) (by omega)
  refine Yd.bind k3 (Yd.ite (fun _ => Yd.pure) fun c3 => ?_)
  have b1 := m1 (by omega)
  have b2 := m2 (by omega)
  have b3 := m3 (by omega)
  refine Yd.bind (laws_toGateTeamS_y b1) (Yd.bind (laws_toGateRuleS_y b2) (Yd.bind (laws_toGateRule_y b3) (Yd.bind (coversS_y hx hq hr) (Yd.bind (laws_toGateTeamS_y b1) (Yd.bind (laws_toGateRuleS_y b2) (Yd.bind (laws_toGateRule_y b3) (Yd.bind (coversI_y hx hq hr) (Yd.ifn (by simp) ?_))))))))
  exact Yd.bind (laws_toGateTeamS_y b1) (Yd.bind (laws_eqGateTeamS_y hx) (Yd.ifn (by simp) (Yd.bind (laws_toGateRuleS_y b2) (Yd.bind (laws_eqGateRuleS_y hq) (Yd.ifn (by simp) (Yd.bind (laws_toGateRule_y b3) (Yd.bind (laws_eqGateRule_y hr) (Yd.ifn (by simp) Yd.pure))))))))

end Go.Proofs.Ytkfdfapickladaa.Pu
