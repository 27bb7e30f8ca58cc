/- laws.FnExactGateUncovered, plain. No condition. -/
import Derived.Test.YtdfdiinbiipacaaDoorPwY
namespace Go.Proofs.YtdfdiinbiipacaaDoor.Pu
open Go Go.RowKit Go.Proofs.YtdfdiinbiipacaaDoor.Abs Go.Proofs.YtdfdiinbiipacaaDoor.Fn

theorem eqAct_e (k : Nat) (a : GateAct) : laws_eqGateAct k a a = some true := by
  unfold laws_eqGateAct
  simp only [ieq_self, seq_self, Bool.not_true, cond_false]
theorem unc_law (x0 : List GateTeam) (x1 : List GateRule) (x2 : GateRule) (h0 : okS GateTeam.ok x0) (h1 : okS GateRule.ok x1) (h2 : x2.ok) : ∃ k, laws_FnExactGateUncovered k x0 x1 x2 = some true := by
  refine Yd.one (F := fun k => laws_FnExactGateUncovered k x0 x1 x2) ?_
  unfold laws_FnExactGateUncovered
  obtain ⟨v, k1, k2, k3⟩ := laws_szGateTeamS_y h0 (n := 1048576) (by omega) (by omega)
  refine Yd.bind k1 ?_
  by_cases c : v < 0
  · exact Yd.cp (ilt_t c) Yd.pure
  · refine Yd.cn (ilt_f c) ?_
    have hs := k3 (by omega)
    obtain ⟨v', l1, l2, l3⟩ := laws_szGateRuleS_y h1 (n := v) (by omega) (by omega)
    refine Yd.bind l1 ?_
    by_cases c' : v' < 0
    · exact Yd.cp (ilt_t c') Yd.pure
    · refine Yd.cn (ilt_f c') ?_
      have hm := l3 (by omega)
      obtain ⟨v'', m1, m2, m3⟩ := laws_szGateRule_y h2 (n := v') (by omega) (by omega)
      refine Yd.bind m1 ?_
      by_cases c'' : v'' < 0
      · exact Yd.cp (ilt_t c'') Yd.pure
      · refine Yd.cn (ilt_f c'') ?_
        have hq := m3 (by omega)
        have s1 : Yd (fun k => spec_GateUncovered k x0 x1 x2) (uncM x0 x1 x2) := Yd.ofE _ fun k hk => specUnc_e hk hs hm hq
        have s2 : Yd (fun k => impl_GateUncovered k x0 x1 x2) (uncM x0 x1 x2) := Yd.ofE _ fun k hk => implUnc_e hk hs hm hq
        refine Yd.bind (laws_toGateTeamS_y hs) (Yd.bind (laws_toGateRuleS_y hm) (Yd.bind (laws_toGateRule_y hq) (Yd.bind s1 (Yd.bind (laws_toGateTeamS_y hs) (Yd.bind (laws_toGateRuleS_y hm) (Yd.bind (laws_toGateRule_y hq) (Yd.bind s2 ?_)))))))
        simp only [share, eqAct_e, beq_self, Bool.not_true, Option.bind_some]
        exact Yd.cn rfl (Yd.cn rfl (Yd.bind (laws_toGateTeamS_y hs) (Yd.bind (laws_eqGateTeamS_y h0) (Yd.cn rfl (Yd.bind (laws_toGateRuleS_y hm) (Yd.bind (laws_eqGateRuleS_y h1) (Yd.cn rfl (Yd.bind (laws_toGateRule_y hq) (Yd.bind (laws_eqGateRule_y h2) (Yd.cn rfl Yd.pure))))))))))

end Go.Proofs.YtdfdiinbiipacaaDoor.Pu
