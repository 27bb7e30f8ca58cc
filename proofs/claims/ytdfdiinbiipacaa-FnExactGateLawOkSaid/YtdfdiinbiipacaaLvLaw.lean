/- laws.FnExactGateLawOk, plain. No condition. -/
import Derived.Test.YtdfdiinbiipacaaPwU
namespace Go.Proofs.Ytdfdiinbiipacaa.Pu
open Go Go.RowKit Go.Proofs.Ytdfdiinbiipacaa.Abs Go.Proofs.Ytdfdiinbiipacaa.Fn

theorem law_law (x0 : GateLaw) (h0 : x0.ok) : ∃ k, laws_FnExactGateLawOk k x0 = some true := by
  refine Yd.one (F := fun k => laws_FnExactGateLawOk k x0) ?_
  unfold laws_FnExactGateLawOk
  obtain ⟨v, k1, k2, k3⟩ := laws_szGateLaw_y h0 (n := 1048576) (by omega) (by omega)
  refine Yd.bind k1 ?_
  by_cases c : v < 0
  · exact Yd.cp (ilt_t c) Yd.pure
  · refine Yd.cn (ilt_f c) ?_
    have hs := k3 (by omega)
    have s1 : Yd (fun k => spec_GateLawOk k x0) (lawOk x0) := Yd.ofE _ fun k hk => specLawOk_e hk hs
    have s2 : Yd (fun k => impl_GateLawOk k x0) (lawOk x0) := Yd.ofE _ fun k hk => implLawOk_e hk hs
    exact Yd.bind (laws_toGateLaw_y hs) (Yd.bind s1 (Yd.bind (laws_toGateLaw_y hs) (Yd.bind s2 (Yd.cn (by rw [beq_self]; rfl) (Yd.bind (laws_toGateLaw_y hs) (Yd.bind (laws_eqGateLaw_y h0) (Yd.cn rfl Yd.pure)))))))

end Go.Proofs.Ytdfdiinbiipacaa.Pu
