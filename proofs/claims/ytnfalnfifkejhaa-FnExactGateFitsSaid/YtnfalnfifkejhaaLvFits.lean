/- laws.FnExactGateFits, plain. No condition. -/
import Derived.Test.YtnfalnfifkejhaaPvFits
import Derived.Test.YtnfalnfifkejhaaPvSz
namespace Go.Proofs.Ytnfalnfifkejhaa.Pu
open Go Go.RowKit Go.Proofs.Ytnfalnfifkejhaa.Abs Go.Proofs.Ytnfalnfifkejhaa.Fn

theorem fits_law (x0 : GateField) (x1 : List UInt8) (h0 : x0.ok) (h1 : okStr x1) : ∃ k, laws_FnExactGateFits k x0 x1 = some true := by
  refine Yd.one (F := fun k => laws_FnExactGateFits k x0 x1) ?_
  unfold laws_FnExactGateFits
  by_cases c : (1048576 : Int) < (x1.length : Int)
  · exact Yd.cp (ilt_t c) Yd.pure
  · refine Yd.cn (ilt_f c) ?_
    obtain ⟨v, k1, k2, k3⟩ := laws_szGateField_y h0 (n := 1048576) (by omega) (by omega)
    refine Yd.bind k1 ?_
    by_cases c2 : v < 0
    · exact Yd.cp (ilt_t c2) Yd.pure
    · refine Yd.cn (ilt_f c2) ?_
      have hs := k3 (by omega)
      have hw : x0.Words.length ≤ maxLen := max_le hs.2.2.2.2.1.1
      refine Yd.bind (laws_toGateField_y hs) (Yd.bind (specFits_y x0 x1 hw h1) (Yd.bind (laws_toGateField_y hs) (Yd.bind (implFits_y x0 x1 hw h1) (Yd.cn (by rw [beq_self]; rfl) (Yd.bind (laws_toGateField_y hs) (Yd.bind (laws_eqGateField_y h0) (Yd.cn rfl Yd.pure)))))))

end Go.Proofs.Ytnfalnfifkejhaa.Pu
