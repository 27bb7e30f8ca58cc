/- laws.FnExactGateWeighs, plain: the law. No condition. -/
import Derived.Test.YtkfdfapickladaaPuWeighs
import Derived.Test.YtkfdfapickladaaPuSz
namespace Go.Proofs.Ytkfdfapickladaa.Pu
open Go Go.RowKit Go.Proofs.Ytkfdfapickladaa.Abs Go.Proofs.Ytkfdfapickladaa.Fn

theorem weighs_law (l : GateLaw) (o : GateObject) (res : List UInt8) (hl : GateLaw.ok l) (ho : GateObject.ok o) (_ : okStr res) : ∃ k, laws_FnExactGateWeighs k l o res = some true := by
  refine Yd.one ?_
  unfold laws_FnExactGateWeighs
  have hm := max_eq
  refine Yd.ite (fun _ => Yd.pure) fun _ => ?_
  obtain ⟨v1, k1, l1, m1⟩ := laws_szGateLaw_y hl (n := 1048576) (by omega) (by omega)
  refine Yd.bind k1 (Yd.ite (fun _ => Yd.pure) fun c1 => ?_)
  obtain ⟨v2, k2, l2, m2⟩ := laws_szGateObject_y ho (n := v1) (by omega) (by omega)
  refine Yd.bind k2 (Yd.ite (fun _ => Yd.pure) fun c2 => ?_)
  have b1 := m1 (by omega)
  have b2 := m2 (by omega)
  have w1 : l.Shapes.length ≤ maxLen := hl.1.1
  have w2 : o.Values.length ≤ maxLen := by
    have : o.Values.length ≤ 1048576 := by first | exact b2.1.1 | exact b2.2.1.1 | exact b2.2.2.1.1 | exact b2.2.2.2.1.1 | exact b2.2.2.2.2.1.1 | exact b2.2.2.2.2.2.1.1
    omega
  refine Yd.bind (laws_toGateLaw_y b1) (Yd.bind (laws_toGateObject_y b2) (Yd.bind (weighsS_y res w1 w2) (Yd.bind (laws_toGateLaw_y b1) (Yd.bind (laws_toGateObject_y b2) (Yd.bind (weighsI_y res w1 w2) (Yd.ifn (by simp) ?_))))))
  exact Yd.bind (laws_toGateLaw_y b1) (Yd.bind (laws_eqGateLaw_y hl) (Yd.ifn (by simp) (Yd.bind (laws_toGateObject_y b2) (Yd.bind (laws_eqGateObject_y ho) (Yd.ifn (by simp) Yd.pure)))))

end Go.Proofs.Ytkfdfapickladaa.Pu
