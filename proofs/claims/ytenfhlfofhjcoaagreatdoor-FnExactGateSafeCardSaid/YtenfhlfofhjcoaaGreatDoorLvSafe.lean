/- laws.FnExactGateSafe, plain. No condition. -/
import Derived.Test.YtenfhlfofhjcoaaGreatDoorMw3
namespace Go.Proofs.YtenfhlfofhjcoaaGreatDoor.Pu
open Go Go.RowKit Go.Proofs.YtenfhlfofhjcoaaGreatDoor.Abs Go.Proofs.YtenfhlfofhjcoaaGreatDoor.Fn
theorem safe_law (x0:GateLaw) (x1:GateBook) (x2:GateWorld) (h0:x0.ok) (h1:x1.ok) (h2:x2.ok):∃ k,laws_FnExactGateSafe k x0 x1 x2=some true:=by
 refine Yd.one (F:=fun k=>laws_FnExactGateSafe k x0 x1 x2) ?_
 unfold laws_FnExactGateSafe
 obtain ⟨v,k1,k2,k3⟩:=laws_szGateLaw_y h0 (n:=1048576) (by omega) (by omega)
 refine Yd.bind k1 ?_
 by_cases c:v < 0
 ·exact Yd.cp (ilt_t c) Yd.pure
 refine Yd.cn (ilt_f c) ?_
 have hs:=k3 (by omega)
 obtain ⟨v',l1,l2,l3⟩:=laws_szGateBook_y h1 (n:=v) (by omega) (by omega)
 refine Yd.bind l1 ?_
 by_cases c':v' < 0
 ·exact Yd.cp (ilt_t c') Yd.pure
 refine Yd.cn (ilt_f c') ?_
 have hm:=l3 (by omega)
 obtain ⟨v'',m1,m2,m3⟩:=laws_szGateWorld_y h2 (n:=v') (by omega) (by omega)
 refine Yd.bind m1 ?_
 by_cases c'':v'' < 0
 ·exact Yd.cp (ilt_t c'') Yd.pure
 refine Yd.cn (ilt_f c'') ?_
 have ha:=m3 (by omega)
 have s1:Yd (fun k=>spec_GateSafe k x0 x1 x2) (safeM x0 x1 x2):=Yd.ofE _ fun k hk=>specSafe_e hk hs hm ha
 have s2:Yd (fun k=>impl_GateSafe k x0 x1 x2) (safeM x0 x1 x2):=Yd.ofE _ fun k hk=>implSafe_e hk hs hm ha
 exact Yd.bind (laws_toGateLaw_y hs) (Yd.bind (laws_toGateBook_y hm) (Yd.bind (laws_toGateWorld_y ha) (Yd.bind s1 (Yd.bind (laws_toGateLaw_y hs) (Yd.bind (laws_toGateBook_y hm) (Yd.bind (laws_toGateWorld_y ha) (Yd.bind s2 (Yd.cn (by rw [beq_self];rfl) (Yd.bind (laws_toGateLaw_y hs) (Yd.bind (laws_eqGateLaw_y h0) (Yd.cn rfl (Yd.bind (laws_toGateBook_y hm) (Yd.bind (laws_eqGateBook_y h1) (Yd.cn rfl (Yd.bind (laws_toGateWorld_y ha) (Yd.bind (laws_eqGateWorld_y h2) (Yd.cn rfl Yd.pure)))))))))))))))))
end Go.Proofs.YtenfhlfofhjcoaaGreatDoor.Pu
