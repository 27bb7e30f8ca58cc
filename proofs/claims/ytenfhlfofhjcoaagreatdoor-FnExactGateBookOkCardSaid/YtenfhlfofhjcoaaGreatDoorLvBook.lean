/- laws.FnExactGateBookOk, plain. No condition. -/
import Derived.Test.YtenfhlfofhjcoaaGreatDoorMw3
namespace Go.Proofs.YtenfhlfofhjcoaaGreatDoor.Pu
open Go Go.RowKit Go.Proofs.YtenfhlfofhjcoaaGreatDoor.Abs Go.Proofs.YtenfhlfofhjcoaaGreatDoor.Fn
theorem book_law (x0:GateLaw) (x1:GateBook) (h0:x0.ok) (h1:x1.ok):∃ k,laws_FnExactGateBookOk k x0 x1=some true:=by
 refine Yd.one (F:=fun k=>laws_FnExactGateBookOk k x0 x1) ?_
 unfold laws_FnExactGateBookOk
 obtain ⟨v,k1,k2,k3⟩:=laws_szGateLaw_y h0 (n:=1048576) (by omega) (by omega)
 refine Yd.bind k1 ?_
 by_cases c:v < 0
 ·exact Yd.cp (ilt_t c) Yd.pure
 ·refine Yd.cn (ilt_f c) ?_
  have hs:=k3 (by omega)
  obtain ⟨v',l1,l2,l3⟩:=laws_szGateBook_y h1 (n:=v) (by omega) (by omega)
  refine Yd.bind l1 ?_
  by_cases c':v' < 0
  ·exact Yd.cp (ilt_t c') Yd.pure
  ·refine Yd.cn (ilt_f c') ?_
   have hm:=l3 (by omega)
   have s1:Yd (fun k=>spec_GateBookOk k x0 x1) (bookOk x0 x1):=Yd.ofE _ fun k hk=>specBookOk_e hk hs hm
   have s2:Yd (fun k=>impl_GateBookOk k x0 x1) (bookOk x0 x1):=Yd.ofE _ fun k hk=>implBookOk_e hk hs hm
   exact Yd.bind (laws_toGateLaw_y hs) (Yd.bind (laws_toGateBook_y hm) (Yd.bind s1 (Yd.bind (laws_toGateLaw_y hs) (Yd.bind (laws_toGateBook_y hm) (Yd.bind s2 (Yd.cn (by rw [beq_self];rfl) (Yd.bind (laws_toGateLaw_y hs) (Yd.bind (laws_eqGateLaw_y h0) (Yd.cn rfl (Yd.bind (laws_toGateBook_y hm) (Yd.bind (laws_eqGateBook_y h1) (Yd.cn rfl Yd.pure))))))))))))
end Go.Proofs.YtenfhlfofhjcoaaGreatDoor.Pu
