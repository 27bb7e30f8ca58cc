/- laws.FnExactGateMay, plain. No condition. -/
import Derived.Test.YtenfhlfofhjcoaaGreatDoorMw3
namespace Go.Proofs.YtenfhlfofhjcoaaGreatDoor.Pu
open Go Go.RowKit Go.Proofs.YtenfhlfofhjcoaaGreatDoor.Abs Go.Proofs.YtenfhlfofhjcoaaGreatDoor.Fn
theorem may_law (x0:GateLaw) (x1:GateBook) (x2:List UInt8) (x3:GateAct) (h0:x0.ok) (h1:x1.ok) (h2:okStr x2) (h3:x3.ok):∃ k,laws_FnExactGateMay k x0 x1 x2 x3=some true:=by
 refine Yd.one (F:=fun k=>laws_FnExactGateMay k x0 x1 x2 x3) ?_
 unfold laws_FnExactGateMay
 by_cases c0:(1048576:Int) < (x2.length:Int)
 ·exact Yd.cp (ilt_t c0) Yd.pure
 refine Yd.cn (ilt_f c0) ?_
 obtain ⟨v,k1,k2,k3⟩:=laws_szGateLaw_y h0 (n:=1048576) (by omega) (by omega)
 refine Yd.bind k1 ?_
 by_cases c:v < 0
 ·exact Yd.cp (ilt_t c) Yd.pure
 refine Yd.cn (ilt_f c) ?_
 have hs:=k3 (by omega)
 obtain ⟨v',l1,l2,l3⟩:=laws_szGateBook_y h1 (n:=v) (by omega) (by omega)
 refine Yd.bind l1 ?_
 by_cases c':v' < 0
 ·exact Yd.cp (ilt_t c') Yd.pure
 refine Yd.cn (ilt_f c') ?_
 have hm:=l3 (by omega)
 obtain ⟨v'',m1,m2,m3⟩:=laws_szGateAct_y h3 (n:=v') (by omega) (by omega)
 refine Yd.bind m1 ?_
 by_cases c'':v'' < 0
 ·exact Yd.cp (ilt_t c'') Yd.pure
 refine Yd.cn (ilt_f c'') ?_
 have ha:=m3 (by omega)
 have s1:Yd (fun k=>spec_GateMay k x0 x1 x2 x3) (bookOk x0 x1&&mayM x0 x1 x2 x3):=Yd.ofE (4194304*12) fun k hk=>by
  unfold spec_GateMay
  rw [specBookOk_e hk hs hm,specMay_e (by omega) hs hm]
  cases bookOk x0 x1<;>rfl
 have s2:Yd (fun k=>impl_GateMay k x0 x1 x2 x3) (bookOk x0 x1&&mayM x0 x1 x2 x3):=Yd.ofE (4194304*12) fun k hk=>by
  unfold impl_GateMay
  rw [implBookOk_e hk hs hm]
  cases hb:bookOk x0 x1 with
  | false=>rfl
  | true=>
   simp only [Option.bind_some,cond_true,implMay_e (show 4194304*5≤k by omega) hs hm hb]
   rfl
 exact Yd.bind (laws_toGateLaw_y hs) (Yd.bind (laws_toGateBook_y hm) (Yd.bind (laws_toGateAct_y ha) (Yd.bind s1 (Yd.bind (laws_toGateLaw_y hs) (Yd.bind (laws_toGateBook_y hm) (Yd.bind (laws_toGateAct_y ha) (Yd.bind s2 (Yd.cn (by rw [beq_self];rfl) (Yd.bind (laws_toGateLaw_y hs) (Yd.bind (laws_eqGateLaw_y h0) (Yd.cn rfl (Yd.bind (laws_toGateBook_y hm) (Yd.bind (laws_eqGateBook_y h1) (Yd.cn rfl Yd.pure))))))))))))))
end Go.Proofs.YtenfhlfofhjcoaaGreatDoor.Pu
