/- laws.FnExactGateTick, plain. No condition. -/
import Derived.Test.YtjkbbdldmdajkaaGreatDoorMw3
namespace Go.Proofs.YtjkbbdldmdajkaaGreatDoor.Pu
open Go Go.RowKit Go.Proofs.YtjkbbdldmdajkaaGreatDoor.c_ Go.Proofs.YtjkbbdldmdajkaaGreatDoor.Fn
theorem Zg (x0:aL) (x1:aG) (h0:x0.ok) (h1:x1.ok):∃ k,jo k x0 x1=some true:=by
 refine Yd.one (F:=fun k=>jo k x0 x1) ?_;unfold jo;simp only [share];obtain ⟨v,k1,k2,k3⟩:=uz h0 (n:=1048576) (by omega) (by omega);refine Yd.bind k1 ?_;by_cases c:v < 0
 ·exact Yd.cp (hY c) Yd.pure
 refine Yd.cn (dz c) ?_;have hs:=k3 (by omega);obtain ⟨v',l1,l2,l3⟩:=sX h1 (n:=v) (by omega) (by omega);refine Yd.bind l1 ?_;by_cases c':v' < 0
 ·exact Yd.cp (hY c') Yd.pure
 refine Yd.cn (dz c') ?_;have hm:=l3 (by omega);have hl:=UB hs;have Zd:=E9 hm;have rs:(jU x0 x1).1.sd:=Zh hm;have ro:(jU x0 x1).1.ok:=Zi h1;have hr:=E9 rs;have N:(!bH (jU x0 x1).2 (jU x0 x1).2)=false:=by rw [iy];rfl
 have N2:∀ n:Int,(!bH n n)=false:=fun n=>by rw [iy];rfl
 have E:Yd (fun k=>cm k (jU x0 x1).1 (jU x0 x1).1) true:=gz ro;have S:Yd (fun k=>mF k x0 x1) (LN (jU x0 x1).1 (jU x0 x1).2):=Yd.ofE _ fun k hk=>UE h1 hk hs hm;have I:Yd (fun k=>iX k x0 x1) (LN (jU x0 x1).1 (jU x0 x1).2):=Yd.ofE _ fun k hk=>UF h1 hk hs hm;have H:Yd (fun k=>cV k (⟨(jU x0 x1).1.vo,(jU x0 x1).1.dR,(jU x0 x1).1.dP,(sY 1 (jU x0 x1).1).1,(sY 1 (jU x0 x1).1).2.1,(sY 1 (jU x0 x1).1).2.2.1,(sY 1 (jU x0 x1).1).2.2.2⟩:aG) 1) (1+GH (jU x0 x1).1):=Yd.ge (4194304*8) fun k hk=>Hi (by omega) rs (by omega) (by omega);refine Yd.bind (cO hs) (Yd.bind (cE hm) (Yd.bind S ?_));refine Yd.bind (cO hs) (Yd.bind (cE hm) (Yd.bind I (Yd.bind E (Yd.cn rfl (Yd.cn N ?_)))));refine Yd.bind (cO hs) (Yd.bind (uA h0) (Yd.cn rfl (Yd.bind (cE hm) (Yd.bind (gz h1) (Yd.cn rfl ?_)))));refine Yd.bind (Yd.ge (4194304*8) fun k hk=>J3 (by omega) hs (by omega) (by omega)) (Yd.rq (da ca) (Yd.rq (da ca) (Yd.rq (da ca) ?_)));refine Yd.bind (Yd.ge (4194304*8) fun k hk=>uB (by omega) hm (by simp only;omega) (by simp only;omega)) (Yd.rq (da ca) (Yd.rq (da ca) (Yd.rq (da ca) (Yd.rq (da ca) ?_))));refine Yd.cn (dz (by simp only;omega)) (Yd.bind E (Yd.cn rfl (Yd.cn N ?_)));refine Yd.bind (Yd.ge (4194304*8) fun k hk=>uB (by omega) rs (by omega) (by omega)) (Yd.rq (da ca) (Yd.rq (da ca) (Yd.rq (da ca) (Yd.rq (da ca) ?_))));refine Yd.bind H (Yd.cn (dz (by omega)) (Yd.cn (N2 _) ?_));refine Yd.bind (cO hs) (Yd.bind (cE hm) (Yd.bind I (Yd.bind E (Yd.cn rfl (Yd.cn N ?_)))));exact Yd.bind H (Yd.cn (dz (by omega)) (Yd.cn (N2 _) Yd.pure))
end Go.Proofs.YtjkbbdldmdajkaaGreatDoor.Pu
