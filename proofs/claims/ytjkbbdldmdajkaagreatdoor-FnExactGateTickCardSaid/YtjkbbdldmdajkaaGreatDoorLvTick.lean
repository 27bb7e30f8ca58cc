/- laws.FnExactGateTick, plain. No condition. -/
import Derived.Test.YtjkbbdldmdajkaaGreatDoorMw3
namespace Go.Proofs.YtjkbbdldmdajkaaGreatDoor.Pu
open Go Go.RowKit Go.Proofs.YtjkbbdldmdajkaaGreatDoor.c_ Go.Proofs.YtjkbbdldmdajkaaGreatDoor.Fn
theorem Zc (x0:aL) (x1:aG) (h0:x0.ok) (h1:x1.ok):∃ k,jo k x0 x1=some true:=by
 refine Yd.one (F:=fun k=>jo k x0 x1) ?_;unfold jo;simp only [share];obtain ⟨v,k1,k2,k3⟩:=uw h0 (n:=1048576) (by omega) (by omega);refine Yd.bind k1 ?_;by_cases c:v < 0
 ·exact Yd.cp (hJ c) Yd.pure
 refine Yd.cn (dy c) ?_;have hs:=k3 (by omega);obtain ⟨v',l1,l2,l3⟩:=sV h1 (n:=v) (by omega) (by omega);refine Yd.bind l1 ?_;by_cases c':v' < 0
 ·exact Yd.cp (hJ c') Yd.pure
 refine Yd.cn (dy c') ?_;have hm:=l3 (by omega);have hl:=Uy hs;have Y_:=E3 hm;have rs:(jU x0 x1).1.sd:=Zd hm;have ro:(jU x0 x1).1.ok:=Ze h1;have hr:=E3 rs;have N:(!bH (jU x0 x1).2 (jU x0 x1).2)=false:=by rw [iw];rfl
 have N2:∀ n:Int,(!bH n n)=false:=fun n=>by rw [iw];rfl
 have E:Yd (fun k=>cm k (jU x0 x1).1 (jU x0 x1).1) true:=gx ro;have S:Yd (fun k=>mD k x0 x1) (LM (jU x0 x1).1 (jU x0 x1).2):=Yd.ofE _ fun k hk=>UB h1 hk hs hm;have I:Yd (fun k=>iX k x0 x1) (LM (jU x0 x1).1 (jU x0 x1).2):=Yd.ofE _ fun k hk=>UC h1 hk hs hm;have H:Yd (fun k=>cV k (⟨(jU x0 x1).1.vj,(jU x0 x1).1.dP,(jU x0 x1).1.dN,(sW 1 (jU x0 x1).1).1,(sW 1 (jU x0 x1).1).2.1,(sW 1 (jU x0 x1).1).2.2.1,(sW 1 (jU x0 x1).1).2.2.2⟩:aG) 1) (1+GA (jU x0 x1).1):=Yd.ge (4194304*8) fun k hk=>Hd (by omega) rs (by omega) (by omega);refine Yd.bind (cO hs) (Yd.bind (cE hm) (Yd.bind S ?_));refine Yd.bind (cO hs) (Yd.bind (cE hm) (Yd.bind I (Yd.bind E (Yd.cn rfl (Yd.cn N ?_)))));refine Yd.bind (cO hs) (Yd.bind (ux h0) (Yd.cn rfl (Yd.bind (cE hm) (Yd.bind (gx h1) (Yd.cn rfl ?_)))));refine Yd.bind (Yd.ge (4194304*8) fun k hk=>J2 (by omega) hs (by omega) (by omega)) (Yd.rq (da ca) (Yd.rq (da ca) (Yd.rq (da ca) ?_)));refine Yd.bind (Yd.ge (4194304*8) fun k hk=>uy (by omega) hm (by simp only;omega) (by simp only;omega)) (Yd.rq (da ca) (Yd.rq (da ca) (Yd.rq (da ca) (Yd.rq (da ca) ?_))));refine Yd.cn (dy (by simp only;omega)) (Yd.bind E (Yd.cn rfl (Yd.cn N ?_)));refine Yd.bind (Yd.ge (4194304*8) fun k hk=>uy (by omega) rs (by omega) (by omega)) (Yd.rq (da ca) (Yd.rq (da ca) (Yd.rq (da ca) (Yd.rq (da ca) ?_))));refine Yd.bind H (Yd.cn (dy (by omega)) (Yd.cn (N2 _) ?_));refine Yd.bind (cO hs) (Yd.bind (cE hm) (Yd.bind I (Yd.bind E (Yd.cn rfl (Yd.cn N ?_)))));exact Yd.bind H (Yd.cn (dy (by omega)) (Yd.cn (N2 _) Yd.pure))
end Go.Proofs.YtjkbbdldmdajkaaGreatDoor.Pu
