/- laws.FnExactGateBound, plain. No condition. -/
import Derived.Test.YtjkbbdldmdajkaaGreatDoorMw3
namespace Go.Proofs.YtjkbbdldmdajkaaGreatDoor.Pu
open Go Go.RowKit Go.Proofs.YtjkbbdldmdajkaaGreatDoor.c_ Go.Proofs.YtjkbbdldmdajkaaGreatDoor.Fn
theorem Xp (x0:aL) (x1:aG) (x2:List UInt8) (x3:List UInt8) (x4:Int) (h0:x0.ok) (h1:x1.ok) (h2:dB x2) (h3:dB x3) (h4:jr .i64 x4):∃ k,iF k x0 x1 x2 x3 x4=some true:=by
 refine Yd.one (F:=fun k=>iF k x0 x1 x2 x3 x4) ?_;unfold iF;simp only [share];by_cases c0:(1048576:Int) < (x2.length:Int)
 ·exact Yd.cp (hY c0) Yd.pure
 refine Yd.cn (dz c0) ?_;by_cases c1:(1048576:Int) < (x3.length:Int)
 ·exact Yd.cp (hY c1) Yd.pure
 refine Yd.cn (dz c1) ?_;obtain ⟨v,k1,k2,k3⟩:=uz h0 (n:=1048576) (by omega) (by omega);refine Yd.bind k1 ?_;by_cases c:v < 0
 ·exact Yd.cp (hY c) Yd.pure
 refine Yd.cn (dz c) ?_;have hs:=k3 (by omega);obtain ⟨v',l1,l2,l3⟩:=sX h1 (n:=v) (by omega) (by omega);refine Yd.bind l1 ?_;by_cases c':v' < 0
 ·exact Yd.cp (hY c') Yd.pure
 refine Yd.cn (dz c') ?_;have hm:=l3 (by omega);have hl:=UB hs;have Zd:=E9 hm;have rs:(fv x0 x1 x2 x3 x4).1.sd:=Xq (show x2.length≤1048576 by omega) (show x3.length≤1048576 by omega) hm;have ro:(fv x0 x1 x2 x3 x4).1.ok:=Xr h2 h3 h4 h1;have hr:=E9 rs;have N:(!bH (fv x0 x1 x2 x3 x4).2 (fv x0 x1 x2 x3 x4).2)=false:=by rw [iy];rfl
 have N2:∀ n:Int,(!bH n n)=false:=fun n=>by rw [iy];rfl
 have E:Yd (fun k=>cm k (fv x0 x1 x2 x3 x4).1 (fv x0 x1 x2 x3 x4).1) true:=gz ro;have S:Yd (fun k=>kX k x0 x1 x2 x3 x4) (LN (fv x0 x1 x2 x3 x4).1 (fv x0 x1 x2 x3 x4).2):=Yd.ofE _ fun k hk=>Sp (show x3.length≤1048576 by omega) hk hs hm;have I:Yd (fun k=>ig k x0 x1 x2 x3 x4) (LN (fv x0 x1 x2 x3 x4).1 (fv x0 x1 x2 x3 x4).2):=Yd.ofE _ fun k hk=>Sq (show x3.length≤1048576 by omega) hk hs hm;have H:Yd (fun k=>cV k (⟨(fv x0 x1 x2 x3 x4).1.vo,(fv x0 x1 x2 x3 x4).1.dR,(fv x0 x1 x2 x3 x4).1.dP,(sY 1 (fv x0 x1 x2 x3 x4).1).1,(sY 1 (fv x0 x1 x2 x3 x4).1).2.1,(sY 1 (fv x0 x1 x2 x3 x4).1).2.2.1,(sY 1 (fv x0 x1 x2 x3 x4).1).2.2.2⟩:aG) 1) (1+GH (fv x0 x1 x2 x3 x4).1):=Yd.ge (4194304*8) fun k hk=>Hi (by omega) rs (by omega) (by omega);refine Yd.bind (cO hs) (Yd.bind (cE hm) (Yd.bind S ?_));refine Yd.bind (cO hs) (Yd.bind (cE hm) (Yd.bind I (Yd.bind E (Yd.cn rfl (Yd.cn N ?_)))));refine Yd.bind (cO hs) (Yd.bind (uA h0) (Yd.cn rfl (Yd.bind (cE hm) (Yd.bind (gz h1) (Yd.cn rfl ?_)))));refine Yd.bind (Yd.ge (4194304*8) fun k hk=>J3 (by omega) hs (by omega) (by omega)) (Yd.rq (da ca) (Yd.rq (da ca) (Yd.rq (da ca) ?_)));refine Yd.bind (Yd.ge (4194304*8) fun k hk=>uB (by omega) hm (by simp only;omega) (by simp only;omega)) (Yd.rq (da ca) (Yd.rq (da ca) (Yd.rq (da ca) (Yd.rq (da ca) ?_))));refine Yd.cn (dz (by simp only;omega)) (Yd.bind E (Yd.cn rfl (Yd.cn N ?_)));refine Yd.bind (Yd.ge (4194304*8) fun k hk=>uB (by omega) rs (by omega) (by omega)) (Yd.rq (da ca) (Yd.rq (da ca) (Yd.rq (da ca) (Yd.rq (da ca) ?_))));refine Yd.bind H (Yd.cn (dz (by omega)) (Yd.cn (N2 _) ?_));refine Yd.bind (cO hs) (Yd.bind (cE hm) (Yd.bind I (Yd.bind E (Yd.cn rfl (Yd.cn N ?_)))));exact Yd.bind H (Yd.cn (dz (by omega)) (Yd.cn (N2 _) Yd.pure))
end Go.Proofs.YtjkbbdldmdajkaaGreatDoor.Pu
