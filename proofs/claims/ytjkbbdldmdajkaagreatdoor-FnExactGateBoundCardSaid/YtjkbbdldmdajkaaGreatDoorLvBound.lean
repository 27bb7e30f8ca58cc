/- laws.FnExactGateBound, plain. No condition. -/
import Derived.Test.YtjkbbdldmdajkaaGreatDoorMw3
namespace Go.Proofs.YtjkbbdldmdajkaaGreatDoor.Pu
open Go Go.RowKit Go.Proofs.YtjkbbdldmdajkaaGreatDoor.c_ Go.Proofs.YtjkbbdldmdajkaaGreatDoor.Fn
theorem Xm (x0:aL) (x1:aG) (x2:List UInt8) (x3:List UInt8) (x4:Int) (h0:x0.ok) (h1:x1.ok) (h2:dA x2) (h3:dA x3) (h4:jr .i64 x4):∃ k,iE k x0 x1 x2 x3 x4=some true:=by
 refine Yd.one (F:=fun k=>iE k x0 x1 x2 x3 x4) ?_;unfold iE;simp only [share];by_cases c0:(1048576:Int) < (x2.length:Int)
 ·exact Yd.cp (hJ c0) Yd.pure
 refine Yd.cn (dy c0) ?_;by_cases c1:(1048576:Int) < (x3.length:Int)
 ·exact Yd.cp (hJ c1) Yd.pure
 refine Yd.cn (dy c1) ?_;obtain ⟨v,k1,k2,k3⟩:=uw h0 (n:=1048576) (by omega) (by omega);refine Yd.bind k1 ?_;by_cases c:v < 0
 ·exact Yd.cp (hJ c) Yd.pure
 refine Yd.cn (dy c) ?_;have hs:=k3 (by omega);obtain ⟨v',l1,l2,l3⟩:=sV h1 (n:=v) (by omega) (by omega);refine Yd.bind l1 ?_;by_cases c':v' < 0
 ·exact Yd.cp (hJ c') Yd.pure
 refine Yd.cn (dy c') ?_;have hm:=l3 (by omega);have hl:=Uy hs;have Y_:=E3 hm;have rs:(fq x0 x1 x2 x3 x4).1.sd:=Xn (show x2.length≤1048576 by omega) (show x3.length≤1048576 by omega) hm;have ro:(fq x0 x1 x2 x3 x4).1.ok:=Xo h2 h3 h4 h1;have hr:=E3 rs;have N:(!bH (fq x0 x1 x2 x3 x4).2 (fq x0 x1 x2 x3 x4).2)=false:=by rw [iw];rfl
 have N2:∀ n:Int,(!bH n n)=false:=fun n=>by rw [iw];rfl
 have E:Yd (fun k=>cm k (fq x0 x1 x2 x3 x4).1 (fq x0 x1 x2 x3 x4).1) true:=gx ro;have S:Yd (fun k=>kW k x0 x1 x2 x3 x4) (LM (fq x0 x1 x2 x3 x4).1 (fq x0 x1 x2 x3 x4).2):=Yd.ofE _ fun k hk=>Sm (show x3.length≤1048576 by omega) hk hs hm;have I:Yd (fun k=>ie k x0 x1 x2 x3 x4) (LM (fq x0 x1 x2 x3 x4).1 (fq x0 x1 x2 x3 x4).2):=Yd.ofE _ fun k hk=>Sn (show x3.length≤1048576 by omega) hk hs hm;have H:Yd (fun k=>cV k (⟨(fq x0 x1 x2 x3 x4).1.vj,(fq x0 x1 x2 x3 x4).1.dP,(fq x0 x1 x2 x3 x4).1.dN,(sW 1 (fq x0 x1 x2 x3 x4).1).1,(sW 1 (fq x0 x1 x2 x3 x4).1).2.1,(sW 1 (fq x0 x1 x2 x3 x4).1).2.2.1,(sW 1 (fq x0 x1 x2 x3 x4).1).2.2.2⟩:aG) 1) (1+GA (fq x0 x1 x2 x3 x4).1):=Yd.ge (4194304*8) fun k hk=>Hd (by omega) rs (by omega) (by omega);refine Yd.bind (cO hs) (Yd.bind (cE hm) (Yd.bind S ?_));refine Yd.bind (cO hs) (Yd.bind (cE hm) (Yd.bind I (Yd.bind E (Yd.cn rfl (Yd.cn N ?_)))));refine Yd.bind (cO hs) (Yd.bind (ux h0) (Yd.cn rfl (Yd.bind (cE hm) (Yd.bind (gx h1) (Yd.cn rfl ?_)))));refine Yd.bind (Yd.ge (4194304*8) fun k hk=>J2 (by omega) hs (by omega) (by omega)) (Yd.rq (da ca) (Yd.rq (da ca) (Yd.rq (da ca) ?_)));refine Yd.bind (Yd.ge (4194304*8) fun k hk=>uy (by omega) hm (by simp only;omega) (by simp only;omega)) (Yd.rq (da ca) (Yd.rq (da ca) (Yd.rq (da ca) (Yd.rq (da ca) ?_))));refine Yd.cn (dy (by simp only;omega)) (Yd.bind E (Yd.cn rfl (Yd.cn N ?_)));refine Yd.bind (Yd.ge (4194304*8) fun k hk=>uy (by omega) rs (by omega) (by omega)) (Yd.rq (da ca) (Yd.rq (da ca) (Yd.rq (da ca) (Yd.rq (da ca) ?_))));refine Yd.bind H (Yd.cn (dy (by omega)) (Yd.cn (N2 _) ?_));refine Yd.bind (cO hs) (Yd.bind (cE hm) (Yd.bind I (Yd.bind E (Yd.cn rfl (Yd.cn N ?_)))));exact Yd.bind H (Yd.cn (dy (by omega)) (Yd.cn (N2 _) Yd.pure))
end Go.Proofs.YtjkbbdldmdajkaaGreatDoor.Pu
