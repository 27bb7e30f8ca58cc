/- laws.FnExactGateDraw, plain. No condition. -/
import Derived.Test.YtjkbbdldmdajkaaGreatDoorMw3
namespace Go.Proofs.YtjkbbdldmdajkaaGreatDoor.Pu
open Go Go.RowKit Go.Proofs.YtjkbbdldmdajkaaGreatDoor.c5 Go.Proofs.YtjkbbdldmdajkaaGreatDoor.Fn
theorem YS (x0:aT) (x1:aI) (x2:List UInt8) (x3:List UInt8) (x4:List UInt8) (x5:Int) (h0:x0.ok) (h1:x1.ok) (h2:dC x2) (h3:dC x3) (h4:dC x4) (h5:kA .i64 x5):∃ k,iY k x0 x1 x2 x3 x4 x5=some true:=by
 refine Yd.one (F:=fun k=>iY k x0 x1 x2 x3 x4 x5) ?_;unfold iY;simp only [share];by_cases c0:(1048576:Int) < (x2.length:Int)
 ·exact Yd.cp (kZ c0) Yd.pure
 refine Yd.cn (e9 c0) ?_;by_cases c1:(1048576:Int) < (x3.length:Int)
 ·exact Yd.cp (kZ c1) Yd.pure
 refine Yd.cn (e9 c1) ?_;by_cases c2:(1048576:Int) < (x4.length:Int)
 ·exact Yd.cp (kZ c2) Yd.pure
 refine Yd.cn (e9 c2) ?_;obtain ⟨v,k1,k2,k3⟩:=Jy h0 (n:=1048576) (by omega) (by omega);refine Yd.bind k1 ?_;by_cases c:v < 0
 ·exact Yd.cp (kZ c) Yd.pure
 refine Yd.cn (e9 c) ?_;have hs:=k3 (by omega);obtain ⟨v',l1,l2,l3⟩:=HS h1 (n:=v) (by omega) (by omega);refine Yd.bind l1 ?_;by_cases c':v' < 0
 ·exact Yd.cp (kZ c') Yd.pure
 refine Yd.cn (e9 c') ?_;have hm:=l3 (by omega);have hl:=ac8 hs;have hbk:=VG hm;have rs:(jD x0 x1 x2 x3 x4 x5).1.sd:=YT (show x2.length≤1048576 by omega) (show x3.length≤1048576 by omega) (show x4.length≤1048576 by omega) hm;have ro:(jD x0 x1 x2 x3 x4 x5).1.ok:=YU h2 h3 h4 h5 h1;have hr:=VG rs;have N:(!bI (jD x0 x1 x2 x3 x4 x5).2 (jD x0 x1 x2 x3 x4 x5).2)=false:=by rw [ph];rfl
 have N2:∀ n:Int,(!bI n n)=false:=fun n=>by rw [ph];rfl
 have E:Yd (fun k=>eY k (jD x0 x1 x2 x3 x4 x5).1 (jD x0 x1 x2 x3 x4 x5).1) true:=zd ro;have S:Yd (fun k=>l_ k x0 x1 x2 x3 x4 x5) (aaY (jD x0 x1 x2 x3 x4 x5).1 (jD x0 x1 x2 x3 x4 x5).2):=Yd.ofE _ fun k hk=>T9 hk hs hm (show x2.length≤1048576 by omega);have I:Yd (fun k=>iG k x0 x1 x2 x3 x4 x5) (aaY (jD x0 x1 x2 x3 x4 x5).1 (jD x0 x1 x2 x3 x4 x5).2):=Yd.ofE _ fun k hk=>T_ hk hs hm h1 (show x2.length≤1048576 by omega);have H:Yd (fun k=>gb k (⟨(jD x0 x1 x2 x3 x4 x5).1.zR,(jD x0 x1 x2 x3 x4 x5).1.ix,(jD x0 x1 x2 x3 x4 x5).1.fX,(DF 1 (jD x0 x1 x2 x3 x4 x5).1).1,(DF 1 (jD x0 x1 x2 x3 x4 x5).1).2.1,(DF 1 (jD x0 x1 x2 x3 x4 x5).1).2.2.1,(DF 1 (jD x0 x1 x2 x3 x4 x5).1).2.2.2⟩:aI) 1) (1+Ky (jD x0 x1 x2 x3 x4 x5).1):=Yd.ge (4194304*8) fun k hk=>Ua (by omega) rs (by omega) (by omega);refine Yd.bind (lP hs) (Yd.bind (j8 hm) (Yd.bind S ?_));refine Yd.bind (lP hs) (Yd.bind (j8 hm) (Yd.bind I (Yd.bind E (Yd.cn rfl (Yd.cn N ?_)))));refine Yd.bind (lP hs) (Yd.bind (Jz h0) (Yd.cn rfl (Yd.bind (j8 hm) (Yd.bind (zd h1) (Yd.cn rfl ?_)))));refine Yd.bind (Yd.ge (4194304*8) fun k hk=>W7 (by omega) hs (by omega) (by omega)) (Yd.rq (pY dr) (Yd.rq (pY dr) (Yd.rq (pY dr) ?_)));refine Yd.bind (Yd.ge (4194304*8) fun k hk=>Mi (by omega) hm (by simp only;omega) (by simp only;omega)) (Yd.rq (pY dr) (Yd.rq (pY dr) (Yd.rq (pY dr) (Yd.rq (pY dr) ?_))));refine Yd.cn (e9 (by simp only;omega)) (Yd.bind E (Yd.cn rfl (Yd.cn N ?_)));refine Yd.bind (Yd.ge (4194304*8) fun k hk=>Mi (by omega) rs (by omega) (by omega)) (Yd.rq (pY dr) (Yd.rq (pY dr) (Yd.rq (pY dr) (Yd.rq (pY dr) ?_))));refine Yd.bind H (Yd.cn (e9 (by omega)) (Yd.cn (N2 _) ?_));refine Yd.bind (lP hs) (Yd.bind (j8 hm) (Yd.bind I (Yd.bind E (Yd.cn rfl (Yd.cn N ?_)))));exact Yd.bind H (Yd.cn (e9 (by omega)) (Yd.cn (N2 _) Yd.pure))
end Go.Proofs.YtjkbbdldmdajkaaGreatDoor.Pu
