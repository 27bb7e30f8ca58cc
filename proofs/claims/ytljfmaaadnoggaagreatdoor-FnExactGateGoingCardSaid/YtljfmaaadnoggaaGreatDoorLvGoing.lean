/- laws.FnExactGateGoing, plain. No condition. -/
import Derived.Test.YtljfmaaadnoggaaGreatDoorMw3
namespace Go.Proofs.YtljfmaaadnoggaaGreatDoor.Pu
open Go Go.RowKit Go.Proofs.YtljfmaaadnoggaaGreatDoor.cX Go.Proofs.YtljfmaaadnoggaaGreatDoor.Fn
def mX (w:aH) (b:aE):List Int:=cond (mW w b) (goL w b) []
theorem OW {w:aH} {b:aE} (hb:b.sd):(mX w b).length≤1048576:=by
 unfold mX goL
 cases mW w b with
 | false=>simp
 | true=>exact Nat.le_trans OU (by rw [uF sX];exact hb.2.2.2.1.1)
theorem Z0 {w:aH} {b:aE} (hb:b.sd):GN (mn .i64) (mX w b):=
 ⟨by have:=OW (w:=w) hb;have:=max_eq;omega,fun n hn=>by
  unfold mX goL at hn
  cases h:mW w b with
  | false=>rw [h] at hn;simp at hn
  | true=>rw [h] at hn;exact SY (by rw [uF sX];have:=hb.2.2.2.1.1;omega) n hn⟩
theorem UR {k:Nat} {w:aH} {b:aE} (hk:4194304*12≤k) (hw:w.sd) (hb:b.sd):sa k w b=some (mX w b):=by
 unfold sa mX
 rw [Km hk hw hb,S3 (by omega) hb.2.2.2.1.1]
 simp only [Option.bind_some]
 rw [FH (by omega) hw.1.1 hb.2.2.2.1 sX]
 simp only [Option.bind_some]
 rw [Ko (by omega) (by rw [uF sX];exact hb.2.2.2.1.1)]
 cases mW w b<;>rfl
theorem US {k:Nat} {w:aH} {b:aE} (hk:4194304*12≤k) (hw:w.sd) (hb:b.sd):rS k w b=some (mX w b):=by
 unfold rS mX
 rw [yf hk hw hb,adu (by omega) hw.1.1 hb.2.2.2.1]
 cases mW w b<;>rfl
theorem S4 {k:Nat} {w:aH} {b:aE} (hk:4194304*12≤k) (hw:w.sd) (hb:b.sd):oj k w b=some (mX w b):=by
 unfold oj mX
 rw [yf hk hw hb,abp (by omega) hw.1.1 hb.2.2.2.1]
 cases mW w b<;>rfl
theorem Z1 (x0:aH) (x1:aE) (h0:x0.ok) (h1:x1.ok):∃ k,iC k x0 x1=some true:=by
 refine Yd.one (F:=fun k=>iC k x0 x1) ?_
 unfold iC
 simp only [share]
 obtain ⟨v,k1,k2,k3⟩:=Cf h0 (n:=1048576) (by omega) (by omega)
 refine Yd.bind k1 ?_
 by_cases c:v < 0
 ·exact Yd.cp (mB c) Yd.pure
 refine Yd.cn (eh c) ?_
 have hs:=k3 (by omega)
 obtain ⟨v',l1,l2,l3⟩:=AZ h1 (n:=v) (by omega) (by omega)
 refine Yd.bind l1 ?_
 by_cases c':v' < 0
 ·exact Yd.cp (mB c') Yd.pure
 refine Yd.cn (eh c') ?_
 have hm:=l3 (by omega)
 have hl:=abn hs
 have hbk:=YA hm
 have lr:=OW (w:=x0) hm
 have wr:=abo (mX x0 x1)
 have E:Yd (fun k=>eZ k (mX x0 x1) (mX x0 x1)) true:=Bo (Z0 hm)
 have M:Yd (fun k=>g7 k 1 (mX x0 x1)) (1+gI pW (mX x0 x1),Eb pW Q7 1 (mX x0 x1)):=Yd.ge (4194304*2) fun k hk=>wL hk lr (by omega) (by omega)
 have H:Yd (fun k=>fD k (Eb pW Q7 1 (mX x0 x1)) 1) (1+gI pW (mX x0 x1)):=Yd.ge (4194304*2) fun k hk=>Ec hk lr (by omega) (by omega)
 refine Yd.bind (hU hs) (Yd.bind (gg hm) (Yd.bind (Yd.ofE _ fun k hk=>UR hk hs hm) ?_))
 refine Yd.bind (zE hs) (Yd.bind (xS hm) (Yd.bind (Yd.ofE _ fun k hk=>S4 hk hs hm) (Yd.bind E (Yd.cn rfl ?_))))
 refine Yd.bind (hU hs) (Yd.bind (Cg h0) (Yd.cn rfl (Yd.bind (gg hm) (Yd.bind (A0 h1) (Yd.cn rfl ?_)))))
 refine Yd.bind (Yd.ge (4194304*8) fun k hk=>RC (by omega) hs (by omega) (by omega)) (Yd.rq (km dg) (Yd.rq (km dg) (Yd.rq (km dg) ?_)))
 refine Yd.bind (Yd.ge (4194304*8) fun k hk=>OV (by omega) hm (by simp only;omega) (by simp only;omega)) (Yd.rq (km dg) (Yd.rq (km dg) (Yd.rq (km dg) (Yd.rq (km dg) ?_))))
 refine Yd.cn (eh (by simp only;omega)) (Yd.bind E (Yd.cn rfl ?_))
 refine Yd.bind M (Yd.rq (km dg) (Yd.bind H (Yd.cn (eh (by omega)) (Yd.cn (by rw [Bool.not_eq_false'];exact Ch _) ?_))))
 refine Yd.bind (hU hs) (Yd.bind (gg hm) (Yd.bind (Yd.ofE _ fun k hk=>US hk hs hm) (Yd.bind E (Yd.cn rfl ?_))))
 exact Yd.bind H (Yd.cn (eh (by omega)) (Yd.cn (by rw [Bool.not_eq_false'];exact Ch _) Yd.pure))
end Go.Proofs.YtljfmaaadnoggaaGreatDoor.Pu
