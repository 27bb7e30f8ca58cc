/- laws.FnExactGateMark, plain. No condition. -/
import Derived.Test.YtljfmaaadnoggaaGreatDoorMw3
namespace Go.Proofs.YtljfmaaadnoggaaGreatDoor.Pu
open Go Go.RowKit Go.Proofs.YtljfmaaadnoggaaGreatDoor.cU Go.Proofs.YtljfmaaadnoggaaGreatDoor.Fn
def sq (w:aL) (b:aG):List Int:=cond (uK w b) (H4 w b) []
theorem Vy {α:Type} {p:α→Bool}:∀ {x:List α} {i:Nat},i+x.length≤1048576→∀ n,n∈idxs p x i→nO .i64 n
 | [],_,_,n,h=>by simp [idxs] at h
 | a::r,i,hi,n,h=>by
  simp only [List.length_cons] at hi
  have ih:=Vy (p:=p) (x:=r) (i:=i+1) (by omega) n
  simp only [idxs] at h
  cases hp:p a with
  | false=>rw [hp] at h;exact ih h
  | true=>
   rw [hp] at h
   simp only [cond_true,List.mem_cons] at h
   rcases h with rfl | h
   ·exact ⟨show (-9223372036854775808:Int)≤i by omega,show (i:Int)≤9223372036854775807 by omega⟩
   ·exact ih h
theorem Pa {w:aL} {b:aG} (hb:b.sd):(sq w b).length≤1048576:=by
 unfold sq H4
 cases uK w b with
 | false=>simp
 | true=>exact Nat.le_trans RY hb.2.2.2.1.1
theorem Yv {w:aL} {b:aG} (hb:b.sd):EJ (nO .i64) (sq w b):=
 ⟨by have:=Pa (w:=w) hb;have:=max_eq;omega,fun n hn=>by
  unfold sq H4 at hn
  cases h:uK w b with
  | false=>rw [h] at hn;simp at hn
  | true=>rw [h] at hn;exact Vy (by have:=hb.2.2.2.1.1;omega) n hn⟩
theorem T2 {k:Nat} {w:aL} {b:aG} (hk:4194304*12≤k) (hw:w.sd) (hb:b.sd):s6 k w b=some (sq w b):=by
 unfold s6 sq
 rw [Qn hk hw hb,Yw (by omega) hw.1.1 hb.2.2.2.1]
 cases uK w b<;>rfl
theorem T3 {k:Nat} {w:aL} {b:aG} (hk:4194304*12≤k) (hw:w.sd) (hb:b.sd):sX k w b=some (sq w b):=by
 unfold sX sq
 rw [H5 hk hw hb,Yx (by omega) hw.1.1 hb.2.2.2.1]
 cases uK w b<;>rfl
theorem RZ {k:Nat} {w:aL} {b:aG} (hk:4194304*12≤k) (hw:w.sd) (hb:b.sd):oK k w b=some (sq w b):=by
 unfold oK sq
 rw [H5 hk hw hb,WR (by omega) hw.1.1 hb.2.2.2.1]
 cases uK w b<;>rfl
theorem Yy (x0:aL) (x1:aG) (h0:x0.ok) (h1:x1.ok):∃ k,iw k x0 x1=some true:=by
 refine Yd.one (F:=fun k=>iw k x0 x1) ?_
 unfold iw
 simp only [share]
 obtain ⟨v,k1,k2,k3⟩:=JL h0 (n:=1048576) (by omega) (by omega)
 refine Yd.bind k1 ?_
 by_cases c:v < 0
 ·exact Yd.cp (mw c) Yd.pure
 refine Yd.cn (fq c) ?_
 have hs:=k3 (by omega)
 obtain ⟨v',l1,l2,l3⟩:=H6 h1 (n:=v) (by omega) (by omega)
 refine Yd.bind l1 ?_
 by_cases c':v' < 0
 ·exact Yd.cp (mw c') Yd.pure
 refine Yd.cn (fq c') ?_
 have hm:=l3 (by omega)
 have hl:=acz hs
 have hbk:=aaB hm
 have lr:=Pa (w:=x0) hm
 have wr:=ab3 (sq x0 x1)
 have E:Yd (fun k=>jY k (sq x0 x1) (sq x0 x1)) true:=FT (Yv hm)
 have M:Yd (fun k=>lh k 1 (sq x0 x1)) (1+gA rP (sq x0 x1),CK rP R0 1 (sq x0 x1)):=Yd.ge (4194304*2) fun k hk=>B5 hk lr (by omega) (by omega)
 have H:Yd (fun k=>lj k (CK rP R0 1 (sq x0 x1)) 1) (1+gA rP (sq x0 x1)):=Yd.ge (4194304*2) fun k hk=>LA hk lr (by omega) (by omega)
 refine Yd.bind (sG hs) (Yd.bind (rl hm) (Yd.bind (Yd.ofE _ fun k hk=>T2 hk hs hm) ?_))
 refine Yd.bind (GH hs) (Yd.bind (Ff hm) (Yd.bind (Yd.ofE _ fun k hk=>RZ hk hs hm) (Yd.bind E (Yd.cn rfl ?_))))
 refine Yd.bind (sG hs) (Yd.bind (JM h0) (Yd.cn rfl (Yd.bind (rl hm) (Yd.bind (H7 h1) (Yd.cn rfl ?_)))))
 refine Yd.bind (Yd.ge (4194304*8) fun k hk=>WS (by omega) hs (by omega) (by omega)) (Yd.rq (yW eL) (Yd.rq (yW eL) (Yd.rq (yW eL) ?_)))
 refine Yd.bind (Yd.ge (4194304*8) fun k hk=>T4 (by omega) hm (by simp only;omega) (by simp only;omega)) (Yd.rq (yW eL) (Yd.rq (yW eL) (Yd.rq (yW eL) (Yd.rq (yW eL) ?_))))
 refine Yd.cn (fq (by simp only;omega)) (Yd.bind E (Yd.cn rfl ?_))
 refine Yd.bind M (Yd.rq (yW eL) (Yd.bind H (Yd.cn (fq (by omega)) (Yd.cn (by rw [Bool.not_eq_false'];exact H8 _) ?_))))
 refine Yd.bind (sG hs) (Yd.bind (rl hm) (Yd.bind (Yd.ofE _ fun k hk=>T3 hk hs hm) (Yd.bind E (Yd.cn rfl ?_))))
 exact Yd.bind H (Yd.cn (fq (by omega)) (Yd.cn (by rw [Bool.not_eq_false'];exact H8 _) Yd.pure))
end Go.Proofs.YtljfmaaadnoggaaGreatDoor.Pu
