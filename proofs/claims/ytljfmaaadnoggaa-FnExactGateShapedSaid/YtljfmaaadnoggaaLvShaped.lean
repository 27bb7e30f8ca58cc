/- laws.FnExactGateShaped, plain. No condition. -/
import Derived.Test.YtljfmaaadnoggaaMw3
namespace Go.Proofs.Ytljfmaaadnoggaa.Pu
open Go Go.RowKit Go.Proofs.Ytljfmaaadnoggaa.Abs Go.Proofs.Ytljfmaaadnoggaa.Fn
def shapedR (xs:List GateShape) (ms:List GateMend) (o:GateObject):GateObject:=cond (mendsOk xs ms) (shapedO xs ms o) o
theorem shapedR_len {xs:List GateShape} {ms:List GateMend} {o:GateObject} (h:lenO o):lenO (shapedR xs ms o):=by
 unfold shapedR
 cases mendsOk xs ms with
 | true=>exact mendO_lenO (fillO_lenO h)
 | false=>exact h
theorem specGateShaped_e {k:Nat} {xs:List GateShape} {ms:List GateMend} {o:GateObject} (hk:4194304*8≤k) (hx:sdS GateShape.sd xs) (hm:sdS GateMend.sd ms) (ho:lenO o):spec_GateShaped k xs ms o=some (shapedR xs ms o):=by
 unfold spec_GateShaped shapedR
 rw [specMendsOk_e (by omega) hx hm,l2Copy_e ho]
 cases hok:mendsOk xs ms with
 | false=>rfl
 | true=>
  simp only [Option.bind_some,Bool.not_true,cond_false]
  rw [specShaped_e (by omega) hx.1 ho hok]
  rfl
theorem shaped_law (x0:List GateShape) (xm:List GateMend) (x1:GateObject) (h0:okS GateShape.ok x0) (hm:okS GateMend.ok xm) (h1:GateObject.ok x1):∃ k,laws_FnExactGateShaped k x0 xm x1=some true:=by
 refine Yd.one (F:=fun k=>laws_FnExactGateShaped k x0 xm x1) ?_
 unfold laws_FnExactGateShaped
 simp only [share]
 obtain ⟨v,k1,k2,k3⟩:=laws_szGateShapeS_y h0 (n:=1048576) (by omega) (by omega)
 refine Yd.bind k1 ?_
 by_cases c:v < 0
 ·exact Yd.cp (ilt_t c) Yd.pure
 refine Yd.cn (ilt_f c) ?_
 have s0:=k3 (by omega)
 obtain ⟨vm,m1,m2,m3⟩:=laws_szGateMendS_y hm (n:=v) (by omega) (by omega)
 refine Yd.bind m1 ?_
 by_cases cm:vm < 0
 ·exact Yd.cp (ilt_t cm) Yd.pure
 refine Yd.cn (ilt_f cm) ?_
 have sm:=m3 (by omega)
 have hwm:=wMends sm
 obtain ⟨v',q1,q2,q3⟩:=laws_szGateObject_y h1 (n:=vm) (by omega) (by omega)
 refine Yd.bind q1 ?_
 by_cases c':v' < 0
 ·exact Yd.cp (ilt_t c') Yd.pure
 refine Yd.cn (ilt_f c') ?_
 have s1:=q3 (by omega)
 have l1:=lenO_sd s1
 have lr:=shapedR_len (xs:=x0) (ms:=xm) l1
 have hw:=wShapes s0
 have hv:=wStr_sum x1.Values
 have hh:=wStr_sum x1.Holds
 have l11:=l1.1
 have l12:=l1.2
 have E:Yd (fun k=>impl_GateShaped_2 k x0 xm x1) (tupO (shapedR x0 xm x1)):=Yd.ge (4194304*8) fun k hk=>implShaped2_e (by omega) s0 sm l1
 have E1:Yd (fun k=>impl_GateShaped k x0 xm x1) (shapedR x0 xm x1):=Yd.ge (4194304*8) fun k hk=>implShaped_e (by omega) s0 sm l1
 refine Yd.bind (laws_toGateShapeS_y s0) (Yd.bind (laws_toGateMendS_y sm) (Yd.bind (laws_toGateObject_y s1) (Yd.bind (Yd.ge (a:=shapedR x0 xm x1) (4194304*8) fun k hk=>specGateShaped_e hk s0 sm l1) ?_)))
 refine Yd.bind (laws_toGateShapeS_2_y s0) (Yd.bind (laws_toGateMendS_2_y sm) (Yd.bind (laws_toGateObject_2_y s1) (Yd.bind E ?_)))
 refine Yd.bind (eqObj_len lr) (Yd.cn rfl ?_)
 refine Yd.bind (laws_toGateShapeS_y s0) (Yd.bind (laws_eqGateShapeS_y h0) (Yd.cn rfl ?_))
 refine Yd.bind (laws_toGateMendS_y sm) (Yd.bind (laws_eqGateMendS_y hm) (Yd.cn rfl ?_))
 refine Yd.bind (laws_toGateObject_y s1) (Yd.bind (laws_eqGateObject_y h1) (Yd.cn rfl ?_))
 refine Yd.bind (Yd.ge (4194304*8) fun k hk=>laws_markGateShapeS_e (by omega) s0 (by omega) (by omega)) (Yd.rq (leq_len mkL_len) ?_)
 refine Yd.bind (Yd.ge (4194304*8) fun k hk=>laws_markGateMendS_e (by omega) sm (by omega) (by omega)) (Yd.rq (leq_len mkL_len) ?_)
 refine Yd.bind (Yd.ge (4194304*8) fun k hk=>markObj_e (by omega) l1.1 l1.2 (by omega) (by omega)) (Yd.rq (leq_len mkL_len) (Yd.rq (leq_len mkL_len) ?_))
 refine Yd.cn (ilt_f (by simp only;omega)) (Yd.bind (eqObj_len lr) (Yd.cn rfl ?_))
 refine Yd.bind (Yd.ge (4194304*8) fun k hk=>markObj_e (by omega) lr.1 lr.2 (by omega) (by omega)) (Yd.rq (leq_len mkL_len) (Yd.rq (leq_len mkL_len) ?_))
 have nv:=wStr_sum (shapedR x0 xm x1).Values
 have nh:=wStr_sum (shapedR x0 xm x1).Holds
 have H:=fun k (hk:4194304*8≤k)=>heldObj_e (k:=k) (m:=1) (a:=(shapedR x0 xm x1).Kind) (b:=(shapedR x0 xm x1).Name) (c:=(shapedR x0 xm x1).Team) (e:=(shapedR x0 xm x1).Ending) (v:=(shapedR x0 xm x1).Version) (by omega) lr.1 lr.2 (by omega) (by omega)
 refine Yd.bind (Yd.ge (4194304*8) H) (Yd.cn (ilt_f (by omega)) (Yd.cn (by rw [Bool.not_eq_false'];exact ieq_self _) ?_))
 refine Yd.bind (laws_toGateShapeS_y s0) (Yd.bind (laws_toGateMendS_y sm) (Yd.bind (laws_toGateObject_y s1) (Yd.bind E1 ?_)))
 refine Yd.bind (eqObj_len lr) (Yd.cn rfl ?_)
 exact Yd.bind (Yd.ge (4194304*8) H) (Yd.cn (ilt_f (by omega)) (Yd.cn (by rw [Bool.not_eq_false'];exact ieq_self _) Yd.pure))
end Go.Proofs.Ytljfmaaadnoggaa.Pu
