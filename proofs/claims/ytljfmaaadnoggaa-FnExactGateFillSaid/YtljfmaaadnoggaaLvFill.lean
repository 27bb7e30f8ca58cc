/- laws.FnExactGateFill, plain. No condition. -/
import Derived.Test.YtljfmaaadnoggaaMw3
namespace Go.Proofs.Ytljfmaaadnoggaa.Pu
open Go Go.RowKit Go.Proofs.Ytljfmaaadnoggaa.Abs Go.Proofs.Ytljfmaaadnoggaa.Fn
def fillR (xs:List GateShape) (o:GateObject):GateObject:=cond (shapesOk xs) (fillO xs o) o
theorem fillR_len {xs:List GateShape} {o:GateObject} (h:lenO o):lenO (fillR xs o):=by
 unfold fillR
 cases shapesOk xs with
 | true=>exact fillO_lenO h
 | false=>exact h
theorem specGateFill_e {k:Nat} {xs:List GateShape} {o:GateObject} (hk:4194304*8≤k) (hx:sdS GateShape.sd xs) (ho:lenO o):spec_GateFill k xs o=some (fillR xs o):=by
 unfold spec_GateFill fillR
 rw [specShapesOk_e hx (by omega),l2Copy_e ho,specL2Fill_e (by omega) hx.1 ho]
 cases shapesOk xs<;>rfl
theorem fill_law (x0:List GateShape) (x1:GateObject) (h0:okS GateShape.ok x0) (h1:GateObject.ok x1):∃ k,laws_FnExactGateFill k x0 x1=some true:=by
 refine Yd.one (F:=fun k=>laws_FnExactGateFill k x0 x1) ?_
 unfold laws_FnExactGateFill
 simp only [share]
 obtain ⟨v,k1,k2,k3⟩:=laws_szGateShapeS_y h0 (n:=1048576) (by omega) (by omega)
 refine Yd.bind k1 ?_
 by_cases c:v < 0
 ·exact Yd.cp (ilt_t c) Yd.pure
 refine Yd.cn (ilt_f c) ?_
 have s0:=k3 (by omega)
 obtain ⟨v',q1,q2,q3⟩:=laws_szGateObject_y h1 (n:=v) (by omega) (by omega)
 refine Yd.bind q1 ?_
 by_cases c':v' < 0
 ·exact Yd.cp (ilt_t c') Yd.pure
 refine Yd.cn (ilt_f c') ?_
 have s1:=q3 (by omega)
 have l1:=lenO_sd s1
 have lr:=fillR_len (xs:=x0) l1
 have hw:=wShapes s0
 have hv:=wStr_sum x1.Values
 have hh:=wStr_sum x1.Holds
 have l11:=l1.1
 have l12:=l1.2
 have E:Yd (fun k=>impl_GateFill_2 k x0 x1) (tupO (fillR x0 x1)):=Yd.ge (4194304*8) fun k hk=>implFill2_e (by omega) s0 l1
 have E1:Yd (fun k=>impl_GateFill k x0 x1) (fillR x0 x1):=Yd.ge (4194304*8) fun k hk=>implFill_e (by omega) s0 l1
 refine Yd.bind (laws_toGateShapeS_y s0) (Yd.bind (laws_toGateObject_y s1) (Yd.bind (Yd.ge (a:=fillR x0 x1) (4194304*8) fun k hk=>specGateFill_e hk s0 l1) ?_))
 refine Yd.bind (laws_toGateShapeS_2_y s0) (Yd.bind (laws_toGateObject_2_y s1) (Yd.bind E ?_))
 refine Yd.bind (eqObj_len lr) (Yd.cn rfl ?_)
 refine Yd.bind (laws_toGateShapeS_y s0) (Yd.bind (laws_eqGateShapeS_y h0) (Yd.cn rfl ?_))
 refine Yd.bind (laws_toGateObject_y s1) (Yd.bind (laws_eqGateObject_y h1) (Yd.cn rfl ?_))
 refine Yd.bind (Yd.ge (4194304*8) fun k hk=>laws_markGateShapeS_e (by omega) s0 (by omega) (by omega)) (Yd.rq (leq_len mkL_len) ?_)
 refine Yd.bind (Yd.ge (4194304*8) fun k hk=>markObj_e (by omega) l1.1 l1.2 (by omega) (by omega)) (Yd.rq (leq_len mkL_len) (Yd.rq (leq_len mkL_len) ?_))
 refine Yd.cn (ilt_f (by simp only;omega)) (Yd.bind (eqObj_len lr) (Yd.cn rfl ?_))
 refine Yd.bind (Yd.ge (4194304*8) fun k hk=>markObj_e (by omega) lr.1 lr.2 (by omega) (by omega)) (Yd.rq (leq_len mkL_len) (Yd.rq (leq_len mkL_len) ?_))
 have nv:=wStr_sum (fillR x0 x1).Values
 have nh:=wStr_sum (fillR x0 x1).Holds
 have H:=fun k (hk:4194304*8≤k)=>heldObj_e (k:=k) (m:=1) (a:=(fillR x0 x1).Kind) (b:=(fillR x0 x1).Name) (c:=(fillR x0 x1).Team) (e:=(fillR x0 x1).Ending) (v:=(fillR x0 x1).Version) (by omega) lr.1 lr.2 (by omega) (by omega)
 refine Yd.bind (Yd.ge (4194304*8) H) (Yd.cn (ilt_f (by omega)) (Yd.cn (by rw [Bool.not_eq_false'];exact ieq_self _) ?_))
 refine Yd.bind (laws_toGateShapeS_y s0) (Yd.bind (laws_toGateObject_y s1) (Yd.bind E1 ?_))
 refine Yd.bind (eqObj_len lr) (Yd.cn rfl ?_)
 exact Yd.bind (Yd.ge (4194304*8) H) (Yd.cn (ilt_f (by omega)) (Yd.cn (by rw [Bool.not_eq_false'];exact ieq_self _) Yd.pure))
end Go.Proofs.Ytljfmaaadnoggaa.Pu
