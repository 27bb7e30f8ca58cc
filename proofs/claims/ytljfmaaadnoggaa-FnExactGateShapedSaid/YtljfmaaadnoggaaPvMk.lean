/- The laws' marks on data. No condition. -/
import Derived.Test.YtljfmaaadnoggaaPvM
import Derived.Test.YtljfmaaadnoggaaPvSz
namespace Go.Proofs.Ytljfmaaadnoggaa.Pu
open Go Go.RowKit Go.Proofs.Ytljfmaaadnoggaa.Abs Go.Proofs.Ytljfmaaadnoggaa.Fn
theorem ilt_self {n:Int}:ilt n n=false:=by simp [ilt]
theorem ieq3:(!ieq (3:Int) (0:Int))=true:=by decide
def wStr (_:List UInt8):Int:=1
def gStr (m:Int) (_:List UInt8):List UInt8:=mkT m
theorem wStr_nn (x:List UInt8):0≤wStr x:=by unfold wStr;omega
theorem laws_markStringS_e {k:Nat} {m:Int} {xs:List (List UInt8)} (hk:4194304*2≤k) (hx:xs.length≤1048576) (h0:0≤m) (hm:m+mkW wStr xs≤4611686018427387904):laws_markStringS k m xs=some (m+mkW wStr xs,mkL wStr gStr m xs):=by
 unfold laws_markStringS
 simp only [share]
 have hl:=hx
 refine mark_loop (R:=Option (Int×(List (List UInt8)))) (p:=fun _=>True) (w:=wStr) (g:=gStr) (B:=4194304*1) (l:=fun k m i o=>iter (ts:=laws_markStringS_L2_ts) (R:=Int×(List (List UInt8))) k (laws_markStringS_L2 fun a b=>some (a,b)) m i o) (J:=fun a b=>some (a,b)) wStr_nn (fun k m o=>?_) (fun k m pre x r hp hB hq h0 hm=>?_) xs [] m k (fun _ _=>trivial) (by omega) (by simp;omega) h0 hm
 ·simp only [iter,laws_markStringS_L2,ilt_self,cond_false]
 ·unfold wStr at hm
  simp (discharger:=first | assumption | omega) only [iter,laws_markStringS_L2,ilt_mid,inb_mid,nth_mid,mod_mid,put_mid,cond_true,cond_false,markText_e,iadd1,iadd_pre hq,Option.bind_some,mkL_len,leq_rfl,mreq_t,ieq3]
  rw [show m+wStr x=m+1 by unfold wStr;omega]
  rfl
def wGateField (x:GateField):Int:=10+mkW wStr x.Words
def gGateField (m:Int) (x:GateField):GateField:=(⟨mkT (m),m+1,m+1+1,m+1+1+1,mkL wStr gStr (m+1+1+1+1) x.Words,mkT (m+1+1+1+1+mkW wStr x.Words),m+1+1+1+1+mkW wStr x.Words+1,ieq (irem (m+1+1+1+1+mkW wStr x.Words+1+1) (3:Int)) (0:Int),ieq (irem (m+1+1+1+1+mkW wStr x.Words+1+1+1) (3:Int)) (0:Int),mkT (m+1+1+1+1+mkW wStr x.Words+1+1+1+1),mkT (m+1+1+1+1+mkW wStr x.Words+1+1+1+1+1)⟩:GateField)
theorem wGateField_nn (x:GateField):0≤wGateField x:=by
 unfold wGateField
 have h0:=mkW_nn wStr_nn x.Words
 omega
theorem laws_markGateFieldS_e {k:Nat} {m:Int} {xs:List GateField} (hk:4194304*3≤k) (hx:sdS GateField.sd xs) (h0:0≤m) (hm:m+mkW wGateField xs≤4611686018427387904):laws_markGateFieldS k m xs=some (m+mkW wGateField xs,mkL wGateField gGateField m xs):=by
 unfold laws_markGateFieldS
 simp only [share]
 have hl:=hx.1
 refine mark_loop (R:=Option (Int×(List GateField))) (p:=GateField.sd) (w:=wGateField) (g:=gGateField) (B:=4194304*2) (l:=fun k m i o=>iter (ts:=laws_markGateFieldS_L2_ts) (R:=Int×(List GateField)) k (laws_markGateFieldS_L2 fun a b=>some (a,b)) m i o) (J:=fun a b=>some (a,b)) wGateField_nn (fun k m o=>?_) (fun k m pre x r hp hB hq h0 hm=>?_) xs [] m k hx.2 (by omega) (by simp;omega) h0 hm
 ·simp only [iter,laws_markGateFieldS_L2,ilt_self,cond_false]
 ·unfold wGateField at hm
  have hs0:=hp.2.2.2.2.1.1
  have hn0:=mkW_nn wStr_nn x.Words
  simp (discharger:=first | assumption | omega) only [iter,laws_markGateFieldS_L2,ilt_mid,inb_mid,nth_mid,mod_mid,put_mid,cond_true,cond_false,markText_e,iadd1,iadd_pre hq,Option.bind_some,mkL_len,leq_rfl,mreq_t,ieq3,laws_markStringS_e]
  rw [show m+wGateField x=m+1+1+1+1+mkW wStr x.Words+1+1+1+1+1+1 by unfold wGateField;omega]
  rfl
def wGateShape (x:GateShape):Int:=1+mkW wGateField x.Fields
def gGateShape (m:Int) (x:GateShape):GateShape:=(⟨mkT (m),mkL wGateField gGateField (m+1) x.Fields⟩:GateShape)
theorem wGateShape_nn (x:GateShape):0≤wGateShape x:=by
 unfold wGateShape
 have h0:=mkW_nn wGateField_nn x.Fields
 omega
theorem laws_markGateShapeS_e {k:Nat} {m:Int} {xs:List GateShape} (hk:4194304*4≤k) (hx:sdS GateShape.sd xs) (h0:0≤m) (hm:m+mkW wGateShape xs≤4611686018427387904):laws_markGateShapeS k m xs=some (m+mkW wGateShape xs,mkL wGateShape gGateShape m xs):=by
 unfold laws_markGateShapeS
 simp only [share]
 have hl:=hx.1
 refine mark_loop (R:=Option (Int×(List GateShape))) (p:=GateShape.sd) (w:=wGateShape) (g:=gGateShape) (B:=4194304*3) (l:=fun k m i o=>iter (ts:=laws_markGateShapeS_L2_ts) (R:=Int×(List GateShape)) k (laws_markGateShapeS_L2 fun a b=>some (a,b)) m i o) (J:=fun a b=>some (a,b)) wGateShape_nn (fun k m o=>?_) (fun k m pre x r hp hB hq h0 hm=>?_) xs [] m k hx.2 (by omega) (by simp;omega) h0 hm
 ·simp only [iter,laws_markGateShapeS_L2,ilt_self,cond_false]
 ·unfold wGateShape at hm
  have hs0:=hp.2
  have hn0:=mkW_nn wGateField_nn x.Fields
  simp (discharger:=first | assumption | omega) only [iter,laws_markGateShapeS_L2,ilt_mid,inb_mid,nth_mid,mod_mid,put_mid,cond_true,cond_false,markText_e,iadd1,iadd_pre hq,Option.bind_some,mkL_len,leq_rfl,mreq_t,ieq3,laws_markGateFieldS_e]
  rw [show m+wGateShape x=m+1+mkW wGateField x.Fields by unfold wGateShape;omega]
  rfl
theorem laws_heldStringS_e {k:Nat} {m:Int} {xs:List (List UInt8)} (hk:4194304*2≤k) (hx:xs.length≤1048576) (h0:0≤m) (hm:m+mkW wStr xs≤4611686018427387904):laws_heldStringS k (mkL wStr gStr m xs) m=some (m+mkW wStr xs):=by
 unfold laws_heldStringS
 simp only [share]
 have hl:=hx
 refine held_loop (R:=Option (Int)) (p:=fun _=>True) (w:=wStr) (g:=gStr) (B:=4194304*1) (l:=fun k o m i=>iter (ts:=laws_heldStringS_L2_ts) (R:=Int) k (laws_heldStringS_L2 fun a=>some a) o m i) (J:=fun a=>some a) wStr_nn (fun k m o=>?_) (fun k m pre x r hp hB hq h0 hm=>?_) xs [] m k (fun _ _=>trivial) (by omega) (by simp;omega) h0 hm
 ·simp only [iter,laws_heldStringS_L2,ilt_self,cond_false]
 ·unfold wStr at hm
  rw [show m+wStr x=m+1 by unfold wStr;omega]
  simp (discharger:=first | assumption | omega) only [iter,laws_heldStringS_L2,ilt_mid,inb_mid,nth_mid,mod_mid,put_mid,cond_true,cond_false,markText_e,iadd1,iadd_pre hq,Option.bind_some,mkL_len,leq_rfl,mreq_t,ieq3,seq_self,ieq_self,beq_self,Bool.not_true,ilt0_f,gStr]<;>rfl
def wGateMend (x:GateMend):Int:=6
def gGateMend (m:Int) (x:GateMend):GateMend:=(⟨mkT (m),mkT (m+1),mkT (m+1+1),mkT (m+1+1+1),mkT (m+1+1+1+1),mkT (m+1+1+1+1+1)⟩:GateMend)
theorem wGateMend_nn (x:GateMend):0≤wGateMend x:=by
 unfold wGateMend
 omega
theorem laws_markGateMendS_e {k:Nat} {m:Int} {xs:List GateMend} (hk:4194304*2≤k) (hx:sdS GateMend.sd xs) (h0:0≤m) (hm:m+mkW wGateMend xs≤4611686018427387904):laws_markGateMendS k m xs=some (m+mkW wGateMend xs,mkL wGateMend gGateMend m xs):=by
 unfold laws_markGateMendS
 simp only [share]
 have hl:=hx.1
 refine mark_loop (R:=Option (Int×(List GateMend))) (p:=GateMend.sd) (w:=wGateMend) (g:=gGateMend) (B:=4194304*1) (l:=fun k m i o=>iter (ts:=laws_markGateMendS_L2_ts) (R:=Int×(List GateMend)) k (laws_markGateMendS_L2 fun a b=>some (a,b)) m i o) (J:=fun a b=>some (a,b)) wGateMend_nn (fun k m o=>?_) (fun k m pre x r hp hB hq h0 hm=>?_) xs [] m k hx.2 (by omega) (by simp;omega) h0 hm
 ·simp only [iter,laws_markGateMendS_L2,ilt_self,cond_false]
 ·unfold wGateMend at hm
  simp (discharger:=first | assumption | omega) only [iter,laws_markGateMendS_L2,ilt_mid,inb_mid,nth_mid,mod_mid,put_mid,cond_true,cond_false,markText_e,iadd1,iadd_pre hq,Option.bind_some,mkL_len,leq_rfl,mreq_t,ieq3]
  rw [show m+wGateMend x=m+1+1+1+1+1+1 by unfold wGateMend;omega]
  rfl
end Go.Proofs.Ytljfmaaadnoggaa.Pu
