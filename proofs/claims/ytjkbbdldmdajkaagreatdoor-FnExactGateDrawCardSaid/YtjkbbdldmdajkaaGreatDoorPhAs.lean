/- errors.As at a pointer to a *fault, after the worked proof Toyas. No condition. -/
import Derived.Test.YtjkbbdldmdajkaaGreatDoorProg
import Derived.WalkKit
import Derived.LaidEql
import Derived.Stop.Asserts
import Derived.RowKitTokens
namespace Go.Proofs.YtjkbbdldmdajkaaGreatDoor
open Go.RowKit Go.Extern.Stop Go.Stop Go.Extern
theorem agI (t:Value) (w:World):
  Calls Tryz.prog 221 #[.nilIface,t] w fun e w'=>e=.returned (.bool false)∧w'=w:=by
 go_enter Tryz.func221,Tryz.ntmps221
 go_wp2
 go_ret
 exact ⟨rfl,rfl⟩
theorem Tryz.Xw (t:Addr) (w:World):(ReflectliteValue.unpack (.iface 267 (.pointer (some t)))).run Tryz.prog w
  = .ok (.agg #[.pointer (some ⟨1,267,none⟩),.pointer (some ⟨w.heap.size,0,none⟩),.int .u64 150]) (w.alloc (.cells #[.pointer (some t)] 267)):=by kernel_rfl
theorem Tryz.type27 (a:Addr) (w:World):(ReflectliteValue.methodAny (ReflectliteValue.valueError "reflectlite.Value.Type" 0) (fun t _ _ _=>ReflectliteType.toType t) #[.agg #[.pointer (some ⟨1,267,none⟩),.pointer (some a),.int .u64 150]]).run Tryz.prog w
  = .ok (.iface 296 (.agg #[.pointer (some ⟨1,267,none⟩)])) w:=by kernel_rfl
theorem Tryz.UC (h:Value) (w:World):(Go.method 439 296 (.agg #[h]) "Kind").run Tryz.prog w=.ok (251,h) w:=by kernel_rfl
theorem Tryz.adA (w:World):((ReflectliteType.abiMethod fun t=>(fun a:Nat=>Value.int IntKind.u8 (a:Int)) <$> Rtype.kind t) #[.pointer (some ⟨1,267,none⟩)]).run Tryz.prog w=.ok (.int .u8 22) w:=by kernel_rfl
theorem Tryz.adB (w:World):((ReflectliteType.abiMethod fun t=>(fun a:Nat=>Value.int IntKind.u8 (a:Int)) <$> Rtype.kind t) #[.pointer (some ⟨1,263,none⟩)]).run Tryz.prog w=.ok (.int .u8 22) w:=by kernel_rfl
theorem rlm (z:Sem Value) (f:TypeId→Addr→Nat→Nat→Sem Value) (v:Value):
  ReflectliteValue.method z f #[v]=(do match ← ReflectliteValue.parts v with | none=>z | some (t,a,fl)=>f t a fl (fl % 32)):=rfl
theorem Tryz.V1 (a:Addr) (w:World):(ReflectliteValue.parts (.agg #[.pointer (some ⟨1,267,none⟩),.pointer (some a),.int .u64 150])).run Tryz.prog w=.ok (some (267,a,150)) w:=by kernel_rfl
theorem Tryz.abg (a p:Addr) (W:World) (ha:W.cell? a=some (.pointer (some p))):
  (ReflectliteValue.method (ReflectliteValue.valueError "reflectlite.Value.IsNil" 0) ReflectliteValue.isNil #[.agg #[.pointer (some ⟨1,267,none⟩),.pointer (some a),.int .u64 150]]).run Tryz.prog W=.ok (.bool false) W:=by
 rw [rlm];simp only [Sem.run_bind,Tryz.V1,Result.andThen];simp [ReflectliteValue.isNil,loadVar,isAgg,underlying,Tryz.underlying267,ha,Result.andThen]
theorem Tryz.UD (h:Value) (w:World):(Go.method 439 296 (.agg #[h]) "Elem").run Tryz.prog w=.ok (273,.agg #[h]) w:=by kernel_rfl
theorem Tryz.JT (h:Value) (w:World):(Go.method 439 296 (.agg #[h]) "Implements").run Tryz.prog w=.ok (274,.agg #[h]) w:=by kernel_rfl
theorem Tryz.GL (h:Value) (w:World):(Go.method 439 296 (.agg #[h]) "AssignableTo").run Tryz.prog w=.ok (271,.agg #[h]) w:=by kernel_rfl
theorem Tryz.adC (w:World):(ReflectliteType.method ReflectliteType.elem #[.agg #[.pointer (some ⟨1,267,none⟩)]]).run Tryz.prog w=.ok (.iface 296 (.agg #[.pointer (some ⟨1,263,none⟩)])) w:=by kernel_rfl
theorem Tryz.QP (w:World):(ReflectliteType.relation "Implements" ReflectliteType.implements_ #[.agg #[.pointer (some ⟨1,263,none⟩)],.iface 296 (.agg #[.pointer (some ⟨1,250,none⟩)])]).run Tryz.prog w=.ok (.bool true) w:=by kernel_rfl
theorem Tryz.Zt (v:Value) (w:World):(ReflectliteType.typeOf #[.iface 263 v]).run Tryz.prog w=.ok (.iface 296 (.agg #[.pointer (some ⟨1,263,none⟩)])) w:=by kernel_rfl
theorem Tryz.QQ (w:World):(ReflectliteType.relation "AssignableTo" ReflectliteType.assignableTo #[.agg #[.pointer (some ⟨1,263,none⟩)],.iface 296 (.agg #[.pointer (some ⟨1,263,none⟩)])]).run Tryz.prog w=.ok (.bool true) w:=by kernel_rfl
theorem Tryz.Xx (e:Addr) (w:World):(ReflectliteValue.unpack (.iface 263 (.pointer (some e)))).run Tryz.prog w
  = .ok (.agg #[.pointer (some ⟨1,263,none⟩),.pointer (some ⟨w.heap.size,0,none⟩),.int .u64 150]) (w.alloc (.cells #[.pointer (some e)] 263)):=by kernel_rfl
theorem Tryz.Zu (w:World):(Rtype.elem? 267).run Tryz.prog w=.ok (some 263) w:=by kernel_rfl
theorem Tryz.agJ (p:Addr) (w:World):(ReflectliteValue.mk 263 p ReflectliteValue.flagAddr).run Tryz.prog w=.ok (.agg #[.pointer (some ⟨1,263,none⟩),.pointer (some p),.int .u64 406]) w:=by kernel_rfl
theorem Tryz.abh (a p:Addr) (W:World) (ha:W.cell? a=some (.pointer (some p))):
  (ReflectliteValue.method (ReflectliteValue.valueError "reflectlite.Value.Elem" 0) ReflectliteValue.elem #[.agg #[.pointer (some ⟨1,267,none⟩),.pointer (some a),.int .u64 150]]).run Tryz.prog W
   = .ok (.agg #[.pointer (some ⟨1,263,none⟩),.pointer (some p),.int .u64 406]) W:=by
 rw [rlm];simp only [Sem.run_bind,Tryz.V1,Result.andThen];simp [ReflectliteValue.elem,loadVar,isAgg,underlying,Tryz.underlying267,ha,Result.andThen,Tryz.Zu,Tryz.agJ]
theorem rls (v x:Value):ReflectliteValue.set #[v,x]=(do
  let (some (dst,a,fl),some (src,b,_)):=(← ReflectliteValue.parts v,← ReflectliteValue.parts x)
   | unsupported (.noEntry "extern/(internal/reflectlite.Value).Set.zeroValue")
  if fl / ReflectliteValue.flagAddr % 2==0 then unsupported (.noEntry "extern/(internal/reflectlite.Value).Set.unaddressable")
  let val ← loadVar src b
  if ← Rtype.directlyAssignable dst src then storeVar dst a val
  else if ← Rtype.implements dst src then
   if (← Rtype.kind src)==20 then
    match val with
    | .nilIface=>unsupported (.noEntry "extern/reflectlite: a nil value of one interface type handed on as a value of another")
    | _=>storeVar dst a val
   else storeVar dst a (.iface src val)
  else panicString ("reflectlite.Set: value of type "++(← Rtype.spelt src)++ " is not assignable to type "++(← Rtype.spelt dst))
  pure (.tuple #[])):=rfl
theorem Tryz.Zv (a:Addr) (w:World):(ReflectliteValue.parts (.agg #[.pointer (some ⟨1,263,none⟩),.pointer (some a),.int .u64 406])).run Tryz.prog w=.ok (some (263,a,406)) w:=by kernel_rfl
theorem Tryz.abi (a:Addr) (w:World):(ReflectliteValue.parts (.agg #[.pointer (some ⟨1,263,none⟩),.pointer (some a),.int .u64 150])).run Tryz.prog w=.ok (some (263,a,150)) w:=by kernel_rfl
theorem Tryz.Zw (w:World):(Rtype.directlyAssignable 263 263).run Tryz.prog w=.ok true w:=by kernel_rfl
theorem Tryz.agK (w:World):(sizeOf 263).run Tryz.prog w=.ok 1 w:=by kernel_rfl
theorem Tryz.ae2 (ta b e:Addr) (F_:Value) (W:World) (hb:W.cell? b=some (.pointer (some e))) (ht:W.cell? ta=some F_) (hf:W.frozen? ta=false):
  (ReflectliteValue.set #[.agg #[.pointer (some ⟨1,263,none⟩),.pointer (some ta),.int .u64 406],.agg #[.pointer (some ⟨1,263,none⟩),.pointer (some b),.int .u64 150]]).run Tryz.prog W
   = .ok (.tuple #[]) (W.setCell ta (.pointer (some e))):=by
 rw [rls];simp only [Sem.run_bind,Tryz.Zv,Tryz.abi,Result.andThen];simp [ReflectliteValue.flagAddr,loadVar,isAgg,underlying,Tryz.underlying263,hb,Result.andThen,Tryz.Zw,storeVar,Value.cells,storeCells,Addr.add];rw [run_store Tryz.prog W ta _ _ (by rfl)];simp [ht,hf]
set_option maxHeartbeats 4000000 in
theorem adD (e t:Addr) (F_:Value) (w:World) (hg:w.cell? ⟨0,0,none⟩=some (.iface 296 (.agg #[.pointer (some ⟨1,250,none⟩)]))) (ht0:w.cell? t=some F_) (hf0:w.frozen? t=false):
  Calls Tryz.prog 221 #[.iface 263 (.pointer (some e)),.iface 267 (.pointer (some t))] w fun ev w'=>ev=.returned (.bool true)∧w'=((((w.alloc (.cells #[.pointer (some t)] 267)).alloc (.cells #[.pointer (some ⟨1,267,none⟩),.pointer (some ⟨w.heap.size,0,none⟩),.int .u64 150] 278)).alloc (.cells #[.pointer (some ⟨1,267,none⟩),.pointer (some ⟨w.heap.size,0,none⟩),.int .u64 150] 278)).alloc (.cells #[.pointer (some e)] 263)).setCell t (.pointer (some e)):=by
 have h6:=@run_callFunc_extern Tryz.prog 226 _ (fun args=>ReflectliteValue.unpack (args.getD 0 (.tuple #[]))) Tryz.func226 (by kernel_rfl) (by kernel_rfl) (by kernel_rfl) (by kernel_rfl);have h7:=@run_callFunc_extern Tryz.prog 227 _ (ReflectliteValue.methodAny (ReflectliteValue.valueError "reflectlite.Value.Type" 0) (fun t _ _ _=>ReflectliteType.toType t)) Tryz.func227 (by kernel_rfl) (by kernel_rfl) (by kernel_rfl) (by kernel_rfl);have h8:=@run_callFunc_extern Tryz.prog 228 _ (ReflectliteValue.method (ReflectliteValue.valueError "reflectlite.Value.IsNil" 0) ReflectliteValue.isNil) Tryz.func228 (by kernel_rfl) (by kernel_rfl) (by kernel_rfl) (by kernel_rfl);have h27:=@run_callFunc_extern Tryz.prog 251 _ (ReflectliteType.abiMethod fun t=>do pure (.int .u8 (← Rtype.kind t))) Tryz.func251 (by kernel_rfl) (by kernel_rfl) (by kernel_rfl) (by kernel_rfl);have h37:=@run_callFunc_extern Tryz.prog 273 _ (ReflectliteType.method ReflectliteType.elem) Tryz.func273 (by kernel_rfl) (by kernel_rfl) (by kernel_rfl) (by kernel_rfl);have h38:=@run_callFunc_extern Tryz.prog 274 _ (ReflectliteType.relation "Implements" ReflectliteType.implements_) Tryz.func274 (by kernel_rfl) (by kernel_rfl) (by kernel_rfl) (by kernel_rfl);have h10:=@run_callFunc_extern Tryz.prog 234 _ ReflectliteType.typeOf Tryz.func234 (by kernel_rfl) (by kernel_rfl) (by kernel_rfl) (by kernel_rfl);have h35:=@run_callFunc_extern Tryz.prog 271 _ (ReflectliteType.relation "AssignableTo" ReflectliteType.assignableTo) Tryz.func271 (by kernel_rfl) (by kernel_rfl) (by kernel_rfl) (by kernel_rfl);have h11:=@run_callFunc_extern Tryz.prog 235 _ (ReflectliteValue.method (ReflectliteValue.valueError "reflectlite.Value.Elem" 0) ReflectliteValue.elem) Tryz.func235 (by kernel_rfl) (by kernel_rfl) (by kernel_rfl) (by kernel_rfl);have h12:=@run_callFunc_extern Tryz.prog 236 _ ReflectliteValue.set Tryz.func236 (by kernel_rfl) (by kernel_rfl) (by kernel_rfl) (by kernel_rfl);have tO:=Tryz.Zt;have mA:=Tryz.GL;have a25:=Tryz.QQ;have v25:=Tryz.Xx;have f6:=Tryz.Xw;have f7:=Tryz.type27;have mK:=Tryz.UC;have mE:=Tryz.UD;have mI:=Tryz.JT;have k27:=Tryz.adA;have k25:=Tryz.adB;have e27:=Tryz.adC;have i25:=Tryz.QP;have n8:=Tryz.abg ⟨w.heap.size,0,none⟩ t ((w.alloc (.cells #[.pointer (some t)] 267)).alloc (.cells #[.pointer (some ⟨1,267,none⟩),.pointer (some ⟨w.heap.size,0,none⟩),.int .u64 150] 278)) (by simp);have dY:0 < w.heap.size:=by
  rcases Nat.eq_zero_or_pos w.heap.size with h0 | h
  ·simp [World.cell?,h0] at hg
  ·exact h
 have VN:((w.alloc (.cells #[.pointer (some t)] 267)).alloc (.cells #[.pointer (some ⟨1,267,none⟩),.pointer (some ⟨w.heap.size,0,none⟩),.int .u64 150] 278)).cell? ⟨0,0,none⟩=some (.iface 296 (.agg #[.pointer (some ⟨1,250,none⟩)])):=by
  rw [World.cell?_alloc_lt _ _ ⟨0,0,none⟩ (by simp),World.cell?_alloc_lt _ _ ⟨0,0,none⟩ dY];exact hg
 have htl:t.block < w.heap.size:=by
  rcases Nat.lt_or_ge t.block w.heap.size with h | h
  ·exact h
  ·simp [World.cell?,Array.getElem?_eq_none h] at ht0
 have el:=Tryz.abh ⟨w.heap.size,0,none⟩ t (((w.alloc (.cells #[.pointer (some t)] 267)).alloc (.cells #[.pointer (some ⟨1,267,none⟩),.pointer (some ⟨w.heap.size,0,none⟩),.int .u64 150] 278)).alloc (.cells #[.pointer (some ⟨1,267,none⟩),.pointer (some ⟨w.heap.size,0,none⟩),.int .u64 150] 278)) (by rw [World.cell?_alloc_lt _ _ ⟨w.heap.size,0,none⟩ (by simp;omega)];simp);have st:=Tryz.ae2 t ⟨w.heap.size+1+1+1,0,none⟩ e F_ ((((w.alloc (.cells #[.pointer (some t)] 267)).alloc (.cells #[.pointer (some ⟨1,267,none⟩),.pointer (some ⟨w.heap.size,0,none⟩),.int .u64 150] 278)).alloc (.cells #[.pointer (some ⟨1,267,none⟩),.pointer (some ⟨w.heap.size,0,none⟩),.int .u64 150] 278)).alloc (.cells #[.pointer (some e)] 263))
  (by rw [World.cell?_alloc_at _ _ _ _ (by simp)];rfl)
  (by rw [World.cell?_alloc_lt _ _ t (by simp;omega),World.cell?_alloc_lt _ _ t (by simp;omega),World.cell?_alloc_lt _ _ t (by simp;omega),World.cell?_alloc_lt _ _ t htl];exact ht0)
  (by rw [World.frozen?_alloc_old _ _ t (by simp;omega),World.frozen?_alloc_old _ _ t (by simp;omega),World.frozen?_alloc_old _ _ t (by simp;omega),World.frozen?_alloc_old _ _ t (Nat.ne_of_lt htl)];exact hf0)
 go_enter Tryz.func221,Tryz.ntmps221
 go_wp2
 refine wp_loop_rounds 1 ?_;rw [rounds_succ]
 go_wp2
 go_ret
 exact ⟨rfl,rfl⟩
end Go.Proofs.YtjkbbdldmdajkaaGreatDoor
