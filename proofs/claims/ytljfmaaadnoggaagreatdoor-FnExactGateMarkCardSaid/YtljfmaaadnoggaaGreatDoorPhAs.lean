/- errors.As at a pointer to a *fault, after the worked proof Toyas. No condition. -/
import Derived.Test.YtljfmaaadnoggaaGreatDoorProg
import Derived.WalkKit
import Derived.LaidEql
import Derived.Stop.Asserts
import Derived.RowKitTokens
namespace Go.Proofs.YtljfmaaadnoggaaGreatDoor
open Go.RowKit Go.Extern.Stop Go.Stop Go.Extern
theorem afQ (t:Value) (w:World):
  Calls Tryz.prog 183 #[.nilIface,t] w fun e w'=>e=.returned (.bool false)∧w'=w:=by
 go_enter Tryz.func183,Tryz.ntmps183
 go_wp2
 go_ret
 exact ⟨rfl,rfl⟩
theorem Tryz.Xb (t:Addr) (w:World):(ReflectliteValue.unpack (.iface 228 (.pointer (some t)))).run Tryz.prog w
  = .ok (.agg #[.pointer (some ⟨1,228,none⟩),.pointer (some ⟨w.heap.size,0,none⟩),.int .u64 150]) (w.alloc (.cells #[.pointer (some t)] 228)):=by kernel_rfl
theorem Tryz.type27 (a:Addr) (w:World):(ReflectliteValue.methodAny (ReflectliteValue.valueError "reflectlite.Value.Type" 0) (fun t _ _ _=>ReflectliteType.toType t) #[.agg #[.pointer (some ⟨1,228,none⟩),.pointer (some a),.int .u64 150]]).run Tryz.prog w
  = .ok (.iface 259 (.agg #[.pointer (some ⟨1,228,none⟩)])) w:=by kernel_rfl
theorem Tryz.Uv (h:Value) (w:World):(Go.method 406 259 (.agg #[h]) "Kind").run Tryz.prog w=.ok (216,h) w:=by kernel_rfl
theorem Tryz.acV (w:World):((ReflectliteType.abiMethod fun t=>(fun a:Nat=>Value.int IntKind.u8 (a:Int)) <$> Rtype.kind t) #[.pointer (some ⟨1,228,none⟩)]).run Tryz.prog w=.ok (.int .u8 22) w:=by kernel_rfl
theorem Tryz.acW (w:World):((ReflectliteType.abiMethod fun t=>(fun a:Nat=>Value.int IntKind.u8 (a:Int)) <$> Rtype.kind t) #[.pointer (some ⟨1,224,none⟩)]).run Tryz.prog w=.ok (.int .u8 22) w:=by kernel_rfl
theorem rlm (z:Sem Value) (f:TypeId→Addr→Nat→Nat→Sem Value) (v:Value):
  ReflectliteValue.method z f #[v]=(do match ← ReflectliteValue.parts v with | none=>z | some (t,a,fl)=>f t a fl (fl % 32)):=rfl
theorem Tryz.VO (a:Addr) (w:World):(ReflectliteValue.parts (.agg #[.pointer (some ⟨1,228,none⟩),.pointer (some a),.int .u64 150])).run Tryz.prog w=.ok (some (228,a,150)) w:=by kernel_rfl
theorem Tryz.aaM (a p:Addr) (W:World) (ha:W.cell? a=some (.pointer (some p))):
  (ReflectliteValue.method (ReflectliteValue.valueError "reflectlite.Value.IsNil" 0) ReflectliteValue.isNil #[.agg #[.pointer (some ⟨1,228,none⟩),.pointer (some a),.int .u64 150]]).run Tryz.prog W=.ok (.bool false) W:=by
 rw [rlm]
 simp only [Sem.run_bind,Tryz.VO,Result.andThen]
 simp [ReflectliteValue.isNil,loadVar,isAgg,underlying,Tryz.underlying228,ha,Result.andThen]
theorem Tryz.Uw (h:Value) (w:World):(Go.method 406 259 (.agg #[h]) "Elem").run Tryz.prog w=.ok (240,.agg #[h]) w:=by kernel_rfl
theorem Tryz.J4 (h:Value) (w:World):(Go.method 406 259 (.agg #[h]) "Implements").run Tryz.prog w=.ok (241,.agg #[h]) w:=by kernel_rfl
theorem Tryz.GO (h:Value) (w:World):(Go.method 406 259 (.agg #[h]) "AssignableTo").run Tryz.prog w=.ok (238,.agg #[h]) w:=by kernel_rfl
theorem Tryz.acX (w:World):(ReflectliteType.method ReflectliteType.elem #[.agg #[.pointer (some ⟨1,228,none⟩)]]).run Tryz.prog w=.ok (.iface 259 (.agg #[.pointer (some ⟨1,224,none⟩)])) w:=by kernel_rfl
theorem Tryz.QO (w:World):(ReflectliteType.relation "Implements" ReflectliteType.implements_ #[.agg #[.pointer (some ⟨1,224,none⟩)],.iface 259 (.agg #[.pointer (some ⟨1,209,none⟩)])]).run Tryz.prog w=.ok (.bool true) w:=by kernel_rfl
theorem Tryz.Y8 (v:Value) (w:World):(ReflectliteType.typeOf #[.iface 224 v]).run Tryz.prog w=.ok (.iface 259 (.agg #[.pointer (some ⟨1,224,none⟩)])) w:=by kernel_rfl
theorem Tryz.QP (w:World):(ReflectliteType.relation "AssignableTo" ReflectliteType.assignableTo #[.agg #[.pointer (some ⟨1,224,none⟩)],.iface 259 (.agg #[.pointer (some ⟨1,224,none⟩)])]).run Tryz.prog w=.ok (.bool true) w:=by kernel_rfl
theorem Tryz.Xc (e:Addr) (w:World):(ReflectliteValue.unpack (.iface 224 (.pointer (some e)))).run Tryz.prog w
  = .ok (.agg #[.pointer (some ⟨1,224,none⟩),.pointer (some ⟨w.heap.size,0,none⟩),.int .u64 150]) (w.alloc (.cells #[.pointer (some e)] 224)):=by kernel_rfl
theorem Tryz.Y9 (w:World):(Rtype.elem? 228).run Tryz.prog w=.ok (some 224) w:=by kernel_rfl
theorem Tryz.afR (p:Addr) (w:World):(ReflectliteValue.mk 224 p ReflectliteValue.flagAddr).run Tryz.prog w=.ok (.agg #[.pointer (some ⟨1,224,none⟩),.pointer (some p),.int .u64 406]) w:=by kernel_rfl
theorem Tryz.aaN (a p:Addr) (W:World) (ha:W.cell? a=some (.pointer (some p))):
  (ReflectliteValue.method (ReflectliteValue.valueError "reflectlite.Value.Elem" 0) ReflectliteValue.elem #[.agg #[.pointer (some ⟨1,228,none⟩),.pointer (some a),.int .u64 150]]).run Tryz.prog W
   = .ok (.agg #[.pointer (some ⟨1,224,none⟩),.pointer (some p),.int .u64 406]) W:=by
 rw [rlm]
 simp only [Sem.run_bind,Tryz.VO,Result.andThen]
 simp [ReflectliteValue.elem,loadVar,isAgg,underlying,Tryz.underlying228,ha,Result.andThen,Tryz.Y9,Tryz.afR]
theorem rls (v x:Value):ReflectliteValue.set #[v,x]=(do
  let (some (dst,a,fl),some (src,b,_)):=(← ReflectliteValue.parts v,← ReflectliteValue.parts x)
   | unsupported (.noEntry "extern/(internal/reflectlite.Value).Set.zeroValue")
  if fl / ReflectliteValue.flagAddr % 2==0 then unsupported (.noEntry "extern/(internal/reflectlite.Value).Set.unaddressable")
  let val ← loadVar src b
  if ← Rtype.directlyAssignable dst src then storeVar dst a val
  else if ← Rtype.implements dst src then
   if (← Rtype.kind src)==20 then
    match val with
    | .nilIface=>unsupported (.noEntry "extern/reflectlite: a nil value of one interface type handed on as a value of another")
    | _=>storeVar dst a val
   else storeVar dst a (.iface src val)
  else panicString ("reflectlite.Set: value of type "++(← Rtype.spelt src)++ " is not assignable to type "++(← Rtype.spelt dst))
  pure (.tuple #[])):=rfl
theorem Tryz.Y_ (a:Addr) (w:World):(ReflectliteValue.parts (.agg #[.pointer (some ⟨1,224,none⟩),.pointer (some a),.int .u64 406])).run Tryz.prog w=.ok (some (224,a,406)) w:=by kernel_rfl
theorem Tryz.aaO (a:Addr) (w:World):(ReflectliteValue.parts (.agg #[.pointer (some ⟨1,224,none⟩),.pointer (some a),.int .u64 150])).run Tryz.prog w=.ok (some (224,a,150)) w:=by kernel_rfl
theorem Tryz.Za (w:World):(Rtype.directlyAssignable 224 224).run Tryz.prog w=.ok true w:=by kernel_rfl
theorem Tryz.afS (w:World):(sizeOf 224).run Tryz.prog w=.ok 1 w:=by kernel_rfl
theorem Tryz.aeb (ta b e:Addr) (F8:Value) (W:World) (hb:W.cell? b=some (.pointer (some e))) (ht:W.cell? ta=some F8) (hf:W.frozen? ta=false):
  (ReflectliteValue.set #[.agg #[.pointer (some ⟨1,224,none⟩),.pointer (some ta),.int .u64 406],.agg #[.pointer (some ⟨1,224,none⟩),.pointer (some b),.int .u64 150]]).run Tryz.prog W
   = .ok (.tuple #[]) (W.setCell ta (.pointer (some e))):=by
 rw [rls]
 simp only [Sem.run_bind,Tryz.Y_,Tryz.aaO,Result.andThen]
 simp [ReflectliteValue.flagAddr,loadVar,isAgg,underlying,Tryz.underlying224,hb,Result.andThen,Tryz.Za,storeVar,Value.cells,storeCells,Addr.add]
 rw [run_store Tryz.prog W ta _ _ (by rfl)]
 simp [ht,hf]
set_option maxHeartbeats 4000000 in
theorem acY (e t:Addr) (F8:Value) (w:World) (hg:w.cell? ⟨0,0,none⟩=some (.iface 259 (.agg #[.pointer (some ⟨1,209,none⟩)]))) (ht0:w.cell? t=some F8) (hf0:w.frozen? t=false):
  Calls Tryz.prog 183 #[.iface 224 (.pointer (some e)),.iface 228 (.pointer (some t))] w fun ev w'=>ev=.returned (.bool true)∧w'=((((w.alloc (.cells #[.pointer (some t)] 228)).alloc (.cells #[.pointer (some ⟨1,228,none⟩),.pointer (some ⟨w.heap.size,0,none⟩),.int .u64 150] 241)).alloc (.cells #[.pointer (some ⟨1,228,none⟩),.pointer (some ⟨w.heap.size,0,none⟩),.int .u64 150] 241)).alloc (.cells #[.pointer (some e)] 224)).setCell t (.pointer (some e)):=by
 have h6:=@run_callFunc_extern Tryz.prog 191 _ (fun args=>ReflectliteValue.unpack (args.getD 0 (.tuple #[]))) Tryz.func191 (by kernel_rfl) (by kernel_rfl) (by kernel_rfl) (by kernel_rfl)
 have h7:=@run_callFunc_extern Tryz.prog 192 _ (ReflectliteValue.methodAny (ReflectliteValue.valueError "reflectlite.Value.Type" 0) (fun t _ _ _=>ReflectliteType.toType t)) Tryz.func192 (by kernel_rfl) (by kernel_rfl) (by kernel_rfl) (by kernel_rfl)
 have h8:=@run_callFunc_extern Tryz.prog 193 _ (ReflectliteValue.method (ReflectliteValue.valueError "reflectlite.Value.IsNil" 0) ReflectliteValue.isNil) Tryz.func193 (by kernel_rfl) (by kernel_rfl) (by kernel_rfl) (by kernel_rfl)
 have h27:=@run_callFunc_extern Tryz.prog 216 _ (ReflectliteType.abiMethod fun t=>do pure (.int .u8 (← Rtype.kind t))) Tryz.func216 (by kernel_rfl) (by kernel_rfl) (by kernel_rfl) (by kernel_rfl)
 have h37:=@run_callFunc_extern Tryz.prog 240 _ (ReflectliteType.method ReflectliteType.elem) Tryz.func240 (by kernel_rfl) (by kernel_rfl) (by kernel_rfl) (by kernel_rfl)
 have h38:=@run_callFunc_extern Tryz.prog 241 _ (ReflectliteType.relation "Implements" ReflectliteType.implements_) Tryz.func241 (by kernel_rfl) (by kernel_rfl) (by kernel_rfl) (by kernel_rfl)
 have h10:=@run_callFunc_extern Tryz.prog 199 _ ReflectliteType.typeOf Tryz.func199 (by kernel_rfl) (by kernel_rfl) (by kernel_rfl) (by kernel_rfl)
 have h35:=@run_callFunc_extern Tryz.prog 238 _ (ReflectliteType.relation "AssignableTo" ReflectliteType.assignableTo) Tryz.func238 (by kernel_rfl) (by kernel_rfl) (by kernel_rfl) (by kernel_rfl)
 have h11:=@run_callFunc_extern Tryz.prog 200 _ (ReflectliteValue.method (ReflectliteValue.valueError "reflectlite.Value.Elem" 0) ReflectliteValue.elem) Tryz.func200 (by kernel_rfl) (by kernel_rfl) (by kernel_rfl) (by kernel_rfl)
 have h12:=@run_callFunc_extern Tryz.prog 201 _ ReflectliteValue.set Tryz.func201 (by kernel_rfl) (by kernel_rfl) (by kernel_rfl) (by kernel_rfl)
 have tO:=Tryz.Y8
 have mA:=Tryz.GO
 have a25:=Tryz.QP
 have v25:=Tryz.Xc
 have f6:=Tryz.Xb
 have f7:=Tryz.type27
 have mK:=Tryz.Uv
 have mE:=Tryz.Uw
 have mI:=Tryz.J4
 have k27:=Tryz.acV
 have k25:=Tryz.acW
 have e27:=Tryz.acX
 have i25:=Tryz.QO
 have n8:=Tryz.aaM ⟨w.heap.size,0,none⟩ t ((w.alloc (.cells #[.pointer (some t)] 228)).alloc (.cells #[.pointer (some ⟨1,228,none⟩),.pointer (some ⟨w.heap.size,0,none⟩),.int .u64 150] 241)) (by simp)
 have dL:0 < w.heap.size:=by
  rcases Nat.eq_zero_or_pos w.heap.size with h0 | h
  ·simp [World.cell?,h0] at hg
  ·exact h
 have VD:((w.alloc (.cells #[.pointer (some t)] 228)).alloc (.cells #[.pointer (some ⟨1,228,none⟩),.pointer (some ⟨w.heap.size,0,none⟩),.int .u64 150] 241)).cell? ⟨0,0,none⟩=some (.iface 259 (.agg #[.pointer (some ⟨1,209,none⟩)])):=by
  rw [World.cell?_alloc_lt _ _ ⟨0,0,none⟩ (by simp),World.cell?_alloc_lt _ _ ⟨0,0,none⟩ dL];exact hg
 have htl:t.block < w.heap.size:=by
  rcases Nat.lt_or_ge t.block w.heap.size with h | h
  ·exact h
  ·simp [World.cell?,Array.getElem?_eq_none h] at ht0
 have el:=Tryz.aaN ⟨w.heap.size,0,none⟩ t (((w.alloc (.cells #[.pointer (some t)] 228)).alloc (.cells #[.pointer (some ⟨1,228,none⟩),.pointer (some ⟨w.heap.size,0,none⟩),.int .u64 150] 241)).alloc (.cells #[.pointer (some ⟨1,228,none⟩),.pointer (some ⟨w.heap.size,0,none⟩),.int .u64 150] 241)) (by rw [World.cell?_alloc_lt _ _ ⟨w.heap.size,0,none⟩ (by simp;omega)];simp)
 have st:=Tryz.aeb t ⟨w.heap.size+1+1+1,0,none⟩ e F8 ((((w.alloc (.cells #[.pointer (some t)] 228)).alloc (.cells #[.pointer (some ⟨1,228,none⟩),.pointer (some ⟨w.heap.size,0,none⟩),.int .u64 150] 241)).alloc (.cells #[.pointer (some ⟨1,228,none⟩),.pointer (some ⟨w.heap.size,0,none⟩),.int .u64 150] 241)).alloc (.cells #[.pointer (some e)] 224))
  (by rw [World.cell?_alloc_at _ _ _ _ (by simp)];rfl)
  (by rw [World.cell?_alloc_lt _ _ t (by simp;omega),World.cell?_alloc_lt _ _ t (by simp;omega),World.cell?_alloc_lt _ _ t (by simp;omega),World.cell?_alloc_lt _ _ t htl];exact ht0)
  (by rw [World.frozen?_alloc_old _ _ t (by simp;omega),World.frozen?_alloc_old _ _ t (by simp;omega),World.frozen?_alloc_old _ _ t (by simp;omega),World.frozen?_alloc_old _ _ t (Nat.ne_of_lt htl)];exact hf0)
 go_enter Tryz.func183,Tryz.ntmps183
 go_wp2
 refine wp_loop_rounds 1 ?_
 rw [rounds_succ]
 go_wp2
 go_ret
 exact ⟨rfl,rfl⟩
end Go.Proofs.YtljfmaaadnoggaaGreatDoor
