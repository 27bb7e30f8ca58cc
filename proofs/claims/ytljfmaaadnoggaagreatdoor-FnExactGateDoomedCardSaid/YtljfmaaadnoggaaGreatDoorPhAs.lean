/- errors.As at a pointer to a *fault, after the worked proof Toyas. No condition. -/
import Derived.Test.YtljfmaaadnoggaaGreatDoorProg
import Derived.WalkKit
import Derived.LaidEql
import Derived.Stop.Asserts
import Derived.RowKitTokens
namespace Go.Proofs.YtljfmaaadnoggaaGreatDoor
open Go.RowKit Go.Extern.Stop Go.Stop Go.Extern
theorem ai_ (t:Value) (w:World):
  Calls Tryz.prog 183 #[.nilIface,t] w fun e w'=>e=.returned (.bool false)∧w'=w:=by
 go_enter Tryz.func183,Tryz.ntmps183
 go_wp2
 go_ret
 exact ⟨rfl,rfl⟩
theorem Tryz.aat (t:Addr) (w:World):(ReflectliteValue.unpack (.iface 228 (.pointer (some t)))).run Tryz.prog w
  = .ok (.agg #[.pointer (some ⟨1,228,none⟩),.pointer (some ⟨w.heap.size,0,none⟩),.int .u64 150]) (w.alloc (.cells #[.pointer (some t)] 228)):=by kernel_rfl
theorem Tryz.type27 (a:Addr) (w:World):(ReflectliteValue.methodAny (ReflectliteValue.valueError "reflectlite.Value.Type" 0) (fun t _ _ _=>ReflectliteType.toType t) #[.agg #[.pointer (some ⟨1,228,none⟩),.pointer (some a),.int .u64 150]]).run Tryz.prog w
  = .ok (.iface 259 (.agg #[.pointer (some ⟨1,228,none⟩)])) w:=by kernel_rfl
theorem Tryz.Xw (h:Value) (w:World):(Go.method 406 259 (.agg #[h]) "Kind").run Tryz.prog w=.ok (216,h) w:=by kernel_rfl
theorem Tryz.afM (w:World):((ReflectliteType.abiMethod fun t=>(fun a:Nat=>Value.int IntKind.u8 (a:Int)) <$> Rtype.kind t) #[.pointer (some ⟨1,228,none⟩)]).run Tryz.prog w=.ok (.int .u8 22) w:=by kernel_rfl
theorem Tryz.afN (w:World):((ReflectliteType.abiMethod fun t=>(fun a:Nat=>Value.int IntKind.u8 (a:Int)) <$> Rtype.kind t) #[.pointer (some ⟨1,224,none⟩)]).run Tryz.prog w=.ok (.int .u8 22) w:=by kernel_rfl
theorem rlm (z:Sem Value) (f:TypeId→Addr→Nat→Nat→Sem Value) (v:Value):
  ReflectliteValue.method z f #[v]=(do match ← ReflectliteValue.parts v with | none=>z | some (t,a,fl)=>f t a fl (fl % 32)):=rfl
theorem Tryz.YY (a:Addr) (w:World):(ReflectliteValue.parts (.agg #[.pointer (some ⟨1,228,none⟩),.pointer (some a),.int .u64 150])).run Tryz.prog w=.ok (some (228,a,150)) w:=by kernel_rfl
theorem Tryz.adF (a p:Addr) (W:World) (ha:W.cell? a=some (.pointer (some p))):
  (ReflectliteValue.method (ReflectliteValue.valueError "reflectlite.Value.IsNil" 0) ReflectliteValue.isNil #[.agg #[.pointer (some ⟨1,228,none⟩),.pointer (some a),.int .u64 150]]).run Tryz.prog W=.ok (.bool false) W:=by
 rw [rlm]
 simp only [Sem.run_bind,Tryz.YY,Result.andThen]
 simp [ReflectliteValue.isNil,loadVar,isAgg,underlying,Tryz.underlying228,ha,Result.andThen]
theorem Tryz.Xx (h:Value) (w:World):(Go.method 406 259 (.agg #[h]) "Elem").run Tryz.prog w=.ok (240,.agg #[h]) w:=by kernel_rfl
theorem Tryz.Mo (h:Value) (w:World):(Go.method 406 259 (.agg #[h]) "Implements").run Tryz.prog w=.ok (241,.agg #[h]) w:=by kernel_rfl
theorem Tryz.Jd (h:Value) (w:World):(Go.method 406 259 (.agg #[h]) "AssignableTo").run Tryz.prog w=.ok (238,.agg #[h]) w:=by kernel_rfl
theorem Tryz.afO (w:World):(ReflectliteType.method ReflectliteType.elem #[.agg #[.pointer (some ⟨1,228,none⟩)]]).run Tryz.prog w=.ok (.iface 259 (.agg #[.pointer (some ⟨1,224,none⟩)])) w:=by kernel_rfl
theorem Tryz.TE (w:World):(ReflectliteType.relation "Implements" ReflectliteType.implements_ #[.agg #[.pointer (some ⟨1,224,none⟩)],.iface 259 (.agg #[.pointer (some ⟨1,209,none⟩)])]).run Tryz.prog w=.ok (.bool true) w:=by kernel_rfl
theorem Tryz.ab2 (v:Value) (w:World):(ReflectliteType.typeOf #[.iface 224 v]).run Tryz.prog w=.ok (.iface 259 (.agg #[.pointer (some ⟨1,224,none⟩)])) w:=by kernel_rfl
theorem Tryz.TF (w:World):(ReflectliteType.relation "AssignableTo" ReflectliteType.assignableTo #[.agg #[.pointer (some ⟨1,224,none⟩)],.iface 259 (.agg #[.pointer (some ⟨1,224,none⟩)])]).run Tryz.prog w=.ok (.bool true) w:=by kernel_rfl
theorem Tryz.aau (e:Addr) (w:World):(ReflectliteValue.unpack (.iface 224 (.pointer (some e)))).run Tryz.prog w
  = .ok (.agg #[.pointer (some ⟨1,224,none⟩),.pointer (some ⟨w.heap.size,0,none⟩),.int .u64 150]) (w.alloc (.cells #[.pointer (some e)] 224)):=by kernel_rfl
theorem Tryz.ab3 (w:World):(Rtype.elem? 228).run Tryz.prog w=.ok (some 224) w:=by kernel_rfl
theorem Tryz.aja (p:Addr) (w:World):(ReflectliteValue.mk 224 p ReflectliteValue.flagAddr).run Tryz.prog w=.ok (.agg #[.pointer (some ⟨1,224,none⟩),.pointer (some p),.int .u64 406]) w:=by kernel_rfl
theorem Tryz.adG (a p:Addr) (W:World) (ha:W.cell? a=some (.pointer (some p))):
  (ReflectliteValue.method (ReflectliteValue.valueError "reflectlite.Value.Elem" 0) ReflectliteValue.elem #[.agg #[.pointer (some ⟨1,228,none⟩),.pointer (some a),.int .u64 150]]).run Tryz.prog W
   = .ok (.agg #[.pointer (some ⟨1,224,none⟩),.pointer (some p),.int .u64 406]) W:=by
 rw [rlm]
 simp only [Sem.run_bind,Tryz.YY,Result.andThen]
 simp [ReflectliteValue.elem,loadVar,isAgg,underlying,Tryz.underlying228,ha,Result.andThen,Tryz.ab3,Tryz.aja]
theorem rls (v x:Value):ReflectliteValue.set #[v,x]=(do
  let (some (dst,a,fl),some (src,b,_)):=(← ReflectliteValue.parts v,← ReflectliteValue.parts x)
   | unsupported (.noEntry "extern/(internal/reflectlite.Value).Set.zeroValue")
  if fl / ReflectliteValue.flagAddr % 2==0 then unsupported (.noEntry "extern/(internal/reflectlite.Value).Set.unaddressable")
  let val ← loadVar src b
  if ← Rtype.directlyAssignable dst src then storeVar dst a val
  else if ← Rtype.implements dst src then
   if (← Rtype.kind src)==20 then
    match val with
    | .nilIface=>unsupported (.noEntry "extern/reflectlite: a nil value of one interface type handed on as a value of another")
    | _=>storeVar dst a val
   else storeVar dst a (.iface src val)
  else panicString ("reflectlite.Set: value of type "++(← Rtype.spelt src)++ " is not assignable to type "++(← Rtype.spelt dst))
  pure (.tuple #[])):=rfl
theorem Tryz.ab4 (a:Addr) (w:World):(ReflectliteValue.parts (.agg #[.pointer (some ⟨1,224,none⟩),.pointer (some a),.int .u64 406])).run Tryz.prog w=.ok (some (224,a,406)) w:=by kernel_rfl
theorem Tryz.adH (a:Addr) (w:World):(ReflectliteValue.parts (.agg #[.pointer (some ⟨1,224,none⟩),.pointer (some a),.int .u64 150])).run Tryz.prog w=.ok (some (224,a,150)) w:=by kernel_rfl
theorem Tryz.ab5 (w:World):(Rtype.directlyAssignable 224 224).run Tryz.prog w=.ok true w:=by kernel_rfl
theorem Tryz.ajb (w:World):(sizeOf 224).run Tryz.prog w=.ok 1 w:=by kernel_rfl
theorem Tryz.ahv (ta b e:Addr) (HN:Value) (W:World) (hb:W.cell? b=some (.pointer (some e))) (ht:W.cell? ta=some HN) (hf:W.frozen? ta=false):
  (ReflectliteValue.set #[.agg #[.pointer (some ⟨1,224,none⟩),.pointer (some ta),.int .u64 406],.agg #[.pointer (some ⟨1,224,none⟩),.pointer (some b),.int .u64 150]]).run Tryz.prog W
   = .ok (.tuple #[]) (W.setCell ta (.pointer (some e))):=by
 rw [rls]
 simp only [Sem.run_bind,Tryz.ab4,Tryz.adH,Result.andThen]
 simp [ReflectliteValue.flagAddr,loadVar,isAgg,underlying,Tryz.underlying224,hb,Result.andThen,Tryz.ab5,storeVar,Value.cells,storeCells,Addr.add]
 rw [run_store Tryz.prog W ta _ _ (by rfl)]
 simp [ht,hf]
set_option maxHeartbeats 4000000 in
theorem afP (e t:Addr) (HN:Value) (w:World) (hg:w.cell? ⟨0,0,none⟩=some (.iface 259 (.agg #[.pointer (some ⟨1,209,none⟩)]))) (ht0:w.cell? t=some HN) (hf0:w.frozen? t=false):
  Calls Tryz.prog 183 #[.iface 224 (.pointer (some e)),.iface 228 (.pointer (some t))] w fun ev w'=>ev=.returned (.bool true)∧w'=((((w.alloc (.cells #[.pointer (some t)] 228)).alloc (.cells #[.pointer (some ⟨1,228,none⟩),.pointer (some ⟨w.heap.size,0,none⟩),.int .u64 150] 241)).alloc (.cells #[.pointer (some ⟨1,228,none⟩),.pointer (some ⟨w.heap.size,0,none⟩),.int .u64 150] 241)).alloc (.cells #[.pointer (some e)] 224)).setCell t (.pointer (some e)):=by
 have h6:=@run_callFunc_extern Tryz.prog 191 _ (fun args=>ReflectliteValue.unpack (args.getD 0 (.tuple #[]))) Tryz.func191 (by kernel_rfl) (by kernel_rfl) (by kernel_rfl) (by kernel_rfl)
 have h7:=@run_callFunc_extern Tryz.prog 192 _ (ReflectliteValue.methodAny (ReflectliteValue.valueError "reflectlite.Value.Type" 0) (fun t _ _ _=>ReflectliteType.toType t)) Tryz.func192 (by kernel_rfl) (by kernel_rfl) (by kernel_rfl) (by kernel_rfl)
 have h8:=@run_callFunc_extern Tryz.prog 193 _ (ReflectliteValue.method (ReflectliteValue.valueError "reflectlite.Value.IsNil" 0) ReflectliteValue.isNil) Tryz.func193 (by kernel_rfl) (by kernel_rfl) (by kernel_rfl) (by kernel_rfl)
 have h27:=@run_callFunc_extern Tryz.prog 216 _ (ReflectliteType.abiMethod fun t=>do pure (.int .u8 (← Rtype.kind t))) Tryz.func216 (by kernel_rfl) (by kernel_rfl) (by kernel_rfl) (by kernel_rfl)
 have h37:=@run_callFunc_extern Tryz.prog 240 _ (ReflectliteType.method ReflectliteType.elem) Tryz.func240 (by kernel_rfl) (by kernel_rfl) (by kernel_rfl) (by kernel_rfl)
 have h38:=@run_callFunc_extern Tryz.prog 241 _ (ReflectliteType.relation "Implements" ReflectliteType.implements_) Tryz.func241 (by kernel_rfl) (by kernel_rfl) (by kernel_rfl) (by kernel_rfl)
 have h10:=@run_callFunc_extern Tryz.prog 199 _ ReflectliteType.typeOf Tryz.func199 (by kernel_rfl) (by kernel_rfl) (by kernel_rfl) (by kernel_rfl)
 have h35:=@run_callFunc_extern Tryz.prog 238 _ (ReflectliteType.relation "AssignableTo" ReflectliteType.assignableTo) Tryz.func238 (by kernel_rfl) (by kernel_rfl) (by kernel_rfl) (by kernel_rfl)
 have h11:=@run_callFunc_extern Tryz.prog 200 _ (ReflectliteValue.method (ReflectliteValue.valueError "reflectlite.Value.Elem" 0) ReflectliteValue.elem) Tryz.func200 (by kernel_rfl) (by kernel_rfl) (by kernel_rfl) (by kernel_rfl)
 have h12:=@run_callFunc_extern Tryz.prog 201 _ ReflectliteValue.set Tryz.func201 (by kernel_rfl) (by kernel_rfl) (by kernel_rfl) (by kernel_rfl)
 have tO:=Tryz.ab2
 have mA:=Tryz.Jd
 have a25:=Tryz.TF
 have v25:=Tryz.aau
 have f6:=Tryz.aat
 have f7:=Tryz.type27
 have mK:=Tryz.Xw
 have mE:=Tryz.Xx
 have mI:=Tryz.Mo
 have k27:=Tryz.afM
 have k25:=Tryz.afN
 have e27:=Tryz.afO
 have i25:=Tryz.TE
 have n8:=Tryz.adF ⟨w.heap.size,0,none⟩ t ((w.alloc (.cells #[.pointer (some t)] 228)).alloc (.cells #[.pointer (some ⟨1,228,none⟩),.pointer (some ⟨w.heap.size,0,none⟩),.int .u64 150] 241)) (by simp)
 have dQ:0 < w.heap.size:=by
  rcases Nat.eq_zero_or_pos w.heap.size with h0 | h
  ·simp [World.cell?,h0] at hg
  ·exact h
 have YF:((w.alloc (.cells #[.pointer (some t)] 228)).alloc (.cells #[.pointer (some ⟨1,228,none⟩),.pointer (some ⟨w.heap.size,0,none⟩),.int .u64 150] 241)).cell? ⟨0,0,none⟩=some (.iface 259 (.agg #[.pointer (some ⟨1,209,none⟩)])):=by
  rw [World.cell?_alloc_lt _ _ ⟨0,0,none⟩ (by simp),World.cell?_alloc_lt _ _ ⟨0,0,none⟩ dQ];exact hg
 have htl:t.block < w.heap.size:=by
  rcases Nat.lt_or_ge t.block w.heap.size with h | h
  ·exact h
  ·simp [World.cell?,Array.getElem?_eq_none h] at ht0
 have el:=Tryz.adG ⟨w.heap.size,0,none⟩ t (((w.alloc (.cells #[.pointer (some t)] 228)).alloc (.cells #[.pointer (some ⟨1,228,none⟩),.pointer (some ⟨w.heap.size,0,none⟩),.int .u64 150] 241)).alloc (.cells #[.pointer (some ⟨1,228,none⟩),.pointer (some ⟨w.heap.size,0,none⟩),.int .u64 150] 241)) (by rw [World.cell?_alloc_lt _ _ ⟨w.heap.size,0,none⟩ (by simp;omega)];simp)
 have st:=Tryz.ahv t ⟨w.heap.size+1+1+1,0,none⟩ e HN ((((w.alloc (.cells #[.pointer (some t)] 228)).alloc (.cells #[.pointer (some ⟨1,228,none⟩),.pointer (some ⟨w.heap.size,0,none⟩),.int .u64 150] 241)).alloc (.cells #[.pointer (some ⟨1,228,none⟩),.pointer (some ⟨w.heap.size,0,none⟩),.int .u64 150] 241)).alloc (.cells #[.pointer (some e)] 224))
  (by rw [World.cell?_alloc_at _ _ _ _ (by simp)];rfl)
  (by rw [World.cell?_alloc_lt _ _ t (by simp;omega),World.cell?_alloc_lt _ _ t (by simp;omega),World.cell?_alloc_lt _ _ t (by simp;omega),World.cell?_alloc_lt _ _ t htl];exact ht0)
  (by rw [World.frozen?_alloc_old _ _ t (by simp;omega),World.frozen?_alloc_old _ _ t (by simp;omega),World.frozen?_alloc_old _ _ t (by simp;omega),World.frozen?_alloc_old _ _ t (Nat.ne_of_lt htl)];exact hf0)
 go_enter Tryz.func183,Tryz.ntmps183
 go_wp2
 refine wp_loop_rounds 1 ?_
 rw [rounds_succ]
 go_wp2
 go_ret
 exact ⟨rfl,rfl⟩
end Go.Proofs.YtljfmaaadnoggaaGreatDoor
