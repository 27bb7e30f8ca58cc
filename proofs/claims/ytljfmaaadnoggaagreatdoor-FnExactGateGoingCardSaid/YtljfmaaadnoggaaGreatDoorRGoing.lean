/- laws.FnExactGateGoing: the row. No condition. -/
import Derived.Test.YtljfmaaadnoggaaGreatDoorRows
import Derived.Test.YtljfmaaadnoggaaGreatDoorFnPf
import Derived.Test.YtljfmaaadnoggaaGreatDoorFnRd
import Derived.Test.YtljfmaaadnoggaaGreatDoorLvGoing
import Derived.Test.YtljfmaaadnoggaaGreatDoorCards
import Derived.Test.YtljfmaaadnoggaaGreatDoorTie
import Derived.ChangeSame
import Derived.ChangeVars
import Derived.JoinedOf
import Derived.RowKitTokens
import Derived.LaidLaws
import Derived.LaidHandle
import Derived.Stop.Joined
import Derived.Stop.LaidErr
import Derived.SevenTiedAt
import Derived.WalkKit
import Derived.ProofKit
import Derived.OpenShut
import Derived.ShutString
import Derived.ChangeOld
namespace Go.Proofs.YtljfmaaadnoggaaGreatDoor.FnExactGateGoing
open Go Go.ChangeShapes Go.WideShapes Go.ChangeAt Go.RowKit Go.Proofs.YtljfmaaadnoggaaGreatDoor.cX Go.Proofs.YtljfmaaadnoggaaGreatDoor.Fn
theorem own:ownKnob Tryz.prog.godebug=none:=by kernel_rfl
theorem laid:laidOutB Tryz.prog=true:=by kernel_rfl
theorem reads:([26,32].all fun t=>Tryz.prog.readableRec t&&Nat.blt t Tryz.prog.types.size)=true:=by kernel_rfl
theorem et:Tryz.prog.globalNamed "errors.errorType"=some 0:=by kernel_rfl
theorem rt:(Tryz.prog.cutTypes.find? (·.1== "internal/reflectlite.rtype")).map (·.2)=some 259:=by kernel_rfl
theorem Xz:((List.range 306).filter fun t=>Tryz.prog.rowNamed t [101,114,114,111,114])=[209]:=by kernel_rfl
theorem size:Tryz.prog.types.size=306:=by kernel_rfl
abbrev zQ:List (String×DataW Unit):=[("errors.errorType",Rows.laid_errors_errorType)]
theorem Jy {W:World} (h:laidMetH Tryz.prog zQ W):W.var? Tryz.prog "errors.errorType"=some ⟨[.iface 259 (.agg #[.pointer (some ⟨1,209,none⟩)])]⟩:=by
 have h':laidMet Tryz.prog [] W∧handlesMet Tryz.prog zQ W:=h
 obtain ⟨name,u,ty,e1,e2,e3,e4,e5⟩:=h'.2 _ (List.mem_singleton.2 rfl)
 have en:name=[101,114,114,111,114]:=(Option.some.inj e1).symm
 subst en
 obtain rfl:=Option.some.inj (rt.symm.trans e2)
 have hm:ty∈(List.range 306).filter fun t=>Tryz.prog.rowNamed t [101,114,114,111,114]:=List.mem_filter.2 ⟨List.mem_range.2 (by rw [← size];exact e3),e4⟩
 rw [Xz] at hm
 obtain rfl:=List.mem_singleton.1 hm
 have hh:typeHandle Tryz.prog 209=.pointer (some ⟨1,209,none⟩):=by kernel_rfl
 rw [hh] at e5
 exact e5
noncomputable def Co (os:Os):World:=
 let w0:=World.holding Tryz.prog os ⟨#[],#[],[]⟩
 { w0 with heap:=w0.heap.modify 0 fun
   | .cells _ t frozen=>.cells #[.iface 259 (.agg #[.pointer (some ⟨1,209,none⟩)])] t frozen
   | o=>o }
theorem Bv (os:Os) (args:Array Value):laidMetH Tryz.prog zQ ((Co os).forCall (fun _ _=>0) ⟨#[],args,[]⟩).memory:=
 laidMetH_of_parts (laidMet_nil _ _) (by kernel_rfl)
theorem Gc {W:World} (h:laidMetH Tryz.prog zQ W):Pos W (HN W):=by
 have hc:=Jy h
 have hg:Tryz.prog.globalNamed "errors.errorType"=some 0:=et
 unfold World.var? at hc
 rw [hg,Option.bind_some] at hc
 cases ho:W.heap[0]? with
 | none=>rw [ho] at hc;cases hc
 | some o=>
  have dQ:0 < W.heap.size:=(Array.getElem?_eq_some_iff.1 ho).1
  rw [ho] at hc
  cases o with
  | cells cs t z=>
   refine ⟨by omega,fun p hp=>?_⟩
   obtain rfl:=List.mem_singleton.1 (show p∈[((0:Nat),[(.iface 259 (.agg #[.pointer (some ⟨1,209,none⟩)]):Value)])] from hp)
   exact ⟨dQ,t,z,ho.trans (congrArg (fun c=>some (Obj.cells c t z)) (Option.some.inj hc))⟩
  | _=>cases hc
set_option maxRecDepth 100000 in
theorem lifted (os:Os) (started:os.Started) (H:Type) (enc:TypeId×Value→H):
  ReturnsInHanded {} Tryz.checked os 4 .any (fun w args=>(Rows.fnExactGateGoingSpec.pre enc Tryz.prog Tryz.f4 [] false w args∧laidMetH Tryz.prog zQ w)∧sizedMet enc Tryz.prog Tryz.f4 (OpenSpec.ofChange Rows.fnExactGateGoingSpec) false w args)
   (Rows.fnExactGateGoingSpec.post enc Tryz.prog Tryz.f4 false true false false):=by
 refine returnsInHanded_of_change_and (C:=Tryz.checked) (X:=fun w _=>laidMetH Tryz.prog zQ w) (fun _ _ _ hh h=>h.of_heap hh) own started (by kernel_rfl) Tryz.func4
  (ChangeSpec.witness_at (enc:=enc) (C:=Tryz.checked) (os:=os) (X:=fun w _=>laidMetH Tryz.prog zQ w) false (Co os) #[.agg #[.slice none 0 0,.slice none 0 0,.slice none 0 0],.agg #[.int .i64 0,.int .i64 0,.int .i64 0,.slice none 0 0,.slice none 0 0,.slice none 0 0,.slice none 0 0]] 8 rfl (by kernel_rfl) (by kernel_rfl) (by kernel_rfl) (by kernel_rfl) (by kernel_rfl) (Bv os _)) ?_
 intro W base args ds gs before TI hW _ _ hL _
 have hW':=hW
 have dQ:=hW.lt
 obtain ⟨p,q,hA0,hV,rfl,hfz,Ck⟩:=hW
 have hA:DataW.TrodAll enc Tryz.prog W 0 (fun _=>true) true Tryz.f4.params.toList args.toList ds p:=hA0
 have VE:∀ (j:Nat) t v,Tryz.f4.params[j]?=some t→args[j]?=some v→Value.okWide Tryz.prog W .any base t v:=TI
 rw [Tryz.params4] at hA VE
 obtain ⟨rfl,rfl⟩:=trodVars_none hV
 obtain ⟨x,Eh,hv⟩:=aiQ (w:=W) base args.toList ds p hA fun j t v ht hv=>VE j t v (by simpa using ht) (by simpa using hv)
 obtain ⟨k,hk⟩:=Pu.Z1 x.1 x.2.1 Eh.1 Eh.2.1
 refine (YZ (c:=q9 k) (Bn k) x (show Bool from true) hk rfl (by kernel_rfl) (by kernel_rfl) (Gc hL) hv).mono fun e W' ⟨he,bel⟩=>?_
 subst he
 have Gd:=Jz laid bel reads hA fun x hx=>dQ x (by simpa using hx)
 obtain ⟨d0,d1,rfl⟩:∃ d0 d1,ds=[d0,d1]:=by
  have hl:=Ge hA
  match ds,hl with
  | [d0,d1],_=>exact ⟨d0,d1,rfl⟩
 exact ⟨_,rfl,_,_,_,[],_,[],hW',trodAll_mk1 (shut_bool Tryz.underlying4 _),Gd,rfl,bel.frame _,fun h=>by cases h⟩
set_option maxRecDepth 100000
theorem dW {a b:Bool} (h:a=true) (g:b=true):(a&&b)=true:=by rw [h,g];rfl
theorem cf0:Rows.fnExactGateGoingRow.wf (OpenSpec.ofChange Rows.fnExactGateGoingSpec)=true:=by kernel_rfl
theorem cf1:laidOutB Tryz.prog=true:=by kernel_rfl
theorem cf2:mapsRowed Tryz.prog=true:=by kernel_rfl
theorem cf3:Tryz.f4.params.all (Tryz.prog.readableRec ·)=true:=by kernel_rfl
theorem cf4:namedTie Tryz.prog Rows.fnExactGateGoingRow.named Rows.fnExactGateGoingSpec.vars=true:=by kernel_rfl
theorem cf5:(Rows.fnExactGateGoingRow.stops==[])=true:=by kernel_rfl
theorem cf6:(Tryz.prog.stops==[])=true:=by kernel_rfl
theorem cf7:(Rows.fnExactGateGoingRow.knobs==[])=true:=by kernel_rfl
theorem cf8:(Tryz.prog.stopKnobs==[])=true:=by kernel_rfl
theorem cf9:(Rows.fnExactGateGoingRow.inPlace==Tryz.prog.inPlace 4)=true:=by kernel_rfl
theorem afS:(Rows.fnExactGateGoingRow.unfollowed==Tryz.prog.unfollowed 4)=true:=by kernel_rfl
theorem afT:(Rows.fnExactGateGoingRow.recurses==Tryz.prog.recurses 4)=true:=by kernel_rfl
theorem afU:(Rows.fnExactGateGoingRow.named==Tryz.prog.varsNamed 4)=true:=by kernel_rfl
theorem afV:(Rows.fnExactGateGoingRow.maps==(Tryz.f4.params.toList++Rows.fnExactGateGoingSpec.plain.varTypes Tryz.prog).any (Tryz.prog.mapsRec ·))=true:=by kernel_rfl
theorem afW:(Rows.fnExactGateGoingRow.ifaces==(Tryz.f4.params.toList++Rows.fnExactGateGoingSpec.plain.varTypes Tryz.prog).any (Tryz.prog.ifacesRec ·))=true:=by kernel_rfl
theorem afX:(Rows.fnExactGateGoingRow.mapsOut==Tryz.prog.mapsAmong Tryz.f4.resultTypes.toList)=true:=by kernel_rfl
theorem afY:(Rows.fnExactGateGoingRow.loops==(Tryz.f4.params.toList++Rows.fnExactGateGoingSpec.plain.varTypes Tryz.prog).any (Tryz.prog.loopsFrom ·))=true:=by kernel_rfl
theorem afZ:(Rows.fnExactGateGoingRow.wideKeys==(Tryz.f4.params.toList++Rows.fnExactGateGoingSpec.plain.varTypes Tryz.prog++Tryz.f4.resultTypes.toList).any (Tryz.prog.wideKeysFrom ·))=true:=by kernel_rfl
theorem af0:Rows.fnExactGateGoingSpec.vars.all (Tryz.prog.varReadable ·)=true:=by kernel_rfl
theorem af1:Tryz.f4.resultTypes.all (fun t=>Tryz.prog.readableRec t&&decide (t < Tryz.prog.types.size))=true:=by kernel_rfl
theorem af2:(Rows.fnExactGateGoingRow.ifacesOut==Tryz.f4.resultTypes.toList.any (Tryz.prog.ifacesRec ·))=true:=by kernel_rfl
theorem af3:(Rows.fnExactGateGoingRow.loopsOut==Tryz.f4.resultTypes.toList.any (Tryz.prog.loopsFrom ·))=true:=by kernel_rfl
theorem af4:(Rows.fnExactGateGoingRow.plainKeys==Tryz.prog.plainKeys)=true:=by kernel_rfl
theorem af5:Rows.fnExactGateGoingRow.shortTexts.isNone=true:=by kernel_rfl
theorem af6:Tryz.prog.stopsHeard=true:=by kernel_rfl
theorem af7:Tryz.prog.mayEnter=true:=by kernel_rfl
theorem af8:(Rows.fnExactGateGoingRow.lifted==Tryz.prog.liftsFinal)=true:=by kernel_rfl
theorem af9:(Tryz.prog.make==some Rows.fnExactGateGoingRow.make)=true:=by kernel_rfl
theorem af_:(Rows.fnExactGateGoingRow.kinds==(if Rows.fnExactGateGoingRow.domain.isEmpty then [] else Tryz.f4.params.toList.map fun t=>match Tryz.prog.underlying t with | some (.int k)=>some k | _=>none))=true:=by kernel_rfl
theorem aga:(Rows.fnExactGateGoingRow.pinned==Rows.fnExactGateGoingRow.pinnedBy)=true:=by kernel_rfl
theorem agb:(Rows.fnExactGateGoingRow.veiled==(Tryz.f4.params.toList++Rows.fnExactGateGoingSpec.plain.varTypes Tryz.prog++Tryz.f4.resultTypes.toList).any (Tryz.prog.veiledRec ·))=true:=by kernel_rfl
theorem agc:Rows.fnExactGateGoingRow.veiledFits Tryz.prog Tryz.f4.params.toList (Tryz.f4.params.toList++Rows.fnExactGateGoingSpec.plain.varTypes Tryz.prog++Tryz.f4.resultTypes.toList)=true:=by kernel_rfl
theorem closed:joinedFacts Tryz.prog 4 Tryz.f4 Rows.fnExactGateGoingSpec Rows.fnExactGateGoingRow=true:=by
 unfold joinedFacts
 exact (dW (dW (dW (dW (dW (dW (dW (dW (dW (dW (dW (dW (dW (dW (dW (dW (dW (dW (dW (dW (dW (dW (dW (dW (dW (dW (dW (dW (dW (dW (dW cf0 cf1) cf2) cf3) cf4) cf5) cf6) cf7) cf8) cf9) afS) afT) afU) afV) afW) afX) afY) afZ) af0) af1) af2) af3) af4) af5) af6) af7) af8) af9) af_) aga) agb) agc)
theorem Mq:Rows.FnExactGateGoingSaid:=
 OpenClaim.holds_of_wide 4 Tryz.f4 rfl rfl rfl rfl rfl rfl rfl ⟨rfl,rfl,rfl,rfl,rfl⟩ rfl rfl rfl rfl rfl (by kernel_rfl) Tryz.func4 closed
  (of_decide_eq_true (by kernel_rfl)) (by unfold Func.isWrapper;first | (rw [if_pos (by decide +kernel)];kernel_rfl) | (rw [if_neg (by decide +kernel)];exact ⟨rfl,rfl⟩))
  (fun os started H enc _=>lifted os started H enc)
set_option maxRecDepth 100000 in
theorem holds:Rows.FnExactGateGoingCardSaid:=
 Claim7.holds_tied_plain_at .later [] [.handle] true (true, "640224ed7b11fe5d1d3d8e2d05ef4552ed855f2596184b36915d06d9f4bd3707") true
  Mq (fun _ h=>by cases h) (by kernel_rfl) (fun _ h=>by cases h) fnExactGateGoing_row_tie rfl ⟨rfl,rfl⟩ (by kernel_rfl) rfl
  (fun f fn hf TJ=>by
   obtain rfl:f=4:=Option.some.inj ((show Tryz.prog.funcNamed "loop.example/wharfgate/laws.FnExactGateGoing"=some 4 by kernel_rfl).symm.trans hf) |>.symm
   obtain rfl:fn=Tryz.f4:=(Option.some.inj (Tryz.func4.symm.trans TJ)).symm
   exact ⟨by kernel_rfl,fun j t ht=>by
    rw [Tryz.params4] at ht
    have hm:t∈[26,32]:=List.mem_of_getElem? (by simpa using ht)
    simp only [List.mem_cons,List.not_mem_nil,or_false] at hm
    rcases hm with rfl | rfl<;>first | exact (show Tryz.prog.wantsStandIn 26=false by kernel_rfl) | exact (show Tryz.prog.wantsStandIn 32=false by kernel_rfl)⟩)
  (by kernel_rfl)
end Go.Proofs.YtljfmaaadnoggaaGreatDoor.FnExactGateGoing
