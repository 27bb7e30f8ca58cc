/- laws.FnExactGateMay: the row. No condition. -/
import Derived.Test.YtenfhlfofhjcoaaGreatDoorRows
import Derived.Test.YtenfhlfofhjcoaaGreatDoorFnPf
import Derived.Test.YtenfhlfofhjcoaaGreatDoorFnRd
import Derived.Test.YtenfhlfofhjcoaaGreatDoorLvMay
import Derived.Test.YtenfhlfofhjcoaaGreatDoorCards
import Derived.Test.YtenfhlfofhjcoaaGreatDoorTie
import Derived.ChangeSame
import Derived.ChangeVars
import Derived.JoinedOf
import Derived.RowKitTokens
import Derived.LaidLaws
import Derived.LaidHandle
import Derived.Stop.Joined
import Derived.Stop.LaidErr
import Derived.SevenTiedAt
import Derived.WalkKit
import Derived.ProofKit
import Derived.OpenShut
import Derived.ShutString
import Derived.ChangeOld
namespace Go.Proofs.YtenfhlfofhjcoaaGreatDoor.FnExactGateMay
open Go Go.ChangeShapes Go.WideShapes Go.ChangeAt Go.RowKit Go.Proofs.YtenfhlfofhjcoaaGreatDoor.Abs Go.Proofs.YtenfhlfofhjcoaaGreatDoor.Fn
theorem own:ownKnob Tryz.prog.godebug=none:=by kernel_rfl
theorem laid:laidOutB Tryz.prog=true:=by kernel_rfl
theorem reads:([26,32,9,53].all fun t=>Tryz.prog.readableRec t&&Nat.blt t Tryz.prog.types.size)=true:=by kernel_rfl
theorem et:Tryz.prog.globalNamed "errors.errorType"=some 0:=by kernel_rfl
theorem rt:(Tryz.prog.cutTypes.find? (·.1== "internal/reflectlite.rtype")).map (·.2)=some 323:=by kernel_rfl
theorem oneRow:((List.range 389).filter fun t=>Tryz.prog.rowNamed t [101,114,114,111,114])=[224]:=by kernel_rfl
theorem size:Tryz.prog.types.size=389:=by kernel_rfl
abbrev laidV:List (String×DataW Unit):=[("errors.errorType",Rows.laid_errors_errorType)]
theorem handle_var {W:World} (h:laidMetH Tryz.prog laidV W):W.var? Tryz.prog "errors.errorType"=some ⟨[.iface 323 (.agg #[.pointer (some ⟨1,224,none⟩)])]⟩:=by
 have h':laidMet Tryz.prog [] W∧handlesMet Tryz.prog laidV W:=h
 obtain ⟨name,u,ty,e1,e2,e3,e4,e5⟩:=h'.2 _ (List.mem_singleton.2 rfl)
 have en:name=[101,114,114,111,114]:=(Option.some.inj e1).symm
 subst en
 obtain rfl:=Option.some.inj (rt.symm.trans e2)
 have hm:ty∈(List.range 389).filter fun t=>Tryz.prog.rowNamed t [101,114,114,111,114]:=List.mem_filter.2 ⟨List.mem_range.2 (by rw [← size];exact e3),e4⟩
 rw [oneRow] at hm
 obtain rfl:=List.mem_singleton.1 hm
 have hh:typeHandle Tryz.prog 224=.pointer (some ⟨1,224,none⟩):=by kernel_rfl
 rw [hh] at e5
 exact e5
noncomputable def laidWorld (os:Os):World:=
 let w0:=World.holding Tryz.prog os ⟨#[],#[],[]⟩
 { w0 with heap:=w0.heap.modify 0 fun
   | .cells _ t frozen=>.cells #[.iface 323 (.agg #[.pointer (some ⟨1,224,none⟩)])] t frozen
   | o=>o }
theorem laidWorld_met (os:Os) (args:Array Value):laidMetH Tryz.prog laidV ((laidWorld os).forCall (fun _ _=>0) ⟨#[],args,[]⟩).memory:=
 laidMetH_of_parts (laidMet_nil _ _) (by kernel_rfl)
theorem pos_of_laid {W:World} (h:laidMetH Tryz.prog laidV W):Pos W (old W):=by
 have hc:=handle_var h
 have hg:Tryz.prog.globalNamed "errors.errorType"=some 0:=et
 unfold World.var? at hc
 rw [hg,Option.bind_some] at hc
 cases ho:W.heap[0]? with
 | none=>rw [ho] at hc;cases hc
 | some o=>
  have hlt:0 < W.heap.size:=(Array.getElem?_eq_some_iff.1 ho).1
  rw [ho] at hc
  cases o with
  | cells cs t z=>
   refine ⟨by omega,fun p hp=>?_⟩
   obtain rfl:=List.mem_singleton.1 (show p∈[((0:Nat),[(.iface 323 (.agg #[.pointer (some ⟨1,224,none⟩)]):Value)])] from hp)
   exact ⟨hlt,t,z,ho.trans (congrArg (fun c=>some (Obj.cells c t z)) (Option.some.inj hc))⟩
  | _=>cases hc
set_option maxRecDepth 100000 in
theorem lifted (os:Os) (started:os.Started) (H:Type) (enc:TypeId×Value→H):
  ReturnsInHanded {} Tryz.checked os 4 .any (fun w args=>(Rows.fnExactGateMaySpec.pre enc Tryz.prog Tryz.f4 [] false w args∧laidMetH Tryz.prog laidV w)∧sizedMet enc Tryz.prog Tryz.f4 (OpenSpec.ofChange Rows.fnExactGateMaySpec) false w args)
   (Rows.fnExactGateMaySpec.post enc Tryz.prog Tryz.f4 false true false false):=by
 refine returnsInHanded_of_change_and (C:=Tryz.checked) (X:=fun w _=>laidMetH Tryz.prog laidV w) (fun _ _ _ hh h=>h.of_heap hh) own started (by kernel_rfl) Tryz.func4
  (ChangeSpec.witness_at (enc:=enc) (C:=Tryz.checked) (os:=os) (X:=fun w _=>laidMetH Tryz.prog laidV w) false (laidWorld os) #[.agg #[.slice none 0 0,.slice none 0 0,.slice none 0 0],.agg #[.int .i64 0,.int .i64 0,.int .i64 0,.slice none 0 0,.slice none 0 0,.slice none 0 0,.slice none 0 0],.string ⟨#[]⟩,.agg #[.int .i64 0,.string ⟨#[]⟩,.string ⟨#[]⟩,.string ⟨#[]⟩]] 8 rfl (by kernel_rfl) (by kernel_rfl) (by kernel_rfl) (by kernel_rfl) (by kernel_rfl) (laidWorld_met os _)) ?_
 intro W base args ds gs before hval hW _ _ hL _
 have hW':=hW
 have hlt:=hW.lt
 obtain ⟨p,q,hA0,hV,rfl,hfz,hnd⟩:=hW
 have hA:DataW.TrodAll enc Tryz.prog W 0 (fun _=>true) true Tryz.f4.params.toList args.toList ds p:=hA0
 have hval':∀ (j:Nat) t v,Tryz.f4.params[j]?=some t→args[j]?=some v→Value.okWide Tryz.prog W .any base t v:=hval
 rw [Tryz.params4] at hA hval'
 obtain ⟨rfl,rfl⟩:=trodVars_none hV
 obtain ⟨x,hok,hv⟩:=rda4 (w:=W) base args.toList ds p hA fun j t v ht hv=>hval' j t v (by simpa using ht) (by simpa using hv)
 obtain ⟨k,hk⟩:=Pu.may_law x.1 x.2.1 x.2.2.1 x.2.2.2.1 hok.1 hok.2.1 hok.2.2.1 hok.2.2.2.1
 refine (law_row (c:=c_laws_FnExactGateMay k) (ok_laws_FnExactGateMay k) x (show Bool from true) hk rfl (by kernel_rfl) (by kernel_rfl) (pos_of_laid hL) hv).mono fun e W' ⟨he,bel⟩=>?_
 subst he
 have hargs:=below_args laid bel reads hA fun x hx=>hlt x (by simpa using hx)
 obtain ⟨d0,d1,d2,d3,rfl⟩:∃ d0 d1 d2 d3,ds=[d0,d1,d2,d3]:=by
  have hl:=trodAll_len hA
  match ds,hl with
  | [d0,d1,d2,d3],_=>exact ⟨d0,d1,d2,d3,rfl⟩
 exact ⟨_,rfl,_,_,_,[],_,[],hW',trodAll_mk1 (shut_bool Tryz.underlying4 _),hargs,rfl,bel.frame _,fun h=>by cases h⟩
set_option maxRecDepth 100000
theorem and2 {a b:Bool} (h:a=true) (g:b=true):(a&&b)=true:=by rw [h,g];rfl
theorem cf0:Rows.fnExactGateMayRow.wf (OpenSpec.ofChange Rows.fnExactGateMaySpec)=true:=by kernel_rfl
theorem cf1:laidOutB Tryz.prog=true:=by kernel_rfl
theorem cf2:mapsRowed Tryz.prog=true:=by kernel_rfl
theorem cf3:Tryz.f4.params.all (Tryz.prog.readableRec ·)=true:=by kernel_rfl
theorem cf4:namedTie Tryz.prog Rows.fnExactGateMayRow.named Rows.fnExactGateMaySpec.vars=true:=by kernel_rfl
theorem cf5:(Rows.fnExactGateMayRow.stops==[])=true:=by kernel_rfl
theorem cf6:(Tryz.prog.stops==[])=true:=by kernel_rfl
theorem cf7:(Rows.fnExactGateMayRow.knobs==[])=true:=by kernel_rfl
theorem cf8:(Tryz.prog.stopKnobs==[])=true:=by kernel_rfl
theorem cf9:(Rows.fnExactGateMayRow.inPlace==Tryz.prog.inPlace 4)=true:=by kernel_rfl
theorem cf10:(Rows.fnExactGateMayRow.unfollowed==Tryz.prog.unfollowed 4)=true:=by kernel_rfl
theorem cf11:(Rows.fnExactGateMayRow.recurses==Tryz.prog.recurses 4)=true:=by kernel_rfl
theorem cf12:(Rows.fnExactGateMayRow.named==Tryz.prog.varsNamed 4)=true:=by kernel_rfl
theorem cf13:(Rows.fnExactGateMayRow.maps==(Tryz.f4.params.toList++Rows.fnExactGateMaySpec.plain.varTypes Tryz.prog).any (Tryz.prog.mapsRec ·))=true:=by kernel_rfl
theorem cf14:(Rows.fnExactGateMayRow.ifaces==(Tryz.f4.params.toList++Rows.fnExactGateMaySpec.plain.varTypes Tryz.prog).any (Tryz.prog.ifacesRec ·))=true:=by kernel_rfl
theorem cf15:(Rows.fnExactGateMayRow.mapsOut==Tryz.prog.mapsAmong Tryz.f4.resultTypes.toList)=true:=by kernel_rfl
theorem cf16:(Rows.fnExactGateMayRow.loops==(Tryz.f4.params.toList++Rows.fnExactGateMaySpec.plain.varTypes Tryz.prog).any (Tryz.prog.loopsFrom ·))=true:=by kernel_rfl
theorem cf17:(Rows.fnExactGateMayRow.wideKeys==(Tryz.f4.params.toList++Rows.fnExactGateMaySpec.plain.varTypes Tryz.prog++Tryz.f4.resultTypes.toList).any (Tryz.prog.wideKeysFrom ·))=true:=by kernel_rfl
theorem cf18:Rows.fnExactGateMaySpec.vars.all (Tryz.prog.varReadable ·)=true:=by kernel_rfl
theorem cf19:Tryz.f4.resultTypes.all (fun t=>Tryz.prog.readableRec t&&decide (t < Tryz.prog.types.size))=true:=by kernel_rfl
theorem cf20:(Rows.fnExactGateMayRow.ifacesOut==Tryz.f4.resultTypes.toList.any (Tryz.prog.ifacesRec ·))=true:=by kernel_rfl
theorem cf21:(Rows.fnExactGateMayRow.loopsOut==Tryz.f4.resultTypes.toList.any (Tryz.prog.loopsFrom ·))=true:=by kernel_rfl
theorem cf22:(Rows.fnExactGateMayRow.plainKeys==Tryz.prog.plainKeys)=true:=by kernel_rfl
theorem cf23:Rows.fnExactGateMayRow.shortTexts.isNone=true:=by kernel_rfl
theorem cf24:Tryz.prog.stopsHeard=true:=by kernel_rfl
theorem cf25:Tryz.prog.mayEnter=true:=by kernel_rfl
theorem cf26:(Rows.fnExactGateMayRow.lifted==Tryz.prog.liftsFinal)=true:=by kernel_rfl
theorem cf27:(Tryz.prog.make==some Rows.fnExactGateMayRow.make)=true:=by kernel_rfl
theorem cf28:(Rows.fnExactGateMayRow.kinds==(if Rows.fnExactGateMayRow.domain.isEmpty then [] else Tryz.f4.params.toList.map fun t=>match Tryz.prog.underlying t with | some (.int k)=>some k | _=>none))=true:=by kernel_rfl
theorem cf29:(Rows.fnExactGateMayRow.pinned==Rows.fnExactGateMayRow.pinnedBy)=true:=by kernel_rfl
theorem cf30:(Rows.fnExactGateMayRow.veiled==(Tryz.f4.params.toList++Rows.fnExactGateMaySpec.plain.varTypes Tryz.prog++Tryz.f4.resultTypes.toList).any (Tryz.prog.veiledRec ·))=true:=by kernel_rfl
theorem cf31:Rows.fnExactGateMayRow.veiledFits Tryz.prog Tryz.f4.params.toList (Tryz.f4.params.toList++Rows.fnExactGateMaySpec.plain.varTypes Tryz.prog++Tryz.f4.resultTypes.toList)=true:=by kernel_rfl
theorem closed:joinedFacts Tryz.prog 4 Tryz.f4 Rows.fnExactGateMaySpec Rows.fnExactGateMayRow=true:=by
 unfold joinedFacts
 exact (and2 (and2 (and2 (and2 (and2 (and2 (and2 (and2 (and2 (and2 (and2 (and2 (and2 (and2 (and2 (and2 (and2 (and2 (and2 (and2 (and2 (and2 (and2 (and2 (and2 (and2 (and2 (and2 (and2 (and2 (and2 cf0 cf1) cf2) cf3) cf4) cf5) cf6) cf7) cf8) cf9) cf10) cf11) cf12) cf13) cf14) cf15) cf16) cf17) cf18) cf19) cf20) cf21) cf22) cf23) cf24) cf25) cf26) cf27) cf28) cf29) cf30) cf31)
theorem row_holds:Rows.FnExactGateMaySaid:=
 OpenClaim.holds_of_wide 4 Tryz.f4 rfl rfl rfl rfl rfl rfl rfl ⟨rfl,rfl,rfl,rfl,rfl⟩ rfl rfl rfl rfl rfl (by kernel_rfl) Tryz.func4 closed
  (of_decide_eq_true (by kernel_rfl)) (by unfold Func.isWrapper;first | (rw [if_pos (by decide +kernel)];kernel_rfl) | (rw [if_neg (by decide +kernel)];exact ⟨rfl,rfl⟩))
  (fun os started H enc _=>lifted os started H enc)
set_option maxRecDepth 100000 in
theorem holds:Rows.FnExactGateMayCardSaid:=
 Claim7.holds_tied_plain_at .later [] [.handle] true (true, "08d3ae6deeef7bfb7d29769eb91e375fdfd628ecea8f498e1a8aa75601e03354") true
  row_holds (fun _ h=>by cases h) (by kernel_rfl) (fun _ h=>by cases h) fnExactGateMay_row_tie rfl ⟨rfl,rfl⟩ (by kernel_rfl) rfl
  (fun f fn hf hfn=>by
   obtain rfl:f=4:=Option.some.inj ((show Tryz.prog.funcNamed "loop.example/wharfgate/laws.FnExactGateMay"=some 4 by kernel_rfl).symm.trans hf) |>.symm
   obtain rfl:fn=Tryz.f4:=(Option.some.inj (Tryz.func4.symm.trans hfn)).symm
   exact ⟨by kernel_rfl,fun j t ht=>by
    rw [Tryz.params4] at ht
    have hm:t∈[26,32,9,53]:=List.mem_of_getElem? (by simpa using ht)
    simp only [List.mem_cons,List.not_mem_nil,or_false] at hm
    rcases hm with rfl | rfl | rfl | rfl<;>first | exact (show Tryz.prog.wantsStandIn 26=false by kernel_rfl) | exact (show Tryz.prog.wantsStandIn 32=false by kernel_rfl) | exact (show Tryz.prog.wantsStandIn 9=false by kernel_rfl) | exact (show Tryz.prog.wantsStandIn 53=false by kernel_rfl)⟩)
  (by kernel_rfl)
end Go.Proofs.YtenfhlfofhjcoaaGreatDoor.FnExactGateMay
