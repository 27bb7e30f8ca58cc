/- laws.FnExactGateSafe: the row. No condition. -/
import Derived.Test.YtenfhlfofhjcoaaGreatDoorRows
import Derived.Test.YtenfhlfofhjcoaaGreatDoorFnPf
import Derived.Test.YtenfhlfofhjcoaaGreatDoorFnRd
import Derived.Test.YtenfhlfofhjcoaaGreatDoorLvSafe
import Derived.Test.YtenfhlfofhjcoaaGreatDoorCards
import Derived.Test.YtenfhlfofhjcoaaGreatDoorTie
import Derived.ChangeSame
import Derived.ChangeVars
import Derived.JoinedOf
import Derived.RowKitTokens
import Derived.LaidLaws
import Derived.LaidHandle
import Derived.Stop.Joined
import Derived.Stop.LaidErr
import Derived.SevenTiedAt
import Derived.WalkKit
import Derived.ProofKit
import Derived.OpenShut
import Derived.ShutString
import Derived.ChangeOld
namespace Go.Proofs.YtenfhlfofhjcoaaGreatDoor.FnExactGateSafe
open Go Go.ChangeShapes Go.WideShapes Go.ChangeAt Go.RowKit Go.Proofs.YtenfhlfofhjcoaaGreatDoor.Abs Go.Proofs.YtenfhlfofhjcoaaGreatDoor.Fn
theorem own:ownKnob Tryz.prog.godebug=none:=by kernel_rfl
theorem laid:laidOutB Tryz.prog=true:=by kernel_rfl
theorem reads:([26,32,61].all fun t=>Tryz.prog.readableRec t&&Nat.blt t Tryz.prog.types.size)=true:=by kernel_rfl
theorem et:Tryz.prog.globalNamed "errors.errorType"=some 0:=by kernel_rfl
theorem rt:(Tryz.prog.cutTypes.find? (·.1== "internal/reflectlite.rtype")).map (·.2)=some 323:=by kernel_rfl
theorem oneRow:((List.range 389).filter fun t=>Tryz.prog.rowNamed t [101,114,114,111,114])=[224]:=by kernel_rfl
theorem size:Tryz.prog.types.size=389:=by kernel_rfl
abbrev laidV:List (String×DataW Unit):=[("errors.errorType",Rows.laid_errors_errorType)]
theorem handle_var {W:World} (h:laidMetH Tryz.prog laidV W):W.var? Tryz.prog "errors.errorType"=some ⟨[.iface 323 (.agg #[.pointer (some ⟨1,224,none⟩)])]⟩:=by
 have h':laidMet Tryz.prog [] W∧handlesMet Tryz.prog laidV W:=h
 obtain ⟨name,u,ty,e1,e2,e3,e4,e5⟩:=h'.2 _ (List.mem_singleton.2 rfl)
 have en:name=[101,114,114,111,114]:=(Option.some.inj e1).symm
 subst en
 obtain rfl:=Option.some.inj (rt.symm.trans e2)
 have hm:ty∈(List.range 389).filter fun t=>Tryz.prog.rowNamed t [101,114,114,111,114]:=List.mem_filter.2 ⟨List.mem_range.2 (by rw [← size];exact e3),e4⟩
 rw [oneRow] at hm
 obtain rfl:=List.mem_singleton.1 hm
 have hh:typeHandle Tryz.prog 224=.pointer (some ⟨1,224,none⟩):=by kernel_rfl
 rw [hh] at e5
 exact e5
noncomputable def laidWorld (os:Os):World:=
 let w0:=World.holding Tryz.prog os ⟨#[],#[],[]⟩
 { w0 with heap:=w0.heap.modify 0 fun
   | .cells _ t frozen=>.cells #[.iface 323 (.agg #[.pointer (some ⟨1,224,none⟩)])] t frozen
   | o=>o }
theorem laidWorld_met (os:Os) (args:Array Value):laidMetH Tryz.prog laidV ((laidWorld os).forCall (fun _ _=>0) ⟨#[],args,[]⟩).memory:=
 laidMetH_of_parts (laidMet_nil _ _) (by kernel_rfl)
theorem pos_of_laid {W:World} (h:laidMetH Tryz.prog laidV W):Pos W (old W):=by
 have hc:=handle_var h
 have hg:Tryz.prog.globalNamed "errors.errorType"=some 0:=et
 unfold World.var? at hc
 rw [hg,Option.bind_some] at hc
 cases ho:W.heap[0]? with
 | none=>rw [ho] at hc;cases hc
 | some o=>
  have hlt:0 < W.heap.size:=(Array.getElem?_eq_some_iff.1 ho).1
  rw [ho] at hc
  cases o with
  | cells cs t z=>
   refine ⟨by omega,fun p hp=>?_⟩
   obtain rfl:=List.mem_singleton.1 (show p∈[((0:Nat),[(.iface 323 (.agg #[.pointer (some ⟨1,224,none⟩)]):Value)])] from hp)
   exact ⟨hlt,t,z,ho.trans (congrArg (fun c=>some (Obj.cells c t z)) (Option.some.inj hc))⟩
  | _=>cases hc
set_option maxRecDepth 100000 in
theorem lifted (os:Os) (started:os.Started) (H:Type) (enc:TypeId×Value→H):
  ReturnsInHanded {} Tryz.checked os 6 .any (fun w args=>(Rows.fnExactGateSafeSpec.pre enc Tryz.prog Tryz.f6 [] false w args∧laidMetH Tryz.prog laidV w)∧sizedMet enc Tryz.prog Tryz.f6 (OpenSpec.ofChange Rows.fnExactGateSafeSpec) false w args)
   (Rows.fnExactGateSafeSpec.post enc Tryz.prog Tryz.f6 false true false false):=by
 refine returnsInHanded_of_change_and (C:=Tryz.checked) (X:=fun w _=>laidMetH Tryz.prog laidV w) (fun _ _ _ hh h=>h.of_heap hh) own started (by kernel_rfl) Tryz.func6
  (ChangeSpec.witness_at (enc:=enc) (C:=Tryz.checked) (os:=os) (X:=fun w _=>laidMetH Tryz.prog laidV w) false (laidWorld os) #[.agg #[.slice none 0 0,.slice none 0 0,.slice none 0 0],.agg #[.int .i64 0,.int .i64 0,.int .i64 0,.slice none 0 0,.slice none 0 0,.slice none 0 0,.slice none 0 0],.agg #[.int .i64 0,.int .i64 0,.int .i64 0,.slice none 0 0,.slice none 0 0,.slice none 0 0,.slice none 0 0,.slice none 0 0]] 8 rfl (by kernel_rfl) (by kernel_rfl) (by kernel_rfl) (by kernel_rfl) (by kernel_rfl) (laidWorld_met os _)) ?_
 intro W base args ds gs before hval hW _ _ hL _
 have hW':=hW
 have hlt:=hW.lt
 obtain ⟨p,q,hA0,hV,rfl,hfz,hnd⟩:=hW
 have hA:DataW.TrodAll enc Tryz.prog W 0 (fun _=>true) true Tryz.f6.params.toList args.toList ds p:=hA0
 have hval':∀ (j:Nat) t v,Tryz.f6.params[j]?=some t→args[j]?=some v→Value.okWide Tryz.prog W .any base t v:=hval
 rw [Tryz.params6] at hA hval'
 obtain ⟨rfl,rfl⟩:=trodVars_none hV
 obtain ⟨x,hok,hv⟩:=rda6 (w:=W) base args.toList ds p hA fun j t v ht hv=>hval' j t v (by simpa using ht) (by simpa using hv)
 obtain ⟨k,hk⟩:=Pu.safe_law x.1 x.2.1 x.2.2.1 hok.1 hok.2.1 hok.2.2.1
 refine (law_row (c:=c_laws_FnExactGateSafe k) (ok_laws_FnExactGateSafe k) x (show Bool from true) hk rfl (by kernel_rfl) (by kernel_rfl) (pos_of_laid hL) hv).mono fun e W' ⟨he,bel⟩=>?_
 subst he
 have hargs:=below_args laid bel reads hA fun x hx=>hlt x (by simpa using hx)
 obtain ⟨d0,d1,d2,rfl⟩:∃ d0 d1 d2,ds=[d0,d1,d2]:=by
  have hl:=trodAll_len hA
  match ds,hl with
  | [d0,d1,d2],_=>exact ⟨d0,d1,d2,rfl⟩
 exact ⟨_,rfl,_,_,_,[],_,[],hW',trodAll_mk1 (shut_bool Tryz.underlying4 _),hargs,rfl,bel.frame _,fun h=>by cases h⟩
set_option maxRecDepth 100000
theorem and2 {a b:Bool} (h:a=true) (g:b=true):(a&&b)=true:=by rw [h,g];rfl
theorem cf0:Rows.fnExactGateSafeRow.wf (OpenSpec.ofChange Rows.fnExactGateSafeSpec)=true:=by kernel_rfl
theorem cf1:laidOutB Tryz.prog=true:=by kernel_rfl
theorem cf2:mapsRowed Tryz.prog=true:=by kernel_rfl
theorem cf3:Tryz.f6.params.all (Tryz.prog.readableRec ·)=true:=by kernel_rfl
theorem cf4:namedTie Tryz.prog Rows.fnExactGateSafeRow.named Rows.fnExactGateSafeSpec.vars=true:=by kernel_rfl
theorem cf5:(Rows.fnExactGateSafeRow.stops==[])=true:=by kernel_rfl
theorem cf6:(Tryz.prog.stops==[])=true:=by kernel_rfl
theorem cf7:(Rows.fnExactGateSafeRow.knobs==[])=true:=by kernel_rfl
theorem cf8:(Tryz.prog.stopKnobs==[])=true:=by kernel_rfl
theorem cf9:(Rows.fnExactGateSafeRow.inPlace==Tryz.prog.inPlace 6)=true:=by kernel_rfl
theorem cf10:(Rows.fnExactGateSafeRow.unfollowed==Tryz.prog.unfollowed 6)=true:=by kernel_rfl
theorem cf11:(Rows.fnExactGateSafeRow.recurses==Tryz.prog.recurses 6)=true:=by kernel_rfl
theorem cf12:(Rows.fnExactGateSafeRow.named==Tryz.prog.varsNamed 6)=true:=by kernel_rfl
theorem cf13:(Rows.fnExactGateSafeRow.maps==(Tryz.f6.params.toList++Rows.fnExactGateSafeSpec.plain.varTypes Tryz.prog).any (Tryz.prog.mapsRec ·))=true:=by kernel_rfl
theorem cf14:(Rows.fnExactGateSafeRow.ifaces==(Tryz.f6.params.toList++Rows.fnExactGateSafeSpec.plain.varTypes Tryz.prog).any (Tryz.prog.ifacesRec ·))=true:=by kernel_rfl
theorem cf15:(Rows.fnExactGateSafeRow.mapsOut==Tryz.prog.mapsAmong Tryz.f6.resultTypes.toList)=true:=by kernel_rfl
theorem cf16:(Rows.fnExactGateSafeRow.loops==(Tryz.f6.params.toList++Rows.fnExactGateSafeSpec.plain.varTypes Tryz.prog).any (Tryz.prog.loopsFrom ·))=true:=by kernel_rfl
theorem cf17:(Rows.fnExactGateSafeRow.wideKeys==(Tryz.f6.params.toList++Rows.fnExactGateSafeSpec.plain.varTypes Tryz.prog++Tryz.f6.resultTypes.toList).any (Tryz.prog.wideKeysFrom ·))=true:=by kernel_rfl
theorem cf18:Rows.fnExactGateSafeSpec.vars.all (Tryz.prog.varReadable ·)=true:=by kernel_rfl
theorem cf19:Tryz.f6.resultTypes.all (fun t=>Tryz.prog.readableRec t&&decide (t < Tryz.prog.types.size))=true:=by kernel_rfl
theorem cf20:(Rows.fnExactGateSafeRow.ifacesOut==Tryz.f6.resultTypes.toList.any (Tryz.prog.ifacesRec ·))=true:=by kernel_rfl
theorem cf21:(Rows.fnExactGateSafeRow.loopsOut==Tryz.f6.resultTypes.toList.any (Tryz.prog.loopsFrom ·))=true:=by kernel_rfl
theorem cf22:(Rows.fnExactGateSafeRow.plainKeys==Tryz.prog.plainKeys)=true:=by kernel_rfl
theorem cf23:Rows.fnExactGateSafeRow.shortTexts.isNone=true:=by kernel_rfl
theorem cf24:Tryz.prog.stopsHeard=true:=by kernel_rfl
theorem cf25:Tryz.prog.mayEnter=true:=by kernel_rfl
theorem cf26:(Rows.fnExactGateSafeRow.lifted==Tryz.prog.liftsFinal)=true:=by kernel_rfl
theorem cf27:(Tryz.prog.make==some Rows.fnExactGateSafeRow.make)=true:=by kernel_rfl
theorem cf28:(Rows.fnExactGateSafeRow.kinds==(if Rows.fnExactGateSafeRow.domain.isEmpty then [] else Tryz.f6.params.toList.map fun t=>match Tryz.prog.underlying t with | some (.int k)=>some k | _=>none))=true:=by kernel_rfl
theorem cf29:(Rows.fnExactGateSafeRow.pinned==Rows.fnExactGateSafeRow.pinnedBy)=true:=by kernel_rfl
theorem cf30:(Rows.fnExactGateSafeRow.veiled==(Tryz.f6.params.toList++Rows.fnExactGateSafeSpec.plain.varTypes Tryz.prog++Tryz.f6.resultTypes.toList).any (Tryz.prog.veiledRec ·))=true:=by kernel_rfl
theorem cf31:Rows.fnExactGateSafeRow.veiledFits Tryz.prog Tryz.f6.params.toList (Tryz.f6.params.toList++Rows.fnExactGateSafeSpec.plain.varTypes Tryz.prog++Tryz.f6.resultTypes.toList)=true:=by kernel_rfl
theorem closed:joinedFacts Tryz.prog 6 Tryz.f6 Rows.fnExactGateSafeSpec Rows.fnExactGateSafeRow=true:=by
 unfold joinedFacts
 exact (and2 (and2 (and2 (and2 (and2 (and2 (and2 (and2 (and2 (and2 (and2 (and2 (and2 (and2 (and2 (and2 (and2 (and2 (and2 (and2 (and2 (and2 (and2 (and2 (and2 (and2 (and2 (and2 (and2 (and2 (and2 cf0 cf1) cf2) cf3) cf4) cf5) cf6) cf7) cf8) cf9) cf10) cf11) cf12) cf13) cf14) cf15) cf16) cf17) cf18) cf19) cf20) cf21) cf22) cf23) cf24) cf25) cf26) cf27) cf28) cf29) cf30) cf31)
theorem row_holds:Rows.FnExactGateSafeSaid:=
 OpenClaim.holds_of_wide 6 Tryz.f6 rfl rfl rfl rfl rfl rfl rfl ⟨rfl,rfl,rfl,rfl,rfl⟩ rfl rfl rfl rfl rfl (by kernel_rfl) Tryz.func6 closed
  (of_decide_eq_true (by kernel_rfl)) (by unfold Func.isWrapper;first | (rw [if_pos (by decide +kernel)];kernel_rfl) | (rw [if_neg (by decide +kernel)];exact ⟨rfl,rfl⟩))
  (fun os started H enc _=>lifted os started H enc)
set_option maxRecDepth 100000 in
theorem holds:Rows.FnExactGateSafeCardSaid:=
 Claim7.holds_tied_plain_at .later [] [.handle] true (true, "08d3ae6deeef7bfb7d29769eb91e375fdfd628ecea8f498e1a8aa75601e03354") true
  row_holds (fun _ h=>by cases h) (by kernel_rfl) (fun _ h=>by cases h) fnExactGateSafe_row_tie rfl ⟨rfl,rfl⟩ (by kernel_rfl) rfl
  (fun f fn hf hfn=>by
   obtain rfl:f=6:=Option.some.inj ((show Tryz.prog.funcNamed "loop.example/wharfgate/laws.FnExactGateSafe"=some 6 by kernel_rfl).symm.trans hf) |>.symm
   obtain rfl:fn=Tryz.f6:=(Option.some.inj (Tryz.func6.symm.trans hfn)).symm
   exact ⟨by kernel_rfl,fun j t ht=>by
    rw [Tryz.params6] at ht
    have hm:t∈[26,32,61]:=List.mem_of_getElem? (by simpa using ht)
    simp only [List.mem_cons,List.not_mem_nil,or_false] at hm
    rcases hm with rfl | rfl | rfl<;>first | exact (show Tryz.prog.wantsStandIn 26=false by kernel_rfl) | exact (show Tryz.prog.wantsStandIn 32=false by kernel_rfl) | exact (show Tryz.prog.wantsStandIn 61=false by kernel_rfl)⟩)
  (by kernel_rfl)
end Go.Proofs.YtenfhlfofhjcoaaGreatDoor.FnExactGateSafe
