/- laws.FnExactGateDraw: the row. No condition. -/
import Derived.Test.YtjkbbdldmdajkaaGreatDoorRows
import Derived.Test.YtjkbbdldmdajkaaGreatDoorFnPf
import Derived.Test.YtjkbbdldmdajkaaGreatDoorFnRd
import Derived.Test.YtjkbbdldmdajkaaGreatDoorLvDraw
import Derived.Test.YtjkbbdldmdajkaaGreatDoorCards
import Derived.Test.YtjkbbdldmdajkaaGreatDoorTie
import Derived.ChangeSame
import Derived.ChangeVars
import Derived.JoinedOf
import Derived.RowKitTokens
import Derived.LaidLaws
import Derived.LaidHandle
import Derived.Stop.Joined
import Derived.Stop.LaidErr
import Derived.SevenTiedAt
import Derived.WalkKit
import Derived.ProofKit
import Derived.OpenShut
import Derived.ShutString
import Derived.ChangeOld
namespace Go.Proofs.YtjkbbdldmdajkaaGreatDoor.FnExactGateDraw
open Go Go.ChangeShapes Go.WideShapes Go.ChangeAt Go.RowKit Go.Proofs.YtjkbbdldmdajkaaGreatDoor.c5 Go.Proofs.YtjkbbdldmdajkaaGreatDoor.Fn
theorem own:ownKnob Tryz.prog.godebug=none:=by kernel_rfl
theorem laid:laidOutB Tryz.prog=true:=by kernel_rfl
theorem reads:([26,32,9,9,9,3].all fun t=>Tryz.prog.readableRec t&&Nat.blt t Tryz.prog.types.size)=true:=by kernel_rfl
theorem et:Tryz.prog.globalNamed "errors.errorType"=some 0:=by kernel_rfl
theorem rt:(Tryz.prog.cutTypes.find? (·.1== "internal/reflectlite.rtype")).map (·.2)=some 296:=by kernel_rfl
theorem adF:((List.range 339).filter fun t=>Tryz.prog.rowNamed t [101,114,114,111,114])=[250]:=by kernel_rfl
theorem size:Tryz.prog.types.size=339:=by kernel_rfl
abbrev MU:List (String×DataW Unit):=[("errors.errorType",Rows.laid_errors_errorType)]
theorem UF {W:World} (h:laidMetH Tryz.prog MU W):W.var? Tryz.prog "errors.errorType"=some ⟨[.iface 296 (.agg #[.pointer (some ⟨1,250,none⟩)])]⟩:=by
 have h':laidMet Tryz.prog [] W∧handlesMet Tryz.prog MU W:=h;obtain ⟨name,u,ty,e1,e2,e3,e4,e5⟩:=h'.2 _ (List.mem_singleton.2 rfl);have en:name=[101,114,114,111,114]:=(Option.some.inj e1).symm;subst en;obtain rfl:=Option.some.inj (rt.symm.trans e2);have hm:ty∈(List.range 339).filter fun t=>Tryz.prog.rowNamed t [101,114,114,111,114]:=List.mem_filter.2 ⟨List.mem_range.2 (by rw [← size];exact e3),e4⟩;rw [adF] at hm;obtain rfl:=List.mem_singleton.1 hm;have hh:typeHandle Tryz.prog 250=.pointer (some ⟨1,250,none⟩):=by kernel_rfl
 rw [hh] at e5;exact e5
noncomputable def PE (os:Os):World:=
 let w0:=World.holding Tryz.prog os ⟨#[],#[],[]⟩
 { w0 with heap:=w0.heap.modify 0 fun
   | .cells _ t frozen=>.cells #[.iface 296 (.agg #[.pointer (some ⟨1,250,none⟩)])] t frozen
   | o=>o }
theorem OJ (os:Os) (args:Array Value):laidMetH Tryz.prog MU ((PE os).forCall (fun _ _=>0) ⟨#[],args,[]⟩).memory:=
 laidMetH_of_parts (laidMet_nil _ _) (by kernel_rfl)
theorem SG {W:World} (h:laidMetH Tryz.prog MU W):Pos W (F_ W):=by
 have hc:=UF h;have hg:Tryz.prog.globalNamed "errors.errorType"=some 0:=et;unfold World.var? at hc;rw [hg,Option.bind_some] at hc;cases ho:W.heap[0]? with
 | none=>rw [ho] at hc;cases hc
 | some o=>
  have dY:0 < W.heap.size:=(Array.getElem?_eq_some_iff.1 ho).1;rw [ho] at hc;cases o with
  | cells cs t z=>
   refine ⟨by omega,fun p hp=>?_⟩;obtain rfl:=List.mem_singleton.1 (show p∈[((0:Nat),[(.iface 296 (.agg #[.pointer (some ⟨1,250,none⟩)]):Value)])] from hp);exact ⟨dY,t,z,ho.trans (congrArg (fun c=>some (Obj.cells c t z)) (Option.some.inj hc))⟩
  | _=>cases hc
set_option maxRecDepth 100000 in
theorem lifted (os:Os) (started:os.Started) (H:Type) (enc:TypeId×Value→H):
  ReturnsInHanded {} Tryz.checked os 6 .any (fun w args=>(Rows.fnExactGateDrawSpec.pre enc Tryz.prog Tryz.f6 [] false w args∧laidMetH Tryz.prog MU w)∧sizedMet enc Tryz.prog Tryz.f6 (OpenSpec.ofChange Rows.fnExactGateDrawSpec) false w args)
   (Rows.fnExactGateDrawSpec.post enc Tryz.prog Tryz.f6 false true false false):=by
 refine returnsInHanded_of_change_and (C:=Tryz.checked) (X:=fun w _=>laidMetH Tryz.prog MU w) (fun _ _ _ hh h=>h.of_heap hh) own started (by kernel_rfl) Tryz.func6
  (ChangeSpec.witness_at (enc:=enc) (C:=Tryz.checked) (os:=os) (X:=fun w _=>laidMetH Tryz.prog MU w) false (PE os) #[.agg #[.slice none 0 0,.slice none 0 0,.slice none 0 0],.agg #[.int .i64 0,.int .i64 0,.int .i64 0,.slice none 0 0,.slice none 0 0,.slice none 0 0,.slice none 0 0],.string ⟨#[]⟩,.string ⟨#[]⟩,.string ⟨#[]⟩,.int .i64 0] 8 rfl (by kernel_rfl) (by kernel_rfl) (by kernel_rfl) (by kernel_rfl) (by kernel_rfl) (OJ os _)) ?_
 intro W base args ds gs before UG hW _ _ hL _;have hW':=hW;have dY:=hW.lt;obtain ⟨p,q,hA0,hV,rfl,hfz,zg⟩:=hW;have hA:DataW.TrodAll enc Tryz.prog W 0 (fun _=>true) true Tryz.f6.params.toList args.toList ds p:=hA0;have acH:∀ (j:Nat) t v,Tryz.f6.params[j]?=some t→args[j]?=some v→Value.okWide Tryz.prog W .any base t v:=UG;rw [Tryz.params6] at hA acH;obtain ⟨rfl,rfl⟩:=trodVars_none hV;obtain ⟨x,u9,hv⟩:=ago (w:=W) base args.toList ds p hA fun j t v ht hv=>acH j t v (by simpa using ht) (by simpa using hv);obtain ⟨k,hk⟩:=Pu.YS x.1 x.2.1 x.2.2.1 x.2.2.2.1 x.2.2.2.2.1 x.2.2.2.2.2.1 u9.1 u9.2.1 u9.2.2.1 u9.2.2.2.1 u9.2.2.2.2.1 u9.2.2.2.2.2.1;refine (abj (c:=rz k) (AA k) x (show Bool from true) hk rfl (by kernel_rfl) (by kernel_rfl) (SG hL) hv).mono fun e W' ⟨he,bel⟩=>?_;subst he;have x7:=MV laid bel reads hA fun x hx=>dY x (by simpa using hx);obtain ⟨d0,d1,d2,d3,d4,d5,rfl⟩:∃ d0 d1 d2 d3 d4 d5,ds=[d0,d1,d2,d3,d4,d5]:=by
  have hl:=KQ hA
  match ds,hl with
  | [d0,d1,d2,d3,d4,d5],_=>exact ⟨d0,d1,d2,d3,d4,d5,rfl⟩
 exact ⟨_,rfl,_,_,_,[],_,[],hW',trodAll_mk1 (shut_bool Tryz.underlying4 _),x7,rfl,bel.frame _,fun h=>by cases h⟩
set_option maxRecDepth 100000
theorem qi {a b:Bool} (h:a=true) (g:b=true):(a&&b)=true:=by rw [h,g];rfl
theorem cf0:Rows.fnExactGateDrawRow.wf (OpenSpec.ofChange Rows.fnExactGateDrawSpec)=true:=by kernel_rfl
theorem cf1:laidOutB Tryz.prog=true:=by kernel_rfl
theorem cf2:mapsRowed Tryz.prog=true:=by kernel_rfl
theorem cf3:Tryz.f6.params.all (Tryz.prog.readableRec ·)=true:=by kernel_rfl
theorem cf4:namedTie Tryz.prog Rows.fnExactGateDrawRow.named Rows.fnExactGateDrawSpec.vars=true:=by kernel_rfl
theorem cf5:(Rows.fnExactGateDrawRow.stops==[])=true:=by kernel_rfl
theorem cf6:(Tryz.prog.stops==[])=true:=by kernel_rfl
theorem cf7:(Rows.fnExactGateDrawRow.knobs==[])=true:=by kernel_rfl
theorem cf8:(Tryz.prog.stopKnobs==[])=true:=by kernel_rfl
theorem cf9:(Rows.fnExactGateDrawRow.inPlace==Tryz.prog.inPlace 6)=true:=by kernel_rfl
theorem agN:(Rows.fnExactGateDrawRow.unfollowed==Tryz.prog.unfollowed 6)=true:=by kernel_rfl
theorem agO:(Rows.fnExactGateDrawRow.recurses==Tryz.prog.recurses 6)=true:=by kernel_rfl
theorem agP:(Rows.fnExactGateDrawRow.named==Tryz.prog.varsNamed 6)=true:=by kernel_rfl
theorem agQ:(Rows.fnExactGateDrawRow.maps==(Tryz.f6.params.toList++Rows.fnExactGateDrawSpec.plain.varTypes Tryz.prog).any (Tryz.prog.mapsRec ·))=true:=by kernel_rfl
theorem agR:(Rows.fnExactGateDrawRow.ifaces==(Tryz.f6.params.toList++Rows.fnExactGateDrawSpec.plain.varTypes Tryz.prog).any (Tryz.prog.ifacesRec ·))=true:=by kernel_rfl
theorem agS:(Rows.fnExactGateDrawRow.mapsOut==Tryz.prog.mapsAmong Tryz.f6.resultTypes.toList)=true:=by kernel_rfl
theorem agT:(Rows.fnExactGateDrawRow.loops==(Tryz.f6.params.toList++Rows.fnExactGateDrawSpec.plain.varTypes Tryz.prog).any (Tryz.prog.loopsFrom ·))=true:=by kernel_rfl
theorem agU:(Rows.fnExactGateDrawRow.wideKeys==(Tryz.f6.params.toList++Rows.fnExactGateDrawSpec.plain.varTypes Tryz.prog++Tryz.f6.resultTypes.toList).any (Tryz.prog.wideKeysFrom ·))=true:=by kernel_rfl
theorem agV:Rows.fnExactGateDrawSpec.vars.all (Tryz.prog.varReadable ·)=true:=by kernel_rfl
theorem agW:Tryz.f6.resultTypes.all (fun t=>Tryz.prog.readableRec t&&decide (t < Tryz.prog.types.size))=true:=by kernel_rfl
theorem agX:(Rows.fnExactGateDrawRow.ifacesOut==Tryz.f6.resultTypes.toList.any (Tryz.prog.ifacesRec ·))=true:=by kernel_rfl
theorem agY:(Rows.fnExactGateDrawRow.loopsOut==Tryz.f6.resultTypes.toList.any (Tryz.prog.loopsFrom ·))=true:=by kernel_rfl
theorem agZ:(Rows.fnExactGateDrawRow.plainKeys==Tryz.prog.plainKeys)=true:=by kernel_rfl
theorem ag0:Rows.fnExactGateDrawRow.shortTexts.isNone=true:=by kernel_rfl
theorem ag1:Tryz.prog.stopsHeard=true:=by kernel_rfl
theorem ag2:Tryz.prog.mayEnter=true:=by kernel_rfl
theorem ag3:(Rows.fnExactGateDrawRow.lifted==Tryz.prog.liftsFinal)=true:=by kernel_rfl
theorem ag4:(Tryz.prog.make==some Rows.fnExactGateDrawRow.make)=true:=by kernel_rfl
theorem ag5:(Rows.fnExactGateDrawRow.kinds==(if Rows.fnExactGateDrawRow.domain.isEmpty then [] else Tryz.f6.params.toList.map fun t=>match Tryz.prog.underlying t with | some (.int k)=>some k | _=>none))=true:=by kernel_rfl
theorem ag6:(Rows.fnExactGateDrawRow.pinned==Rows.fnExactGateDrawRow.pinnedBy)=true:=by kernel_rfl
theorem ag7:(Rows.fnExactGateDrawRow.veiled==(Tryz.f6.params.toList++Rows.fnExactGateDrawSpec.plain.varTypes Tryz.prog++Tryz.f6.resultTypes.toList).any (Tryz.prog.veiledRec ·))=true:=by kernel_rfl
theorem ag8:Rows.fnExactGateDrawRow.veiledFits Tryz.prog Tryz.f6.params.toList (Tryz.f6.params.toList++Rows.fnExactGateDrawSpec.plain.varTypes Tryz.prog++Tryz.f6.resultTypes.toList)=true:=by kernel_rfl
theorem closed:joinedFacts Tryz.prog 6 Tryz.f6 Rows.fnExactGateDrawSpec Rows.fnExactGateDrawRow=true:=by
 unfold joinedFacts;exact (qi (qi (qi (qi (qi (qi (qi (qi (qi (qi (qi (qi (qi (qi (qi (qi (qi (qi (qi (qi (qi (qi (qi (qi (qi (qi (qi (qi (qi (qi (qi cf0 cf1) cf2) cf3) cf4) cf5) cf6) cf7) cf8) cf9) agN) agO) agP) agQ) agR) agS) agT) agU) agV) agW) agX) agY) agZ) ag0) ag1) ag2) ag3) ag4) ag5) ag6) ag7) ag8)
theorem XB:Rows.FnExactGateDrawSaid:=
 OpenClaim.holds_of_wide 6 Tryz.f6 rfl rfl rfl rfl rfl rfl rfl ⟨rfl,rfl,rfl,rfl,rfl⟩ rfl rfl rfl rfl rfl (by kernel_rfl) Tryz.func6 closed
  (of_decide_eq_true (by kernel_rfl)) (by unfold Func.isWrapper;first | (rw [if_pos (by decide +kernel)];kernel_rfl) | (rw [if_neg (by decide +kernel)];exact ⟨rfl,rfl⟩))
  (fun os started H enc _=>lifted os started H enc)
set_option maxRecDepth 100000 in
theorem holds:Rows.FnExactGateDrawCardSaid:=
 Claim7.holds_tied_plain_at .later [] [.handle] true (true, "026bed7b235968aeebfaab9e2bcc69d3d7e9d5714e936cf05f771c7c7c320517") true
  XB (fun _ h=>by cases h) (by kernel_rfl) (fun _ h=>by cases h) fnExactGateDraw_row_tie rfl ⟨rfl,rfl⟩ (by kernel_rfl) rfl
  (fun f fn hf SH=>by
   obtain rfl:f=6:=Option.some.inj ((show Tryz.prog.funcNamed "loop.example/wharfgate/laws.FnExactGateDraw"=some 6 by kernel_rfl).symm.trans hf) |>.symm;obtain rfl:fn=Tryz.f6:=(Option.some.inj (Tryz.func6.symm.trans SH)).symm;exact ⟨by kernel_rfl,fun j t ht=>by
    rw [Tryz.params6] at ht;have hm:t∈[26,32,9,9,9,3]:=List.mem_of_getElem? (by simpa using ht);simp only [List.mem_cons,List.not_mem_nil,or_false] at hm;rcases hm with rfl | rfl | rfl | rfl | rfl | rfl<;>first | exact (show Tryz.prog.wantsStandIn 26=false by kernel_rfl) | exact (show Tryz.prog.wantsStandIn 32=false by kernel_rfl) | exact (show Tryz.prog.wantsStandIn 9=false by kernel_rfl) | exact (show Tryz.prog.wantsStandIn 3=false by kernel_rfl)⟩)
  (by kernel_rfl)
end Go.Proofs.YtjkbbdldmdajkaaGreatDoor.FnExactGateDraw
