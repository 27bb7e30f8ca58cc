/- laws.FnExactGateBound: the row. No condition. -/
import Derived.Test.YtjkbbdldmdajkaaGreatDoorRows
import Derived.Test.YtjkbbdldmdajkaaGreatDoorFnPf
import Derived.Test.YtjkbbdldmdajkaaGreatDoorFnRd
import Derived.Test.YtjkbbdldmdajkaaGreatDoorLvBound
import Derived.Test.YtjkbbdldmdajkaaGreatDoorCards
import Derived.Test.YtjkbbdldmdajkaaGreatDoorTie
import Derived.ChangeSame
import Derived.ChangeVars
import Derived.JoinedOf
import Derived.RowKitTokens
import Derived.LaidLaws
import Derived.LaidHandle
import Derived.Stop.Joined
import Derived.Stop.LaidErr
import Derived.SevenTiedAt
import Derived.WalkKit
import Derived.ProofKit
import Derived.OpenShut
import Derived.ShutString
import Derived.ChangeOld
namespace Go.Proofs.YtjkbbdldmdajkaaGreatDoor.FnExactGateBound
open Go Go.ChangeShapes Go.WideShapes Go.ChangeAt Go.RowKit Go.Proofs.YtjkbbdldmdajkaaGreatDoor.c_ Go.Proofs.YtjkbbdldmdajkaaGreatDoor.Fn
theorem own:ownKnob Tryz.prog.godebug=none:=by kernel_rfl
theorem laid:laidOutB Tryz.prog=true:=by kernel_rfl
theorem reads:([26,32,9,9,3].all fun t=>Tryz.prog.readableRec t&&Nat.blt t Tryz.prog.types.size)=true:=by kernel_rfl
theorem et:Tryz.prog.globalNamed "errors.errorType"=some 0:=by kernel_rfl
theorem rt:(Tryz.prog.cutTypes.find? (·.1== "internal/reflectlite.rtype")).map (·.2)=some 296:=by kernel_rfl
theorem Nu:((List.range 339).filter fun t=>Tryz.prog.rowNamed t [101,114,114,111,114])=[250]:=by kernel_rfl
theorem size:Tryz.prog.types.size=339:=by kernel_rfl
abbrev oz:List (String×DataW Unit):=[("errors.errorType",Rows.laid_errors_errorType)]
theorem yU {W:World} (h:laidMetH Tryz.prog oz W):W.var? Tryz.prog "errors.errorType"=some ⟨[.iface 296 (.agg #[.pointer (some ⟨1,250,none⟩)])]⟩:=by
 have h':laidMet Tryz.prog [] W∧handlesMet Tryz.prog oz W:=h;obtain ⟨name,u,ty,e1,e2,e3,e4,e5⟩:=h'.2 _ (List.mem_singleton.2 rfl);have en:name=[101,114,114,111,114]:=(Option.some.inj e1).symm;subst en;obtain rfl:=Option.some.inj (rt.symm.trans e2);have hm:ty∈(List.range 339).filter fun t=>Tryz.prog.rowNamed t [101,114,114,111,114]:=List.mem_filter.2 ⟨List.mem_range.2 (by rw [← size];exact e3),e4⟩;rw [Nu] at hm;obtain rfl:=List.mem_singleton.1 hm;have hh:typeHandle Tryz.prog 250=.pointer (some ⟨1,250,none⟩):=by kernel_rfl
 rw [hh] at e5;exact e5
noncomputable def rO (os:Os):World:=
 let w0:=World.holding Tryz.prog os ⟨#[],#[],[]⟩
 { w0 with heap:=w0.heap.modify 0 fun
   | .cells _ t frozen=>.cells #[.iface 296 (.agg #[.pointer (some ⟨1,250,none⟩)])] t frozen
   | o=>o }
theorem qa (os:Os) (args:Array Value):laidMetH Tryz.prog oz ((rO os).forCall (fun _ _=>0) ⟨#[],args,[]⟩).memory:=
 laidMetH_of_parts (laidMet_nil _ _) (by kernel_rfl)
theorem vZ {W:World} (h:laidMetH Tryz.prog oz W):Pos W (Fm W):=by
 have hc:=yU h;have hg:Tryz.prog.globalNamed "errors.errorType"=some 0:=et;unfold World.var? at hc;rw [hg,Option.bind_some] at hc;cases ho:W.heap[0]? with
 | none=>rw [ho] at hc;cases hc
 | some o=>
  have dQ:0 < W.heap.size:=(Array.getElem?_eq_some_iff.1 ho).1;rw [ho] at hc;cases o with
  | cells cs t z=>
   refine ⟨by omega,fun p hp=>?_⟩;obtain rfl:=List.mem_singleton.1 (show p∈[((0:Nat),[(.iface 296 (.agg #[.pointer (some ⟨1,250,none⟩)]):Value)])] from hp);exact ⟨dQ,t,z,ho.trans (congrArg (fun c=>some (Obj.cells c t z)) (Option.some.inj hc))⟩
  | _=>cases hc
set_option maxRecDepth 100000 in
theorem lifted (os:Os) (started:os.Started) (H:Type) (enc:TypeId×Value→H):
  ReturnsInHanded {} Tryz.checked os 5 .any (fun w args=>(Rows.fnExactGateBoundSpec.pre enc Tryz.prog Tryz.f5 [] false w args∧laidMetH Tryz.prog oz w)∧sizedMet enc Tryz.prog Tryz.f5 (OpenSpec.ofChange Rows.fnExactGateBoundSpec) false w args)
   (Rows.fnExactGateBoundSpec.post enc Tryz.prog Tryz.f5 false true false false):=by
 refine returnsInHanded_of_change_and (C:=Tryz.checked) (X:=fun w _=>laidMetH Tryz.prog oz w) (fun _ _ _ hh h=>h.of_heap hh) own started (by kernel_rfl) Tryz.func5
  (ChangeSpec.witness_at (enc:=enc) (C:=Tryz.checked) (os:=os) (X:=fun w _=>laidMetH Tryz.prog oz w) false (rO os) #[.agg #[.slice none 0 0,.slice none 0 0,.slice none 0 0],.agg #[.int .i64 0,.int .i64 0,.int .i64 0,.slice none 0 0,.slice none 0 0,.slice none 0 0,.slice none 0 0],.string ⟨#[]⟩,.string ⟨#[]⟩,.int .i64 0] 8 rfl (by kernel_rfl) (by kernel_rfl) (by kernel_rfl) (by kernel_rfl) (by kernel_rfl) (qa os _)) ?_
 intro W base args ds gs before Nv hW _ _ hL _;have hW':=hW;have dQ:=hW.lt;obtain ⟨p,q,hA0,hV,rfl,hfz,AF⟩:=hW;have hA:DataW.TrodAll enc Tryz.prog W 0 (fun _=>true) true Tryz.f5.params.toList args.toList ds p:=hA0;have Lr:∀ (j:Nat) t v,Tryz.f5.params[j]?=some t→args[j]?=some v→Value.okWide Tryz.prog W .any base t v:=Nv;rw [Tryz.params5] at hA Lr;obtain ⟨rfl,rfl⟩:=trodVars_none hV;obtain ⟨x,o_,hv⟩:=agu (w:=W) base args.toList ds p hA fun j t v ht hv=>Lr j t v (by simpa using ht) (by simpa using hv);obtain ⟨k,hk⟩:=Pu.Xp x.1 x.2.1 x.2.2.1 x.2.2.2.1 x.2.2.2.2.1 o_.1 o_.2.1 o_.2.2.1 o_.2.2.2.1 o_.2.2.2.2.1;refine (Rp (c:=rz k) (Ao k) x (show Bool from true) hk rfl (by kernel_rfl) (by kernel_rfl) (vZ hL) hv).mono fun e W' ⟨he,bel⟩=>?_;subst he;have Bo:=Cr laid bel reads hA fun x hx=>dQ x (by simpa using hx);obtain ⟨d0,d1,d2,d3,d4,rfl⟩:∃ d0 d1 d2 d3 d4,ds=[d0,d1,d2,d3,d4]:=by
  have hl:=z9 hA
  match ds,hl with
  | [d0,d1,d2,d3,d4],_=>exact ⟨d0,d1,d2,d3,d4,rfl⟩
 exact ⟨_,rfl,_,_,_,[],_,[],hW',trodAll_mk1 (shut_bool Tryz.underlying4 _),Bo,rfl,bel.frame _,fun h=>by cases h⟩
set_option maxRecDepth 100000
theorem cX {a b:Bool} (h:a=true) (g:b=true):(a&&b)=true:=by rw [h,g];rfl
theorem cf0:Rows.fnExactGateBoundRow.wf (OpenSpec.ofChange Rows.fnExactGateBoundSpec)=true:=by kernel_rfl
theorem cf1:laidOutB Tryz.prog=true:=by kernel_rfl
theorem cf2:mapsRowed Tryz.prog=true:=by kernel_rfl
theorem cf3:Tryz.f5.params.all (Tryz.prog.readableRec ·)=true:=by kernel_rfl
theorem cf4:namedTie Tryz.prog Rows.fnExactGateBoundRow.named Rows.fnExactGateBoundSpec.vars=true:=by kernel_rfl
theorem cf5:(Rows.fnExactGateBoundRow.stops==[])=true:=by kernel_rfl
theorem cf6:(Tryz.prog.stops==[])=true:=by kernel_rfl
theorem cf7:(Rows.fnExactGateBoundRow.knobs==[])=true:=by kernel_rfl
theorem cf8:(Tryz.prog.stopKnobs==[])=true:=by kernel_rfl
theorem cf9:(Rows.fnExactGateBoundRow.inPlace==Tryz.prog.inPlace 5)=true:=by kernel_rfl
theorem ZU:(Rows.fnExactGateBoundRow.unfollowed==Tryz.prog.unfollowed 5)=true:=by kernel_rfl
theorem ZV:(Rows.fnExactGateBoundRow.recurses==Tryz.prog.recurses 5)=true:=by kernel_rfl
theorem ZW:(Rows.fnExactGateBoundRow.named==Tryz.prog.varsNamed 5)=true:=by kernel_rfl
theorem ZX:(Rows.fnExactGateBoundRow.maps==(Tryz.f5.params.toList++Rows.fnExactGateBoundSpec.plain.varTypes Tryz.prog).any (Tryz.prog.mapsRec ·))=true:=by kernel_rfl
theorem ZY:(Rows.fnExactGateBoundRow.ifaces==(Tryz.f5.params.toList++Rows.fnExactGateBoundSpec.plain.varTypes Tryz.prog).any (Tryz.prog.ifacesRec ·))=true:=by kernel_rfl
theorem ZZ:(Rows.fnExactGateBoundRow.mapsOut==Tryz.prog.mapsAmong Tryz.f5.resultTypes.toList)=true:=by kernel_rfl
theorem Z0:(Rows.fnExactGateBoundRow.loops==(Tryz.f5.params.toList++Rows.fnExactGateBoundSpec.plain.varTypes Tryz.prog).any (Tryz.prog.loopsFrom ·))=true:=by kernel_rfl
theorem Z1:(Rows.fnExactGateBoundRow.wideKeys==(Tryz.f5.params.toList++Rows.fnExactGateBoundSpec.plain.varTypes Tryz.prog++Tryz.f5.resultTypes.toList).any (Tryz.prog.wideKeysFrom ·))=true:=by kernel_rfl
theorem Z2:Rows.fnExactGateBoundSpec.vars.all (Tryz.prog.varReadable ·)=true:=by kernel_rfl
theorem Z3:Tryz.f5.resultTypes.all (fun t=>Tryz.prog.readableRec t&&decide (t < Tryz.prog.types.size))=true:=by kernel_rfl
theorem Z4:(Rows.fnExactGateBoundRow.ifacesOut==Tryz.f5.resultTypes.toList.any (Tryz.prog.ifacesRec ·))=true:=by kernel_rfl
theorem Z5:(Rows.fnExactGateBoundRow.loopsOut==Tryz.f5.resultTypes.toList.any (Tryz.prog.loopsFrom ·))=true:=by kernel_rfl
theorem Z6:(Rows.fnExactGateBoundRow.plainKeys==Tryz.prog.plainKeys)=true:=by kernel_rfl
theorem Z7:Rows.fnExactGateBoundRow.shortTexts.isNone=true:=by kernel_rfl
theorem Z8:Tryz.prog.stopsHeard=true:=by kernel_rfl
theorem Z9:Tryz.prog.mayEnter=true:=by kernel_rfl
theorem Z_:(Rows.fnExactGateBoundRow.lifted==Tryz.prog.liftsFinal)=true:=by kernel_rfl
theorem aaa:(Tryz.prog.make==some Rows.fnExactGateBoundRow.make)=true:=by kernel_rfl
theorem aab:(Rows.fnExactGateBoundRow.kinds==(if Rows.fnExactGateBoundRow.domain.isEmpty then [] else Tryz.f5.params.toList.map fun t=>match Tryz.prog.underlying t with | some (.int k)=>some k | _=>none))=true:=by kernel_rfl
theorem aac:(Rows.fnExactGateBoundRow.pinned==Rows.fnExactGateBoundRow.pinnedBy)=true:=by kernel_rfl
theorem aad:(Rows.fnExactGateBoundRow.veiled==(Tryz.f5.params.toList++Rows.fnExactGateBoundSpec.plain.varTypes Tryz.prog++Tryz.f5.resultTypes.toList).any (Tryz.prog.veiledRec ·))=true:=by kernel_rfl
theorem aae:Rows.fnExactGateBoundRow.veiledFits Tryz.prog Tryz.f5.params.toList (Tryz.f5.params.toList++Rows.fnExactGateBoundSpec.plain.varTypes Tryz.prog++Tryz.f5.resultTypes.toList)=true:=by kernel_rfl
theorem closed:joinedFacts Tryz.prog 5 Tryz.f5 Rows.fnExactGateBoundSpec Rows.fnExactGateBoundRow=true:=by
 unfold joinedFacts;exact (cX (cX (cX (cX (cX (cX (cX (cX (cX (cX (cX (cX (cX (cX (cX (cX (cX (cX (cX (cX (cX (cX (cX (cX (cX (cX (cX (cX (cX (cX (cX cf0 cf1) cf2) cf3) cf4) cf5) cf6) cf7) cf8) cf9) ZU) ZV) ZW) ZX) ZY) ZZ) Z0) Z1) Z2) Z3) Z4) Z5) Z6) Z7) Z8) Z9) Z_) aaa) aab) aac) aad) aae)
theorem Bq:Rows.FnExactGateBoundSaid:=
 OpenClaim.holds_of_wide 5 Tryz.f5 rfl rfl rfl rfl rfl rfl rfl ⟨rfl,rfl,rfl,rfl,rfl⟩ rfl rfl rfl rfl rfl (by kernel_rfl) Tryz.func5 closed
  (of_decide_eq_true (by kernel_rfl)) (by unfold Func.isWrapper;first | (rw [if_pos (by decide +kernel)];kernel_rfl) | (rw [if_neg (by decide +kernel)];exact ⟨rfl,rfl⟩))
  (fun os started H enc _=>lifted os started H enc)
set_option maxRecDepth 100000 in
theorem holds:Rows.FnExactGateBoundCardSaid:=
 Claim7.holds_tied_plain_at .later [] [.handle] true (true, "026bed7b235968aeebfaab9e2bcc69d3d7e9d5714e936cf05f771c7c7c320517") true
  Bq (fun _ h=>by cases h) (by kernel_rfl) (fun _ h=>by cases h) fnExactGateBound_row_tie rfl ⟨rfl,rfl⟩ (by kernel_rfl) rfl
  (fun f fn hf Pm=>by
   obtain rfl:f=5:=Option.some.inj ((show Tryz.prog.funcNamed "loop.example/wharfgate/laws.FnExactGateBound"=some 5 by kernel_rfl).symm.trans hf) |>.symm;obtain rfl:fn=Tryz.f5:=(Option.some.inj (Tryz.func5.symm.trans Pm)).symm;exact ⟨by kernel_rfl,fun j t ht=>by
    rw [Tryz.params5] at ht;have hm:t∈[26,32,9,9,3]:=List.mem_of_getElem? (by simpa using ht);simp only [List.mem_cons,List.not_mem_nil,or_false] at hm;rcases hm with rfl | rfl | rfl | rfl | rfl<;>first | exact (show Tryz.prog.wantsStandIn 26=false by kernel_rfl) | exact (show Tryz.prog.wantsStandIn 32=false by kernel_rfl) | exact (show Tryz.prog.wantsStandIn 9=false by kernel_rfl) | exact (show Tryz.prog.wantsStandIn 3=false by kernel_rfl)⟩)
  (by kernel_rfl)
end Go.Proofs.YtjkbbdldmdajkaaGreatDoor.FnExactGateBound
