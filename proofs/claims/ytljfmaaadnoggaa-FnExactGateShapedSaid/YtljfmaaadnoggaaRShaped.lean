/- laws.FnExactGateShaped: the row. No condition. -/
import Derived.Test.YtljfmaaadnoggaaRows
import Derived.Test.YtljfmaaadnoggaaFnPf
import Derived.Test.YtljfmaaadnoggaaFnRd
import Derived.Test.YtljfmaaadnoggaaLvShaped
import Derived.WalkKit
import Derived.ProofKit
import Derived.OpenShut
import Derived.ShutString
import Derived.ChangeOld
namespace Go.Proofs.Ytljfmaaadnoggaa.FnExactGateShaped
open Go Go.ChangeShapes Go.WideShapes Go.ChangeAt Go.RowKit Go.Proofs.Ytljfmaaadnoggaa.Abs Go.Proofs.Ytljfmaaadnoggaa.Fn
theorem own:ownKnob Try.prog.godebug=none:=by kernel_rfl
theorem laid:laidOutB Try.prog=true:=by kernel_rfl
theorem reads:([22,54,25].all fun t=>Try.prog.readableRec t&&Nat.blt t Try.prog.types.size)=true:=by kernel_rfl
theorem some_runtime:Nat.blt Try.prog.globals.size (begin Try.prog (fun _ _=>0) default).world.heap.size=true:=by kernel_rfl
set_option maxRecDepth 100000 in
theorem lifted (os:Os) (started:os.Started) (H:Type) (enc:TypeId×Value→H):
  ReturnsInHanded {} Try.checked os 6 .any (Rows.fnExactGateShapedSpec.pre6 enc Try.prog Try.f6 Rows.fnExactGateShapedRow.domain false) (Rows.fnExactGateShapedSpec.post enc Try.prog Try.f6 false true false false):=by
 refine returnsInHanded_of_change_shaped (C:=Try.checked) own started (by kernel_rfl) Try.func6
  (ChangeSpec.witness6 (enc:=enc) (C:=Try.checked) false ⟨#[],#[.slice none 0 0,.slice none 0 0,.agg #[.string ⟨#[]⟩,.string ⟨#[]⟩,.string ⟨#[]⟩,.slice none 0 0,.bool false,.slice none 0 0,.int .i64 0]],[]⟩ 8 (by kernel_rfl) (by kernel_rfl) (by kernel_rfl) (by kernel_rfl)) ?_
 intro W base args ds gs before hval hW _ _ hsh _
 have hW':=hW
 have hlt:=hW.lt
 obtain ⟨p,q,hA0,hV,rfl,hfz,hnd⟩:=hW
 have hA:DataW.TrodAll enc Try.prog W 0 (fun _=>true) true Try.f6.params.toList args.toList ds p:=hA0
 have hval':∀ (j:Nat) t v,Try.f6.params[j]?=some t→args[j]?=some v→Value.okWide Try.prog W .any base t v:=hval
 rw [Try.params6] at hA hval'
 obtain ⟨rfl,rfl⟩:=trodVars_none hV
 obtain ⟨x,hok,hv⟩:=rda6 (w:=W) base args.toList ds p hA fun j t v ht hv=>hval' j t v (by simpa using ht) (by simpa using hv)
 obtain ⟨k,hk⟩:=Pu.shaped_law x.1 x.2.1 x.2.2.1 hok.1 hok.2.1 hok.2.2.1
 refine (law_row (c:=c_laws_FnExactGateShaped k) (ok_laws_FnExactGateShaped k) x (show Bool from true) hk rfl (by kernel_rfl) (by kernel_rfl) (.bare (pos_of_shaped hsh some_runtime) rfl) hv).mono fun e W' ⟨he,bel⟩=>?_
 subst he
 have hargs:=below_args laid bel reads hA fun x hx=>hlt x (by simpa using hx)
 obtain ⟨d0,d1,d2,rfl⟩:∃ d0 d1 d2,ds=[d0,d1,d2]:=by
  have hl:=trodAll_len hA
  match ds,hl with
  | [d0,d1,d2],_=>exact ⟨d0,d1,d2,rfl⟩
 exact ⟨_,rfl,_,_,_,[],_,[],hW',trodAll_mk1 (shut_bool Try.underlying4 _),hargs,rfl,bel.frame _,fun h=>by cases h⟩
set_option maxRecDepth 100000
theorem and2 {a b:Bool} (h:a=true) (g:b=true):(a&&b)=true:=by rw [h,g];rfl
theorem cf0:Rows.fnExactGateShapedRow.wf (OpenSpec.ofChange Rows.fnExactGateShapedSpec)=true:=by kernel_rfl
theorem cf1:laidOutB Try.prog=true:=by kernel_rfl
theorem cf2:mapsRowed Try.prog=true:=by kernel_rfl
theorem cf3:Try.f6.params.all (Try.prog.readableRec ·)=true:=by kernel_rfl
theorem cf4:namedTie Try.prog Rows.fnExactGateShapedRow.named Rows.fnExactGateShapedSpec.vars=true:=by kernel_rfl
theorem cf5:(Rows.fnExactGateShapedRow.stops==[])=true:=by kernel_rfl
theorem cf6:(Try.prog.stops==[])=true:=by kernel_rfl
theorem cf7:(Rows.fnExactGateShapedRow.knobs==[])=true:=by kernel_rfl
theorem cf8:(Try.prog.stopKnobs==[])=true:=by kernel_rfl
theorem cf9:(Rows.fnExactGateShapedRow.inPlace==Try.prog.inPlace 6)=true:=by kernel_rfl
theorem cf10:(Rows.fnExactGateShapedRow.unfollowed==Try.prog.unfollowed 6)=true:=by kernel_rfl
theorem cf11:(Rows.fnExactGateShapedRow.recurses==Try.prog.recurses 6)=true:=by kernel_rfl
theorem cf12:(Rows.fnExactGateShapedRow.named==Try.prog.varsNamed 6)=true:=by kernel_rfl
theorem cf13:(Rows.fnExactGateShapedRow.maps==(Try.f6.params.toList++Rows.fnExactGateShapedSpec.plain.varTypes Try.prog).any (Try.prog.mapsRec ·))=true:=by kernel_rfl
theorem cf14:(Rows.fnExactGateShapedRow.ifaces==(Try.f6.params.toList++Rows.fnExactGateShapedSpec.plain.varTypes Try.prog).any (Try.prog.ifacesRec ·))=true:=by kernel_rfl
theorem cf15:(Rows.fnExactGateShapedRow.mapsOut==Try.prog.mapsAmong Try.f6.resultTypes.toList)=true:=by kernel_rfl
theorem cf16:(Rows.fnExactGateShapedRow.loops==(Try.f6.params.toList++Rows.fnExactGateShapedSpec.plain.varTypes Try.prog).any (Try.prog.loopsFrom ·))=true:=by kernel_rfl
theorem cf17:(Rows.fnExactGateShapedRow.wideKeys==(Try.f6.params.toList++Rows.fnExactGateShapedSpec.plain.varTypes Try.prog++Try.f6.resultTypes.toList).any (Try.prog.wideKeysFrom ·))=true:=by kernel_rfl
theorem cf18:Rows.fnExactGateShapedSpec.vars.all (Try.prog.varReadable ·)=true:=by kernel_rfl
theorem cf19:Try.f6.resultTypes.all (fun t=>Try.prog.readableRec t&&decide (t < Try.prog.types.size))=true:=by kernel_rfl
theorem cf20:(Rows.fnExactGateShapedRow.ifacesOut==Try.f6.resultTypes.toList.any (Try.prog.ifacesRec ·))=true:=by kernel_rfl
theorem cf21:(Rows.fnExactGateShapedRow.loopsOut==Try.f6.resultTypes.toList.any (Try.prog.loopsFrom ·))=true:=by kernel_rfl
theorem cf22:(Rows.fnExactGateShapedRow.plainKeys==Try.prog.plainKeys)=true:=by kernel_rfl
theorem cf23:Rows.fnExactGateShapedRow.shortTexts.isNone=true:=by kernel_rfl
theorem cf24:Try.prog.stopsHeard=true:=by kernel_rfl
theorem cf25:Try.prog.mayEnter=true:=by kernel_rfl
theorem cf26:(Rows.fnExactGateShapedRow.lifted==Try.prog.liftsFinal)=true:=by kernel_rfl
theorem cf27:(Try.prog.make==some Rows.fnExactGateShapedRow.make)=true:=by kernel_rfl
theorem cf28:(Rows.fnExactGateShapedRow.kinds==(if Rows.fnExactGateShapedRow.domain.isEmpty then [] else Try.f6.params.toList.map fun t=>match Try.prog.underlying t with | some (.int k)=>some k | _=>none))=true:=by kernel_rfl
theorem cf29:(Rows.fnExactGateShapedRow.pinned==Rows.fnExactGateShapedRow.pinnedBy)=true:=by kernel_rfl
theorem cf30:(Rows.fnExactGateShapedRow.veiled==(Try.f6.params.toList++Rows.fnExactGateShapedSpec.plain.varTypes Try.prog++Try.f6.resultTypes.toList).any (Try.prog.veiledRec ·))=true:=by kernel_rfl
theorem cf31:Rows.fnExactGateShapedRow.veiledFits Try.prog Try.f6.params.toList (Try.f6.params.toList++Rows.fnExactGateShapedSpec.plain.varTypes Try.prog++Try.f6.resultTypes.toList)=true:=by kernel_rfl
theorem closed:joinedFacts Try.prog 6 Try.f6 Rows.fnExactGateShapedSpec Rows.fnExactGateShapedRow=true:=by
 unfold joinedFacts
 exact (and2 (and2 (and2 (and2 (and2 (and2 (and2 (and2 (and2 (and2 (and2 (and2 (and2 (and2 (and2 (and2 (and2 (and2 (and2 (and2 (and2 (and2 (and2 (and2 (and2 (and2 (and2 (and2 (and2 (and2 (and2 cf0 cf1) cf2) cf3) cf4) cf5) cf6) cf7) cf8) cf9) cf10) cf11) cf12) cf13) cf14) cf15) cf16) cf17) cf18) cf19) cf20) cf21) cf22) cf23) cf24) cf25) cf26) cf27) cf28) cf29) cf30) cf31)
theorem holds:Rows.FnExactGateShapedSaid:=
 OpenClaim.holds_of_wide 6 Try.f6 rfl rfl rfl rfl rfl rfl rfl ⟨rfl,rfl,rfl,rfl,rfl⟩ rfl rfl rfl rfl rfl (by kernel_rfl) Try.func6 closed
  (of_decide_eq_true (by kernel_rfl)) (by unfold Func.isWrapper;first | (rw [if_pos (by decide +kernel)];kernel_rfl) | (rw [if_neg (by decide +kernel)];exact ⟨rfl,rfl⟩))
  (fun os started H enc _=>lifted os started H enc)
end Go.Proofs.Ytljfmaaadnoggaa.FnExactGateShaped
