/- laws.FnExactGateLawOk: the row. No condition. -/
import Derived.Test.YtdfdiinbiipacaaRows
import Derived.Test.YtdfdiinbiipacaaFnPf
import Derived.Test.YtdfdiinbiipacaaFnRd
import Derived.Test.YtdfdiinbiipacaaLvLaw
import Derived.WalkKit
import Derived.ProofKit
import Derived.OpenShut
import Derived.ShutString
import Derived.ChangeOld
namespace Go.Proofs.Ytdfdiinbiipacaa.FnExactGateLawOk
open Go Go.ChangeShapes Go.WideShapes Go.ChangeAt Go.RowKit Go.Proofs.Ytdfdiinbiipacaa.Abs Go.Proofs.Ytdfdiinbiipacaa.Fn
theorem own : ownKnob Try.prog.godebug = none := by kernel_rfl
theorem laid : laidOutB Try.prog = true := by kernel_rfl
theorem reads : ([38].all fun t => Try.prog.readableRec t && Nat.blt t Try.prog.types.size) = true := by kernel_rfl
theorem some_runtime : Nat.blt Try.prog.globals.size (begin Try.prog (fun _ _ => 0) default).world.heap.size = true := by kernel_rfl
set_option maxRecDepth 100000 in
theorem lifted (os : Os) (started : os.Started) (H : Type) (enc : TypeId × Value → H) :
    ReturnsInHanded {} Try.checked os 5 .any (Rows.fnExactGateLawOkSpec.pre6 enc Try.prog Try.f5 Rows.fnExactGateLawOkRow.domain false) (Rows.fnExactGateLawOkSpec.post enc Try.prog Try.f5 false true false false) := by
  refine returnsInHanded_of_change_shaped (C := Try.checked) own started (by kernel_rfl) Try.func5
    (ChangeSpec.witness6 (enc := enc) (C := Try.checked) false ⟨#[], #[.agg #[.slice none 0 0, .slice none 0 0, .slice none 0 0]], []⟩ 8 (by kernel_rfl) (by kernel_rfl) (by kernel_rfl) (by kernel_rfl)) ?_
  intro W base args ds gs before hval hW _ _ hsh _
  have hW' := hW
  have hlt := hW.lt
  obtain ⟨p, q, hA0, hV, rfl, hfz, hnd⟩ := hW
  have hA : DataW.TrodAll enc Try.prog W 0 (fun _ => true) true Try.f5.params.toList args.toList ds p := hA0
  have hval' : ∀ (j : Nat) t v, Try.f5.params[j]? = some t → args[j]? = some v → Value.okWide Try.prog W .any base t v := hval
  rw [Try.params5] at hA hval'
  obtain ⟨rfl, rfl⟩ := trodVars_none hV
  obtain ⟨x, hok, hv⟩ := rda5 (w := W) base args.toList ds p hA fun j t v ht hv => hval' j t v (by simpa using ht) (by simpa using hv)
  obtain ⟨k, hk⟩ := Pu.law_law x.1 hok.1
  refine (law_row (c := c_laws_FnExactGateLawOk k) (ok_laws_FnExactGateLawOk k) x (show Bool from true) hk rfl (by kernel_rfl) (by kernel_rfl) (pos_of_shaped hsh some_runtime) hv).mono fun e W' ⟨he, bel⟩ => ?_
  subst he
  have hargs := below_args laid bel reads hA fun x hx => hlt x (by simpa using hx)
  obtain ⟨d0, rfl⟩ : ∃ d0, ds = [d0] := by
    have hl := trodAll_len hA
    match ds, hl with
    | [d0], _ => exact ⟨d0, rfl⟩
  exact ⟨_, rfl, _, _, _, [], _, [], hW', trodAll_mk1 (shut_bool Try.underlying4 _), hargs, rfl, bel.frame _, fun h => by cases h⟩
theorem holds : Rows.FnExactGateLawOkSaid :=
  OpenClaim.holds_of_wide 5 Try.f5 rfl rfl rfl rfl rfl rfl rfl ⟨rfl, rfl, rfl, rfl, rfl⟩ rfl rfl rfl rfl rfl (by kernel_rfl) Try.func5 (by kernel_rfl)
    (of_decide_eq_true (by kernel_rfl)) (by unfold Func.isWrapper; first | (rw [if_pos (by decide +kernel)]; kernel_rfl) | (rw [if_neg (by decide +kernel)]; exact ⟨rfl, rfl⟩))
    (fun os started H enc _ => lifted os started H enc)
end Go.Proofs.Ytdfdiinbiipacaa.FnExactGateLawOk
