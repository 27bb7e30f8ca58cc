/- laws.FnExactGateTurned: the row. No condition. -/
import Derived.Test.YtdfdiinbiipacaaDoorRows
import Derived.Test.YtdfdiinbiipacaaDoorFnPf
import Derived.Test.YtdfdiinbiipacaaDoorFnRd
import Derived.Test.YtdfdiinbiipacaaDoorLvTurned
import Derived.Test.YtdfdiinbiipacaaDoorCards
import Derived.Test.YtdfdiinbiipacaaDoorTie
import Derived.ChangeSame
import Derived.ChangeVars
import Derived.JoinedOf
import Derived.RowKitTokens
import Derived.LaidLaws
import Derived.LaidHandle
import Derived.Stop.Joined
import Derived.SevenTiedAt
import Derived.WalkKit
import Derived.ProofKit
import Derived.OpenShut
import Derived.ShutString
import Derived.ChangeOld
namespace Go.Proofs.YtdfdiinbiipacaaDoor.FnExactGateTurned
open Go Go.ChangeShapes Go.WideShapes Go.ChangeAt Go.RowKit Go.Proofs.YtdfdiinbiipacaaDoor.Abs Go.Proofs.YtdfdiinbiipacaaDoor.Fn
theorem own : ownKnob Tryd.prog.godebug = none := by kernel_rfl
theorem laid : laidOutB Tryd.prog = true := by kernel_rfl
theorem reads : ([45, 48, 48].all fun t => Tryd.prog.readableRec t && Nat.blt t Tryd.prog.types.size) = true := by kernel_rfl
theorem et : Tryd.prog.globalNamed "errors.errorType" = some 0 := by kernel_rfl
theorem rt : (Tryd.prog.cutTypes.find? (·.1 == "internal/reflectlite.rtype")).map (·.2) = some 167 := by kernel_rfl
theorem oneRow : ((List.range 229).filter fun t => Tryd.prog.rowNamed t [101, 114, 114, 111, 114]) = [91] := by kernel_rfl
theorem size : Tryd.prog.types.size = 229 := by kernel_rfl
abbrev laidV : List (String × DataW Unit) := [("errors.errorType", Rows.laid_errors_errorType)]
theorem handle_of_laid {W : World} (h : laidMetH Tryd.prog laidV W) : W.cell? ⟨0, 0, none⟩ = some (.iface 167 (.agg #[.pointer (some ⟨4, 91, none⟩)])) := by
  have h' : laidMet Tryd.prog [] W ∧ handlesMet Tryd.prog laidV W := h
  obtain ⟨name, u, ty, e1, e2, e3, e4, e5⟩ := h'.2 _ (List.mem_singleton.2 rfl)
  have en : name = [101, 114, 114, 111, 114] := (Option.some.inj e1).symm
  subst en
  obtain rfl := Option.some.inj (rt.symm.trans e2)
  have hm : ty ∈ (List.range 229).filter fun t => Tryd.prog.rowNamed t [101, 114, 114, 111, 114] := List.mem_filter.2 ⟨List.mem_range.2 (by rw [← size]; exact e3), e4⟩
  rw [oneRow] at hm
  obtain rfl := List.mem_singleton.1 hm
  have hh : typeHandle Tryd.prog 91 = .pointer (some ⟨4, 91, none⟩) := by kernel_rfl
  rw [hh] at e5
  simpa using World.var?_cell et e5 0
noncomputable def laidWorld (os : Os) : World :=
  let w0 := World.holding Tryd.prog os ⟨#[], #[], []⟩
  { w0 with heap := w0.heap.modify 0 fun
      | .cells _ t frozen => .cells #[.iface 167 (.agg #[.pointer (some ⟨4, 91, none⟩)])] t frozen
      | o => o }
theorem laidWorld_met (os : Os) (args : Array Value) : laidMetH Tryd.prog laidV ((laidWorld os).forCall (fun _ _ => 0) ⟨#[], args, []⟩).memory :=
  laidMetH_of_parts (laidMet_nil _ _) (by kernel_rfl)
theorem pos_of_laid {W : World} (h : laidMetH Tryd.prog laidV W) : Pos W (old W) := by
  have hc := handle_of_laid h
  have hlt : 0 < W.heap.size := by
    rcases Nat.lt_or_ge 0 W.heap.size with h0 | h0
    · exact h0
    · simp [World.cell?, Array.getElem?_eq_none h0] at hc
  refine ⟨by omega, fun p hp => ?_⟩
  obtain rfl := List.mem_singleton.1 (show p ∈ [((⟨0, 0, none⟩ : Addr), (.iface 167 (.agg #[.pointer (some ⟨4, 91, none⟩)]) : Value))] from hp)
  exact ⟨hlt, hc⟩
set_option maxRecDepth 100000 in
theorem lifted (os : Os) (started : os.Started) (H : Type) (enc : TypeId × Value → H) :
    ReturnsInHanded {} Tryd.checked os 5 .any (fun w args => (Rows.fnExactGateTurnedSpec.pre enc Tryd.prog Tryd.f5 [] false w args ∧ laidMetH Tryd.prog laidV w) ∧ sizedMet enc Tryd.prog Tryd.f5 (OpenSpec.ofChange Rows.fnExactGateTurnedSpec) false w args)
      (Rows.fnExactGateTurnedSpec.post enc Tryd.prog Tryd.f5 false true false false) := by
  refine returnsInHanded_of_change_and (C := Tryd.checked) (X := fun w _ => laidMetH Tryd.prog laidV w) (fun _ _ _ hh h => h.of_heap hh) own started (by kernel_rfl) Tryd.func5
    (ChangeSpec.witness_at (enc := enc) (C := Tryd.checked) (os := os) (X := fun w _ => laidMetH Tryd.prog laidV w) false (laidWorld os) #[.slice none 0 0, .agg #[.string ⟨#[]⟩, .string ⟨#[]⟩, .string ⟨#[]⟩, .slice none 0 0, .bool false, .slice none 0 0, .int .i64 0], .agg #[.string ⟨#[]⟩, .string ⟨#[]⟩, .string ⟨#[]⟩, .slice none 0 0, .bool false, .slice none 0 0, .int .i64 0]] 8 rfl (by kernel_rfl) (by kernel_rfl) (by kernel_rfl) (by kernel_rfl) (by kernel_rfl) (laidWorld_met os _)) ?_
  intro W base args ds gs before hval hW _ _ hL _
  have hW' := hW
  have hlt := hW.lt
  obtain ⟨p, q, hA0, hV, rfl, hfz, hnd⟩ := hW
  have hA : DataW.TrodAll enc Tryd.prog W 0 (fun _ => true) true Tryd.f5.params.toList args.toList ds p := hA0
  have hval' : ∀ (j : Nat) t v, Tryd.f5.params[j]? = some t → args[j]? = some v → Value.okWide Tryd.prog W .any base t v := hval
  rw [Tryd.params5] at hA hval'
  obtain ⟨rfl, rfl⟩ := trodVars_none hV
  obtain ⟨x, hok, hv⟩ := rda5 (w := W) base args.toList ds p hA fun j t v ht hv => hval' j t v (by simpa using ht) (by simpa using hv)
  obtain ⟨k, hk⟩ := Pu.turned_law x.1 x.2.1 x.2.2.1 hok.1 hok.2.1 hok.2.2.1
  refine (law_row (c := c_laws_FnExactGateTurned k) (ok_laws_FnExactGateTurned k) x (show Bool from true) hk rfl (by kernel_rfl) (by kernel_rfl) (pos_of_laid hL) hv).mono fun e W' ⟨he, bel⟩ => ?_
  subst he
  have hargs := below_args laid bel reads hA fun x hx => hlt x (by simpa using hx)
  obtain ⟨d0, d1, d2, rfl⟩ : ∃ d0 d1 d2, ds = [d0, d1, d2] := by
    have hl := trodAll_len hA
    match ds, hl with
    | [d0, d1, d2], _ => exact ⟨d0, d1, d2, rfl⟩
  exact ⟨_, rfl, _, _, _, [], _, [], hW', trodAll_mk1 (shut_bool Tryd.underlying4 _), hargs, rfl, bel.frame _, fun h => by cases h⟩
theorem row_holds : Rows.FnExactGateTurnedSaid :=
  OpenClaim.holds_of_wide 5 Tryd.f5 rfl rfl rfl rfl rfl rfl rfl ⟨rfl, rfl, rfl, rfl, rfl⟩ rfl rfl rfl rfl rfl (by kernel_rfl) Tryd.func5 (by kernel_rfl)
    (of_decide_eq_true (by kernel_rfl)) (by unfold Func.isWrapper; first | (rw [if_pos (by decide +kernel)]; kernel_rfl) | (rw [if_neg (by decide +kernel)]; exact ⟨rfl, rfl⟩))
    (fun os started H enc _ => lifted os started H enc)
set_option maxRecDepth 100000 in
theorem holds : Rows.FnExactGateTurnedCardSaid :=
  Claim7.holds_tied_plain_at .later [] [.handle] true (true, "3b1b4b1f99d3ce4b1a34fdc4b0b847ffe9211b0f965eb634e71cfb2af053ae4e") true
    row_holds (fun _ h => by cases h) (by kernel_rfl) (fun _ h => by cases h) fnExactGateTurned_row_tie rfl ⟨rfl, rfl⟩ (by kernel_rfl) rfl
    (fun f fn hf hfn => by
      obtain rfl : f = 5 := Option.some.inj ((show Tryd.prog.funcNamed "loop.example/wharfgate/laws.FnExactGateTurned" = some 5 by kernel_rfl).symm.trans hf) |>.symm
      obtain rfl : fn = Tryd.f5 := (Option.some.inj (Tryd.func5.symm.trans hfn)).symm
      exact ⟨by kernel_rfl, fun j t ht => by
        rw [Tryd.params5] at ht
        have hm : t ∈ [45, 48, 48] := List.mem_of_getElem? (by simpa using ht)
        simp only [List.mem_cons, List.not_mem_nil, or_false] at hm
        rcases hm with rfl | rfl | rfl <;> first | exact (show Tryd.prog.wantsStandIn 45 = false by kernel_rfl) | exact (show Tryd.prog.wantsStandIn 48 = false by kernel_rfl)⟩)
    (by kernel_rfl)
end Go.Proofs.YtdfdiinbiipacaaDoor.FnExactGateTurned
