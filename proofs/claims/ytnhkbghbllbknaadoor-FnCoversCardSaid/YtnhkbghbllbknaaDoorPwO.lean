/- Rules that are ok: the two texts agree. No condition. -/
import Derived.Test.YtnhkbghbllbknaaDoorPwV
namespace Go.Proofs.YtnhkbghbllbknaaDoor.Pu
open Go Go.RowKit Go.Proofs.YtnhkbghbllbknaaDoor.Abs Go.Proofs.YtnhkbghbllbknaaDoor.Fn

theorem cand (c x : Bool) : cond c (some x) (some false) = some (c && x) := by cases c <;> rfl

/-! ### Rules -/

def verbP (o : Option Int) (v : Int) : Bool := (ile 1 v && ile v 5) && (match o with | none => true | some p => ilt p v)
def blankOr (n : Nm) : Bool := seq n [] || nameOk n
def ruleOk (r : GateRule) : Bool := !ieq (r.Verbs.length : Int) 0 && (ile (r.Prefix.length : Int) 16 && (blankOr r.Kind && (blankOr r.Team && (chain verbP none r.Verbs && r.Prefix.all nb))))

theorem specRuleOk_e {k : Nat} {r : GateRule} (hk : 4194304 * 2 ≤ k) (hr : r.sd) : spec_l4RuleOk k r = some (ruleOk r) := by
  obtain ⟨h1, h2, h3, h4⟩ := hr
  unfold spec_l4RuleOk
  have h9 := loop_all (R := Option Bool) (x := r.Prefix) (p := nb) (B := 0) (l := fun k i => iter (ts := spec_l4RuleOk_L9_ts) (R := Bool) k (spec_l4RuleOk_L9 (some true)) r i) (E := some true) (O := some false)
    (fun k => by simp only [iter, spec_l4RuleOk_L9, ilt_e, cond_false] <;> rfl)
    (fun k i hi _ => by
      simp only [iter, spec_l4RuleOk_L9, ilt_n hi, inb_n hi, cond_true, req_t, sidx_get hi, l1Byte_e, Option.bind_some, iadd_n h4 hi]
      cases nb r.Prefix[i] <;> rfl) k (by simp only [sdStr] at h4; omega)
  have h5 := fun J : GateRule → Option Bool => loop_chain (R := Option Bool) (x := r.Verbs) (p := verbP) (B := 0) (l := fun k i => iter (ts := spec_l4RuleOk_L4_ts) (R := Bool) k (spec_l4RuleOk_L4 J) r i) (E := J r) (O := some false)
    (fun k => by simp only [iter, spec_l4RuleOk_L4, ilt_e, cond_false] <;> rfl)
    (fun k i hi _ => by
      simp only [iter, spec_l4RuleOk_L4, share, ilt_n hi, inb_n hi, cond_true, req_t, nth_i hi, in_e, Option.bind_some, iadd_n h1.1 hi, verbP]
      rcases Nat.eq_zero_or_pos i with rfl | h0
      · simp only [ilt_00, ahead_0]
        cases ile 1 r.Verbs[0] && ile r.Verbs[0] 5 <;> rfl
      · have hi' : i - 1 < r.Verbs.length := by omega
        simp only [ilt_0 h0, isub_n h0 (by have := h1.1; omega), inb_n hi', cond_true, req_t, nth_i hi', ahead_s h0 hi, ilt_not]
        cases ile 1 r.Verbs[i] && ile r.Verbs[i] 5 <;> cases ile r.Verbs[i] r.Verbs[i - 1] <;> rfl) k (by have := h1.1; omega)
  have go : cond false (some false) (iter (ts := spec_l4RuleOk_L4_ts) (R := Bool) k (spec_l4RuleOk_L4 fun v38 => iter (ts := spec_l4RuleOk_L9_ts) (R := Bool) k (spec_l4RuleOk_L9 (some true)) v38 (0 : Int)) r (0 : Int)) = some (chain verbP none r.Verbs && r.Prefix.all nb) := by
    refine (h5 _).trans ?_
    cases chain verbP none r.Verbs with
    | false => rfl
    | true => exact h9.trans (by cases r.Prefix.all nb <;> rfl)
  simp only [share, l1NameOk_e (show 4194304 ≤ k by omega) h2, l1NameOk_e (show 4194304 ≤ k by omega) h3, Option.bind_some, ruleOk, blankOr, ilt_not]
  cases ieq (r.Verbs.length : Int) 0 with
  | true => rfl
  | false =>
    cases ile (r.Prefix.length : Int) 16 with
    | false => rfl
    | true =>
      cases seq r.Kind [] <;> cases nameOk r.Kind <;> cases seq r.Team [] <;> cases nameOk r.Team <;> first | rfl | exact go
theorem implRuleOk_e {k : Nat} {r : GateRule} (hk : 4194304 * 2 ≤ k) (hr : r.sd) : impl_GateRule_ok k r = some (ruleOk r) := by
  obtain ⟨h1, h2, h3, h4⟩ := hr
  unfold impl_GateRule_ok
  have h5 := loop_chain (R := Option Bool) (x := r.Verbs) (p := verbP) (B := 0) (l := fun k i => iter (ts := impl_GateRule_ok_L4_ts) (R := Bool) k (impl_GateRule_ok_L4 (some true)) r r.Verbs (r.Verbs.length : Int) i) (E := some true) (O := some false)
    (fun k => by simp only [iter, impl_GateRule_ok_L4, ilt_e, cond_false] <;> rfl)
    (fun k i hi _ => by
      simp only [iter, impl_GateRule_ok_L4, share, ilt_n hi, inb_n hi, cond_true, req_t, nth_i hi, Option.bind_some, iadd_n h1.1 hi, verbP]
      rcases Nat.eq_zero_or_pos i with rfl | h0
      · simp only [ilt_00, ahead_0]
        rw [ilt_not r.Verbs[0], ilt_not 5]
        cases ile 1 r.Verbs[0] <;> cases ile r.Verbs[0] 5 <;> rfl
      · have hi' : i - 1 < r.Verbs.length := by omega
        simp only [ilt_0 h0, isub_n h0 (by have := h1.1; omega), inb_n hi', cond_true, req_t, nth_i hi', ahead_s h0 hi]
        rw [ilt_not r.Verbs[i], ilt_not 5, ilt_not r.Verbs[i - 1]]
        cases ile 1 r.Verbs[i] <;> cases ile r.Verbs[i] 5 <;> cases ile r.Verbs[i] r.Verbs[i - 1] <;> rfl) k (by have := h1.1; omega)
  have go : iter (ts := impl_GateRule_ok_L4_ts) (R := Bool) k (impl_GateRule_ok_L4 (some true)) r r.Verbs (r.Verbs.length : Int) (0 : Int) = some (chain verbP none r.Verbs) := h5.trans (by cases chain verbP none r.Verbs <;> rfl)
  simp only [share, isName_e (show 4194304 ≤ k by omega) h2, isName_e (show 4194304 ≤ k by omega) h3, nameBytes_e (show 4194304 ≤ k by omega) h4, Option.bind_some, ruleOk, blankOr, ilt_not]
  cases ieq (r.Verbs.length : Int) 0 with
  | true => rfl
  | false =>
    cases ile (r.Prefix.length : Int) 16 <;> cases seq r.Kind [] <;> cases nameOk r.Kind <;> cases seq r.Team [] <;> cases nameOk r.Team <;> cases r.Prefix.all nb <;> first | rfl | (refine Eq.trans ?_ (show some (chain verbP none r.Verbs && false) = _ from rfl); rw [Bool.and_false]; rfl) | (refine Eq.trans go ?_; simp)

end Go.Proofs.YtnhkbghbllbknaaDoor.Pu
