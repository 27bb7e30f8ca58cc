/- Rules, asks and slips that are ok: the two texts agree. No condition. -/
import Derived.Test.YtdfdiinbiipacaaGreatPwU
namespace Go.Proofs.YtdfdiinbiipacaaGreat.Pu
open Go Go.RowKit Go.Proofs.YtdfdiinbiipacaaGreat.Abs Go.Proofs.YtdfdiinbiipacaaGreat.Fn

theorem cand (c x : Bool) : cond c (some x) (some false) = some (c && x) := by cases c <;> rfl

/-! ### Rules -/

def verbP (o : Option Int) (v : Int) : Bool := (ile 1 v && ile v 5) && (match o with | none => true | some p => ilt p v)
def blankOr (n : Nm) : Bool := seq n [] || nameOk n
def ruleOk (r : GateRule) : Bool := !ieq (r.Verbs.length : Int) 0 && (ile (r.Prefix.length : Int) 16 && (blankOr r.Kind && (blankOr r.Team && (chain verbP none r.Verbs && r.Prefix.all nb))))

theorem specRuleOk_e {k : Nat} {r : GateRule} (hk : 4194304 * 2 ≤ k) (hr : r.sd) : spec_l4RuleOk k r = some (ruleOk r) := by
  obtain ⟨h1, h2, h3, h4⟩ := hr
  unfold spec_l4RuleOk
  have h9 := loop_all (R := Option Bool) (x := r.Prefix) (p := nb) (B := 0) (l := fun k i => iter (ts := spec_l4RuleOk_L9_ts) (R := Bool) k (spec_l4RuleOk_L9 (some true)) r i) (E := some true) (O := some false)
    (fun k => by simp only [iter, spec_l4RuleOk_L9, ilt_e, cond_false] <;> rfl)
    (fun k i hi _ => by
      simp only [iter, spec_l4RuleOk_L9, ilt_n hi, inb_n hi, cond_true, req_t, sidx_get hi, l1Byte_e, Option.bind_some, iadd_n h4 hi]
      cases nb r.Prefix[i] <;> rfl) k (by simp only [sdStr] at h4; omega)
  have h5 := fun J : GateRule → Option Bool => loop_chain (R := Option Bool) (x := r.Verbs) (p := verbP) (B := 0) (l := fun k i => iter (ts := spec_l4RuleOk_L4_ts) (R := Bool) k (spec_l4RuleOk_L4 J) r i) (E := J r) (O := some false)
    (fun k => by simp only [iter, spec_l4RuleOk_L4, ilt_e, cond_false] <;> rfl)
    (fun k i hi _ => by
      simp only [iter, spec_l4RuleOk_L4, share, ilt_n hi, inb_n hi, cond_true, req_t, nth_i hi, in_e, Option.bind_some, iadd_n h1.1 hi, verbP]
      rcases Nat.eq_zero_or_pos i with rfl | h0
      · simp only [ilt_00, ahead_0]
        cases ile 1 r.Verbs[0] && ile r.Verbs[0] 5 <;> rfl
      · have hi' : i - 1 < r.Verbs.length := by omega
        simp only [ilt_0 h0, isub_n h0 (by have := h1.1; omega), inb_n hi', cond_true, req_t, nth_i hi', ahead_s h0 hi, ilt_not]
        cases ile 1 r.Verbs[i] && ile r.Verbs[i] 5 <;> cases ile r.Verbs[i] r.Verbs[i - 1] <;> rfl) k (by have := h1.1; omega)
  have go : cond false (some false) (iter (ts := spec_l4RuleOk_L4_ts) (R := Bool) k (spec_l4RuleOk_L4 fun v38 => iter (ts := spec_l4RuleOk_L9_ts) (R := Bool) k (spec_l4RuleOk_L9 (some true)) v38 (0 : Int)) r (0 : Int)) = some (chain verbP none r.Verbs && r.Prefix.all nb) := by
    refine (h5 _).trans ?_
    cases chain verbP none r.Verbs with
    | false => rfl
    | true => exact h9.trans (by cases r.Prefix.all nb <;> rfl)
  simp only [share, l1NameOk_e (show 4194304 ≤ k by omega) h2, l1NameOk_e (show 4194304 ≤ k by omega) h3, Option.bind_some, ruleOk, blankOr, ilt_not]
  cases ieq (r.Verbs.length : Int) 0 with
  | true => rfl
  | false =>
    cases ile (r.Prefix.length : Int) 16 with
    | false => rfl
    | true =>
      cases seq r.Kind [] <;> cases nameOk r.Kind <;> cases seq r.Team [] <;> cases nameOk r.Team <;> first | rfl | exact go
theorem implRuleOk_e {k : Nat} {r : GateRule} (hk : 4194304 * 2 ≤ k) (hr : r.sd) : impl_GateRule_ok k r = some (ruleOk r) := by
  obtain ⟨h1, h2, h3, h4⟩ := hr
  unfold impl_GateRule_ok
  have h5 := loop_chain (R := Option Bool) (x := r.Verbs) (p := verbP) (B := 0) (l := fun k i => iter (ts := impl_GateRule_ok_L4_ts) (R := Bool) k (impl_GateRule_ok_L4 (some true)) r r.Verbs (r.Verbs.length : Int) i) (E := some true) (O := some false)
    (fun k => by simp only [iter, impl_GateRule_ok_L4, ilt_e, cond_false] <;> rfl)
    (fun k i hi _ => by
      simp only [iter, impl_GateRule_ok_L4, share, ilt_n hi, inb_n hi, cond_true, req_t, nth_i hi, Option.bind_some, iadd_n h1.1 hi, verbP]
      rcases Nat.eq_zero_or_pos i with rfl | h0
      · simp only [ilt_00, ahead_0]
        rw [ilt_not r.Verbs[0], ilt_not 5]
        cases ile 1 r.Verbs[0] <;> cases ile r.Verbs[0] 5 <;> rfl
      · have hi' : i - 1 < r.Verbs.length := by omega
        simp only [ilt_0 h0, isub_n h0 (by have := h1.1; omega), inb_n hi', cond_true, req_t, nth_i hi', ahead_s h0 hi]
        rw [ilt_not r.Verbs[i], ilt_not 5, ilt_not r.Verbs[i - 1]]
        cases ile 1 r.Verbs[i] <;> cases ile r.Verbs[i] 5 <;> cases ile r.Verbs[i] r.Verbs[i - 1] <;> rfl) k (by have := h1.1; omega)
  have go : iter (ts := impl_GateRule_ok_L4_ts) (R := Bool) k (impl_GateRule_ok_L4 (some true)) r r.Verbs (r.Verbs.length : Int) (0 : Int) = some (chain verbP none r.Verbs) := h5.trans (by cases chain verbP none r.Verbs <;> rfl)
  simp only [share, isName_e (show 4194304 ≤ k by omega) h2, isName_e (show 4194304 ≤ k by omega) h3, nameBytes_e (show 4194304 ≤ k by omega) h4, Option.bind_some, ruleOk, blankOr, ilt_not]
  cases ieq (r.Verbs.length : Int) 0 with
  | true => rfl
  | false =>
    cases ile (r.Prefix.length : Int) 16 <;> cases seq r.Kind [] <;> cases nameOk r.Kind <;> cases seq r.Team [] <;> cases nameOk r.Team <;> cases r.Prefix.all nb <;> first | rfl | (refine Eq.trans ?_ (show some (chain verbP none r.Verbs && false) = _ from rfl); rw [Bool.and_false]; rfl) | (refine Eq.trans go ?_; simp)

/-! ### Texts that are the same -/

theorem equalTexts_self {k : Nat} {xs : List Nm} (hk : 4194304 ≤ k) (hx : xs.length ≤ 1048576) : impl_equalTexts k xs xs = some true := by
  unfold impl_equalTexts
  rw [ieq_self]
  have h := loop_all (R := Option Bool) (x := xs) (p := fun _ => true) (B := 0) (l := fun k i => iter (ts := impl_equalTexts_L4_ts) (R := Bool) k (impl_equalTexts_L4 (some true)) xs xs (xs.length : Int) i) (E := some true) (O := some false)
    (fun k => by simp only [iter, impl_equalTexts_L4, ilt_e, cond_false] <;> rfl)
    (fun k i hi _ => by simp only [iter, impl_equalTexts_L4, ilt_n hi, inb_n hi, cond_true, req_t, nth_i hi, seq_self, iadd_n hx hi] <;> rfl) k (by omega)
  exact h.trans (by rw [show xs.all (fun _ => true) = true by simp]; rfl)
theorem seq_nil (x : Nm) : seq [] x = seq x [] := seq_comm _ _
theorem zero_beq (x : Int) : ((0 : Int) == x) = (x == 0) := by rw [Bool.eq_iff_iff]; simp only [beq_iff_eq]; exact eq_comm
theorem ieq_comm (a b : Int) : ieq a b = ieq b a := by
  rw [Bool.eq_iff_iff]; simp only [ieq, beq_iff_eq]; exact eq_comm
theorem equalTexts_nil {k : Nat} {xs : List Nm} (hk : 4194304 ≤ k) : impl_equalTexts k [] xs = some (ieq (xs.length : Int) 0) := by
  unfold impl_equalTexts
  rw [ieq_comm (xs.length : Int) 0]
  simp only [List.length_nil]
  cases h : ieq ((0 : Nat) : Int) (xs.length : Int) with
  | false => rfl
  | true =>
    obtain ⟨k, rfl⟩ : ∃ q, k = q + 1 := ⟨k - 1, by omega⟩
    rfl
theorem sameRule_self {k : Nat} {r : GateRule} (hk : 4194304 ≤ k) (hx : r.Verbs.length ≤ 1048576) : impl_sameRule k r r = some true := by
  unfold impl_sameRule
  have h := loop_all (R := Option Bool) (x := r.Verbs) (p := fun _ => true) (B := 0) (l := fun k i => iter (ts := impl_sameRule_L4_ts) (R := Bool) k (impl_sameRule_L4 (some true)) r r (r.Verbs.length : Int) i) (E := some true) (O := some false)
    (fun k => by simp only [iter, impl_sameRule_L4, ilt_e, cond_false] <;> rfl)
    (fun k i hi _ => by simp only [iter, impl_sameRule_L4, ilt_n hi, inb_n hi, cond_true, req_t, nth_i hi, ieq_self, iadd_n hx hi] <;> rfl) k (by omega)
  simp only [share, ieq_self, seq_self]
  exact h.trans (by rw [show r.Verbs.all (fun _ => true) = true by simp]; rfl)
def noRule (r : GateRule) : Bool := ieq (r.Verbs.length : Int) 0 && (seq r.Kind [] && (seq r.Team [] && seq r.Prefix []))
theorem sameRule_nil {k : Nat} {r : GateRule} (hk : 4194304 ≤ k) : impl_sameRule k ⟨[], [], [], []⟩ r = some (noRule r) := by
  unfold impl_sameRule noRule
  rw [ieq_comm (r.Verbs.length : Int) 0, seq_comm r.Kind, seq_comm r.Team, seq_comm r.Prefix]
  obtain ⟨k, rfl⟩ : ∃ q, k = q + 1 := ⟨k - 1, by omega⟩
  simp only [share, List.length_nil]
  have go : ieq 0 (r.Verbs.length : Int) = true → iter (ts := impl_sameRule_L4_ts) (R := Bool) (k + 1) (impl_sameRule_L4 (some true)) (⟨[], [], [], []⟩ : GateRule) r ((0 : Nat) : Int) (0 : Int) = some true := fun _ => rfl
  change cond (!ieq 0 (r.Verbs.length : Int)) _ _ = _
  cases h : ieq 0 (r.Verbs.length : Int) with
  | false => rfl
  | true => cases seq [] r.Kind <;> cases seq [] r.Team <;> cases seq [] r.Prefix <;> first | rfl | exact go h

/-! ### Asks -/

def kindN (w : GateLaw) (a : GateAsk) : Bool := match w.Shapes.find? fun s => seq s.Kind a.Kind with
  | some _ => nameOk a.Name
  | none => false
def valuesN (w : GateLaw) (a : GateAsk) : Bool := match w.Shapes.find? fun s => seq s.Kind a.Kind with
  | some s => ieq (a.Values.length : Int) (s.Fields.length : Int)
  | none => false
def formN (w : GateLaw) (a : GateAsk) : Bool :=
  cond (ieq a.Verb 1) (kindN w a && ((teamN w.Teams a.Team).isSome && (valuesN w a && (ile (a.Holds.length : Int) 3 && ascend a.Holds))))
  (cond (ieq a.Verb 2) (kindN w a && (valuesN w a && ile 0 a.Seen))
  (cond (ieq a.Verb 3) (kindN w a && ile 0 a.Seen)
  (cond (ieq a.Verb 4) (kindN w a && nameOk a.Hold)
  (cond (ieq a.Verb 5) (nameOk a.To && ruleOk a.Rule) (ile 1 a.Number)))))
def nothing (a : GateAsk) : Bool := seq a.Kind [] && (seq a.Name [] && (seq a.Team [] && (ieq (a.Values.length : Int) 0 && (ieq (a.Holds.length : Int) 0 && (ieq a.Seen 0 && (seq a.Hold [] && (seq a.To [] && (noRule a.Rule && ieq a.Number 0))))))))
/-- What its verb leaves over is blank. -/
def restN (a : GateAsk) : Bool :=
  cond (ieq a.Verb 1) (ieq a.Seen 0 && (seq a.Hold [] && (seq a.To [] && (noRule a.Rule && ieq a.Number 0))))
  (cond (ieq a.Verb 2) (seq a.Team [] && (ieq (a.Holds.length : Int) 0 && (seq a.Hold [] && (seq a.To [] && (noRule a.Rule && ieq a.Number 0)))))
  (cond (ieq a.Verb 3) (seq a.Team [] && (ieq (a.Values.length : Int) 0 && (ieq (a.Holds.length : Int) 0 && (seq a.Hold [] && (seq a.To [] && (noRule a.Rule && ieq a.Number 0))))))
  (cond (ieq a.Verb 4) (seq a.Team [] && (ieq (a.Values.length : Int) 0 && (ieq (a.Holds.length : Int) 0 && (ieq a.Seen 0 && (seq a.To [] && (noRule a.Rule && ieq a.Number 0))))))
  (cond (ieq a.Verb 5) (seq a.Kind [] && (seq a.Name [] && (seq a.Team [] && (ieq (a.Values.length : Int) 0 && (ieq (a.Holds.length : Int) 0 && (ieq a.Seen 0 && (seq a.Hold [] && ieq a.Number 0)))))))
  (seq a.Kind [] && (seq a.Name [] && (seq a.Team [] && (ieq (a.Values.length : Int) 0 && (ieq (a.Holds.length : Int) 0 && (ieq a.Seen 0 && (seq a.Hold [] && (seq a.To [] && noRule a.Rule))))))))))))
def askN (w : GateLaw) (a : GateAsk) : Bool := nameOk a.Who && ((ile 1 a.Verb && ile a.Verb 6) && (restN a && formN w a))
theorem nothing_e (k : Nat) (a : GateAsk) : spec_l8Nothing k a = some (nothing a) := by
  unfold spec_l8Nothing nothing noRule
  simp only [cand, Bool.and_assoc]
theorem six {v : Int} (h : (ile 1 v && ile v 6) = true) : v = 1 ∨ v = 2 ∨ v = 3 ∨ v = 4 ∨ v = 5 ∨ v = 6 := by
  simp only [Bool.and_eq_true, ile, decide_eq_true_eq] at h; omega
theorem rest_e (k : Nat) {a : GateAsk} (h : (ile 1 a.Verb && ile a.Verb 6) = true) : ((spec_l8Rest k a).bind fun b => spec_l8Nothing k b) = some (restN a) := by
  unfold spec_l8Rest restN
  simp only [share, nothing_e]
  rcases six h with e | e | e | e | e | e <;> rw [e] <;> simp only [ieq, Int.reduceBEq, cond_true, cond_false, Option.bind_some, nothing, noRule, seq_self, Bool.true_and, Bool.and_true, List.length_nil] <;> rfl

end Go.Proofs.YtdfdiinbiipacaaGreat.Pu
