/- Asks and slips that are ok: the two texts agree. No condition. -/
import Derived.Test.YtdfdiinbiipacaaGreatPwG
namespace Go.Proofs.YtdfdiinbiipacaaGreat.Pu
open Go Go.RowKit Go.Proofs.YtdfdiinbiipacaaGreat.Abs Go.Proofs.YtdfdiinbiipacaaGreat.Fn

theorem kindOk_e {k : Nat} {w : GateLaw} {a : GateAsk} (hk : 4194304 ≤ k) (hw : w.sd) (ha : a.sd) : impl_kindOk k w a = some (kindN w a) := by
  unfold impl_kindOk kindN
  rw [shapeOf_e hk hw.1.1, isName_e hk ha.2.2.2.1]
  simp only [Option.bind_some]
  rcases gidx_find (fun s : GateShape => seq s.Kind a.Kind) w.Shapes with ⟨h1, h2⟩ | ⟨j, hj, h1, h2, _⟩
  · rw [h1, h2]; rfl
  · rw [h1, h2, ile_t (by omega)]; rfl
theorem valuesOk_e {k : Nat} {w : GateLaw} {a : GateAsk} (hk : 4194304 ≤ k) (hw : w.sd) : impl_valuesOk k w a = some (valuesN w a) := by
  unfold impl_valuesOk valuesN
  rw [shapeOf_e hk hw.1.1]
  simp only [Option.bind_some]
  rcases gidx_find (fun s : GateShape => seq s.Kind a.Kind) w.Shapes with ⟨h1, h2⟩ | ⟨j, hj, h1, h2, _⟩
  · rw [h1, h2]; rfl
  · rw [h1, h2, ile_t (by omega), inb_n hj, nth_i hj]; rfl
theorem teamAt {x : List GateTeam} {n : Nm} : ile 0 (gidx (fun t : GateTeam => seq t.Name n) x 0) = (teamN x n).isSome := by
  unfold teamN
  rcases gidx_find (fun t : GateTeam => seq t.Name n) x with ⟨h1, h2⟩ | ⟨j, hj, h1, h2, _⟩
  · rw [h1, h2]; rfl
  · rw [h1, h2, ile_t (by omega)]; rfl
theorem implAskOk_e {k : Nat} {w : GateLaw} {a : GateAsk} (hk : 4194304 * 7 ≤ k) (hw : w.sd) (ha : a.sd) : impl_GateAskOk k w a = some (lawOk w && askN w a) := by
  unfold impl_GateAskOk askN
  have ha' := ha
  obtain ⟨a1, -, a2, a3, a4, a5, a6, -, a7, a8, a9, -⟩ := ha
  simp only [share, implLawOk_e hk hw, isName_e (show 4194304 ≤ k by omega) a1, Option.bind_some]
  cases hl : lawOk w with
  | false => rfl
  | true =>
    cases hn : nameOk a.Who with
    | false => rfl
    | true =>
      cases h6 : (ile 1 a.Verb && ile a.Verb 6) with
      | false =>
        simp only [ilt_not]
        cases h1 : ile 1 a.Verb with
        | false => rfl
        | true =>
          rw [h1, Bool.true_and] at h6
          rw [h6]; rfl
      | true =>
        have hk' : 4194304 ≤ k := by omega
        have hk8 : 8388608 ≤ k := by omega
        rw [Bool.and_eq_true] at h6
        rw [ilt_not, ilt_not, h6.1, h6.2]
        have h7 : (ile 1 a.Verb && ile a.Verb 6) = true := by rw [h6.1, h6.2]; rfl
        simp only [impl_verbs, impl_makeVerb_only, impl_changeVerb_only, impl_endVerb_only, impl_letGoVerb_only, impl_giveVerb_only, impl_takeVerb_only, impl_makeVerb_form, impl_changeVerb_form, impl_endVerb_form, impl_letGoVerb_form, impl_giveVerb_form, impl_takeVerb_form,
          kindOk_e hk' hw ha', valuesOk_e hk' hw, teamOf_e hk' hw.2.2.1, teamAt, ascendingNames_e hk8 a6, isName_e hk' a7, isName_e hk' a8, implRuleOk_e hk8 a9, equalTexts_self hk' a5.1, equalTexts_self hk' a6.1, equalTexts_nil hk', sameRule_self hk' a9.1.1, sameRule_nil hk', Option.bind_some, seq_self, cand, restN, formN]
        rcases six h7 with e | e | e | e | e | e <;> rw [e] <;> simp only [ieq, Int.reduceBEq, cond_true, cond_false, Bool.not_true, Bool.true_and, Bool.and_true, Bool.and_assoc, beq_self_eq_true, seq_nil, zero_beq] <;> rfl

theorem specAskOk_e {k : Nat} {w : GateLaw} {a : GateAsk} (hk : 4194304 * 2 ≤ k) (hw : w.sd) (ha : a.sd) : spec_l8AskOk k w a = some (askN w a) := by
  have hk' : 4194304 ≤ k := by omega
  have ha' := ha
  obtain ⟨a1, -, a2, a3, a4, a5, a6, -, a7, a8, a9, -⟩ := ha
  unfold spec_l8AskOk askN
  simp only [share, l1NameOk_e hk' a1, in_e, Option.bind_some]
  cases hn : nameOk a.Who with
  | false => rfl
  | true =>
    cases h6 : (ile 1 a.Verb && ile a.Verb 6) with
    | false => rfl
    | true =>
      have hr := rest_e k h6
      have hr2 : ∀ f : Bool → Option Bool, ((spec_l8Rest k a).bind fun b => (spec_l8Nothing k b).bind f) = f (restN a) := fun f => by
        have : ((spec_l8Rest k a).bind fun b => (spec_l8Nothing k b).bind f) = ((spec_l8Rest k a).bind fun b => spec_l8Nothing k b).bind f := by
          cases spec_l8Rest k a <;> rfl
        rw [this, hr]; rfl
      rw [hr2]
      simp only [Bool.not_true, cond_false, Bool.true_and]
      cases restN a with
      | false => rfl
      | true =>
        simp only [Bool.not_true, cond_false, Bool.true_and, l1Shape_e hk' hw.1.1, fidx_gidx, l1NameOk_e hk' a3, l1NameOk_e hk' a7, l1NameOk_e hk' a8, l4Team_e hk' hw.2.2.1, l1Ascending_e hk a6, specRuleOk_e hk a9, Option.bind_some, cand, formN, kindN, valuesN]
        rcases gidx_find (fun s : GateShape => seq s.Kind a.Kind) w.Shapes with ⟨h1, h2⟩ | ⟨j, hj, h1, h2, _⟩
        · rw [h1, h2]
          rcases six h6 with e | e | e | e | e | e <;> rw [e] <;> simp only [ieq, Int.reduceBEq, cond_true, cond_false, Bool.false_and] <;> rfl
        · rw [h1, h2, ilt_f (by omega), inb_n hj, nth_i hj]
          simp only [cond_false, req_t]
          rcases six h6 with e | e | e | e | e | e <;> rw [e] <;> simp only [ieq, Int.reduceBEq, cond_true, cond_false] <;> first
            | rfl
            | (cases nameOk a.Name with
              | false => rfl
              | true =>
                cases (a.Values.length : Int) == (w.Shapes[j].Fields.length : Int) <;> first | rfl | (cases (teamN w.Teams a.Team).isSome <;> rfl))

theorem specAsk_e {k : Nat} {w : GateLaw} {a : GateAsk} (hk : 4194304 * 6 ≤ k) (hw : w.sd) (ha : a.sd) : spec_GateAskOk k w a = some (lawOk w && askN w a) := by
  unfold spec_GateAskOk
  rw [specLawOk_e hk hw, specAskOk_e (by omega) hw ha]
  cases lawOk w <;> rfl

/-! ### Slips -/

def wantP (v : GateWant) : Bool := nameOk v.Kind && (nameOk v.Name && ile 0 v.Version)
def slipN (w : GateLaw) (s : GateSlip) : Bool := nameOk s.Door && (askN w s.Ask && (ile 0 s.Given && (ile (s.Wants.length : Int) 8 && s.Wants.all wantP)))
theorem specSlip1_e {k : Nat} {w : GateLaw} {s : GateSlip} (hk : 4194304 * 2 ≤ k) (hw : w.sd) (hs : s.sd) : spec_l9SlipOk k w s = some (slipN w s) := by
  obtain ⟨h1, h2, -, h3⟩ := hs
  unfold spec_l9SlipOk slipN
  have h := loop_all (R := Option Bool) (x := s.Wants) (p := wantP) (B := 4194304) (l := fun k i => iter (ts := spec_l9SlipOk_L4_ts) (R := Bool) k (spec_l9SlipOk_L4 (some true)) s i) (E := some true) (O := some false)
    (fun k => by simp only [iter, spec_l9SlipOk_L4, ilt_e, cond_false] <;> rfl)
    (fun k i hi hb => by
      have hv := h3.2 _ (mem_i hi)
      simp only [iter, spec_l9SlipOk_L4, share, ilt_n hi, inb_n hi, cond_true, req_t, nth_i hi, l1NameOk_e hb hv.1, l1NameOk_e hb hv.2.1, Option.bind_some, wantP]
      rw [iadd_n h3.1 hi, ilt_not]
      cases nameOk s.Wants[i].Kind <;> cases nameOk s.Wants[i].Name <;> cases ile 0 s.Wants[i].Version <;> rfl) k (by have := h3.1; omega)
  simp only [share, l1NameOk_e (show 4194304 ≤ k by omega) h1, specAskOk_e hk hw h2, Option.bind_some]
  rw [ilt_not s.Given, ilt_not 8]
  cases nameOk s.Door <;> cases askN w s.Ask <;> cases ile 0 s.Given <;> cases ile (s.Wants.length : Int) 8 <;> first | rfl | exact h.trans (by cases s.Wants.all wantP <;> rfl)
theorem specSlip_e {k : Nat} {w : GateLaw} {s : GateSlip} (hk : 4194304 * 6 ≤ k) (hw : w.sd) (hs : s.sd) : spec_GateSlipOk k w s = some (lawOk w && slipN w s) := by
  unfold spec_GateSlipOk
  rw [specLawOk_e hk hw, specSlip1_e (by omega) hw hs]
  cases lawOk w <;> rfl
theorem implSlip_e {k : Nat} {w : GateLaw} {s : GateSlip} (hk : 4194304 * 7 ≤ k) (hw : w.sd) (hs : s.sd) : impl_GateSlipOk k w s = some (lawOk w && slipN w s) := by
  obtain ⟨h1, h2, -, h3⟩ := hs
  unfold impl_GateSlipOk slipN
  have h := loop_all (R := Option Bool) (x := s.Wants) (p := wantP) (B := 4194304) (l := fun k i => iter (ts := impl_GateSlipOk_L4_ts) (R := Bool) k (impl_GateSlipOk_L4 (some true)) s.Wants (s.Wants.length : Int) i) (E := some true) (O := some false)
    (fun k => by simp only [iter, impl_GateSlipOk_L4, ilt_e, cond_false] <;> rfl)
    (fun k i hi hb => by
      have hv := h3.2 _ (mem_i hi)
      simp only [iter, impl_GateSlipOk_L4, share, ilt_n hi, inb_n hi, cond_true, req_t, nth_i hi, isName_e hb hv.1, isName_e hb hv.2.1, Option.bind_some, wantP]
      rw [iadd_n h3.1 hi, ilt_not]
      cases nameOk s.Wants[i].Kind <;> cases nameOk s.Wants[i].Name <;> cases ile 0 s.Wants[i].Version <;> rfl) k (by have := h3.1; omega)
  simp only [share, isName_e (show 4194304 ≤ k by omega) h1, implAskOk_e hk hw h2, Option.bind_some]
  rw [ilt_not s.Given, ilt_not 8]
  cases nameOk s.Door <;> cases lawOk w <;> cases askN w s.Ask <;> cases ile 0 s.Given <;> cases ile (s.Wants.length : Int) 8 <;> first | rfl | exact h.trans (by cases s.Wants.all wantP <;> rfl)

end Go.Proofs.YtdfdiinbiipacaaGreat.Pu
