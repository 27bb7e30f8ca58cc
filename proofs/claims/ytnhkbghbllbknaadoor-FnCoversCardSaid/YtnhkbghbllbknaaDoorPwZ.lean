/- What covering, allowing and what is uncovered have to do with one another. No condition. -/
import Derived.Test.YtnhkbghbllbknaaDoorPwY
namespace Go.Proofs.YtnhkbghbllbknaaDoor.Pu
open Go Go.RowKit Go.Proofs.YtnhkbghbllbknaaDoor.Abs Go.Proofs.YtnhkbghbllbknaaDoor.Fn

/-! ### Being under is handed on -/

def ov (x : List GateTeam) : Nat → Nm → Nm
  | 0, a => a
  | j + 1, a => ov x j (overN x a)
theorem ov_add (x : List GateTeam) : ∀ i j a, ov x (i + j) a = ov x j (ov x i a)
  | 0, j, a => by rw [Nat.zero_add]; rfl
  | i + 1, j, a => by
    rw [show i + 1 + j = (i + j) + 1 by omega]
    exact ov_add x i j (overN x a)
theorem under_iff (x : List GateTeam) : ∀ m a b, underN x m a b = true ↔ ∃ j, j ≤ m ∧ ov x j a = b ∧ ∀ i, 1 ≤ i → i ≤ j → ov x i a ≠ []
  | 0, a, b => by
    simp only [underN, seq_iff]
    constructor
    · exact fun h => ⟨0, Nat.le_refl _, h, fun i h1 h2 => by omega⟩
    · rintro ⟨j, h1, h2, _⟩
      obtain rfl : j = 0 := by omega
      exact h2
  | m + 1, a, b => by
    simp only [underN, Bool.or_eq_true, Bool.and_eq_true, Bool.not_eq_true', seq_iff, under_iff x m]
    constructor
    · rintro (h | ⟨h, j, h1, h2, h3⟩)
      · exact ⟨0, by omega, h, fun i h1 h2 => by omega⟩
      · refine ⟨j + 1, by omega, h2, fun i h4 h5 => ?_⟩
        have hne : overN x a ≠ [] := fun e => by rw [seq_iff.2 e] at h; cases h
        cases i with
        | zero => omega
        | succ i =>
          cases i with
          | zero => exact hne
          | succ i => exact h3 (i + 1) (by omega) (by omega)
    · rintro ⟨j, h1, h2, h3⟩
      cases j with
      | zero => exact .inl h2
      | succ j =>
        refine .inr ⟨?_, j, by omega, h2, fun i h4 h5 => h3 (i + 1) (by omega) (by omega)⟩
        cases e : seq (overN x a) [] with
        | false => rfl
        | true => exact absurd (seq_iff.1 e) (h3 1 (by omega) (by omega))
theorem teamsOk_nm {x : List GateTeam} (h : teamsOk x = true) : chain (team1 x) none x = true ∧ ∀ t, t ∈ x → climb x 4 t.Over = true := by
  simp only [teamsOk, Bool.and_eq_true, List.all_eq_true] at h
  exact ⟨h.2.1, h.2.2⟩
theorem over_nil {x : List GateTeam} (h : teamsOk x = true) : overN x [] = [] := by
  have hn : teamN x [] = none := by
    unfold teamN
    rw [List.find?_eq_none]
    intro t ht e
    have h1 := (chain_nm (teamsOk_nm h).1 t ht).1
    rw [nameOk_ne e] at h1
    cases h1
  unfold overN; rw [hn]
theorem up_ov {x : List GateTeam} (h : overN x [] = []) : ∀ m a, upN x m a = ov x m a
  | 0, _ => rfl
  | m + 1, a => by
    simp only [upN, ov]
    cases e : seq a [] with
    | true =>
      have : ∀ j, ov x j [] = [] := fun j => by
        induction j with
        | zero => rfl
        | succ j ih => simp only [ov, h, ih]
      rw [seq_iff.1 e, h, this]; rfl
    | false => exact up_ov h m _
theorem ov_5 {x : List GateTeam} (h : teamsOk x = true) (a : Nm) : ov x 5 a = [] := by
  have h0 := over_nil h
  show ov x 4 (overN x a) = []
  rw [← up_ov h0]
  unfold overN teamN
  cases hf : x.find? fun t => seq t.Name a with
  | none => exact upN_nil x 4
  | some t => exact seq_iff.1 ((teamsOk_nm h).2 t (List.mem_of_find?_eq_some hf))
theorem ov_le {x : List GateTeam} (h : teamsOk x = true) {i : Nat} {a : Nm} (hi : ov x i a ≠ []) : i ≤ 4 := by
  rcases Nat.lt_or_ge 4 i with h1 | h1
  · refine absurd ?_ hi
    rw [show i = 5 + (i - 5) by omega, ov_add, ov_5 h, ← up_ov (over_nil h)]
    exact upN_nil x _
  · exact h1
theorem under_trans {x : List GateTeam} (h : teamsOk x = true) {a b c : Nm} (h1 : underN x 4 a b = true) (h2 : underN x 4 b c = true) : underN x 4 a c = true := by
  obtain ⟨j, j1, j2, j3⟩ := (under_iff x 4 a b).1 h1
  obtain ⟨l, l1, l2, l3⟩ := (under_iff x 4 b c).1 h2
  have hall : ∀ i, 1 ≤ i → i ≤ j + l → ov x i a ≠ [] := fun i h4 h5 => by
    rcases Nat.lt_or_ge j i with h6 | h6
    · rw [show i = j + (i - j) by omega, ov_add, j2]
      exact l3 (i - j) (by omega) (by omega)
    · exact j3 i h4 h6
  refine (under_iff x 4 a c).2 ⟨j + l, ?_, by rw [ov_add, j2, l2], hall⟩
  rcases Nat.eq_zero_or_pos (j + l) with h4 | h4
  · omega
  · exact ov_le h (hall (j + l) h4 (Nat.le_refl _))
theorem under_refl (x : List GateTeam) (m : Nat) (a : Nm) : underN x m a a = true := by
  cases m <;> simp [underN, seq_self]

/-! ### Beginnings -/

theorem begins_iff {s p : List UInt8} : begins s p = true ↔ p <+: s := by
  simp only [begins, Bool.and_eq_true, ile, decide_eq_true_eq, seq_iff, subl, Int.toNat_natCast, Int.toNat_zero, List.drop_zero]
  constructor
  · rintro ⟨_, h⟩
    rw [← h]; exact List.take_prefix _ _
  · intro h
    exact ⟨by have := h.length_le; omega, (List.prefix_iff_eq_take.1 h).symm⟩
theorem begins_refl (s : List UInt8) : begins s s = true := begins_iff.2 (List.prefix_refl s)
theorem begins_trans {a b c : List UInt8} (h1 : begins a b = true) (h2 : begins b c = true) : begins a c = true := begins_iff.2 ((begins_iff.1 h2).trans (begins_iff.1 h1))

/-! ### Wider, reaching -/

theorem wide_iff {x : List GateTeam} {r q : GateRule} {v : Int} : wideN x r q v = true ↔ hasV r v = true ∧ (r.Kind = [] ∨ r.Kind = q.Kind) ∧ (r.Team = [] ∨ (q.Team ≠ [] ∧ underN x 4 q.Team r.Team = true)) ∧ begins q.Prefix r.Prefix = true := by
  have e : ∀ t : Nm, (!seq t []) = true ↔ t ≠ [] := fun t => by
    rw [Bool.not_eq_true', ← Bool.not_eq_true, seq_iff]
  simp only [wideN, Bool.and_eq_true, Bool.or_eq_true, seq_iff, e]
def reachN (x : List GateTeam) (r : GateRule) (a : GateAct) : Bool := hasV r a.Verb && ((seq r.Kind [] || seq r.Kind a.Kind) && ((seq r.Team [] || underN x 4 a.Team r.Team) && begins a.Name r.Prefix))
def allowsM (x : List GateTeam) (r : GateRule) (a : GateAct) : Bool := teamsOk x && (ruleOk r && reachN x r a)
theorem reach_iff {x : List GateTeam} {r : GateRule} {a : GateAct} : reachN x r a = true ↔ hasV r a.Verb = true ∧ (r.Kind = [] ∨ r.Kind = a.Kind) ∧ (r.Team = [] ∨ underN x 4 a.Team r.Team = true) ∧ begins a.Name r.Prefix = true := by
  simp only [reachN, Bool.and_eq_true, Bool.or_eq_true, seq_iff]
theorem wide_reach {x : List GateTeam} (hx : teamsOk x = true) {r q : GateRule} {a : GateAct} (h : wideN x r q a.Verb = true) (hq : reachN x q a = true) : reachN x r a = true := by
  obtain ⟨w1, w2, w3, w4⟩ := wide_iff.1 h
  obtain ⟨_, q2, q3, q4⟩ := reach_iff.1 hq
  refine reach_iff.2 ⟨w1, ?_, ?_, begins_trans q4 w4⟩
  · rcases w2 with w2 | w2
    · exact .inl w2
    · rcases q2 with q2 | q2
      · exact .inl (w2.trans q2)
      · exact .inr (w2.trans q2)
  · rcases w3 with w3 | ⟨w3, w5⟩
    · exact .inl w3
    · exact .inr (under_trans hx (q3.resolve_left w3) w5)
theorem wide_wide {x : List GateTeam} (hx : teamsOk x = true) {o r q : GateRule} {v : Int} (h : wideN x o r v = true) (hq : wideN x r q v = true) : wideN x o q v = true := by
  obtain ⟨w1, w2, w3, w4⟩ := wide_iff.1 h
  obtain ⟨_, q2, q3, q4⟩ := wide_iff.1 hq
  refine wide_iff.2 ⟨w1, ?_, ?_, begins_trans q4 w4⟩
  · rcases w2 with w2 | w2
    · exact .inl w2
    · rcases q2 with q2 | q2
      · exact .inl (w2.trans q2)
      · exact .inr (w2.trans q2)
  · rcases w3 with w3 | ⟨w3, w5⟩
    · exact .inl w3
    · obtain ⟨q5, q6⟩ := q3.resolve_left w3
      exact .inr ⟨q5, under_trans hx q6 w5⟩
theorem wide_self {x : List GateTeam} {q : GateRule} {v : Int} (hv : hasV q v = true) : wideN x q q v = true := by
  refine wide_iff.2 ⟨hv, .inr rfl, ?_, begins_refl _⟩
  by_cases h : q.Team = []
  · exact .inl h
  · exact .inr ⟨h, under_refl x 4 _⟩
theorem hasV_iff {r : GateRule} {v : Int} : hasV r v = true ↔ v ∈ r.Verbs := by
  simp only [hasV, List.any_eq_true, ieq, beq_iff_eq]
  exact ⟨fun ⟨y, h1, h2⟩ => h2 ▸ h1, fun h => ⟨v, h, rfl⟩⟩

/-! ### Covering -/

def coversM (x : List GateTeam) (rs : List GateRule) (q : GateRule) : Bool := allOk x rs q && ieq (lacksN x rs q) 0
theorem allOk_iff {x : List GateTeam} {rs : List GateRule} {q : GateRule} : allOk x rs q = true ↔ teamsOk x = true ∧ ruleOk q = true ∧ ∀ r, r ∈ rs → ruleOk r = true := by
  simp only [allOk, Bool.and_eq_true, List.all_eq_true]
theorem lacks_0 {x : List GateTeam} {rs : List GateRule} {q : GateRule} (hq : ruleOk q = true) : ieq (lacksN x rs q) 0 = true ↔ ∀ v, v ∈ q.Verbs → ∃ r, r ∈ rs ∧ wideN x r q v = true := by
  unfold lacksN
  cases hf : q.Verbs.find? fun v => !rs.any fun r => wideN x r q v with
  | none =>
    rw [List.find?_eq_none] at hf
    refine ⟨fun _ v hv => ?_, fun _ => rfl⟩
    have := hf v hv
    simp only [Bool.not_eq_true', Bool.not_eq_false, List.any_eq_true] at this
    exact this
  | some v =>
    have h1 := List.find?_some hf
    have h2 := List.mem_of_find?_eq_some hf
    have h3 := ruleOk_verbs hq v h2
    constructor
    · intro h
      simp only [Option.getD_some, ieq, beq_iff_eq] at h
      omega
    · intro h
      obtain ⟨r, h4, h5⟩ := h v h2
      have : (rs.any fun r => wideN x r q v) = true := List.any_eq_true.2 ⟨r, h4, h5⟩
      rw [this] at h1
      cases h1
theorem covers_iff {x : List GateTeam} {rs : List GateRule} {q : GateRule} : coversM x rs q = true ↔ (teamsOk x = true ∧ ruleOk q = true ∧ ∀ r, r ∈ rs → ruleOk r = true) ∧ ∀ v, v ∈ q.Verbs → ∃ r, r ∈ rs ∧ wideN x r q v = true := by
  unfold coversM
  rw [Bool.and_eq_true, allOk_iff]
  constructor
  · rintro ⟨h1, h2⟩
    exact ⟨h1, (lacks_0 h1.2.1).1 h2⟩
  · rintro ⟨h1, h2⟩
    exact ⟨h1, (lacks_0 h1.2.1).2 h2⟩
/-- With the rule itself all is covered. -/
theorem covers_all {x : List GateTeam} {rs : List GateRule} {q : GateRule} : coversM x (rs ++ [q]) q = allOk x rs q := by
  rw [Bool.eq_iff_iff, covers_iff, allOk_iff]
  constructor
  · rintro ⟨⟨h1, h2, h3⟩, _⟩
    exact ⟨h1, h2, fun r hr => h3 r (by simp [hr])⟩
  · rintro ⟨h1, h2, h3⟩
    refine ⟨⟨h1, h2, fun r hr => ?_⟩, fun v hv => ⟨q, by simp, wide_self (hasV_iff.2 hv)⟩⟩
    rcases List.mem_append.1 hr with h | h
    · exact h3 r h
    · rw [List.mem_singleton.1 h]; exact h2
def someM (x : List GateTeam) (rs : List GateRule) (a : GateAct) : Bool := rs.any fun r => allowsM x r a
theorem covers_some {x : List GateTeam} {rs : List GateRule} {q : GateRule} {a : GateAct} (hc : coversM x rs q = true) (ha : allowsM x q a = true) : someM x rs a = true := by
  obtain ⟨⟨h1, h2, h3⟩, h4⟩ := covers_iff.1 hc
  simp only [allowsM, Bool.and_eq_true] at ha
  obtain ⟨_, _, hr⟩ := ha
  obtain ⟨r, h5, h6⟩ := h4 a.Verb (hasV_iff.1 (reach_iff.1 hr).1)
  refine List.any_eq_true.2 ⟨r, h5, ?_⟩
  simp only [allowsM, Bool.and_eq_true]
  exact ⟨h1, h3 r h5, wide_reach h1 h6 hr⟩
theorem ruleOk_ne {r : GateRule} (h : ruleOk r = true) : ∃ v, v ∈ r.Verbs := by
  simp only [ruleOk, Bool.and_eq_true, Bool.not_eq_true'] at h
  cases e : r.Verbs with
  | nil => rw [e] at h; cases h.1
  | cons a l => exact ⟨a, by simp⟩
theorem covers_trans {x : List GateTeam} {rs os : List GateRule} {q : GateRule} (hc : coversM x rs q = true) (ho : ∀ r, r ∈ rs → coversM x os r = true) : coversM x os q = true := by
  obtain ⟨⟨h1, h2, h3⟩, h4⟩ := covers_iff.1 hc
  obtain ⟨v0, hv0⟩ := ruleOk_ne h2
  obtain ⟨r0, hr0, _⟩ := h4 v0 hv0
  obtain ⟨⟨_, _, h5⟩, _⟩ := covers_iff.1 (ho r0 hr0)
  refine covers_iff.2 ⟨⟨h1, h2, h5⟩, fun v hv => ?_⟩
  obtain ⟨r, h6, h7⟩ := h4 v hv
  obtain ⟨o, h8, h9⟩ := (covers_iff.1 (ho r h6)).2 v (hasV_iff.1 (wide_iff.1 h7).1)
  exact ⟨o, h8, wide_wide h1 h9 h7⟩
/-- What is uncovered is allowed by the rule, and by none of the others. -/
theorem unc_allows {x : List GateTeam} {rs : List GateRule} {q : GateRule} (h : (uncM x rs q).2 = true) : coversM x rs q = false ∧ allowsM x q (uncM x rs q).1 = true ∧ someM x rs (uncM x rs q).1 = false := by
  unfold uncM at h ⊢
  cases hc : allOk x rs q && !ieq (lacksN x rs q) 0 with
  | false => rw [hc] at h; cases h
  | true =>
    simp only [cond_true]
    rw [Bool.and_eq_true, Bool.not_eq_true'] at hc
    obtain ⟨ha, hl⟩ := hc
    obtain ⟨h1, h2, h3⟩ := allOk_iff.1 ha
    have hcov : coversM x rs q = false := by unfold coversM; rw [hl, Bool.and_false]
    obtain ⟨v, hv, hv2, hv3⟩ : ∃ v, lacksN x rs q = v ∧ v ∈ q.Verbs ∧ ∀ r, r ∈ rs → wideN x r q v = false := by
      unfold lacksN at hl ⊢
      cases hf : q.Verbs.find? fun v => !rs.any fun r => wideN x r q v with
      | none => rw [hf] at hl; cases hl
      | some v =>
        refine ⟨v, rfl, List.mem_of_find?_eq_some hf, fun r hr => ?_⟩
        have h4 := List.find?_some hf
        rw [Bool.not_eq_true', List.any_eq_false] at h4
        simpa using h4 r hr
    refine ⟨hcov, ?_, ?_⟩
    · simp only [allowsM, Bool.and_eq_true]
      refine ⟨h1, h2, reach_iff.2 ⟨?_, ?_, ?_, begins_refl _⟩⟩
      · simp only; rw [hv]; exact hasV_iff.2 hv2
      · cases e : seq q.Kind [] with
        | true => exact .inl (seq_iff.1 e)
        | false => exact .inr rfl
      · cases e : seq q.Team [] with
        | true => exact .inl (seq_iff.1 e)
        | false => exact .inr (under_refl x 4 _)
    · refine Bool.eq_false_iff.2 fun hs => ?_
      obtain ⟨r, hr, hra⟩ := List.any_eq_true.1 hs
      simp only [allowsM, Bool.and_eq_true] at hra
      obtain ⟨r1, r2, r3, r4⟩ := reach_iff.1 hra.2.2
      simp only at r1 r2 r3 r4
      rw [hv] at r1
      have hw := hv3 r hr
      have : wideN x r q v = true := by
        refine wide_iff.2 ⟨r1, ?_, ?_, r4⟩
        · cases e : seq q.Kind [] with
          | false => rw [e] at r2; exact r2
          | true =>
            rw [e] at r2
            refine r2.imp id fun h => ?_
            have hn := freshN_not [107] (kindsR rs)
            exact absurd (show newN [107] (kindsR rs) ∈ kindsR rs by rw [← show r.Kind = newN [107] (kindsR rs) from h]; exact List.mem_map_of_mem hr) hn
        · cases e : seq q.Team [] with
          | false =>
            rw [e] at r3
            exact r3.imp id fun h => ⟨fun e2 => (by rw [seq_iff.2 e2] at e; cases e), h⟩
          | true =>
            rw [e] at r3
            refine r3.imp id fun h => ?_
            have hn : newN [116] (teamsR x rs) ∉ teamsR x rs := freshN_not [116] (teamsR x rs)
            have ho : overN x (newN [116] (teamsR x rs)) = [] := by
              have hf : teamN x (newN [116] (teamsR x rs)) = none := by
                unfold teamN
                rw [List.find?_eq_none]
                intro t ht e3
                exact hn (by rw [← seq_iff.1 e3]; exact List.mem_append_right _ (List.mem_map_of_mem ht))
              unfold overN; rw [hf]
            have h' : underN x 4 (newN [116] (teamsR x rs)) r.Team = true := h
            simp only [underN, ho, Bool.or_eq_true, seq_iff] at h'
            rcases h' with h' | h'
            · exact absurd (show newN [116] (teamsR x rs) ∈ teamsR x rs by rw [h']; exact List.mem_append_left _ (List.mem_map_of_mem hr)) hn
            · rw [Bool.and_eq_true] at h'
              cases h'.1
      rw [hw] at this
      cases this
theorem unc_iff (x : List GateTeam) (rs : List GateRule) (q : GateRule) : (uncM x rs q).2 = (allOk x rs q && !coversM x rs q) := by
  unfold uncM coversM
  cases allOk x rs q <;> cases ieq (lacksN x rs q) 0 <;> rfl

end Go.Proofs.YtnhkbghbllbknaaDoor.Pu
