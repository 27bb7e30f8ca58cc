/- laws.FnExactGateAllows, plain: a rule that allows an act, in both texts. No condition. -/
import Derived.Test.YteanglhgdoimlaaPuRule
namespace Go.Proofs.Yteanglhgdoimlaa.Pu
open Go Go.RowKit Go.Proofs.Yteanglhgdoimlaa.Abs Go.Proofs.Yteanglhgdoimlaa.Fn

/-- Of teams and a rule that are ok. -/
def allows (x : List GateTeam) (r : GateRule) (a : GateAct) : Bool :=
  r.Verbs.any (· == a.Verb) && ((r.Kind == [] || r.Kind == a.Kind) && ((r.Team == [] || undI x r.Team 4 a.Team) && begins a.Name r.Prefix))

theorem allowsS_y {x : List GateTeam} {r : GateRule} (a : GateAct) (hx : x.length ≤ maxLen) (hr : GateRule.ok r) : Yd (fun k => spec_l4Allows k x r a) (allows x r a) := by
  have last : Yd (fun k => (spec_l4Begins k a.Name r.Prefix).bind fun (r1_34 : Bool) => some r1_34) (begins a.Name r.Prefix) := Yd.bind (beginsS_y _ _) Yd.pure
  have team : Yd (fun k => (if (r.Team == []) = true then ((spec_l4Begins k a.Name r.Prefix).bind fun (r1_34 : Bool) => (some r1_34)) else ((spec_GateUnder k x a.Team r.Team).bind fun (r1_26 : Bool) => (if r1_26 = true then ((spec_l4Begins k a.Name r.Prefix).bind fun (r1_34 : Bool) => (some r1_34)) else (some false))) : Option Bool))
      ((r.Team == [] || undI x r.Team 4 a.Team) && begins a.Name r.Prefix) := by
    refine Yd.ite (fun h => Yd.to last (by simp [h])) fun h => Yd.bind (specUnder_y _ _ hx) ?_
    rw [← und_eq, Bool.eq_false_iff.2 h, Bool.false_or]
    cases undI x r.Team 4 a.Team with
    | false => exact Yd.pure
    | true => exact Yd.to last (by simp)
  unfold spec_l4Allows allows
  refine Yd.bind (verbS_y _ hr.1.1) ?_
  cases r.Verbs.any (· == a.Verb) with
  | false => exact Yd.pure
  | true =>
    refine Yd.ifp rfl ?_
    rw [Bool.true_and]
    refine Yd.ite (fun h => Yd.to team (by simp [h])) fun h => Yd.ite (fun h' => Yd.to team (by simp [h'])) fun h' => Yd.to Yd.pure ?_
    rw [Bool.eq_false_iff.2 h, Bool.eq_false_iff.2 h']
    rfl

theorem specAllows_y {x : List GateTeam} {r : GateRule} (a : GateAct) (hx : okS GateTeam.ok x) (hr : GateRule.ok r) :
    Yd (fun k => spec_GateAllows k x r a) ((decide (x.length ≤ 12) && allF (fun j => ok1 x j && chain x 5 (nm x j)) 0 x.length) && (ruleOk r && allows x r a)) := by
  unfold spec_GateAllows
  refine Yd.bind (teamsS_y hx.1 hx.2) ?_
  cases (decide (x.length ≤ 12) && allF (fun j => ok1 x j && chain x 5 (nm x j)) 0 x.length) with
  | false => exact Yd.pure
  | true =>
    refine Yd.ifp rfl (Yd.bind (ruleS_y hr) ?_)
    cases ruleOk r with
    | false => exact Yd.pure
    | true => exact Yd.ifp rfl (Yd.bind (allowsS_y a hx.1 hr) Yd.pure)

theorem reaches_y {x : List GateTeam} {r : GateRule} (a : GateAct) (hx : x.length ≤ maxLen) (hr : GateRule.ok r) (ho : ruleOk r = true) : Yd (fun k => impl_GateRule_reaches k r x a) (allows x r a) := by
  have last : Yd (fun k => (strings_HasPrefix k a.Name r.Prefix).bind fun (r1_36 : Bool) => some r1_36) (begins a.Name r.Prefix) := Yd.bind (beginsI_y _ _) Yd.pure
  have team : Yd (fun k => (if (r.Team == []) = true then ((strings_HasPrefix k a.Name r.Prefix).bind fun (r1_36 : Bool) => (some r1_36)) else ((impl_GateUnder k x a.Team r.Team).bind fun (r1_28 : Bool) => (if r1_28 = true then ((strings_HasPrefix k a.Name r.Prefix).bind fun (r1_36 : Bool) => (some r1_36)) else (some false))) : Option Bool))
      ((r.Team == [] || undI x r.Team 4 a.Team) && begins a.Name r.Prefix) := by
    refine Yd.ite (fun h => Yd.to last (by simp [h])) fun h => Yd.bind (implUnder_y _ _ hx) ?_
    rw [Bool.eq_false_iff.2 h, Bool.false_or]
    cases undI x r.Team 4 a.Team with
    | false => exact Yd.pure
    | true => exact Yd.to last (by simp)
  unfold impl_GateRule_reaches allows
  refine Yd.bind (setOf_y hr.1.1) (Yd.bind (has_y (bitsOf_lt _ _ (by omega)) _) ?_)
  rw [has_verbs ho]
  cases r.Verbs.any (· == a.Verb) with
  | false => exact Yd.pure
  | true =>
    refine Yd.ifp rfl ?_
    rw [Bool.true_and]
    refine Yd.ite (fun h => Yd.to team (by simp [h])) fun h => Yd.ite (fun h' => Yd.to team (by simp [h'])) fun h' => Yd.to Yd.pure ?_
    rw [Bool.eq_false_iff.2 h, Bool.eq_false_iff.2 h']
    rfl

theorem implAllows_y {x : List GateTeam} {r : GateRule} (a : GateAct) (hx : okS GateTeam.ok x) (hr : GateRule.ok r) :
    Yd (fun k => impl_GateAllows k x r a) ((decide (x.length ≤ 12) && allF (fun j => ok1 x j && chain x 5 (nm x j)) 0 x.length) && (ruleOk r && allows x r a)) := by
  unfold impl_GateAllows
  rw [teams_eq]
  refine Yd.bind (teamsI_y hx.1 hx.2) ?_
  cases (decide (x.length ≤ 12) && (allF (ok1 x) 0 x.length && allF (fun j => chain x 4 (ov x j)) 0 x.length)) with
  | false => exact Yd.pure
  | true =>
    refine Yd.ifn (by simp) (Yd.bind (ruleI_y hr) ?_)
    cases h : ruleOk r with
    | false => exact Yd.pure
    | true => exact Yd.ifn (by simp) (Yd.bind (reaches_y a hx.1 hr h) Yd.pure)

/-! ### The law's own functions -/

theorem toInts_l {x : List Int} (hx : x.length ≤ maxLen) : ∀ (m i : Nat) (o : List Int), i + m = x.length → o.length = x.length → o.take i = x.take i →
    Yd (fun k => laws_toIntS.l0 x k (i : Int) o) (.inr x)
  | 0, i, o, h, hl, ht => by
    refine Yd.succ ?_
    simp only [laws_toIntS.l0]
    refine Yd.ifn (by omega) (Yd.to Yd.pure ?_)
    rw [List.take_of_length_le (by omega), List.take_of_length_le (by omega)] at ht
    rw [ht]
  | m + 1, i, o, h, hl, ht => by
    have hi : i < x.length := by omega
    refine Yd.succ ?_
    simp only [laws_toIntS.l0, Int.toNat_natCast]
    refine Yd.ifp (by omega) (Yd.ifp (by omega) (Yd.ifp (by omega) ?_))
    rw [wr64 (by omega) (by have := max_eq; omega)]
    have ht' : (o.set i (x.getD i default)).take (i + 1) = x.take (i + 1) := by
      rw [List.take_succ_eq_append_getElem (by simp; omega), List.take_succ_eq_append_getElem hi, List.take_set_of_le (Nat.le_refl _), ht]
      simp [List.getD, hi]
    exact_mod_cast toInts_l hx m (i + 1) (o.set i (x.getD i default)) (by omega) (by simp [hl]) ht'
theorem toInts_y {x : List Int} (hx : x.length ≤ 1048576) : Yd (fun k => laws_toIntS k x) x := by
  have hm : x.length ≤ maxLen := by have := max_eq; omega
  unfold laws_toIntS
  refine Yd.ifp (by omega) (Yd.bind (toInts_l hm x.length 0 _ (by omega) (by simp) (by simp)) Yd.pure)
theorem toRule_y {r : GateRule} (h : r.Verbs.length ≤ 1048576) : Yd (fun k => laws_toGateRule k r) r := by
  unfold laws_toGateRule
  exact Yd.bind (toInts_y h) Yd.pure

theorem eqInts_l {x : List Int} (hx : x.length ≤ maxLen) : ∀ m i : Nat, i + m = x.length → Yd (fun k => laws_eqIntS.l0 x x k (i : Int)) (.inr ())
  | 0, i, h => by
    refine Yd.succ ?_
    simp only [laws_eqIntS.l0]
    exact Yd.ifn (by omega) Yd.pure
  | m + 1, i, h => by
    refine Yd.succ ?_
    simp only [laws_eqIntS.l0, Int.toNat_natCast]
    refine Yd.ifp (by omega) (Yd.ifp (by omega) (Yd.ifp (by omega) (Yd.ifn (by simp) ?_)))
    rw [wr64 (by omega) (by have := max_eq; omega)]
    exact_mod_cast eqInts_l hx m (i + 1) (by omega)
theorem eqInts_y {x : List Int} (hx : x.length ≤ maxLen) : Yd (fun k => laws_eqIntS k x x) true := by
  unfold laws_eqIntS
  exact Yd.ifn (by simp) (Yd.bind (eqInts_l hx x.length 0 (by omega)) Yd.pure)
theorem eqRule_y {r : GateRule} (hr : GateRule.ok r) : Yd (fun k => laws_eqGateRule k r r) true := by
  unfold laws_eqGateRule
  exact Yd.bind (eqInts_y hr.1.1) (Yd.ifn (by simp) (Yd.ifn (by simp) (Yd.ifn (by simp) (Yd.ifn (by simp) Yd.pure))))

/-- A number taken away, by what is left. -/
theorem szInts_y {x : List Int} (hx : x.length ≤ maxLen) (n : Int) (hn : n ≤ 1048576) (h0 : 0 ≤ n) : ∃ r, Yd (fun k => laws_szIntS k x n) r ∧ r ≤ n ∧ (0 ≤ r → (x.length : Int) ≤ n) := by
  have := max_eq
  have e1 : wr .i64 (n - (x.length : Int)) = n - x.length := wr64 (by omega) (by omega)
  unfold laws_szIntS
  rw [e1]
  by_cases c : n - (x.length : Int) < 0
  · exact ⟨-1, Yd.ifp c Yd.pure, by omega, by omega⟩
  · exact ⟨_, Yd.ifn c Yd.pure, by omega, by omega⟩

theorem szRule_y {r : GateRule} (hr : GateRule.ok r) (n : Int) (hn : n ≤ 1048576) (h0 : 0 ≤ n) : ∃ v, Yd (fun k => laws_szGateRule k r n) v ∧ v ≤ n ∧ (0 ≤ v → (r.Verbs.length : Int) ≤ n) := by
  obtain ⟨⟨h1, _⟩, h2, h3, h4⟩ := hr
  unfold okStr at h2 h3 h4
  have hm := max_eq
  obtain ⟨v, k1, k2, k3⟩ := szInts_y h1 n hn h0
  unfold laws_szGateRule
  by_cases c0 : v < 0
  · exact ⟨-1, Yd.bind k1 (Yd.ifp c0 Yd.pure), by omega, by omega⟩
  · have e1 : wr .i64 (v - (r.Kind.length : Int)) = v - r.Kind.length := wr64 (by omega) (by omega)
    by_cases c1 : v - (r.Kind.length : Int) < 0
    · exact ⟨-1, Yd.bind k1 (Yd.ifn c0 (by rw [e1]; exact Yd.ifp c1 Yd.pure)), by omega, by omega⟩
    · have e2 : wr .i64 (v - (r.Kind.length : Int) - (r.Team.length : Int)) = v - r.Kind.length - r.Team.length := wr64 (by omega) (by omega)
      by_cases c2 : v - (r.Kind.length : Int) - (r.Team.length : Int) < 0
      · exact ⟨-1, Yd.bind k1 (Yd.ifn c0 (by rw [e1, e2]; exact Yd.ifn c1 (Yd.ifp c2 Yd.pure))), by omega, by omega⟩
      · have e3 : wr .i64 (v - (r.Kind.length : Int) - (r.Team.length : Int) - (r.Prefix.length : Int)) = v - r.Kind.length - r.Team.length - r.Prefix.length := wr64 (by omega) (by omega)
        by_cases c3 : v - (r.Kind.length : Int) - (r.Team.length : Int) - (r.Prefix.length : Int) < 0
        · exact ⟨-1, Yd.bind k1 (Yd.ifn c0 (by rw [e1, e2, e3]; exact Yd.ifn c1 (Yd.ifn c2 (Yd.ifp c3 Yd.pure)))), by omega, by omega⟩
        · exact ⟨_, Yd.bind k1 (Yd.ifn c0 (by rw [e1, e2, e3]; exact Yd.ifn c1 (Yd.ifn c2 (Yd.ifn c3 Yd.pure)))), by omega, fun _ => k3 (by omega)⟩

theorem szAct_y {a : GateAct} (ha : GateAct.ok a) (n : Int) (hn : n ≤ 1048576) (h0 : 0 ≤ n) : ∃ v, Yd (fun k => laws_szGateAct k a n) v ∧ v ≤ n := by
  obtain ⟨_, h2, h3, h4⟩ := ha
  unfold okStr at h2 h3 h4
  have hm := max_eq
  unfold laws_szGateAct
  have e1 : wr .i64 (n - (a.Kind.length : Int)) = n - a.Kind.length := wr64 (by omega) (by omega)
  rw [e1]
  by_cases c1 : n - (a.Kind.length : Int) < 0
  · exact ⟨-1, Yd.ifp c1 Yd.pure, by omega⟩
  · have e2 : wr .i64 (n - (a.Kind.length : Int) - (a.Team.length : Int)) = n - a.Kind.length - a.Team.length := wr64 (by omega) (by omega)
    rw [e2]
    by_cases c2 : n - (a.Kind.length : Int) - (a.Team.length : Int) < 0
    · exact ⟨-1, Yd.ifn c1 (Yd.ifp c2 Yd.pure), by omega⟩
    · have e3 : wr .i64 (n - (a.Kind.length : Int) - (a.Team.length : Int) - (a.Name.length : Int)) = n - a.Kind.length - a.Team.length - a.Name.length := wr64 (by omega) (by omega)
      rw [e3]
      by_cases c3 : n - (a.Kind.length : Int) - (a.Team.length : Int) - (a.Name.length : Int) < 0
      · exact ⟨-1, Yd.ifn c1 (Yd.ifn c2 (Yd.ifp c3 Yd.pure)), by omega⟩
      · exact ⟨_, Yd.ifn c1 (Yd.ifn c2 (Yd.ifn c3 Yd.pure)), by omega⟩

theorem allows_law (x : List GateTeam) (r : GateRule) (a : GateAct) (hx : okS GateTeam.ok x) (hr : GateRule.ok r) (ha : GateAct.ok a) : ∃ k, laws_FnExactGateAllows k x r a = some true := by
  refine Yd.one ?_
  unfold laws_FnExactGateAllows
  obtain ⟨v1, k1, l1, m1⟩ := szTeams_y hx 1048576 (by omega) (by omega)
  refine Yd.bind k1 (Yd.ite (fun _ => Yd.pure) fun c1 => ?_)
  obtain ⟨v2, k2, l2, m2⟩ := szRule_y hr v1 (by omega) (by omega)
  refine Yd.bind k2 (Yd.ite (fun _ => Yd.pure) fun c2 => ?_)
  obtain ⟨v3, k3, l3⟩ := szAct_y ha v2 (by omega) (by omega)
  refine Yd.bind k3 (Yd.ite (fun _ => Yd.pure) fun c3 => ?_)
  have b1 : x.length ≤ 1048576 := by have := m1 (by omega); omega
  have b2 : r.Verbs.length ≤ 1048576 := by have := m2 (by omega); omega
  refine Yd.bind (toTeams_y b1) (Yd.bind (toRule_y b2) (Yd.bind (Yd.of fun _ => rfl) (Yd.bind (specAllows_y a hx hr) (Yd.bind (toTeams_y b1) (Yd.bind (toRule_y b2) (Yd.bind (Yd.of fun _ => rfl) (Yd.bind (implAllows_y a hx hr) (Yd.ifn (by simp) ?_))))))))
  exact Yd.bind (toTeams_y b1) (Yd.bind (eqTeams_y hx.1) (Yd.ifn (by simp) (Yd.bind (toRule_y b2) (Yd.bind (eqRule_y hr) (Yd.ifn (by simp) Yd.pure)))))

end Go.Proofs.Yteanglhgdoimlaa.Pu
