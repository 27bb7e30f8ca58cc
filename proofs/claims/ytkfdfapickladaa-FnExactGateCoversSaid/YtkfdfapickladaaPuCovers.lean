/- laws.FnExactGateCovers, plain: rules that cover a rule, in both texts. No condition. -/
import Derived.Test.YtkfdfapickladaaPuRule
namespace Go.Proofs.Ytkfdfapickladaa.Pu
open Go Go.RowKit Go.Proofs.Ytkfdfapickladaa.Abs Go.Proofs.Ytkfdfapickladaa.Fn

/-- Rule q has all that r has of a verb. -/
def wide (x : List GateTeam) (q r : GateRule) (v : Int) : Bool :=
  q.Verbs.any (· == v) && ((q.Kind == [] || q.Kind == r.Kind) && ((q.Team == [] || (!(r.Team == []) && undI x q.Team 4 r.Team)) && begins r.Prefix q.Prefix))
/-- The first verb that none of the rules has, 0 if there is none. -/
def lack (x : List GateTeam) (qs : List GateRule) (r : GateRule) : List Int → Int
  | [] => 0
  | v :: l => if qs.any (fun q => wide x q r v) then lack x qs r l else v

theorem lackS_in {x : List GateTeam} {qs : List GateRule} {r : GateRule} (hx : x.length ≤ maxLen) (hq : okS GateRule.ok qs) {j : Nat} (hj : j < r.Verbs.length) : ∀ (m i : Nat) (b : Bool), i + m = qs.length →
    Yd (fun k => spec_l4Lacks.l1 qs (j : Int) r x k b (i : Int)) (.inr (b || (qs.drop i).any (fun q => wide x q r (r.Verbs.getD j default))))
  | 0, i, b, h => by
    refine Yd.succ ?_
    simp only [spec_l4Lacks.l1]
    refine Yd.ifn (by omega) (Yd.to Yd.pure ?_)
    rw [drop_end (by omega)]
    simp
  | m + 1, i, b, h => by
    have hi : i < qs.length := by omega
    have hm := max_eq
    have hq1 := hq.1
    have hqi : GateRule.ok (qs.getD i default) := hq.2 _ (by simp only [List.getD]; rw [List.getElem?_eq_getElem hi]; exact List.getElem_mem hi)
    have next : ∀ c, Yd (fun k => spec_l4Lacks.l1 qs (j : Int) r x k c ((i : Int) + 1)) (.inr (c || (qs.drop (i + 1)).any (fun q => wide x q r (r.Verbs.getD j default)))) := fun c => by
      exact_mod_cast lackS_in hx hq hj m (i + 1) c (by omega)
    rw [drop_cons hi, List.any_cons]
    refine Yd.succ ?_
    simp only [spec_l4Lacks.l1, Int.toNat_natCast]
    rw [wr64 (n := (i : Int) + 1) (by omega) (by omega)]
    generalize qs.getD i default = q at hqi
    generalize hR : (qs.drop (i + 1)).any (fun q => wide x q r (r.Verbs.getD j default)) = R at next
    generalize r.Verbs.getD j default = v at *
    have lf : Yd (fun k => spec_l4Lacks.l1 qs (j : Int) r x k b ((i : Int) + 1)) (.inr (b || (false || R))) := Yd.to (next b) (by simp)
    have lt : Yd (fun k => spec_l4Lacks.l1 qs (j : Int) r x k true ((i : Int) + 1)) (.inr (b || (true || R))) := Yd.to (next true) (by simp)
    have tl : Yd (fun k => (spec_l4Begins k r.Prefix q.Prefix).bind fun (b' : Bool) => if b' = true then spec_l4Lacks.l1 qs (j : Int) r x k true ((i : Int) + 1) else spec_l4Lacks.l1 qs (j : Int) r x k b ((i : Int) + 1)) (.inr (b || (begins r.Prefix q.Prefix || R))) := by
      refine Yd.bind (beginsS_y _ _) ?_
      cases begins r.Prefix q.Prefix with
      | false => exact Yd.ifn (by simp) lf
      | true => exact Yd.ifp rfl lt
    have tm : Yd (fun k => if (q.Team == []) = true then ((spec_l4Begins k r.Prefix q.Prefix).bind fun (b' : Bool) => if b' = true then spec_l4Lacks.l1 qs (j : Int) r x k true ((i : Int) + 1) else spec_l4Lacks.l1 qs (j : Int) r x k b ((i : Int) + 1))
        else (if (!(r.Team == [])) = true then ((spec_GateUnder k x r.Team q.Team).bind fun (u : Bool) => if u = true then ((spec_l4Begins k r.Prefix q.Prefix).bind fun (b' : Bool) => if b' = true then spec_l4Lacks.l1 qs (j : Int) r x k true ((i : Int) + 1) else spec_l4Lacks.l1 qs (j : Int) r x k b ((i : Int) + 1)) else spec_l4Lacks.l1 qs (j : Int) r x k b ((i : Int) + 1)) else spec_l4Lacks.l1 qs (j : Int) r x k b ((i : Int) + 1)))
        (.inr (b || (((q.Team == [] || (!(r.Team == []) && undI x q.Team 4 r.Team)) && begins r.Prefix q.Prefix) || R))) := by
      refine Yd.ite (fun h1 => Yd.to tl (by simp [h1])) fun h1 => ?_
      rw [Bool.eq_false_iff.2 h1, Bool.false_or]
      refine Yd.ite (fun h2 => Yd.bind (specUnder_y _ _ hx) ?_) fun h2 => Yd.to lf (by rw [Bool.eq_false_iff.2 h2, Bool.false_and, Bool.false_and])
      rw [← und_eq, h2, Bool.true_and]
      cases undI x q.Team 4 r.Team with
      | false => exact Yd.ifn (by simp) lf
      | true => exact Yd.ifp rfl (Yd.to tl (by simp))
    refine Yd.ifp (by omega) (Yd.ifp (by omega) (Yd.ifp (by omega) (Yd.bind (verbS_y v hqi.1.1) ?_)))
    unfold wide
    cases q.Verbs.any (· == v) with
    | false => exact Yd.ifn (by simp) lf
    | true =>
      refine Yd.ifp rfl ?_
      rw [Bool.true_and]
      refine Yd.ite (fun h1 => Yd.to tm (by simp [h1])) fun h1 => Yd.ite (fun h2 => Yd.to tm (by simp [h2])) fun h2 => Yd.to lf ?_
      rw [Bool.eq_false_iff.2 h1, Bool.eq_false_iff.2 h2]
      rfl

theorem lackS_l {x : List GateTeam} {qs : List GateRule} {r : GateRule} (hx : x.length ≤ maxLen) (hq : okS GateRule.ok qs) (hr : r.Verbs.length ≤ maxLen) : ∀ m i : Nat, i + m = r.Verbs.length →
    ∃ z, Yd (fun k => spec_l4Lacks.l0 r qs x k (i : Int)) z ∧ ∀ k, spec_l4Lacks.c0 k z = some (lack x qs r (r.Verbs.drop i))
  | 0, i, h => by
    refine ⟨.inr (), Yd.succ ?_, fun k => ?_⟩
    · simp only [spec_l4Lacks.l0]
      exact Yd.ifn (by omega) Yd.pure
    · rw [drop_end (by omega)]; rfl
  | m + 1, i, h => by
    have hi : i < r.Verbs.length := by omega
    have inn := lackS_in hx hq hi qs.length 0 false (by omega)
    rw [List.drop_zero, Bool.false_or] at inn
    rw [drop_cons hi]
    cases hb : qs.any (fun q => wide x q r (r.Verbs.getD i default)) with
    | false =>
      rw [hb] at inn
      refine ⟨.inl (r.Verbs.getD i default), Yd.succ ?_, fun k => by simp only [lack, hb]; rfl⟩
      simp only [spec_l4Lacks.l0, Int.toNat_natCast]
      refine Yd.ifp (by omega) (Yd.bind (by exact_mod_cast inn) ?_)
      exact Yd.ifp rfl (Yd.ifp (by omega) Yd.pure)
    | true =>
      rw [hb] at inn
      obtain ⟨z, k1, k2⟩ := lackS_l hx hq hr m (i + 1) (by omega)
      refine ⟨z, Yd.succ ?_, fun k => by rw [k2]; simp only [lack, hb, if_true]⟩
      simp only [spec_l4Lacks.l0, Int.toNat_natCast]
      refine Yd.ifp (by omega) (Yd.bind (by exact_mod_cast inn) ?_)
      refine Yd.ifn (by simp) ?_
      rw [wr64 (by omega) (by have := max_eq; omega)]
      exact_mod_cast k1
theorem lackS_y {x : List GateTeam} {qs : List GateRule} {r : GateRule} (hx : x.length ≤ maxLen) (hq : okS GateRule.ok qs) (hr : r.Verbs.length ≤ maxLen) : Yd (fun k => spec_l4Lacks k x qs r) (lack x qs r r.Verbs) := by
  unfold spec_l4Lacks
  obtain ⟨z, k1, k2⟩ := lackS_l hx hq hr r.Verbs.length 0 (by omega)
  exact Yd.bind (by exact_mod_cast k1) (Yd.of fun k => by rw [k2, List.drop_zero])

theorem allS_l {qs : List GateRule} (hq : okS GateRule.ok qs) : ∀ m i : Nat, i + m = qs.length → Yd (fun k => spec_l4AllOk.l0 qs k (i : Int)) (if (qs.drop i).all ruleOk then .inr () else .inl false)
  | 0, i, h => by
    refine Yd.succ ?_
    simp only [spec_l4AllOk.l0]
    refine Yd.ifn (by omega) ?_
    rw [drop_end (by omega)]
    exact Yd.pure
  | m + 1, i, h => by
    have hi : i < qs.length := by omega
    have hq1 := hq.1
    have hqi : GateRule.ok (qs.getD i default) := hq.2 _ (by simp only [List.getD]; rw [List.getElem?_eq_getElem hi]; exact List.getElem_mem hi)
    refine Yd.succ ?_
    simp only [spec_l4AllOk.l0, Int.toNat_natCast]
    refine Yd.ifp (by omega) (Yd.ifp (by omega) (Yd.bind (ruleS_y hqi) ?_))
    rw [drop_cons hi]
    cases hb : ruleOk (qs.getD i default) with
    | false => simp only [List.all_cons, hb]; exact Yd.pure
    | true =>
      refine Yd.ifn (by simp) ?_
      rw [wr64 (by omega) (by have := max_eq; omega)]
      simp only [List.all_cons, hb, Bool.true_and]
      exact_mod_cast allS_l hq m (i + 1) (by omega)
theorem allI_l {qs : List GateRule} (hq : okS GateRule.ok qs) : ∀ m i : Nat, i + m = qs.length → Yd (fun k => impl_rulesOk.l0 qs k (i : Int)) (if (qs.drop i).all ruleOk then .inr () else .inl false)
  | 0, i, h => by
    refine Yd.succ ?_
    simp only [impl_rulesOk.l0]
    refine Yd.ifn (by omega) ?_
    rw [drop_end (by omega)]
    exact Yd.pure
  | m + 1, i, h => by
    have hi : i < qs.length := by omega
    have hq1 := hq.1
    have hqi : GateRule.ok (qs.getD i default) := hq.2 _ (by simp only [List.getD]; rw [List.getElem?_eq_getElem hi]; exact List.getElem_mem hi)
    refine Yd.succ ?_
    simp only [impl_rulesOk.l0, Int.toNat_natCast]
    refine Yd.ifp (by omega) (Yd.ifp (by omega) (Yd.bind (ruleI_y hqi) ?_))
    rw [drop_cons hi]
    cases hb : ruleOk (qs.getD i default) with
    | false => simp only [List.all_cons, hb]; exact Yd.pure
    | true =>
      refine Yd.ifn (by simp) ?_
      rw [wr64 (by omega) (by have := max_eq; omega)]
      simp only [List.all_cons, hb, Bool.true_and]
      exact_mod_cast allI_l hq m (i + 1) (by omega)

def teamsB (x : List GateTeam) : Bool := decide (x.length ≤ 12) && allF (fun j => ok1 x j && chain x 5 (nm x j)) 0 x.length
def allB (x : List GateTeam) (qs : List GateRule) (r : GateRule) : Bool := teamsB x && (ruleOk r && qs.all ruleOk)

theorem allS_y {x : List GateTeam} {qs : List GateRule} {r : GateRule} (hx : okS GateTeam.ok x) (hq : okS GateRule.ok qs) (hr : GateRule.ok r) : Yd (fun k => spec_l4AllOk k x qs r) (allB x qs r) := by
  unfold spec_l4AllOk allB
  refine Yd.bind (a := teamsB x) (teamsS_y hx.1 hx.2) ?_
  cases teamsB x with
  | false => exact Yd.pure
  | true =>
    refine Yd.ifn (by simp) (Yd.bind (ruleS_y hr) ?_)
    cases ruleOk r with
    | false => exact Yd.pure
    | true =>
      refine Yd.ifn (by simp) (Yd.bind (by exact_mod_cast allS_l hq qs.length 0 (by omega)) ?_)
      rw [List.drop_zero]
      cases qs.all ruleOk <;> exact Yd.pure
theorem allI_y {x : List GateTeam} {qs : List GateRule} {r : GateRule} (hx : okS GateTeam.ok x) (hq : okS GateRule.ok qs) (hr : GateRule.ok r) : Yd (fun k => impl_rulesOk k x qs r) (allB x qs r) := by
  unfold impl_rulesOk allB
  refine Yd.bind (a := teamsB x) (Yd.to (teamsI_y hx.1 hx.2) (by rw [teamsB, teams_eq])) ?_
  cases teamsB x with
  | false => exact Yd.pure
  | true =>
    refine Yd.ifn (by simp) (Yd.bind (ruleI_y hr) ?_)
    cases ruleOk r with
    | false => exact Yd.pure
    | true =>
      refine Yd.ifn (by simp) (Yd.bind (by exact_mod_cast allI_l hq qs.length 0 (by omega)) ?_)
      rw [List.drop_zero]
      cases qs.all ruleOk <;> exact Yd.pure

theorem wideI_y {x : List GateTeam} {q : GateRule} (r : GateRule) (v : Int) (hx : x.length ≤ maxLen) (hq : GateRule.ok q) (ho : ruleOk q = true) : Yd (fun k => impl_GateRule_wider k q x r v) (wide x q r v) := by
  have last : Yd (fun k => (strings_HasPrefix k r.Prefix q.Prefix).bind fun (b : Bool) => some b) (begins r.Prefix q.Prefix) := Yd.bind (beginsI_y _ _) Yd.pure
  have team : Yd (fun k => (if (q.Team == []) = true then ((strings_HasPrefix k r.Prefix q.Prefix).bind fun (b : Bool) => (some b)) else (if (!(r.Team == [])) = true then ((impl_GateUnder k x r.Team q.Team).bind fun (u : Bool) => (if u = true then ((strings_HasPrefix k r.Prefix q.Prefix).bind fun (b : Bool) => (some b)) else (some false))) else (some false)) : Option Bool))
      ((q.Team == [] || (!(r.Team == []) && undI x q.Team 4 r.Team)) && begins r.Prefix q.Prefix) := by
    refine Yd.ite (fun h => Yd.to last (by simp [h])) fun h => ?_
    rw [Bool.eq_false_iff.2 h, Bool.false_or]
    refine Yd.ite (fun h2 => Yd.bind (implUnder_y _ _ hx) ?_) fun h2 => Yd.to Yd.pure (by rw [Bool.eq_false_iff.2 h2, Bool.false_and, Bool.false_and])
    rw [h2, Bool.true_and]
    cases undI x q.Team 4 r.Team with
    | false => exact Yd.pure
    | true => exact Yd.ifp rfl (Yd.to last (by simp))
  unfold impl_GateRule_wider wide
  refine Yd.bind (setOf_y hq.1.1) (Yd.bind (has_y (bitsOf_lt _ _ (by omega)) _) ?_)
  rw [has_verbs ho]
  cases q.Verbs.any (· == v) with
  | false => exact Yd.pure
  | true =>
    refine Yd.ifp rfl ?_
    rw [Bool.true_and]
    refine Yd.ite (fun h => Yd.to team (by simp [h])) fun h => Yd.ite (fun h' => Yd.to team (by simp [h'])) fun h' => Yd.to Yd.pure ?_
    rw [Bool.eq_false_iff.2 h, Bool.eq_false_iff.2 h']
    rfl

theorem lackI_in {x : List GateTeam} {qs : List GateRule} {r : GateRule} (hx : x.length ≤ maxLen) (hq : okS GateRule.ok qs) (ha : qs.all ruleOk = true) {j : Nat} : ∀ m i : Nat, i + m = qs.length →
    Yd (fun k => impl_bare.l1 qs x r (j : Int) k (i : Int)) (if (qs.drop i).any (fun q => wide x q r (r.Verbs.getD j default)) then .inr (.inl ()) else .inr (.inr ()))
  | 0, i, h => by
    refine Yd.succ ?_
    simp only [impl_bare.l1]
    refine Yd.ifn (by omega) ?_
    rw [drop_end (by omega)]
    exact Yd.pure
  | m + 1, i, h => by
    have hi : i < qs.length := by omega
    have hq1 := hq.1
    have hmem : qs.getD i default ∈ qs := by simp only [List.getD]; rw [List.getElem?_eq_getElem hi]; exact List.getElem_mem hi
    have ho : ruleOk (qs.getD i default) = true := by rw [List.all_eq_true] at ha; exact ha _ hmem
    refine Yd.succ ?_
    simp only [impl_bare.l1, Int.toNat_natCast]
    refine Yd.ifp (by omega) (Yd.ifp (by omega) (Yd.bind (wideI_y r _ hx (hq.2 _ hmem) ho) ?_))
    rw [drop_cons hi]
    cases hb : wide x (qs.getD i default) r (r.Verbs.getD j default) with
    | true =>
      simp only [List.any_cons, hb, Bool.true_or]
      exact Yd.ifp trivial Yd.pure
    | false =>
      refine Yd.ifn (by simp) ?_
      rw [wr64 (by omega) (by have := max_eq; omega)]
      simp only [List.any_cons, hb, Bool.false_or]
      exact_mod_cast lackI_in hx hq ha m (i + 1) (by omega)

theorem lackI_l {x : List GateTeam} {qs : List GateRule} {r : GateRule} (hx : x.length ≤ maxLen) (hq : okS GateRule.ok qs) (ha : qs.all ruleOk = true) (hr : r.Verbs.length ≤ maxLen) : ∀ m i : Nat, i + m = r.Verbs.length →
    ∃ z, Yd (fun k => impl_bare.l0 r qs x k (i : Int)) z ∧ ∀ k, impl_bare.c0 k z = some (lack x qs r (r.Verbs.drop i))
  | 0, i, h => by
    refine ⟨.inr (), Yd.succ ?_, fun k => ?_⟩
    · simp only [impl_bare.l0]
      exact Yd.ifn (by omega) Yd.pure
    · rw [drop_end (by omega)]; rfl
  | m + 1, i, h => by
    have hi : i < r.Verbs.length := by omega
    have inn := lackI_in (r := r) (j := i) hx hq ha qs.length 0 (by omega)
    rw [List.drop_zero] at inn
    rw [drop_cons hi]
    cases hb : qs.any (fun q => wide x q r (r.Verbs.getD i default)) with
    | false =>
      rw [hb] at inn
      refine ⟨.inl (r.Verbs.getD i default), Yd.succ ?_, fun k => by simp only [lack, hb]; rfl⟩
      simp only [impl_bare.l0, Int.toNat_natCast]
      refine Yd.ifp (by omega) (Yd.ifp (by omega) (Yd.bind (a := .inr (.inr ())) (by exact_mod_cast inn) ?_))
      exact Yd.pure
    | true =>
      rw [hb] at inn
      obtain ⟨z, k1, k2⟩ := lackI_l hx hq ha hr m (i + 1) (by omega)
      refine ⟨z, Yd.succ ?_, fun k => by rw [k2]; simp only [lack, hb, if_true]⟩
      simp only [impl_bare.l0, Int.toNat_natCast]
      refine Yd.ifp (by omega) (Yd.ifp (by omega) (Yd.bind (a := .inr (.inl ())) (by exact_mod_cast inn) ?_))
      show Yd (fun k => impl_bare.l0 r qs x k (wr .i64 ((i : Int) + 1))) z
      rw [wr64 (by omega) (by have := max_eq; omega)]
      exact_mod_cast k1
theorem lackI_y {x : List GateTeam} {qs : List GateRule} {r : GateRule} (hx : x.length ≤ maxLen) (hq : okS GateRule.ok qs) (ha : qs.all ruleOk = true) (hr : r.Verbs.length ≤ maxLen) : Yd (fun k => impl_bare k x qs r) (lack x qs r r.Verbs) := by
  unfold impl_bare
  obtain ⟨z, k1, k2⟩ := lackI_l hx hq ha hr r.Verbs.length 0 (by omega)
  exact Yd.bind (by exact_mod_cast k1) (Yd.of fun k => by rw [k2, List.drop_zero])

def coversB (x : List GateTeam) (qs : List GateRule) (r : GateRule) : Bool := allB x qs r && lack x qs r r.Verbs == 0
theorem coversS_y {x : List GateTeam} {qs : List GateRule} {r : GateRule} (hx : okS GateTeam.ok x) (hq : okS GateRule.ok qs) (hr : GateRule.ok r) : Yd (fun k => spec_GateCovers k x qs r) (coversB x qs r) := by
  unfold spec_GateCovers coversB
  refine Yd.bind (allS_y hx hq hr) ?_
  cases allB x qs r with
  | false => exact Yd.pure
  | true => exact Yd.ifp rfl (Yd.bind (lackS_y hx.1 hq hr.1.1) Yd.pure)
theorem coversI_y {x : List GateTeam} {qs : List GateRule} {r : GateRule} (hx : okS GateTeam.ok x) (hq : okS GateRule.ok qs) (hr : GateRule.ok r) : Yd (fun k => impl_GateCovers k x qs r) (coversB x qs r) := by
  unfold impl_GateCovers coversB
  refine Yd.bind (allI_y hx hq hr) ?_
  cases h : allB x qs r with
  | false => exact Yd.pure
  | true =>
    simp only [allB, Bool.and_eq_true] at h
    exact Yd.ifp rfl (Yd.bind (lackI_y hx.1 hq h.2.2 hr.1.1) Yd.pure)

end Go.Proofs.Ytkfdfapickladaa.Pu
