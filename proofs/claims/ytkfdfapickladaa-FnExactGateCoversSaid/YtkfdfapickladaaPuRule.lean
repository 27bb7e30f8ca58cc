/- Rules, plain: ok, covering a verb; texts that begin with others. No condition. -/
import Derived.Test.YtkfdfapickladaaPuTeams
namespace Go.Proofs.Ytkfdfapickladaa.Pu
open Go Go.RowKit Go.Proofs.Ytkfdfapickladaa.Abs Go.Proofs.Ytkfdfapickladaa.Fn

/-! ### Rules that are ok -/

def vOk (l : List Int) (i : Nat) : Bool := decide (1 ≤ l.getD i 0) && (decide (l.getD i 0 ≤ 5) && (decide (i = 0) || decide (l.getD (i - 1) 0 < l.getD i 0)))
def blank (ok : List UInt8 → Bool) (s : List UInt8) : Bool := s == [] || ok s
def ruleOk (r : GateRule) : Bool := !(r.Verbs.length == 0) && (decide (r.Prefix.length ≤ 16) && (blank nameOk r.Kind && (blank nameOk r.Team && (allF (vOk r.Verbs) 0 r.Verbs.length && bsOk r.Prefix))))

theorem getD_default (l : List Int) (i : Nat) : l.getD i default = l.getD i 0 := rfl

theorem verbsS_l {r : GateRule} (hx : r.Verbs.length ≤ maxLen) : ∀ m i : Nat, i + m = r.Verbs.length →
    Yd (fun k => spec_l4RuleOk.l0 r k (i : Int)) (if allF (vOk r.Verbs) i m then .inr () else .inl false)
  | 0, i, h => by
    refine Yd.succ ?_
    simp only [spec_l4RuleOk.l0]
    exact Yd.ifn (by omega) Yd.pure
  | m + 1, i, h => by
    have hm := max_eq
    have ih : Yd (fun k => spec_l4RuleOk.l0 r k ((i : Int) + 1)) (if allF (vOk r.Verbs) (i + 1) m then .inr () else .inl false) := by exact_mod_cast verbsS_l hx m (i + 1) (by omega)
    refine Yd.succ ?_
    simp only [spec_l4RuleOk.l0, Int.toNat_natCast, getD_default]
    rw [wr64 (n := (i : Int) + 1) (by omega) (by omega), allF]
    refine Yd.ifp (by omega) (Yd.ifp (by omega) (Yd.bind (in_y _ _ _) ?_))
    by_cases h1 : 1 ≤ r.Verbs.getD i 0 ∧ r.Verbs.getD i 0 ≤ 5
    · refine Yd.ifn (by simp only [h1.1, h1.2, decide_true, Bool.and_self, Bool.not_true, Bool.false_eq_true, not_false_eq_true]) ?_
      by_cases h0 : i = 0
      · subst h0
        refine Yd.ifn (by omega) (Yd.to ih ?_)
        have : vOk r.Verbs 0 = true := by simp only [vOk, h1.1, h1.2, decide_true, Bool.true_or, Bool.and_true]
        rw [this, Bool.true_and]
      · have e1 : wr .i64 ((i : Int) - 1) = ((i - 1 : Nat) : Int) := by rw [wr64 (by omega) (by omega)]; omega
        refine Yd.ifp (by omega) ?_
        rw [e1]
        simp only [Int.toNat_natCast]
        refine Yd.ifp (by omega) (Yd.ifp (by omega) (Yd.ite (fun h2 => ?_) fun h2 => ?_))
        · have : vOk r.Verbs i = false := by
            have h2' : ¬ r.Verbs.getD (i - 1) 0 < r.Verbs.getD i 0 := by omega
            simp only [vOk, h0, h2', decide_false, Bool.or_false, Bool.and_false]
          rw [this]; exact Yd.pure
        · have : vOk r.Verbs i = true := by
            have h2' : r.Verbs.getD (i - 1) 0 < r.Verbs.getD i 0 := by omega
            simp only [vOk, h1.1, h1.2, h2', decide_true, Bool.or_true, Bool.and_true]
          rw [this, Bool.true_and]; exact ih
    · have : vOk r.Verbs i = false := by
        rw [Bool.eq_false_iff]
        intro hv
        simp only [vOk, Bool.and_eq_true, decide_eq_true_eq] at hv
        exact h1 ⟨hv.1, hv.2.1⟩
      rw [this]
      refine Yd.ifp ?_ Yd.pure
      simp only [Bool.not_eq_true', Bool.and_eq_false_iff, decide_eq_false_iff_not]
      omega

theorem prefixS_l {r : GateRule} (hx : r.Prefix.length ≤ maxLen) : ∀ m i : Nat, i + m = r.Prefix.length →
    Yd (fun k => spec_l4RuleOk.l1 r k (i : Int)) (if bsOk (r.Prefix.drop i) then .inr () else .inl false)
  | 0, i, h => by
    refine Yd.succ ?_
    simp only [spec_l4RuleOk.l1]
    refine Yd.ifn (by omega) ?_
    rw [drop_end (by omega)]
    exact Yd.pure
  | m + 1, i, h => by
    have hi : i < r.Prefix.length := by omega
    refine Yd.succ ?_
    simp only [spec_l4RuleOk.l1, Int.toNat_natCast]
    refine Yd.ifp (by omega) (Yd.ifp (by omega) (Yd.bind (byteS_y _) ?_))
    rw [drop_cons8 hi]
    cases hb : bOk ((r.Prefix.getD i 0).toNat : Int) with
    | false => simp only [bsOk, List.all_cons, hb]; exact Yd.pure
    | true =>
      refine Yd.ifn (by simp) ?_
      rw [wr64 (by omega) (by have := max_eq; omega)]
      simp only [bsOk, List.all_cons, hb, Bool.true_and]
      exact_mod_cast prefixS_l hx m (i + 1) (by omega)

theorem ruleS_y {r : GateRule} (hr : GateRule.ok r) : Yd (fun k => spec_l4RuleOk k r) (ruleOk r) := by
  obtain ⟨⟨h1, _⟩, h2, h3, h4⟩ := hr
  unfold okStr at h2 h3 h4
  have rest : Yd (fun k => (spec_l4RuleOk.l0 r k 0).bind (spec_l4RuleOk.c0 k r)) (allF (vOk r.Verbs) 0 r.Verbs.length && bsOk r.Prefix) := by
    refine Yd.bind (by exact_mod_cast verbsS_l h1 r.Verbs.length 0 (by omega)) ?_
    cases allF (vOk r.Verbs) 0 r.Verbs.length with
    | false => exact Yd.pure
    | true =>
      show Yd (fun k => (spec_l4RuleOk.l1 r k 0).bind (spec_l4RuleOk.c1 k)) _
      refine Yd.bind (by exact_mod_cast prefixS_l h4 r.Prefix.length 0 (by omega)) ?_
      rw [List.drop_zero, Bool.true_and]
      cases bsOk r.Prefix <;> exact Yd.pure
  have team : Yd (fun k => (if (!(r.Team == [])) = true then ((spec_l1NameOk k r.Team).bind fun (r1_28 : Bool) => (if (!r1_28) = true then (some (.inl false)) else (some (.inr ())))) else (some (.inr ())) : Option (Bool ⊕ Unit))) (if blank nameOk r.Team then .inr () else .inl false) := by
    refine Yd.ite (fun h => Yd.bind (nameS_y h3) ?_) fun h => Yd.to Yd.pure ?_
    · have : (r.Team == []) = false := by simpa using h
      rw [blank, this, Bool.false_or]
      cases nameOk r.Team <;> exact Yd.pure
    · have : (r.Team == []) = true := by simpa using h
      simp [blank, this]
  unfold spec_l4RuleOk
  refine Yd.bind (a := if (!(r.Verbs.length == 0) && (decide (r.Prefix.length ≤ 16) && (blank nameOk r.Kind && blank nameOk r.Team))) then .inr () else .inl false) ?_ ?_
  · refine Yd.ite (fun h => Yd.to Yd.pure ?_) fun h => Yd.ite (fun h' => Yd.to Yd.pure ?_) fun h' => Yd.ite (fun h5 => Yd.bind (nameS_y h2) ?_) fun h5 => ?_
    · have : (r.Verbs.length == 0) = true := by simp only [beq_iff_eq] at h ⊢; omega
      simp [this]
    · have : ¬ r.Prefix.length ≤ 16 := by omega
      simp [this]
    · have e1 : (r.Verbs.length == 0) = false := by simp only [beq_iff_eq, beq_eq_false_iff_ne, ne_eq] at h ⊢; omega
      have e2 : r.Prefix.length ≤ 16 := by omega
      have e3 : (r.Kind == []) = false := by simpa using h5
      have e4 : blank nameOk r.Kind = nameOk r.Kind := by rw [blank, e3, Bool.false_or]
      simp only [e1, e2, e4, decide_true, Bool.not_false, Bool.true_and]
      cases nameOk r.Kind with
      | false => exact Yd.pure
      | true => exact Yd.ifn (by simp) (by simpa using team)
    · have e1 : (r.Verbs.length == 0) = false := by simp only [beq_iff_eq, beq_eq_false_iff_ne, ne_eq] at h ⊢; omega
      have e2 : r.Prefix.length ≤ 16 := by omega
      have e3 : (r.Kind == []) = true := by simpa using h5
      have e4 : blank nameOk r.Kind = true := by rw [blank, e3, Bool.true_or]
      simp only [e1, e2, e4, decide_true, Bool.not_false, Bool.true_and]
      exact team
  · have e : ruleOk r = ((!(r.Verbs.length == 0) && (decide (r.Prefix.length ≤ 16) && (blank nameOk r.Kind && blank nameOk r.Team))) && (allF (vOk r.Verbs) 0 r.Verbs.length && bsOk r.Prefix)) := by
      simp only [ruleOk, Bool.and_assoc]
    rw [e]
    cases (!(r.Verbs.length == 0) && (decide (r.Prefix.length ≤ 16) && (blank nameOk r.Kind && blank nameOk r.Team))) with
    | false => exact Yd.pure
    | true => rw [Bool.true_and]; exact rest

theorem verbsI_l {r : GateRule} (hx : r.Verbs.length ≤ maxLen) : ∀ m i : Nat, i + m = r.Verbs.length →
    Yd (fun k => impl_GateRule_ok.l0 r k (i : Int)) (if allF (vOk r.Verbs) i m then .inr () else .inl false)
  | 0, i, h => by
    refine Yd.succ ?_
    simp only [impl_GateRule_ok.l0]
    exact Yd.ifn (by omega) Yd.pure
  | m + 1, i, h => by
    have hm := max_eq
    have ih : Yd (fun k => impl_GateRule_ok.l0 r k ((i : Int) + 1)) (if allF (vOk r.Verbs) (i + 1) m then .inr () else .inl false) := by exact_mod_cast verbsI_l hx m (i + 1) (by omega)
    refine Yd.succ ?_
    simp only [impl_GateRule_ok.l0, Int.toNat_natCast, getD_default]
    rw [wr64 (n := (i : Int) + 1) (by omega) (by omega), allF]
    refine Yd.ifp (by omega) (Yd.ifp (by omega) (Yd.ite (fun h1 => ?_) fun h1 => Yd.ite (fun h3 => ?_) fun h3 => ?_))
    · have : vOk r.Verbs i = false := by
        have h2' : ¬ 1 ≤ r.Verbs.getD i 0 := by omega
        simp only [vOk, h2', decide_false, Bool.false_and]
      rw [this]; exact Yd.pure
    · have : vOk r.Verbs i = false := by
        have h2' : ¬ r.Verbs.getD i 0 ≤ 5 := by omega
        simp only [vOk, h2', decide_false, Bool.false_and, Bool.and_false]
      rw [this]; exact Yd.pure
    · have g1 : 1 ≤ r.Verbs.getD i 0 := by omega
      have g2 : r.Verbs.getD i 0 ≤ 5 := by omega
      by_cases h0 : i = 0
      · subst h0
        refine Yd.ifn (by omega) (Yd.to ih ?_)
        have : vOk r.Verbs 0 = true := by simp only [vOk, g1, g2, decide_true, Bool.true_or, Bool.and_true]
        rw [this, Bool.true_and]
      · have e1 : wr .i64 ((i : Int) - 1) = ((i - 1 : Nat) : Int) := by rw [wr64 (by omega) (by omega)]; omega
        refine Yd.ifp (by omega) ?_
        rw [e1]
        simp only [Int.toNat_natCast]
        refine Yd.ifp (by omega) (Yd.ite (fun h2 => ?_) fun h2 => ?_)
        · have : vOk r.Verbs i = false := by
            have h2' : ¬ r.Verbs.getD (i - 1) 0 < r.Verbs.getD i 0 := by omega
            simp only [vOk, h0, h2', decide_false, Bool.or_false, Bool.and_false]
          rw [this]; exact Yd.pure
        · have : vOk r.Verbs i = true := by
            have h2' : r.Verbs.getD (i - 1) 0 < r.Verbs.getD i 0 := by omega
            simp only [vOk, g1, g2, h2', decide_true, Bool.or_true, Bool.and_true]
          rw [this, Bool.true_and]; exact ih

theorem ruleI_y {r : GateRule} (hr : GateRule.ok r) : Yd (fun k => impl_GateRule_ok k r) (ruleOk r) := by
  obtain ⟨⟨h1, _⟩, h2, h3, h4⟩ := hr
  unfold okStr at h2 h3 h4
  have tail : Yd (fun k => (if (r.Prefix.length : Int) > 16 then (some (.inl false)) else ((impl_nameBytes k r.Prefix).bind fun (r1_35 : Bool) => (if (!r1_35) = true then (some (.inl false)) else (some (.inr ())))) : Option (Bool ⊕ Unit))) (if (decide (r.Prefix.length ≤ 16) && bsOk r.Prefix) then .inr () else .inl false) := by
    refine Yd.ite (fun h => Yd.to Yd.pure ?_) fun h => Yd.bind (namesI_y h4) ?_
    · have : ¬ r.Prefix.length ≤ 16 := by omega
      simp [this]
    · have : r.Prefix.length ≤ 16 := by omega
      simp only [this, decide_true, Bool.true_and]
      cases bsOk r.Prefix <;> exact Yd.pure
  have team : Yd (fun k => (if (!(r.Team == [])) = true then ((impl_isName k r.Team).bind fun (r1_22 : Bool) => (if (!r1_22) = true then (some (.inl false)) else (if (r.Prefix.length : Int) > 16 then (some (.inl false)) else ((impl_nameBytes k r.Prefix).bind fun (r1_35 : Bool) => (if (!r1_35) = true then (some (.inl false)) else (some (.inr ()))))))) else (if (r.Prefix.length : Int) > 16 then (some (.inl false)) else ((impl_nameBytes k r.Prefix).bind fun (r1_35 : Bool) => (if (!r1_35) = true then (some (.inl false)) else (some (.inr ()))))) : Option (Bool ⊕ Unit))) (if (blank nameOk r.Team && (decide (r.Prefix.length ≤ 16) && bsOk r.Prefix)) then .inr () else .inl false) := by
    refine Yd.ite (fun h => Yd.bind (nameI_y h3) ?_) fun h => ?_
    · have : (r.Team == []) = false := by simpa using h
      rw [blank, this, Bool.false_or]
      cases nameOk r.Team with
      | false => exact Yd.pure
      | true => exact Yd.ifn (by simp) (by simpa using tail)
    · have : (r.Team == []) = true := by simpa using h
      rw [blank, this, Bool.true_or, Bool.true_and]
      exact tail
  unfold impl_GateRule_ok
  refine Yd.bind (a := if (!(r.Verbs.length == 0) && (blank nameOk r.Kind && (blank nameOk r.Team && (decide (r.Prefix.length ≤ 16) && bsOk r.Prefix)))) then .inr () else .inl false) ?_ ?_
  · refine Yd.ite (fun h => Yd.to Yd.pure ?_) fun h => Yd.ite (fun h5 => Yd.bind (nameI_y h2) ?_) fun h5 => ?_
    · have : (r.Verbs.length == 0) = true := by simp only [beq_iff_eq] at h ⊢; omega
      simp [this]
    · have e1 : (r.Verbs.length == 0) = false := by simp only [beq_iff_eq, beq_eq_false_iff_ne, ne_eq] at h ⊢; omega
      have e3 : (r.Kind == []) = false := by simpa using h5
      have e4 : blank nameOk r.Kind = nameOk r.Kind := by rw [blank, e3, Bool.false_or]
      simp only [e1, e4, Bool.not_false, Bool.true_and]
      cases nameOk r.Kind with
      | false => exact Yd.pure
      | true => exact Yd.ifn (by simp) (by simpa using team)
    · have e1 : (r.Verbs.length == 0) = false := by simp only [beq_iff_eq, beq_eq_false_iff_ne, ne_eq] at h ⊢; omega
      have e3 : (r.Kind == []) = true := by simpa using h5
      have e4 : blank nameOk r.Kind = true := by rw [blank, e3, Bool.true_or]
      simp only [e1, e4, Bool.not_false, Bool.true_and]
      exact team
  · have e : ruleOk r = ((!(r.Verbs.length == 0) && (blank nameOk r.Kind && (blank nameOk r.Team && (decide (r.Prefix.length ≤ 16) && bsOk r.Prefix)))) && allF (vOk r.Verbs) 0 r.Verbs.length) := by
      unfold ruleOk
      cases (!(r.Verbs.length == 0)) <;> cases decide (r.Prefix.length ≤ 16) <;> cases blank nameOk r.Kind <;> cases blank nameOk r.Team <;> cases allF (vOk r.Verbs) 0 r.Verbs.length <;> cases bsOk r.Prefix <;> rfl
    rw [e]
    cases (!(r.Verbs.length == 0) && (blank nameOk r.Kind && (blank nameOk r.Team && (decide (r.Prefix.length ≤ 16) && bsOk r.Prefix)))) with
    | false => exact Yd.pure
    | true =>
      show Yd (fun k => (impl_GateRule_ok.l0 r k 0).bind (impl_GateRule_ok.c0 k)) _
      refine Yd.bind (by exact_mod_cast verbsI_l h1 r.Verbs.length 0 (by omega)) ?_
      rw [Bool.true_and]
      cases allF (vOk r.Verbs) 0 r.Verbs.length <;> exact Yd.pure

/-! ### A verb of a rule -/

theorem verbS_l {r : GateRule} {v : Int} (hx : r.Verbs.length ≤ maxLen) : ∀ m i : Nat, i + m = r.Verbs.length →
    Yd (fun k => spec_l4Verb.l0 r v k (i : Int)) (if (r.Verbs.drop i).any (· == v) then .inl true else .inr ())
  | 0, i, h => by
    refine Yd.succ ?_
    simp only [spec_l4Verb.l0]
    refine Yd.ifn (by omega) ?_
    rw [drop_end (by omega)]
    exact Yd.pure
  | m + 1, i, h => by
    have hi : i < r.Verbs.length := by omega
    refine Yd.succ ?_
    simp only [spec_l4Verb.l0, Int.toNat_natCast]
    rw [drop_cons hi]
    refine Yd.ifp (by omega) (Yd.ifp (by omega) (Yd.ite (fun hb => ?_) fun hb => ?_))
    · simp only [List.any_cons, hb, Bool.true_or]; exact Yd.pure
    · simp only [List.any_cons, Bool.eq_false_iff.2 hb, Bool.false_or]
      rw [wr64 (by omega) (by have := max_eq; omega)]
      exact_mod_cast verbS_l hx m (i + 1) (by omega)
theorem verbS_y {r : GateRule} (v : Int) (hx : r.Verbs.length ≤ maxLen) : Yd (fun k => spec_l4Verb k r v) (r.Verbs.any (· == v)) := by
  unfold spec_l4Verb
  refine Yd.bind (by exact_mod_cast verbS_l hx r.Verbs.length 0 (by omega)) ?_
  rw [List.drop_zero]
  cases r.Verbs.any (· == v) <;> exact Yd.pure

/-! ### Sets of bits -/

theorem wrapu16 {n : Nat} (h : n < 65536) : IntKind.u16.wrap (n : Int) = n := by
  simp only [IntKind.wrap, IntKind.bits, IntKind.signed, Bool.false_and]
  simp only [Bool.false_eq_true, if_false]
  omega
theorem ofInt16 {n : Nat} (h : n < 65536) : (BitVec.ofInt 16 (n : Int)).toNat = n := by
  rw [BitVec.toNat_ofInt]
  omega
theorem bOr16 {m n : Nat} (hm : m < 65536) (hn : n < 65536) : bOr .u16 (m : Int) (n : Int) = ((m ||| n : Nat) : Int) := by
  have h : m ||| n < 65536 := Nat.or_lt_two_pow (n := 16) hm hn
  unfold bOr
  have e : ((BitVec.ofInt IntKind.u16.bits (m : Int) ||| BitVec.ofInt IntKind.u16.bits (n : Int)).toNat) = m ||| n := by
    rw [BitVec.toNat_or]
    show (BitVec.ofInt 16 (m : Int)).toNat ||| (BitVec.ofInt 16 (n : Int)).toNat = _
    rw [ofInt16 hm, ofInt16 hn]
  rw [e, wrapu16 h]
theorem bAnd16 {m n : Nat} (hm : m < 65536) (hn : n < 65536) : bAnd .u16 (m : Int) (n : Int) = ((m &&& n : Nat) : Int) := by
  have h : m &&& n < 65536 := Nat.lt_of_le_of_lt Nat.and_le_left hm
  unfold bAnd
  have e : ((BitVec.ofInt IntKind.u16.bits (m : Int) &&& BitVec.ofInt IntKind.u16.bits (n : Int)).toNat) = m &&& n := by
    rw [BitVec.toNat_and]
    show (BitVec.ofInt 16 (m : Int)).toNat &&& (BitVec.ofInt 16 (n : Int)).toNat = _
    rw [ofInt16 hm, ofInt16 hn]
  rw [e, wrapu16 h]
theorem bShl16 {v : Nat} (h : v < 16) : bShl .u16 1 (v : Int) = ((2 ^ v : Nat) : Int) := by
  have h1 : min v 16 = v := by omega
  have h2 : 2 ^ v < 65536 := Nat.pow_lt_pow_right (by omega) (show v < 16 from h)
  show IntKind.u16.wrap (1 * 2 ^ (min (v : Int).toNat 16)) = _
  rw [Int.toNat_natCast, h1, Int.one_mul]
  have := wrapu16 h2
  push_cast at this ⊢
  exact this
theorem bShr16 {m v : Nat} (h : v < 16) : bShr .u16 (m : Int) (v : Int) = ((m / 2 ^ v : Nat) : Int) := by
  have h1 : min v 16 = v := by omega
  show Int.fdiv (m : Int) (2 ^ (min (v : Int).toNat 16)) = _
  have e : (2 : Int) ^ v = ((2 ^ v : Nat) : Int) := by push_cast; rfl
  rw [Int.toNat_natCast, h1, e, Int.fdiv_eq_ediv_of_nonneg _ (Int.natCast_nonneg _)]
  exact (Int.natCast_ediv _ _).symm
theorem wru64 {v : Nat} (h : v < 16) : wr .u64 (v : Int) = (v : Int) := by
  simp only [wr, IntKind.wrap, IntKind.bits, IntKind.signed, Bool.false_and]
  simp only [Bool.false_eq_true, if_false]
  omega

def bitsOf (l : List Int) (n : Nat) : Nat := l.foldl (fun n v => if 0 ≤ v ∧ v < 16 then n ||| 2 ^ v.toNat else n) n
theorem bitsOf_lt : ∀ (l : List Int) (n : Nat), n < 65536 → bitsOf l n < 65536
  | [], _, h => h
  | v :: l, n, h => by
    show bitsOf l (if 0 ≤ v ∧ v < 16 then n ||| 2 ^ v.toNat else n) < 65536
    refine bitsOf_lt l _ ?_
    split
    · rename_i hv
      exact Nat.or_lt_two_pow (n := 16) h (Nat.pow_lt_pow_right (by omega) (show v.toNat < 16 by omega))
    · exact h
theorem bitsOf_test (v : Nat) (hv : v < 16) : ∀ (l : List Int) (n : Nat), (bitsOf l n).testBit v = (n.testBit v || l.any (· == (v : Int)))
  | [], n => by simp [bitsOf]
  | u :: l, n => by
    show (bitsOf l (if 0 ≤ u ∧ u < 16 then n ||| 2 ^ u.toNat else n)).testBit v = _
    rw [bitsOf_test v hv l]
    split
    · rename_i hu
      rw [Nat.testBit_or, List.any_cons, Bool.or_assoc]
      congr 1
      congr 1
      rw [Nat.testBit_two_pow]
      by_cases e : u = (v : Int)
      · subst e; simp
      · have : u.toNat ≠ v := by omega
        simp [e, this]
    · rename_i hu
      have : (u == (v : Int)) = false := by simp; omega
      rw [List.any_cons, this, Bool.false_or]

theorem setOf_l {l : List Int} (hx : l.length ≤ maxLen) : ∀ (m i n : Nat), i + m = l.length → n < 65536 → Yd (fun k => impl_setOf.l0 l k (n : Int) (i : Int)) (.inr ((bitsOf (l.drop i) n : Nat) : Int))
  | 0, i, n, h, hn => by
    refine Yd.succ ?_
    simp only [impl_setOf.l0]
    refine Yd.ifn (by omega) ?_
    rw [drop_end (by omega)]
    exact Yd.pure
  | m + 1, i, n, h, hn => by
    have hi : i < l.length := by omega
    have hm := max_eq
    refine Yd.succ ?_
    simp only [impl_setOf.l0, Int.toNat_natCast]
    rw [drop_cons hi, wr64 (n := (i : Int) + 1) (by omega) (by omega)]
    refine Yd.ifp (by omega) (Yd.ifp (by omega) ?_)
    generalize l.getD i default = u
    have none : ¬ (0 ≤ u ∧ u < 16) → Yd (fun k => impl_setOf.l0 l k (n : Int) ((i : Int) + 1)) (.inr ((bitsOf (u :: l.drop (i + 1)) n : Nat) : Int)) := fun hu => by
      have : bitsOf (u :: l.drop (i + 1)) n = bitsOf (l.drop (i + 1)) n := by show bitsOf _ (if 0 ≤ u ∧ u < 16 then _ else n) = _; rw [if_neg hu]
      rw [this]
      exact_mod_cast setOf_l hx m (i + 1) n (by omega) hn
    refine Yd.ite (fun h1 => Yd.ite (fun h2 => ?_) fun h2 => none (by omega)) fun h1 => none (by omega)
    obtain ⟨v, rfl⟩ : ∃ v : Nat, u = (v : Int) := ⟨u.toNat, by omega⟩
    have hv : v < 16 := by omega
    rw [wru64 hv, bShl16 hv, bOr16 hn (Nat.pow_lt_pow_right (by omega) (show v < 16 from hv))]
    refine Yd.ifp (by omega) ?_
    have : bitsOf ((v : Int) :: l.drop (i + 1)) n = bitsOf (l.drop (i + 1)) (n ||| 2 ^ v) := by
      show bitsOf _ (if (0 : Int) ≤ v ∧ (v : Int) < 16 then _ else n) = _
      rw [if_pos (by omega), Int.toNat_natCast]
    rw [this]
    exact_mod_cast setOf_l hx m (i + 1) (n ||| 2 ^ v) (by omega) (Nat.or_lt_two_pow (n := 16) hn (Nat.pow_lt_pow_right (by omega) (show v < 16 from hv)))
theorem setOf_y {l : List Int} (hx : l.length ≤ maxLen) : Yd (fun k => impl_setOf k l) ((bitsOf l 0 : Nat) : Int) := by
  unfold impl_setOf
  refine Yd.bind (by exact_mod_cast setOf_l hx l.length 0 0 (by omega) (by omega)) ?_
  rw [List.drop_zero]
  exact Yd.pure

theorem has_y {n : Nat} (hn : n < 65536) (v : Int) : Yd (fun k => impl_verbSet_has k (n : Int) v) (decide (0 ≤ v ∧ v < 16) && n.testBit v.toNat) := by
  unfold impl_verbSet_has
  refine Yd.ite (fun h1 => Yd.ite (fun h2 => ?_) fun h2 => Yd.to Yd.pure ?_) fun h1 => Yd.to Yd.pure ?_
  · obtain ⟨u, rfl⟩ : ∃ u : Nat, v = (u : Int) := ⟨v.toNat, by omega⟩
    have hu : u < 16 := by omega
    rw [wru64 hu, bShr16 hu]
    refine Yd.ifp (by omega) (Yd.to Yd.pure ?_)
    have hlt : n / 2 ^ u < 65536 := Nat.lt_of_le_of_lt (Nat.div_le_self _ _) hn
    have e := bAnd16 hlt (show 1 < 65536 by omega)
    have e1 : ((1 : Nat) : Int) = 1 := rfl
    rw [e1] at e
    rw [e, Nat.and_one_is_mod, Int.toNat_natCast]
    have : ((0 : Int) ≤ u ∧ (u : Int) < 16) := by omega
    simp only [this, and_self, decide_true, Bool.true_and, Nat.testBit_eq_decide_div_mod_eq]
    rw [Bool.eq_iff_iff]
    simp only [beq_iff_eq, decide_eq_true_eq]
    omega
  · have : ¬ (0 ≤ v ∧ v < 16) := by omega
    simp [this]
  · have : ¬ (0 ≤ v ∧ v < 16) := by omega
    simp [this]

/-- Of a rule that is ok the set has just the verbs. -/
theorem has_verbs {r : GateRule} (h : ruleOk r = true) (v : Int) : (decide (0 ≤ v ∧ v < 16) && (bitsOf r.Verbs 0).testBit v.toNat) = r.Verbs.any (· == v) := by
  simp only [ruleOk, Bool.and_eq_true] at h
  have ha := (allF_iff _ _ _).1 h.2.2.2.2.1
  by_cases hv : 0 ≤ v ∧ v < 16
  · obtain ⟨u, rfl⟩ : ∃ u : Nat, v = (u : Int) := ⟨v.toNat, by omega⟩
    rw [Int.toNat_natCast, bitsOf_test u (by omega)]
    simp [hv]
  · have : r.Verbs.any (· == v) = false := by
      rw [Bool.eq_false_iff]
      intro hany
      rw [List.any_eq_true] at hany
      obtain ⟨x, hx, e⟩ := hany
      obtain ⟨i, hi, rfl⟩ := List.getElem_of_mem hx
      have := ha i (Nat.zero_le _) (by omega)
      have eg : r.Verbs.getD i 0 = r.Verbs[i] := by simp [List.getD, hi]
      simp only [vOk, eg, Bool.and_eq_true, decide_eq_true_eq] at this
      simp only [beq_iff_eq] at e
      omega
    simp [hv, this]

/-! ### Texts that begin with another -/

def begins (s p : List UInt8) : Bool := decide (p.length ≤ s.length) && (s.take p.length == p)
theorem begins_take {s p : List UInt8} : subS s 0 (p.length : Int) = s.take p.length := by simp [subS]
theorem beginsS_y (s p : List UInt8) : Yd (fun k => spec_l4Begins k s p) (begins s p) := by
  unfold spec_l4Begins
  refine Yd.ite (fun h => Yd.ifp (by omega) (Yd.to Yd.pure ?_)) fun h => Yd.to Yd.pure ?_
  · have : p.length ≤ s.length := by omega
    rw [begins_take]; simp [begins, this]
  · have : ¬ p.length ≤ s.length := by omega
    simp [begins, this]
theorem beginsI_y (s p : List UInt8) : Yd (fun k => strings_HasPrefix k s p) (begins s p) := by
  unfold strings_HasPrefix
  refine Yd.bind (a := begins s p) ?_ Yd.pure
  unfold stringslite_HasPrefix
  refine Yd.ite (fun h => Yd.ifp (by omega) (Yd.to Yd.pure ?_)) fun h => Yd.to Yd.pure ?_
  · have : p.length ≤ s.length := by omega
    rw [begins_take]; simp [begins, this]
  · have : ¬ p.length ≤ s.length := by omega
    simp [begins, this]

end Go.Proofs.Ytkfdfapickladaa.Pu
