/- laws.FnExactGateUnder, plain: a team under another one, in both texts. No condition. -/
import Derived.Test.YtkfdfapickladaaFnFd
import Derived.Test.YtkfdfapickladaaPuA
namespace Go.Proofs.Ytkfdfapickladaa.Pu
open Go Go.RowKit Go.Proofs.Ytkfdfapickladaa.Abs Go.Proofs.Ytkfdfapickladaa.Fn

theorem wr64 {n : Int} (h0 : -9223372036854775808 ≤ n) (h1 : n ≤ 9223372036854775807) : wr .i64 n = n := wrap_id h0 h1

/-- The first team of a name. -/
def find (x : List GateTeam) (nm : List UInt8) : Option GateTeam := x.find? fun t => t.Name == nm
def over (x : List GateTeam) (nm : List UInt8) : List UInt8 := match find x nm with
  | some t => t.Over
  | none => []

theorem l4Over_l {x : List GateTeam} {nm : List UInt8} (hx : x.length ≤ maxLen) : ∀ m i : Nat, i + m = x.length →
    Yd (fun k => spec_l4Over.l0 x nm k (i : Int)) (match find (x.drop i) nm with | some t => .inl t.Over | none => .inr ())
  | 0, i, h => by
    refine Yd.succ ?_
    simp only [spec_l4Over.l0]
    refine Yd.ifn (by omega) ?_
    rw [drop_end (by omega)]
    exact Yd.pure
  | m + 1, i, h => by
    have hi : i < x.length := by omega
    refine Yd.succ ?_
    simp only [spec_l4Over.l0, Int.toNat_natCast]
    refine Yd.ifp (by omega) (Yd.ifp (by omega) (Yd.ite (fun hb => ?_) fun hb => ?_))
    · refine Yd.ifp (by omega) ?_
      rw [drop_cons hi, find, List.find?_cons, hb]
      exact Yd.pure
    · rw [drop_cons hi, find, List.find?_cons, Bool.eq_false_iff.2 hb]
      rw [wr64 (by omega) (by have := max_eq; omega)]
      exact_mod_cast l4Over_l hx m (i + 1) (by omega)

theorem l4Over_y {x : List GateTeam} (nm : List UInt8) (hx : x.length ≤ maxLen) : Yd (fun k => spec_l4Over k x nm) (over x nm) := by
  unfold spec_l4Over
  refine Yd.bind (l4Over_l hx x.length 0 (by omega)) ?_
  rw [List.drop_zero, over]
  cases find x nm <;> exact Yd.pure

/-- Under, at most m steps, the first one taken. -/
def undS (x : List GateTeam) (b : List UInt8) : Nat → List UInt8 → Bool
  | 0, _ => false
  | m + 1, a => !(over x a == []) && (over x a == b || undS x b m (over x a))

theorem specUnder_l {x : List GateTeam} {b : List UInt8} (hx : x.length ≤ maxLen) : ∀ (m i : Nat) (a : List UInt8), i + m = 4 →
    ∃ r, Yd (fun k => spec_GateUnder.l0 x b k a (i : Int)) r ∧ (∀ k, spec_GateUnder.c0 k r = some (undS x b m a))
  | 0, i, a, h => by
    refine ⟨.inr (), Yd.succ ?_, fun _ => rfl⟩
    simp only [spec_GateUnder.l0]
    exact Yd.ifn (by omega) Yd.pure
  | m + 1, i, a, h => by
    by_cases h1 : (over x a == []) = true
    · refine ⟨.inl false, Yd.succ ?_, fun _ => by simp [spec_GateUnder.c0, undS, h1]⟩
      simp only [spec_GateUnder.l0]
      exact Yd.ifp (by omega) (Yd.bind (l4Over_y a hx) (Yd.ifp h1 Yd.pure))
    · by_cases h2 : (over x a == b) = true
      · refine ⟨.inl true, Yd.succ ?_, fun _ => by simp [spec_GateUnder.c0, undS, h1, h2]⟩
        simp only [spec_GateUnder.l0]
        exact Yd.ifp (by omega) (Yd.bind (l4Over_y a hx) (Yd.ifn h1 (Yd.ifp h2 Yd.pure)))
      · obtain ⟨r, k1, k2⟩ := specUnder_l (b := b) hx m (i + 1) (over x a) (by omega)
        refine ⟨r, Yd.succ ?_, fun k => by rw [k2]; simp [undS, h1, h2]⟩
        simp only [spec_GateUnder.l0]
        refine Yd.ifp (by omega) (Yd.bind (l4Over_y a hx) (Yd.ifn h1 (Yd.ifn h2 ?_)))
        rw [wr64 (by omega) (by omega)]
        exact_mod_cast k1

theorem specUnder_y {x : List GateTeam} (a b : List UInt8) (hx : x.length ≤ maxLen) : Yd (fun k => spec_GateUnder k x a b) (a == b || undS x b 4 a) := by
  unfold spec_GateUnder
  refine Yd.ite (fun h => by rw [h]; exact Yd.pure) fun h => ?_
  obtain ⟨r, k1, k2⟩ := specUnder_l (b := b) hx 4 0 a rfl
  refine Yd.bind k1 (Yd.of fun k => ?_)
  rw [k2]; simp [h]

/-- The place of the first team of a name. -/
theorem teamOf_l {x : List GateTeam} {nm : List UInt8} (hx : x.length ≤ maxLen) : ∀ m i : Nat, i + m = x.length →
    Yd (fun k => impl_teamOf.l0 x nm k (i : Int)) (match (x.drop i).findIdx? (fun t => t.Name == nm) with | some j => .inl ((i + j : Nat) : Int) | none => .inr ())
  | 0, i, h => by
    refine Yd.succ ?_
    simp only [impl_teamOf.l0]
    refine Yd.ifn (by omega) ?_
    rw [drop_end (by omega)]
    exact Yd.pure
  | m + 1, i, h => by
    have hi : i < x.length := by omega
    refine Yd.succ ?_
    simp only [impl_teamOf.l0, Int.toNat_natCast]
    refine Yd.ifp (by omega) (Yd.ifp (by omega) (Yd.ite (fun hb => ?_) fun hb => ?_))
    · rw [drop_cons hi, List.findIdx?_cons, hb]
      exact Yd.pure
    · rw [drop_cons hi, List.findIdx?_cons, Bool.eq_false_iff.2 hb]
      rw [wr64 (by omega) (by have := max_eq; omega)]
      refine Yd.to (by exact_mod_cast teamOf_l hx m (i + 1) (by omega)) ?_
      cases (x.drop (i + 1)).findIdx? (fun t => t.Name == nm) <;> simp
      omega

def at_ (x : List GateTeam) (nm : List UInt8) : Int := match x.findIdx? (fun t => t.Name == nm) with
  | some j => j
  | none => -1
theorem teamOf_y {x : List GateTeam} (nm : List UInt8) (hx : x.length ≤ maxLen) : Yd (fun k => impl_teamOf k x nm) (at_ x nm) := by
  unfold impl_teamOf
  refine Yd.bind (by exact_mod_cast teamOf_l hx x.length 0 (by omega)) ?_
  rw [List.drop_zero, at_]
  cases x.findIdx? (fun t => t.Name == nm) <;> simp <;> exact Yd.pure

/-- What stands at the place. -/
theorem at_over (x : List GateTeam) (nm : List UInt8) : (at_ x nm < 0 ∧ find x nm = none) ∨ ∃ t, find x nm = some t ∧ 0 ≤ at_ x nm ∧ at_ x nm < x.length ∧ x.getD (at_ x nm).toNat default = t ∧ t ∈ x := by
  cases h : x.findIdx? (fun t => t.Name == nm) with
  | none =>
    left
    refine ⟨by simp [at_, h], ?_⟩
    rw [List.findIdx?_eq_none_iff] at h
    simpa [find] using h
  | some j =>
    right
    rw [List.findIdx?_eq_some_iff_getElem] at h
    obtain ⟨hj, h1, h2⟩ := h
    have e : at_ x nm = j := by
      have : x.findIdx? (fun t => t.Name == nm) = some j := List.findIdx?_eq_some_iff_getElem.2 ⟨hj, h1, h2⟩
      simp [at_, this]
    refine ⟨x[j], ?_, by omega, by omega, by simp [e, List.getD, hj], List.getElem_mem hj⟩
    rw [find, List.find?_eq_some_iff_getElem]
    exact ⟨h1, j, hj, rfl, fun q hq => by have := h2 q hq; simpa using this⟩

/-- Under, at most m steps. -/
def undI (x : List GateTeam) (b : List UInt8) : Nat → List UInt8 → Bool
  | 0, a => a == b
  | m + 1, a => a == b || (!(over x a == []) && undI x b m (over x a))

theorem implUnder_l {x : List GateTeam} {b : List UInt8} (hx : x.length ≤ maxLen) : ∀ (m i : Nat) (a : List UInt8), i + m = 4 →
    ∃ r, Yd (fun k => impl_GateUnder.l0 b x k a (i : Int)) r ∧ (∀ k, impl_GateUnder.c0 k r = some (undI x b m a)) := by
  intro m
  induction m with
  | zero =>
    intro i a h
    by_cases h1 : (a == b) = true
    · refine ⟨.inr (), Yd.succ ?_, fun _ => by simp [impl_GateUnder.c0, undI, h1]⟩
      simp only [impl_GateUnder.l0]
      exact Yd.ifn (by simp [h1]) Yd.pure
    · refine ⟨.inl false, Yd.succ ?_, fun _ => by simp [impl_GateUnder.c0, undI, h1]⟩
      simp only [impl_GateUnder.l0]
      refine Yd.ifp (by simp [h1]) (Yd.bind (teamOf_y a hx) (Yd.ifp ?_ Yd.pure))
      simp; omega
  | succ m ih =>
    intro i a h
    by_cases h1 : (a == b) = true
    · refine ⟨.inr (), Yd.succ ?_, fun _ => by simp [impl_GateUnder.c0, undI, h1]⟩
      simp only [impl_GateUnder.l0]
      exact Yd.ifn (by simp [h1]) Yd.pure
    · have h4 : ¬ ((i : Int) == 4) = true := by simp; omega
      rcases at_over x a with ⟨k1, k2⟩ | ⟨t, k1, k2, k3, k4, _⟩
      · refine ⟨.inl false, Yd.succ ?_, fun _ => by simp [impl_GateUnder.c0, undI, h1, over, k2]⟩
        simp only [impl_GateUnder.l0]
        exact Yd.ifp (by simp [h1]) (Yd.bind (teamOf_y a hx) (Yd.ifn h4 (Yd.ifp k1 Yd.pure)))
      · have eo : over x a = t.Over := by simp [over, k1]
        by_cases h2 : (t.Over == []) = true
        · refine ⟨.inl false, Yd.succ ?_, fun _ => by simp [impl_GateUnder.c0, undI, h1, eo, h2]⟩
          simp only [impl_GateUnder.l0]
          exact Yd.ifp (by simp [h1]) (Yd.bind (teamOf_y a hx) (Yd.ifn h4 (Yd.ifn (by omega) (Yd.ifp ⟨k2, k3⟩ (Yd.ifp (by rw [k4]; exact h2) Yd.pure)))))
        · obtain ⟨r, q1, q2⟩ := ih (i + 1) t.Over (by omega)
          refine ⟨r, Yd.succ ?_, fun k => by rw [q2]; simp [undI, h1, eo, h2]⟩
          simp only [impl_GateUnder.l0]
          refine Yd.ifp (by simp [h1]) (Yd.bind (teamOf_y a hx) (Yd.ifn h4 (Yd.ifn (by omega) (Yd.ifp ⟨k2, k3⟩ (Yd.ifn (by rw [k4]; exact h2) (Yd.ifp ⟨k2, k3⟩ ?_))))))
          rw [wr64 (by omega) (by omega), k4]
          exact_mod_cast q1

theorem implUnder_y {x : List GateTeam} (a b : List UInt8) (hx : x.length ≤ maxLen) : Yd (fun k => impl_GateUnder k x a b) (undI x b 4 a) := by
  unfold impl_GateUnder
  obtain ⟨r, k1, k2⟩ := implUnder_l (b := b) hx 4 0 a rfl
  exact Yd.bind k1 (Yd.of fun k => k2 k)

theorem und_eq (x : List GateTeam) (b : List UInt8) : ∀ m a, undI x b m a = (a == b || undS x b m a)
  | 0, a => by simp [undI, undS]
  | m + 1, a => by rw [undI, undS, und_eq x b m]

end Go.Proofs.Ytkfdfapickladaa.Pu
