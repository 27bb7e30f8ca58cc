/- laws.FnExactGateTeamsOk, plain: teams that are ok, in both texts. No condition. -/
import Derived.Test.YtkfdfapickladaaPuUnder
namespace Go.Proofs.Ytkfdfapickladaa.Pu
open Go Go.RowKit Go.Proofs.Ytkfdfapickladaa.Abs Go.Proofs.Ytkfdfapickladaa.Fn

/-- All of m numbers from i on. -/
def allF (p : Nat → Bool) : Nat → Nat → Bool
  | _, 0 => true
  | i, m + 1 => p i && allF p (i + 1) m
theorem allF_iff (p : Nat → Bool) : ∀ m i, allF p i m = true ↔ ∀ j, i ≤ j → j < i + m → p j = true
  | 0, i => by simp [allF]; intro j h1 h2; omega
  | m + 1, i => by
    simp only [allF, Bool.and_eq_true, allF_iff p m (i + 1)]
    constructor
    · rintro ⟨h1, h2⟩ j h3 h4
      by_cases e : j = i
      · subst e; exact h1
      · exact h2 j (by omega) (by omega)
    · exact fun h => ⟨h i (Nat.le_refl _) (by omega), fun j h1 h2 => h j (by omega) (by omega)⟩

/-! ### Names -/

def bOk (n : Int) : Bool := if n ≥ 97 then (if n ≤ 122 then true else (if n ≥ 48 then (if n ≤ 57 then true else n == 45) else n == 45)) else (if n ≥ 48 then (if n ≤ 57 then true else n == 45) else n == 45)
theorem byteS_y (n : Int) : Yd (fun k => spec_l1Byte k n) (bOk n) := Yd.of fun k => by
  unfold spec_l1Byte bOk
  repeat' split
  all_goals first | rfl | omega
theorem byteI_y (n : Int) : Yd (fun k => impl_nameByte k n) (bOk n) := byteS_y n

def bsOk (s : List UInt8) : Bool := s.all fun b => bOk (b.toNat : Int)
def nameOk (s : List UInt8) : Bool := decide (1 ≤ s.length) && decide (s.length ≤ 16) && bsOk s

theorem drop_cons8 {x : List UInt8} {i : Nat} (h : i < x.length) : x.drop i = x.getD i 0 :: x.drop (i + 1) := by
  rw [List.drop_eq_getElem_cons h]
  simp [List.getD, h]

theorem namesI_l {s : List UInt8} (hs : s.length ≤ maxLen) : ∀ m i : Nat, i + m = s.length → Yd (fun k => impl_nameBytes.l0 s k (i : Int)) (if bsOk (s.drop i) then .inr () else .inl false)
  | 0, i, h => by
    refine Yd.succ ?_
    simp only [impl_nameBytes.l0]
    refine Yd.ifn (by omega) ?_
    rw [drop_end (by omega)]
    exact Yd.pure
  | m + 1, i, h => by
    have hi : i < s.length := by omega
    refine Yd.succ ?_
    simp only [impl_nameBytes.l0, Int.toNat_natCast]
    refine Yd.ifp (by omega) (Yd.ifp (by omega) (Yd.bind (byteI_y _) ?_))
    rw [drop_cons8 hi]
    cases hb : bOk ((s.getD i 0).toNat : Int) with
    | false => simp only [bsOk, List.all_cons, hb]; exact Yd.pure
    | true =>
      refine Yd.ifn (by simp) ?_
      rw [wr64 (by omega) (by have := max_eq; omega)]
      simp only [bsOk, List.all_cons, hb, Bool.true_and]
      exact_mod_cast namesI_l hs m (i + 1) (by omega)
theorem namesI_y {s : List UInt8} (hs : s.length ≤ maxLen) : Yd (fun k => impl_nameBytes k s) (bsOk s) := by
  unfold impl_nameBytes
  refine Yd.bind (by exact_mod_cast namesI_l hs s.length 0 (by omega)) ?_
  rw [List.drop_zero]
  cases bsOk s <;> exact Yd.pure
theorem nameI_y {s : List UInt8} (hs : s.length ≤ maxLen) : Yd (fun k => impl_isName k s) (nameOk s) := by
  unfold impl_isName nameOk
  refine Yd.ite (fun h1 => Yd.ite (fun h2 => Yd.bind (namesI_y hs) ?_) fun h2 => ?_) fun h1 => ?_
  · have a1 : 1 ≤ s.length := by omega
    have a2 : s.length ≤ 16 := by omega
    simp only [a1, a2, decide_true, Bool.true_and]; exact Yd.pure
  · have a2 : ¬ s.length ≤ 16 := by omega
    simp only [a2, decide_false, Bool.and_false, Bool.false_and]; exact Yd.pure
  · have a1 : ¬ 1 ≤ s.length := by omega
    simp only [a1, decide_false, Bool.false_and]; exact Yd.pure

theorem namesS_l {s : List UInt8} (hs : s.length ≤ maxLen) : ∀ m i : Nat, i + m = s.length → Yd (fun k => spec_l1NameOk.l0 s k (i : Int)) (if bsOk (s.drop i) then .inr () else .inl false)
  | 0, i, h => by
    refine Yd.succ ?_
    simp only [spec_l1NameOk.l0]
    refine Yd.ifn (by omega) ?_
    rw [drop_end (by omega)]
    exact Yd.pure
  | m + 1, i, h => by
    have hi : i < s.length := by omega
    refine Yd.succ ?_
    simp only [spec_l1NameOk.l0, Int.toNat_natCast]
    refine Yd.ifp (by omega) (Yd.ifp (by omega) (Yd.bind (byteS_y _) ?_))
    rw [drop_cons8 hi]
    cases hb : bOk ((s.getD i 0).toNat : Int) with
    | false => simp only [bsOk, List.all_cons, hb]; exact Yd.pure
    | true =>
      refine Yd.ifn (by simp) ?_
      rw [wr64 (by omega) (by have := max_eq; omega)]
      simp only [bsOk, List.all_cons, hb, Bool.true_and]
      exact_mod_cast namesS_l hs m (i + 1) (by omega)

theorem in_y (n a b : Int) : Yd (fun k => spec_l1In k n a b) (decide (a ≤ n) && decide (n ≤ b)) := by
  unfold spec_l1In
  refine Yd.ite (fun h => Yd.to Yd.pure ?_) fun h => Yd.to Yd.pure ?_
  · have : a ≤ n := h
    simp [this]
  · have : ¬ a ≤ n := h
    simp [this]

theorem nameS_y {s : List UInt8} (hs : s.length ≤ maxLen) : Yd (fun k => spec_l1NameOk k s) (nameOk s) := by
  unfold spec_l1NameOk nameOk
  refine Yd.bind (in_y _ _ _) (Yd.ite (fun h => Yd.to Yd.pure ?_) fun h => Yd.bind (by exact_mod_cast namesS_l hs s.length 0 (by omega)) ?_)
  · have : (decide (1 ≤ s.length) && decide (s.length ≤ 16)) = false := by
      simp only [Bool.not_eq_true', Bool.and_eq_false_iff, decide_eq_false_iff_not] at h ⊢
      omega
    rw [this]; rfl
  · have : (decide (1 ≤ s.length) && decide (s.length ≤ 16)) = true := by
      simp only [Bool.not_eq_true', Bool.not_eq_false, Bool.and_eq_true, decide_eq_true_eq] at h ⊢
      omega
    rw [this, List.drop_zero]
    cases bsOk s <;> exact Yd.pure

/-! ### One team -/

theorem team_l {x : List GateTeam} {nm : List UInt8} (hx : x.length ≤ maxLen) : ∀ m i : Nat, i + m = x.length →
    Yd (fun k => spec_l4Team.l0 x nm k (i : Int)) (if (find (x.drop i) nm).isSome then .inl true else .inr ())
  | 0, i, h => by
    refine Yd.succ ?_
    simp only [spec_l4Team.l0]
    refine Yd.ifn (by omega) ?_
    rw [drop_end (by omega)]
    exact Yd.pure
  | m + 1, i, h => by
    have hi : i < x.length := by omega
    refine Yd.succ ?_
    simp only [spec_l4Team.l0, Int.toNat_natCast]
    refine Yd.ifp (by omega) (Yd.ifp (by omega) (Yd.ite (fun hb => ?_) fun hb => ?_))
    · rw [drop_cons hi, find, List.find?_cons, hb]
      exact Yd.pure
    · rw [drop_cons hi, find, List.find?_cons, Bool.eq_false_iff.2 hb]
      rw [wr64 (by omega) (by have := max_eq; omega)]
      exact_mod_cast team_l hx m (i + 1) (by omega)
theorem team_y {x : List GateTeam} (nm : List UInt8) (hx : x.length ≤ maxLen) : Yd (fun k => spec_l4Team k x nm) (find x nm).isSome := by
  unfold spec_l4Team
  refine Yd.bind (by exact_mod_cast team_l hx x.length 0 (by omega)) ?_
  rw [List.drop_zero]
  cases (find x nm).isSome <;> exact Yd.pure

def nm (x : List GateTeam) (i : Nat) : List UInt8 := (x.getD i default).Name
def ov (x : List GateTeam) (i : Nat) : List UInt8 := (x.getD i default).Over
def up (x : List GateTeam) (i : Nat) : Bool := decide (i = 0) || Op.bytesLess (nm x (i - 1)) (nm x i)
def known (x : List GateTeam) (i : Nat) : Bool := ov x i == [] || (find x (ov x i)).isSome
def ok1 (x : List GateTeam) (i : Nat) : Bool := nameOk (nm x i) && (up x i && known x i)

/-- From a name up, at most n steps: is there an end? -/
def chain (x : List GateTeam) : Nat → List UInt8 → Bool
  | 0, a => a == []
  | n + 1, a => a == [] || chain x n (over x a)

theorem ok_at {x : List GateTeam} (ho : ∀ t, t ∈ x → GateTeam.ok t) {i : Nat} (hi : i < x.length) : (nm x i).length ≤ maxLen := by
  have hmem : x.getD i default ∈ x := by simp only [List.getD]; rw [List.getElem?_eq_getElem hi]; exact List.getElem_mem hi
  exact (ho _ hmem).1

theorem chainS_l {x : List GateTeam} (hx : x.length ≤ maxLen) : ∀ (m i : Nat) (a : List UInt8), i + m = 5 → ∃ r, Yd (fun k => spec_GateTeamsOk.l1 x k a (i : Int)) (.inr r) ∧ (r == []) = chain x m a
  | 0, i, a, h => by
    refine ⟨a, Yd.succ ?_, rfl⟩
    simp only [spec_GateTeamsOk.l1]
    exact Yd.ifn (by omega) Yd.pure
  | m + 1, i, a, h => by
    by_cases h1 : (a == []) = true
    · refine ⟨a, Yd.succ ?_, by simp [chain, h1]⟩
      simp only [spec_GateTeamsOk.l1]
      exact Yd.ifp (by omega) (Yd.ifn (by simp [h1]) Yd.pure)
    · obtain ⟨r, k1, k2⟩ := chainS_l hx m (i + 1) (over x a) (by omega)
      refine ⟨r, Yd.succ ?_, by rw [k2, chain]; simp [h1]⟩
      simp only [spec_GateTeamsOk.l1]
      refine Yd.ifp (by omega) (Yd.ifp (by simp [h1]) (Yd.bind (l4Over_y a hx) ?_))
      rw [wr64 (by omega) (by omega)]
      exact_mod_cast k1

theorem teamsS_l {x : List GateTeam} (hx : x.length ≤ maxLen) (ho : ∀ t, t ∈ x → GateTeam.ok t) : ∀ m i : Nat, i + m = x.length →
    Yd (fun k => spec_GateTeamsOk.l0 x k (i : Int)) (if allF (fun j => ok1 x j && chain x 5 (nm x j)) i m then .inr () else .inl false)
  | 0, i, h => by
    refine Yd.succ ?_
    simp only [spec_GateTeamsOk.l0]
    exact Yd.ifn (by omega) Yd.pure
  | m + 1, i, h => by
    have hi : i < x.length := by omega
    have hm := max_eq
    refine Yd.succ ?_
    simp only [spec_GateTeamsOk.l0, Int.toNat_natCast]
    have first : Yd (fun k => ((spec_l1NameOk k ((x.getD i default).Name)).bind fun (r7_2 : Bool) => (if (!r7_2) = true then (some (.inl false)) else (if (i : Int) > 0 then (if 0 ≤ (wr .i64 ((i : Int) - 1)) ∧ (wr .i64 ((i : Int) - 1)) < (x.length : Int) then (if (!Op.bytesLess ((x.getD (wr .i64 ((i : Int) - 1)).toNat default).Name) ((x.getD i default).Name)) = true then (some (.inl false)) else (if (!(((x.getD i default).Over) == [])) = true then ((spec_l4Team k x ((x.getD i default).Over)).bind fun (r7_27 : Bool) => (if (!r7_27) = true then (some (.inl false)) else (some (.inr ())))) else (some (.inr ())))) else none) else (if (!(((x.getD i default).Over) == [])) = true then ((spec_l4Team k x ((x.getD i default).Over)).bind fun (r7_27 : Bool) => (if (!r7_27) = true then (some (.inl false)) else (some (.inr ())))) else (some (.inr ()))))) : Option (Bool ⊕ Unit))) (if ok1 x i then .inr () else .inl false) := by
      refine Yd.bind (nameS_y (ok_at ho hi)) ?_
      have last : Yd (fun k => (if (!(((x.getD i default).Over) == [])) = true then ((spec_l4Team k x ((x.getD i default).Over)).bind fun (r7_27 : Bool) => (if (!r7_27) = true then (some (.inl false)) else (some (.inr ())))) else (some (.inr ())) : Option (Bool ⊕ Unit))) (if known x i then .inr () else .inl false) := by
        refine Yd.ite (fun h1 => Yd.bind (team_y _ hx) (Yd.of fun k => ?_)) fun h1 => Yd.of fun k => ?_
        · have h1' : (ov x i == []) = false := by simpa [ov] using h1
          simp only [known, h1', Bool.false_or]
          show (if (!(find x (ov x i)).isSome) = true then _ else _) = _
          cases (find x (ov x i)).isSome <;> rfl
        · have h1' : (ov x i == []) = true := by simpa [ov] using h1
          simp only [known, h1', Bool.true_or]; rfl
      show Yd (fun k => if (!nameOk (nm x i)) = true then _ else _) _
      cases hn : nameOk (nm x i) with
      | false => simp only [ok1, hn, Bool.false_and]; exact Yd.pure
      | true =>
        refine Yd.ifn (by simp) ?_
        simp only [ok1, hn, Bool.true_and]
        by_cases h0 : i = 0
        · subst h0
          refine Yd.ifn (by omega) ?_
          simp only [up, decide_true, Bool.true_or, Bool.true_and]
          exact last
        · have e1 : wr .i64 ((i : Int) - 1) = ((i - 1 : Nat) : Int) := by rw [wr64 (by omega) (by omega)]; omega
          refine Yd.ifp (by omega) ?_
          rw [e1]
          simp only [Int.toNat_natCast]
          refine Yd.ifp (by omega) ?_
          have e2 : up x i = Op.bytesLess (nm x (i - 1)) (nm x i) := by simp [up, h0]
          rw [e2]
          show Yd (fun k => if (!Op.bytesLess (nm x (i - 1)) (nm x i)) = true then _ else _) _
          cases Op.bytesLess (nm x (i - 1)) (nm x i) with
          | false => exact Yd.pure
          | true => exact Yd.ifn (by simp) (by simpa using last)
    refine Yd.ifp (by omega) (Yd.ifp (by omega) (Yd.bind first ?_))
    rw [allF]
    cases h1 : ok1 x i with
    | false => exact Yd.pure
    | true =>
      obtain ⟨r, k1, k2⟩ := chainS_l hx 5 0 (nm x i) rfl
      refine Yd.bind k1 ?_
      rw [← k2, Bool.true_and]
      show Yd (fun k => if (!(r == [])) = true then _ else _) _
      cases (r == []) with
      | false => exact Yd.pure
      | true =>
        refine Yd.ifn (by simp) ?_
        rw [wr64 (by omega) (by omega), Bool.true_and]
        exact_mod_cast teamsS_l hx ho m (i + 1) (by omega)

theorem teamsS_y {x : List GateTeam} (hx : x.length ≤ maxLen) (ho : ∀ t, t ∈ x → GateTeam.ok t) : Yd (fun k => spec_GateTeamsOk k x) (decide (x.length ≤ 12) && allF (fun j => ok1 x j && chain x 5 (nm x j)) 0 x.length) := by
  unfold spec_GateTeamsOk
  refine Yd.ite (fun h => Yd.to Yd.pure ?_) fun h => Yd.bind (by exact_mod_cast teamsS_l hx ho x.length 0 (by omega)) ?_
  · have : ¬ x.length ≤ 12 := by omega
    simp [this]
  · have : x.length ≤ 12 := by omega
    simp only [this, decide_true, Bool.true_and]
    cases allF (fun j => ok1 x j && chain x 5 (nm x j)) 0 x.length <;> exact Yd.pure

/-! ### The program's text -/

theorem teamsI0_l {x : List GateTeam} (hx : x.length ≤ maxLen) (ho : ∀ t, t ∈ x → GateTeam.ok t) : ∀ m i : Nat, i + m = x.length →
    Yd (fun k => impl_GateTeamsOk.l0 x k (i : Int)) (if allF (ok1 x) i m then .inr () else .inl false)
  | 0, i, h => by
    refine Yd.succ ?_
    simp only [impl_GateTeamsOk.l0]
    exact Yd.ifn (by omega) Yd.pure
  | m + 1, i, h => by
    have hi : i < x.length := by omega
    have hm := max_eq
    have ih : Yd (fun k => impl_GateTeamsOk.l0 x k ((i : Int) + 1)) (if allF (ok1 x) (i + 1) m then .inr () else .inl false) := by exact_mod_cast teamsI0_l hx ho m (i + 1) (by omega)
    refine Yd.succ ?_
    simp only [impl_GateTeamsOk.l0, Int.toNat_natCast]
    refine Yd.ifp (by omega) (Yd.ifp (by omega) (Yd.bind (nameI_y (ok_at ho hi)) ?_))
    rw [wr64 (n := (i : Int) + 1) (by omega) (by omega), allF]
    have last : Yd (fun k => (if (!(((x.getD i default).Over) == [])) = true then ((impl_teamOf k x ((x.getD i default).Over)).bind fun (r6_27 : Int) => (if r6_27 < 0 then (some (.inl false)) else (impl_GateTeamsOk.l0 x k ((i : Int) + 1)))) else (impl_GateTeamsOk.l0 x k ((i : Int) + 1)))) (if (known x i && allF (ok1 x) (i + 1) m) then .inr () else .inl false) := by
      refine Yd.ite (fun h1 => Yd.bind (teamOf_y _ hx) ?_) fun h1 => ?_
      · have h1' : (ov x i == []) = false := by simpa [ov] using h1
        rcases at_over x (ov x i) with ⟨k1, k2⟩ | ⟨t, k1, k2, _⟩
        · refine Yd.ifp k1 (Yd.to Yd.pure ?_)
          simp [known, h1', k2]
        · refine Yd.ifn (by show ¬ at_ x (ov x i) < 0; omega) (Yd.to ih ?_)
          simp [known, h1', k1]
      · have h1' : (ov x i == []) = true := by simpa [ov] using h1
        refine Yd.to ih ?_
        simp [known, h1']
    show Yd (fun k => if (!nameOk (nm x i)) = true then _ else _) _
    cases hn : nameOk (nm x i) with
    | false => simp only [ok1, hn, Bool.false_and]; exact Yd.pure
    | true =>
      refine Yd.ifn (by simp) ?_
      simp only [ok1, hn, Bool.true_and]
      by_cases h0 : i = 0
      · subst h0
        refine Yd.ifn (by omega) ?_
        simp only [up, decide_true, Bool.true_or, Bool.true_and]
        exact last
      · have e1 : wr .i64 ((i : Int) - 1) = ((i - 1 : Nat) : Int) := by rw [wr64 (by omega) (by omega)]; omega
        refine Yd.ifp (by omega) ?_
        rw [e1]
        simp only [Int.toNat_natCast]
        refine Yd.ifp (by omega) ?_
        have e2 : up x i = Op.bytesLess (nm x (i - 1)) (nm x i) := by simp [up, h0]
        rw [e2]
        show Yd (fun k => if (!Op.bytesLess (nm x (i - 1)) (nm x i)) = true then _ else _) _
        cases Op.bytesLess (nm x (i - 1)) (nm x i) with
        | false => exact Yd.pure
        | true => exact Yd.ifn (by simp) (by simpa using last)

/-- Every team that is named stands. -/
def Known (x : List GateTeam) : Prop := ∀ i, i < x.length → known x i = true

theorem known_at {x : List GateTeam} (hk : Known x) {t : GateTeam} (ht : t ∈ x) : t.Over = [] ∨ ∃ u, find x t.Over = some u := by
  obtain ⟨i, hi, rfl⟩ := List.getElem_of_mem ht
  have := hk i hi
  have e : x.getD i default = x[i] := by simp [List.getD, hi]
  simp only [known, ov, e, Bool.or_eq_true, beq_iff_eq] at this
  rcases this with h | h
  · exact .inl h
  · exact .inr (Option.isSome_iff_exists.1 h)

theorem chainI_l {x : List GateTeam} (hx : x.length ≤ maxLen) (hk : Known x) : ∀ (m i : Nat) (a : List UInt8), i + m = 4 → (a = [] ∨ ∃ u, find x a = some u) →
    Yd (fun k => impl_GateTeamsOk.l2 x k (i : Int) a) (if chain x m a then .inr () else .inl false) := by
  intro m
  induction m with
  | zero =>
    intro i a h ha
    refine Yd.succ ?_
    simp only [impl_GateTeamsOk.l2]
    refine Yd.ite (fun h1 => Yd.ifp ?_ (Yd.to Yd.pure ?_)) fun h1 => Yd.to Yd.pure ?_
    · rw [wr64 (by omega) (by omega)]; omega
    · have : (a == []) = false := by simpa using h1
      simp [chain, this]
    · have : (a == []) = true := by simpa using h1
      simp [chain, this]
  | succ m ih =>
    intro i a h ha
    refine Yd.succ ?_
    simp only [impl_GateTeamsOk.l2]
    refine Yd.ite (fun h1 => ?_) fun h1 => Yd.to Yd.pure ?_
    · have h1' : (a == []) = false := by simpa using h1
      rw [wr64 (by omega) (by omega)]
      refine Yd.ifn (by omega) (Yd.bind (teamOf_y a hx) ?_)
      rcases ha with rfl | ⟨u, hu⟩
      · simp at h1'
      · rcases at_over x a with ⟨_, k2⟩ | ⟨t, k1, k2, k3, k4, k5⟩
        · rw [hu] at k2; cases k2
        · refine Yd.ifp ⟨k2, k3⟩ ?_
          rw [k4]
          have eo : over x a = t.Over := by simp [over, k1]
          have e : chain x (m + 1) a = chain x m t.Over := by rw [chain, h1', Bool.false_or, eo]
          rw [e]
          exact_mod_cast ih (i + 1) t.Over (by omega) (known_at hk k5)
    · have : (a == []) = true := by simpa using h1
      simp [chain, this]

theorem teamsI1_l {x : List GateTeam} (hx : x.length ≤ maxLen) (hk : Known x) : ∀ m i : Nat, i + m = x.length →
    Yd (fun k => impl_GateTeamsOk.l1 x k (i : Int)) (if allF (fun j => chain x 4 (ov x j)) i m then .inr () else .inl false)
  | 0, i, h => by
    refine Yd.succ ?_
    simp only [impl_GateTeamsOk.l1]
    exact Yd.ifn (by omega) Yd.pure
  | m + 1, i, h => by
    have hi : i < x.length := by omega
    have hmem : x.getD i default ∈ x := by simp only [List.getD]; rw [List.getElem?_eq_getElem hi]; exact List.getElem_mem hi
    refine Yd.succ ?_
    simp only [impl_GateTeamsOk.l1, Int.toNat_natCast]
    refine Yd.ifp (by omega) (Yd.ifp (by omega) (Yd.bind (by exact_mod_cast chainI_l hx hk 4 0 (ov x i) rfl (known_at hk hmem)) ?_))
    rw [allF]
    cases chain x 4 (ov x i) with
    | false => exact Yd.pure
    | true =>
      show Yd (fun k => impl_GateTeamsOk.l1 x k (wr .i64 ((i : Int) + 1))) _
      rw [wr64 (by omega) (by have := max_eq; omega), Bool.true_and]
      exact_mod_cast teamsI1_l hx hk m (i + 1) (by omega)

theorem teamsI_y {x : List GateTeam} (hx : x.length ≤ maxLen) (ho : ∀ t, t ∈ x → GateTeam.ok t) :
    Yd (fun k => impl_GateTeamsOk k x) (decide (x.length ≤ 12) && (allF (ok1 x) 0 x.length && allF (fun j => chain x 4 (ov x j)) 0 x.length)) := by
  unfold impl_GateTeamsOk
  refine Yd.ite (fun h => Yd.to Yd.pure ?_) fun h => Yd.bind (by exact_mod_cast teamsI0_l hx ho x.length 0 (by omega)) ?_
  · have : ¬ x.length ≤ 12 := by omega
    simp [this]
  · have h12 : x.length ≤ 12 := by omega
    simp only [h12, decide_true, Bool.true_and]
    cases h1 : allF (ok1 x) 0 x.length with
    | false => exact Yd.pure
    | true =>
      have hk : Known x := fun i hi => by
        have := (allF_iff _ _ _).1 h1 i (Nat.zero_le _) (by omega)
        simp only [ok1, Bool.and_eq_true] at this
        exact this.2.2
      show Yd (fun k => (impl_GateTeamsOk.l1 x k 0).bind (impl_GateTeamsOk.c1 k)) _
      refine Yd.bind (by exact_mod_cast teamsI1_l hx hk x.length 0 (by omega)) ?_
      rw [Bool.true_and]
      cases allF (fun j => chain x 4 (ov x j)) 0 x.length <;> exact Yd.pure

/-! ### Names that rise are met once -/

theorem less_irrefl (a : List UInt8) : Op.bytesLess a a = false := by
  induction a with
  | nil => rfl
  | cons x a ih => simp [Op.bytesLess, ih]
theorem less_trans : ∀ {a b c : List UInt8}, Op.bytesLess a b = true → Op.bytesLess b c = true → Op.bytesLess a c = true
  | [], [], _, h, _ => by simp [Op.bytesLess] at h
  | [], _ :: _, [], _, h => by simp [Op.bytesLess] at h
  | [], _ :: _, _ :: _, _, _ => by simp [Op.bytesLess]
  | _ :: _, [], _, h, _ => by simp [Op.bytesLess] at h
  | _ :: _, _ :: _, [], _, h => by simp [Op.bytesLess] at h
  | x :: a, y :: b, z :: c, h, h' => by
    simp only [Op.bytesLess, Bool.or_eq_true, Bool.and_eq_true, decide_eq_true_eq, beq_iff_eq] at h h' ⊢
    rcases h with h | ⟨rfl, h⟩
    · rcases h' with h' | ⟨rfl, h'⟩
      · exact .inl (UInt8.lt_trans h h')
      · exact .inl h
    · rcases h' with h' | ⟨rfl, h'⟩
      · exact .inl h'
      · exact .inr ⟨rfl, less_trans h h'⟩

theorem rises {x : List GateTeam} (h : ∀ i, i < x.length → up x i = true) : ∀ j i, i < j → j < x.length → Op.bytesLess (nm x i) (nm x j) = true := by
  intro j
  induction j with
  | zero => intro i hi; omega
  | succ j ih =>
    intro i hi hj
    have h1 := h (j + 1) hj
    simp only [up, Nat.succ_ne_zero, decide_false, Bool.false_or, Nat.add_sub_cancel] at h1
    by_cases e : i = j
    · subst e; exact h1
    · exact less_trans (ih i (by omega) (by omega)) h1

theorem over_nm {x : List GateTeam} (h : ∀ i, i < x.length → up x i = true) {i : Nat} (hi : i < x.length) : over x (nm x i) = ov x i := by
  have hf : find x (nm x i) = some (x.getD i default) := by
    rw [find, List.find?_eq_some_iff_getElem]
    refine ⟨by simp [nm], i, hi, by simp [List.getD, hi], fun j hj => ?_⟩
    have h1 := rises h i j hj hi
    have e : nm x j = x[j].Name := by simp [nm, List.getD, show j < x.length by omega]
    rw [e] at h1
    simp only [Bool.not_eq_true', beq_eq_false_iff_ne, ne_eq]
    intro he
    rw [he, less_irrefl] at h1
    cases h1
  simp [over, hf, ov]

theorem teams_eq (x : List GateTeam) : allF (fun j => ok1 x j && chain x 5 (nm x j)) 0 x.length = (allF (ok1 x) 0 x.length && allF (fun j => chain x 4 (ov x j)) 0 x.length) := by
  rw [Bool.eq_iff_iff, Bool.and_eq_true]
  simp only [allF_iff, Nat.zero_le, true_imp_iff, Nat.zero_add, Bool.and_eq_true]
  have key : (∀ j, j < x.length → ok1 x j = true) → ∀ j, j < x.length → chain x 5 (nm x j) = chain x 4 (ov x j) := by
    intro h j hj
    have hu : ∀ i, i < x.length → up x i = true := fun i hi => by
      have := h i hi
      simp only [ok1, Bool.and_eq_true] at this
      exact this.2.1
    have hn := h j hj
    simp only [ok1, nameOk, Bool.and_eq_true, decide_eq_true_eq] at hn
    have : (nm x j == []) = false := by
      cases e : nm x j with
      | nil => rw [e] at hn; simp at hn
      | cons a l => rfl
    rw [chain, this, Bool.false_or, over_nm hu hj]
  constructor
  · intro h
    have h1 : ∀ j, j < x.length → ok1 x j = true := fun j hj => (h j hj).1
    exact ⟨h1, fun j hj => by rw [← key h1 j hj]; exact (h j hj).2⟩
  · rintro ⟨h1, h2⟩ j hj
    exact ⟨h1 j hj, by rw [key h1 j hj]; exact h2 j hj⟩

end Go.Proofs.Ytkfdfapickladaa.Pu
