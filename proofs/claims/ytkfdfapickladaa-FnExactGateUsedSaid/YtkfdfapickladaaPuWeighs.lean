/- What an object weighs, plain: decimals, an object's fields, sums, in both texts. No condition. -/
import Derived.Test.YtkfdfapickladaaPuTeams
namespace Go.Proofs.Ytkfdfapickladaa.Pu
open Go Go.RowKit Go.Proofs.Ytkfdfapickladaa.Abs Go.Proofs.Ytkfdfapickladaa.Fn

/-! ### Decimals -/

/-- The digits, from a number on. -/
def digs : List UInt8 → Int → Option Int
  | [], n => some n
  | c :: l, n => if (c.toNat : Int) < 48 then none else if (c.toNat : Int) > 57 then none else digs l (n * 10 + (c.toNat : Int) - 48)
/-- The number of a decimal. -/
def num (s : List UInt8) : Option Int :=
  if 1 ≤ s.length ∧ s.length ≤ 7 ∧ ¬ (s.length > 1 ∧ ((s.getD 0 0).toNat : Int) = 48) then digs s 0 else none

theorem digs_le : ∀ (l : List UInt8) (n v : Int), 0 ≤ n → digs l n = some v → 0 ≤ v
  | [], n, v, h, e => by simp only [digs, Option.some.injEq] at e; omega
  | c :: l, n, v, h, e => by
    simp only [digs] at e
    split at e
    · cases e
    · split at e
      · cases e
      · exact digs_le l _ v (by omega) e

theorem pow10 {i : Nat} (h : i ≤ 7) : (10 : Int) ^ i ≤ 10000000 := by
  have : i = 0 ∨ i = 1 ∨ i = 2 ∨ i = 3 ∨ i = 4 ∨ i = 5 ∨ i = 6 ∨ i = 7 := by omega
  rcases this with h | h | h | h | h | h | h | h <;> subst h <;> decide

theorem numS_l {s : List UInt8} (h7 : s.length ≤ 7) : ∀ (m i : Nat) (n : Int), i + m = s.length → 0 ≤ n → n < 10 ^ i →
    Yd (fun k => spec_l1Number.l0 s k n (i : Int)) (match digs (s.drop i) n with | some v => .inr v | none => .inl (-1))
  | 0, i, n, h, h0, hn => by
    refine Yd.succ ?_
    simp only [spec_l1Number.l0]
    refine Yd.ifn (by omega) ?_
    rw [drop_end (by omega)]
    exact Yd.pure
  | m + 1, i, n, h, h0, hn => by
    have hi : i < s.length := by omega
    have hp := pow10 (i := i) (by omega)
    refine Yd.succ ?_
    simp only [spec_l1Number.l0, Int.toNat_natCast]
    rw [drop_cons8 hi]
    generalize hc : ((s.getD i 0).toNat : Int) = c
    have hc' : ((s.getD i 0).toNat : Int) = c := hc
    refine Yd.ifp (by omega) (Yd.ifp (by omega) (Yd.ite (fun h1 => ?_) fun h1 => Yd.ifp (by omega) (Yd.ite (fun h2 => ?_) fun h2 => Yd.ifp (by omega) ?_)))
    · simp only [digs, hc', h1, if_true]; exact Yd.pure
    · simp only [digs, hc', h1, h2, if_true, if_false]; exact Yd.pure
    · rw [wr64 (n := n * 10) (by omega) (by omega), wr64 (n := c) (by omega) (by omega), wr64 (n := n * 10 + c) (by omega) (by omega), wr64 (n := n * 10 + c - 48) (by omega) (by omega), wr64 (n := (i : Int) + 1) (by omega) (by omega)]
      simp only [digs, hc', h1, h2, if_false]
      have hs : (10 : Int) ^ (i + 1) = 10 ^ i * 10 := Int.pow_succ 10 i
      exact_mod_cast numS_l h7 m (i + 1) (n * 10 + c - 48) (by omega) (by omega) (by omega)

theorem numS_y (s : List UInt8) : Yd (fun k => spec_l1Number k s) ((num s).getD (-1)) := by
  unfold spec_l1Number
  refine Yd.bind (a := if 1 ≤ s.length ∧ s.length ≤ 7 ∧ ¬ (s.length > 1 ∧ ((s.getD 0 0).toNat : Int) = 48) then .inr () else .inl (-1)) (Yd.bind (in_y _ _ _) ?_) ?_
  · refine Yd.ite (fun h => Yd.to Yd.pure ?_) fun h => Yd.ite (fun h1 => Yd.ifp ⟨by omega, by omega⟩ (Yd.ite (fun h2 => Yd.to Yd.pure ?_) fun h2 => Yd.to Yd.pure ?_)) fun h1 => Yd.to Yd.pure ?_
    · simp only [Bool.not_eq_true', Bool.and_eq_false_iff, decide_eq_false_iff_not] at h
      rw [if_neg (by omega)]
    · have h2' : ((s.getD 0 0).toNat : Int) = 48 := by simpa using h2
      rw [if_neg (fun hh => hh.2.2 ⟨by omega, h2'⟩)]
    · have h2' : ¬ ((s.getD 0 0).toNat : Int) = 48 := by simpa using h2
      simp only [Bool.not_eq_true', Bool.not_eq_false, Bool.and_eq_true, decide_eq_true_eq] at h
      rw [if_pos ⟨by omega, by omega, fun hh => h2' hh.2⟩]
    · simp only [Bool.not_eq_true', Bool.not_eq_false, Bool.and_eq_true, decide_eq_true_eq] at h
      rw [if_pos ⟨by omega, by omega, fun hh => by omega⟩]
  · unfold num
    by_cases hc : 1 ≤ s.length ∧ s.length ≤ 7 ∧ ¬ (s.length > 1 ∧ ((s.getD 0 0).toNat : Int) = 48)
    · rw [if_pos hc, if_pos hc]
      show Yd (fun k => (spec_l1Number.l0 s k 0 0).bind (spec_l1Number.c0 k)) _
      have h := numS_l hc.2.1 s.length 0 0 (by omega) (by omega) (by decide)
      rw [List.drop_zero] at h
      refine Yd.bind (by exact_mod_cast h) ?_
      cases digs s 0 <;> exact Yd.pure
    · rw [if_neg hc, if_neg hc]
      exact Yd.pure

theorem numI_l {s : List UInt8} (h7 : s.length ≤ 7) : ∀ (m i : Nat) (n : Int), i + m = s.length → 0 ≤ n → n < 10 ^ i →
    Yd (fun k => impl_decimal.l0 s k n (i : Int)) (match digs (s.drop i) n with | some v => .inr v | none => .inl (0, false))
  | 0, i, n, h, h0, hn => by
    refine Yd.succ ?_
    simp only [impl_decimal.l0]
    refine Yd.ifn (by omega) ?_
    rw [drop_end (by omega)]
    exact Yd.pure
  | m + 1, i, n, h, h0, hn => by
    have hi : i < s.length := by omega
    have hp := pow10 (i := i) (by omega)
    refine Yd.succ ?_
    simp only [impl_decimal.l0, Int.toNat_natCast]
    rw [drop_cons8 hi]
    generalize hc : ((s.getD i 0).toNat : Int) = c
    have hc' : ((s.getD i 0).toNat : Int) = c := hc
    refine Yd.ifp (by omega) (Yd.ifp (by omega) (Yd.ite (fun h1 => ?_) fun h1 => Yd.ifp (by omega) (Yd.ite (fun h2 => ?_) fun h2 => Yd.ifp (by omega) ?_)))
    · simp only [digs, hc', h1, if_true]; exact Yd.pure
    · simp only [digs, hc', h1, h2, if_true, if_false]; exact Yd.pure
    · have e8 : wr .u8 (c - 48) = c - 48 := by
        simp only [wr, IntKind.wrap, IntKind.bits, IntKind.signed, Bool.false_and]
        simp only [Bool.false_eq_true, if_false]
        omega
      rw [e8, wr64 (n := n * 10) (by omega) (by omega), wr64 (n := c - 48) (by omega) (by omega), wr64 (n := n * 10 + (c - 48)) (by omega) (by omega), wr64 (n := (i : Int) + 1) (by omega) (by omega)]
      simp only [digs, hc', h1, h2, if_false]
      have hs : (10 : Int) ^ (i + 1) = 10 ^ i * 10 := Int.pow_succ 10 i
      have e : n * 10 + (c - 48) = n * 10 + c - 48 := by omega
      rw [e]
      exact_mod_cast numI_l h7 m (i + 1) (n * 10 + c - 48) (by omega) (by omega) (by omega)

theorem numI_y (s : List UInt8) : Yd (fun k => impl_decimal k s) ((num s).getD 0, (num s).isSome) := by
  unfold impl_decimal
  refine Yd.bind (a := if 1 ≤ s.length ∧ s.length ≤ 7 ∧ ¬ (s.length > 1 ∧ ((s.getD 0 0).toNat : Int) = 48) then .inr () else .inl (0, false)) ?_ ?_
  · refine Yd.ite (fun h => Yd.to Yd.pure ?_) fun h => Yd.ite (fun h1 => Yd.to Yd.pure ?_) fun h1 => Yd.ifp ⟨by omega, by omega⟩ (Yd.ite (fun h2 => Yd.ite (fun h3 => Yd.to Yd.pure ?_) fun h3 => Yd.to Yd.pure ?_) fun h2 => Yd.to Yd.pure ?_)
    · rw [if_neg (by omega)]
    · rw [if_neg (by omega)]
    · have h2' : ((s.getD 0 0).toNat : Int) = 48 := by simpa using h2
      rw [if_neg (fun hh => hh.2.2 ⟨by omega, h2'⟩)]
    · rw [if_pos ⟨by omega, by omega, fun hh => by omega⟩]
    · have h2' : ¬ ((s.getD 0 0).toNat : Int) = 48 := by simpa using h2
      rw [if_pos ⟨by omega, by omega, fun hh => h2' hh.2⟩]
  · unfold num
    by_cases hc : 1 ≤ s.length ∧ s.length ≤ 7 ∧ ¬ (s.length > 1 ∧ ((s.getD 0 0).toNat : Int) = 48)
    · rw [if_pos hc, if_pos hc]
      show Yd (fun k => (impl_decimal.l0 s k 0 0).bind (impl_decimal.c0 k)) _
      have h := numI_l hc.2.1 s.length 0 0 (by omega) (by omega) (by decide)
      rw [List.drop_zero] at h
      refine Yd.bind (by exact_mod_cast h) ?_
      cases digs s 0 <;> exact Yd.pure
    · rw [if_neg hc, if_neg hc]
      exact Yd.pure
theorem num_le {s : List UInt8} {v : Int} (h : num s = some v) : 0 ≤ v := by
  unfold num at h
  split at h
  · exact digs_le _ _ _ (by omega) h
  · cases h

/-! ### Shapes and fields -/

def placeOf (x : List GateShape) (kd : List UInt8) : Int := match x.findIdx? (fun t => t.Kind == kd) with
  | some j => j
  | none => -1

theorem shapeS_l {x : List GateShape} {kd : List UInt8} (hx : x.length ≤ maxLen) : ∀ m i : Nat, i + m = x.length →
    Yd (fun k => spec_l1Shape.l0 x kd k (i : Int)) (match (x.drop i).findIdx? (fun t => t.Kind == kd) with | some j => .inl ((i + j : Nat) : Int) | none => .inr ())
  | 0, i, h => by
    refine Yd.succ ?_
    simp only [spec_l1Shape.l0]
    refine Yd.ifn (by omega) ?_
    rw [drop_end (by omega)]
    exact Yd.pure
  | m + 1, i, h => by
    have hi : i < x.length := by omega
    refine Yd.succ ?_
    simp only [spec_l1Shape.l0, Int.toNat_natCast]
    refine Yd.ifp (by omega) (Yd.ifp (by omega) (Yd.ite (fun hb => ?_) fun hb => ?_))
    · rw [drop_cons hi, List.findIdx?_cons, hb]
      exact Yd.pure
    · rw [drop_cons hi, List.findIdx?_cons, Bool.eq_false_iff.2 hb]
      rw [wr64 (by omega) (by have := max_eq; omega)]
      refine Yd.to (by exact_mod_cast shapeS_l hx m (i + 1) (by omega)) ?_
      cases (x.drop (i + 1)).findIdx? (fun t => t.Kind == kd) <;> simp
      omega
theorem shapeS_y {x : List GateShape} (kd : List UInt8) (hx : x.length ≤ maxLen) : Yd (fun k => spec_l1Shape k x kd) (placeOf x kd) := by
  unfold spec_l1Shape
  refine Yd.bind (by exact_mod_cast shapeS_l hx x.length 0 (by omega)) ?_
  rw [List.drop_zero, placeOf]
  cases x.findIdx? (fun t => t.Kind == kd) <;> simp <;> exact Yd.pure
theorem shapeI_l {x : List GateShape} {kd : List UInt8} (hx : x.length ≤ maxLen) : ∀ m i : Nat, i + m = x.length →
    Yd (fun k => impl_shapeOf.l0 x kd k (i : Int)) (match (x.drop i).findIdx? (fun t => t.Kind == kd) with | some j => .inl ((i + j : Nat) : Int) | none => .inr ())
  | 0, i, h => by
    refine Yd.succ ?_
    simp only [impl_shapeOf.l0]
    refine Yd.ifn (by omega) ?_
    rw [drop_end (by omega)]
    exact Yd.pure
  | m + 1, i, h => by
    have hi : i < x.length := by omega
    refine Yd.succ ?_
    simp only [impl_shapeOf.l0, Int.toNat_natCast]
    refine Yd.ifp (by omega) (Yd.ifp (by omega) (Yd.ite (fun hb => ?_) fun hb => ?_))
    · rw [drop_cons hi, List.findIdx?_cons, hb]
      exact Yd.pure
    · rw [drop_cons hi, List.findIdx?_cons, Bool.eq_false_iff.2 hb]
      rw [wr64 (by omega) (by have := max_eq; omega)]
      refine Yd.to (by exact_mod_cast shapeI_l hx m (i + 1) (by omega)) ?_
      cases (x.drop (i + 1)).findIdx? (fun t => t.Kind == kd) <;> simp
      omega
theorem shapeI_y {x : List GateShape} (kd : List UInt8) (hx : x.length ≤ maxLen) : Yd (fun k => impl_shapeOf k x kd) (placeOf x kd) := by
  unfold impl_shapeOf
  refine Yd.bind (by exact_mod_cast shapeI_l hx x.length 0 (by omega)) ?_
  rw [List.drop_zero, placeOf]
  cases x.findIdx? (fun t => t.Kind == kd) <;> simp <;> exact Yd.pure
theorem placeOf_lt (x : List GateShape) (kd : List UInt8) : placeOf x kd < x.length := by
  unfold placeOf
  cases h : x.findIdx? (fun t => t.Kind == kd) with
  | none => simp only; omega
  | some j =>
    rw [List.findIdx?_eq_some_iff_getElem] at h
    obtain ⟨hj, _⟩ := h
    simp only; omega

/-- An object's fields; none where its kind or its number of values does not fit. -/
def fieldsB (x : List GateShape) (o : GateObject) : List GateField × Bool :=
  if placeOf x o.Kind < 0 then ([], false) else if (x.getD (placeOf x o.Kind).toNat default).Fields.length = o.Values.length then ((x.getD (placeOf x o.Kind).toNat default).Fields, true) else ([], false)
theorem fieldsB_len {x : List GateShape} {o : GateObject} (h : (fieldsB x o).2 = true) : (fieldsB x o).1.length = o.Values.length := by
  unfold fieldsB at h ⊢
  split at h
  · cases h
  · split at h
    · rename_i h1 h2
      rw [if_neg h1, if_pos h2]; exact h2
    · cases h
theorem fieldsS_y {x : List GateShape} (o : GateObject) (hx : x.length ≤ maxLen) : Yd (fun k => spec_l2Fields k x o) (fieldsB x o) := by
  have hlt := placeOf_lt x o.Kind
  unfold spec_l2Fields fieldsB
  refine Yd.bind (shapeS_y _ hx) (Yd.ite (fun h => Yd.to Yd.pure (by rw [if_pos h])) fun h => ?_)
  rw [if_neg h]
  refine Yd.ifp (by omega) (Yd.ite (fun h1 => Yd.to Yd.pure ?_) fun h1 => Yd.ifp (by omega) (Yd.to Yd.pure ?_))
  · rw [if_neg (by simp only [bne_iff_ne, ne_eq] at h1; omega)]
  · rw [if_pos (by simp only [bne_iff_ne, ne_eq, Decidable.not_not] at h1; omega)]
theorem fieldsI_y {x : List GateShape} (o : GateObject) (hx : x.length ≤ maxLen) : Yd (fun k => impl_fieldsOf k x o) (fieldsB x o) := by
  have hlt := placeOf_lt x o.Kind
  unfold impl_fieldsOf fieldsB
  refine Yd.bind (shapeI_y _ hx) (Yd.ite (fun h => Yd.to Yd.pure (by rw [if_pos h])) fun h => ?_)
  rw [if_neg h]
  refine Yd.ifp (by omega) (Yd.ite (fun h1 => Yd.to Yd.pure ?_) fun h1 => Yd.ifp (by omega) (Yd.to Yd.pure ?_))
  · rw [if_neg (by simp only [bne_iff_ne, ne_eq] at h1; omega)]
  · rw [if_pos (by simp only [bne_iff_ne, ne_eq, Decidable.not_not] at h1; omega)]

/-! ### Sums -/

def inR (n : Int) : Prop := -9223372036854775808 ≤ n ∧ n ≤ 9223372036854775807
theorem wr_inR (n : Int) : inR (wr .i64 n) := by
  simp only [wr, IntKind.wrap, IntKind.bits, IntKind.signed, Bool.true_and, inR]
  split <;> rename_i h <;> simp at h <;> omega
theorem wr_inR_eq {n : Int} (h : inR n) : wr .i64 n = n := wr64 h.1 h.2

/-- The sum of what fields weigh, from a number on. -/
def sumW (res : List UInt8) : List GateField → List (List UInt8) → Int → Int
  | f :: fs, v :: vs, n => sumW res fs vs (if f.Kind = 1 ∧ f.Weighs = res then wr .i64 (n + (num v).getD 0) else n)
  | _, _, n => n

theorem sumS_l {r : List GateField × Bool} {o : GateObject} {res : List UInt8} (hl : r.1.length = o.Values.length) (hm : o.Values.length ≤ maxLen) : ∀ (m i : Nat) (n : Int), i + m = r.1.length → inR n →
    Yd (fun k => spec_GateWeighs.l0 r o res k n (i : Int)) (.inr (sumW res (r.1.drop i) (o.Values.drop i) n))
  | 0, i, n, h, hn => by
    refine Yd.succ ?_
    simp only [spec_GateWeighs.l0]
    refine Yd.ifn (by omega) ?_
    rw [drop_end (by omega)]
    exact Yd.pure
  | m + 1, i, n, h, hn => by
    have hi : i < r.1.length := by omega
    have hx := max_eq
    have next : ∀ n', inR n' → Yd (fun k => spec_GateWeighs.l0 r o res k n' ((i : Int) + 1)) (.inr (sumW res (r.1.drop (i + 1)) (o.Values.drop (i + 1)) n')) := fun n' h' => by
      exact_mod_cast sumS_l hl hm m (i + 1) n' (by omega) h'
    refine Yd.succ ?_
    simp only [spec_GateWeighs.l0, Int.toNat_natCast]
    rw [drop_cons hi, drop_cons (show i < o.Values.length by omega), sumW, wr64 (n := (i : Int) + 1) (by omega) (by omega)]
    refine Yd.ifp (by omega) (Yd.ifp (by omega) (Yd.bind (numS_y _) (Yd.ifp (by omega) (Yd.ite (fun h1 => Yd.ifp (by omega) (Yd.ite (fun h2 => ?_) fun h2 => ?_)) fun h1 => ?_))))
    · have e1 : (r.1.getD i default).Kind = 1 := beq_iff_eq.1 h1
      have e2 : (r.1.getD i default).Weighs = res := beq_iff_eq.1 h2
      rw [if_pos ⟨e1, e2⟩]
      cases hv : num (o.Values.getD i default) with
      | none =>
        have e : wr .i64 (n + (none : Option Int).getD 0) = n := by rw [Option.getD_none, Int.add_zero, wr_inR_eq hn]
        rw [e]
        exact Yd.ifn (by simp) (next n hn)
      | some v =>
        have h0 := num_le hv
        rw [Option.getD_some, Option.getD_some]
        refine Yd.ite (fun _ => next _ (wr_inR _)) fun h3 => ?_
        have : v = 0 := by omega
        rw [this, Int.add_zero, wr_inR_eq hn]
        exact next n hn
    · have e2 : ¬ (r.1.getD i default).Weighs = res := fun e => h2 (beq_iff_eq.2 e)
      rw [if_neg (fun hh => e2 hh.2)]
      exact next n hn
    · have e1 : ¬ (r.1.getD i default).Kind = 1 := fun e => h1 (beq_iff_eq.2 e)
      rw [if_neg (fun hh => e1 hh.1)]
      exact next n hn

theorem sumI_l {r : List GateField × Bool} {o : GateObject} {res : List UInt8} (hl : r.1.length = o.Values.length) (hm : o.Values.length ≤ maxLen) : ∀ (m i : Nat) (n : Int), i + m = r.1.length → inR n →
    Yd (fun k => impl_GateWeighs.l0 r res o k n (i : Int)) (.inr (sumW res (r.1.drop i) (o.Values.drop i) n))
  | 0, i, n, h, hn => by
    refine Yd.succ ?_
    simp only [impl_GateWeighs.l0]
    refine Yd.ifn (by omega) ?_
    rw [drop_end (by omega)]
    exact Yd.pure
  | m + 1, i, n, h, hn => by
    have hi : i < r.1.length := by omega
    have hx := max_eq
    have next : ∀ n', inR n' → Yd (fun k => impl_GateWeighs.l0 r res o k n' ((i : Int) + 1)) (.inr (sumW res (r.1.drop (i + 1)) (o.Values.drop (i + 1)) n')) := fun n' h' => by
      exact_mod_cast sumI_l hl hm m (i + 1) n' (by omega) h'
    refine Yd.succ ?_
    simp only [impl_GateWeighs.l0, Int.toNat_natCast]
    rw [drop_cons hi, drop_cons (show i < o.Values.length by omega), sumW, wr64 (n := (i : Int) + 1) (by omega) (by omega)]
    refine Yd.ifp (by omega) (Yd.ifp (by omega) (Yd.ite (fun h1 => ?_) fun h1 => Yd.ite (fun h2 => ?_) fun h2 => ?_))
    · have e1 : ¬ (r.1.getD i default).Kind = 1 := bne_iff_ne.1 h1
      rw [if_neg (fun hh => e1 hh.1)]
      exact next n hn
    · have e2 : ¬ (r.1.getD i default).Weighs = res := fun e => by rw [beq_iff_eq.2 e] at h2; cases h2
      rw [if_neg (fun hh => e2 hh.2)]
      exact next n hn
    · have e1 : (r.1.getD i default).Kind = 1 := Decidable.not_not.1 fun e => h1 (bne_iff_ne.2 e)
      have e2 : (r.1.getD i default).Weighs = res := Decidable.not_not.1 fun e => h2 (by rw [beq_eq_false_iff_ne.2 e]; rfl)
      rw [if_pos ⟨e1, e2⟩]
      exact Yd.ifp (by omega) (Yd.bind (numI_y _) (next _ (wr_inR _)))

def weighsB (l : GateLaw) (o : GateObject) (res : List UInt8) : Int :=
  if (fieldsB l.Shapes o).2 = true ∧ ¬ res = [] then sumW res (fieldsB l.Shapes o).1 o.Values (if res = o.Kind then 1 else 0) else 0

theorem weighsS_y {l : GateLaw} {o : GateObject} (res : List UInt8) (h1 : l.Shapes.length ≤ maxLen) (h2 : o.Values.length ≤ maxLen) : Yd (fun k => spec_GateWeighs k l o res) (weighsB l o res) := by
  unfold spec_GateWeighs weighsB
  refine Yd.bind (fieldsS_y o h1) (Yd.ite (fun h => Yd.to Yd.pure ?_) fun h => Yd.ite (fun h' => Yd.to Yd.pure ?_) fun h' => Yd.bind (a := if res = o.Kind then 1 else 0) ?_ ?_)
  · rw [if_neg (fun hh => by rw [hh.1] at h; cases h)]
  · rw [if_neg (fun hh => hh.2 (by simpa using h'))]
  · refine Yd.ite (fun e => Yd.to Yd.pure ?_) fun e => Yd.to Yd.pure ?_
    · rw [if_pos (by simpa using e)]
    · rw [if_neg (by simpa using e)]
  · have hf : (fieldsB l.Shapes o).2 = true := by simpa using h
    have hl := fieldsB_len hf
    have hc : (fieldsB l.Shapes o).2 = true ∧ ¬ res = [] := ⟨hf, by simpa using h'⟩
    rw [if_pos hc]
    have := sumS_l (res := res) hl h2 (fieldsB l.Shapes o).1.length 0 (if res = o.Kind then 1 else 0) (by omega) (by unfold inR; split <;> omega)
    rw [List.drop_zero, List.drop_zero] at this
    refine Yd.bind (by exact_mod_cast this) ?_
    exact Yd.pure
theorem weighsI_y {l : GateLaw} {o : GateObject} (res : List UInt8) (h1 : l.Shapes.length ≤ maxLen) (h2 : o.Values.length ≤ maxLen) : Yd (fun k => impl_GateWeighs k l o res) (weighsB l o res) := by
  unfold impl_GateWeighs weighsB
  refine Yd.bind (fieldsI_y o h1) (Yd.ite (fun h => Yd.to Yd.pure ?_) fun h => Yd.ite (fun h' => Yd.to Yd.pure ?_) fun h' => Yd.bind (a := if res = o.Kind then 1 else 0) ?_ ?_)
  · rw [if_neg (fun hh => by rw [hh.1] at h; cases h)]
  · rw [if_neg (fun hh => hh.2 (by simpa using h'))]
  · refine Yd.ite (fun e => Yd.to Yd.pure ?_) fun e => Yd.to Yd.pure ?_
    · rw [if_pos (by simpa using e)]
    · rw [if_neg (by simpa using e)]
  · have hf : (fieldsB l.Shapes o).2 = true := by simpa using h
    have hl := fieldsB_len hf
    have hc : (fieldsB l.Shapes o).2 = true ∧ ¬ res = [] := ⟨hf, by simpa using h'⟩
    rw [if_pos hc]
    have := sumI_l (res := res) hl h2 (fieldsB l.Shapes o).1.length 0 (if res = o.Kind then 1 else 0) (by omega) (by unfold inR; split <;> omega)
    rw [List.drop_zero, List.drop_zero] at this
    refine Yd.bind (by exact_mod_cast this) ?_
    exact Yd.pure

end Go.Proofs.Ytkfdfapickladaa.Pu
