/- Places in lists. No condition. -/
import Derived.Test.YtnhkbghbllbknaaDoorPwB
namespace Go.Proofs.YtnhkbghbllbknaaDoor.Pu
open Go Go.RowKit Go.Proofs.YtnhkbghbllbknaaDoor.Abs Go.Proofs.YtnhkbghbllbknaaDoor.Fn

abbrev Nm := List UInt8

/-! ### Places -/

section
variable {α : Type} {x : List α} {B : Nat} {p : α → Bool}
/-- The place of the first that passes, -1 if none does. -/
def gidx (p : α → Bool) : List α → Nat → Int
  | [], _ => -1
  | a :: r, i => cond (p a) (i : Int) (gidx p r (i + 1))
theorem loop_gidx {l : Nat → Int → Option Int} (he : ∀ k, l (k + 1) (x.length : Int) = some (-1))
    (h : ∀ k i (hi : i < x.length), l (k + 1) (i : Int) = cond (p x[i]) (some (i : Int)) (l k ((i + 1 : Nat) : Int))) (k : Nat) (hk : x.length + 1 ≤ k) : l k 0 = some (gidx p x 0) := by
  have go : ∀ m i k, i + m = x.length → m + 1 ≤ k → l k (i : Int) = some (gidx p (x.drop i) i) := by
    intro m
    induction m with
    | zero =>
      intro i k h1 h2
      obtain rfl : i = x.length := by omega
      obtain ⟨k, rfl⟩ : ∃ j, k = j + 1 := ⟨k - 1, by omega⟩
      simp [he, gidx]
    | succ m ih =>
      intro i k h1 h2
      obtain ⟨k, rfl⟩ : ∃ j, k = j + 1 := ⟨k - 1, by omega⟩
      have hi : i < x.length := by omega
      rw [h k i hi, List.drop_eq_getElem_cons hi]
      simp only [gidx]
      cases p x[i] with
      | true => rfl
      | false => exact ih (i + 1) k (by omega) (by omega)
  have := go x.length 0 k (by omega) (by omega)
  simpa using this
theorem gidx_from : ∀ (y : List α) (i : Nat), (gidx p y i = -1 ∧ y.find? p = none) ∨ ∃ j, ∃ h : j < y.length, gidx p y i = ((i + j : Nat) : Int) ∧ y.find? p = some y[j] ∧ p y[j] = true
  | [], i => .inl ⟨rfl, rfl⟩
  | a :: r, i => by
    simp only [gidx, List.find?_cons]
    cases ha : p a with
    | true => exact .inr ⟨0, by simp, by simp, by simp, ha⟩
    | false =>
      rcases gidx_from r (i + 1) with ⟨h1, h2⟩ | ⟨j, hj, h1, h2, h3⟩
      · exact .inl ⟨h1, h2⟩
      · exact .inr ⟨j + 1, by simpa using hj, by simp only [cond_false, h1]; congr 1; omega, by simpa using h2, by simpa using h3⟩
theorem gidx_find (p : α → Bool) (x : List α) : (gidx p x 0 = -1 ∧ x.find? p = none) ∨ ∃ j, ∃ h : j < x.length, gidx p x 0 = (j : Int) ∧ x.find? p = some x[j] ∧ p x[j] = true := by
  rcases gidx_from (p := p) x 0 with h | ⟨j, hj, h1, h2⟩
  · exact .inl h
  · exact .inr ⟨j, hj, by simpa using h1, h2⟩
end
section
variable {α R : Type} {x : List α} {B : Nat}
theorem loop_find {p : α → Bool} {l : Nat → Int → R} {E : R} {O : α → R} (he : ∀ k, l (k + 1) (x.length : Int) = E)
    (h : ∀ k i (hi : i < x.length), B ≤ k → l (k + 1) (i : Int) = cond (p x[i]) (O x[i]) (l k ((i + 1 : Nat) : Int))) (k : Nat) (hk : B + x.length + 1 ≤ k) : l k 0 = (match x.find? p with | some a => O a | none => E) := by
  have go : ∀ m i k, i + m = x.length → B + m + 1 ≤ k → l k (i : Int) = (match (x.drop i).find? p with | some a => O a | none => E) := by
    intro m
    induction m with
    | zero =>
      intro i k h1 h2
      obtain rfl : i = x.length := by omega
      obtain ⟨k, rfl⟩ : ∃ j, k = j + 1 := ⟨k - 1, by omega⟩
      simp [he]
    | succ m ih =>
      intro i k h1 h2
      obtain ⟨k, rfl⟩ : ∃ j, k = j + 1 := ⟨k - 1, by omega⟩
      have hi : i < x.length := by omega
      rw [h k i hi (by omega), List.drop_eq_getElem_cons hi, List.find?_cons]
      cases p x[i] with
      | true => rfl
      | false => exact ih (i + 1) k (by omega) (by omega)
  have := go x.length 0 k (by omega) (by omega)
  simpa using this
end

section
variable {α β R : Type} {x : List α} {B : Nat}
/-- The first that tells of something. -/
def first (g : Nat → α → Option β) : List α → Nat → Option β
  | [], _ => none
  | a :: r, i => match g i a with
    | some c => some c
    | none => first g r (i + 1)
theorem loop_first {g : Nat → α → Option β} {l : Nat → Int → R} {E : R} {O : β → R} (he : ∀ k, l (k + 1) (x.length : Int) = E)
    (h : ∀ k i (hi : i < x.length), B ≤ k → l (k + 1) (i : Int) = (match g i x[i] with | some c => O c | none => l k ((i + 1 : Nat) : Int))) (k : Nat) (hk : B + x.length + 1 ≤ k) : l k 0 = (match first g x 0 with | some c => O c | none => E) := by
  have go : ∀ m i k, i + m = x.length → B + m + 1 ≤ k → l k (i : Int) = (match first g (x.drop i) i with | some c => O c | none => E) := by
    intro m
    induction m with
    | zero =>
      intro i k h1 h2
      obtain rfl : i = x.length := by omega
      obtain ⟨k, rfl⟩ : ∃ j, k = j + 1 := ⟨k - 1, by omega⟩
      simp [he, first]
    | succ m ih =>
      intro i k h1 h2
      obtain ⟨k, rfl⟩ : ∃ j, k = j + 1 := ⟨k - 1, by omega⟩
      have hi : i < x.length := by omega
      rw [h k i hi (by omega), List.drop_eq_getElem_cons hi]
      simp only [first]
      cases g i x[i] with
      | some c => rfl
      | none => exact ih (i + 1) k (by omega) (by omega)
  have := go x.length 0 k (by omega) (by omega)
  simpa using this
theorem first_ext {g g' : Nat → α → Option β} : ∀ (y : List α) (i : Nat), (∀ j a, y[j]? = some a → g (i + j) a = g' (i + j) a) → first g y i = first g' y i
  | [], _, _ => rfl
  | a :: r, i, h => by
    simp only [first]
    have h0 := h 0 a rfl
    rw [Nat.add_zero] at h0
    have hr := first_ext (g := g) (g' := g') r (i + 1) fun j b hb => by have := h (j + 1) b (by simpa using hb); rwa [show i + (j + 1) = i + 1 + j by omega] at this
    rw [h0, hr]
end
end Go.Proofs.YtnhkbghbllbknaaDoor.Pu
