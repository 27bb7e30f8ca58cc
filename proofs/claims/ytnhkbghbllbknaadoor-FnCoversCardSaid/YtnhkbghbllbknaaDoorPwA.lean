/- Plain words, told as equations for enough fuel: loops over lists. No condition. -/
import Derived.Test.YtnhkbghbllbknaaDoorPvSz
namespace Go.Proofs.YtnhkbghbllbknaaDoor.Pu
open Go Go.RowKit Go.Proofs.YtnhkbghbllbknaaDoor.Abs Go.Proofs.YtnhkbghbllbknaaDoor.Fn

theorem Yd.ofE {α : Type} {F : Nat → Option α} {a : α} (B : Nat) (h : ∀ k, B ≤ k → F k = some a) : Yd F a := ⟨B, h⟩
theorem req_t {R : Type} (x : Option R) : req true x = x := rfl
theorem sumC_l {α β γ : Type} (x : α) (f : α → γ) (g : β → γ) : sumC (.inl x) f g = f x := rfl
theorem sumC_r {α β γ : Type} (x : β) (f : α → γ) (g : β → γ) : sumC (.inr x) f g = g x := rfl
theorem share_e {α β : Type} (x : α) (f : α → β) : share x f = f x := rfl
theorem ilt_n {i n : Nat} (h : i < n) : ilt (i : Int) (n : Int) = true := ilt_t (by omega)
theorem ilt_e {n : Nat} : ilt (n : Int) (n : Int) = false := ilt_f (by omega)
theorem inb_n {i n : Nat} (h : i < n) : inb (i : Int) n = true := inb_t (by omega) (by omega)
theorem iadd_n {i n : Nat} (hn : n ≤ 1048576) (h : i < n) : iadd .i64 (i : Int) 1 = ((i + 1 : Nat) : Int) := by
  rw [iaddn (by omega) (by omega)]; norm_cast
theorem isub_n {i : Nat} (h0 : 0 < i) (hi : i ≤ 1048576) : isub .i64 (i : Int) 1 = ((i - 1 : Nat) : Int) := by
  rw [isubn (by omega) (by omega)]; omega
theorem ilt_0 {i : Nat} (h : 0 < i) : ilt 0 (i : Int) = true := ilt_t (by omega)
theorem ilt_00 : ilt 0 ((0 : Nat) : Int) = false := rfl
theorem max_sd {n : Nat} (h : n ≤ 1048576) : n ≤ maxLen := by have := max_eq; omega
theorem mem_i {α : Type} {x : List α} {i : Nat} (h : i < x.length) : x[i] ∈ x := List.getElem_mem h
theorem nth_i {α : Type} {d : α} {x : List α} {i : Nat} (hi : i < x.length) : nth d x (i : Int) = x[i] := nth_get hi

section
variable {α R S : Type} {x : List α} {B : Nat}

/-- One is found, or none. -/
theorem loop_any {p : α → Bool} {l : Nat → Int → R} {E O : R} (he : ∀ k, l (k + 1) (x.length : Int) = E)
    (h : ∀ k i (hi : i < x.length), B ≤ k → l (k + 1) (i : Int) = cond (p x[i]) O (l k ((i + 1 : Nat) : Int))) (k : Nat) (hk : B + x.length + 1 ≤ k) : l k 0 = cond (x.any p) O E := by
  have go : ∀ m i k, i + m = x.length → B + m + 1 ≤ k → l k (i : Int) = cond ((x.drop i).any p) O E := by
    intro m
    induction m with
    | zero =>
      intro i k h1 h2
      obtain rfl : i = x.length := by omega
      obtain ⟨k, rfl⟩ : ∃ j, k = j + 1 := ⟨k - 1, by omega⟩
      simp [he]
    | succ m ih =>
      intro i k h1 h2
      obtain ⟨k, rfl⟩ : ∃ j, k = j + 1 := ⟨k - 1, by omega⟩
      have hi : i < x.length := by omega
      rw [h k i hi (by omega), List.drop_eq_getElem_cons hi, List.any_cons]
      cases p x[i] with
      | true => rfl
      | false => simpa using ih (i + 1) k (by omega) (by omega)
  have := go x.length 0 k (by omega) (by omega)
  simpa using this
/-- All pass, or it ends early. -/
theorem loop_all {p : α → Bool} {l : Nat → Int → R} {E O : R} (he : ∀ k, l (k + 1) (x.length : Int) = E)
    (h : ∀ k i (hi : i < x.length), B ≤ k → l (k + 1) (i : Int) = cond (p x[i]) (l k ((i + 1 : Nat) : Int)) O) (k : Nat) (hk : B + x.length + 1 ≤ k) : l k 0 = cond (x.all p) E O := by
  have := loop_any (p := fun a => !p a) (l := l) (E := E) (O := O) he (fun k i hi hb => by rw [h k i hi hb]; cases p x[i] <;> rfl) k hk
  rw [this]
  have e : (x.any fun a => !p a) = !x.all p := by simp [List.any_eq_not_all_not]
  rw [e]; cases x.all p <;> rfl

/-- A state carried over a list; an early end. -/
def scan (f : S → Nat → α → S ⊕ R) : List α → Nat → S → S ⊕ R
  | [], _, s => .inl s
  | a :: r, i, s => match f s i a with
    | .inl s' => scan f r (i + 1) s'
    | .inr y => .inr y
def fin (J : S → R) : S ⊕ R → R
  | .inl s => J s
  | .inr y => y
theorem loop_scan_from {l : Nat → S → Int → R} {J : S → R} {f : S → Nat → α → S ⊕ R} (I : Nat → S → Prop)
    (he : ∀ k s, I x.length s → l (k + 1) s (x.length : Int) = J s)
    (h : ∀ k i s (hi : i < x.length), B ≤ k → I i s → l (k + 1) s (i : Int) = fin (fun s' => l k s' ((i + 1 : Nat) : Int)) (f s i x[i]) ∧ ∀ s', f s i x[i] = .inl s' → I (i + 1) s') :
    ∀ m i k s, i + m = x.length → B + m + 1 ≤ k → I i s → l k s (i : Int) = fin J (scan f (x.drop i) i s) := by
  intro m
  induction m with
  | zero =>
    intro i k s h1 h2 h3
    obtain rfl : i = x.length := by omega
    obtain ⟨k, rfl⟩ : ∃ j, k = j + 1 := ⟨k - 1, by omega⟩
    rw [he k s h3, List.drop_length]; rfl
  | succ m ih =>
    intro i k s h1 h2 h3
    obtain ⟨k, rfl⟩ : ∃ j, k = j + 1 := ⟨k - 1, by omega⟩
    have hi : i < x.length := by omega
    obtain ⟨h4, h5⟩ := h k i s hi (by omega) h3
    rw [h4, List.drop_eq_getElem_cons hi]
    simp only [scan]
    cases hf : f s i x[i] with
    | inl s' => exact ih (i + 1) k s' (by omega) (by omega) (h5 s' hf)
    | inr y => rfl
theorem loop_scan {l : Nat → S → Int → R} {J : S → R} {f : S → Nat → α → S ⊕ R} (I : Nat → S → Prop)
    (he : ∀ k s, I x.length s → l (k + 1) s (x.length : Int) = J s)
    (h : ∀ k i s (hi : i < x.length), B ≤ k → I i s → l (k + 1) s (i : Int) = fin (fun s' => l k s' ((i + 1 : Nat) : Int)) (f s i x[i]) ∧ ∀ s', f s i x[i] = .inl s' → I (i + 1) s')
    (k : Nat) (s : S) (hk : B + x.length + 1 ≤ k) (h0 : I 0 s) : l k s 0 = fin J (scan f x 0 s) := by
  have := loop_scan_from I he h x.length 0 k s (by omega) hk h0
  simpa using this
/-- A state carried over a list. -/
theorem loop_fold {l : Nat → S → Int → R} {J : S → R} {f : S → α → S} (I : Nat → S → Prop)
    (he : ∀ k s, I x.length s → l (k + 1) s (x.length : Int) = J s)
    (h : ∀ k i s (hi : i < x.length), B ≤ k → I i s → l (k + 1) s (i : Int) = l k (f s x[i]) ((i + 1 : Nat) : Int) ∧ I (i + 1) (f s x[i]))
    (k : Nat) (s : S) (hk : B + x.length + 1 ≤ k) (h0 : I 0 s) : l k s 0 = J (x.foldl f s) := by
  have := loop_scan (f := fun s _ a => .inl (f s a)) I he (fun k i s hi hb h0 => ⟨(h k i s hi hb h0).1, fun s' e => by cases e; exact (h k i s hi hb h0).2⟩) k s hk h0
  rw [this]
  have e : ∀ (y : List α) i s, scan (R := R) (fun s _ a => .inl (f s a)) y i s = .inl (y.foldl f s) := by
    intro y
    induction y with
    | nil => intro i s; rfl
    | cons a r ih => intro i s; simp only [scan, List.foldl_cons]; exact ih _ _
  rw [e]; rfl
end

/-- A byte as a number. -/
def bt (c : UInt8) : Int := (c.toNat : Int)
theorem bt_range (c : UInt8) : 0 ≤ bt c ∧ bt c ≤ 255 := by
  have := c.toNat_lt
  simp only [bt]; omega
theorem sidx_get {s : List UInt8} {i : Nat} (h : i < s.length) : sidx s (i : Int) = bt s[i] := by
  simp only [sidx, Int.toNat_natCast, List.getD, bt]
  rw [List.getElem?_eq_getElem h]; rfl
theorem appB_t {n b : Nat} (hn : n ≤ 16777216) (hb : b ≤ 100000) : appB n b = true := by
  have h1 : n * b ≤ 16777216 * 100000 := Nat.mul_le_mul hn hb
  simp only [appB, Bool.and_eq_true, decide_eq_true_eq]
  omega

end Go.Proofs.YtnhkbghbllbknaaDoor.Pu
