/- Plain words: neighbours in a list; maps of texts. No condition. -/
import Derived.Test.YtnhkbghbllbknaaDoorPwF
namespace Go.Proofs.YtnhkbghbllbknaaDoor.Pu
open Go Go.RowKit Go.Proofs.YtnhkbghbllbknaaDoor.Abs Go.Proofs.YtnhkbghbllbknaaDoor.Fn

section
variable {α R S : Type} {x : List α} {B : Nat}
/-- Each with the one ahead of it. -/
def chain (p : Option α → α → Bool) : Option α → List α → Bool
  | _, [] => true
  | q, a :: r => p q a && chain p (some a) r
def ahead (x : List α) (i : Nat) : Option α := if i = 0 then none else x[i - 1]?
theorem ahead_0 : ahead x 0 = none := rfl
theorem ahead_s {i : Nat} (h : 0 < i) (hi : i < x.length) : ahead x i = some (x[i - 1]'(by omega)) := by
  unfold ahead
  rw [if_neg (by omega)]
  exact List.getElem?_eq_getElem _
theorem loop_chain {p : Option α → α → Bool} {l : Nat → Int → R} {E O : R} (he : ∀ k, l (k + 1) (x.length : Int) = E)
    (h : ∀ k i (hi : i < x.length), B ≤ k → l (k + 1) (i : Int) = cond (p (ahead x i) x[i]) (l k ((i + 1 : Nat) : Int)) O) (k : Nat) (hk : B + x.length + 1 ≤ k) : l k 0 = cond (chain p none x) E O := by
  have go : ∀ m i k, i + m = x.length → B + m + 1 ≤ k → l k (i : Int) = cond (chain p (ahead x i) (x.drop i)) E O := by
    intro m
    induction m with
    | zero =>
      intro i k h1 h2
      obtain rfl : i = x.length := by omega
      obtain ⟨k, rfl⟩ : ∃ j, k = j + 1 := ⟨k - 1, by omega⟩
      simp [he, chain]
    | succ m ih =>
      intro i k h1 h2
      obtain ⟨k, rfl⟩ : ∃ j, k = j + 1 := ⟨k - 1, by omega⟩
      have hi : i < x.length := by omega
      rw [h k i hi (by omega), List.drop_eq_getElem_cons hi]
      have e : some x[i] = ahead x (i + 1) := by simp [ahead]
      simp only [chain, e]
      cases p (ahead x i) x[i] with
      | true => simpa using ih (i + 1) k (by omega) (by omega)
      | false => rfl
  have := go x.length 0 k (by omega) (by omega)
  simpa [ahead] using this
theorem chain_and {p q : Option α → α → Bool} : ∀ (y : List α) (o : Option α), chain (fun o a => p o a && q o a) o y = (chain p o y && chain q o y)
  | [], _ => rfl
  | a :: r, o => by
    simp only [chain, chain_and r]
    cases p o a <;> cases q o a <;> cases chain p (some a) r <;> rfl
theorem chain_all {p : α → Bool} : ∀ (y : List α) (o : Option α), chain (fun _ a => p a) o y = y.all p
  | [], _ => rfl
  | a :: r, o => by simp only [chain, chain_all r, List.all_cons]
theorem chain_map {β : Type} {f : α → β} {p : Option β → β → Bool} : ∀ (y : List α) (o : Option α), chain p (o.map f) (y.map f) = chain (fun o a => p (o.map f) (f a)) o y
  | [], _ => rfl
  | a :: r, o => by simp only [List.map_cons, chain]; rw [← chain_map r]; rfl

theorem mput_nil {p : α → Bool} {y : α} : mput p [] y = [y] := rfl
theorem mput_cons {p : α → Bool} {a y : α} {l : List α} : mput p (a :: l) y = cond (p a) (y :: l) (a :: mput p l y) := by
  unfold mput
  rw [List.findIdx?_cons]
  cases p a with
  | true => rfl
  | false => cases h : l.findIdx? p <;> simp [h]
theorem mget_cons {β : Type} {p : α → Bool} {f : α → β} {d : β} {a : α} {l : List α} : mget p f d (a :: l) = cond (p a) (f a) (mget p f d l) := by
  unfold mget
  rw [List.find?_cons]
  cases p a <;> rfl
theorem mhas_cons {p : α → Bool} {a : α} {l : List α} : mhas p (a :: l) = (p a || mhas p l) := by
  unfold mhas
  rw [List.findIdx?_cons]
  cases p a <;> cases l.findIdx? p <;> rfl
theorem seq_iff {a b : List UInt8} : seq a b = true ↔ a = b := by simp [seq]
theorem seq_comm (a b : List UInt8) : seq a b = seq b a := by
  rw [Bool.eq_iff_iff, seq_iff, seq_iff]; exact eq_comm
theorem mget_mput {β : Type} {key : α → List UInt8} {f : α → β} {d : β} {y : α} {n : List UInt8} : ∀ {l : List α}, mget (fun p => seq n (key p)) f d (mput (fun p => seq (key y) (key p)) l y) = cond (seq n (key y)) (f y) (mget (fun p => seq n (key p)) f d l)
  | [] => by rw [mput_nil, mget_cons]
  | a :: l => by
    rw [mput_cons]
    cases h : seq (key y) (key a) with
    | true =>
      have e := seq_iff.1 h
      rw [cond_true, mget_cons, mget_cons, ← e]
      cases seq n (key y) <;> rfl
    | false =>
      rw [cond_false, mget_cons, mget_cons, mget_mput]
      cases h1 : seq n (key a) with
      | false => rfl
      | true =>
        have e := seq_iff.1 h1
        subst e
        rw [show seq (key a) (key y) = false by rw [seq_comm]; exact h]; rfl
theorem mhas_mput {key : α → List UInt8} {y : α} {n : List UInt8} : ∀ {l : List α}, mhas (fun p => seq n (key p)) (mput (fun p => seq (key y) (key p)) l y) = (seq n (key y) || mhas (fun p => seq n (key p)) l)
  | [] => by rw [mput_nil, mhas_cons]
  | a :: l => by
    rw [mput_cons]
    cases h : seq (key y) (key a) with
    | true =>
      have e := seq_iff.1 h
      rw [cond_true, mhas_cons, mhas_cons, ← e]
      cases seq n (key y) <;> rfl
    | false =>
      rw [cond_false, mhas_cons, mhas_cons, mhas_mput]
      cases seq n (key a) <;> cases seq n (key y) <;> rfl
end
def ascP (q : Option (List UInt8)) (s : List UInt8) : Bool := nameOk s && (match q with | none => true | some p => slt p s)
def ascend (xs : List (List UInt8)) : Bool := chain ascP none xs

end Go.Proofs.YtnhkbghbllbknaaDoor.Pu
