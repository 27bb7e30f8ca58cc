/- The laws' own functions on data, in general: what takes a size away, what copies, what compares. No condition. -/
import Derived.Test.YtkfdfapickladaaFnFd
import Derived.Test.YtkfdfapickladaaPuA
namespace Go.Proofs.Ytkfdfapickladaa.Pu
open Go Go.RowKit Go.Proofs.Ytkfdfapickladaa.Abs Go.Proofs.Ytkfdfapickladaa.Fn

theorem wrn {n : Int} (h0 : -9223372036854775808 ≤ n) (h1 : n ≤ 9223372036854775807) : wr .i64 n = n := wrap_id h0 h1

def sdS {α : Type} (p : α → Prop) (xs : List α) : Prop := xs.length ≤ 1048576 ∧ ∀ x, x ∈ xs → p x
def sdStr (s : List UInt8) : Prop := s.length ≤ 1048576
def sdAny {α : Type} (_ : α) : Prop := True

/-- It takes something away; where something is left, P holds. -/
def SzY (F : Nat → Option Int) (n : Int) (P : Prop) : Prop := ∃ v, Yd F v ∧ v ≤ n ∧ (0 ≤ v → P)

section
variable {n : Int} {P P1 : Prop}
theorem SzY.done (h : P) : SzY (fun _ => some n) n P := ⟨n, Yd.pure, Int.le_refl _, fun _ => h⟩
theorem SzY.imp {F : Nat → Option Int} (h : SzY F n P1) (hp : P1 → P) : SzY F n P :=
  let ⟨v, h1, h2, h3⟩ := h; ⟨v, h1, h2, fun h => hp (h3 h)⟩
theorem SzY.str {L : Nat} {G : Nat → Option Int} (h0 : 0 ≤ n) (hn : n ≤ 1048576) (hL : L ≤ maxLen)
    (rest : 0 ≤ wr .i64 (n - (L : Int)) → wr .i64 (n - (L : Int)) ≤ 1048576 → L ≤ 1048576 → SzY G (wr .i64 (n - (L : Int))) P) :
    SzY (fun k => if wr .i64 (n - (L : Int)) < 0 then some (-1) else G k) n P := by
  have hm := max_eq
  have e : wr .i64 (n - (L : Int)) = n - L := wrn (by omega) (by omega)
  by_cases c : wr .i64 (n - (L : Int)) < 0
  · exact ⟨-1, Yd.ifp c Yd.pure, by omega, by omega⟩
  · obtain ⟨v, h1, h2, h3⟩ := rest (by omega) (by omega) (by omega)
    exact ⟨v, Yd.ifn c h1, by omega, h3⟩
theorem SzY.call {F : Nat → Option Int} {G : Nat → Int → Option Int} (h : SzY F n P1) (h0 : 0 ≤ n) (hn : n ≤ 1048576) (rest : ∀ v, 0 ≤ v → v ≤ 1048576 → v ≤ n → P1 → SzY (fun k => G k v) v P) :
    SzY (fun k => (F k).bind fun v => if v < 0 then some (-1) else G k v) n P := by
  obtain ⟨v, h1, h2, h3⟩ := h
  by_cases c : v < 0
  · exact ⟨-1, Yd.bind h1 (Yd.ifp c Yd.pure), by omega, by omega⟩
  · obtain ⟨u, k1, k2, k3⟩ := rest v (by omega) (by omega) h2 (h3 (by omega))
    exact ⟨u, Yd.bind h1 (Yd.ifn c k1), by omega, k3⟩
theorem SzY.last {F : Nat → Option Int} (h : SzY F n P1) (hp : P1 → P) : SzY (fun k => (F k).bind fun v => some v) n P := by
  obtain ⟨v, h1, h2, h3⟩ := h
  exact ⟨v, Yd.bind h1 Yd.pure, h2, fun h => hp (h3 h)⟩

variable {α : Type} [Inhabited α] {x : List α} {p : α → Prop}

theorem mem_at {i : Nat} (hi : i < x.length) : x.getD i default ∈ x := by
  simp only [List.getD]; rw [List.getElem?_eq_getElem hi]; exact List.getElem_mem hi

/-- The loop over a slice. -/
theorem szS_loop {F : Nat → α → Int → Option Int} {l : Nat → Int → Int → Option (Int ⊕ Int)} (hx : x.length ≤ maxLen)
    (hl : ∀ k v i, l (k + 1) v i = if i < (x.length : Int) then (if 0 ≤ i ∧ i < (x.length : Int) then ((F k (x.getD i.toNat default) v).bind fun r => if r < 0 then some (.inl (-1)) else l k r (wr .i64 (i + 1))) else none) else some (.inr v))
    (hF : ∀ y, y ∈ x → ∀ n, 0 ≤ n → n ≤ 1048576 → SzY (fun k => F k y n) n (p y)) : ∀ (m i : Nat) (n : Int), i + m = x.length → n ≤ 1048576 → 0 ≤ n →
    (Yd (fun k => l k n (i : Int)) (.inl (-1))) ∨ ∃ v, Yd (fun k => l k n (i : Int)) (.inr v) ∧ v ≤ n ∧ 0 ≤ v ∧ ∀ j, i ≤ j → j < x.length → p (x.getD j default) := by
  intro m
  induction m with
  | zero =>
    intro i n h hn h0
    refine .inr ⟨n, Yd.succ ?_, Int.le_refl _, h0, fun j h1 h2 => by omega⟩
    simp only [hl]
    exact Yd.ifn (by omega) Yd.pure
  | succ m ih =>
    intro i n h hn h0
    have hi : i < x.length := by omega
    have hm := max_eq
    obtain ⟨r, k1, k2, k3⟩ := hF _ (mem_at hi) n h0 hn
    by_cases c : r < 0
    · refine .inl (Yd.succ ?_)
      simp only [hl, Int.toNat_natCast]
      exact Yd.ifp (by omega) (Yd.ifp (by omega) (Yd.bind k1 (Yd.ifp c Yd.pure)))
    · have go : ∀ {q}, Yd (fun k => l k r ((i + 1 : Nat) : Int)) q → Yd (fun k => l k n (i : Int)) q := fun hq => by
        refine Yd.succ ?_
        simp only [hl, Int.toNat_natCast]
        refine Yd.ifp (by omega) (Yd.ifp (by omega) (Yd.bind k1 (Yd.ifn c ?_)))
        rw [wrn (by omega) (by omega)]
        exact_mod_cast hq
      rcases ih (i + 1) r (by omega) (by omega) (by omega) with hq | ⟨v, q1, q2, q3, q4⟩
      · exact .inl (go hq)
      · refine .inr ⟨v, go q1, by omega, q3, fun j h1 h2 => ?_⟩
        by_cases e : j = i
        · subst e; exact k3 (by omega)
        · exact q4 j (by omega) h2

theorem szS_y {F : Nat → α → Int → Option Int} {l : Nat → Int → Int → Option (Int ⊕ Int)} {c : Nat → Int ⊕ Int → Option Int} (hx : x.length ≤ maxLen) (hn : n ≤ 1048576) (h0 : 0 ≤ n)
    (hl : ∀ k v i, l (k + 1) v i = if i < (x.length : Int) then (if 0 ≤ i ∧ i < (x.length : Int) then ((F k (x.getD i.toNat default) v).bind fun r => if r < 0 then some (.inl (-1)) else l k r (wr .i64 (i + 1))) else none) else some (.inr v))
    (hc1 : ∀ k v, c k (.inl v) = some v) (hc2 : ∀ k v, c k (.inr v) = some v)
    (hF : ∀ y, y ∈ x → ∀ n, 0 ≤ n → n ≤ 1048576 → SzY (fun k => F k y n) n (p y)) :
    SzY (fun k => if wr .i64 (n - (x.length : Int)) < 0 then some (-1) else (l k (wr .i64 (n - (x.length : Int))) 0).bind (c k)) n (sdS p x) := by
  refine SzY.str h0 hn hx fun a1 a2 a3 => ?_
  rcases szS_loop (p := p) hx hl hF x.length 0 _ (by omega) a2 a1 with hq | ⟨v, q1, q2, q3, q4⟩
  · exact ⟨-1, Yd.bind (by exact_mod_cast hq) (Yd.of fun k => hc1 k _), by omega, by omega⟩
  · refine ⟨v, Yd.bind (by exact_mod_cast q1) (Yd.of fun k => hc2 k _), q2, fun _ => ⟨a3, fun y hy => ?_⟩⟩
    obtain ⟨j, hj, rfl⟩ := List.getElem_of_mem hy
    have := q4 j (Nat.zero_le _) hj
    simpa [List.getD, hj] using this

/-! ### Copies -/

theorem toS_loop {F : Nat → α → Option α} {l : Nat → Int → List α → Option (List α ⊕ List α)} (hx : x.length ≤ maxLen)
    (hl : ∀ k i o, l (k + 1) i o = if i < (x.length : Int) then (if 0 ≤ i ∧ i < (x.length : Int) then ((F k (x.getD i.toNat default)).bind fun r => if 0 ≤ i ∧ i < (o.length : Int) then l k (wr .i64 (i + 1)) (o.set i.toNat r) else none) else none) else some (.inr o))
    (hF : ∀ y, y ∈ x → Yd (fun k => F k y) y) : ∀ (m i : Nat) (o : List α), i + m = x.length → o.length = x.length → o.take i = x.take i → Yd (fun k => l k (i : Int) o) (.inr x)
  | 0, i, o, h, hlen, ht => by
    refine Yd.succ ?_
    simp only [hl]
    refine Yd.ifn (by omega) (Yd.to Yd.pure ?_)
    rw [List.take_of_length_le (by omega), List.take_of_length_le (by omega)] at ht
    rw [ht]
  | m + 1, i, o, h, hlen, ht => by
    have hi : i < x.length := by omega
    refine Yd.succ ?_
    simp only [hl, Int.toNat_natCast]
    refine Yd.ifp (by omega) (Yd.ifp (by omega) (Yd.bind (hF _ (mem_at hi)) (Yd.ifp (by omega) ?_)))
    rw [wrn (by omega) (by have := max_eq; omega)]
    have ht' : (o.set i (x.getD i default)).take (i + 1) = x.take (i + 1) := by
      rw [List.take_succ_eq_append_getElem (by simp; omega), List.take_succ_eq_append_getElem hi, List.take_set_of_le (Nat.le_refl _), ht]
      simp [List.getD, hi]
    exact_mod_cast toS_loop hx hl hF m (i + 1) (o.set i (x.getD i default)) (by omega) (by simp [hlen]) ht'

theorem toS_y {F : Nat → α → Option α} {l : Nat → Int → List α → Option (List α ⊕ List α)} {c : Nat → List α ⊕ List α → Option (List α)} {z : α} {b : Int} (hx : x.length ≤ 1048576) (hb0 : 0 ≤ b) (hb : b ≤ 100000)
    (hl : ∀ k i o, l (k + 1) i o = if i < (x.length : Int) then (if 0 ≤ i ∧ i < (x.length : Int) then ((F k (x.getD i.toNat default)).bind fun r => if 0 ≤ i ∧ i < (o.length : Int) then l k (wr .i64 (i + 1)) (o.set i.toNat r) else none) else none) else some (.inr o))
    (hc : ∀ k v, c k (.inr v) = some v) (hF : ∀ y, y ∈ x → Yd (fun k => F k y) y) :
    Yd (fun k => if 0 ≤ (x.length : Int) ∧ (x.length : Int) ≤ (x.length : Int) ∧ (x.length : Int) * b ≤ 140737488355328 ∧ (x.length : Int) ≤ 140737488355328 then (l k 0 (List.replicate (x.length : Int).toNat z)).bind (c k) else none) x := by
  have h1 : (x.length : Int) * b ≤ 1048576 * 100000 := Int.mul_le_mul (by omega) hb hb0 (by omega)
  refine Yd.ifp ⟨by omega, by omega, by omega, by omega⟩ (Yd.bind (by exact_mod_cast toS_loop (by have := max_eq; omega) hl hF x.length 0 _ (by omega) (by simp) (by simp)) (Yd.of fun k => hc k _))

/-! ### Comparisons -/

theorem eqS_loop {F : Nat → α → α → Option Bool} {l : Nat → Int → Option (Bool ⊕ Unit)} (hx : x.length ≤ maxLen)
    (hl : ∀ k i, l (k + 1) i = if i < (x.length : Int) then (if 0 ≤ i ∧ i < (x.length : Int) then (if 0 ≤ i ∧ i < (x.length : Int) then ((F k (x.getD i.toNat default) (x.getD i.toNat default)).bind fun r => if (!r) = true then some (.inl false) else l k (wr .i64 (i + 1))) else none) else none) else some (.inr ()))
    (hF : ∀ y, y ∈ x → Yd (fun k => F k y y) true) : ∀ m i : Nat, i + m = x.length → Yd (fun k => l k (i : Int)) (.inr ())
  | 0, i, h => by
    refine Yd.succ ?_
    simp only [hl]
    exact Yd.ifn (by omega) Yd.pure
  | m + 1, i, h => by
    refine Yd.succ ?_
    simp only [hl, Int.toNat_natCast]
    refine Yd.ifp (by omega) (Yd.ifp (by omega) (Yd.ifp (by omega) (Yd.bind (hF _ (mem_at (by omega))) (Yd.ifn (by simp) ?_))))
    rw [wrn (by omega) (by have := max_eq; omega)]
    exact_mod_cast eqS_loop hx hl hF m (i + 1) (by omega)
theorem eqS_y {F : Nat → α → α → Option Bool} {l : Nat → Int → Option (Bool ⊕ Unit)} {c : Nat → Bool ⊕ Unit → Option Bool} (hx : x.length ≤ maxLen)
    (hl : ∀ k i, l (k + 1) i = if i < (x.length : Int) then (if 0 ≤ i ∧ i < (x.length : Int) then (if 0 ≤ i ∧ i < (x.length : Int) then ((F k (x.getD i.toNat default) (x.getD i.toNat default)).bind fun r => if (!r) = true then some (.inl false) else l k (wr .i64 (i + 1))) else none) else none) else some (.inr ()))
    (hc : ∀ k, c k (.inr ()) = some true) (hF : ∀ y, y ∈ x → Yd (fun k => F k y y) true) :
    Yd (fun k => if ((x.length : Int) != (x.length : Int)) = true then some false else (l k 0).bind (c k)) true :=
  Yd.ifn (by simp) (Yd.bind (by exact_mod_cast eqS_loop hx hl hF x.length 0 (by omega)) (Yd.of hc))
end

end Go.Proofs.Ytkfdfapickladaa.Pu
