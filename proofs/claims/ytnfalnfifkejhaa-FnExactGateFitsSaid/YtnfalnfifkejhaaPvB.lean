/- Plain words: scans of a list. No condition. -/
import Derived.Test.YtnfalnfifkejhaaPvA
namespace Go.Proofs.Ytnfalnfifkejhaa.Pu
open Go Go.RowKit Go.Proofs.Ytnfalnfifkejhaa.Abs Go.Proofs.Ytnfalnfifkejhaa.Fn

section
variable {α J R : Type} {x : List α} {p : α → Bool} {l : Nat → J → Int → Option R} {E O : J → Option R}

theorem scanAll_from (hend : Lp (fun k j => l k j (x.length : Int)) E) (hgo : ∀ i (h : i < x.length), p x[i] = true → ∀ H, Lp (fun k j => l k j ((i + 1 : Nat) : Int)) H → Lp (fun k j => l k j (i : Int)) H)
    (hstop : ∀ i (h : i < x.length), p x[i] = false → Lp (fun k j => l k j (i : Int)) O) : ∀ m i, i + m = x.length → Lp (fun k j => l k j (i : Int)) (fun j => cond ((x.drop i).all p) (E j) (O j))
  | 0, i, h => by
    obtain rfl : i = x.length := by omega
    simp only [List.drop_length, List.all_nil, cond_true]
    exact hend
  | m + 1, i, h => by
    have hi : i < x.length := by omega
    rw [List.drop_eq_getElem_cons hi, List.all_cons]
    cases hp : p x[i] with
    | false => simp only [Bool.false_and, cond_false]; exact hstop i hi hp
    | true => simp only [Bool.true_and]; exact hgo i hi hp _ (scanAll_from hend hgo hstop m (i + 1) (by omega))
/-- All pass, or it ends early. -/
theorem scanAll (hend : Lp (fun k j => l k j (x.length : Int)) E) (hgo : ∀ i (h : i < x.length), p x[i] = true → ∀ H, Lp (fun k j => l k j ((i + 1 : Nat) : Int)) H → Lp (fun k j => l k j (i : Int)) H)
    (hstop : ∀ i (h : i < x.length), p x[i] = false → Lp (fun k j => l k j (i : Int)) O) : Lp (fun k j => l k j 0) (fun j => cond (x.all p) (E j) (O j)) := by
  have := scanAll_from hend hgo hstop x.length 0 (by omega)
  rw [List.drop_zero] at this
  exact_mod_cast this
theorem scanAny_from (hend : Lp (fun k j => l k j (x.length : Int)) E) (hgo : ∀ i (h : i < x.length), p x[i] = false → ∀ H, Lp (fun k j => l k j ((i + 1 : Nat) : Int)) H → Lp (fun k j => l k j (i : Int)) H)
    (hstop : ∀ i (h : i < x.length), p x[i] = true → Lp (fun k j => l k j (i : Int)) O) : ∀ m i, i + m = x.length → Lp (fun k j => l k j (i : Int)) (fun j => cond ((x.drop i).any p) (O j) (E j))
  | 0, i, h => by
    obtain rfl : i = x.length := by omega
    simp only [List.drop_length, List.any_nil, cond_false]
    exact hend
  | m + 1, i, h => by
    have hi : i < x.length := by omega
    rw [List.drop_eq_getElem_cons hi, List.any_cons]
    cases hp : p x[i] with
    | true => simp only [Bool.true_or, cond_true]; exact hstop i hi hp
    | false => simp only [Bool.false_or]; exact hgo i hi hp _ (scanAny_from hend hgo hstop m (i + 1) (by omega))
/-- One is found, or none. -/
theorem scanAny (hend : Lp (fun k j => l k j (x.length : Int)) E) (hgo : ∀ i (h : i < x.length), p x[i] = false → ∀ H, Lp (fun k j => l k j ((i + 1 : Nat) : Int)) H → Lp (fun k j => l k j (i : Int)) H)
    (hstop : ∀ i (h : i < x.length), p x[i] = true → Lp (fun k j => l k j (i : Int)) O) : Lp (fun k j => l k j 0) (fun j => cond (x.any p) (O j) (E j)) := by
  have := scanAny_from hend hgo hstop x.length 0 (by omega)
  rw [List.drop_zero] at this
  exact_mod_cast this
end

/-- A byte as a number. -/
def bt (c : UInt8) : Int := (c.toNat : Int)
theorem bt_range (c : UInt8) : 0 ≤ bt c ∧ bt c ≤ 255 := by
  have := c.toNat_lt
  simp only [bt]; omega
theorem sidx_get {s : List UInt8} {i : Nat} (h : i < s.length) : sidx s (i : Int) = bt s[i] := by
  simp only [sidx, Int.toNat_natCast, List.getD, bt]
  rw [List.getElem?_eq_getElem h]; rfl
theorem iaddi {i n : Nat} (hn : n ≤ maxLen) (h : i < n) : iadd .i64 (i : Int) 1 = ((i + 1 : Nat) : Int) := by
  rw [iaddn (by omega) (by have := max_eq; omega)]; norm_cast
theorem max_le {n : Nat} (h : n ≤ 1048576) : n ≤ maxLen := by have := max_eq; omega

end Go.Proofs.Ytnfalnfifkejhaa.Pu
