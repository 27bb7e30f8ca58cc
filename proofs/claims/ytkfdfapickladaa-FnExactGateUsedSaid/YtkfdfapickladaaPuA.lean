/- Plain words: what a printed function yields for all great enough fuel; loops over a list. No condition. -/
import Derived.Test.YtkfdfapickladaaAbsN
namespace Go.Proofs.Ytkfdfapickladaa.Pu
open Go Go.RowKit Go.Proofs.Ytkfdfapickladaa.Abs

/-- It yields a for all great enough fuel. -/
def Yd {α : Type} (F : Nat → Option α) (a : α) : Prop := ∃ K, ∀ k, K ≤ k → F k = some a

section
variable {α β : Type} {F G : Nat → Option α} {a : α} {b : β} {p : Prop} [Decidable p]
theorem Yd.pure : Yd (fun _ => some a) a := ⟨0, fun _ _ => rfl⟩
theorem Yd.of (h : ∀ k, F k = some a) : Yd F a := ⟨0, fun k _ => h k⟩
theorem Yd.succ (h : Yd (fun k => F (k + 1)) a) : Yd F a := by
  obtain ⟨K, hK⟩ := h
  refine ⟨K + 1, fun k hk => ?_⟩
  obtain ⟨k, rfl⟩ : ∃ j, k = j + 1 := ⟨k - 1, by omega⟩
  exact hK k (by omega)
theorem Yd.bind {G : Nat → α → Option β} (h : Yd F a) (h' : Yd (fun k => G k a) b) : Yd (fun k => (F k).bind (G k)) b := by
  obtain ⟨K, hK⟩ := h
  obtain ⟨L, hL⟩ := h'
  refine ⟨max K L, fun k hk => ?_⟩
  simp only [hK k (by omega), Option.bind_some]
  exact hL k (by omega)
theorem Yd.ifp (hp : p) (h : Yd F a) : Yd (fun k => if p then F k else G k) a := by simp only [if_pos hp]; exact h
theorem Yd.ifn (hp : ¬ p) (h : Yd G a) : Yd (fun k => if p then F k else G k) a := by simp only [if_neg hp]; exact h
theorem Yd.ite (h : p → Yd F a) (h' : ¬ p → Yd G a) : Yd (fun k => if p then F k else G k) a := by
  by_cases hp : p
  · exact Yd.ifp hp (h hp)
  · exact Yd.ifn hp (h' hp)
theorem Yd.to {a' : α} (h : Yd F a) (e : a = a') : Yd F a' := e ▸ h
theorem Yd.one (h : Yd F a) : ∃ k, F k = some a := let ⟨K, hK⟩ := h; ⟨K, hK K (Nat.le_refl _)⟩
end

theorem wrap64 {n : Int} (h0 : -9223372036854775808 ≤ n) (h1 : n ≤ 9223372036854775807) : IntKind.i64.wrap n = n := wrap_id h0 h1
theorem max_eq : maxLen = 9223372036854775807 := rfl

theorem drop_cons {α : Type} [Inhabited α] {x : List α} {i : Nat} (h : i < x.length) : x.drop i = x.getD i default :: x.drop (i + 1) := by
  rw [List.drop_eq_getElem_cons h]
  simp [List.getD, h]
theorem drop_end {α : Type} {x : List α} {i : Nat} (h : x.length ≤ i) : x.drop i = [] := List.drop_eq_nil_of_le h

end Go.Proofs.Ytkfdfapickladaa.Pu
