/- laws.FnExactGateUsed, plain: what a team uses, in both texts; the law. No condition. -/
import Derived.Test.YtkfdfapickladaaPuWeighs
import Derived.Test.YtkfdfapickladaaPuSz
namespace Go.Proofs.Ytkfdfapickladaa.Pu
open Go Go.RowKit Go.Proofs.Ytkfdfapickladaa.Abs Go.Proofs.Ytkfdfapickladaa.Fn

def usedL (l : GateLaw) (team res : List UInt8) : List GateObject → Int → Int
  | [], n => n
  | o :: os, n => usedL l team res os (if undI l.Teams team 4 o.Team then wr .i64 (n + weighsB l o res) else n)

theorem usedS_l {l : GateLaw} {b : GateBook} {team res : List UInt8} (h1 : l.Shapes.length ≤ maxLen) (ht : l.Teams.length ≤ maxLen) (hb : b.Objects.length ≤ maxLen) (h2 : ∀ o, o ∈ b.Objects → o.Values.length ≤ maxLen) : ∀ (m i : Nat) (n : Int), i + m = b.Objects.length →
    Yd (fun k => spec_GateUsed.l0 b l team res k n (i : Int)) (.inr (usedL l team res (b.Objects.drop i) n))
  | 0, i, n, h => by
    refine Yd.succ ?_
    simp only [spec_GateUsed.l0]
    refine Yd.ifn (by omega) ?_
    rw [drop_end (by omega)]
    exact Yd.pure
  | m + 1, i, n, h => by
    have hi : i < b.Objects.length := by omega
    have hx := max_eq
    have next : ∀ n', Yd (fun k => spec_GateUsed.l0 b l team res k n' ((i : Int) + 1)) (.inr (usedL l team res (b.Objects.drop (i + 1)) n')) := fun n' => by
      exact_mod_cast usedS_l h1 ht hb h2 m (i + 1) n' (by omega)
    refine Yd.succ ?_
    simp only [spec_GateUsed.l0, Int.toNat_natCast]
    rw [drop_cons hi, usedL, wr64 (n := (i : Int) + 1) (by omega) (by omega)]
    refine Yd.ifp (by omega) (Yd.ifp (by omega) (Yd.bind (specUnder_y _ _ ht) ?_))
    rw [← und_eq]
    cases undI l.Teams team 4 (b.Objects.getD i default).Team with
    | false => exact Yd.ifn (by simp) (next n)
    | true => exact Yd.ifp rfl (Yd.ifp (by omega) (Yd.bind (weighsS_y res h1 (h2 _ (by simp only [List.getD]; rw [List.getElem?_eq_getElem hi]; exact List.getElem_mem hi))) (next _)))
theorem usedI_l {l : GateLaw} {b : GateBook} {team res : List UInt8} (h1 : l.Shapes.length ≤ maxLen) (ht : l.Teams.length ≤ maxLen) (hb : b.Objects.length ≤ maxLen) (h2 : ∀ o, o ∈ b.Objects → o.Values.length ≤ maxLen) : ∀ (m i : Nat) (n : Int), i + m = b.Objects.length →
    Yd (fun k => impl_GateUsed.l0 b l team res k n (i : Int)) (.inr (usedL l team res (b.Objects.drop i) n))
  | 0, i, n, h => by
    refine Yd.succ ?_
    simp only [impl_GateUsed.l0]
    refine Yd.ifn (by omega) ?_
    rw [drop_end (by omega)]
    exact Yd.pure
  | m + 1, i, n, h => by
    have hi : i < b.Objects.length := by omega
    have hx := max_eq
    have next : ∀ n', Yd (fun k => impl_GateUsed.l0 b l team res k n' ((i : Int) + 1)) (.inr (usedL l team res (b.Objects.drop (i + 1)) n')) := fun n' => by
      exact_mod_cast usedI_l h1 ht hb h2 m (i + 1) n' (by omega)
    refine Yd.succ ?_
    simp only [impl_GateUsed.l0, Int.toNat_natCast]
    rw [drop_cons hi, usedL, wr64 (n := (i : Int) + 1) (by omega) (by omega)]
    refine Yd.ifp (by omega) (Yd.ifp (by omega) (Yd.bind (implUnder_y _ _ ht) ?_))
    cases undI l.Teams team 4 (b.Objects.getD i default).Team with
    | false => exact Yd.ifn (by simp) (next n)
    | true => exact Yd.ifp rfl (Yd.bind (weighsI_y res h1 (h2 _ (by simp only [List.getD]; rw [List.getElem?_eq_getElem hi]; exact List.getElem_mem hi))) (next _))

theorem used_law (l : GateLaw) (b : GateBook) (team res : List UInt8) (hl : GateLaw.ok l) (hb : GateBook.ok b) (_ : okStr team) (_ : okStr res) : ∃ k, laws_FnExactGateUsed k l b team res = some true := by
  refine Yd.one ?_
  unfold laws_FnExactGateUsed
  have hm := max_eq
  refine Yd.ite (fun _ => Yd.pure) fun _ => Yd.ite (fun _ => Yd.pure) fun _ => ?_
  obtain ⟨v1, k1, l1, m1⟩ := laws_szGateLaw_y hl (n := 1048576) (by omega) (by omega)
  refine Yd.bind k1 (Yd.ite (fun _ => Yd.pure) fun c1 => ?_)
  obtain ⟨v2, k2, l2, m2⟩ := laws_szGateBook_y hb (n := v1) (by omega) (by omega)
  refine Yd.bind k2 (Yd.ite (fun _ => Yd.pure) fun c2 => ?_)
  have b1 := m1 (by omega)
  have b2 := m2 (by omega)
  have w1 : l.Shapes.length ≤ maxLen := hl.1.1
  have w3 : l.Teams.length ≤ maxLen := by first | exact hl.2.2.1.1 | exact hl.2.2.1 | exact hl.2.1.1
  have wo : okS GateObject.ok b.Objects := by first | exact hb.1 | exact hb.2.1 | exact hb.2.2.1 | exact hb.2.2.2.1 | exact hb.2.2.2.2.1
  have w2 : ∀ o, o ∈ b.Objects → o.Values.length ≤ maxLen := fun o ho => by
    have h := wo.2 o ho
    first | exact h.1.1 | exact h.2.1.1 | exact h.2.2.1.1 | exact h.2.2.2.1.1 | exact h.2.2.2.2.1.1 | exact h.2.2.2.2.2.1.1
  have uS : Yd (fun k => spec_GateUsed k l b team res) (usedL l team res b.Objects 0) := by
    unfold spec_GateUsed
    refine Yd.bind (by exact_mod_cast usedS_l (team := team) (res := res) w1 w3 wo.1 w2 b.Objects.length 0 0 (by omega)) ?_
    rw [List.drop_zero]; exact Yd.pure
  have uI : Yd (fun k => impl_GateUsed k l b team res) (usedL l team res b.Objects 0) := by
    unfold impl_GateUsed
    refine Yd.bind (by exact_mod_cast usedI_l (team := team) (res := res) w1 w3 wo.1 w2 b.Objects.length 0 0 (by omega)) ?_
    rw [List.drop_zero]; exact Yd.pure
  refine Yd.bind (laws_toGateLaw_y b1) (Yd.bind (laws_toGateBook_y b2) (Yd.bind uS (Yd.bind (laws_toGateLaw_y b1) (Yd.bind (laws_toGateBook_y b2) (Yd.bind uI (Yd.ifn (by simp) ?_))))))
  exact Yd.bind (laws_toGateLaw_y b1) (Yd.bind (laws_eqGateLaw_y hl) (Yd.ifn (by simp) (Yd.bind (laws_toGateBook_y b2) (Yd.bind (laws_eqGateBook_y hb) (Yd.ifn (by simp) Yd.pure)))))

end Go.Proofs.Ytkfdfapickladaa.Pu
