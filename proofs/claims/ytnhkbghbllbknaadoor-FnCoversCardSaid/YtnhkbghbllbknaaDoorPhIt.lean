/- strconv.Itoa's contract, out of the shelf's. No condition. -/
import Derived.Test.YtnhkbghbllbknaaDoorFnFd
import Derived.Test.YtnhkbghbllbknaaDoorPhSh
namespace Go.Proofs.YtnhkbghbllbknaaDoor.Fn
open Go Go.RowKit Go.Proofs.YtnhkbghbllbknaaDoor.Abs

theorem Gw.grow {w : World} (k : Nat) (os : Array Obj) : Gw w (Sort.grow (w.drewN k) os) :=
  ⟨rfl, rfl, rfl, by simp [Sort.grow, World.drewN], fun b hb => by simp [Sort.grow, World.drewN, Array.getElem?_append_left hb]⟩
theorem itoa_gc (n : Int) (h0 : -9223372036854775808 ≤ n) (h1 : n ≤ 9223372036854775807) {H : Hp} : GC Tryd.prog 48 0 [.int .i64 n] H (.ret (.str (Lib.itoa n))) 0 H := by
  refine ⟨Nat.le_refl _, Tryd.call48, fun w F O μ ft cargs hv hr => ?_⟩
  obtain ⟨u1, r1, rfl, hv1, hvr⟩ := hv.cons_inv
  obtain rfl := hvr.nil_inv
  obtain rfl := hv1.int_inv
  have htab : Lib.TabIs Tryd.prog w "internal/strconv.uint64pow10" .u64 Lib.pow10Tab := hr.pos.var (g := 0) (cs := Lib.pow10Tab.map fun z => Value.int .u64 z) (List.mem_cons_self ..) (by kernel_rfl)
  refine (Tryd.strconv_Itoa n h0 h1 w htab).mono ?_
  rintro e w' ⟨rfl, k, os, rfl⟩
  have g : Gw w (Sort.grow (w.drewN k) os) := Gw.grow k os
  exact ⟨_, F, O, μ, ft, rfl, .str _, hr.gw g, g.fr⟩
theorem ok_strconv_Itoa (k : Nat) : ConOk Tryd.prog (c_strconv_Itoa k) := by
  rintro ⟨x, _⟩ o ho al l H h1 h2 v r H' h3 h4
  have hq : req (ile (-9223372036854775808) x && ile x 9223372036854775807) (some (Lib.itoa x)) = some o := ho
  cases hr : ile (-9223372036854775808) x && ile x 9223372036854775807 with
  | false => rw [hr] at hq; cases hq
  | true =>
    rw [hr] at hq
    cases hq
    cases h1
    cases h2
    cases h3
    cases h4
    simp only [ile, Bool.and_eq_true, decide_eq_true_eq] at hr
    exact itoa_gc x hr.1 hr.2
end Go.Proofs.YtnhkbghbllbknaaDoor.Fn
