/- laws.FnCovers, plain. No condition. -/
import Derived.Test.YtnhkbghbllbknaaDoorPwQ
namespace Go.Proofs.YtnhkbghbllbknaaDoor.Pu
open Go Go.RowKit Go.Proofs.YtnhkbghbllbknaaDoor.Abs Go.Proofs.YtnhkbghbllbknaaDoor.Fn

theorem rs_sd {rs : List GateRule} (h1 : rs.length ≤ 30) (h2 : ∀ r, r ∈ rs → GR' r) : sdS GateRule.sd rs := ⟨by omega, fun r hr => (h2 r hr).sd⟩
theorem fnCovers_law (x0 x1 : List Int) (h0 : okS (okInt .u8) x0) (h1 : okS (okInt .u8) x1) : ∃ k, laws_FnCovers k x0 x1 = some true := by
  refine ⟨4194304 * 8, ?_⟩
  generalize hk : 4194304 * 8 = k
  have hk8 : 4194304 * 8 ≤ k := by omega
  unfold laws_FnCovers
  obtain ⟨T, rs, q, d1, d2, d3, d4, d5⟩ := drawCovers_e (k := k) (by omega) h0
  obtain ⟨T', os, q', f1, f2, f3, f4, f5⟩ := drawCovers_e (k := k) (by omega) h1
  obtain ⟨T2, q2, a, g1, g2⟩ := drawAllows_e (k := k) (by omega) h1
  have hT := d2.sd
  have hrs := rs_sd d4 d5
  have hq := d3.to.sd
  have hos := rs_sd f4 f5
  have hall : sdS GateRule.sd (rs ++ [q]) := ⟨by simp; omega, fun r hr => (snoc_all d5 d3.to r hr).sd⟩
  have loop := loop_all (R := Option Bool) (x := rs) (p := fun r => coversM T os r) (B := 4194304 * 4) (l := fun k i => iter (ts := laws_FnCovers_L18_ts) (R := Bool) k (laws_FnCovers_L18 fun v93 v94 v95 v96 => cond (!v94) (some true) ((impl_GateCovers (4194304 * 8) v93 v95 v96).bind fun v97 => some v97)) T rs (coversM T rs q) os i q)
    (E := cond (!coversM T rs q) (some true) ((impl_GateCovers (4194304 * 8) T os q).bind fun v97 => some v97)) (O := some true)
    (fun k => by simp only [iter, laws_FnCovers_L18, ilt_e, cond_false] <;> rfl)
    (fun k i hi hb => by
      simp only [iter, laws_FnCovers_L18, ilt_n hi, inb_n hi, cond_true, req_t, nth_i hi, implCovers_e hb hT hos (hrs.2 _ (mem_i hi)), Option.bind_some, iadd_n hrs.1 hi]
      cases coversM T os rs[i] <;> rfl) k (by omega)
  have fin : iter (ts := laws_FnCovers_L18_ts) (R := Bool) k (laws_FnCovers_L18 fun v93 v94 v95 v96 => cond (!v94) (some true) ((impl_GateCovers k v93 v95 v96).bind fun v97 => some v97)) T rs (coversM T rs q) os (0 : Int) q = some true := by
    rw [hk] at loop
    refine loop.trans ?_
    cases ho : rs.all fun r => coversM T os r with
    | false => rfl
    | true =>
      rw [cond_true, implCovers_e (by omega) hT hos hq, Option.bind_some]
      cases hc : coversM T rs q with
      | false => rfl
      | true =>
        rw [covers_trans hc (List.all_eq_true.1 ho)]
        rfl
  have hu := unc_iff T rs q
  simp only [share, d1, Option.bind_some, implCovers_e (show 4194304 * 4 ≤ k by omega) hT hrs hq, specCovers_e (show 4194304 * 4 ≤ k by omega) hT hrs hq, implUnc_e hk8 hT hrs hq, implAllows_e (show 4194304 * 3 ≤ k by omega) hT hq, some_e (show 4194304 * 4 ≤ k by omega) hT hrs,
    appB_t (show ([] : List GateRule).length + rs.length ≤ 16777216 by simp; omega) (show 72 ≤ 100000 by omega), List.nil_append, appB_t (show rs.length + ([q] : List GateRule).length ≤ 16777216 by simp; omega) (show 72 ≤ 100000 by omega), implCovers_e (show 4194304 * 4 ≤ k by omega) hT hall hq, covers_all, g1, f1, req_t, beq_self]
  by_cases hl0 : (1048576 : Int) < (x0.length : Int)
  · rw [ilt_t hl0]; rfl
  · rw [ilt_f hl0]
    by_cases hl1 : (1048576 : Int) < (x1.length : Int)
    · rw [ilt_t hl1]; rfl
    · rw [ilt_f hl1]
      simp only [cond_false, Bool.not_true]
      cases hok : (uncM T rs q).2 with
      | true =>
        obtain ⟨u1, u2, u3⟩ := unc_allows hok
        rw [hok] at hu
        have ha : allOk T rs q = true := by
          cases e : allOk T rs q with
          | true => rfl
          | false => rw [e] at hu; cases hu
        rw [u1] at fin
        simp only [u1, u2, u3, ha, cond_true, cond_false, Bool.not_true, Bool.not_false, show Abs.beq true false = false from rfl]
        exact fin
      | false =>
        rw [hok] at hu
        cases ha : allOk T rs q with
        | false =>
          have hc : coversM T rs q = false := by unfold coversM; rw [ha]; rfl
          rw [hc] at fin
          simp only [hc, cond_true, cond_false, Bool.not_true, Bool.not_false]
          exact fin
        | true =>
          have hc : coversM T rs q = true := by
            rw [ha, Bool.true_and] at hu
            cases e : coversM T rs q with
            | true => rfl
            | false => rw [e] at hu; cases hu
          rw [hc] at fin
          simp only [hc, cond_true, cond_false, Bool.not_true, Bool.not_false, show Abs.beq false true = false from rfl]
          cases hal : allowsM T q a with
          | false => exact fin
          | true =>
            rw [covers_some hc hal]
            exact fin

end Go.Proofs.YtnhkbghbllbknaaDoor.Pu
