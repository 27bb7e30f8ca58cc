/- laws.FnExactGateTurned, plain. No condition. -/
import Derived.Test.YtdfdiinbiipacaaDoorPwC
namespace Go.Proofs.YtdfdiinbiipacaaDoor.Pu
open Go Go.RowKit Go.Proofs.YtdfdiinbiipacaaDoor.Abs Go.Proofs.YtdfdiinbiipacaaDoor.Fn

/-- A fixed value that has been turned. -/
def turnV (vs us : List (List UInt8)) (i : Nat) (f : GateField) : Option (Int × Int) :=
  cond (f.Fixed && (!seq (vs.getD i []) [] && !seq (vs.getD i []) (us.getD i []))) (some (4, (i : Int))) none
def turnedM (xs : List GateShape) (o p : GateObject) : Int × Int :=
  cond (ieq (checkM xs o).1 0 && (ieq (checkM xs p).1 0 && (seq o.Kind p.Kind && (seq o.Name p.Name && seq o.Team p.Team)))) ((first (turnV o.Values p.Values) ((fieldsM xs p).getD []) 0).getD (0, 0)) (1, 0)
theorem check_fields {xs : List GateShape} {o : GateObject} (h : ieq (checkM xs o).1 0 = true) : ∃ fs, fieldsM xs o = some fs := by
  unfold checkM at h
  cases hc : shapesOk xs && formO xs o with
  | false => rw [hc] at h; cases h
  | true =>
    simp only [formO, Bool.and_eq_true] at hc
    exact Option.isSome_iff_exists.1 hc.2.1
theorem turned_lens {xs : List GateShape} {o p : GateObject} (h1 : ieq (checkM xs o).1 0 = true) (h2 : ieq (checkM xs p).1 0 = true) (h3 : seq o.Kind p.Kind = true) : ∃ fs, fieldsM xs p = some fs ∧ fs.length = p.Values.length ∧ fs.length = o.Values.length := by
  obtain ⟨fs, hf⟩ := check_fields h2
  obtain ⟨gs, hg⟩ := check_fields h1
  have e : fs = gs := by
    unfold fieldsM at hf hg
    rw [seq_iff.1 h3] at hg
    cases hs : xs.find? fun s => seq s.Kind p.Kind with
    | none => rw [hs] at hf; cases hf
    | some s =>
      rw [hs] at hf hg
      simp only at hf hg
      cases e2 : ieq (s.Fields.length : Int) (p.Values.length : Int) with
      | false => rw [e2] at hf; cases hf
      | true =>
        cases e1 : ieq (s.Fields.length : Int) (o.Values.length : Int) with
        | false => rw [e1] at hg; cases hg
        | true =>
          rw [e2] at hf
          rw [e1] at hg
          exact Option.some.inj (hf.symm.trans hg)
  exact ⟨fs, hf, (fieldsM_some hf).1, e ▸ (fieldsM_some hg).1⟩

theorem specTurned_e {k : Nat} {xs : List GateShape} {o p : GateObject} (hk : 4194304 * 4 ≤ k) (hx : sdS GateShape.sd xs) (ho : o.sd) (hp : p.sd) : spec_GateTurned k xs o p = some (turnedM xs o p) := by
  unfold spec_GateTurned turnedM
  simp only [share, specCheck_e hk hx ho, specCheck_e hk hx hp, specFields_e (show 4194304 ≤ k by omega) hx.1, Option.bind_some]
  cases h1 : ieq (checkM xs o).1 0 with
  | false => rfl
  | true =>
    cases h2 : ieq (checkM xs p).1 0 with
    | false => rfl
    | true =>
      cases h3 : seq o.Kind p.Kind with
      | false => rfl
      | true =>
        cases seq o.Name p.Name with
        | false => rfl
        | true =>
          cases seq o.Team p.Team with
          | false => rfl
          | true =>
            obtain ⟨fs, hf, l1, l2⟩ := turned_lens h1 h2 h3
            have hv := ho.2.2.2.1
            have h := loop_first (R := Option (Int × Int)) (x := fs) (g := turnV o.Values p.Values) (B := 0) (l := fun k i => iter (ts := spec_GateTurned_L7_ts) (R := Int × Int) k (spec_GateTurned_L7 (some (0, 0))) o p fs i) (E := some (0, 0)) (O := fun c => some c)
              (fun k => by simp only [iter, spec_GateTurned_L7, ilt_e, cond_false] <;> rfl)
              (fun k i hi _ => by
                have hi1 : i < o.Values.length := by omega
                have hi2 : i < p.Values.length := by omega
                have hh := hv.1
                simp only [iter, spec_GateTurned_L7, share, ilt_n hi, inb_n hi, inb_n hi1, inb_n hi2, cond_true, req_t, nth_i hi, nth_i hi1, nth_i hi2, iadd_n (n := fs.length) (by omega) hi, turnV, getD_i hi1, getD_i hi2]
                cases fs[i].Fixed <;> cases seq o.Values[i] [] <;> cases seq o.Values[i] p.Values[i] <;> rfl) k (by have := hv.1; omega)
            rw [hf]
            exact h.trans (by simp only [Option.getD_some]; cases first (turnV o.Values p.Values) fs 0 <;> rfl)
theorem implTurned_e {k : Nat} {xs : List GateShape} {o p : GateObject} (hk : 4194304 * 7 ≤ k) (hx : sdS GateShape.sd xs) (ho : o.sd) (hp : p.sd) : impl_GateTurned k xs o p = some (turnedM xs o p) := by
  obtain ⟨k, rfl⟩ : ∃ q, k = q + 3 := ⟨k - 3, by omega⟩
  unfold impl_GateTurned turnedM
  simp only [share, iter, impl_GateTurned_L2]
  have n0 : nth (default : GateObject) ([o, p] : List GateObject) 0 = o := rfl
  have n1 : nth (default : GateObject) ([o, p] : List GateObject) 1 = p := rfl
  rw [show ((([o, p] : List GateObject).length : Nat) : Int) = 2 from rfl, show ilt 0 2 = true from rfl, show inb 0 ([o, p] : List GateObject).length = true from rfl, show iadd .i64 0 1 = 1 from rfl, show ilt 1 2 = true from rfl, show inb 1 ([o, p] : List GateObject).length = true from rfl,
    show iadd .i64 1 1 = 2 from rfl, show ilt 2 2 = false from rfl]
  simp only [cond_true, cond_false, req_t, n0, n1, implCheck_e (show 4194304 * 6 ≤ k + 2 by omega) hx ho, implCheck_e (show 4194304 * 6 ≤ k + 1 by omega) hx hp, implFields_e (show 4194304 ≤ k + 3 by omega) hx.1, Option.bind_some]
  cases h1 : ieq (checkM xs o).1 0 with
  | false => rfl
  | true =>
    cases h2 : ieq (checkM xs p).1 0 with
    | false => rfl
    | true =>
      cases h3 : seq o.Kind p.Kind with
      | false => rfl
      | true =>
        cases seq o.Name p.Name with
        | false => rfl
        | true =>
          cases seq o.Team p.Team with
          | false => rfl
          | true =>
            obtain ⟨fs, hf, l1, l2⟩ := turned_lens h1 h2 h3
            have hv := ho.2.2.2.1
            have h := loop_first (R := Option (Int × Int)) (x := fs) (g := turnV o.Values p.Values) (B := 0) (l := fun k i => iter (ts := impl_GateTurned_L12_ts) (R := Int × Int) k (impl_GateTurned_L12 (some (0, 0))) o p fs (fs.length : Int) i) (E := some (0, 0)) (O := fun c => some c)
              (fun k => by simp only [iter, impl_GateTurned_L12, ilt_e, cond_false] <;> rfl)
              (fun k i hi _ => by
                have hi1 : i < o.Values.length := by omega
                have hi2 : i < p.Values.length := by omega
                have hh := hv.1
                simp only [iter, impl_GateTurned_L12, share, ilt_n hi, inb_n hi, inb_n hi1, inb_n hi2, cond_true, req_t, nth_i hi, nth_i hi1, nth_i hi2, turnV, getD_i hi1, getD_i hi2]
                rw [iadd_n (n := fs.length) (by omega) hi]
                cases fs[i].Fixed <;> cases seq o.Values[i] [] <;> cases seq o.Values[i] p.Values[i] <;> rfl) (k + 3) (by have := hv.1; omega)
            rw [hf]
            exact h.trans (by simp only [Option.getD_some]; cases first (turnV o.Values p.Values) fs 0 <;> rfl)

theorem turned_law (x0 : List GateShape) (x1 x2 : GateObject) (h0 : okS GateShape.ok x0) (h1 : x1.ok) (h2 : x2.ok) : ∃ k, laws_FnExactGateTurned k x0 x1 x2 = some true := by
  refine Yd.one (F := fun k => laws_FnExactGateTurned k x0 x1 x2) ?_
  unfold laws_FnExactGateTurned
  obtain ⟨v, k1, k2, k3⟩ := laws_szGateShapeS_y h0 (n := 1048576) (by omega) (by omega)
  refine Yd.bind k1 ?_
  by_cases c : v < 0
  · exact Yd.cp (ilt_t c) Yd.pure
  · refine Yd.cn (ilt_f c) ?_
    have hs := k3 (by omega)
    obtain ⟨v', l1, l2, l3⟩ := laws_szGateObject_y h1 (n := v) (by omega) (by omega)
    refine Yd.bind l1 ?_
    by_cases c' : v' < 0
    · exact Yd.cp (ilt_t c') Yd.pure
    · refine Yd.cn (ilt_f c') ?_
      have hm := l3 (by omega)
      obtain ⟨v'', m1, m2, m3⟩ := laws_szGateObject_y h2 (n := v') (by omega) (by omega)
      refine Yd.bind m1 ?_
      by_cases c'' : v'' < 0
      · exact Yd.cp (ilt_t c'') Yd.pure
      · refine Yd.cn (ilt_f c'') ?_
        have hq := m3 (by omega)
        have s1 : Yd (fun k => spec_GateTurned k x0 x1 x2) (turnedM x0 x1 x2) := Yd.ofE _ fun k hk => specTurned_e hk hs hm hq
        have s2 : Yd (fun k => impl_GateTurned k x0 x1 x2) (turnedM x0 x1 x2) := Yd.ofE _ fun k hk => implTurned_e hk hs hm hq
        refine Yd.bind (laws_toGateShapeS_y hs) (Yd.bind (laws_toGateObject_y hm) (Yd.bind (laws_toGateObject_y hq) (Yd.bind s1 (Yd.bind (laws_toGateShapeS_y hs) (Yd.bind (laws_toGateObject_y hm) (Yd.bind (laws_toGateObject_y hq) (Yd.bind s2 ?_)))))))
        simp only [share, ieq_self, Bool.not_true]
        exact Yd.cn rfl (Yd.cn rfl (Yd.bind (laws_toGateShapeS_y hs) (Yd.bind (laws_eqGateShapeS_y h0) (Yd.cn rfl (Yd.bind (laws_toGateObject_y hm) (Yd.bind (laws_eqGateObject_y h1) (Yd.cn rfl (Yd.bind (laws_toGateObject_y hq) (Yd.bind (laws_eqGateObject_y h2) (Yd.cn rfl Yd.pure))))))))))

end Go.Proofs.YtdfdiinbiipacaaDoor.Pu
