/- Objects against shapes: the two texts agree. No condition. -/
import Derived.Test.YtdfdiinbiipacaaDoorPwN
namespace Go.Proofs.YtdfdiinbiipacaaDoor.Pu
open Go Go.RowKit Go.Proofs.YtdfdiinbiipacaaDoor.Abs Go.Proofs.YtdfdiinbiipacaaDoor.Fn

theorem ieq_comm (a b : Int) : ieq a b = ieq b a := by
  rw [Bool.eq_iff_iff]; simp only [ieq, beq_iff_eq]; exact eq_comm
/-- The fields that an object's values stand for. -/
def fieldsM (xs : List GateShape) (o : GateObject) : Option (List GateField) := match xs.find? fun s => seq s.Kind o.Kind with
  | some s => cond (ieq (s.Fields.length : Int) (o.Values.length : Int)) (some s.Fields) none
  | none => none
theorem fieldsM_some {xs : List GateShape} {o : GateObject} {fs : List GateField} (h : fieldsM xs o = some fs) : fs.length = o.Values.length ∧ ∃ s, s ∈ xs ∧ s.Fields = fs := by
  unfold fieldsM at h
  cases hf : xs.find? fun s => seq s.Kind o.Kind with
  | none => rw [hf] at h; cases h
  | some s =>
    rw [hf] at h
    simp only at h
    cases he : ieq (s.Fields.length : Int) (o.Values.length : Int) with
    | false => rw [he] at h; cases h
    | true =>
      rw [he] at h
      cases h
      simp only [ieq, beq_iff_eq] at he
      exact ⟨by omega, s, List.mem_of_find?_eq_some hf, rfl⟩
theorem specFields_e {k : Nat} {xs : List GateShape} {o : GateObject} (hk : 4194304 ≤ k) (hx : xs.length ≤ 1048576) : spec_l2Fields k xs o = some ((fieldsM xs o).getD [], (fieldsM xs o).isSome) := by
  unfold spec_l2Fields fieldsM
  rw [l1Shape_e hk hx, fidx_gidx]
  simp only [share, Option.bind_some]
  rcases gidx_find (fun s : GateShape => seq s.Kind o.Kind) xs with ⟨h1, h2⟩ | ⟨j, hj, h1, h2, _⟩
  · rw [h1, h2]; rfl
  · rw [h1, h2, ilt_f (by omega), inb_n hj, nth_i hj]
    simp only
    cases ieq (xs[j].Fields.length : Int) (o.Values.length : Int) <;> rfl
theorem implFields_e {k : Nat} {xs : List GateShape} {o : GateObject} (hk : 4194304 ≤ k) (hx : xs.length ≤ 1048576) : impl_fieldsOf k xs o = some ((fieldsM xs o).getD [], (fieldsM xs o).isSome) := by
  unfold impl_fieldsOf fieldsM
  rw [shapeOf_e hk hx]
  simp only [share, Option.bind_some]
  rcases gidx_find (fun s : GateShape => seq s.Kind o.Kind) xs with ⟨h1, h2⟩ | ⟨j, hj, h1, h2, _⟩
  · rw [h1, h2]; rfl
  · rw [h1, h2, ilt_f (by omega), inb_n hj, nth_i hj, ieq_comm (o.Values.length : Int)]
    simp only
    cases ieq (xs[j].Fields.length : Int) (o.Values.length : Int) <;> rfl
def formO (xs : List GateShape) (o : GateObject) : Bool := (fieldsM xs o).isSome && (nameOk o.Name && (nameOk o.Team && (ile (o.Holds.length : Int) 3 && (ascend o.Holds && (ile 0 o.Version && ile o.Version 1000000)))))
/-- What is wrong with a value. -/
def badV (vs : List (List UInt8)) (i : Nat) (f : GateField) : Option (Int × Int) :=
  cond (seq (vs.getD i []) []) (cond f.Must (some (2, (i : Int))) none) (cond (fits f (vs.getD i [])) none (some (3, (i : Int))))
def checkM (xs : List GateShape) (o : GateObject) : Int × Int :=
  cond (shapesOk xs && formO xs o) ((first (badV o.Values) ((fieldsM xs o).getD []) 0).getD (0, 0)) (1, 0)

theorem getD_i {α : Type} {d : α} {x : List α} {i : Nat} (h : i < x.length) : x.getD i d = x[i] := by simp [List.getD, h]

theorem specCheck_loop {k : Nat} {o : GateObject} {fs : List GateField} (hk : 4194304 * 2 ≤ k) (ho : o.sd) (hl : fs.length = o.Values.length) (hf : ∀ f, f ∈ fs → f.Words.length ≤ 1048576) :
    iter (ts := spec_l2Check_L5_ts) (R := Int × Int) k (spec_l2Check_L5 (some (0, 0))) o fs (0 : Int) = some ((first (badV o.Values) fs 0).getD (0, 0)) := by
  have hv := ho.2.2.2.1
  have h := loop_first (R := Option (Int × Int)) (x := fs) (g := badV o.Values) (B := 4194304) (l := fun k i => iter (ts := spec_l2Check_L5_ts) (R := Int × Int) k (spec_l2Check_L5 (some (0, 0))) o fs i) (E := some (0, 0)) (O := fun c => some c)
    (fun k => by simp only [iter, spec_l2Check_L5, ilt_e, cond_false] <;> rfl)
    (fun k i hi hb => by
      have hi' : i < o.Values.length := by omega
      have hh := hv.1
      simp only [iter, spec_l2Check_L5, share, ilt_n hi, inb_n hi, inb_n hi', cond_true, req_t, nth_i hi, nth_i hi', iadd_n (n := fs.length) (by omega) hi, specFits_e hb (hf _ (mem_i hi)) (hv.2 _ (mem_i hi')), Option.bind_some, badV, getD_i hi']
      cases seq o.Values[i] [] <;> cases fs[i].Must <;> cases fits fs[i] o.Values[i] <;> rfl) k (by have := hv.1; omega)
  refine h.trans ?_
  cases first (badV o.Values) fs 0 <;> rfl
theorem specCheck_e {k : Nat} {xs : List GateShape} {o : GateObject} (hk : 4194304 * 4 ≤ k) (hx : sdS GateShape.sd xs) (ho : o.sd) : spec_GateCheck k xs o = some (checkM xs o) := by
  have ho' := ho
  obtain ⟨h1, h2, h3, h4, -, h5, -⟩ := ho
  unfold spec_GateCheck spec_l2Check checkM formO
  simp only [share, specShapesOk_e hx (show 4194304 * 4 ≤ k by omega), specFields_e (show 4194304 ≤ k by omega) hx.1, l1NameOk_e (show 4194304 ≤ k by omega) h2, l1NameOk_e (show 4194304 ≤ k by omega) h3, l1Ascending_e (show 8388608 ≤ k by omega) h5, in_e, Option.bind_some, ilt_not]
  cases shapesOk xs with
  | false => rfl
  | true =>
    cases hf : fieldsM xs o with
    | none => rfl
    | some fs =>
      obtain ⟨e1, s, e2, e3⟩ := fieldsM_some hf
      have go := specCheck_loop (k := k) (by omega) ho' e1 (fun f hfm => by
        have := ((hx.2 s e2).2.2 f (by rw [e3]; exact hfm)).2.2.2.2.1
        exact this.1)
      simp only [Option.isSome_some, Option.getD_some]
      cases nameOk o.Name <;> cases nameOk o.Team <;> cases ile (o.Holds.length : Int) 3 <;> cases ascend o.Holds <;> cases ile 0 o.Version && ile o.Version 1000000 <;> first | rfl | (refine (show _ = ((iter (ts := spec_l2Check_L5_ts) (R := Int × Int) k (spec_l2Check_L5 (some (0, 0))) o fs (0 : Int)).bind fun v5 => some (v5.1, v5.2)) from rfl).trans ?_; rw [go]; rfl)

theorem told_e (k : Nat) (f : Fault) : impl_told k f = some (f.code, f.place) := rfl
def ofBad : Option (Int × Int) → Unit ⊕ (Fault ⊕ Fault)
  | none => .inl ()
  | some (c, p) => .inr (.inl ⟨c, p⟩)
theorem implCheckFields_e {k : Nat} {xs : List GateShape} {o : GateObject} {fs : List GateField} (hk : 4194304 * 2 ≤ k) (hx : sdS GateShape.sd xs) (ho : o.sd) (hf : fieldsM xs o = some fs) : impl_checkFields k xs o = some (ofBad (first (badV o.Values) fs 0)) := by
  obtain ⟨hl, s, e2, e3⟩ := fieldsM_some hf
  have hv := ho.2.2.2.1
  unfold impl_checkFields
  rw [implFields_e (by omega) hx.1, hf]
  have h := loop_first (R := Option (Unit ⊕ (Fault ⊕ Fault))) (x := fs) (g := badV o.Values) (B := 4194304) (l := fun k i => iter (ts := impl_checkFields_L3_ts) (R := Unit ⊕ (Fault ⊕ Fault)) k (impl_checkFields_L3 (some (.inl ()))) o fs (fs.length : Int) i) (E := some (.inl ())) (O := fun c => some (.inr (.inl ⟨c.1, c.2⟩)))
    (fun k => by simp only [iter, impl_checkFields_L3, ilt_e, cond_false] <;> rfl)
    (fun k i hi hb => by
      have hi' : i < o.Values.length := by omega
      have hh := hv.1
      have hw : fs[i].Words.length ≤ 1048576 := ((hx.2 s e2).2.2 fs[i] (by rw [e3]; exact mem_i hi)).2.2.2.2.1.1
      simp only [iter, impl_checkFields_L3, share, ilt_n hi, inb_n hi, inb_n hi', cond_true, req_t, nth_i hi, nth_i hi', implFits_e hb hw (hv.2 _ (mem_i hi')), Option.bind_some, badV, getD_i hi']
      rw [iadd_n (n := fs.length) (by omega) hi]
      cases seq o.Values[i] [] <;> cases fs[i].Must <;> cases fits fs[i] o.Values[i] <;> rfl) k (by have := hv.1; omega)
  simp only [share, Option.bind_some, Option.getD_some]
  refine h.trans ?_
  cases first (badV o.Values) fs 0 <;> rfl
theorem implCheckForm_e {k : Nat} {xs : List GateShape} {o : GateObject} (hk : 4194304 * 5 ≤ k) (hx : sdS GateShape.sd xs) (ho : o.sd) : impl_checkForm k xs o = some (cond (shapesOk xs && formO xs o) (.inr ()) (.inl ⟨1, 0⟩)) := by
  obtain ⟨h1, h2, h3, h4, -, h5, -⟩ := ho
  unfold impl_checkForm formO
  simp only [share, implShapesOk_e hx hk, implFields_e (show 4194304 ≤ k by omega) hx.1, isName_e (show 4194304 ≤ k by omega) h2, isName_e (show 4194304 ≤ k by omega) h3, ascendingNames_e (show 8388608 ≤ k by omega) h5, Option.bind_some, ilt_not]
  cases (fieldsM xs o).isSome <;> cases shapesOk xs <;> cases nameOk o.Name <;> cases nameOk o.Team <;> cases ile (o.Holds.length : Int) 3 <;> cases ascend o.Holds <;> cases ile 0 o.Version <;> cases ile o.Version 1000000 <;> rfl
theorem implCheck_e {k : Nat} {xs : List GateShape} {o : GateObject} (hk : 4194304 * 6 ≤ k) (hx : sdS GateShape.sd xs) (ho : o.sd) : impl_GateCheck k xs o = some (checkM xs o) := by
  obtain ⟨k, rfl⟩ : ∃ q, k = q + 3 := ⟨k - 3, by omega⟩
  unfold impl_GateCheck checkM
  simp only [share, iter, impl_GateCheck_L2]
  rw [show ilt 0 2 = true from rfl, show ieq 0 0 = true from rfl]
  simp only [cond_true, implCheckForm_e (show 4194304 * 5 ≤ k + 2 by omega) hx ho, Option.bind_some]
  cases hs : shapesOk xs && formO xs o with
  | false => rfl
  | true =>
    simp only [cond_true, sumC_r]
    rw [show iadd .i64 0 1 = 1 from rfl, show ilt 1 2 = true from rfl, show ieq 1 0 = false from rfl, show ieq 1 1 = true from rfl]
    cases hf : fieldsM xs o with
    | none => simp [formO, hf] at hs
    | some fs =>
      simp only [cond_true, cond_false, implCheckFields_e (show 4194304 * 2 ≤ k + 1 by omega) hx ho hf, Option.bind_some, Option.getD_some]
      cases hb : first (badV o.Values) fs 0 with
      | none => rfl
      | some c => rfl
end Go.Proofs.YtdfdiinbiipacaaDoor.Pu
