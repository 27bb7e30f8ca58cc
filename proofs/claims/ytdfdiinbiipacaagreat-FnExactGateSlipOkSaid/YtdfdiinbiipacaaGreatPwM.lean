/- Mends: both texts agree on what mends are ok; rows in which each stands behind what it reads. No condition. -/
import Derived.Test.YtdfdiinbiipacaaGreatPwT
namespace Go.Proofs.YtdfdiinbiipacaaGreat.Pu
open Go Go.RowKit Go.Proofs.YtdfdiinbiipacaaGreat.Abs Go.Proofs.YtdfdiinbiipacaaGreat.Fn

/-! ### Places -/

section
variable {α : Type} {x : List α} {B : Nat} {p : α → Bool}
/-- The place of the first that passes, -1 if none does. -/
def gidx (p : α → Bool) : List α → Nat → Int
  | [], _ => -1
  | a :: r, i => cond (p a) (i : Int) (gidx p r (i + 1))
theorem loop_gidx {l : Nat → Int → Option Int} (he : ∀ k, l (k + 1) (x.length : Int) = some (-1))
    (h : ∀ k i (hi : i < x.length), l (k + 1) (i : Int) = cond (p x[i]) (some (i : Int)) (l k ((i + 1 : Nat) : Int))) (k : Nat) (hk : x.length + 1 ≤ k) : l k 0 = some (gidx p x 0) := by
  have go : ∀ m i k, i + m = x.length → m + 1 ≤ k → l k (i : Int) = some (gidx p (x.drop i) i) := by
    intro m
    induction m with
    | zero =>
      intro i k h1 h2
      obtain rfl : i = x.length := by omega
      obtain ⟨k, rfl⟩ : ∃ j, k = j + 1 := ⟨k - 1, by omega⟩
      simp [he, gidx]
    | succ m ih =>
      intro i k h1 h2
      obtain ⟨k, rfl⟩ : ∃ j, k = j + 1 := ⟨k - 1, by omega⟩
      have hi : i < x.length := by omega
      rw [h k i hi, List.drop_eq_getElem_cons hi]
      simp only [gidx]
      cases p x[i] with
      | true => rfl
      | false => exact ih (i + 1) k (by omega) (by omega)
  have := go x.length 0 k (by omega) (by omega)
  simpa using this
theorem gidx_from : ∀ (y : List α) (i : Nat), (gidx p y i = -1 ∧ y.find? p = none) ∨ ∃ j, ∃ h : j < y.length, gidx p y i = ((i + j : Nat) : Int) ∧ y.find? p = some y[j] ∧ p y[j] = true
  | [], i => .inl ⟨rfl, rfl⟩
  | a :: r, i => by
    simp only [gidx, List.find?_cons]
    cases ha : p a with
    | true => exact .inr ⟨0, by simp, by simp, by simp, ha⟩
    | false =>
      rcases gidx_from r (i + 1) with ⟨h1, h2⟩ | ⟨j, hj, h1, h2, h3⟩
      · exact .inl ⟨h1, h2⟩
      · exact .inr ⟨j + 1, by simpa using hj, by simp only [cond_false, h1]; congr 1; omega, by simpa using h2, by simpa using h3⟩
theorem gidx_find (p : α → Bool) (x : List α) : (gidx p x 0 = -1 ∧ x.find? p = none) ∨ ∃ j, ∃ h : j < x.length, gidx p x 0 = (j : Int) ∧ x.find? p = some x[j] ∧ p x[j] = true := by
  rcases gidx_from (p := p) x 0 with h | ⟨j, hj, h1, h2⟩
  · exact .inl h
  · exact .inr ⟨j, hj, by simpa using h1, h2⟩
end
theorem fidx_gidx (to : List UInt8) : ∀ (xs : List GateShape) (i : Nat), fidx to xs i = gidx (fun s => seq s.Kind to) xs i
  | [], _ => rfl
  | s :: r, i => by simp only [fidx, gidx, fidx_gidx to r]

theorem l3Field_e {k : Nat} {fs : List GateField} {n : List UInt8} (hk : 4194304 ≤ k) (hx : fs.length ≤ 1048576) : spec_l3Field k fs n = some (gidx (fun f => seq f.Name n) fs 0) := by
  unfold spec_l3Field
  simp only [share]
  exact loop_gidx (x := fs) (p := fun f => seq f.Name n) (l := fun k i => iter (ts := spec_l3Field_L2_ts) (R := Int) k (spec_l3Field_L2 (some (-1))) fs n i)
    (fun k => by simp only [iter, spec_l3Field_L2, ilt_e, cond_false] <;> rfl)
    (fun k i hi => by simp only [iter, spec_l3Field_L2, ilt_n hi, inb_n hi, cond_true, req_t, nth_i hi, iadd_n hx hi] <;> rfl) k (by omega)
theorem placeOf_e {k : Nat} {fs : List GateField} {n : List UInt8} (hk : 4194304 ≤ k) (hx : fs.length ≤ 1048576) : impl_placeOf k fs n = some (gidx (fun f => seq f.Name n) fs 0) := by
  unfold impl_placeOf
  simp only [share]
  exact loop_gidx (x := fs) (p := fun f => seq f.Name n) (l := fun k i => iter (ts := impl_placeOf_L2_ts) (R := Int) k (impl_placeOf_L2 (some (-1))) n fs (fs.length : Int) i)
    (fun k => by simp only [iter, impl_placeOf_L2, ilt_e, cond_false] <;> rfl)
    (fun k i hi => by simp only [iter, impl_placeOf_L2, ilt_n hi, inb_n hi, cond_true, req_t, nth_i hi, iadd_n hx hi] <;> rfl) k (by omega)
theorem shapeOf_e {k : Nat} {xs : List GateShape} {n : List UInt8} (hk : 4194304 ≤ k) (hx : xs.length ≤ 1048576) : impl_shapeOf k xs n = some (gidx (fun s => seq s.Kind n) xs 0) := by
  unfold impl_shapeOf
  simp only [share]
  exact loop_gidx (x := xs) (p := fun s => seq s.Kind n) (l := fun k i => iter (ts := impl_shapeOf_L2_ts) (R := Int) k (impl_shapeOf_L2 (some (-1))) n xs (xs.length : Int) i)
    (fun k => by simp only [iter, impl_shapeOf_L2, ilt_e, cond_false] <;> rfl)
    (fun k i hi => by simp only [iter, impl_shapeOf_L2, ilt_n hi, inb_n hi, cond_true, req_t, nth_i hi, iadd_n hx hi] <;> rfl) k (by omega)

/-! ### A mend -/

def fieldN (fs : List GateField) (n : List UInt8) : Option GateField := fs.find? fun f => seq f.Name n
def plainN (fs : List GateField) (n : List UInt8) : Bool := match fieldN fs n with
  | some f => !ieq f.Kind 4
  | none => false
theorem l3Plain_e {k : Nat} {fs : List GateField} {n : List UInt8} (hk : 4194304 ≤ k) (hx : fs.length ≤ 1048576) : spec_l3Plain k fs n = some (plainN fs n) := by
  unfold spec_l3Plain
  rw [l3Field_e hk hx]
  simp only [Option.bind_some, plainN, fieldN]
  rcases gidx_find (fun f : GateField => seq f.Name n) fs with ⟨h1, h2⟩ | ⟨j, hj, h1, h2, _⟩
  · rw [h1, h2]; rfl
  · rw [h1, h2, ile_t (by omega), inb_n hj, nth_i hj]; rfl
theorem mendOk1_e {k : Nat} {fs : List GateField} {n : List UInt8} (hk : 4194304 ≤ k) (hx : fs.length ≤ 1048576) : impl_mendOk_1 k n fs = some (plainN fs n, fs) := by
  unfold impl_mendOk_1
  rw [placeOf_e hk hx]
  simp only [Option.bind_some, plainN, fieldN]
  rcases gidx_find (fun f : GateField => seq f.Name n) fs with ⟨h1, h2⟩ | ⟨j, hj, h1, h2, _⟩
  · rw [h1, h2]; rfl
  · rw [h1, h2, ile_t (by omega), inb_n hj, nth_i hj]; rfl
def fitsN (fs : List GateField) (n v : List UInt8) : Bool := match fieldN fs n with
  | some f => fits f v
  | none => false
def mendOk (fs : List GateField) (m : GateMend) : Bool :=
  plainN fs m.Field && ((seq m.When [] || plainN fs m.When) && ((seq m.From [] || plainN fs m.From) && (!seq m.When m.Field && (!seq m.From m.Field && ((!seq m.When [] || seq m.Is []) && (!Abs.beq (seq m.Put []) (seq m.From []) && (seq m.Put [] || fitsN fs m.Field m.Put)))))))
def mendsOkS (xs : List GateShape) (m : GateMend) : Bool := match xs.find? fun s => seq s.Kind m.Kind with
  | some s => mendOk s.Fields m
  | none => false

theorem plain_place {fs : List GateField} {n : List UInt8} (h : plainN fs n = true) : ∃ j, ∃ hj : j < fs.length, gidx (fun f => seq f.Name n) fs 0 = (j : Int) ∧ fieldN fs n = some fs[j] := by
  unfold plainN fieldN at *
  rcases gidx_find (fun f : GateField => seq f.Name n) fs with ⟨h1, h2⟩ | ⟨j, hj, h1, h2, _⟩
  · rw [h2] at h; cases h
  · exact ⟨j, hj, h1, h2⟩

theorem specMend_e {k : Nat} {xs : List GateShape} {m : GateMend} (hk : 4194304 ≤ k) (hx : sdS GateShape.sd xs) (hm : m.sd) : spec_l3MendOk k xs m = some (mendsOkS xs m) := by
  unfold spec_l3MendOk mendsOkS
  rw [l1Shape_e hk hx.1, fidx_gidx]
  simp only [Option.bind_some]
  rcases gidx_find (fun s : GateShape => seq s.Kind m.Kind) xs with ⟨h1, h2⟩ | ⟨j, hj, h1, h2, _⟩
  · rw [h1, h2]; rfl
  · have hs := hx.2 _ (mem_i hj)
    obtain ⟨-, m2, m3, m4, m5, m6⟩ := hm
    rw [h1, h2, ilt_f (by omega), inb_n hj, nth_i hj]
    simp only [cond_false, req_t, share, l3Plain_e hk hs.2.1, Option.bind_some, mendOk]
    generalize hF : xs[j].Fields = fs at *
    cases hp : plainN fs m.Field with
    | false => rfl
    | true =>
      obtain ⟨q, hq, q1, q2⟩ := plain_place hp
      have hfit : fitsN fs m.Field m.Put = fits fs[q] m.Put := by unfold fitsN; rw [q2]
      rw [l3Field_e hk (by rw [← hF]; exact hs.2.1), q1, hfit]
      simp only [Option.bind_some, inb_n hq, req_t, nth_i hq]
      rw [specFits_e hk (by subst hF; exact (hs.2.2 _ (mem_i hq)).2.2.2.2.1.1) m5]
      cases seq m.When [] <;> cases plainN fs m.When <;> cases seq m.From [] <;> cases plainN fs m.From <;> cases seq m.When m.Field <;> cases seq m.From m.Field <;> cases seq m.Is [] <;> cases seq m.Put [] <;> rfl
theorem implMend_e {k : Nat} {fs : List GateField} {m : GateMend} (hk : 4194304 ≤ k) (hx : sdS GateField.sd fs) (hm : m.sd) : impl_mendOk k fs m = some (mendOk fs m) := by
  unfold impl_mendOk
  obtain ⟨-, m2, m3, m4, m5, m6⟩ := hm
  simp only [share, mendOk1_e hk hx.1, Option.bind_some, mendOk]
  cases hp : plainN fs m.Field with
  | false => rfl
  | true =>
    obtain ⟨q, hq, q1, q2⟩ := plain_place hp
    have hfit : fitsN fs m.Field m.Put = fits fs[q] m.Put := by unfold fitsN; rw [q2]
    rw [placeOf_e hk hx.1, q1, hfit]
    simp only [Option.bind_some, inb_n hq, req_t, nth_i hq]
    rw [implFits_e hk (hx.2 _ (mem_i hq)).2.2.2.2.1.1 m5]
    cases seq m.When [] <;> cases plainN fs m.When <;> cases seq m.From [] <;> cases plainN fs m.From <;> cases seq m.When m.Field <;> cases seq m.From m.Field <;> cases seq m.Is [] <;> cases seq m.Put [] <;> rfl

end Go.Proofs.YtdfdiinbiipacaaGreat.Pu
