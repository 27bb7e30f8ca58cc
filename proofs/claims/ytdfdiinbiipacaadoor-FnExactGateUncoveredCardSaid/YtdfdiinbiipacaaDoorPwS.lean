/- Shapes: both texts agree. No condition. -/
import Derived.Test.YtdfdiinbiipacaaDoorPwB
namespace Go.Proofs.YtdfdiinbiipacaaDoor.Pu
open Go Go.RowKit Go.Proofs.YtdfdiinbiipacaaDoor.Abs Go.Proofs.YtdfdiinbiipacaaDoor.Fn

/-! ### Ascending names -/

def ascP (q : Option (List UInt8)) (s : List UInt8) : Bool := nameOk s && (match q with | none => true | some p => slt p s)
def ascend (xs : List (List UInt8)) : Bool := chain ascP none xs
theorem l1Ascending_e {k : Nat} {xs : List (List UInt8)} (hk : 8388608 ≤ k) (hx : sdS sdStr xs) : spec_l1Ascending k xs = some (ascend xs) := by
  unfold spec_l1Ascending
  have h := loop_chain (x := xs) (p := ascP) (B := 4194304) (l := fun k i => iter (ts := spec_l1Ascending_L2_ts) (R := Bool) k (spec_l1Ascending_L2 (some true)) xs i) (E := some true) (O := some false)
    (fun k => by simp only [iter, spec_l1Ascending_L2, ilt_e, cond_false] <;> rfl)
    (fun k i hi hb => by
      simp only [iter, spec_l1Ascending_L2, share, ilt_n hi, inb_n hi, cond_true, req_t, nth_i hi, l1NameOk_e hb (hx.2 _ (mem_i hi)), Option.bind_some, iadd_n hx.1 hi]
      rcases Nat.eq_zero_or_pos i with rfl | h0
      · simp only [ilt_00, ahead_0, ascP]
        cases nameOk xs[0] <;> rfl
      · have hi' : i - 1 < xs.length := by omega
        simp only [ilt_0 h0, isub_n h0 (by have := hx.1; omega), inb_n hi', cond_true, req_t, nth_i hi', ahead_s h0 hi, ascP]
        cases nameOk xs[i] <;> cases slt xs[i - 1] xs[i] <;> rfl) k (by have := hx.1; omega)
  simp only [share]
  exact h.trans (by unfold ascend; cases chain ascP none xs <;> rfl)
theorem ascendingNames_e {k : Nat} {xs : List (List UInt8)} (hk : 8388608 ≤ k) (hx : sdS sdStr xs) : impl_ascendingNames k xs = some (ascend xs) := by
  unfold impl_ascendingNames
  have h := loop_chain (x := xs) (p := ascP) (B := 4194304) (l := fun k i => iter (ts := impl_ascendingNames_L2_ts) (R := Bool) k (impl_ascendingNames_L2 (some true)) xs xs (xs.length : Int) i) (E := some true) (O := some false)
    (fun k => by simp only [iter, impl_ascendingNames_L2, ilt_e, cond_false] <;> rfl)
    (fun k i hi hb => by
      simp only [iter, impl_ascendingNames_L2, share, ilt_n hi, inb_n hi, cond_true, req_t, nth_i hi, isName_e hb (hx.2 _ (mem_i hi)), Option.bind_some, iadd_n hx.1 hi]
      rcases Nat.eq_zero_or_pos i with rfl | h0
      · simp only [ilt_00, ahead_0, ascP]
        cases nameOk xs[0] <;> rfl
      · have hi' : i - 1 < xs.length := by omega
        simp only [ilt_0 h0, isub_n h0 (by have := hx.1; omega), inb_n hi', cond_true, req_t, nth_i hi', ahead_s h0 hi, ascP]
        cases nameOk xs[i] <;> cases slt xs[i - 1] xs[i] <;> rfl) k (by have := hx.1; omega)
  simp only [share]
  exact h.trans (by unfold ascend; cases chain ascP none xs <;> rfl)

/-! ### A shape by its kind -/

def fidx (to : List UInt8) : List GateShape → Nat → Int
  | [], _ => -1
  | s :: r, i => cond (seq s.Kind to) (i : Int) (fidx to r (i + 1))
theorem fidx_pos (to : List UInt8) : ∀ (xs : List GateShape) (i : Nat), ile 0 (fidx to xs i) = xs.any fun s => seq s.Kind to
  | [], i => rfl
  | s :: r, i => by
    simp only [fidx, List.any_cons]
    cases seq s.Kind to with
    | true => exact ile_t (by simp)
    | false => exact fidx_pos to r (i + 1)
theorem l1Shape_l {xs : List GateShape} {to : List UInt8} (hx : xs.length ≤ 1048576) : ∀ m i k : Nat, i + m = xs.length → m < k →
    iter (ts := spec_l1Shape_L2_ts) (R := Int) k (spec_l1Shape_L2 (some (-1))) xs to (i : Int) = some (fidx to (xs.drop i) i)
  | _, _, 0, _, h => by omega
  | 0, i, k + 1, h, _ => by
    obtain rfl : i = xs.length := by omega
    simp only [iter, spec_l1Shape_L2, ilt_e, cond_false, List.drop_length, fidx] <;> rfl
  | m + 1, i, k + 1, h, hk => by
    have hi : i < xs.length := by omega
    have ih := l1Shape_l (to := to) hx m (i + 1) k (by omega) (by omega)
    simp only [iter, spec_l1Shape_L2, ilt_n hi, inb_n hi, cond_true, req_t, nth_i hi, iadd_n hx hi]
    rw [List.drop_eq_getElem_cons hi]
    simp only [fidx]
    cases seq xs[i].Kind to with
    | true => rfl
    | false => exact ih
theorem l1Shape_e {k : Nat} {xs : List GateShape} {to : List UInt8} (hk : 4194304 ≤ k) (hx : xs.length ≤ 1048576) : spec_l1Shape k xs to = some (fidx to xs 0) := by
  unfold spec_l1Shape
  simp only [share]
  exact l1Shape_l hx xs.length 0 k (by omega) (by omega)
def kinds (xs : List GateShape) : List (List UInt8) := xs.map (·.Kind)
theorem kinds_any (xs : List GateShape) (to : List UInt8) : (kinds xs).any (fun k => seq k to) = xs.any fun s => seq s.Kind to := by simp only [kinds, List.any_map]; rfl

/-! ### A field -/

def bare (f : GateField) : Bool :=
  cond (ieq f.Kind 1) (ieq (f.Words.length : Int) 0 && (seq f.To [] && ieq f.Role 0))
  (cond (ieq f.Kind 2) (ieq f.Least 0 && (ieq f.Most 0 && (seq f.To [] && (ieq f.Role 0 && seq f.Weighs []))))
  (cond (ieq f.Kind 3) (ieq (f.Words.length : Int) 0 && (seq f.To [] && (ieq f.Role 0 && seq f.Weighs [])))
  (cond (ieq f.Kind 4) (ieq f.Least 0 && (ieq f.Most 0 && (ieq (f.Words.length : Int) 0 && seq f.Weighs []))) false)))
def sound (ks : List (List UInt8)) (f : GateField) : Bool :=
  cond (ieq f.Kind 1) (ile 0 f.Least && (ile f.Least f.Most && (ile f.Most 1000000 && (seq f.Weighs [] || nameOk f.Weighs))))
  (cond (ieq f.Kind 2) (ile 1 (f.Words.length : Int) && (ile (f.Words.length : Int) 6 && ascend f.Words))
  (cond (ieq f.Kind 3) (ile 1 f.Least && (ile f.Least f.Most && ile f.Most 40))
  (cond (ieq f.Kind 4) (ks.any (fun k => seq k f.To) && (ile 1 f.Role && (ile f.Role 3 && (seq f.Default [] && (!ieq f.Role 2 || !f.Must))))) false)))
def fieldOk (ks : List (List UInt8)) (f : GateField) : Bool := nameOk f.Name && (bare f && ((seq f.Default [] || fits f f.Default) && sound ks f))

theorem ieq_f {m n c : Int} (h : ieq m n = true) (hn : n ≠ c) : ieq m c = false := by
  simp only [ieq, beq_iff_eq] at h ⊢
  rw [beq_eq_false_iff_ne, h]; exact hn
theorem bare_k {f : GateField} (h1 : ieq f.Kind 1 = false) (h2 : ieq f.Kind 2 = false) (h3 : ieq f.Kind 3 = false) (h4 : ieq f.Kind 4 = false) : bare f = false := by
  simp only [bare, h1, h2, h3, h4, cond_false]
theorem ilt_len0 (n : Nat) : ilt 0 (n : Int) = !ieq (n : Int) 0 := by
  by_cases h : n = 0
  · subst h; rfl
  · rw [ilt_t (by omega), show ieq (n : Int) 0 = false by simp [ieq]; omega]; rfl
/-- What the spec's bareness says, with the kind's own test beside it. -/
theorem l1Bare_e (k : Nat) (f : GateField) (ks : List (List UInt8)) : ∃ b, spec_l1Bare k f = some b ∧ (b && sound ks f) = (bare f && sound ks f) := by
  unfold spec_l1Bare
  simp only [share, ilt_len0]
  have key : ∀ b : Bool, (sound ks f = true → b = bare f) → (b && sound ks f) = (bare f && sound ks f) := fun b h => by
    cases hs : sound ks f with
    | true => rw [h hs]
    | false => simp
  cases h1 : ieq f.Kind 1 with
  | true =>
    have e2 := ieq_f h1 (c := 2) (by decide)
    have e4 := ieq_f h1 (c := 4) (by decide)
    refine ⟨bare f, ?_, rfl⟩
    simp only [e2, e4, bare, h1]
    cases ieq (f.Words.length : Int) 0 <;> cases seq f.To [] <;> rfl
  | false =>
    cases h2 : ieq f.Kind 2 with
    | true =>
      have e3 := ieq_f h2 (c := 3) (by decide)
      have e4 := ieq_f h2 (c := 4) (by decide)
      refine ⟨bare f, ?_, rfl⟩
      simp only [e3, e4, bare, h1, h2]
      cases ieq f.Least 0 <;> cases ieq f.Most 0 <;> cases seq f.Weighs [] <;> cases seq f.To [] <;> cases ieq f.Role 0 <;> rfl
    | false =>
      cases h3 : ieq f.Kind 3 with
      | true =>
        have e4 := ieq_f h3 (c := 4) (by decide)
        refine ⟨bare f, ?_, rfl⟩
        simp only [e4, bare, h1, h2, h3]
        cases seq f.Weighs [] <;> cases ieq (f.Words.length : Int) 0 <;> cases seq f.To [] <;> cases ieq f.Role 0 <;> rfl
      | false =>
        cases h4 : ieq f.Kind 4 with
        | true =>
          refine ⟨bare f, ?_, rfl⟩
          simp only [bare, h1, h2, h3, h4]
          cases ieq f.Least 0 <;> cases ieq f.Most 0 <;> cases seq f.Weighs [] <;> cases ieq (f.Words.length : Int) 0 <;> rfl
        | false =>
          have hs : sound ks f = false := by simp only [sound, h1, h2, h3, h4, cond_false]
          rw [hs]
          cases ieq f.Least 0 <;> cases ieq f.Most 0 <;> cases seq f.Weighs [] <;> cases ieq (f.Words.length : Int) 0 <;> cases seq f.To [] <;> cases ieq f.Role 0 <;> exact ⟨_, rfl, by simp⟩

theorem l1FieldOk_e {k : Nat} {xs : List GateShape} {f : GateField} (hk : 8388608 ≤ k) (hx : xs.length ≤ 1048576) (hf : f.sd) : spec_l1FieldOk k xs f = some (fieldOk (kinds xs) f) := by
  obtain ⟨f1, -, -, -, f5, -, -, -, -, f10, f11⟩ := hf
  obtain ⟨b, hb1, hb2⟩ := l1Bare_e k f (kinds xs)
  unfold spec_l1FieldOk fieldOk
  simp only [share, in_e, l1NameOk_e (show 4194304 ≤ k by omega) f1, l1NameOk_e (show 4194304 ≤ k by omega) f11, hb1, specFits_e (show 4194304 ≤ k by omega) f5.1 f10, l1Ascending_e hk f5, l1Shape_e (show 4194304 ≤ k by omega) hx, Option.bind_some, fidx_pos, ← kinds_any]
  have e : (bare f && ((seq f.Default [] || fits f f.Default) && sound (kinds xs) f)) = (b && ((seq f.Default [] || fits f f.Default) && sound (kinds xs) f)) := by
    cases hs : sound (kinds xs) f with
    | false => simp
    | true => rw [hs] at hb2; simp only [Bool.and_true] at hb2 ⊢; rw [hb2]
  rw [e]
  have fin : ∀ c : Bool, cond c (some false) (cond (ieq f.Kind 1) (cond (ile 0 f.Least) (cond (ile f.Least f.Most) (cond (ile f.Most 1000000) (cond (seq f.Weighs []) (some true) (some (nameOk f.Weighs))) (some false)) (some false)) (some false))
      (cond (ieq f.Kind 2) (cond (ile 1 (f.Words.length : Int) && ile (f.Words.length : Int) 6) (some (ascend f.Words)) (some false))
      (cond (ieq f.Kind 3) (cond (ile 1 f.Least) (cond (ile f.Least f.Most) (some (ile f.Most 40)) (some false)) (some false))
      (cond (ieq f.Kind 4) (cond ((kinds xs).any fun k => seq k f.To) (cond (ile 1 f.Role && ile f.Role 3) (cond (seq f.Default []) (cond (!ieq f.Role 2) (some true) (some (!f.Must))) (some false)) (some false)) (some false)) (some false))))) = some (!c && sound (kinds xs) f) := by
    intro c
    cases c with
    | true => rfl
    | false =>
      simp only [cond_false, Bool.not_false, Bool.true_and, sound]
      cases ieq f.Kind 1 with
      | true => cases ile 0 f.Least <;> cases ile f.Least f.Most <;> cases ile f.Most 1000000 <;> cases seq f.Weighs [] <;> rfl
      | false => cases ieq f.Kind 2 with
        | true => cases ile 1 (f.Words.length : Int) <;> cases ile (f.Words.length : Int) 6 <;> rfl
        | false => cases ieq f.Kind 3 with
          | true => cases ile 1 f.Least <;> cases ile f.Least f.Most <;> rfl
          | false => cases ieq f.Kind 4 with
            | true => cases (kinds xs).any fun k => seq k f.To <;> cases ile 1 f.Role <;> cases ile f.Role 3 <;> cases seq f.Default [] <;> cases ieq f.Role 2 <;> rfl
            | false => rfl
  simp only [fin]
  cases nameOk f.Name <;> cases b <;> cases seq f.Default [] <;> cases fits f f.Default <;> rfl

end Go.Proofs.YtdfdiinbiipacaaDoor.Pu
