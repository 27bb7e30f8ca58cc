/- Shapes, all of them: both texts agree. No condition. -/
import Derived.Test.YtdfdiinbiipacaaDoorPwS
namespace Go.Proofs.YtdfdiinbiipacaaDoor.Pu
open Go Go.RowKit Go.Proofs.YtdfdiinbiipacaaDoor.Abs Go.Proofs.YtdfdiinbiipacaaDoor.Fn

section
variable {α R : Type} {x : List α} {B : Nat}
/-- All pass, each with its place. -/
def alli (p : Nat → α → Bool) : Nat → List α → Bool
  | _, [] => true
  | i, a :: r => p i a && alli p (i + 1) r
theorem loop_alli {p : Nat → α → Bool} {l : Nat → Int → R} {E O : R} (he : ∀ k, l (k + 1) (x.length : Int) = E)
    (h : ∀ k i (hi : i < x.length), B ≤ k → l (k + 1) (i : Int) = cond (p i x[i]) (l k ((i + 1 : Nat) : Int)) O) (k : Nat) (hk : B + x.length + 1 ≤ k) : l k 0 = cond (alli p 0 x) E O := by
  have go : ∀ m i k, i + m = x.length → B + m + 1 ≤ k → l k (i : Int) = cond (alli p i (x.drop i)) E O := by
    intro m
    induction m with
    | zero =>
      intro i k h1 h2
      obtain rfl : i = x.length := by omega
      obtain ⟨k, rfl⟩ : ∃ j, k = j + 1 := ⟨k - 1, by omega⟩
      simp [he, alli]
    | succ m ih =>
      intro i k h1 h2
      obtain ⟨k, rfl⟩ : ∃ j, k = j + 1 := ⟨k - 1, by omega⟩
      have hi : i < x.length := by omega
      rw [h k i hi (by omega), List.drop_eq_getElem_cons hi]
      simp only [alli]
      cases p i x[i] with
      | true => simpa using ih (i + 1) k (by omega) (by omega)
      | false => rfl
  have := go x.length 0 k (by omega) (by omega)
  simpa using this
end

/-- No name twice, none of those seen. -/
def distF : List (List UInt8) → List GateField → Bool
  | _, [] => true
  | q, f :: r => !(q.any fun y => seq y f.Name) && distF (q ++ [f.Name]) r
def shapeOk (ks : List (List UInt8)) (s : GateShape) : Bool := ile (s.Fields.length : Int) 6 && (s.Fields.all (fieldOk ks) && distF [] s.Fields)
def shapesOk (xs : List GateShape) : Bool := ile (xs.length : Int) 6 && (ascend (kinds xs) && xs.all (shapeOk (kinds xs)))

/-! ### The spec -/

theorem alli_dist {p : GateField → Bool} : ∀ (r pre : List GateField), alli (fun i f => p f && !(((pre ++ r).take i).any fun g => seq g.Name f.Name)) pre.length r = (r.all p && distF (pre.map (·.Name)) r)
  | [], _ => rfl
  | f :: r, pre => by
    have ih := alli_dist (p := p) r (pre ++ [f])
    simp only [List.append_assoc, List.singleton_append, List.length_append, List.length_cons, List.length_nil, List.map_append, List.map_cons, List.map_nil] at ih
    simp only [alli, distF, List.all_cons]
    rw [ih, List.take_left]
    have e : (pre.any fun g => seq g.Name f.Name) = ((pre.map (·.Name)).any fun y => seq y f.Name) := by rw [List.any_map]; rfl
    rw [e]
    cases p f <;> cases (pre.map (·.Name)).any fun y => seq y f.Name <;> cases r.all p <;> rfl

theorem spec_L15 {k : Nat} {xs : List GateShape} {i : Int} {q : Nat} {s : GateShape} {J : List GateShape → Int → Int → GateShape → Option Bool} (hq : q < s.Fields.length) (hs : s.Fields.length ≤ 1048576) (hk : 4194304 ≤ k) :
    iter (ts := spec_GateShapesOk_L15_ts) (R := Bool) k (spec_GateShapesOk_L15 J) xs i (q : Int) (0 : Int) s = cond ((s.Fields.take q).any fun g => seq g.Name s.Fields[q].Name) (some false) (J xs i q s) := by
  have hl : (s.Fields.take q).length = q := by simp; omega
  refine loop_any (x := s.Fields.take q) (p := fun g => seq g.Name s.Fields[q].Name) (B := 0) (l := fun k j => iter (ts := spec_GateShapesOk_L15_ts) (R := Bool) k (spec_GateShapesOk_L15 J) xs i (q : Int) j s)
    (fun k => by simp only [iter, spec_GateShapesOk_L15, hl, ilt_e, cond_false] <;> rfl)
    (fun k j hj _ => ?_) k (by omega)
  rw [hl] at hj
  have hj' : j < s.Fields.length := by omega
  simp only [iter, spec_GateShapesOk_L15, ilt_n hj, inb_n hj', inb_n hq, cond_true, req_t, nth_i hj', nth_i hq, iadd_n (n := q) (by omega) hj, List.getElem_take] <;> rfl

theorem spec_L10 {k : Nat} {xs : List GateShape} {i : Int} {s : GateShape} {J : List GateShape → Int → Option Bool} (hx : xs.length ≤ 1048576) (hs : s.sd) (hk : 4194304 * 3 ≤ k) :
    iter (ts := spec_GateShapesOk_L10_ts) (R := Bool) k (spec_GateShapesOk_L10 J) xs i (0 : Int) s = cond (s.Fields.all (fieldOk (kinds xs)) && distF [] s.Fields) (J xs i) (some false) := by
  have h := loop_alli (x := s.Fields) (p := fun q f => fieldOk (kinds xs) f && !((s.Fields.take q).any fun g => seq g.Name f.Name)) (B := 4194304 * 2) (l := fun k q => iter (ts := spec_GateShapesOk_L10_ts) (R := Bool) k (spec_GateShapesOk_L10 J) xs i q s) (E := J xs i) (O := some false)
    (fun k => by simp only [iter, spec_GateShapesOk_L10, ilt_e, cond_false] <;> rfl)
    (fun k q hq hb => by
      simp only [iter, spec_GateShapesOk_L10, share, ilt_n hq, inb_n hq, cond_true, req_t, nth_i hq, l1FieldOk_e (show 8388608 ≤ k by omega) hx (hs.2.2 _ (mem_i hq)), Option.bind_some]
      cases fieldOk (kinds xs) s.Fields[q] with
      | false => rfl
      | true =>
        simp only [Bool.not_true, cond_false, Bool.true_and]
        refine (spec_L15 hq hs.2.1 (by omega)).trans ?_
        rw [iadd_n hs.2.1 hq]
        cases (s.Fields.take q).any fun g => seq g.Name s.Fields[q].Name <;> rfl) k (by have := hs.2.1; omega)
  have e := alli_dist (p := fieldOk (kinds xs)) s.Fields []
  simp only [List.nil_append, List.length_nil, List.map_nil] at e
  rw [e] at h
  exact h

theorem specShapesOk_e {k : Nat} {xs : List GateShape} (hx : sdS GateShape.sd xs) (hk : 4194304 * 4 ≤ k) : spec_GateShapesOk k xs = some (shapesOk xs) := by
  unfold spec_GateShapesOk
  have h := loop_chain (x := xs) (p := fun o s => ascP (o.map (·.Kind)) s.Kind && shapeOk (kinds xs) s) (B := 4194304 * 3) (l := fun k i => iter (ts := spec_GateShapesOk_L4_ts) (R := Bool) k (spec_GateShapesOk_L4 (some true)) xs i) (E := some true) (O := some false)
    (fun k => by simp only [iter, spec_GateShapesOk_L4, ilt_e, cond_false] <;> rfl)
    (fun k i hi hb => by
      have hsi := hx.2 _ (mem_i hi)
      simp only [iter, spec_GateShapesOk_L4, share, ilt_n hi, inb_n hi, cond_true, req_t, nth_i hi, l1NameOk_e (show 4194304 ≤ k by omega) hsi.1, Option.bind_some, iadd_n hx.1 hi]
      have fin : ∀ c : Bool, cond c (some false) (iter (ts := spec_GateShapesOk_L10_ts) (R := Bool) k (spec_GateShapesOk_L10 fun v603 v604 => iter (ts := spec_GateShapesOk_L4_ts) (R := Bool) k (spec_GateShapesOk_L4 (some true)) v603 (iadd .i64 v604 1)) xs (i : Int) (0 : Int) xs[i]) =
          cond (!c && (xs[i].Fields.all (fieldOk (kinds xs)) && distF [] xs[i].Fields)) (iter (ts := spec_GateShapesOk_L4_ts) (R := Bool) k (spec_GateShapesOk_L4 (some true)) xs ((i + 1 : Nat) : Int)) (some false) := by
        intro c
        cases c with
        | true => rfl
        | false =>
          refine (spec_L10 hx.1 hsi (by omega)).trans ?_
          rw [iadd_n hx.1 hi]
          rfl
      simp only [ascP, shapeOk, ← not_ilt]
      rcases Nat.eq_zero_or_pos i with rfl | h0
      · simp only [ilt_00, ahead_0]
        cases nameOk xs[0].Kind with
        | false => exact (fin true).trans rfl
        | true => exact fin _
      · have hi' : i - 1 < xs.length := by omega
        simp only [ilt_0 h0, isub_n h0 (by have := hx.1; omega), inb_n hi', cond_true, req_t, nth_i hi', ahead_s h0 hi, Option.map_some]
        cases nameOk xs[i].Kind with
        | false => exact (fin true).trans rfl
        | true =>
          cases slt xs[i - 1].Kind xs[i].Kind with
          | false => exact (fin true).trans rfl
          | true => exact fin _) k (by have := hx.1; omega)
  simp only [share]
  have e1 : chain (fun o s => ascP (o.map (·.Kind)) s.Kind && shapeOk (kinds xs) s) none xs = (ascend (kinds xs) && xs.all (shapeOk (kinds xs))) := by
    rw [chain_and, chain_all]
    congr 1
    exact (chain_map (f := GateShape.Kind) (p := ascP) xs none).symm
  rw [e1] at h
  simp only [shapesOk, ilt_not]
  cases ile (xs.length : Int) 6 with
  | false => rfl
  | true => exact h.trans (by cases ascend (kinds xs) && xs.all (shapeOk (kinds xs)) <;> rfl)

/-! ### The program -/

theorem linkSound_e {k : Nat} {f : GateField} {ks : List (List UInt8)} (hk : 4194304 ≤ k) (hx : ks.length ≤ 1048576) (h4 : ieq f.Kind 4 = true) : impl_linkField_sound k ⟨f⟩ ks = some (sound ks f) := by
  unfold impl_linkField_sound
  simp only [share]
  have h := fun J : NumberField → Bool → Option Bool => loop_fold (S := Bool) (x := ks) (f := fun (t : Bool) y => t || seq y f.To) (B := 0) (l := fun k t i => iter (ts := impl_linkField_sound_L3_ts) (R := Bool) k (impl_linkField_sound_L3 J) ⟨f⟩ t ks (ks.length : Int) i) (J := fun t => J ⟨f⟩ t) (fun _ _ => True)
    (fun k t _ => by simp only [iter, impl_linkField_sound_L3, ilt_e, cond_false] <;> rfl)
    (fun k i t hi _ _ => ⟨by simp only [iter, impl_linkField_sound_L3, share, ilt_n hi, inb_n hi, cond_true, req_t, nth_i hi, iadd_n hx hi]; cases t <;> rfl, trivial⟩) k false (by omega) trivial
  have e : ∀ (y : List (List UInt8)) (t : Bool), y.foldl (fun (t : Bool) y => t || seq y f.To) t = (t || y.any fun k => seq k f.To) := by
    intro y
    induction y with
    | nil => intro t; simp
    | cons a r ih => intro t; rw [List.foldl_cons, ih, List.any_cons, Bool.or_assoc]
  refine (h _).trans ?_
  rw [e]
  have e1 := ieq_f h4 (c := 1) (by decide)
  have e2 := ieq_f h4 (c := 2) (by decide)
  have e3 := ieq_f h4 (c := 3) (by decide)
  simp only [e, sound, e1, e2, e3, h4, Bool.false_or]
  cases ks.any fun k => seq k f.To <;> cases ile 1 f.Role <;> cases ile f.Role 3 <;> cases seq f.Default [] <;> cases ieq f.Role 2 <;> cases f.Must <;> rfl

def seen1 (n : List UInt8) (m : List Pair) : Int := mget (fun p : Pair => seq n p.Key) (fun p : Pair => p.Val) (0 : Int) m
def see (n : List UInt8) (m : List Pair) : List Pair := mput (fun p : Pair => seq n p.Key) m ⟨n, iadd .i64 (seen1 n m) 1⟩
theorem seen1_see (n n' : List UInt8) (m : List Pair) : seen1 n' (see n m) = cond (seq n' n) (iadd .i64 (seen1 n m) 1) (seen1 n' m) := mget_mput (key := Pair.Key) (y := ⟨n, iadd .i64 (seen1 n m) 1⟩)
def stepS (ks : List (List UInt8)) (m : List Pair) (_ : Nat) (f : GateField) : List Pair ⊕ Option Bool := cond (fieldOk ks f && !ilt 1 (seen1 f.Name (see f.Name m))) (.inl (see f.Name m)) (.inr (some false))

theorem scanS (ks : List (List UInt8)) : ∀ (r : List GateField) (i : Nat) (m : List Pair) (q : List (List UInt8)), (∀ n, seen1 n m = if q.any (fun y => seq y n) then 1 else 0) → fin (fun _ => some true) (scan (stepS ks) r i m) = some (r.all (fieldOk ks) && distF q r)
  | [], _, _, _, _ => rfl
  | f :: r, i, m, q, h => by
    simp only [scan, stepS, List.all_cons, distF]
    have e0 : seen1 f.Name (see f.Name m) = iadd .i64 (seen1 f.Name m) 1 := by rw [seen1_see, seq_self]; rfl
    rw [e0, h f.Name]
    cases fieldOk ks f with
    | false => rfl
    | true =>
      cases hq : q.any fun y => seq y f.Name with
      | true =>
        simp only [if_true]
        rw [show (iadd .i64 (1 : Int) 1) = 2 from rfl, show ilt 1 2 = true from rfl]
        simp [fin]
      | false =>
        simp only [Bool.false_eq_true, if_false]
        rw [show (iadd .i64 (0 : Int) 1) = 1 from rfl, show ilt 1 1 = false from rfl]
        simp only [Bool.not_false, Bool.and_true, cond_true, Bool.true_and]
        refine scanS ks r (i + 1) _ (q ++ [f.Name]) fun n => ?_
        rw [seen1_see, h f.Name, h n, hq, List.any_append]
        cases hn : seq n f.Name with
        | true =>
          have e := seq_iff.1 hn
          subst e
          simp [seq_self]; rfl
        | false =>
          rw [show (([f.Name] : List (List UInt8)).any fun y => seq y n) = false by simp [seq_comm f.Name n, hn], Bool.or_false]; rfl

set_option maxHeartbeats 1000000 in
theorem implShapeOk_e {k : Nat} {s : GateShape} {ks : List (List UInt8)} (hs : s.sd) (hks : ks.length ≤ 1048576) (hk : 4194304 * 4 ≤ k) : impl_shapeOk k s ks = some (shapeOk ks s) := by
  unfold impl_shapeOk
  have h := loop_scan (S := List Pair) (R := Option Bool) (x := s.Fields) (f := stepS ks) (B := 4194304 * 3) (l := fun k m i => iter (ts := impl_shapeOk_L5_ts) (R := Bool) k (impl_shapeOk_L5 (some true)) ks s.Fields (s.Fields.length : Int) i m) (J := fun _ => some true) (fun _ _ => True)
    (fun k m _ => by simp only [iter, impl_shapeOk_L5, ilt_e, cond_false] <;> rfl)
    (fun k i m hi hb _ => ⟨by
      obtain ⟨f1, -, -, -, f5, -, -, -, -, f10, f11⟩ := hs.2.2 _ (mem_i hi)
      have hk1 : 4194304 ≤ k := by omega
      have hk2 : 8388608 ≤ k := by omega
      simp only [iter, impl_shapeOk_L5, share, ilt_n hi, inb_n hi, cond_true, req_t, nth_i hi, iadd_n hs.2.1 hi, isName_e hk1 f1, Option.bind_some]
      have em : (mput (fun p : Pair => seq s.Fields[i].Name p.Key) m (⟨s.Fields[i].Name, (iadd .i64 (mget (fun p : Pair => seq s.Fields[i].Name p.Key) (fun p : Pair => p.Val) (0 : Int) m) (1 : Int))⟩ : Pair)) = see s.Fields[i].Name m := rfl
      have es : mget (fun p : Pair => seq s.Fields[i].Name p.Key) (fun p : Pair => p.Val) (0 : Int) (see s.Fields[i].Name m) = seen1 s.Fields[i].Name (see s.Fields[i].Name m) := rfl
      simp only [em, es]
      unfold stepS fieldOk
      generalize see s.Fields[i].Name m = m'
      generalize iter (ts := impl_shapeOk_L5_ts) (R := Bool) k (impl_shapeOk_L5 (some true)) = rec
      generalize hF : s.Fields[i] = f at *
      cases nameOk f.Name with
      | false => rfl
      | true =>
        simp only [Bool.not_true, cond_false, Bool.true_and, impl_sortOf, impl_sortOf_1, impl_sortOf_2, impl_sortOf_3, impl_sortOf_4, Option.bind_some]
        cases ilt 1 (seen1 f.Name m') with
        | true => simp [fin] <;> rfl
        | false =>
          simp only [cond_false, Bool.not_false, Bool.and_true]
          cases k1 : ieq f.Kind 1 with
          | true =>
            simp only [cond_true, Option.bind_some, sumC, impl_numberField_clean, impl_numberField_sound, implFits_e hk1 f5.1 f10, isName_e hk1 f11, bare, sound, k1]
            cases ieq (f.Words.length : Int) 0 <;> cases seq f.To [] <;> cases ieq f.Role 0 <;> cases ile 0 f.Least <;> cases ile f.Least f.Most <;> cases ile f.Most 1000000 <;> cases seq f.Weighs [] <;> cases nameOk f.Weighs <;> cases seq f.Default [] <;> cases fits f f.Default <;> rfl
          | false =>
            simp only [cond_false]
            cases k2 : ieq f.Kind 2 with
            | true =>
              simp only [cond_true, Option.bind_some, sumC, impl_wordField_clean, impl_wordField_sound, implFits_e hk1 f5.1 f10, ascendingNames_e hk2 f5, bare, sound, k1, k2]
              cases ieq f.Least 0 <;> cases ieq f.Most 0 <;> cases seq f.To [] <;> cases ieq f.Role 0 <;> cases seq f.Weighs [] <;> cases ile 1 (f.Words.length : Int) <;> cases ile (f.Words.length : Int) 6 <;> cases ascend f.Words <;> cases seq f.Default [] <;> cases fits f f.Default <;> rfl
            | false =>
              simp only [cond_false]
              cases k3 : ieq f.Kind 3 with
              | true =>
                simp only [cond_true, Option.bind_some, sumC, impl_textField_clean, impl_textField_sound, implFits_e hk1 f5.1 f10, bare, sound, k1, k2, k3]
                cases ieq (f.Words.length : Int) 0 <;> cases seq f.To [] <;> cases ieq f.Role 0 <;> cases seq f.Weighs [] <;> cases ile 1 f.Least <;> cases ile f.Least f.Most <;> cases ile f.Most 40 <;> cases seq f.Default [] <;> cases fits f f.Default <;> rfl
              | false =>
                simp only [cond_false]
                cases k4 : ieq f.Kind 4 with
                | true =>
                  simp only [cond_true, Option.bind_some, sumC, impl_linkField_clean, linkSound_e hk1 hks k4, implFits_e hk1 f5.1 f10]
                  generalize sound ks f = sd
                  simp only [bare, k1, k2, k3, k4]
                  cases ieq f.Least 0 <;> cases ieq f.Most 0 <;> cases ieq (f.Words.length : Int) 0 <;> cases seq f.Weighs [] <;> cases sd <;> cases seq f.Default [] <;> cases fits f f.Default <;> rfl
                | false => rw [bare_k k1 k2 k3 k4]; rfl, fun _ _ => trivial⟩) k [] (by have := hs.2.1; omega) trivial
  simp only [share, shapeOk, ilt_not]
  cases ile (s.Fields.length : Int) 6 with
  | false => rfl
  | true => exact h.trans (by rw [scanS ks s.Fields 0 [] [] fun n => rfl]; rfl)

theorem implShapesOk_e {k : Nat} {xs : List GateShape} (hx : sdS GateShape.sd xs) (hk : 4194304 * 5 ≤ k) : impl_GateShapesOk k xs = some (shapesOk xs) := by
  unfold impl_GateShapesOk
  have hkinds : sdS sdStr (kinds xs) := ⟨by simp only [kinds, List.length_map]; exact hx.1, fun y hy => by
    obtain ⟨s, h1, rfl⟩ := List.mem_map.1 hy
    exact (hx.2 s h1).1⟩
  have h1 := fun (J : List GateShape → List (List UInt8) → Option Bool) => loop_fold (S := List (List UInt8)) (x := xs) (f := fun (q : List (List UInt8)) s => q ++ [s.Kind]) (B := 0) (l := fun k q i => iter (ts := impl_GateShapesOk_L5_ts) (R := Bool) k (impl_GateShapesOk_L5 J) xs xs (xs.length : Int) i q) (J := fun q => J xs q) (fun i q => q.length = i)
    (fun k q _ => by simp only [iter, impl_GateShapesOk_L5, ilt_e, cond_false] <;> rfl)
    (fun k i q hi _ hq => ⟨by
      have := hx.1
      simp only [iter, impl_GateShapesOk_L5, ilt_n hi, inb_n hi, cond_true, req_t, nth_i hi, iadd_n hx.1 hi]
      rw [appB_t (by simp; omega) (by omega)]; rfl, by simp [hq]⟩) k [] (by have := hx.1; omega) rfl
  have e : ∀ (y : List GateShape) (q : List (List UInt8)), y.foldl (fun (q : List (List UInt8)) s => q ++ [s.Kind]) q = q ++ kinds y := by
    intro y
    induction y with
    | nil => intro q; simp [kinds]
    | cons a r ih => intro q; rw [List.foldl_cons, ih]; simp [kinds]
  have h2 := loop_all (x := xs) (p := shapeOk (kinds xs)) (B := 4194304 * 4) (l := fun k i => iter (ts := impl_GateShapesOk_L12_ts) (R := Bool) k (impl_GateShapesOk_L12 (some true)) xs (xs.length : Int) i (kinds xs)) (E := some true) (O := some false)
    (fun k => by simp only [iter, impl_GateShapesOk_L12, ilt_e, cond_false] <;> rfl)
    (fun k i hi hb => by
      simp only [iter, impl_GateShapesOk_L12, ilt_n hi, inb_n hi, cond_true, req_t, nth_i hi, iadd_n hx.1 hi, implShapeOk_e (hx.2 _ (mem_i hi)) hkinds.1 hb, Option.bind_some]
      cases shapeOk (kinds xs) xs[i] <;> rfl) k (by have := hx.1; omega)
  simp only [share, shapesOk, ilt_not]
  cases hl : ile (xs.length : Int) 6 with
  | false => rfl
  | true =>
    rw [show mkB (0 : Int) (xs.length : Int) 16 = true by
      simp only [mkB, Bool.and_eq_true, decide_eq_true_eq]; have := hx.1; omega]
    simp only [Bool.not_true, cond_false, req_t]
    refine (h1 _).trans ?_
    rw [e, List.nil_append]
    simp only [ascendingNames_e (show 8388608 ≤ k by omega) hkinds, Option.bind_some, h2]
    cases ascend (kinds xs) <;> cases xs.all (shapeOk (kinds xs)) <;> rfl

end Go.Proofs.YtdfdiinbiipacaaDoor.Pu
