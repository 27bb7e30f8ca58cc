/- Mends: the two texts agree. No condition. -/
import Derived.Test.YtdfdiinbiipacaaGreatPwD
namespace Go.Proofs.YtdfdiinbiipacaaGreat.Pu
open Go Go.RowKit Go.Proofs.YtdfdiinbiipacaaGreat.Abs Go.Proofs.YtdfdiinbiipacaaGreat.Fn

/-! ### Ascending rows have no twins -/

theorem slt_irr : ∀ a : List UInt8, slt a a = false
  | [] => rfl
  | a :: r => by
    have := slt_irr r
    simp only [slt, Op.bytesLess] at *
    simp [this]
theorem slt_tr : ∀ {a b c : List UInt8}, slt a b = true → slt b c = true → slt a c = true
  | [], b, c, h1, h2 => by
    cases c with
    | nil => cases b <;> simp [slt, Op.bytesLess] at h2
    | cons => rfl
  | a :: r, b, c, h1, h2 => by
    cases b with
    | nil => simp [slt, Op.bytesLess] at h1
    | cons b s =>
      cases c with
      | nil => simp [slt, Op.bytesLess] at h2
      | cons c t =>
        have ih := @slt_tr r s t
        simp only [slt, Op.bytesLess, Bool.or_eq_true, Bool.and_eq_true, decide_eq_true_eq, beq_iff_eq] at *
        rcases h1 with h1 | ⟨rfl, h1⟩
        · rcases h2 with h2 | ⟨rfl, h2⟩
          · exact .inl (UInt8.lt_trans h1 h2)
          · exact .inl h1
        · rcases h2 with h2 | ⟨rfl, h2⟩
          · exact .inl h2
          · exact .inr ⟨rfl, ih h1 h2⟩
theorem chain_asc : ∀ {xs : List (List UInt8)} {q : Option (List UInt8)}, chain ascP q xs = true → xs.Nodup ∧ ∀ p, q = some p → ∀ y, y ∈ xs → slt p y = true
  | [], _, _ => ⟨List.nodup_nil, fun _ _ _ h => by cases h⟩
  | a :: r, q, h => by
    simp only [chain, ascP, Bool.and_eq_true] at h
    obtain ⟨⟨-, h1⟩, h2⟩ := h
    obtain ⟨h3, h4⟩ := chain_asc h2
    refine ⟨List.nodup_cons.2 ⟨fun hm => ?_, h3⟩, fun p hp y hy => ?_⟩
    · have := h4 a rfl a hm
      rw [slt_irr] at this; cases this
    · subst hp
      rcases List.mem_cons.1 hy with e | e
      · exact e ▸ h1
      · exact slt_tr h1 (h4 a rfl y e)
theorem asc_nodup {xs : List (List UInt8)} (h : ascend xs = true) : xs.Nodup := (chain_asc h).1
theorem distF_nodup : ∀ {r : List GateField} {q : List Nm}, distF q r = true → (r.map (·.Name)).Nodup ∧ ∀ y, y ∈ r.map (·.Name) → y ∉ q
  | [], _, _ => ⟨List.nodup_nil, fun _ h => by cases h⟩
  | f :: r, q, h => by
    simp only [distF, Bool.and_eq_true, Bool.not_eq_true'] at h
    obtain ⟨h1, h2⟩ := h
    obtain ⟨h3, h4⟩ := distF_nodup h2
    refine ⟨List.nodup_cons.2 ⟨fun hm => h4 _ hm (by simp), h3⟩, fun y hy hq => ?_⟩
    rcases List.mem_cons.1 hy with e | e
    · have : q.any (fun y => seq y f.Name) = true := List.any_eq_true.2 ⟨y, hq, seq_iff.2 e⟩
      rw [h1] at this; cases this
    · exact h4 y e (by simp [hq])

/-! ### What mends read lies in the shape -/

theorem find_kind : ∀ {xs : List GateShape} {s : GateShape} {n : Nm}, (kinds xs).Nodup → s ∈ xs → s.Kind = n → xs.find? (fun s => seq s.Kind n) = some s
  | [], _, _, _, h, _ => by cases h
  | a :: r, s, n, hn, hs, e => by
    simp only [kinds, List.map_cons, List.nodup_cons] at hn
    rw [List.find?_cons]
    rcases List.mem_cons.1 hs with h | h
    · subst h
      rw [show seq s.Kind n = true from seq_iff.2 e]
    · cases ha : seq a.Kind n with
      | true =>
        have hm : s.Kind ∈ r.map (·.Kind) := List.mem_map_of_mem h
        rw [e, ← seq_iff.1 ha] at hm
        exact absurd hm hn.1
      | false => exact find_kind hn.2 h e
theorem plain_mem {fs : List GateField} {n : Nm} (h : plainN fs n = true) : n ∈ fs.map (·.Name) := by
  unfold plainN fieldN at h
  cases e : fs.find? fun f => seq f.Name n with
  | none => rw [e] at h; cases h
  | some f =>
    have h1 := List.find?_some e
    have h2 := List.mem_of_find?_eq_some e
    rw [← seq_iff.1 h1]; exact List.mem_map_of_mem h2
theorem readOf_in {xs : List GateShape} {s : GateShape} {m : GateMend} (hn : (kinds xs).Nodup) (hs : s ∈ xs) (hm : mendsOkS xs m = true) {x y : Nm} (hy : y ∈ readOf s.Kind x m) : y ∈ names s := by
  unfold readOf at hy
  cases h1 : seq m.Kind s.Kind with
  | false => rw [h1] at hy; cases hy
  | true =>
    rw [h1] at hy
    cases h2 : seq m.Field x with
    | false => rw [h2] at hy; cases hy
    | true =>
      rw [h2] at hy
      simp only [Bool.and_self, cond_true, List.mem_append] at hy
      have hf := find_kind hn hs (seq_iff.1 h1).symm
      unfold mendsOkS at hm
      rw [hf] at hm
      simp only [mendOk, Bool.and_eq_true, Bool.or_eq_true] at hm
      obtain ⟨_, h4, h5, _⟩ := hm
      rcases hy with hy | hy
      · cases h6 : seq m.When [] with
        | true => rw [h6] at hy; cases hy
        | false =>
          rw [h6] at hy
          simp only [cond_false, List.mem_singleton] at hy
          subst hy
          exact plain_mem (h4.resolve_left (by rw [h6]; exact Bool.false_ne_true))
      · cases h6 : seq m.From [] with
        | true => rw [h6] at hy; cases hy
        | false =>
          rw [h6] at hy
          simp only [cond_false, List.mem_singleton] at hy
          subst hy
          exact plain_mem (h5.resolve_left (by rw [h6]; exact Bool.false_ne_true))
theorem reads_len {ms : List GateMend} {kind x : Nm} : (reads ms kind x).length ≤ 2 * ms.length := by
  induction ms with
  | nil => simp [reads]
  | cons a r ih =>
    have := readOf_len kind x a
    simp only [reads, List.flatMap_cons, List.length_append, List.length_cons] at *
    omega

/-! ### The two texts -/

def mendsOk (xs : List GateShape) (ms : List GateMend) : Bool :=
  shapesOk xs && (ile (ms.length : Int) 12 && (ms.all (mendsOkS xs) && xs.all fun s => ieq ((rowM ms s).length : Int) (s.Fields.length : Int)))

theorem specMendsOk_e {k : Nat} {xs : List GateShape} {ms : List GateMend} (hk : 4194304 * 6 ≤ k) (hx : sdS GateShape.sd xs) (hm : sdS GateMend.sd ms) : spec_GateMendsOk k xs ms = some (mendsOk xs ms) := by
  unfold spec_GateMendsOk mendsOk
  have h4 := fun J : List GateShape → List GateMend → Option Bool => loop_all (R := Option Bool) (x := ms) (p := mendsOkS xs) (B := 4194304) (l := fun k i => iter (ts := spec_GateMendsOk_L4_ts) (R := Bool) k (spec_GateMendsOk_L4 J) xs ms i) (E := J xs ms) (O := some false)
    (fun k => by simp only [iter, spec_GateMendsOk_L4, ilt_e, cond_false] <;> rfl)
    (fun k i hi hb => by
      simp only [iter, spec_GateMendsOk_L4, ilt_n hi, inb_n hi, cond_true, req_t, nth_i hi, iadd_n hm.1 hi, specMend_e hb hx (hm.2 _ (mem_i hi)), Option.bind_some]
      cases mendsOkS xs ms[i] <;> rfl) k (by have := hm.1; omega)
  have h9 := loop_all (R := Option Bool) (x := xs) (p := fun s => ieq ((rowM ms s).length : Int) (s.Fields.length : Int)) (B := 4194304 * 4) (l := fun k i => iter (ts := spec_GateMendsOk_L9_ts) (R := Bool) k (spec_GateMendsOk_L9 (some true)) xs ms i) (E := some true) (O := some false)
    (fun k => by simp only [iter, spec_GateMendsOk_L9, ilt_e, cond_false] <;> rfl)
    (fun k i hi hb => by
      simp only [iter, spec_GateMendsOk_L9, ilt_n hi, inb_n hi, cond_true, req_t, nth_i hi, iadd_n hx.1 hi, l3Row_e hb hm.1 (hx.2 _ (mem_i hi)).2.1, Option.bind_some]
      cases ieq ((rowM ms xs[i]).length : Int) (xs[i].Fields.length : Int) <;> rfl) k (by have := hx.1; omega)
  simp only [share, specShapesOk_e hx (show 4194304 * 4 ≤ k by omega), Option.bind_some, ilt_not]
  cases shapesOk xs with
  | false => rfl
  | true =>
    cases ile (ms.length : Int) 12 with
    | false => rfl
    | true =>
      refine (h4 _).trans ?_
      cases ms.all (mendsOkS xs) with
      | false => rfl
      | true => exact h9.trans (by cases xs.all fun s => ieq ((rowM ms s).length : Int) (s.Fields.length : Int) <;> rfl)

theorem ile_le {a b : Int} (h : ile a b = true) : a ≤ b := by simpa [ile] using h
theorem implMendsOk_e {k : Nat} {xs : List GateShape} {ms : List GateMend} (hk : 4194304 * 7 ≤ k) (hx : sdS GateShape.sd xs) (hm : sdS GateMend.sd ms) : impl_GateMendsOk k xs ms = some (mendsOk xs ms) := by
  unfold impl_GateMendsOk mendsOk
  have h4 := fun J : List GateShape → List GateMend → Option Bool => loop_all (R := Option Bool) (x := ms) (p := mendsOkS xs) (B := 4194304) (l := fun k i => iter (ts := impl_GateMendsOk_L4_ts) (R := Bool) k (impl_GateMendsOk_L4 J) xs ms ms (ms.length : Int) i) (E := J xs ms) (O := some false)
    (fun k => by simp only [iter, impl_GateMendsOk_L4, ilt_e, cond_false] <;> rfl)
    (fun k i hi hb => by
      simp only [iter, impl_GateMendsOk_L4, share, ilt_n hi, inb_n hi, cond_true, req_t, nth_i hi, shapeOf_e hb hx.1, Option.bind_some, mendsOkS]
      rw [iadd_n hm.1 hi]
      rcases gidx_find (fun s : GateShape => seq s.Kind ms[i].Kind) xs with ⟨h1, h2⟩ | ⟨j, hj, h1, h2, _⟩
      · rw [h1, h2]; rfl
      · rw [h1, h2, ilt_f (by omega), inb_n hj, nth_i hj, implMend_e hb (hx.2 _ (mem_i hj)).2 (hm.2 _ (mem_i hi))]
        simp only
        cases mendOk xs[j].Fields ms[i] <;> rfl) k (by have := hm.1; omega)
  simp only [share, implShapesOk_e hx (show 4194304 * 5 ≤ k by omega), Option.bind_some, ilt_not]
  cases hsh : shapesOk xs with
  | false => rfl
  | true =>
    cases hms : ile (ms.length : Int) 12 with
    | false => rfl
    | true =>
      refine (h4 _).trans ?_
      cases hall : ms.all (mendsOkS xs) with
      | false => rfl
      | true =>
        simp only [shapesOk, Bool.and_eq_true, List.all_eq_true] at hsh hall
        obtain ⟨hx6, hasc, hshs⟩ := hsh
        have hnd := asc_nodup hasc
        have hms' := ile_le hms
        have h11 := loop_all (R := Option Bool) (x := xs) (p := fun s => ieq ((rowM ms s).length : Int) (s.Fields.length : Int)) (B := 4194304 * 5) (l := fun k i => iter (ts := impl_GateMendsOk_L11_ts) (R := Bool) k (impl_GateMendsOk_L11 (some true)) ms xs (xs.length : Int) i) (E := some true) (O := some false)
          (fun k => by simp only [iter, impl_GateMendsOk_L11, ilt_e, cond_false] <;> rfl)
          (fun k i hi hb => by
            have hs := hshs _ (mem_i hi)
            simp only [shapeOk, Bool.and_eq_true] at hs
            have h6 := ile_le hs.1
            obtain ⟨b, row, h1, h2, h3⟩ := rowOf_e (ms := ms) (s := xs[i]) hm.1
              (fun x _ y hy => by
                obtain ⟨m, hm1, hm2⟩ := List.mem_flatMap.1 hy
                exact readOf_in hnd (mem_i hi) (hall m hm1) hm2)
              (fun x => by have := reads_len (ms := ms) (kind := xs[i].Kind) (x := x); omega) (by omega) hb
            have hiff := rowM_iff (ms := ms) (s := xs[i]) (distF_nodup hs.2.2).1
            have eb : ieq ((rowM ms xs[i]).length : Int) (xs[i].Fields.length : Int) = b := by
              cases b with
              | true => 
                have := hiff.2 ⟨row, h2 rfl⟩
                simp only [ieq, beq_iff_eq]; omega
              | false =>
                simp only [ieq, beq_eq_false_iff_ne]
                intro h
                have := h3 (hiff.1 (by omega))
                cases this
            simp only [iter, impl_GateMendsOk_L11, ilt_n hi, inb_n hi, cond_true, req_t, nth_i hi, h1, Option.bind_some, iadd_n hx.1 hi, eb]
            cases b <;> rfl) k (by have := hx.1; omega)
        exact h11.trans (by cases xs.all fun s => ieq ((rowM ms s).length : Int) (s.Fields.length : Int) <;> rfl)

end Go.Proofs.YtdfdiinbiipacaaGreat.Pu
