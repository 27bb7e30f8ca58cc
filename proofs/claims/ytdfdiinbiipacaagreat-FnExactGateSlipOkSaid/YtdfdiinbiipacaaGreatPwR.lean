/- Rows in which each stands behind what it reads: both texts find one where there is one. No condition. -/
import Derived.Test.YtdfdiinbiipacaaGreatPwM
namespace Go.Proofs.YtdfdiinbiipacaaGreat.Pu
open Go Go.RowKit Go.Proofs.YtdfdiinbiipacaaGreat.Abs Go.Proofs.YtdfdiinbiipacaaGreat.Fn

abbrev Nm := List UInt8

/-! ### What a field's mends read -/

def readOf (kind name : Nm) (m : GateMend) : List Nm := cond (seq m.Kind kind && seq m.Field name) ((cond (seq m.When []) [] [m.When]) ++ (cond (seq m.From []) [] [m.From])) []
def reads (ms : List GateMend) (kind name : Nm) : List Nm := ms.flatMap (readOf kind name)
theorem foldl_flat {α β : Type} (g : α → List β) : ∀ (l : List α) (a : List β), l.foldl (fun acc m => acc ++ g m) a = a ++ l.flatMap g
  | [], a => by simp
  | m :: r, a => by rw [List.foldl_cons, foldl_flat g r]; simp
theorem readOf_len (kind name : Nm) (m : GateMend) : (readOf kind name m).length ≤ 2 := by
  unfold readOf
  cases seq m.Kind kind && seq m.Field name <;> cases seq m.When [] <;> cases seq m.From [] <;> simp
theorem rowOf1_e {k : Nat} {name : Nm} {ms : List GateMend} {s : GateShape} (hk : 4194304 ≤ k) (hm : ms.length ≤ 1048576) : impl_rowOf_1 k name ms s = some (reads ms s.Kind name, ms, s) := by
  unfold impl_rowOf_1
  simp only [share]
  have h := loop_fold (S := List Nm) (x := ms) (f := fun acc m => acc ++ readOf s.Kind name m) (B := 0)
    (l := fun k acc i => iter (ts := impl_rowOf_1_L3_ts) (R := (List (List UInt8)) × (List GateMend) × GateShape) k (impl_rowOf_1_L3 fun v61 v62 v63 => some (v63, v61, v62)) name ms (ms.length : Int) i ms s acc) (J := fun acc => some (acc, ms, s)) (fun i acc => acc.length ≤ 2 * i)
    (fun k acc _ => by simp only [iter, impl_rowOf_1_L3, ilt_e, cond_false] <;> rfl)
    (fun k i acc hi _ hI => ⟨by
      simp only [iter, impl_rowOf_1_L3, share, ilt_n hi, inb_n hi, cond_true, req_t, nth_i hi, iadd_n hm hi, readOf]
      rw [appB_t (by simp; omega) (by omega), appB_t (by simp; omega) (by omega), appB_t (by simp; omega) (by omega)]
      cases seq ms[i].Kind s.Kind <;> cases seq ms[i].Field name <;> cases seq ms[i].When [] <;> cases seq ms[i].From [] <;> simp [req_t] <;> rfl, by
      have := readOf_len s.Kind name ms[i]
      simp only [List.length_append]; omega⟩) k [] (by omega) (by simp)
  refine h.trans ?_
  rw [foldl_flat]; rfl

/-! ### The spec's row -/

def hasN (row : List Nm) (y : Nm) : Bool := row.any fun z => seq z y
theorem hasN_iff {row : List Nm} {y : Nm} : hasN row y = true ↔ y ∈ row := by
  simp only [hasN, List.any_eq_true, seq_iff]
  exact ⟨fun ⟨z, h1, h2⟩ => h2 ▸ h1, fun h => ⟨y, h, rfl⟩⟩
def readyN (ms : List GateMend) (kind name : Nm) (row : List Nm) : Bool := (reads ms kind name).all (hasN row)
theorem l3Ready_e {k : Nat} {ms : List GateMend} {kind name : Nm} {row : List Nm} (hk : 8388608 ≤ k) (hm : ms.length ≤ 1048576) (hr : row.length ≤ 1048576) : spec_l3Ready k ms kind name row = some (readyN ms kind name row) := by
  unfold spec_l3Ready
  simp only [share]
  have h := loop_all (x := ms) (p := fun m => (readOf kind name m).all (hasN row)) (B := 4194304) (l := fun k i => iter (ts := spec_l3Ready_L2_ts) (R := Bool) k (spec_l3Ready_L2 (some true)) ms kind name row i) (E := some true) (O := some false)
    (fun k => by simp only [iter, spec_l3Ready_L2, ilt_e, cond_false] <;> rfl)
    (fun k i hi hb => by
      simp only [iter, spec_l3Ready_L2, share, ilt_n hi, inb_n hi, cond_true, req_t, nth_i hi, iadd_n hm hi, l1Has_e hb hr, Option.bind_some, readOf]
      have e1 : (row.any fun y => seq y ms[i].When) = hasN row ms[i].When := rfl
      have e2 : (row.any fun y => seq y ms[i].From) = hasN row ms[i].From := rfl
      rw [e1, e2]
      cases seq ms[i].Kind kind <;> cases seq ms[i].Field name <;> cases seq ms[i].When [] <;> cases seq ms[i].From [] <;> cases hw : hasN row ms[i].When <;> cases hf : hasN row ms[i].From <;> simp [hw, hf] <;> rfl) k (by omega)
  refine h.trans ?_
  unfold readyN reads
  rw [List.all_flatMap]
  cases ms.all fun a => (readOf kind name a).all (hasN row) <;> rfl

section
variable {α R : Type} {x : List α} {B : Nat}
theorem loop_find {p : α → Bool} {l : Nat → Int → R} {E : R} {O : α → R} (he : ∀ k, l (k + 1) (x.length : Int) = E)
    (h : ∀ k i (hi : i < x.length), B ≤ k → l (k + 1) (i : Int) = cond (p x[i]) (O x[i]) (l k ((i + 1 : Nat) : Int))) (k : Nat) (hk : B + x.length + 1 ≤ k) : l k 0 = (match x.find? p with | some a => O a | none => E) := by
  have go : ∀ m i k, i + m = x.length → B + m + 1 ≤ k → l k (i : Int) = (match (x.drop i).find? p with | some a => O a | none => E) := by
    intro m
    induction m with
    | zero =>
      intro i k h1 h2
      obtain rfl : i = x.length := by omega
      obtain ⟨k, rfl⟩ : ∃ j, k = j + 1 := ⟨k - 1, by omega⟩
      simp [he]
    | succ m ih =>
      intro i k h1 h2
      obtain ⟨k, rfl⟩ : ∃ j, k = j + 1 := ⟨k - 1, by omega⟩
      have hi : i < x.length := by omega
      rw [h k i hi (by omega), List.drop_eq_getElem_cons hi, List.find?_cons]
      cases p x[i] with
      | true => rfl
      | false => exact ih (i + 1) k (by omega) (by omega)
  have := go x.length 0 k (by omega) (by omega)
  simpa using this
end
def nextF (ms : List GateMend) (s : GateShape) (row : List Nm) (f : GateField) : Bool := !hasN row f.Name && readyN ms s.Kind f.Name row
def stepR (ms : List GateMend) (s : GateShape) (row : List Nm) : List Nm := match s.Fields.find? (nextF ms s row) with
  | some f => row ++ [f.Name]
  | none => row
def rowM (ms : List GateMend) (s : GateShape) : List Nm := s.Fields.foldl (fun row _ => stepR ms s row) []
theorem stepR_len (ms : List GateMend) (s : GateShape) (row : List Nm) : (stepR ms s row).length ≤ row.length + 1 := by
  unfold stepR
  split <;> simp
theorem l3Row_e {k : Nat} {ms : List GateMend} {s : GateShape} (hk : 4194304 * 4 ≤ k) (hm : ms.length ≤ 1048576) (hs : s.Fields.length ≤ 1048576) : spec_l3Row k s ms = some (rowM ms s) := by
  unfold spec_l3Row
  simp only [share]
  have inner : ∀ (J : List GateMend → GateShape → Int → List Nm → Option (List Nm)) (n : Int) (row : List Nm) (k : Nat), 4194304 * 3 ≤ k → row.length ≤ 1048576 →
      iter (ts := spec_l3Row_L6_ts) (R := List (List UInt8)) k (spec_l3Row_L6 J) ms s n (0 : Int) row = J ms s n (stepR ms s row) := by
    intro J n row k hk hr
    have h := loop_find (x := s.Fields) (p := nextF ms s row) (B := 8388608) (l := fun k i => iter (ts := spec_l3Row_L6_ts) (R := List (List UInt8)) k (spec_l3Row_L6 J) ms s n i row) (E := J ms s n row) (O := fun f => J ms s n (row ++ [f.Name]))
      (fun k => by simp only [iter, spec_l3Row_L6, ilt_e, cond_false] <;> rfl)
      (fun k i hi hb => by
        simp only [iter, spec_l3Row_L6, share, ilt_n hi, inb_n hi, cond_true, req_t, nth_i hi, iadd_n hs hi, l1Has_e (show 4194304 ≤ k by omega) hr, l3Ready_e hb hm hr, Option.bind_some, nextF]
        rw [appB_t (by simp; omega) (by omega)]
        have e1 : (row.any fun y => seq y s.Fields[i].Name) = hasN row s.Fields[i].Name := rfl
        rw [e1]
        cases hasN row s.Fields[i].Name <;> cases readyN ms s.Kind s.Fields[i].Name row <;> rfl) k (by omega)
    refine h.trans ?_
    unfold stepR
    cases s.Fields.find? (nextF ms s row) <;> rfl
  have h := loop_fold (S := List Nm) (x := s.Fields) (f := fun row _ => stepR ms s row) (B := 4194304 * 3) (l := fun k row i => iter (ts := spec_l3Row_L3_ts) (R := List (List UInt8)) k (spec_l3Row_L3 fun v => some v) ms s i row) (J := fun row => some row) (fun i row => row.length ≤ i)
    (fun k row _ => by simp only [iter, spec_l3Row_L3, ilt_e, cond_false] <;> rfl)
    (fun k i row hi hb hI => ⟨by
      simp only [iter, spec_l3Row_L3, share, ilt_n hi, cond_true]
      refine (inner _ _ _ _ hb (by omega)).trans ?_
      rw [iadd_n hs hi], Nat.le_trans (stepR_len ms s row) (by omega)⟩) k [] (by omega) (by simp)
  exact h

/-! ### Rows as such -/

section
variable (R : Nm → List Nm) (N : List Nm)
/-- Each stands behind what it reads. -/
structure Topo (out : List Nm) : Prop where
  nd : out.Nodup
  rd : ∀ pre x post, out = pre ++ x :: post → ∀ y, y ∈ R x → y ∈ pre
/-- One of all. -/
structure Full (L : List Nm) : Prop where
  topo : Topo R L
  all : ∀ y, y ∈ N → y ∈ L
  sub : ∀ y, y ∈ L → y ∈ N
variable {R N}
theorem Topo.nil : Topo R [] := ⟨List.nodup_nil, fun pre x post h => by simp at h⟩
theorem Topo.snoc {out : List Nm} {x : Nm} (h : Topo R out) (hx : x ∉ out) (hr : ∀ y, y ∈ R x → y ∈ out) : Topo R (out ++ [x]) := by
  refine ⟨List.nodup_append.2 ⟨h.nd, by simp, fun a ha b hb => by simp at hb; subst hb; exact fun e => hx (e ▸ ha)⟩, fun pre z post e y hy => ?_⟩
  rcases List.append_eq_append_iff.1 e with ⟨cs, h1, h2⟩ | ⟨bs, h1, h2⟩
  · cases cs with
    | nil =>
      simp only [List.nil_append, List.cons.injEq] at h2
      rw [List.append_nil] at h1
      rw [h1]
      exact hr y (h2.1 ▸ hy)
    | cons a cs => simp at h2
  · cases bs with
    | nil =>
      simp only [List.nil_append, List.cons.injEq] at h2
      rw [List.append_nil] at h1
      rw [← h1]
      exact hr y (h2.1 ▸ hy)
    | cons b bs =>
      simp only [List.cons_append, List.cons.injEq] at h2
      obtain ⟨rfl, _⟩ := h2
      exact h.rd pre z bs h1 y hy
theorem Topo.lt {L : List Nm} (h : Topo R L) {x y : Nm} (hx : x ∈ L) (hy : y ∈ R x) : y ∈ L ∧ L.idxOf y < L.idxOf x := by
  obtain ⟨pre, post, e⟩ := List.append_of_mem hx
  have hp := h.rd pre x post e y hy
  have hnd := h.nd
  rw [e] at hnd
  have hxp : x ∉ pre := fun hm => (List.nodup_append.1 hnd).2.2 x hm x (by simp) rfl
  refine ⟨by rw [e]; simp [hp], ?_⟩
  rw [e, List.idxOf_append, if_pos hp, List.idxOf_append, if_neg hxp, List.idxOf_cons_self, Nat.zero_add]
  exact List.idxOf_lt_length_iff.2 hp
end

/-! ### The spec's row is one, if there is one -/

theorem stepR_cases (ms : List GateMend) (s : GateShape) (row : List Nm) : (∃ f, f ∈ s.Fields ∧ f.Name ∉ row ∧ (∀ y, y ∈ reads ms s.Kind f.Name → y ∈ row) ∧ stepR ms s row = row ++ [f.Name]) ∨
    ((∀ f, f ∈ s.Fields → nextF ms s row f = false) ∧ stepR ms s row = row) := by
  unfold stepR
  cases h : s.Fields.find? (nextF ms s row) with
  | some f =>
    have h1 := List.find?_some h
    simp only [nextF, Bool.and_eq_true, Bool.not_eq_true'] at h1
    refine .inl ⟨f, List.mem_of_find?_eq_some h, fun hm => ?_, fun y hy => ?_, rfl⟩
    · rw [hasN_iff.2 hm] at h1; cases h1.1
    · exact hasN_iff.1 (List.all_eq_true.1 h1.2 y hy)
  | none => exact .inr ⟨fun f hf => by simpa using List.find?_eq_none.1 h f hf, rfl⟩
def names (s : GateShape) : List Nm := s.Fields.map (·.Name)
theorem rowM_topo (ms : List GateMend) (s : GateShape) : Topo (reads ms s.Kind) (rowM ms s) ∧ ∀ y, y ∈ rowM ms s → y ∈ names s := by
  have key : ∀ (l : List GateField) (row : List Nm), Topo (reads ms s.Kind) row → (∀ y, y ∈ row → y ∈ names s) → Topo (reads ms s.Kind) (l.foldl (fun row _ => stepR ms s row) row) ∧ ∀ y, y ∈ l.foldl (fun row _ => stepR ms s row) row → y ∈ names s := by
    intro l
    induction l with
    | nil => exact fun row h1 h2 => ⟨h1, h2⟩
    | cons a r ih =>
      intro row h1 h2
      rw [List.foldl_cons]
      rcases stepR_cases ms s row with ⟨f, q1, q2, q3, q4⟩ | ⟨_, q⟩
      · rw [q4]
        refine ih _ (h1.snoc q2 q3) fun y hy => ?_
        rcases List.mem_append.1 hy with h | h
        · exact h2 y h
        · simp at h; subst h; exact List.mem_map_of_mem q1
      · rw [q]; exact ih _ h1 h2
  exact key s.Fields [] Topo.nil (fun y h => by cases h)
/-- Where there is a row of all, each step finds one more. -/
theorem rowM_full {ms : List GateMend} {s : GateShape} (hnd : (names s).Nodup) {L : List Nm} (hL : Full (reads ms s.Kind) (names s) L) : (rowM ms s).length = s.Fields.length := by
  have hlen : (names s).length = s.Fields.length := by simp [names]
  have step : ∀ row : List Nm, row.Nodup → (∀ y, y ∈ row → y ∈ names s) → row.length < s.Fields.length → ∃ f, f ∈ s.Fields ∧ nextF ms s row f = true := by
    intro row h1 h2 h3
    -- the first of L that is not in the row
    have : ∃ x, L.find? (fun y => !hasN row y) = some x := by
      cases h : L.find? (fun y => !hasN row y) with
      | some x => exact ⟨x, rfl⟩
      | none =>
        have hall := List.find?_eq_none.1 h
        have hsub : ∀ y, y ∈ names s → y ∈ row := fun y hy => by
          have := hall y (hL.all y hy)
          simp only [Bool.not_eq_true', Bool.not_eq_false] at this
          exact hasN_iff.1 (by simpa using this)
        have := hnd.length_le_of_subset hsub
        omega
    obtain ⟨x, hx⟩ := this
    have hxL := List.mem_of_find?_eq_some hx
    obtain ⟨f, hf, rfl⟩ := List.mem_map.1 (hL.sub x hxL)
    refine ⟨f, hf, ?_⟩
    simp only [nextF, Bool.and_eq_true]
    refine ⟨List.find?_some (p := fun y => !hasN row y) hx, List.all_eq_true.2 fun y hy => ?_⟩
    obtain ⟨hp, pre, post, e, hpre⟩ := List.find?_eq_some_iff_append.1 hx
    have := hpre y (hL.topo.rd pre f.Name post e y hy)
    simpa using this
  have key : ∀ (l : List GateField) (row : List Nm), row.Nodup → (∀ y, y ∈ row → y ∈ names s) → Topo (reads ms s.Kind) row → row.length + l.length = s.Fields.length → (l.foldl (fun row _ => stepR ms s row) row).length = s.Fields.length := by
    intro l
    induction l with
    | nil => intro row _ _ _ h; simpa using h
    | cons a r ih =>
      intro row h1 h2 h4 h3
      rw [List.length_cons] at h3
      rw [List.foldl_cons]
      rcases stepR_cases ms s row with ⟨f, q1, q2, q3, q4⟩ | ⟨q1, _⟩
      · rw [q4]
        have ht := h4.snoc q2 q3
        refine ih _ ht.nd (fun y hy => ?_) ht (by simp; omega)
        rcases List.mem_append.1 hy with h | h
        · exact h2 y h
        · simp at h; subst h; exact List.mem_map_of_mem q1
      · obtain ⟨f, hf, hn⟩ := step row h1 h2 (by omega)
        rw [q1 f hf] at hn; cases hn
  exact key s.Fields [] List.nodup_nil (fun y h => by cases h) Topo.nil (by simp)
theorem rowM_iff {ms : List GateMend} {s : GateShape} (hnd : (names s).Nodup) : (rowM ms s).length = s.Fields.length ↔ ∃ L, Full (reads ms s.Kind) (names s) L := by
  constructor
  · intro h
    obtain ⟨h1, h2⟩ := rowM_topo ms s
    refine ⟨rowM ms s, h1, fun y hy => ?_, h2⟩
    -- as long as all, and a part of them
    cases hc : hasN (rowM ms s) y with
    | true => exact hasN_iff.1 hc
    | false =>
      have hny : y ∉ rowM ms s := fun hm => by rw [hasN_iff.2 hm] at hc; cases hc
      have h3 : (y :: rowM ms s).Nodup := List.nodup_cons.2 ⟨hny, h1.nd⟩
      have h4 := h3.length_le_of_subset (l₂ := names s) fun z hz => by
        rcases List.mem_cons.1 hz with e | e
        · exact e ▸ hy
        · exact h2 z e
      simp only [List.length_cons, names, List.length_map] at h4
      omega
  · rintro ⟨L, hL⟩
    exact rowM_full hnd hL

end Go.Proofs.YtdfdiinbiipacaaGreat.Pu
