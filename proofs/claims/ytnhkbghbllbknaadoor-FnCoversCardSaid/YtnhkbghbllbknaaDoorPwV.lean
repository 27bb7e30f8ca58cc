/- Rows that rise; teams that are ok: the two texts agree. No condition. -/
import Derived.Test.YtnhkbghbllbknaaDoorPwN
namespace Go.Proofs.YtnhkbghbllbknaaDoor.Pu
open Go Go.RowKit Go.Proofs.YtnhkbghbllbknaaDoor.Abs Go.Proofs.YtnhkbghbllbknaaDoor.Fn

/-! ### Ascending rows have no twins -/

theorem slt_irr : ∀ a : List UInt8, slt a a = false
  | [] => rfl
  | a :: r => by
    have := slt_irr r
    simp only [slt, Op.bytesLess] at *
    simp [this]
theorem slt_tr : ∀ {a b c : List UInt8}, slt a b = true → slt b c = true → slt a c = true
  | [], b, c, h1, h2 => by
    cases c with
    | nil => cases b <;> simp [slt, Op.bytesLess] at h2
    | cons => rfl
  | a :: r, b, c, h1, h2 => by
    cases b with
    | nil => simp [slt, Op.bytesLess] at h1
    | cons b s =>
      cases c with
      | nil => simp [slt, Op.bytesLess] at h2
      | cons c t =>
        have ih := @slt_tr r s t
        simp only [slt, Op.bytesLess, Bool.or_eq_true, Bool.and_eq_true, decide_eq_true_eq, beq_iff_eq] at *
        rcases h1 with h1 | ⟨rfl, h1⟩
        · rcases h2 with h2 | ⟨rfl, h2⟩
          · exact .inl (UInt8.lt_trans h1 h2)
          · exact .inl h1
        · rcases h2 with h2 | ⟨rfl, h2⟩
          · exact .inl h2
          · exact .inr ⟨rfl, ih h1 h2⟩
theorem chain_asc : ∀ {xs : List (List UInt8)} {q : Option (List UInt8)}, chain ascP q xs = true → xs.Nodup ∧ ∀ p, q = some p → ∀ y, y ∈ xs → slt p y = true
  | [], _, _ => ⟨List.nodup_nil, fun _ _ _ h => by cases h⟩
  | a :: r, q, h => by
    simp only [chain, ascP, Bool.and_eq_true] at h
    obtain ⟨⟨-, h1⟩, h2⟩ := h
    obtain ⟨h3, h4⟩ := chain_asc h2
    refine ⟨List.nodup_cons.2 ⟨fun hm => ?_, h3⟩, fun p hp y hy => ?_⟩
    · have := h4 a rfl a hm
      rw [slt_irr] at this; cases this
    · subst hp
      rcases List.mem_cons.1 hy with e | e
      · exact e ▸ h1
      · exact slt_tr h1 (h4 a rfl y e)
theorem asc_nodup {xs : List (List UInt8)} (h : ascend xs = true) : xs.Nodup := (chain_asc h).1

theorem ile_le {a b : Int} (h : ile a b = true) : a ≤ b := by simpa [ile] using h

def teamN (x : List GateTeam) (n : Nm) : Option GateTeam := x.find? fun t => seq t.Name n
def overN (x : List GateTeam) (n : Nm) : Nm := match teamN x n with
  | some t => t.Over
  | none => []
/-- From a name up, m steps. -/
def upN (x : List GateTeam) : Nat → Nm → Nm
  | 0, a => a
  | m + 1, a => cond (seq a []) [] (upN x m (overN x a))
theorem upN_nil (x : List GateTeam) : ∀ m, upN x m [] = []
  | 0 => rfl
  | _ + 1 => rfl
def climb (x : List GateTeam) (m : Nat) (a : Nm) : Bool := seq (upN x m a) []
def known (x : List GateTeam) (n : Nm) : Bool := seq n [] || (teamN x n).isSome
def team1 (x : List GateTeam) (q : Option GateTeam) (t : GateTeam) : Bool := ascP (q.map (·.Name)) t.Name && known x t.Over
def teamsOk (x : List GateTeam) : Bool := ile (x.length : Int) 12 && (chain (team1 x) none x && x.all fun t => climb x 4 t.Over)

/-! ### The spec -/

theorem l4Team_e {k : Nat} {x : List GateTeam} {n : Nm} (hk : 4194304 ≤ k) (hx : x.length ≤ 1048576) : spec_l4Team k x n = some (teamN x n).isSome := by
  unfold spec_l4Team
  simp only [share]
  have h := loop_find (R := Option Bool) (x := x) (p := fun t => seq t.Name n) (B := 0) (l := fun k i => iter (ts := spec_l4Team_L2_ts) (R := Bool) k (spec_l4Team_L2 (some false)) x n i) (E := some false) (O := fun _ => some true)
    (fun k => by simp only [iter, spec_l4Team_L2, ilt_e, cond_false] <;> rfl)
    (fun k i hi _ => by simp only [iter, spec_l4Team_L2, ilt_n hi, inb_n hi, cond_true, req_t, nth_i hi, iadd_n hx hi] <;> rfl) k (by omega)
  refine h.trans ?_
  unfold teamN
  cases x.find? fun t => seq t.Name n <;> rfl
theorem l4Over_e {k : Nat} {x : List GateTeam} {n : Nm} (hk : 4194304 ≤ k) (hx : x.length ≤ 1048576) : spec_l4Over k x n = some (overN x n) := by
  unfold spec_l4Over
  simp only [share]
  have h := loop_find (R := Option (List UInt8)) (x := x) (p := fun t => seq t.Name n) (B := 0) (l := fun k i => iter (ts := spec_l4Over_L2_ts) (R := List UInt8) k (spec_l4Over_L2 (some [])) x n i) (E := some []) (O := fun t => some t.Over)
    (fun k => by simp only [iter, spec_l4Over_L2, ilt_e, cond_false] <;> rfl)
    (fun k i hi _ => by simp only [iter, spec_l4Over_L2, ilt_n hi, inb_n hi, cond_true, req_t, nth_i hi, iadd_n hx hi] <;> rfl) k (by omega)
  refine h.trans ?_
  unfold overN teamN
  cases x.find? fun t => seq t.Name n <;> rfl
theorem spec_up {x : List GateTeam} {J : List GateTeam → Int → Nm → Option Bool} {i : Int} (hx : x.length ≤ 1048576) : ∀ (m j k : Nat) (a : Nm), j + m = 5 → 4194304 + m + 1 ≤ k →
    iter (ts := spec_GateTeamsOk_L11_ts) (R := Bool) k (spec_GateTeamsOk_L11 J) x i a (j : Int) = J x i (upN x m a) := by
  intro m
  induction m with
  | zero =>
    intro j k a h hk
    obtain rfl : j = 5 := by omega
    obtain ⟨k, rfl⟩ : ∃ q, k = q + 1 := ⟨k - 1, by omega⟩
    simp only [iter, spec_GateTeamsOk_L11, ile_f (show ¬ ((5 : Nat) : Int) ≤ (4 : Int) by omega), cond_false] <;> rfl
  | succ m ih =>
    intro j k a h hk
    obtain ⟨k, rfl⟩ : ∃ q, k = q + 1 := ⟨k - 1, by omega⟩
    simp only [iter, spec_GateTeamsOk_L11, ile_t (show ((j : Nat) : Int) ≤ 4 by omega), cond_true, upN, l4Over_e (show 4194304 ≤ k by omega) hx, Option.bind_some]
    cases h1 : seq a [] with
    | true => rw [seq_iff.1 h1]; rfl
    | false =>
      simp only [Bool.not_false, cond_true, cond_false, iadd_n (n := 5) (by omega) (show j < 5 by omega)]
      exact ih (j + 1) k _ (by omega) (by omega)
theorem specTeamsOk_e' {k : Nat} {x : List GateTeam} (hk : 4194304 * 3 ≤ k) (hx : sdS GateTeam.sd x) : spec_GateTeamsOk k x = some (ile (x.length : Int) 12 && (chain (team1 x) none x && x.all fun t => climb x 5 t.Name)) := by
  unfold spec_GateTeamsOk
  have h := loop_chain (R := Option Bool) (x := x) (p := fun o t => team1 x o t && climb x 5 t.Name) (B := 4194304 * 2) (l := fun k i => iter (ts := spec_GateTeamsOk_L4_ts) (R := Bool) k (spec_GateTeamsOk_L4 (some true)) x i) (E := some true) (O := some false)
    (fun k => by simp only [iter, spec_GateTeamsOk_L4, ilt_e, cond_false] <;> rfl)
    (fun k i hi hb => by
      have hti := hx.2 _ (mem_i hi)
      simp only [iter, spec_GateTeamsOk_L4, share, ilt_n hi, inb_n hi, cond_true, req_t, nth_i hi, l1NameOk_e (show 4194304 ≤ k by omega) hti.1, l4Team_e (show 4194304 ≤ k by omega) hx.1, Option.bind_some, team1, ascP, known]
      have up := spec_up (J := fun v375 v376 v377 => cond (!seq v377 ([] : List UInt8)) (some false) (iter (ts := spec_GateTeamsOk_L4_ts) (R := Bool) k (spec_GateTeamsOk_L4 (some true)) v375 (iadd .i64 v376 (1 : Int)))) (i := (i : Int)) hx.1 5 0 k x[i].Name (by omega) (by omega)
      rw [iadd_n hx.1 hi] at up
      have up' := up.trans (show cond (!climb x 5 x[i].Name) (some false) (iter (ts := spec_GateTeamsOk_L4_ts) (R := Bool) k (spec_GateTeamsOk_L4 (some true)) x ((i + 1 : Nat) : Int)) = cond (climb x 5 x[i].Name) (iter (ts := spec_GateTeamsOk_L4_ts) (R := Bool) k (spec_GateTeamsOk_L4 (some true)) x ((i + 1 : Nat) : Int)) (some false) by cases climb x 5 x[i].Name <;> rfl)
      cases nameOk x[i].Name with
      | false => rfl
      | true =>
        rcases Nat.eq_zero_or_pos i with rfl | h0
        · simp only [ilt_00, ahead_0]
          cases seq x[0].Over [] with
          | true => exact up'
          | false =>
            cases (teamN x x[0].Over).isSome with
            | false => rfl
            | true => exact up'
        · have hi' : i - 1 < x.length := by omega
          simp only [ilt_0 h0, isub_n h0 (by have := hx.1; omega), inb_n hi', cond_true, req_t, nth_i hi', ahead_s h0 hi, Option.map_some]
          cases slt x[i - 1].Name x[i].Name with
          | false => rfl
          | true =>
            cases seq x[i].Over [] with
            | true => exact up'
            | false =>
              cases (teamN x x[i].Over).isSome with
              | false => rfl
              | true => exact up') k (by have := hx.1; omega)
  rw [chain_and, chain_all] at h
  simp only [share, ilt_not]
  cases ile (x.length : Int) 12 with
  | false => rfl
  | true => exact h.trans (by cases chain (team1 x) none x && x.all fun t => climb x 5 t.Name <;> rfl)

/-! ### Names that rise are met once -/

theorem chain_team {x : List GateTeam} {o : Option GateTeam} {y : List GateTeam} : chain (team1 x) o y = (chain ascP (o.map (·.Name)) (y.map (·.Name)) && y.all fun t => known x t.Over) := by
  unfold team1
  rw [chain_and, chain_all, chain_map]
theorem team_find {x : List GateTeam} (h : chain (team1 x) none x = true) {t : GateTeam} (ht : t ∈ x) : teamN x t.Name = some t := by
  rw [chain_team] at h
  have hnd := (chain_asc (Bool.and_eq_true_iff.1 h).1).1
  clear h
  unfold teamN
  induction x with
  | nil => cases ht
  | cons a r ih =>
    simp only [List.map_cons, List.nodup_cons] at hnd
    rw [List.find?_cons]
    rcases List.mem_cons.1 ht with e | e
    · subst e
      rw [show seq t.Name t.Name = true from seq_iff.2 rfl]
    · cases ha : seq a.Name t.Name with
      | true =>
        have hm : t.Name ∈ r.map (·.Name) := List.mem_map_of_mem e
        rw [← seq_iff.1 ha] at hm
        exact absurd hm hnd.1
      | false => exact ih e hnd.2
theorem chain_nm {x : List GateTeam} : ∀ {y : List GateTeam} {o : Option GateTeam}, chain (team1 x) o y = true → ∀ t, t ∈ y → nameOk t.Name = true ∧ known x t.Over = true
  | [], _, _, _, h => by cases h
  | a :: r, o, h, t, ht => by
    simp only [chain, Bool.and_eq_true] at h
    rcases List.mem_cons.1 ht with e | e
    · subst e
      simp only [team1, ascP, Bool.and_eq_true] at h
      exact ⟨h.1.1.1, h.1.2⟩
    · exact chain_nm h.2 t e
theorem teams_same (x : List GateTeam) : (chain (team1 x) none x && x.all fun t => climb x 5 t.Name) = (chain (team1 x) none x && x.all fun t => climb x 4 t.Over) := by
  cases h : chain (team1 x) none x with
  | false => rfl
  | true =>
    rw [Bool.true_and, Bool.true_and]
    rw [Bool.eq_iff_iff, List.all_eq_true, List.all_eq_true]
    have key : ∀ t, t ∈ x → climb x 5 t.Name = climb x 4 t.Over := fun t ht => by
      unfold climb
      have hne : seq t.Name [] = false := by
        cases e : seq t.Name [] with
        | false => rfl
        | true => have := nameOk_ne e; rw [(chain_nm h t ht).1] at this; cases this
      rw [upN, hne, cond_false, overN, team_find h ht]
    exact ⟨fun h t ht => by rw [← key t ht]; exact h t ht, fun h t ht => by rw [key t ht]; exact h t ht⟩
theorem specTeamsOk_e {k : Nat} {x : List GateTeam} (hk : 4194304 * 3 ≤ k) (hx : sdS GateTeam.sd x) : spec_GateTeamsOk k x = some (teamsOk x) := by
  rw [specTeamsOk_e' hk hx, teams_same]; rfl

/-! ### The program's text -/

theorem teamOf_e {k : Nat} {x : List GateTeam} {n : Nm} (hk : 4194304 ≤ k) (hx : x.length ≤ 1048576) : impl_teamOf k x n = some (gidx (fun t => seq t.Name n) x 0) := by
  unfold impl_teamOf
  simp only [share]
  exact loop_gidx (x := x) (p := fun t => seq t.Name n) (l := fun k i => iter (ts := impl_teamOf_L2_ts) (R := Int) k (impl_teamOf_L2 (some (-1))) n x (x.length : Int) i)
    (fun k => by simp only [iter, impl_teamOf_L2, ilt_e, cond_false] <;> rfl)
    (fun k i hi => by simp only [iter, impl_teamOf_L2, ilt_n hi, inb_n hi, cond_true, req_t, nth_i hi, iadd_n hx hi] <;> rfl) k (by omega)
theorem impl_up {x : List GateTeam} {J : List GateTeam → List GateTeam → Int → Int → Option Bool} {c d : Int} (hx : x.length ≤ 1048576) (hkn : ∀ t, t ∈ x → known x t.Over = true) : ∀ (m j k : Nat) (a : Nm), j + m = 4 → 4194304 + m + 1 ≤ k → known x a = true →
    iter (ts := impl_GateTeamsOk_L14_ts) (R := Bool) k (impl_GateTeamsOk_L14 J) x (j : Int) a x c d = cond (climb x m a) (J x x c d) (some false) := by
  intro m
  induction m with
  | zero =>
    intro j k a h hk ha
    obtain rfl : j = 4 := by omega
    obtain ⟨k, rfl⟩ : ∃ q, k = q + 1 := ⟨k - 1, by omega⟩
    simp only [iter, impl_GateTeamsOk_L14, climb, upN, show ilt 4 (iadd .i64 ((4 : Nat) : Int) 1) = true from rfl, cond_true]
    cases seq a [] <;> rfl
  | succ m ih =>
    intro j k a h hk ha
    obtain ⟨k, rfl⟩ : ∃ q, k = q + 1 := ⟨k - 1, by omega⟩
    simp only [iter, impl_GateTeamsOk_L14, climb, upN, iadd_n (n := 4) (by omega) (show j < 4 by omega), ilt_f (show ¬ (4 : Int) < ((j + 1 : Nat) : Int) by omega), cond_false, teamOf_e (show 4194304 ≤ k by omega) hx, Option.bind_some]
    cases h1 : seq a [] with
    | true => rfl
    | false =>
      simp only [known, h1, Bool.false_or, teamN] at ha
      rcases gidx_find (fun t : GateTeam => seq t.Name a) x with ⟨k1, k2⟩ | ⟨q, hq, k1, k2, _⟩
      · rw [k2] at ha; cases ha
      · rw [k1, inb_n hq, nth_i hq]
        simp only [Bool.not_false, cond_true, cond_false, req_t, overN, teamN, k2]
        exact ih (j + 1) k _ (by omega) (by omega) (hkn _ (mem_i hq))
theorem implTeamsOk_e {k : Nat} {x : List GateTeam} (hk : 4194304 * 3 ≤ k) (hx : sdS GateTeam.sd x) : impl_GateTeamsOk k x = some (teamsOk x) := by
  unfold impl_GateTeamsOk teamsOk
  have h4 := fun J : List GateTeam → Option Bool => loop_chain (R := Option Bool) (x := x) (p := team1 x) (B := 4194304 * 2) (l := fun k i => iter (ts := impl_GateTeamsOk_L4_ts) (R := Bool) k (impl_GateTeamsOk_L4 J) x x (x.length : Int) i) (E := J x) (O := some false)
    (fun k => by simp only [iter, impl_GateTeamsOk_L4, ilt_e, cond_false] <;> rfl)
    (fun k i hi hb => by
      have hti := hx.2 _ (mem_i hi)
      simp only [iter, impl_GateTeamsOk_L4, share, ilt_n hi, inb_n hi, cond_true, req_t, nth_i hi, isName_e (show 4194304 ≤ k by omega) hti.1, teamOf_e (show 4194304 ≤ k by omega) hx.1, Option.bind_some, team1, ascP, known, teamN]
      rw [iadd_n hx.1 hi]
      have ep : ilt (gidx (fun t : GateTeam => seq t.Name x[i].Over) x 0) 0 = !(x.find? fun t => seq t.Name x[i].Over).isSome := by
        rcases gidx_find (fun t : GateTeam => seq t.Name x[i].Over) x with ⟨k1, k2⟩ | ⟨q, hq, k1, k2, _⟩
        · rw [k1, k2]; rfl
        · rw [k1, k2, ilt_f (by omega)]; rfl
      rw [ep]
      cases nameOk x[i].Name with
      | false => rfl
      | true =>
        rcases Nat.eq_zero_or_pos i with rfl | h0
        · simp only [ilt_00, ahead_0]
          cases seq x[0].Over [] <;> cases (x.find? fun t => seq t.Name x[0].Over).isSome <;> rfl
        · have hi' : i - 1 < x.length := by omega
          simp only [ilt_0 h0, isub_n h0 (by have := hx.1; omega), inb_n hi', cond_true, req_t, nth_i hi', ahead_s h0 hi, Option.map_some]
          cases slt x[i - 1].Name x[i].Name <;> cases seq x[i].Over [] <;> cases (x.find? fun t => seq t.Name x[i].Over).isSome <;> rfl) k (by have := hx.1; omega)
  simp only [share, ilt_not]
  cases ile (x.length : Int) 12 with
  | false => rfl
  | true =>
    refine (h4 _).trans ?_
    cases hc : chain (team1 x) none x with
    | false => rfl
    | true =>
      have hkn : ∀ t, t ∈ x → known x t.Over = true := fun t ht => (chain_nm hc t ht).2
      have h10 := loop_all (R := Option Bool) (x := x) (p := fun t => climb x 4 t.Over) (B := 4194304 * 2) (l := fun k i => iter (ts := impl_GateTeamsOk_L10_ts) (R := Bool) k (impl_GateTeamsOk_L10 (some true)) x x (x.length : Int) i) (E := some true) (O := some false)
        (fun k => by simp only [iter, impl_GateTeamsOk_L10, ilt_e, cond_false] <;> rfl)
        (fun k i hi hb => by
          simp only [iter, impl_GateTeamsOk_L10, share, ilt_n hi, inb_n hi, cond_true, req_t, nth_i hi]
          refine (impl_up hx.1 hkn 4 0 k _ (by omega) (by omega) (hkn _ (mem_i hi))).trans ?_
          rw [iadd_n hx.1 hi]) k (by have := hx.1; omega)
      exact h10.trans (by cases x.all fun t => climb x 4 t.Over <;> rfl)

end Go.Proofs.YtnhkbghbllbknaaDoor.Pu
