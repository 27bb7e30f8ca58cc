/- Teams, rules and acts that are drawn. No condition. -/
import Derived.Test.YtnhkbghbllbknaaDoorPwJ
namespace Go.Proofs.YtnhkbghbllbknaaDoor.Pu
open Go Go.RowKit Go.Proofs.YtnhkbghbllbknaaDoor.Abs Go.Proofs.YtnhkbghbllbknaaDoor.Fn

/-- Small teams; small rules; small acts. -/
def GT (ts : List GateTeam) : Prop := 1 ≤ ts.length ∧ ts.length ≤ 20 ∧ ∀ t, t ∈ ts → t.Name.length ≤ 100 ∧ t.Over.length ≤ 100
def GR (r : GateRule) : Prop := r.Verbs.length ≤ 10 ∧ r.Kind.length ≤ 100 ∧ r.Team.length ≤ 100 ∧ r.Prefix.length ≤ 100
def GR' (r : GateRule) : Prop := r.Verbs.length ≤ 10 ∧ r.Kind.length ≤ 100 ∧ r.Team.length ≤ 100 ∧ r.Prefix.length ≤ 101
theorem GT.sd {ts : List GateTeam} (h : GT ts) : sdS GateTeam.sd ts := ⟨by have := h.2.1; omega, fun t ht => by
  have := h.2.2 t ht
  exact ⟨by unfold sdStr; omega, by unfold sdStr; omega⟩⟩
theorem GR'.sd {r : GateRule} (h : GR' r) : r.sd := by
  obtain ⟨h1, h2, h3, h4⟩ := h
  exact ⟨⟨by omega, fun _ _ => trivial⟩, by unfold sdStr; omega, by unfold sdStr; omega, by unfold sdStr; omega⟩
theorem GR.to {r : GateRule} (h : GR r) : GR' r := ⟨h.1, h.2.1, h.2.2.1, by have := h.2.2.2; omega⟩

theorem opened {k : Nat} {x : List Int} (h : okS (okInt .u8) x) : ∃ r, spec_l1Open_2 k x = some r ∧ RdOk r 0 := by
  have hb : ∀ y, y ∈ x → 0 ≤ y ∧ y ≤ 255 := fun y hy => h.2 y hy
  unfold spec_l1Open_2
  simp only [share]
  by_cases hl : (2000 : Int) < (x.length : Int)
  · rw [ilt_t hl]
    have hs : subB 0 2000 x.length = true := by simp [subB]; omega
    simp only [cond_true, hs, req_t]
    refine ⟨_, rfl, ⟨fun y hy => hb y ?_, ?_, Int.le_refl _, Int.le_refl _⟩⟩
    · exact List.mem_of_mem_take (List.mem_of_mem_drop hy)
    · simp only [subl, List.length_drop, List.length_take]; omega
  · rw [ilt_f hl]
    exact ⟨_, rfl, ⟨hb, by simp only; omega, Int.le_refl _, Int.le_refl _⟩⟩

theorem mem2 {a b s : Nm} {n : Nat} (h : s ∈ [a, b]) (ha : a.length ≤ n) (hb : b.length ≤ n) : s.length ≤ n := by
  simp only [List.mem_cons, List.not_mem_nil, or_false] at h
  rcases h with rfl | rfl
  · exact ha
  · exact hb
theorem all_len {xs : List Nm} {s : Nm} {n : Nat} (h : s ∈ xs) (hn : (xs.all fun y => Nat.ble y.length n) = true) : s.length ≤ n := Nat.le_of_ble_eq_true (List.all_eq_true.1 hn s h)

theorem drawVerbs_e {k c : Nat} {r : L1Rd} (h : RdOk r c) (hc : c < 900000) (hk : 100 ≤ k) : Dr (spec_l4DrawVerbs k r) (fun v => v.length ≤ 10) (c + 6) := by
  have go : ∀ (m j k c : Nat) (r : L1Rd) (vs : List Int) (J : L1Rd → List Int → Option (List Int × L1Rd)), j + m = 6 → m + 1 ≤ k → RdOk r c → c + m < 950000 → vs.length + m ≤ 5 →
      (∀ r vs, RdOk r (c + m) → vs.length ≤ 5 → Dr (J r vs) (fun v => v.length ≤ 10) (c + m + 1)) → Dr (iter (ts := spec_l4DrawVerbs_L3_ts) (R := (List Int) × L1Rd) k (spec_l4DrawVerbs_L3 J) (j : Int) r vs) (fun v => v.length ≤ 10) (c + m + 1) := by
    intro m
    induction m with
    | zero =>
      intro j k c r vs J h1 h2 h3 h4 h5 h6
      obtain rfl : j = 6 := by omega
      obtain ⟨k, rfl⟩ : ∃ q, k = q + 1 := ⟨k - 1, by omega⟩
      simp only [iter, spec_l4DrawVerbs_L3, ile_f (show ¬ ((6 : Nat) : Int) ≤ 5 by omega), cond_false]
      exact h6 r vs h3 (by omega)
    | succ m ih =>
      intro j k c r vs J h1 h2 h3 h4 h5 h6
      obtain ⟨k, rfl⟩ : ∃ q, k = q + 1 := ⟨k - 1, by omega⟩
      have hj : ile ((j : Nat) : Int) 5 = true := ile_t (by omega)
      have e1 : iadd .i64 ((j : Nat) : Int) 1 = ((j + 1 : Nat) : Int) := by rw [iaddn (by omega) (by omega)]; norm_cast
      simp only [iter, spec_l4DrawVerbs_L3, share, hj, cond_true]
      refine Dr.bind (pick_e h3 (by omega) (by omega)) fun v r' hv hr => ?_
      dsimp only
      have step : ∀ vs' : List Int, vs'.length + m ≤ 5 → Dr (iter (ts := spec_l4DrawVerbs_L3_ts) (R := (List Int) × L1Rd) k (spec_l4DrawVerbs_L3 J) ((j + 1 : Nat) : Int) r' vs') (fun v => v.length ≤ 10) (c + 1 + m + 1) := fun vs' hv' =>
        ih (j + 1) k (c + 1) r' vs' J (by omega) (by omega) hr (by omega) hv' (fun r vs h7 h8 => by
          have := h6 r vs (by rw [show c + (m + 1) = c + 1 + m by omega]; exact h7) h8
          rwa [show c + (m + 1) + 1 = c + 1 + m + 1 by omega] at this)
      rw [show c + (m + 1) + 1 = c + 1 + m + 1 by omega, e1]
      cases ieq v 0 with
      | true =>
        show Dr (req _ _) _ _
        rw [appB_t (by simp; omega) (by omega)]
        exact step _ (by simp; omega)
      | false => exact step _ (by omega)
  unfold spec_l4DrawVerbs
  simp only [share]
  refine go 5 1 k c r [] _ (by omega) (by omega) h (by omega) (by simp) fun r vs h1 h2 => ?_
  cases ieq (vs.length : Int) 0 with
  | true =>
    rw [cond_true]
    refine Dr.bind (pick_e h1 (by omega) (by omega)) fun v r' hv hr => ?_
    exact Dr.pure (by simp) hr
  | false => exact Dr.pure (by omega) (h1.mono (by omega))

theorem drawRule_e {k c : Nat} {r : L1Rd} (h : RdOk r c) (hc : c < 800000) (hk : 100 ≤ k) : Dr (spec_l4DrawRule k r) GR (c + 9) := by
  unfold spec_l4DrawRule
  refine Dr.bind (drawVerbs_e h (by omega) hk) fun v r1 hv h1 => ?_
  refine Dr.bind (of_e h1 (by omega) (by simp)) fun s1 r2 hs1 h2 => ?_
  refine Dr.bind (of_e h2 (by omega) (by simp)) fun s2 r3 hs2 h3 => ?_
  refine Dr.bind (of_e h3 (by omega) (by simp)) fun s3 r4 hs3 h4 => ?_
  exact Dr.pure ⟨hv, all_len hs1 rfl, all_len hs2 rfl, all_len hs3 rfl⟩ h4

theorem anyRule_e {k c : Nat} {r : L1Rd} (h : RdOk r c) (hc : c < 800000) (hk : 100000 ≤ k) : Dr (spec_l4AnyRule k r) GR (c + 12) := by
  unfold spec_l4AnyRule
  simp only [share]
  refine Dr.bind (drawRule_e h (by omega) (by omega)) fun q r1 hq h1 => ?_
  refine Dr.bind (pick_e h1 (by omega) (by omega)) fun v r2 hv h2 => ?_
  dsimp only
  obtain ⟨q1, q2, q3, q4⟩ := hq
  cases ieq v 0 with
  | true =>
    rw [cond_true]
    refine Dr.bind (pick_e h2 (by omega) (by omega)) fun u r3 hu h3 => ?_
    dsimp only
    rw [inb_t hu.1 (by exact hu.2), req_t]
    refine Dr.pure ⟨?_, q2, q3, q4⟩ (h3.mono (by omega))
    obtain ⟨j, rfl⟩ := Int.eq_ofNat_of_zero_le hu.1
    have hj : j < 6 := by omega
    have : ∀ j : Fin 6, (nth ([] : List Int) ([([] : List Int), ([(2 : Int), (1 : Int)] : List Int), ([(0 : Int)] : List Int), ([(6 : Int)] : List Int), ([(1 : Int), (1 : Int)] : List Int), ([(-1 : Int)] : List Int)] : List (List Int)) ((j.val : Nat) : Int)).length ≤ 10 := by decide
    exact this ⟨j, hj⟩
  | false =>
    cases ieq v 1 with
    | true =>
      refine Dr.bind (of_e h2 (by omega) (by simp)) fun s r3 hs h3 => ?_
      exact Dr.pure ⟨q1, all_len hs rfl, q3, q4⟩ (h3.mono (by omega))
    | false =>
      cases ieq v 2 with
      | true =>
        refine Dr.bind (of_e h2 (by omega) (by simp)) fun s r3 hs h3 => ?_
        exact Dr.pure ⟨q1, q2, all_len hs rfl, q4⟩ (h3.mono (by omega))
      | false =>
        cases ieq v 3 with
        | true =>
          refine Dr.bind (pick_e h2 (by omega) (by omega)) fun u r3 hu h3 => ?_
          dsimp only
          obtain ⟨j, rfl⟩ := Int.eq_ofNat_of_zero_le hu.1
          have e1 : iadd .i64 16 ((j : Nat) : Int) = ((16 + j : Nat) : Int) := by rw [iaddn (by omega) (by omega)]; norm_cast
          obtain ⟨t, t1, t2⟩ := many_e (k := k) (s := [98]) (n := 16 + j) hk (by simp) (by omega)
          rw [e1, t1, Option.bind_some]
          refine Dr.bind (of_e h3 (by omega) (by simp)) fun s r4 hs h4 => ?_
          exact Dr.pure ⟨q1, q2, q3, mem2 hs (by simp) (by simp only [List.length_singleton] at t2; omega)⟩ (h4.mono (by omega))
        | false => exact Dr.pure ⟨q1, q2, q3, q4⟩ (h2.mono (by omega))

theorem drawAct_e {k c : Nat} {r : L1Rd} (h : RdOk r c) (hc : c < 800000) : Dr (spec_l4DrawAct k r) (fun a => a.Kind.length ≤ 100 ∧ a.Team.length ≤ 100 ∧ a.Name.length ≤ 100) (c + 4) := by
  unfold spec_l4DrawAct spec_l4DrawTeam
  refine Dr.bind (pick_e h (by omega) (by omega)) fun v r1 hv h1 => ?_
  refine Dr.bind (of_e h1 (by omega) (by simp)) fun s1 r2 hs1 h2 => ?_
  refine Dr.bind (Dr.bind (of_e h2 (by omega) (by simp)) fun s2 r3 hs2 h3 => Dr.pure (P := fun s : Nm => s.length ≤ 100) (all_len hs2 rfl) h3) fun s2 r3 hs2 h3 => ?_
  refine Dr.bind (of_e h3 (by omega) (by simp)) fun s3 r4 hs3 h4 => ?_
  exact Dr.pure ⟨all_len hs1 rfl, hs2, all_len hs3 rfl⟩ h4

theorem GT.set {ts : List GateTeam} (h : GT ts) {i : Int} {t : GateTeam} (ht : t.Name.length ≤ 100 ∧ t.Over.length ≤ 100) : GT (put' ts i t) := by
  refine ⟨by rw [put_length]; exact h.1, by rw [put_length]; exact h.2.1, fun u hu => ?_⟩
  rcases List.mem_or_eq_of_mem_set hu with h1 | h1
  · exact h.2.2 u h1
  · rw [h1]; exact ht
theorem GT.snoc {ts : List GateTeam} (h : GT ts) (hl : ts.length ≤ 19) {t : GateTeam} (ht : t.Name.length ≤ 100 ∧ t.Over.length ≤ 100) : GT (ts ++ [t]) := by
  refine ⟨by simp, by simp; omega, fun u hu => ?_⟩
  rcases List.mem_append.1 hu with h1 | h1
  · exact h.2.2 u h1
  · rw [List.mem_singleton.1 h1]; exact ht
theorem GT.nth {ts : List GateTeam} (h : GT ts) {i : Int} (h0 : 0 ≤ i) (h1 : i < (ts.length : Int)) : (nth (default : GateTeam) ts i).Name.length ≤ 100 ∧ (nth (default : GateTeam) ts i).Over.length ≤ 100 := by
  obtain ⟨j, rfl⟩ := Int.eq_ofNat_of_zero_le h0
  have hj : j < ts.length := by omega
  have e : Abs.nth (default : GateTeam) ts ((j : Nat) : Int) = ts[j] := nth_i hj
  rw [e]
  exact h.2.2 _ (mem_i hj)

theorem spoil_loop {J : L1Rd → List GateTeam → Option (List GateTeam × L1Rd)} (hJ : ∀ r ts c, RdOk r c → c < 850000 → GT ts → Dr (J r ts) GT c) : ∀ (m k c : Nat) (r : L1Rd) (ts : List GateTeam), ts.length + m = 14 → 100000 + m + 1 ≤ k → RdOk r c → c + m + 1 < 850000 → GT ts →
    Dr (iter (ts := spec_l4SpoilTeams_L12_ts) (R := (List GateTeam) × L1Rd) k (spec_l4SpoilTeams_L12 J) r ts) GT (c + m + 1) := by
  intro m
  induction m with
  | zero =>
    intro k c r ts h1 h2 h3 h4 h5
    obtain ⟨k, rfl⟩ : ∃ q, k = q + 1 := ⟨k - 1, by omega⟩
    simp only [iter, spec_l4SpoilTeams_L12]
    refine Dr.bind (pick_e h3 (by omega) (by omega)) fun v r' hv hr => ?_
    dsimp only
    rw [iaddn (by omega) (by omega), ilt_f (by omega)]
    exact hJ _ _ _ hr (by omega) h5
  | succ m ih =>
    intro k c r ts h1 h2 h3 h4 h5
    obtain ⟨k, rfl⟩ : ∃ q, k = q + 1 := ⟨k - 1, by omega⟩
    simp only [iter, spec_l4SpoilTeams_L12]
    refine Dr.bind (pick_e h3 (by omega) (by omega)) fun v r' hv hr => ?_
    dsimp only
    rw [iaddn (by omega) (by omega)]
    cases hlt : ilt (ts.length : Int) (12 + v) with
    | false => exact (hJ _ _ _ hr (by omega) h5).mono (fun _ h => h) (by omega)
    | true =>
      obtain ⟨t, t1, t2⟩ := many_e (k := k) (s := [122]) (n := ts.length) (by omega) (by simp) (by omega)
      have t3 : t.length ≤ 14 := by simp only [List.length_singleton] at t2; omega
      rw [cond_true, t1, Option.bind_some, catB_t (by simp) (by omega), appB_t (by simp; omega) (by omega), req_t]
      have := ih k (c + 1) r' (ts ++ [⟨[115] ++ t, []⟩]) (by simp; omega) (by omega) hr (by omega) (h5.snoc (by omega) ⟨by simp; omega, by simp⟩)
      exact this.mono (fun _ h => h) (by omega)

theorem spoil_e {k c : Nat} {r : L1Rd} {ts : List GateTeam} (h : RdOk r c) (hc : c < 800000) (hk : 100100 ≤ k) (ht : GT ts) (hl : ts.length ≤ 10) : Dr (spec_l4SpoilTeams k ts r) GT (c + 20) := by
  unfold spec_l4SpoilTeams
  rw [appB_t (by simp; omega) (by omega), req_t]
  simp only [share, List.nil_append]
  have hl1 := ht.1
  refine Dr.bind (pick_e h (by omega) (by omega)) fun i r1 hi h1 => ?_
  refine Dr.bind (pick_e h1 (by omega) (by omega)) fun v r2 hv h2 => ?_
  dsimp only
  have hn := ht.nth hi.1 hi.2
  rw [inb_t hi.1 hi.2]
  cases ieq v 0 with
  | true =>
    rw [cond_true]
    refine Dr.bind (of_e h2 (by omega) (by simp)) fun s r3 hs h3 => ?_
    exact Dr.pure (ht.set ⟨all_len hs rfl, hn.2⟩) (h3.mono (by omega))
  | false =>
    cases ieq v 1 with
    | true =>
      rw [cond_false, cond_true, req_t]
      refine Dr.bind (of_e h2 (by omega) (by simp)) fun s r3 hs h3 => ?_
      refine Dr.pure (ht.set ⟨hn.1, ?_⟩) (h3.mono (by omega))
      simp only [List.mem_cons, List.not_mem_nil, or_false] at hs
      rcases hs with rfl | rfl | rfl | rfl | rfl
      · simp
      · simp
      · exact hn.1
      · simp
      · simp
    | false =>
      cases ieq v 2 with
      | true =>
        rw [cond_false, cond_false, cond_true, req_t, appB_t (by simp; omega) (by omega), req_t]
        exact Dr.pure (ht.snoc (by omega) hn) (h2.mono (by omega))
      | false =>
        cases ieq v 3 with
        | true =>
          exact (spoil_loop (fun r ts c h3 _ h4 => Dr.pure h4 h3) (14 - ts.length) k (c + 2) r2 ts (by omega) (by omega) h2 (by omega) ht).mono (fun _ h => h) (by omega)
        | false =>
          cases ieq v 4 with
          | true =>
            show Dr (req _ _) _ _
            rw [appB_t (by simp; omega) (by omega), req_t]
            exact Dr.pure (ht.snoc (by omega) ⟨by simp, by simp⟩) (h2.mono (by omega))
          | false =>
            have e1 : isub .i64 (ts.length : Int) 1 = (ts.length : Int) - 1 := isubn (by omega) (by omega)
            show Dr (req _ (req _ _)) _ _
            rw [e1, inb_t (by omega) (by omega), inb_t (i := (0 : Int)) (by omega) (by omega), req_t, req_t]
            exact Dr.pure (ht.set ⟨(ht.nth (i := 0) (by omega) (by omega)).1, (ht.nth (i := (ts.length : Int) - 1) (by omega) (by omega)).1⟩) (h2.mono (by omega))

theorem drawTeams_e {k c : Nat} {r : L1Rd} (h : RdOk r c) (hc : c < 800000) : Dr (spec_l4DrawTeams k r) (fun ts => GT ts ∧ ts.length ≤ 10) (c + 1) := by
  unfold spec_l4DrawTeams
  refine Dr.bind (pick_e h (by omega) (by omega)) fun v r1 hv h1 => ?_
  dsimp only
  have small : ∀ ts : List GateTeam, (ts.all fun t => Nat.ble t.Name.length 100 && Nat.ble t.Over.length 100) = true → 1 ≤ ts.length → ts.length ≤ 10 → GT ts ∧ ts.length ≤ 10 := fun ts h1 h2 h3 => ⟨⟨h2, by omega, fun t ht => by
    have := List.all_eq_true.1 h1 t ht
    rw [Bool.and_eq_true] at this
    exact ⟨Nat.le_of_ble_eq_true this.1, Nat.le_of_ble_eq_true this.2⟩⟩, h3⟩
  cases ieq v 0 with
  | true => exact Dr.pure (small _ rfl (by simp) (by simp)) h1
  | false =>
    cases ieq v 1 with
    | true => exact Dr.pure (small _ rfl (by simp) (by simp)) h1
    | false =>
      exact Dr.pure (v := ([(⟨([100, 101, 118] : List UInt8), ([] : List UInt8)⟩ : GateTeam), (⟨([108, 97, 98] : List UInt8), ([100, 101, 118] : List UInt8)⟩ : GateTeam), (⟨([111, 112, 115] : List UInt8), ([] : List UInt8)⟩ : GateTeam)] : List GateTeam)) (small _ rfl (by simp) (by simp)) h1

theorem anyTeams_e {k c : Nat} {r : L1Rd} (h : RdOk r c) (hc : c < 700000) (hk : 100100 ≤ k) : Dr (spec_l4AnyTeams k r) GT (c + 30) := by
  unfold spec_l4AnyTeams
  refine Dr.bind (drawTeams_e h (by omega)) fun ts r1 hts h1 => ?_
  refine Dr.bind (pick_e h1 (by omega) (by omega)) fun v r2 hv h2 => ?_
  dsimp only
  cases ieq v 0 with
  | true => 
    rw [cond_true]
    refine Dr.bind ((spoil_e h2 (by omega) hk hts.1 hts.2).mono (fun _ h => h) (show c + 1 + 1 + 20 ≤ c + 30 by omega)) fun ts2 r3 h3 h4 => ?_
    exact Dr.pure h3 h4
  | false => exact Dr.pure hts.1 (h2.mono (by omega))

end Go.Proofs.YtnhkbghbllbknaaDoor.Pu
