/- What is drawn for covering. No condition. -/
import Derived.Test.YtnhkbghbllbknaaDoorPwL
namespace Go.Proofs.YtnhkbghbllbknaaDoor.Pu
open Go Go.RowKit Go.Proofs.YtnhkbghbllbknaaDoor.Abs Go.Proofs.YtnhkbghbllbknaaDoor.Fn

def Gd (F : Option ((List GateTeam) × (List GateRule) × GateRule)) : Prop := ∃ T rs q, F = some (T, rs, q) ∧ GT T ∧ GR q ∧ rs.length ≤ 30 ∧ ∀ r, r ∈ rs → GR' r
theorem snoc_all {rs : List GateRule} {r : GateRule} (h : ∀ r, r ∈ rs → GR' r) (hr : GR' r) : ∀ s, s ∈ rs ++ [r] → GR' s := fun s hs => by
  rcases List.mem_append.1 hs with h1 | h1
  · exact h s h1
  · rw [List.mem_singleton.1 h1]; exact hr

theorem l30_loop {T : List GateTeam} {acc q : GateRule} (hT : GT T) (hq : GR q) : ∀ (n k : Nat) (rs : List GateRule), n ≤ 14 → 200 + n ≤ k → rs.length + n ≤ 30 → (∀ r, r ∈ rs → GR' r) →
    Gd (iter (ts := spec_DrawGateCovers_L30_ts) (R := (List GateTeam) × (List GateRule) × GateRule) k (spec_DrawGateCovers_L30 fun v204 _ v206 v207 => some (v204, v207, v206)) T (n : Int) acc q rs) := by
  intro n
  induction n with
  | zero =>
    intro k rs h1 h2 h3 h4
    obtain ⟨k, rfl⟩ : ∃ j, k = j + 1 := ⟨k - 1, by omega⟩
    exact ⟨T, rs, q, rfl, hT, hq, by omega, h4⟩
  | succ n ih =>
    intro k rs h1 h2 h3 h4
    obtain ⟨k, rfl⟩ : ∃ j, k = j + 1 := ⟨k - 1, by omega⟩
    have e1 : isub .i64 ((n + 1 : Nat) : Int) 1 = ((n : Nat) : Int) := by rw [isubn (by omega) (by omega)]; omega
    have hd := dec_len n
    have hc : ∀ b : UInt8, catB [b] (dec n) = true := fun b => catB_t (by simp) (by omega)
    simp only [iter, spec_DrawGateCovers_L30, ilt_t (show (0 : Int) < ((n + 1 : Nat) : Int) by omega), e1, l4Dec_e k k n (by omega) (by omega), Option.bind_some, hc]
    show Gd (req _ _)
    rw [appB_t (by simp; omega) (by omega)]
    exact ih k _ (by omega) (by omega) (by simp; omega) (snoc_all h4 ⟨by simp, by simp; omega, by simp; omega, by simp⟩)

theorem l6_loop {T : List GateTeam} {q : GateRule} (hq : GR q) {J : List GateTeam → GateRule → L1Rd → GateRule → List GateRule → Option ((List GateTeam) × (List GateRule) × GateRule)}
    (hJ : ∀ acc r rs c, RdOk r c → c < 600000 → rs.length ≤ 10 → (∀ s, s ∈ rs → GR' s) → Gd (J T acc r q rs)) : ∀ (n k c : Nat) (acc : GateRule) (r : L1Rd) (rs : List GateRule), n ≤ 5 → 200000 + n ≤ k → RdOk r c → c + 20 * n < 500000 → rs.length + n ≤ 10 → (∀ s, s ∈ rs → GR' s) →
    Gd (iter (ts := spec_DrawGateCovers_L6_ts) (R := (List GateTeam) × (List GateRule) × GateRule) k (spec_DrawGateCovers_L6 J) T (n : Int) acc r q rs) := by
  intro n
  induction n with
  | zero =>
    intro k c acc r rs h1 h2 h3 h4 h5 h6
    obtain ⟨k, rfl⟩ : ∃ j, k = j + 1 := ⟨k - 1, by omega⟩
    exact hJ acc r rs c h3 (by omega) (by omega) h6
  | succ n ih =>
    intro k c acc r rs h1 h2 h3 h4 h5 h6
    obtain ⟨k, rfl⟩ : ∃ j, k = j + 1 := ⟨k - 1, by omega⟩
    have e1 : isub .i64 ((n + 1 : Nat) : Int) 1 = ((n : Nat) : Int) := by rw [isubn (by omega) (by omega)]; omega
    obtain ⟨g, r1, x1, hg, hr1⟩ := anyRule_e (k := k) h3 (by omega) (by omega)
    obtain ⟨u, r2, x2, hu, hr2⟩ := pick_e (k := k) (n := 2) hr1 (by omega) (by omega)
    simp only [iter, spec_DrawGateCovers_L6, share, ilt_t (show (0 : Int) < ((n + 1 : Nat) : Int) by omega), e1, x1, x2, Option.bind_some]
    have step : ∀ (c' : Nat) (r' : L1Rd) (s : GateRule), RdOk r' c' → c' ≤ c + 20 → GR' s → Gd (req (appB (rs.length + ([s] : List GateRule).length) 72) (iter (ts := spec_DrawGateCovers_L6_ts) (R := (List GateTeam) × (List GateRule) × GateRule) k (spec_DrawGateCovers_L6 J) T ((n : Nat) : Int) acc r' q (rs ++ [s]))) := fun c' r' s h7 h8 h9 => by
      rw [appB_t (by simp; omega) (by omega)]
      exact ih k c' acc r' _ (by omega) (by omega) h7 (by omega) (by simp; omega) (snoc_all h6 h9)
    cases ieq u 0 with
    | false => exact step _ r2 g hr2 (by omega) hg.to
    | true =>
      have x3 : spec_l5Rule k q = some q := by
        unfold spec_l5Rule
        rw [appB_t (by simp; have := hq.1; omega) (by omega)]
        simp only [List.nil_append]; rfl
      obtain ⟨w, r3, x4, hw, hr3⟩ := pick_e (k := k) (n := 8) hr2 (by omega) (by omega)
      simp only [x3, x4, Option.bind_some]
      obtain ⟨q1, q2, q3, q4⟩ := hq
      cases ieq w 0 with
      | true => exact step _ r3 ⟨q.Verbs, [], q.Team, q.Prefix⟩ hr3 (by omega) ⟨q1, by simp, q3, by simp only; omega⟩
      | false =>
        cases ieq w 1 with
        | true => exact step _ r3 ⟨q.Verbs, q.Kind, [], q.Prefix⟩ hr3 (by omega) ⟨q1, q2, by simp, by simp only; omega⟩
        | false =>
          cases ieq w 2 with
          | true => exact step _ r3 ⟨q.Verbs, q.Kind, q.Team, []⟩ hr3 (by omega) ⟨q1, q2, q3, by simp⟩
          | false =>
            have e2 : iadd .i64 (q.Verbs.length : Int) 1 = ((q.Verbs.length + 1 : Nat) : Int) := by rw [iaddn (by omega) (by omega)]; norm_cast
            have e3 : iquo .i64 ((q.Verbs.length + 1 : Nat) : Int) 2 = (((q.Verbs.length + 1) / 2 : Nat) : Int) := by rw [iquo_n (by omega) (by omega) (by omega)]; norm_cast
            have e4 : subB 0 (((q.Verbs.length + 1) / 2 : Nat) : Int) q.Verbs.length = true := by simp [subB]; omega
            have cut := step _ r3 ⟨subl q.Verbs 0 (((q.Verbs.length + 1) / 2 : Nat) : Int), q.Kind, q.Team, q.Prefix⟩ hr3 (by omega) ⟨by simp only [subl, List.length_drop, List.length_take]; omega, q2, q3, by simp only; omega⟩
            have cat : catB q.Prefix [49] = true := catB_t (by omega) (by simp)
            simp only [e2, e3, e4, cat]
            cases ieq w 3 with
            | true => exact cut
            | false =>
              cases ieq w 4 with
              | true => exact cut
              | false =>
                cases ieq w 5 with
                | true => exact step _ r3 ⟨q.Verbs, [106, 111, 98], q.Team, q.Prefix⟩ hr3 (by omega) ⟨q1, by simp, q3, by simp only; omega⟩
                | false =>
                  cases ieq w 6 with
                  | true => exact step _ r3 ⟨q.Verbs, q.Kind, [100, 101, 118], q.Prefix⟩ hr3 (by omega) ⟨q1, q2, by simp, by simp only; omega⟩
                  | false =>
                    cases ieq w 7 with
                    | true => exact step _ r3 ⟨q.Verbs, q.Kind, q.Team, q.Prefix ++ [49]⟩ hr3 (by omega) ⟨q1, q2, q3, by simp only [List.length_append, List.length_singleton]; omega⟩
                    | false => exact step _ r3 q hr3 (by omega) ⟨q1, q2, q3, by omega⟩

theorem drawCovers_e {k : Nat} {x : List Int} (hk : 300000 ≤ k) (h : okS (okInt .u8) x) : Gd (spec_DrawGateCovers k x) := by
  unfold spec_DrawGateCovers
  obtain ⟨r, x1, hr⟩ := opened (k := k) h
  obtain ⟨T, r1, x2, hT, hr1⟩ := anyTeams_e (k := k) hr (by omega) (by omega)
  obtain ⟨q, r2, x3, hq, hr2⟩ := anyRule_e (k := k) hr1 (by omega) (by omega)
  obtain ⟨n, r3, x4, hn, hr3⟩ := pick_e (k := k) (n := 5) hr2 (by omega) (by omega)
  simp only [share, x1, x2, x3, x4, Option.bind_some]
  obtain ⟨n, rfl⟩ := Int.eq_ofNat_of_zero_le hn.1
  refine l6_loop hq (fun acc r rs c h1 h2 h3 h4 => ?_) n k _ _ r3 [] (by omega) (by omega) hr3 (by omega) (by simp; omega) (fun s hs => by cases hs)
  obtain ⟨v, r4, y1, hv, hr4⟩ := pick_e (k := k) (n := 10) h1 (by omega) (by omega)
  simp only [y1, Option.bind_some]
  cases ieq v 0 with
  | false => exact ⟨T, rs, q, rfl, hT, hq, by omega, h4⟩
  | true =>
    obtain ⟨m, r5, y2, hm, hr5⟩ := pick_e (k := k) (n := 14) hr4 (by omega) (by omega)
    simp only [y2, Option.bind_some]
    obtain ⟨m, rfl⟩ := Int.eq_ofNat_of_zero_le hm.1
    exact l30_loop hT hq m k rs (by omega) (by omega) (by omega) h4
theorem drawAllows_e {k : Nat} {x : List Int} (hk : 300000 ≤ k) (h : okS (okInt .u8) x) : ∃ T q a, spec_DrawGateAllows k x = some (T, q, a) ∧ (a.Kind.length ≤ 100 ∧ a.Team.length ≤ 100 ∧ a.Name.length ≤ 100) := by
  unfold spec_DrawGateAllows
  obtain ⟨r, x1, hr⟩ := opened (k := k) h
  obtain ⟨T, r1, x2, hT, hr1⟩ := anyTeams_e (k := k) hr (by omega) (by omega)
  obtain ⟨q, r2, x3, hq, hr2⟩ := anyRule_e (k := k) hr1 (by omega) (by omega)
  obtain ⟨a, r3, x4, ha, hr3⟩ := drawAct_e (k := k) hr2 (by omega)
  simp only [x1, x2, x3, x4, Option.bind_some]
  exact ⟨T, q, a, rfl, ha⟩

/-! ### The two texts at what is drawn -/

theorem implCovers_e {k : Nat} {x : List GateTeam} {rs : List GateRule} {q : GateRule} (hk : 4194304 * 4 ≤ k) (hx : sdS GateTeam.sd x) (hr : sdS GateRule.sd rs) (hq : q.sd) : impl_GateCovers k x rs q = some (coversM x rs q) := by
  unfold impl_GateCovers coversM
  rw [implAllOk_e (by omega) hx hr hq]
  simp only [Option.bind_some]
  cases ha : allOk x rs q with
  | false => rfl
  | true =>
    obtain ⟨_, h2, h3⟩ := allOk_iff.1 ha
    rw [implLacks_e hk hx.1 hr hq (List.all_eq_true.2 h3) h2]
    rfl
theorem specCovers_e {k : Nat} {x : List GateTeam} {rs : List GateRule} {q : GateRule} (hk : 4194304 * 4 ≤ k) (hx : sdS GateTeam.sd x) (hr : sdS GateRule.sd rs) (hq : q.sd) : spec_GateCovers k x rs q = some (coversM x rs q) := by
  unfold spec_GateCovers coversM
  rw [specAllOk_e (by omega) hx hr hq]
  simp only [Option.bind_some]
  cases ha : allOk x rs q with
  | false => rfl
  | true =>
    rw [specLacks_e hk hx.1 hr hq]
    rfl

/-! #### Verbs at any number -/

theorem step_bit16 : ∀ s : Fin 64, ∀ a : Fin 5, ∀ v : Fin 16, bit (setStep (s.val : Int) ((a.val + 1 : Nat) : Int)) ((v.val : Nat) : Int) = (bit (s.val : Int) ((v.val : Nat) : Int) || ieq ((a.val + 1 : Nat) : Int) ((v.val : Nat) : Int)) := by
  decide +kernel
theorem set_bits16 : ∀ (vs : List Int) (s : Fin 64), (∀ v, v ∈ vs → 1 ≤ v ∧ v ≤ 5) → ∀ v : Fin 16, bit (vs.foldl setStep (s.val : Int)) ((v.val : Nat) : Int) = (bit (s.val : Int) ((v.val : Nat) : Int) || vs.any fun y => ieq y ((v.val : Nat) : Int))
  | [], s, _, v => by simp
  | a :: r, s, h, v => by
    obtain ⟨ha1, ha2⟩ := h a (List.mem_cons_self ..)
    obtain ⟨a', rfl⟩ : ∃ a' : Fin 5, a = ((a'.val + 1 : Nat) : Int) := ⟨⟨(a - 1).toNat, by omega⟩, by simp only; omega⟩
    obtain ⟨⟨t, ht⟩, _⟩ := step_bit s a'
    rw [List.foldl_cons, ht, set_bits16 r t (fun y hy => h y (List.mem_cons_of_mem _ hy)) v, ← ht, step_bit16 s a' v, List.any_cons, Bool.or_assoc]
theorem bit_016 : ∀ v : Fin 16, bit 0 ((v.val : Nat) : Int) = false := by decide +kernel
theorem iconv_16 : ∀ v : Fin 16, ile 0 (iconv .u64 ((v.val : Nat) : Int)) = true := by decide +kernel
theorem implHasAny_e {k : Nat} {r : GateRule} {v : Int} (hk : 4194304 ≤ k) (hr : r.sd) (ho : ruleOk r = true) : ((impl_setOf k r.Verbs).bind fun s => impl_verbSet_has k s v) = some (hasV r v) := by
  rw [setOf_e hk hr.1.1 (ruleOk_verbs ho)]
  unfold impl_verbSet_has
  simp only [Option.bind_some]
  have out : ¬ (1 ≤ v ∧ v ≤ 5) → hasV r v = false := fun h => by
    refine Bool.eq_false_iff.2 fun h2 => h (ruleOk_verbs ho v (hasV_iff.1 h2))
  by_cases h0 : 0 ≤ v
  · by_cases h1 : v < 16
    · obtain ⟨v', rfl⟩ : ∃ v' : Fin 16, v = ((v'.val : Nat) : Int) := ⟨⟨v.toNat, by omega⟩, by simp only; omega⟩
      rw [ile_t h0, ilt_t h1, iconv_16 v']
      have hb := set_bits16 r.Verbs 0 (ruleOk_verbs ho) v'
      have hb' : bit (r.Verbs.foldl setStep 0) ((v'.val : Nat) : Int) = hasV r ((v'.val : Nat) : Int) := by
        have h2 : bit (r.Verbs.foldl setStep 0) ((v'.val : Nat) : Int) = (bit 0 ((v'.val : Nat) : Int) || r.Verbs.any fun y => ieq y ((v'.val : Nat) : Int)) := hb
        rw [h2, bit_016, Bool.false_or]; rfl
      rw [← hb']; rfl
    · rw [ile_t h0, ilt_f h1, out (by omega)]; rfl
  · rw [ile_f h0, out (by omega)]; rfl
theorem implAllows_e {k : Nat} {x : List GateTeam} {r : GateRule} {a : GateAct} (hk : 4194304 * 3 ≤ k) (hx : sdS GateTeam.sd x) (hr : r.sd) : impl_GateAllows k x r a = some (allowsM x r a) := by
  unfold impl_GateAllows allowsM
  simp only [share, implTeamsOk_e hk hx, implRuleOk_e (show 4194304 * 2 ≤ k by omega) hr, Option.bind_some]
  cases teamsOk x with
  | false => rfl
  | true =>
    cases ho : ruleOk r with
    | false => rfl
    | true =>
      have hh := implHasAny_e (k := k) (v := a.Verb) (by omega) hr ho
      have hb : ∀ f : Bool → Option Bool, ((impl_setOf k r.Verbs).bind fun s => (impl_verbSet_has k s a.Verb).bind f) = f (hasV r a.Verb) := fun f => by
        have : ((impl_setOf k r.Verbs).bind fun s => (impl_verbSet_has k s a.Verb).bind f) = ((impl_setOf k r.Verbs).bind fun s => impl_verbSet_has k s a.Verb).bind f := by
          cases impl_setOf k r.Verbs <;> rfl
        rw [this, hh]; rfl
      simp only [Bool.not_true, cond_false]
      unfold impl_GateRule_reaches reachN
      rw [hb]
      simp only [implBegins_e, implUnder_e (show 4194304 * 2 ≤ k by omega) hx.1, Option.bind_some]
      cases hasV r a.Verb <;> cases seq r.Kind [] <;> cases seq r.Kind a.Kind <;> cases seq r.Team [] <;> cases underN x 4 a.Team r.Team <;> rfl
theorem some_e {k : Nat} {x : List GateTeam} {rs : List GateRule} {a : GateAct} (hk : 4194304 * 4 ≤ k) (hx : sdS GateTeam.sd x) (hr : sdS GateRule.sd rs) : laws_wSome k x rs a = some (someM x rs a) := by
  unfold laws_wSome someM
  have h := loop_any (R := Option Bool) (x := rs) (p := fun r => allowsM x r a) (B := 4194304 * 3) (l := fun k i => iter (ts := laws_wSome_L2_ts) (R := Bool) k (laws_wSome_L2 (some false)) x rs a i) (E := some false) (O := some true)
    (fun k => by simp only [iter, laws_wSome_L2, ilt_e, cond_false] <;> rfl)
    (fun k i hi hb => by
      simp only [iter, laws_wSome_L2, ilt_n hi, inb_n hi, cond_true, req_t, nth_i hi, implAllows_e hb hx (hr.2 _ (mem_i hi)), Option.bind_some, iadd_n hr.1 hi] <;> rfl) k (by have := hr.1; omega)
  simp only [share]
  refine h.trans ?_
  cases rs.any fun r => allowsM x r a <;> rfl

end Go.Proofs.YtnhkbghbllbknaaDoor.Pu
