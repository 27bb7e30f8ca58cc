/- Names that are not used yet; what is uncovered. No condition. -/
import Derived.Test.YtnhkbghbllbknaaDoorPwX
namespace Go.Proofs.YtnhkbghbllbknaaDoor.Pu
open Go Go.RowKit Go.Proofs.YtnhkbghbllbknaaDoor.Abs Go.Proofs.YtnhkbghbllbknaaDoor.Fn

/-! ### Numbers as texts -/

abbrev dec (u : Nat) : List UInt8 := Lib.decDigits u
theorem dec_lt {u : Nat} (h : u < 10) : dec u = [UInt8.ofNat (48 + u)] := by unfold dec; rw [Lib.decDigits, dif_pos h]
theorem dec_ge {u : Nat} (h : ¬ u < 10) : dec u = dec (u / 10) ++ [UInt8.ofNat (48 + u % 10)] := by unfold dec; rw [Lib.decDigits, dif_neg h]
theorem dec_ne (u : Nat) : dec u ≠ [] := by
  by_cases h : u < 10
  · rw [dec_lt h]; simp
  · rw [dec_ge h]; simp
theorem dig_inj {a b : Nat} (ha : a < 10) (hb : b < 10) (h : UInt8.ofNat (48 + a) = UInt8.ofNat (48 + b)) : a = b := by
  have := congrArg UInt8.toNat h
  simp only [UInt8.toNat_ofNat'] at this
  omega
theorem dec_inj : ∀ u v : Nat, dec u = dec v → u = v := by
  intro u
  induction u using Nat.strongRecOn with
  | _ u ih =>
    intro v h
    by_cases h1 : u < 10
    · by_cases h2 : v < 10
      · rw [dec_lt h1, dec_lt h2] at h
        exact dig_inj h1 h2 (by simpa using h)
      · rw [dec_lt h1, dec_ge h2] at h
        have := congrArg List.length h
        have h3 := dec_ne (v / 10)
        cases hd : dec (v / 10) with
        | nil => exact absurd hd h3
        | cons => rw [hd] at this; simp at this
    · by_cases h2 : v < 10
      · rw [dec_ge h1, dec_lt h2] at h
        have := congrArg List.length h
        have h3 := dec_ne (u / 10)
        cases hd : dec (u / 10) with
        | nil => exact absurd hd h3
        | cons => rw [hd] at this; simp at this
      · rw [dec_ge h1, dec_ge h2] at h
        obtain ⟨e1, e2⟩ := List.append_inj' h rfl
        have e3 := ih (u / 10) (by omega) (v / 10) e1
        have e4 := dig_inj (Nat.mod_lt _ (by omega)) (Nat.mod_lt _ (by omega)) (by simpa using e2)
        omega
theorem dec_len : ∀ u : Nat, (dec u).length ≤ u + 1 := by
  intro u
  induction u using Nat.strongRecOn with
  | _ u ih =>
    by_cases h : u < 10
    · rw [dec_lt h]; simp
    · rw [dec_ge h]
      have := ih (u / 10) (by omega)
      simp only [List.length_append, List.length_singleton]
      omega
theorem iquo_10 {u : Nat} (h : u ≤ 100000000) : iquo .i64 (u : Int) 10 = ((u / 10 : Nat) : Int) := by
  have e : (u : Int).tdiv 10 = ((u / 10 : Nat) : Int) := by rw [Int.tdiv_eq_ediv_of_nonneg (by omega)]; norm_cast
  unfold iquo
  rw [e]
  exact wrap_id (by omega) (by omega)
theorem irem_10 {u : Nat} : irem (u : Int) 10 = ((u % 10 : Nat) : Int) := by
  unfold irem
  rw [Int.tmod_eq_emod_of_nonneg (by omega)]; norm_cast
theorem dig_str {d : Nat} (h : d < 10) : bstr ([iconv .u8 (iadd .i64 48 (d : Int))] : List Int) = [UInt8.ofNat (48 + d)] := by
  have : ∀ d : Fin 10, bstr ([iconv .u8 (iadd .i64 48 ((d.val : Nat) : Int))] : List Int) = [UInt8.ofNat (48 + d.val)] := by decide +kernel
  exact this ⟨d, h⟩
theorem catB_t {a b : List UInt8} (ha : a.length ≤ 200000000) (hb : b.length ≤ 200000000) : catB a b = true := by
  simp only [catB, decide_eq_true_eq]; omega
theorem l4Dec_e : ∀ (n k u : Nat), u < n → u ≤ 100000000 → spec_l4Dec n k (u : Int) = some (dec u)
  | 0, _, _, h, _ => by omega
  | n + 1, k, u, h, hu => by
    simp only [spec_l4Dec]
    by_cases h1 : u < 10
    · rw [ilt_t (show (u : Int) < 10 by omega), dec_lt h1, ← dig_str h1]; rfl
    · rw [ilt_f (show ¬ (u : Int) < 10 by omega), iquo_10 hu, l4Dec_e n k (u / 10) (by omega) (by omega), irem_10, dig_str (Nat.mod_lt _ (by omega)), dec_ge h1]
      have hl := dec_len (u / 10)
      have hc : catB (dec (u / 10)) [UInt8.ofNat (48 + u % 10)] = true := catB_t (by omega) (by simp)
      simp only [cond_false, Option.bind_some, hc, req_t] <;> rfl

/-! ### The first name that is not used -/

theorem fresh_ex (p : List UInt8) (xs : List Nm) : ∃ i, i ≤ xs.length ∧ p ++ dec i ∉ xs := by
  refine Classical.byContradiction fun hn => ?_
  have hall : ∀ i, i ≤ xs.length → p ++ dec i ∈ xs := fun i hi => Classical.byContradiction fun h => hn ⟨i, hi, h⟩
  have hnd : ((List.range (xs.length + 1)).map fun i => p ++ dec i).Nodup := by
    exact List.Pairwise.map _ (fun a b h e => h (dec_inj a b (List.append_cancel_left e))) List.nodup_range
  have := hnd.length_le_of_subset (l₂ := xs) fun y hy => by
    obtain ⟨i, hi, rfl⟩ := List.mem_map.1 hy
    exact hall i (by have := List.mem_range.1 hi; omega)
  simp only [List.length_map, List.length_range] at this
  omega
/-- The least number whose name is not used. -/
theorem fresh_least (p : List UInt8) (xs : List Nm) : ∃ i, i ≤ xs.length ∧ p ++ dec i ∉ xs ∧ ∀ j, j < i → p ++ dec j ∈ xs := by
  obtain ⟨i, h1, h2⟩ := fresh_ex p xs
  induction i using Nat.strongRecOn with
  | _ i ih =>
    by_cases h : ∀ j, j < i → p ++ dec j ∈ xs
    · exact ⟨i, h1, h2, h⟩
    · obtain ⟨j, hj⟩ := Classical.not_forall.1 h
      obtain ⟨h3, h4⟩ := Classical.not_imp.1 hj
      exact ih j h3 (by omega) h4
noncomputable def freshN (p : List UInt8) (xs : List Nm) : Nat := Classical.choose (fresh_least p xs)
theorem freshN_le (p : List UInt8) (xs : List Nm) : freshN p xs ≤ xs.length := (Classical.choose_spec (fresh_least p xs)).1
theorem freshN_not (p : List UInt8) (xs : List Nm) : p ++ dec (freshN p xs) ∉ xs := (Classical.choose_spec (fresh_least p xs)).2.1
theorem freshN_lt (p : List UInt8) (xs : List Nm) : ∀ j, j < freshN p xs → p ++ dec j ∈ xs := (Classical.choose_spec (fresh_least p xs)).2.2
noncomputable def newN (p : List UInt8) (xs : List Nm) : Nm := p ++ dec (freshN p xs)

theorem any_seq {xs : List Nm} {y : Nm} : xs.any (fun z => seq z y) = true ↔ y ∈ xs := by
  simp only [List.any_eq_true, seq_iff]
  exact ⟨fun ⟨z, h1, h2⟩ => h2 ▸ h1, fun h => ⟨y, h, rfl⟩⟩
theorem digits_e {k u : Nat} (hu : u ≤ 100000000) : impl_digits k (u : Int) = some (dec u) := by
  unfold impl_digits strconv_Itoa
  rw [ile_t (show (-9223372036854775808 : Int) ≤ (u : Int) by omega), ile_t (show (u : Int) ≤ 9223372036854775807 by omega), Lib.itoa_nonneg]
  rfl
theorem implNew_e {k : Nat} {p : List UInt8} {xs : List Nm} {mp : List Pair} (hk : 4194304 * 2 ≤ k) (hp : p.length ≤ 100) (hx : xs.length ≤ 4194303) (hm : ∀ y, mhas (fun q : Pair => seq y q.Key) mp = xs.any fun z => seq z y) : impl_unused k p mp = some (newN p xs, mp) := by
  have hf := freshN_le p xs
  have cat : ∀ i, i ≤ xs.length → catB p (dec i) = true := fun i hi => catB_t (by omega) (by have := dec_len i; omega)
  have go : ∀ (m i k : Nat), i + m = freshN p xs → m + 1 ≤ k → iter (ts := impl_unused_L3_ts) (R := (List UInt8) × (List Pair)) k impl_unused_L3 p (i : Int) mp = some (newN p xs, mp) := by
    intro m
    induction m with
    | zero =>
      intro i k h hk
      obtain rfl : i = freshN p xs := by omega
      obtain ⟨k, rfl⟩ : ∃ q, k = q + 1 := ⟨k - 1, by omega⟩
      have hn : xs.any (fun z => seq z (p ++ dec (freshN p xs))) = false := by
        cases e : xs.any (fun z => seq z (p ++ dec (freshN p xs))) with
        | false => rfl
        | true => exact absurd (any_seq.1 e) (freshN_not p xs)
      simp only [iter, impl_unused_L3, digits_e (show freshN p xs ≤ 100000000 by omega), Option.bind_some, cat _ hf, req_t, hm, hn] <;> rfl
    | succ m ih =>
      intro i k h hk
      obtain ⟨k, rfl⟩ : ∃ q, k = q + 1 := ⟨k - 1, by omega⟩
      have hn : xs.any (fun z => seq z (p ++ dec i)) = true := any_seq.2 (freshN_lt p xs i (by omega))
      simp only [iter, impl_unused_L3, digits_e (show i ≤ 100000000 by omega), Option.bind_some, cat i (by omega), req_t, hm, hn, Bool.not_true, cond_false]
      rw [iaddn (by omega) (by omega)]
      have h2 := ih (i + 1) k (by omega) (by omega)
      exact_mod_cast h2
  exact go (freshN p xs) 0 k (by omega) (by omega)

/-! ### What is uncovered -/

def kindsR (rs : List GateRule) : List Nm := rs.map (·.Kind)
def teamsR (x : List GateTeam) (rs : List GateRule) : List Nm := rs.map (·.Team) ++ x.map (·.Name)
noncomputable def uncM (x : List GateTeam) (rs : List GateRule) (q : GateRule) : GateAct × Bool :=
  cond (allOk x rs q && !ieq (lacksN x rs q) 0) (⟨lacksN x rs q, cond (seq q.Kind []) (newN [107] (kindsR rs)) q.Kind, cond (seq q.Team []) (newN [116] (teamsR x rs)) q.Team, q.Prefix⟩, true) (⟨0, [], [], []⟩, false)

theorem mhas2 (y n : Nm) (l : List Pair) : mhas (fun q : Pair => seq y q.Key) (mput (fun q : Pair => seq n q.Key) l ⟨n⟩) = (seq y n || mhas (fun q : Pair => seq y q.Key) l) := mhas_mput (key := Pair.Key) (y := ⟨n⟩)
theorem implUnc_e {k : Nat} {x : List GateTeam} {rs : List GateRule} {q : GateRule} (hk : 4194304 * 8 ≤ k) (hx : sdS GateTeam.sd x) (hr : sdS GateRule.sd rs) (hq : q.sd) : impl_GateUncovered k x rs q = some (uncM x rs q) := by
  have hx1 := hx.1
  have hr1 := hr.1
  unfold impl_GateUncovered uncM
  simp only [share, implAllOk_e (show 4194304 * 3 ≤ k by omega) hx hr hq, Option.bind_some]
  cases ha : allOk x rs q with
  | false => rfl
  | true =>
    have ha' := ha
    simp only [allOk, Bool.and_eq_true] at ha'
    simp only [implLacks_e (show 4194304 * 4 ≤ k by omega) hx.1 hr hq ha'.2.2 ha'.2.1, Option.bind_some]
    cases hl : ieq (lacksN x rs q) 0 with
    | true => rfl
    | false =>
      have h10 := fun (J : List GateTeam → GateAct → GateAct → List Pair → List Pair → Option (GateAct × Bool)) (a b : GateAct) => loop_fold (R := Option (GateAct × Bool)) (S := List Pair × List Pair) (x := rs) (f := fun s r => (mput (fun p : Pair => seq r.Kind p.Key) s.1 ⟨r.Kind⟩, mput (fun p : Pair => seq r.Team p.Key) s.2 ⟨r.Team⟩)) (B := 0)
        (l := fun k s i => iter (ts := impl_GateUncovered_L10_ts) (R := GateAct × Bool) k (impl_GateUncovered_L10 J) x rs (rs.length : Int) i a b s.1 s.2) (J := fun s => J x a b s.1 s.2) (fun _ _ => True)
        (fun k s _ => by simp only [iter, impl_GateUncovered_L10, ilt_e, cond_false] <;> rfl)
        (fun k i s hi _ _ => ⟨by
          simp only [iter, impl_GateUncovered_L10, ilt_n hi, inb_n hi, cond_true, req_t, nth_i hi, iadd_n hr.1 hi] <;> rfl, trivial⟩) k ([], []) (by omega) trivial
      have h16 := fun (J : GateAct → GateAct → List Pair → List Pair → Option (GateAct × Bool)) (a b : GateAct) (ks ts : List Pair) => loop_fold (R := Option (GateAct × Bool)) (S := List Pair) (x := x) (f := fun s t => mput (fun p : Pair => seq t.Name p.Key) s ⟨t.Name⟩) (B := 0)
        (l := fun k s i => iter (ts := impl_GateUncovered_L16_ts) (R := GateAct × Bool) k (impl_GateUncovered_L16 J) x (x.length : Int) i a b ks s) (J := fun s => J a b ks s) (fun _ _ => True)
        (fun k s _ => by simp only [iter, impl_GateUncovered_L16, ilt_e, cond_false] <;> rfl)
        (fun k i s hi _ _ => ⟨by
          simp only [iter, impl_GateUncovered_L16, ilt_n hi, inb_n hi, cond_true, req_t, nth_i hi, iadd_n hx.1 hi] <;> rfl, trivial⟩) k ts (by omega) trivial
      have m1 : ∀ (y : List GateRule) (s : List Pair × List Pair) (n : Nm), mhas (fun p : Pair => seq n p.Key) (y.foldl (fun s r => (mput (fun p : Pair => seq r.Kind p.Key) s.1 ⟨r.Kind⟩, mput (fun p : Pair => seq r.Team p.Key) s.2 ⟨r.Team⟩)) s).1 = (mhas (fun p : Pair => seq n p.Key) s.1 || (y.map (·.Kind)).any fun z => seq z n) ∧
          mhas (fun p : Pair => seq n p.Key) (y.foldl (fun s r => (mput (fun p : Pair => seq r.Kind p.Key) s.1 ⟨r.Kind⟩, mput (fun p : Pair => seq r.Team p.Key) s.2 ⟨r.Team⟩)) s).2 = (mhas (fun p : Pair => seq n p.Key) s.2 || (y.map (·.Team)).any fun z => seq z n) := by
        intro y
        induction y with
        | nil => intro s n; simp
        | cons a r ih =>
          intro s n
          rw [List.foldl_cons]
          refine ⟨(ih _ n).1.trans ?_, (ih _ n).2.trans ?_⟩
          · rw [mhas2, seq_comm n a.Kind]; simp only [List.map_cons, List.any_cons]; cases seq a.Kind n <;> cases mhas (fun p : Pair => seq n p.Key) s.1 <;> simp
          · rw [mhas2, seq_comm n a.Team]; simp only [List.map_cons, List.any_cons]; cases seq a.Team n <;> cases mhas (fun p : Pair => seq n p.Key) s.2 <;> simp
      have m2 : ∀ (y : List GateTeam) (s : List Pair) (n : Nm), mhas (fun p : Pair => seq n p.Key) (y.foldl (fun s t => mput (fun p : Pair => seq t.Name p.Key) s ⟨t.Name⟩) s) = (mhas (fun p : Pair => seq n p.Key) s || (y.map (·.Name)).any fun z => seq z n) := by
        intro y
        induction y with
        | nil => intro s n; simp
        | cons a r ih =>
          intro s n
          rw [List.foldl_cons]
          refine (ih _ n).trans ?_
          rw [mhas2, seq_comm n a.Name]; simp only [List.map_cons, List.any_cons]; cases seq a.Name n <;> cases mhas (fun p : Pair => seq n p.Key) s <;> simp
      refine (h10 _ _ _).trans ?_
      refine (h16 _ _ _ _ _).trans ?_
      generalize hks : (rs.foldl (fun s r => (mput (fun p : Pair => seq r.Kind p.Key) s.1 ⟨r.Kind⟩, mput (fun p : Pair => seq r.Team p.Key) s.2 ⟨r.Team⟩)) (([], []) : List Pair × List Pair)) = S
      have q1 : ∀ n, mhas (fun p : Pair => seq n p.Key) S.1 = (kindsR rs).any fun z => seq z n := fun n => by
        rw [← hks]; exact (m1 rs ([], []) n).1
      have q2 : ∀ n, mhas (fun p : Pair => seq n p.Key) (x.foldl (fun s t => mput (fun p : Pair => seq t.Name p.Key) s ⟨t.Name⟩) S.2) = (teamsR x rs).any fun z => seq z n := fun n => by
        rw [m2, ← hks, (m1 rs ([], []) n).2]
        simp only [teamsR, List.any_append]; rfl
      have n1 := implNew_e (k := k) (p := [107]) (xs := kindsR rs) (mp := S.1) (by omega) (by simp) (by simp [kindsR]; omega) q1
      have n2 := implNew_e (k := k) (p := [116]) (xs := teamsR x rs) (mp := x.foldl (fun s t => mput (fun p : Pair => seq t.Name p.Key) s ⟨t.Name⟩) S.2) (by omega) (by simp) (by simp [teamsR]; omega) q2
      cases hqk : seq q.Kind [] <;> cases hqt : seq q.Team [] <;> simp only [cond_true, cond_false, hqt, hqk, Bool.not_false, Bool.true_and, n1, n2, Option.bind_some] <;> rfl

end Go.Proofs.YtnhkbghbllbknaaDoor.Pu
