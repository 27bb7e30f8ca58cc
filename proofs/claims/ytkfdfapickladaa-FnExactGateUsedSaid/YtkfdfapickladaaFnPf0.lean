/- What the functions of the program compute. No condition. -/
import Derived.Test.YtkfdfapickladaaFnFd
namespace Go.Proofs.Ytkfdfapickladaa.Fn
open Go Go.RowKit Go.Proofs.Ytkfdfapickladaa.Abs
theorem laws_szGateTeam.calls (k : Nat) (x0 : GateTeam) (x1 : Int) (r : Int) (h : laws_szGateTeam k x0 x1 = some r) : PC Try.prog 30 [.agg (GateTeam.c x0), .int .i64 x1] (.int .i64 r) := by
  unfold laws_szGateTeam at h
  refine pc_intro (fn := Try.f30) Try.call30 Try.func30 rfl (Nat.le_of_ble_eq_true rfl) rfl rfl ?_
  refine seq_reg (by kernel_rfl) ?_
  refine seq_reg (by kernel_rfl) ?_
  refine awp_seq ?_
  refine seq_reg (by kernel_rfl) ?_
  refine awp_cond (b := (decide ((wr .i64 (x1 - (x0.Name.length : Int))) < 0))) (by kernel_rfl) (fun hb => ?_) (fun hb => ?_)
  · replace h := if_p hb h
    refine seq_reg (by kernel_rfl) ?_
    obtain rfl := Option.some.inj h
    exact awp_ret (fin_ob [] (by kernel_rfl) trivial)
  · replace h := if_n hb h
    refine awp_skip ?_
    refine seq_reg (by kernel_rfl) ?_
    refine awp_seq ?_
    refine seq_reg (by kernel_rfl) ?_
    refine awp_cond (b := (decide ((wr .i64 ((wr .i64 (x1 - (x0.Name.length : Int))) - (x0.Over.length : Int))) < 0))) (by kernel_rfl) (fun hb => ?_) (fun hb => ?_)
    · replace h := if_p hb h
      refine seq_reg (by kernel_rfl) ?_
      obtain rfl := Option.some.inj h
      exact awp_ret (fin_ob [] (by kernel_rfl) trivial)
    · replace h := if_n hb h
      refine awp_skip ?_
      refine seq_reg (by kernel_rfl) ?_
      obtain rfl := Option.some.inj h
      exact awp_ret (fin_ob [] (by kernel_rfl) trivial)

theorem laws_szGateTeamS.calls (k : Nat) (x0 : List (GateTeam)) (x1 : Int) (r : Int) (h : laws_szGateTeamS k x0 x1 = some r) : PC Try.prog 6 [sl 2 GateTeam.c x0, .int .i64 x1] (.int .i64 r) := by
  unfold laws_szGateTeamS at h
  refine pc_intro (fn := Try.f6) Try.call6 Try.func6 rfl (Nat.le_of_ble_eq_true rfl) rfl rfl ?_
  refine seq_reg (by kernel_rfl) ?_
  refine seq_reg (by kernel_rfl) ?_
  refine awp_seq ?_
  refine seq_reg (by kernel_rfl) ?_
  refine awp_cond (b := (decide ((wr .i64 (x1 - (x0.length : Int))) < 0))) (by kernel_rfl) (fun hb => ?_) (fun hb => ?_)
  · replace h := if_p hb h
    refine seq_reg (by kernel_rfl) ?_
    obtain rfl := Option.some.inj h
    exact awp_ret (fin_ob [] (by kernel_rfl) trivial)
  · replace h := if_n hb h
    refine awp_skip ?_
    refine awp_seq ?_
    refine seq_reg (by kernel_rfl) ?_
    refine awp_block ?_
    refine awp_loop_r (nt := 27) (N := 0) (l := [(0, sl 2 GateTeam.c x0), (1, .int .i64 (wr .i64 (x1 - (x0.length : Int)))), (5, .int .i64 0)]) (hs := []) (r := []) rfl ⟨by kernel_rfl, by kernel_rfl, trivial⟩ ?_
    refine loop_ind (fr := fun (z : (Int) × (Int)) => match z with | (v0_1, v0_5) => Fm 27 0 [(0, sl 2 GateTeam.c x0), (1, .int .i64 v0_1), (5, .int .i64 v0_5)] []) (f := fun k (z : (Int) × (Int)) => match z with | (v0_1, v0_5) => laws_szGateTeamS.l0 x0 k v0_1 v0_5) ?_ (fun _ => rfl) k ((wr .i64 (x1 - (x0.length : Int))), 0) h
    clear h
    rintro k0 ⟨v0_1, v0_5⟩ ih0 h
    replace h : (laws_szGateTeamS.l0 x0 (k0 + 1) v0_1 v0_5).bind _ = some _ := h
    rw [laws_szGateTeamS.l0] at h
    refine aloop_r ?_
    refine awp_seq ?_
    refine seq_reg (by kernel_rfl) ?_
    refine awp_cond (b := (decide (v0_5 < (x0.length : Int)))) (by kernel_rfl) (fun hb => ?_) (fun hb => ?_)
    · replace h := bif_p hb h
      refine awp_skip ?_
      refine awp_seq ?_
      refine awp_block ?_
      obtain ⟨o7_2_0, h⟩ := bif_s h
      obtain ⟨r7_5, hr7_5, h⟩ := bbind_s h
      refine seq_region [] [⟨30, [.agg (GateTeam.c (x0.getD v0_5.toNat default)), .int .i64 v0_1], [], .int .i64 r7_5, [], 0, 0⟩] [(0 : Int) ≤ v0_5 ∧ v0_5 < (x0.length : Int), same [.agg (GateTeam.c (x0.getD v0_5.toNat default)), .int .i64 v0_1]] (by kernel_rfl) ⟨o7_2_0, rfl, trivial⟩ ⟨laws_szGateTeam.calls _ _ _ _ hr7_5, trivial⟩ ?_
      refine seq_reg (by kernel_rfl) ?_
      refine awp_cond (b := (decide (r7_5 < 0))) (by kernel_rfl) (fun hb => ?_) (fun hb => ?_)
      · replace h := bif_p hb h
        refine seq_reg (by kernel_rfl) ?_
        obtain rfl := Option.some.inj h
        exact awp_ret (fin_ob [] (by kernel_rfl) trivial)
      · replace h := bif_n hb h
        refine awp_skip ?_
        refine awp_reg (by kernel_rfl) ?_
        exact ⟨_, _, [(0, sl 2 GateTeam.c x0), (1, .int .i64 r7_5), (5, .int .i64 (wr .i64 (v0_5 + 1)))], [], [], ⟨by kernel_rfl, by kernel_rfl, trivial⟩, ih0 (r7_5, (wr .i64 (v0_5 + 1))) h⟩
    · replace h := bif_n hb h
      refine awp_exit ?_
      replace h := bsome h
      refine seq_reg (by kernel_rfl) ?_
      obtain rfl := Option.some.inj h
      exact awp_ret (fin_ob [] (by kernel_rfl) trivial)

theorem laws_szIntS.calls (k : Nat) (x0 : List (Int)) (x1 : Int) (r : Int) (h : laws_szIntS k x0 x1 = some r) : PC Try.prog 31 [sl 1 cI64 x0, .int .i64 x1] (.int .i64 r) := by
  unfold laws_szIntS at h
  refine pc_intro (fn := Try.f31) Try.call31 Try.func31 rfl (Nat.le_of_ble_eq_true rfl) rfl rfl ?_
  refine seq_reg (by kernel_rfl) ?_
  refine seq_reg (by kernel_rfl) ?_
  refine awp_seq ?_
  refine seq_reg (by kernel_rfl) ?_
  refine awp_cond (b := (decide ((wr .i64 (x1 - (x0.length : Int))) < 0))) (by kernel_rfl) (fun hb => ?_) (fun hb => ?_)
  · replace h := if_p hb h
    refine seq_reg (by kernel_rfl) ?_
    obtain rfl := Option.some.inj h
    exact awp_ret (fin_ob [] (by kernel_rfl) trivial)
  · replace h := if_n hb h
    refine awp_skip ?_
    refine seq_reg (by kernel_rfl) ?_
    obtain rfl := Option.some.inj h
    exact awp_ret (fin_ob [] (by kernel_rfl) trivial)

theorem laws_szGateRule.calls (k : Nat) (x0 : GateRule) (x1 : Int) (r : Int) (h : laws_szGateRule k x0 x1 = some r) : PC Try.prog 8 [.agg (GateRule.c x0), .int .i64 x1] (.int .i64 r) := by
  unfold laws_szGateRule at h
  refine pc_intro (fn := Try.f8) Try.call8 Try.func8 rfl (Nat.le_of_ble_eq_true rfl) rfl rfl ?_
  refine seq_reg (by kernel_rfl) ?_
  obtain ⟨r1_3, hr1_3, h⟩ := bind_s h
  refine seq_region [] [⟨31, [sl 1 cI64 x0.Verbs, .int .i64 x1], [], .int .i64 r1_3, [], 1, 0⟩] [same [sl 1 cI64 x0.Verbs, .int .i64 x1]] (by kernel_rfl) ⟨rfl, trivial⟩ ⟨laws_szIntS.calls _ _ _ _ hr1_3, trivial⟩ ?_
  refine awp_seq ?_
  refine seq_reg (by kernel_rfl) ?_
  refine awp_cond (b := (decide (r1_3 < 0))) (by kernel_rfl) (fun hb => ?_) (fun hb => ?_)
  · replace h := if_p hb h
    refine seq_reg (by kernel_rfl) ?_
    obtain rfl := Option.some.inj h
    exact awp_ret (fin_ob [] (by kernel_rfl) trivial)
  · replace h := if_n hb h
    refine awp_skip ?_
    refine seq_reg (by kernel_rfl) ?_
    refine awp_seq ?_
    refine seq_reg (by kernel_rfl) ?_
    refine awp_cond (b := (decide ((wr .i64 (r1_3 - (x0.Kind.length : Int))) < 0))) (by kernel_rfl) (fun hb => ?_) (fun hb => ?_)
    · replace h := if_p hb h
      refine seq_reg (by kernel_rfl) ?_
      obtain rfl := Option.some.inj h
      exact awp_ret (fin_ob [] (by kernel_rfl) trivial)
    · replace h := if_n hb h
      refine awp_skip ?_
      refine seq_reg (by kernel_rfl) ?_
      refine awp_seq ?_
      refine seq_reg (by kernel_rfl) ?_
      refine awp_cond (b := (decide ((wr .i64 ((wr .i64 (r1_3 - (x0.Kind.length : Int))) - (x0.Team.length : Int))) < 0))) (by kernel_rfl) (fun hb => ?_) (fun hb => ?_)
      · replace h := if_p hb h
        refine seq_reg (by kernel_rfl) ?_
        obtain rfl := Option.some.inj h
        exact awp_ret (fin_ob [] (by kernel_rfl) trivial)
      · replace h := if_n hb h
        refine awp_skip ?_
        refine seq_reg (by kernel_rfl) ?_
        refine awp_seq ?_
        refine seq_reg (by kernel_rfl) ?_
        refine awp_cond (b := (decide ((wr .i64 ((wr .i64 ((wr .i64 (r1_3 - (x0.Kind.length : Int))) - (x0.Team.length : Int))) - (x0.Prefix.length : Int))) < 0))) (by kernel_rfl) (fun hb => ?_) (fun hb => ?_)
        · replace h := if_p hb h
          refine seq_reg (by kernel_rfl) ?_
          obtain rfl := Option.some.inj h
          exact awp_ret (fin_ob [] (by kernel_rfl) trivial)
        · replace h := if_n hb h
          refine awp_skip ?_
          refine seq_reg (by kernel_rfl) ?_
          obtain rfl := Option.some.inj h
          exact awp_ret (fin_ob [] (by kernel_rfl) trivial)

theorem laws_szGateRuleS.calls (k : Nat) (x0 : List (GateRule)) (x1 : Int) (r : Int) (h : laws_szGateRuleS k x0 x1 = some r) : PC Try.prog 7 [sl 4 GateRule.c x0, .int .i64 x1] (.int .i64 r) := by
  unfold laws_szGateRuleS at h
  refine pc_intro (fn := Try.f7) Try.call7 Try.func7 rfl (Nat.le_of_ble_eq_true rfl) rfl rfl ?_
  refine seq_reg (by kernel_rfl) ?_
  refine seq_reg (by kernel_rfl) ?_
  refine awp_seq ?_
  refine seq_reg (by kernel_rfl) ?_
  refine awp_cond (b := (decide ((wr .i64 (x1 - (x0.length : Int))) < 0))) (by kernel_rfl) (fun hb => ?_) (fun hb => ?_)
  · replace h := if_p hb h
    refine seq_reg (by kernel_rfl) ?_
    obtain rfl := Option.some.inj h
    exact awp_ret (fin_ob [] (by kernel_rfl) trivial)
  · replace h := if_n hb h
    refine awp_skip ?_
    refine awp_seq ?_
    refine seq_reg (by kernel_rfl) ?_
    refine awp_block ?_
    refine awp_loop_r (nt := 27) (N := 0) (l := [(0, sl 4 GateRule.c x0), (1, .int .i64 (wr .i64 (x1 - (x0.length : Int)))), (5, .int .i64 0)]) (hs := []) (r := []) rfl ⟨by kernel_rfl, by kernel_rfl, trivial⟩ ?_
    refine loop_ind (fr := fun (z : (Int) × (Int)) => match z with | (v0_1, v0_5) => Fm 27 0 [(0, sl 4 GateRule.c x0), (1, .int .i64 v0_1), (5, .int .i64 v0_5)] []) (f := fun k (z : (Int) × (Int)) => match z with | (v0_1, v0_5) => laws_szGateRuleS.l0 x0 k v0_1 v0_5) ?_ (fun _ => rfl) k ((wr .i64 (x1 - (x0.length : Int))), 0) h
    clear h
    rintro k0 ⟨v0_1, v0_5⟩ ih0 h
    replace h : (laws_szGateRuleS.l0 x0 (k0 + 1) v0_1 v0_5).bind _ = some _ := h
    rw [laws_szGateRuleS.l0] at h
    refine aloop_r ?_
    refine awp_seq ?_
    refine seq_reg (by kernel_rfl) ?_
    refine awp_cond (b := (decide (v0_5 < (x0.length : Int)))) (by kernel_rfl) (fun hb => ?_) (fun hb => ?_)
    · replace h := bif_p hb h
      refine awp_skip ?_
      refine awp_seq ?_
      refine awp_block ?_
      obtain ⟨o7_2_0, h⟩ := bif_s h
      obtain ⟨r7_5, hr7_5, h⟩ := bbind_s h
      refine seq_region [] [⟨8, [.agg (GateRule.c (x0.getD v0_5.toNat default)), .int .i64 v0_1], [], .int .i64 r7_5, [], 0, 0⟩] [(0 : Int) ≤ v0_5 ∧ v0_5 < (x0.length : Int), same [.agg (GateRule.c (x0.getD v0_5.toNat default)), .int .i64 v0_1]] (by kernel_rfl) ⟨o7_2_0, rfl, trivial⟩ ⟨laws_szGateRule.calls _ _ _ _ hr7_5, trivial⟩ ?_
      refine seq_reg (by kernel_rfl) ?_
      refine awp_cond (b := (decide (r7_5 < 0))) (by kernel_rfl) (fun hb => ?_) (fun hb => ?_)
      · replace h := bif_p hb h
        refine seq_reg (by kernel_rfl) ?_
        obtain rfl := Option.some.inj h
        exact awp_ret (fin_ob [] (by kernel_rfl) trivial)
      · replace h := bif_n hb h
        refine awp_skip ?_
        refine awp_reg (by kernel_rfl) ?_
        exact ⟨_, _, [(0, sl 4 GateRule.c x0), (1, .int .i64 r7_5), (5, .int .i64 (wr .i64 (v0_5 + 1)))], [], [], ⟨by kernel_rfl, by kernel_rfl, trivial⟩, ih0 (r7_5, (wr .i64 (v0_5 + 1))) h⟩
    · replace h := bif_n hb h
      refine awp_exit ?_
      replace h := bsome h
      refine seq_reg (by kernel_rfl) ?_
      obtain rfl := Option.some.inj h
      exact awp_ret (fin_ob [] (by kernel_rfl) trivial)

theorem laws_toGateTeam.calls (k : Nat) (x0 : GateTeam) (r : GateTeam) (h : laws_toGateTeam k x0 = some r) : PC Try.prog 34 [.agg (GateTeam.c x0)] (.agg (GateTeam.c r)) := by
  unfold laws_toGateTeam at h
  refine pc_intro (fn := Try.f34) Try.call34 Try.func34 rfl (Nat.le_of_ble_eq_true rfl) rfl rfl ?_
  refine seq_reg (by kernel_rfl) ?_
  refine seq_reg (by kernel_rfl) ?_
  refine seq_reg (by kernel_rfl) ?_
  refine seq_reg (by kernel_rfl) ?_
  refine seq_reg (by kernel_rfl) ?_
  obtain rfl := Option.some.inj h
  exact awp_ret (fin_ob [] (by kernel_rfl) trivial)

theorem laws_toGateTeamS.calls (k : Nat) (x0 : List (GateTeam)) (r : List (GateTeam)) (h : laws_toGateTeamS k x0 = some r) : PC Try.prog 10 [sl 2 GateTeam.c x0] (sl 2 GateTeam.c r) := by
  unfold laws_toGateTeamS at h
  refine pc_intro (fn := Try.f10) Try.call10 Try.func10 rfl (Nat.le_of_ble_eq_true rfl) rfl rfl ?_
  refine seq_reg (by kernel_rfl) ?_
  obtain ⟨o1_2_0, h⟩ := if_s h
  refine seq_region [] [] [(0 : Int) ≤ (x0.length : Int) ∧ (x0.length : Int) ≤ (x0.length : Int) ∧ (x0.length : Int) * (32 : Int) ≤ 140737488355328 ∧ (x0.length : Int) ≤ 140737488355328] (by kernel_rfl) ⟨o1_2_0, trivial⟩ trivial ?_
  refine awp_row 0 (by kernel_rfl) (RowEq.make (esz := 2) (n := (x0.length : Int).toNat) (c := GateTeam.c) (z := (default : GateTeam)) (zs := [.str [], .str []]) ⟨.inl rfl, .inl rfl, trivial⟩) ?_
  refine awp_seq ?_
  refine seq_reg (by kernel_rfl) ?_
  refine awp_block ?_
  refine awp_loop_r (nt := 23) (N := 2) (l := [(0, sl 2 GateTeam.c x0), (3, .ms 1 0 (List.replicate (x0.length : Int).toNat (default : GateTeam)).length 2), (4, .int .i64 0)]) (hs := [(1, .row 2 (List.replicate (x0.length : Int).toNat (default : GateTeam)).length (cells GateTeam.c (List.replicate (x0.length : Int).toNat (default : GateTeam))))]) (r := [(1, 0)]) rfl (frob_len (m := (x0.length : Int).toNat) (l := fun m => [(0, sl 2 GateTeam.c x0), (3, .ms 1 0 m 2), (4, .int .i64 0)]) (hs := fun m => [(1, .row 2 m (cells GateTeam.c (List.replicate (x0.length : Int).toNat (default : GateTeam))))]) (RowEq.len (RowEq.make (esz := 2) (n := (x0.length : Int).toNat) (c := GateTeam.c) (z := (default : GateTeam)) (zs := [.str [], .str []]) ⟨.inl rfl, .inl rfl, trivial⟩)) ⟨by kernel_rfl, by kernel_rfl, (or_same (by kernel_rfl) (by kernel_rfl) trivial)⟩) ?_
  refine loop_ind (fr := fun (z : (Int) × (List (GateTeam))) => match z with | (v0_4, v0_w0) => Fm 23 2 [(0, sl 2 GateTeam.c x0), (3, .ms 1 0 v0_w0.length 2), (4, .int .i64 v0_4)] [(1, .row 2 v0_w0.length (cells GateTeam.c v0_w0))]) (f := fun k (z : (Int) × (List (GateTeam))) => match z with | (v0_4, v0_w0) => laws_toGateTeamS.l0 x0 k v0_4 v0_w0) ?_ (fun _ => rfl) k (0, (List.replicate (x0.length : Int).toNat (default : GateTeam))) h
  clear h
  rintro k0 ⟨v0_4, v0_w0⟩ ih0 h
  replace h : (laws_toGateTeamS.l0 x0 (k0 + 1) v0_4 v0_w0).bind _ = some _ := h
  rw [laws_toGateTeamS.l0] at h
  refine aloop_r ?_
  refine awp_seq ?_
  refine seq_reg (by kernel_rfl) ?_
  refine awp_cond (b := (decide (v0_4 < (x0.length : Int)))) (by kernel_rfl) (fun hb => ?_) (fun hb => ?_)
  · replace h := bif_p hb h
    refine awp_skip ?_
    refine awp_seq ?_
    refine awp_block ?_
    obtain ⟨o5_4_0, h⟩ := bif_s h
    obtain ⟨r5_6, hr5_6, h⟩ := bbind_s h
    obtain ⟨o5_7_0, h⟩ := bif_s h
    refine awp_region [] [⟨34, [.agg (GateTeam.c (x0.getD v0_4.toNat default))], [], .agg (GateTeam.c r5_6), [], 2, 0⟩] [(0 : Int) ≤ v0_4 ∧ v0_4 < (x0.length : Int), same [.agg (GateTeam.c (x0.getD v0_4.toNat default))], (0 : Int) ≤ v0_4 ∧ v0_4 < (v0_w0.length : Int), v0_4.toNat < v0_w0.length] (by kernel_rfl) ⟨o5_4_0, rfl, o5_7_0, (by omega), trivial⟩ ⟨laws_toGateTeam.calls _ _ _ hr5_6, trivial⟩ ?_
    refine awp_row 1 (by kernel_rfl) (RowEq.set (i := v0_4.toNat) (x := r5_6) (l := [.str r5_6.Name, .str r5_6.Over]) (RowEq.same (esz := 2) (c := GateTeam.c) (n := v0_w0.length) (xs := v0_w0) rfl) ⟨.inl rfl, .inl rfl, trivial⟩) ?_
    refine awp_reg (by kernel_rfl) ?_
    exact ⟨_, _, [(0, sl 2 GateTeam.c x0), (3, .ms 1 0 (v0_w0.set v0_4.toNat r5_6).length 2), (4, .int .i64 (wr .i64 (v0_4 + 1)))], [(1, .row 2 (v0_w0.set v0_4.toNat r5_6).length (cells GateTeam.c (v0_w0.set v0_4.toNat r5_6)))], [(1, 1)], (frob_len (m := v0_w0.length) (l := fun m => [(0, sl 2 GateTeam.c x0), (3, .ms 1 0 m 2), (4, .int .i64 (wr .i64 (v0_4 + 1)))]) (hs := fun m => [(1, .row 2 m (cells GateTeam.c (v0_w0.set v0_4.toNat r5_6)))]) (RowEq.len (RowEq.set (i := v0_4.toNat) (x := r5_6) (l := [.str r5_6.Name, .str r5_6.Over]) (RowEq.same (esz := 2) (c := GateTeam.c) (n := v0_w0.length) (xs := v0_w0) rfl) ⟨.inl rfl, .inl rfl, trivial⟩)) ⟨by kernel_rfl, by kernel_rfl, (or_same (by kernel_rfl) (by kernel_rfl) trivial)⟩), ih0 ((wr .i64 (v0_4 + 1)), (v0_w0.set v0_4.toNat r5_6)) h⟩
  · replace h := bif_n hb h
    refine awp_exit ?_
    replace h := bsome h
    refine seq_reg (by kernel_rfl) ?_
    obtain rfl := Option.some.inj h
    exact awp_ret (fin_ob [v0_w0.length ≤ v0_w0.length] (by kernel_rfl) ⟨Nat.le_refl _, trivial⟩)

theorem laws_toIntS.calls (k : Nat) (x0 : List (Int)) (r : List (Int)) (h : laws_toIntS k x0 = some r) : PC Try.prog 35 [sl 1 cI64 x0] (sl 1 cI64 r) := by
  unfold laws_toIntS at h
  refine pc_intro (fn := Try.f35) Try.call35 Try.func35 rfl (Nat.le_of_ble_eq_true rfl) rfl rfl ?_
  refine seq_reg (by kernel_rfl) ?_
  obtain ⟨o1_2_0, h⟩ := if_s h
  refine seq_region [] [] [(0 : Int) ≤ (x0.length : Int) ∧ (x0.length : Int) ≤ (x0.length : Int) ∧ (x0.length : Int) * (8 : Int) ≤ 140737488355328 ∧ (x0.length : Int) ≤ 140737488355328] (by kernel_rfl) ⟨o1_2_0, trivial⟩ trivial ?_
  refine awp_row 0 (by kernel_rfl) (RowEq.make (esz := 1) (n := (x0.length : Int).toNat) (c := cI64) (z := (0 : Int)) (zs := [.int .i64 0]) ⟨.inl rfl, trivial⟩) ?_
  refine awp_seq ?_
  refine seq_reg (by kernel_rfl) ?_
  refine awp_block ?_
  refine awp_loop_r (nt := 22) (N := 2) (l := [(0, sl 1 cI64 x0), (3, .ms 1 0 (List.replicate (x0.length : Int).toNat (0 : Int)).length 1), (4, .int .i64 0)]) (hs := [(1, .row 1 (List.replicate (x0.length : Int).toNat (0 : Int)).length (cells cI64 (List.replicate (x0.length : Int).toNat (0 : Int))))]) (r := [(1, 0)]) rfl (frob_len (m := (x0.length : Int).toNat) (l := fun m => [(0, sl 1 cI64 x0), (3, .ms 1 0 m 1), (4, .int .i64 0)]) (hs := fun m => [(1, .row 1 m (cells cI64 (List.replicate (x0.length : Int).toNat (0 : Int))))]) (RowEq.len (RowEq.make (esz := 1) (n := (x0.length : Int).toNat) (c := cI64) (z := (0 : Int)) (zs := [.int .i64 0]) ⟨.inl rfl, trivial⟩)) ⟨by kernel_rfl, by kernel_rfl, (or_same (by kernel_rfl) (by kernel_rfl) trivial)⟩) ?_
  refine loop_ind (fr := fun (z : (Int) × (List (Int))) => match z with | (v0_4, v0_w0) => Fm 22 2 [(0, sl 1 cI64 x0), (3, .ms 1 0 v0_w0.length 1), (4, .int .i64 v0_4)] [(1, .row 1 v0_w0.length (cells cI64 v0_w0))]) (f := fun k (z : (Int) × (List (Int))) => match z with | (v0_4, v0_w0) => laws_toIntS.l0 x0 k v0_4 v0_w0) ?_ (fun _ => rfl) k (0, (List.replicate (x0.length : Int).toNat (0 : Int))) h
  clear h
  rintro k0 ⟨v0_4, v0_w0⟩ ih0 h
  replace h : (laws_toIntS.l0 x0 (k0 + 1) v0_4 v0_w0).bind _ = some _ := h
  rw [laws_toIntS.l0] at h
  refine aloop_r ?_
  refine awp_seq ?_
  refine seq_reg (by kernel_rfl) ?_
  refine awp_cond (b := (decide (v0_4 < (x0.length : Int)))) (by kernel_rfl) (fun hb => ?_) (fun hb => ?_)
  · replace h := bif_p hb h
    refine awp_skip ?_
    refine awp_seq ?_
    refine awp_block ?_
    obtain ⟨o5_4_0, h⟩ := bif_s h
    obtain ⟨o5_6_0, h⟩ := bif_s h
    refine awp_region [] [] [(0 : Int) ≤ v0_4 ∧ v0_4 < (x0.length : Int), (0 : Int) ≤ v0_4 ∧ v0_4 < (v0_w0.length : Int), v0_4.toNat < v0_w0.length] (by kernel_rfl) ⟨o5_4_0, o5_6_0, (by omega), trivial⟩ trivial ?_
    refine awp_row 1 (by kernel_rfl) (RowEq.set (i := v0_4.toNat) (x := (x0.getD v0_4.toNat default)) (l := [.int .i64 (x0.getD v0_4.toNat default)]) (RowEq.same (esz := 1) (c := cI64) (n := v0_w0.length) (xs := v0_w0) rfl) ⟨.inl rfl, trivial⟩) ?_
    refine awp_reg (by kernel_rfl) ?_
    exact ⟨_, _, [(0, sl 1 cI64 x0), (3, .ms 1 0 (v0_w0.set v0_4.toNat (x0.getD v0_4.toNat default)).length 1), (4, .int .i64 (wr .i64 (v0_4 + 1)))], [(1, .row 1 (v0_w0.set v0_4.toNat (x0.getD v0_4.toNat default)).length (cells cI64 (v0_w0.set v0_4.toNat (x0.getD v0_4.toNat default))))], [(1, 1)], (frob_len (m := v0_w0.length) (l := fun m => [(0, sl 1 cI64 x0), (3, .ms 1 0 m 1), (4, .int .i64 (wr .i64 (v0_4 + 1)))]) (hs := fun m => [(1, .row 1 m (cells cI64 (v0_w0.set v0_4.toNat (x0.getD v0_4.toNat default))))]) (RowEq.len (RowEq.set (i := v0_4.toNat) (x := (x0.getD v0_4.toNat default)) (l := [.int .i64 (x0.getD v0_4.toNat default)]) (RowEq.same (esz := 1) (c := cI64) (n := v0_w0.length) (xs := v0_w0) rfl) ⟨.inl rfl, trivial⟩)) ⟨by kernel_rfl, by kernel_rfl, (or_same (by kernel_rfl) (by kernel_rfl) trivial)⟩), ih0 ((wr .i64 (v0_4 + 1)), (v0_w0.set v0_4.toNat (x0.getD v0_4.toNat default))) h⟩
  · replace h := bif_n hb h
    refine awp_exit ?_
    replace h := bsome h
    refine seq_reg (by kernel_rfl) ?_
    obtain rfl := Option.some.inj h
    exact awp_ret (fin_ob [v0_w0.length ≤ v0_w0.length] (by kernel_rfl) ⟨Nat.le_refl _, trivial⟩)

theorem laws_toGateRule.calls (k : Nat) (x0 : GateRule) (r : GateRule) (h : laws_toGateRule k x0 = some r) : PC Try.prog 12 [.agg (GateRule.c x0)] (.agg (GateRule.c r)) := by
  unfold laws_toGateRule at h
  refine pc_intro (fn := Try.f12) Try.call12 Try.func12 rfl (Nat.le_of_ble_eq_true rfl) rfl rfl ?_
  refine seq_reg (by kernel_rfl) ?_
  refine seq_reg (by kernel_rfl) ?_
  obtain ⟨r2_2, hr2_2, h⟩ := bind_s h
  refine seq_region [] [⟨35, [sl 1 cI64 x0.Verbs], [], sl 1 cI64 r2_2, [], 3, 0⟩] [same [sl 1 cI64 x0.Verbs]] (by kernel_rfl) ⟨rfl, trivial⟩ ⟨laws_toIntS.calls _ _ _ hr2_2, trivial⟩ ?_
  refine seq_reg (by kernel_rfl) ?_
  refine seq_reg (by kernel_rfl) ?_
  refine seq_reg (by kernel_rfl) ?_
  refine seq_reg (by kernel_rfl) ?_
  obtain rfl := Option.some.inj h
  exact awp_ret (fin_ob [] (by kernel_rfl) trivial)

theorem laws_toGateRuleS.calls (k : Nat) (x0 : List (GateRule)) (r : List (GateRule)) (h : laws_toGateRuleS k x0 = some r) : PC Try.prog 11 [sl 4 GateRule.c x0] (sl 4 GateRule.c r) := by
  unfold laws_toGateRuleS at h
  refine pc_intro (fn := Try.f11) Try.call11 Try.func11 rfl (Nat.le_of_ble_eq_true rfl) rfl rfl ?_
  refine seq_reg (by kernel_rfl) ?_
  obtain ⟨o1_2_0, h⟩ := if_s h
  refine seq_region [] [] [(0 : Int) ≤ (x0.length : Int) ∧ (x0.length : Int) ≤ (x0.length : Int) ∧ (x0.length : Int) * (72 : Int) ≤ 140737488355328 ∧ (x0.length : Int) ≤ 140737488355328] (by kernel_rfl) ⟨o1_2_0, trivial⟩ trivial ?_
  refine awp_row 0 (by kernel_rfl) (RowEq.make (esz := 4) (n := (x0.length : Int).toNat) (c := GateRule.c) (z := (default : GateRule)) (zs := [.nils, .str [], .str [], .str []]) ⟨.inr rfl, .inl rfl, .inl rfl, .inl rfl, trivial⟩) ?_
  refine awp_seq ?_
  refine seq_reg (by kernel_rfl) ?_
  refine awp_block ?_
  refine awp_loop_r (nt := 23) (N := 2) (l := [(0, sl 4 GateRule.c x0), (3, .ms 1 0 (List.replicate (x0.length : Int).toNat (default : GateRule)).length 4), (4, .int .i64 0)]) (hs := [(1, .row 4 (List.replicate (x0.length : Int).toNat (default : GateRule)).length (cells GateRule.c (List.replicate (x0.length : Int).toNat (default : GateRule))))]) (r := [(1, 0)]) rfl (frob_len (m := (x0.length : Int).toNat) (l := fun m => [(0, sl 4 GateRule.c x0), (3, .ms 1 0 m 4), (4, .int .i64 0)]) (hs := fun m => [(1, .row 4 m (cells GateRule.c (List.replicate (x0.length : Int).toNat (default : GateRule))))]) (RowEq.len (RowEq.make (esz := 4) (n := (x0.length : Int).toNat) (c := GateRule.c) (z := (default : GateRule)) (zs := [.nils, .str [], .str [], .str []]) ⟨.inr rfl, .inl rfl, .inl rfl, .inl rfl, trivial⟩)) ⟨by kernel_rfl, by kernel_rfl, (or_same (by kernel_rfl) (by kernel_rfl) trivial)⟩) ?_
  refine loop_ind (fr := fun (z : (Int) × (List (GateRule))) => match z with | (v0_4, v0_w0) => Fm 23 2 [(0, sl 4 GateRule.c x0), (3, .ms 1 0 v0_w0.length 4), (4, .int .i64 v0_4)] [(1, .row 4 v0_w0.length (cells GateRule.c v0_w0))]) (f := fun k (z : (Int) × (List (GateRule))) => match z with | (v0_4, v0_w0) => laws_toGateRuleS.l0 x0 k v0_4 v0_w0) ?_ (fun _ => rfl) k (0, (List.replicate (x0.length : Int).toNat (default : GateRule))) h
  clear h
  rintro k0 ⟨v0_4, v0_w0⟩ ih0 h
  replace h : (laws_toGateRuleS.l0 x0 (k0 + 1) v0_4 v0_w0).bind _ = some _ := h
  rw [laws_toGateRuleS.l0] at h
  refine aloop_r ?_
  refine awp_seq ?_
  refine seq_reg (by kernel_rfl) ?_
  refine awp_cond (b := (decide (v0_4 < (x0.length : Int)))) (by kernel_rfl) (fun hb => ?_) (fun hb => ?_)
  · replace h := bif_p hb h
    refine awp_skip ?_
    refine awp_seq ?_
    refine awp_block ?_
    obtain ⟨o5_4_0, h⟩ := bif_s h
    obtain ⟨r5_6, hr5_6, h⟩ := bbind_s h
    obtain ⟨o5_7_0, h⟩ := bif_s h
    refine awp_region [] [⟨12, [.agg (GateRule.c (x0.getD v0_4.toNat default))], [], .agg (GateRule.c r5_6), [], 2, 0⟩] [(0 : Int) ≤ v0_4 ∧ v0_4 < (x0.length : Int), same [.agg (GateRule.c (x0.getD v0_4.toNat default))], (0 : Int) ≤ v0_4 ∧ v0_4 < (v0_w0.length : Int), v0_4.toNat < v0_w0.length] (by kernel_rfl) ⟨o5_4_0, rfl, o5_7_0, (by omega), trivial⟩ ⟨laws_toGateRule.calls _ _ _ hr5_6, trivial⟩ ?_
    refine awp_row 1 (by kernel_rfl) (RowEq.set (i := v0_4.toNat) (x := r5_6) (l := [sl 1 cI64 r5_6.Verbs, .str r5_6.Kind, .str r5_6.Team, .str r5_6.Prefix]) (RowEq.same (esz := 4) (c := GateRule.c) (n := v0_w0.length) (xs := v0_w0) rfl) ⟨.inl rfl, .inl rfl, .inl rfl, .inl rfl, trivial⟩) ?_
    refine awp_reg (by kernel_rfl) ?_
    exact ⟨_, _, [(0, sl 4 GateRule.c x0), (3, .ms 1 0 (v0_w0.set v0_4.toNat r5_6).length 4), (4, .int .i64 (wr .i64 (v0_4 + 1)))], [(1, .row 4 (v0_w0.set v0_4.toNat r5_6).length (cells GateRule.c (v0_w0.set v0_4.toNat r5_6)))], [(1, 1)], (frob_len (m := v0_w0.length) (l := fun m => [(0, sl 4 GateRule.c x0), (3, .ms 1 0 m 4), (4, .int .i64 (wr .i64 (v0_4 + 1)))]) (hs := fun m => [(1, .row 4 m (cells GateRule.c (v0_w0.set v0_4.toNat r5_6)))]) (RowEq.len (RowEq.set (i := v0_4.toNat) (x := r5_6) (l := [sl 1 cI64 r5_6.Verbs, .str r5_6.Kind, .str r5_6.Team, .str r5_6.Prefix]) (RowEq.same (esz := 4) (c := GateRule.c) (n := v0_w0.length) (xs := v0_w0) rfl) ⟨.inl rfl, .inl rfl, .inl rfl, .inl rfl, trivial⟩)) ⟨by kernel_rfl, by kernel_rfl, (or_same (by kernel_rfl) (by kernel_rfl) trivial)⟩), ih0 ((wr .i64 (v0_4 + 1)), (v0_w0.set v0_4.toNat r5_6)) h⟩
  · replace h := bif_n hb h
    refine awp_exit ?_
    replace h := bsome h
    refine seq_reg (by kernel_rfl) ?_
    obtain rfl := Option.some.inj h
    exact awp_ret (fin_ob [v0_w0.length ≤ v0_w0.length] (by kernel_rfl) ⟨Nat.le_refl _, trivial⟩)

theorem spec_l1In.calls (k : Nat) (x0 : Int) (x1 : Int) (x2 : Int) (r : Bool) (h : spec_l1In k x0 x1 x2 = some r) : PC Try.prog 77 [.int .i64 x0, .int .i64 x1, .int .i64 x2] (.bool r) := by
  unfold spec_l1In at h
  refine pc_intro (fn := Try.f77) Try.call77 Try.func77 rfl (Nat.le_of_ble_eq_true rfl) rfl rfl ?_
  refine seq_reg (by kernel_rfl) ?_
  rcases Bool.eq_false_or_eq_true (decide (x0 ≥ x1)) with d1_3 | d1_3
  · replace h := if_p d1_3 h
    refine seq_region [(10, true)] [] [(decide (x0 ≥ x1)) = true] (by kernel_rfl) ⟨d1_3, trivial⟩ trivial ?_
    obtain rfl := Option.some.inj h
    exact awp_ret (fin_ob [] (by kernel_rfl) trivial)
  · replace h := if_n d1_3 h
    refine seq_region [(10, false)] [] [(decide (x0 ≥ x1)) = false] (by kernel_rfl) ⟨d1_3, trivial⟩ trivial ?_
    obtain rfl := Option.some.inj h
    exact awp_ret (fin_ob [] (by kernel_rfl) trivial)

theorem spec_l1Byte.calls (k : Nat) (x0 : Int) (r : Bool) (h : spec_l1Byte k x0 = some r) : PC Try.prog 96 [.int .u8 x0] (.bool r) := by
  unfold spec_l1Byte at h
  refine pc_intro (fn := Try.f96) Try.call96 Try.func96 rfl (Nat.le_of_ble_eq_true rfl) rfl rfl ?_
  refine seq_reg (by kernel_rfl) ?_
  rcases Bool.eq_false_or_eq_true (decide (x0 ≥ 97)) with d1_2 | d1_2
  · replace h := if_p d1_2 h
    rcases Bool.eq_false_or_eq_true (decide (x0 ≤ 122)) with d1_6 | d1_6
    · replace h := if_p d1_6 h
      refine seq_region [(5, true), (9, true)] [] [(decide (x0 ≥ 97)) = true, (decide (x0 ≤ 122)) = true] (by kernel_rfl) ⟨d1_2, d1_6, trivial⟩ trivial ?_
      obtain rfl := Option.some.inj h
      exact awp_ret (fin_ob [] (by kernel_rfl) trivial)
    · replace h := if_n d1_6 h
      rcases Bool.eq_false_or_eq_true (decide (x0 ≥ 48)) with d1_9 | d1_9
      · replace h := if_p d1_9 h
        rcases Bool.eq_false_or_eq_true (decide (x0 ≤ 57)) with d1_14 | d1_14
        · replace h := if_p d1_14 h
          refine seq_region [(5, true), (9, false), (12, true), (17, true)] [] [(decide (x0 ≥ 97)) = true, (decide (x0 ≤ 122)) = false, (decide (x0 ≥ 48)) = true, (decide (x0 ≤ 57)) = true] (by kernel_rfl) ⟨d1_2, d1_6, d1_9, d1_14, trivial⟩ trivial ?_
          obtain rfl := Option.some.inj h
          exact awp_ret (fin_ob [] (by kernel_rfl) trivial)
        · replace h := if_n d1_14 h
          refine seq_region [(5, true), (9, false), (12, true), (17, false)] [] [(decide (x0 ≥ 97)) = true, (decide (x0 ≤ 122)) = false, (decide (x0 ≥ 48)) = true, (decide (x0 ≤ 57)) = false] (by kernel_rfl) ⟨d1_2, d1_6, d1_9, d1_14, trivial⟩ trivial ?_
          obtain rfl := Option.some.inj h
          exact awp_ret (fin_ob [] (by kernel_rfl) trivial)
      · replace h := if_n d1_9 h
        refine seq_region [(5, true), (9, false), (12, false)] [] [(decide (x0 ≥ 97)) = true, (decide (x0 ≤ 122)) = false, (decide (x0 ≥ 48)) = false] (by kernel_rfl) ⟨d1_2, d1_6, d1_9, trivial⟩ trivial ?_
        obtain rfl := Option.some.inj h
        exact awp_ret (fin_ob [] (by kernel_rfl) trivial)
  · replace h := if_n d1_2 h
    rcases Bool.eq_false_or_eq_true (decide (x0 ≥ 48)) with d1_9 | d1_9
    · replace h := if_p d1_9 h
      rcases Bool.eq_false_or_eq_true (decide (x0 ≤ 57)) with d1_14 | d1_14
      · replace h := if_p d1_14 h
        refine seq_region [(5, false), (12, true), (17, true)] [] [(decide (x0 ≥ 97)) = false, (decide (x0 ≥ 48)) = true, (decide (x0 ≤ 57)) = true] (by kernel_rfl) ⟨d1_2, d1_9, d1_14, trivial⟩ trivial ?_
        obtain rfl := Option.some.inj h
        exact awp_ret (fin_ob [] (by kernel_rfl) trivial)
      · replace h := if_n d1_14 h
        refine seq_region [(5, false), (12, true), (17, false)] [] [(decide (x0 ≥ 97)) = false, (decide (x0 ≥ 48)) = true, (decide (x0 ≤ 57)) = false] (by kernel_rfl) ⟨d1_2, d1_9, d1_14, trivial⟩ trivial ?_
        obtain rfl := Option.some.inj h
        exact awp_ret (fin_ob [] (by kernel_rfl) trivial)
    · replace h := if_n d1_9 h
      refine seq_region [(5, false), (12, false)] [] [(decide (x0 ≥ 97)) = false, (decide (x0 ≥ 48)) = false] (by kernel_rfl) ⟨d1_2, d1_9, trivial⟩ trivial ?_
      obtain rfl := Option.some.inj h
      exact awp_ret (fin_ob [] (by kernel_rfl) trivial)

theorem spec_l1NameOk.calls (k : Nat) (x0 : List UInt8) (r : Bool) (h : spec_l1NameOk k x0 = some r) : PC Try.prog 94 [.str x0] (.bool r) := by
  unfold spec_l1NameOk at h
  refine pc_intro (fn := Try.f94) Try.call94 Try.func94 rfl (Nat.le_of_ble_eq_true rfl) rfl rfl ?_
  refine seq_reg (by kernel_rfl) ?_
  refine awp_seq ?_
  obtain ⟨r1_2, hr1_2, h⟩ := bind_s h
  refine seq_region [] [⟨77, [.int .i64 (x0.length : Int), .int .i64 1, .int .i64 16], [], .bool r1_2, [], 0, 0⟩] [same [.int .i64 (x0.length : Int), .int .i64 1, .int .i64 16]] (by kernel_rfl) ⟨rfl, trivial⟩ ⟨spec_l1In.calls _ _ _ _ _ hr1_2, trivial⟩ ?_
  refine awp_cond (b := (!r1_2)) (by kernel_rfl) (fun hb => ?_) (fun hb => ?_)
  · replace h := if_t hb h
    refine seq_reg (by kernel_rfl) ?_
    obtain rfl := Option.some.inj h
    exact awp_ret (fin_ob [] (by kernel_rfl) trivial)
  · replace h := if_f hb h
    refine awp_skip ?_
    refine awp_seq ?_
    refine seq_reg (by kernel_rfl) ?_
    refine awp_block ?_
    refine awp_loop_r (nt := 19) (N := 0) (l := [(0, .str x0), (3, .int .i64 0)]) (hs := []) (r := []) rfl ⟨by kernel_rfl, by kernel_rfl, trivial⟩ ?_
    refine loop_ind (fr := fun (v0_3 : (Int)) => Fm 19 0 [(0, .str x0), (3, .int .i64 v0_3)] []) (f := fun k (z : (Int)) => match z with | v0_3 => spec_l1NameOk.l0 x0 k v0_3) ?_ (fun _ => rfl) k 0 h
    clear h
    rintro k0 v0_3 ih0 h
    replace h : (spec_l1NameOk.l0 x0 (k0 + 1) v0_3).bind _ = some _ := h
    rw [spec_l1NameOk.l0] at h
    refine aloop_r ?_
    refine awp_seq ?_
    refine seq_reg (by kernel_rfl) ?_
    refine awp_cond (b := (decide (v0_3 < (x0.length : Int)))) (by kernel_rfl) (fun hb => ?_) (fun hb => ?_)
    · replace h := bif_p hb h
      refine awp_skip ?_
      refine awp_seq ?_
      refine awp_block ?_
      obtain ⟨o6_2_0, h⟩ := bif_s h
      obtain ⟨r6_3, hr6_3, h⟩ := bbind_s h
      refine seq_region [] [⟨96, [.int .u8 ((x0.getD v0_3.toNat 0).toNat : Int)], [], .bool r6_3, [], 0, 0⟩] [(0 : Int) ≤ v0_3 ∧ v0_3 < (x0.length : Int), same [.int .u8 ((x0.getD v0_3.toNat 0).toNat : Int)]] (by kernel_rfl) ⟨o6_2_0, rfl, trivial⟩ ⟨spec_l1Byte.calls _ _ _ hr6_3, trivial⟩ ?_
      refine awp_cond (b := (!r6_3)) (by kernel_rfl) (fun hb => ?_) (fun hb => ?_)
      · replace h := bif_t hb h
        refine seq_reg (by kernel_rfl) ?_
        obtain rfl := Option.some.inj h
        exact awp_ret (fin_ob [] (by kernel_rfl) trivial)
      · replace h := bif_f hb h
        refine awp_skip ?_
        refine awp_reg (by kernel_rfl) ?_
        exact ⟨_, _, [(0, .str x0), (3, .int .i64 (wr .i64 (v0_3 + 1)))], [], [], ⟨by kernel_rfl, by kernel_rfl, trivial⟩, ih0 (wr .i64 (v0_3 + 1)) h⟩
    · replace h := bif_n hb h
      refine awp_exit ?_
      replace h := bsome h
      refine seq_reg (by kernel_rfl) ?_
      obtain rfl := Option.some.inj h
      exact awp_ret (fin_ob [] (by kernel_rfl) trivial)

theorem spec_l4Team.calls (k : Nat) (x0 : List (GateTeam)) (x1 : List UInt8) (r : Bool) (h : spec_l4Team k x0 x1 = some r) : PC Try.prog 95 [sl 2 GateTeam.c x0, .str x1] (.bool r) := by
  unfold spec_l4Team at h
  refine pc_intro (fn := Try.f95) Try.call95 Try.func95 rfl (Nat.le_of_ble_eq_true rfl) rfl rfl ?_
  refine seq_reg (by kernel_rfl) ?_
  refine awp_seq ?_
  refine seq_reg (by kernel_rfl) ?_
  refine awp_block ?_
  refine awp_loop_r (nt := 19) (N := 0) (l := [(0, sl 2 GateTeam.c x0), (1, .str x1), (5, .int .i64 0)]) (hs := []) (r := []) rfl ⟨by kernel_rfl, by kernel_rfl, trivial⟩ ?_
  refine loop_ind (fr := fun (v0_5 : (Int)) => Fm 19 0 [(0, sl 2 GateTeam.c x0), (1, .str x1), (5, .int .i64 v0_5)] []) (f := fun k (z : (Int)) => match z with | v0_5 => spec_l4Team.l0 x0 x1 k v0_5) ?_ (fun _ => rfl) k 0 h
  clear h
  rintro k0 v0_5 ih0 h
  replace h : (spec_l4Team.l0 x0 x1 (k0 + 1) v0_5).bind _ = some _ := h
  rw [spec_l4Team.l0] at h
  refine aloop_r ?_
  refine awp_seq ?_
  refine seq_reg (by kernel_rfl) ?_
  refine awp_cond (b := (decide (v0_5 < (x0.length : Int)))) (by kernel_rfl) (fun hb => ?_) (fun hb => ?_)
  · replace h := bif_p hb h
    refine awp_skip ?_
    refine awp_seq ?_
    refine awp_block ?_
    obtain ⟨o4_2_0, h⟩ := bif_s h
    refine seq_region [] [] [(0 : Int) ≤ v0_5 ∧ v0_5 < (x0.length : Int)] (by kernel_rfl) ⟨o4_2_0, trivial⟩ trivial ?_
    refine awp_cond (b := ((x0.getD v0_5.toNat default).Name == x1)) (by kernel_rfl) (fun hb => ?_) (fun hb => ?_)
    · replace h := bif_t hb h
      refine seq_reg (by kernel_rfl) ?_
      obtain rfl := Option.some.inj h
      exact awp_ret (fin_ob [] (by kernel_rfl) trivial)
    · replace h := bif_f hb h
      refine awp_skip ?_
      refine awp_reg (by kernel_rfl) ?_
      exact ⟨_, _, [(0, sl 2 GateTeam.c x0), (1, .str x1), (5, .int .i64 (wr .i64 (v0_5 + 1)))], [], [], ⟨by kernel_rfl, by kernel_rfl, trivial⟩, ih0 (wr .i64 (v0_5 + 1)) h⟩
  · replace h := bif_n hb h
    refine awp_exit ?_
    replace h := bsome h
    refine seq_reg (by kernel_rfl) ?_
    obtain rfl := Option.some.inj h
    exact awp_ret (fin_ob [] (by kernel_rfl) trivial)

theorem spec_l4Over.calls (k : Nat) (x0 : List (GateTeam)) (x1 : List UInt8) (r : List UInt8) (h : spec_l4Over k x0 x1 = some r) : PC Try.prog 86 [sl 2 GateTeam.c x0, .str x1] (.str r) := by
  unfold spec_l4Over at h
  refine pc_intro (fn := Try.f86) Try.call86 Try.func86 rfl (Nat.le_of_ble_eq_true rfl) rfl rfl ?_
  refine seq_reg (by kernel_rfl) ?_
  refine awp_seq ?_
  refine seq_reg (by kernel_rfl) ?_
  refine awp_block ?_
  refine awp_loop_r (nt := 24) (N := 0) (l := [(0, sl 2 GateTeam.c x0), (1, .str x1), (5, .int .i64 0)]) (hs := []) (r := []) rfl ⟨by kernel_rfl, by kernel_rfl, trivial⟩ ?_
  refine loop_ind (fr := fun (v0_5 : (Int)) => Fm 24 0 [(0, sl 2 GateTeam.c x0), (1, .str x1), (5, .int .i64 v0_5)] []) (f := fun k (z : (Int)) => match z with | v0_5 => spec_l4Over.l0 x0 x1 k v0_5) ?_ (fun _ => rfl) k 0 h
  clear h
  rintro k0 v0_5 ih0 h
  replace h : (spec_l4Over.l0 x0 x1 (k0 + 1) v0_5).bind _ = some _ := h
  rw [spec_l4Over.l0] at h
  refine aloop_r ?_
  refine awp_seq ?_
  refine seq_reg (by kernel_rfl) ?_
  refine awp_cond (b := (decide (v0_5 < (x0.length : Int)))) (by kernel_rfl) (fun hb => ?_) (fun hb => ?_)
  · replace h := bif_p hb h
    refine awp_skip ?_
    refine awp_seq ?_
    refine awp_block ?_
    obtain ⟨o4_2_0, h⟩ := bif_s h
    refine seq_region [] [] [(0 : Int) ≤ v0_5 ∧ v0_5 < (x0.length : Int)] (by kernel_rfl) ⟨o4_2_0, trivial⟩ trivial ?_
    refine awp_cond (b := ((x0.getD v0_5.toNat default).Name == x1)) (by kernel_rfl) (fun hb => ?_) (fun hb => ?_)
    · replace h := bif_t hb h
      obtain ⟨o5_2_0, h⟩ := bif_s h
      refine seq_region [] [] [(0 : Int) ≤ v0_5 ∧ v0_5 < (x0.length : Int)] (by kernel_rfl) ⟨o5_2_0, trivial⟩ trivial ?_
      obtain rfl := Option.some.inj h
      exact awp_ret (fin_ob [] (by kernel_rfl) trivial)
    · replace h := bif_f hb h
      refine awp_skip ?_
      refine awp_reg (by kernel_rfl) ?_
      exact ⟨_, _, [(0, sl 2 GateTeam.c x0), (1, .str x1), (5, .int .i64 (wr .i64 (v0_5 + 1)))], [], [], ⟨by kernel_rfl, by kernel_rfl, trivial⟩, ih0 (wr .i64 (v0_5 + 1)) h⟩
  · replace h := bif_n hb h
    refine awp_exit ?_
    replace h := bsome h
    refine seq_reg (by kernel_rfl) ?_
    obtain rfl := Option.some.inj h
    exact awp_ret (fin_ob [] (by kernel_rfl) trivial)

theorem spec_GateTeamsOk.calls (k : Nat) (x0 : List (GateTeam)) (r : Bool) (h : spec_GateTeamsOk k x0 = some r) : PC Try.prog 67 [sl 2 GateTeam.c x0] (.bool r) := by
  unfold spec_GateTeamsOk at h
  refine pc_intro (fn := Try.f67) Try.call67 Try.func67 rfl (Nat.le_of_ble_eq_true rfl) rfl rfl ?_
  refine seq_reg (by kernel_rfl) ?_
  refine awp_seq ?_
  refine seq_reg (by kernel_rfl) ?_
  refine awp_cond (b := (decide ((x0.length : Int) > 12))) (by kernel_rfl) (fun hb => ?_) (fun hb => ?_)
  · replace h := if_p hb h
    refine seq_reg (by kernel_rfl) ?_
    obtain rfl := Option.some.inj h
    exact awp_ret (fin_ob [] (by kernel_rfl) trivial)
  · replace h := if_n hb h
    refine awp_skip ?_
    refine awp_seq ?_
    refine seq_reg (by kernel_rfl) ?_
    refine awp_block ?_
    refine awp_loop_r (nt := 66) (N := 0) (l := [(0, sl 2 GateTeam.c x0), (3, .int .i64 0)]) (hs := []) (r := []) rfl ⟨by kernel_rfl, by kernel_rfl, trivial⟩ ?_
    refine loop_ind (fr := fun (v0_3 : (Int)) => Fm 66 0 [(0, sl 2 GateTeam.c x0), (3, .int .i64 v0_3)] []) (f := fun k (z : (Int)) => match z with | v0_3 => spec_GateTeamsOk.l0 x0 k v0_3) ?_ (fun _ => rfl) k 0 h
    clear h
    rintro k0 v0_3 ih0 h
    replace h : (spec_GateTeamsOk.l0 x0 (k0 + 1) v0_3).bind _ = some _ := h
    rw [spec_GateTeamsOk.l0] at h
    refine aloop_r ?_
    refine awp_seq ?_
    refine seq_reg (by kernel_rfl) ?_
    refine awp_cond (b := (decide (v0_3 < (x0.length : Int)))) (by kernel_rfl) (fun hb => ?_) (fun hb => ?_)
    · replace h := bif_p hb h
      refine awp_skip ?_
      refine awp_seq ?_
      refine awp_block ?_
      obtain ⟨o6_2_0, h⟩ := bif_s h
      refine seq_region [] [] [(0 : Int) ≤ v0_3 ∧ v0_3 < (x0.length : Int)] (by kernel_rfl) ⟨o6_2_0, trivial⟩ trivial ?_
      replace h := bassoc h
      refine seq_join (fr := fun (z : Unit) => match z with | () => Fm 66 1 [(0, sl 2 GateTeam.c x0), (3, .int .i64 v0_3), (4, .bp 0 0)] [(0, .box [.str (x0.getD v0_3.toNat default).Name, .str (x0.getD v0_3.toNat default).Over])]) (inn := fun (z : Unit) => (.inr z)) h ?_ ?_
      · rintro ⟨⟩ h
        refine seq_reg (by kernel_rfl) ?_
        refine awp_seq ?_
        refine seq_reg (by kernel_rfl) ?_
        refine awp_block ?_
        refine awp_loop_r (nt := 66) (N := 1) (l := [(0, sl 2 GateTeam.c x0), (3, .int .i64 v0_3), (5, .str (x0.getD v0_3.toNat default).Name), (6, .int .i64 0)]) (hs := []) (r := []) rfl ⟨by kernel_rfl, by kernel_rfl, trivial⟩ ?_
        replace h := bassoc h
        refine loop_ind (fr := fun (z : (List UInt8) × (Int)) => match z with | (v1_5, v1_6) => Fm 66 1 [(0, sl 2 GateTeam.c x0), (3, .int .i64 v0_3), (5, .str v1_5), (6, .int .i64 v1_6)] []) (f := fun k (z : (List UInt8) × (Int)) => match z with | (v1_5, v1_6) => spec_GateTeamsOk.l1 x0 k v1_5 v1_6) ?_ (fun _ => rfl) k0 ((x0.getD v0_3.toNat default).Name, 0) h
        clear h
        rintro k1 ⟨v1_5, v1_6⟩ ih1 h
        replace h : (spec_GateTeamsOk.l1 x0 (k1 + 1) v1_5 v1_6).bind _ = some _ := h
        rw [spec_GateTeamsOk.l1] at h
        refine aloop_r ?_
        refine awp_seq ?_
        rcases Bool.eq_false_or_eq_true (decide (v1_6 ≤ 4)) with d11_2 | d11_2
        · replace h := bif_p d11_2 h
          refine seq_region [(55, true)] [] [(decide (v1_6 ≤ 4)) = true] (by kernel_rfl) ⟨d11_2, trivial⟩ trivial ?_
          refine awp_cond (b := (!(v1_5 == []))) (by kernel_rfl) (fun hb => ?_) (fun hb => ?_)
          · replace h := bif_t hb h
            refine awp_skip ?_
            refine awp_seq ?_
            refine awp_block ?_
            obtain ⟨r13_2, hr13_2, h⟩ := bbind_s h
            refine awp_region [] [⟨86, [sl 2 GateTeam.c x0, .str v1_5], [], .str r13_2, [], 1, 0⟩] [same [sl 2 GateTeam.c x0, .str v1_5]] (by kernel_rfl) ⟨rfl, trivial⟩ ⟨spec_l4Over.calls _ _ _ _ hr13_2, trivial⟩ ?_
            refine awp_reg (by kernel_rfl) ?_
            exact ⟨_, _, [(0, sl 2 GateTeam.c x0), (3, .int .i64 v0_3), (5, .str r13_2), (6, .int .i64 (wr .i64 (v1_6 + 1)))], [], [], ⟨by kernel_rfl, by kernel_rfl, trivial⟩, ih1 (r13_2, (wr .i64 (v1_6 + 1))) h⟩
          · replace h := bif_f hb h
            refine awp_exit ?_
            replace h := bsome h
            refine seq_reg (by kernel_rfl) ?_
            refine awp_cond (b := (!(v1_5 == []))) (by kernel_rfl) (fun hb => ?_) (fun hb => ?_)
            · replace h := bif_t hb h
              refine seq_reg (by kernel_rfl) ?_
              obtain rfl := Option.some.inj h
              exact awp_ret (fin_ob [] (by kernel_rfl) trivial)
            · replace h := bif_f hb h
              refine awp_skip ?_
              refine awp_reg (by kernel_rfl) ?_
              exact ⟨_, _, [(0, sl 2 GateTeam.c x0), (3, .int .i64 (wr .i64 (v0_3 + 1)))], [], [], ⟨by kernel_rfl, by kernel_rfl, trivial⟩, ih0 (wr .i64 (v0_3 + 1)) h⟩
        · replace h := bif_n d11_2 h
          refine seq_region [(55, false)] [] [(decide (v1_6 ≤ 4)) = false] (by kernel_rfl) ⟨d11_2, trivial⟩ trivial ?_
          refine awp_cond_k (b := false) (by kernel_rfl) ?_
          refine awp_exit ?_
          replace h := bsome h
          refine seq_reg (by kernel_rfl) ?_
          refine awp_cond (b := (!(v1_5 == []))) (by kernel_rfl) (fun hb => ?_) (fun hb => ?_)
          · replace h := bif_t hb h
            refine seq_reg (by kernel_rfl) ?_
            obtain rfl := Option.some.inj h
            exact awp_ret (fin_ob [] (by kernel_rfl) trivial)
          · replace h := bif_f hb h
            refine awp_skip ?_
            refine awp_reg (by kernel_rfl) ?_
            exact ⟨_, _, [(0, sl 2 GateTeam.c x0), (3, .int .i64 (wr .i64 (v0_3 + 1)))], [], [], ⟨by kernel_rfl, by kernel_rfl, trivial⟩, ih0 (wr .i64 (v0_3 + 1)) h⟩
      · intro z h hg
        obtain ⟨r7_2, hr7_2, h⟩ := bind_s h
        rcases Bool.eq_false_or_eq_true (!r7_2) with d7_4 | d7_4
        · replace h := if_t d7_4 h
          refine seq_draw hmix #[0, 1, 3, 7, 15, 31, 63, 127, 255, 255, 767, 2047, 4095, 8191, 255, 16639, 65535, 131071, 262143, 524287, 1048575, 2097151, 4194303, 8388607, 16777215, 16777215, 50331647, 134217727, 268435455, 536870911, 1073741823] [] [(24, true)] [⟨94, [.str (x0.getD v0_3.toNat default).Name], [], .bool r7_2, [], 1, 0⟩] [same [.str (x0.getD v0_3.toNat default).Name], (!r7_2) = true] (by kernel_rfl) ⟨rfl, d7_4, trivial⟩ ⟨spec_l1NameOk.calls _ _ _ hr7_2, trivial⟩ ?_
          refine awp_cond_k (b := true) (by kernel_rfl) ?_
          refine seq_reg (by kernel_rfl) ?_
          obtain rfl := Option.some.inj h
          replace h := hg
          obtain rfl := Option.some.inj h
          exact awp_ret (fin_ob [] (by kernel_rfl) trivial)
        · replace h := if_f d7_4 h
          rcases Bool.eq_false_or_eq_true (decide (v0_3 > 0)) with d7_7 | d7_7
          · replace h := if_p d7_7 h
            obtain ⟨o7_11_0, h⟩ := if_s h
            rcases Bool.eq_false_or_eq_true (!Op.bytesLess (x0.getD (wr .i64 (v0_3 - 1)).toNat default).Name (x0.getD v0_3.toNat default).Name) with d7_19 | d7_19
            · replace h := if_t d7_19 h
              refine seq_draw hmix #[0, 1, 3, 7, 15, 31, 63, 127, 255, 255, 767, 2047, 4095, 8191, 255, 16639, 65535, 131071, 262143, 524287, 1048575, 2097151, 4194303, 8388607, 16777215, 16777215, 50331647, 134217727, 268435455, 536870911, 1073741823] [] [(24, false), (27, true), (39, true)] [⟨94, [.str (x0.getD v0_3.toNat default).Name], [], .bool r7_2, [], 1, 0⟩] [same [.str (x0.getD v0_3.toNat default).Name], (!r7_2) = false, (decide (v0_3 > 0)) = true, (0 : Int) ≤ (wr .i64 (v0_3 - 1)) ∧ (wr .i64 (v0_3 - 1)) < (x0.length : Int), (!Op.bytesLess (x0.getD (wr .i64 (v0_3 - 1)).toNat default).Name (x0.getD v0_3.toNat default).Name) = true] (by kernel_rfl) ⟨rfl, d7_4, d7_7, o7_11_0, d7_19, trivial⟩ ⟨spec_l1NameOk.calls _ _ _ hr7_2, trivial⟩ ?_
              refine awp_cond_k (b := true) (by kernel_rfl) ?_
              refine seq_reg (by kernel_rfl) ?_
              obtain rfl := Option.some.inj h
              replace h := hg
              obtain rfl := Option.some.inj h
              exact awp_ret (fin_ob [] (by kernel_rfl) trivial)
            · replace h := if_f d7_19 h
              rcases Bool.eq_false_or_eq_true (!((x0.getD v0_3.toNat default).Over == [])) with d7_23 | d7_23
              · replace h := if_t d7_23 h
                obtain ⟨r7_27, hr7_27, h⟩ := bind_s h
                refine seq_draw hmix #[0, 1, 3, 7, 15, 31, 63, 127, 255, 255, 767, 2047, 4095, 8191, 255, 16639, 65535, 131071, 262143, 524287, 1048575, 2097151, 4194303, 8388607, 16777215, 16777215, 50331647, 134217727, 268435455, 536870911, 1073741823] [] [(24, false), (27, true), (39, false), (43, true)] [⟨94, [.str (x0.getD v0_3.toNat default).Name], [], .bool r7_2, [], 1, 0⟩, ⟨95, [sl 2 GateTeam.c x0, .str (x0.getD v0_3.toNat default).Over], [], .bool r7_27, [], 1, 0⟩] [same [.str (x0.getD v0_3.toNat default).Name], (!r7_2) = false, (decide (v0_3 > 0)) = true, (0 : Int) ≤ (wr .i64 (v0_3 - 1)) ∧ (wr .i64 (v0_3 - 1)) < (x0.length : Int), (!Op.bytesLess (x0.getD (wr .i64 (v0_3 - 1)).toNat default).Name (x0.getD v0_3.toNat default).Name) = false, (!((x0.getD v0_3.toNat default).Over == [])) = true, same [sl 2 GateTeam.c x0, .str (x0.getD v0_3.toNat default).Over]] (by kernel_rfl) ⟨rfl, d7_4, d7_7, o7_11_0, d7_19, d7_23, rfl, trivial⟩ ⟨spec_l1NameOk.calls _ _ _ hr7_2, spec_l4Team.calls _ _ _ _ hr7_27, trivial⟩ ?_
                refine awp_cond (b := (!r7_27)) (by kernel_rfl) (fun hb => ?_) (fun hb => ?_)
                · replace h := if_t hb h
                  refine seq_reg (by kernel_rfl) ?_
                  obtain rfl := Option.some.inj h
                  replace h := hg
                  obtain rfl := Option.some.inj h
                  exact awp_ret (fin_ob [] (by kernel_rfl) trivial)
                · replace h := if_f hb h
                  refine awp_skip ?_
                  obtain rfl := Option.some.inj h
                  exact ⟨(), rfl, fm_wk ⟨by kernel_rfl, by kernel_rfl, (ob_box (by kernel_rfl) (by kernel_rfl) trivial)⟩ (by kernel_rfl)⟩
              · replace h := if_f d7_23 h
                refine seq_draw hmix #[0, 1, 3, 7, 15, 31, 63, 127, 255, 255, 767, 2047, 4095, 8191, 255, 16639, 65535, 131071, 262143, 524287, 1048575, 2097151, 4194303, 8388607, 16777215, 16777215, 50331647, 134217727, 268435455, 536870911, 1073741823] [] [(24, false), (27, true), (39, false), (43, false)] [⟨94, [.str (x0.getD v0_3.toNat default).Name], [], .bool r7_2, [], 1, 0⟩] [same [.str (x0.getD v0_3.toNat default).Name], (!r7_2) = false, (decide (v0_3 > 0)) = true, (0 : Int) ≤ (wr .i64 (v0_3 - 1)) ∧ (wr .i64 (v0_3 - 1)) < (x0.length : Int), (!Op.bytesLess (x0.getD (wr .i64 (v0_3 - 1)).toNat default).Name (x0.getD v0_3.toNat default).Name) = false, (!((x0.getD v0_3.toNat default).Over == [])) = false] (by kernel_rfl) ⟨rfl, d7_4, d7_7, o7_11_0, d7_19, d7_23, trivial⟩ ⟨spec_l1NameOk.calls _ _ _ hr7_2, trivial⟩ ?_
                refine awp_cond_k (b := false) (by kernel_rfl) ?_
                refine awp_skip ?_
                obtain rfl := Option.some.inj h
                exact ⟨(), rfl, fm_wk ⟨by kernel_rfl, by kernel_rfl, (ob_box (by kernel_rfl) (by kernel_rfl) trivial)⟩ (by kernel_rfl)⟩
          · replace h := if_n d7_7 h
            rcases Bool.eq_false_or_eq_true (!((x0.getD v0_3.toNat default).Over == [])) with d7_23 | d7_23
            · replace h := if_t d7_23 h
              obtain ⟨r7_27, hr7_27, h⟩ := bind_s h
              refine seq_draw hmix #[0, 1, 3, 7, 15, 31, 63, 127, 255, 255, 767, 2047, 4095, 8191, 255, 16639, 65535, 131071, 262143, 524287, 1048575, 2097151, 4194303, 8388607, 16777215, 16777215, 50331647, 134217727, 268435455, 536870911, 1073741823] [] [(24, false), (27, false), (43, true)] [⟨94, [.str (x0.getD v0_3.toNat default).Name], [], .bool r7_2, [], 1, 0⟩, ⟨95, [sl 2 GateTeam.c x0, .str (x0.getD v0_3.toNat default).Over], [], .bool r7_27, [], 1, 0⟩] [same [.str (x0.getD v0_3.toNat default).Name], (!r7_2) = false, (decide (v0_3 > 0)) = false, (!((x0.getD v0_3.toNat default).Over == [])) = true, same [sl 2 GateTeam.c x0, .str (x0.getD v0_3.toNat default).Over]] (by kernel_rfl) ⟨rfl, d7_4, d7_7, d7_23, rfl, trivial⟩ ⟨spec_l1NameOk.calls _ _ _ hr7_2, spec_l4Team.calls _ _ _ _ hr7_27, trivial⟩ ?_
              refine awp_cond (b := (!r7_27)) (by kernel_rfl) (fun hb => ?_) (fun hb => ?_)
              · replace h := if_t hb h
                refine seq_reg (by kernel_rfl) ?_
                obtain rfl := Option.some.inj h
                replace h := hg
                obtain rfl := Option.some.inj h
                exact awp_ret (fin_ob [] (by kernel_rfl) trivial)
              · replace h := if_f hb h
                refine awp_skip ?_
                obtain rfl := Option.some.inj h
                exact ⟨(), rfl, fm_wk ⟨by kernel_rfl, by kernel_rfl, (ob_box (by kernel_rfl) (by kernel_rfl) trivial)⟩ (by kernel_rfl)⟩
            · replace h := if_f d7_23 h
              refine seq_draw hmix #[0, 1, 3, 7, 15, 31, 63, 127, 255, 255, 767, 2047, 4095, 8191, 255, 16639, 65535, 131071, 262143, 524287, 1048575, 2097151, 4194303, 8388607, 16777215, 16777215, 50331647, 134217727, 268435455, 536870911, 1073741823] [] [(24, false), (27, false), (43, false)] [⟨94, [.str (x0.getD v0_3.toNat default).Name], [], .bool r7_2, [], 1, 0⟩] [same [.str (x0.getD v0_3.toNat default).Name], (!r7_2) = false, (decide (v0_3 > 0)) = false, (!((x0.getD v0_3.toNat default).Over == [])) = false] (by kernel_rfl) ⟨rfl, d7_4, d7_7, d7_23, trivial⟩ ⟨spec_l1NameOk.calls _ _ _ hr7_2, trivial⟩ ?_
              refine awp_cond_k (b := false) (by kernel_rfl) ?_
              refine awp_skip ?_
              obtain rfl := Option.some.inj h
              exact ⟨(), rfl, fm_wk ⟨by kernel_rfl, by kernel_rfl, (ob_box (by kernel_rfl) (by kernel_rfl) trivial)⟩ (by kernel_rfl)⟩
    · replace h := bif_n hb h
      refine awp_exit ?_
      replace h := bsome h
      refine seq_reg (by kernel_rfl) ?_
      obtain rfl := Option.some.inj h
      exact awp_ret (fin_ob [] (by kernel_rfl) trivial)

theorem spec_l4RuleOk.calls (k : Nat) (x0 : GateRule) (r : Bool) (h : spec_l4RuleOk k x0 = some r) : PC Try.prog 68 [.agg (GateRule.c x0)] (.bool r) := by
  unfold spec_l4RuleOk at h
  refine pc_intro (fn := Try.f68) Try.call68 Try.func68 rfl (Nat.le_of_ble_eq_true rfl) rfl rfl ?_
  refine seq_reg (by kernel_rfl) ?_
  refine seq_join (fr := fun (z : Unit) => match z with | () => Fm 82 1 [(1, .bp 0 0)] [(0, .box [sl 1 cI64 x0.Verbs, .str x0.Kind, .str x0.Team, .str x0.Prefix])]) (inn := fun (z : Unit) => (.inr z)) h ?_ ?_
  · rintro ⟨⟩ h
    refine awp_seq ?_
    refine seq_reg (by kernel_rfl) ?_
    refine awp_block ?_
    refine awp_loop_r (nt := 82) (N := 2) (l := [(1, .bp 1 0), (3, .int .i64 0)]) (hs := [(1, .box [sl 1 cI64 x0.Verbs, .str x0.Kind, .str x0.Team, .str x0.Prefix])]) (r := [(1, 0)]) rfl ⟨by kernel_rfl, by kernel_rfl, (or_box (by kernel_rfl) (by kernel_rfl) trivial)⟩ ?_
    refine loop_ind (fr := fun (v0_3 : (Int)) => Fm 82 2 [(1, .bp 1 0), (3, .int .i64 v0_3)] [(1, .box [sl 1 cI64 x0.Verbs, .str x0.Kind, .str x0.Team, .str x0.Prefix])]) (f := fun k (z : (Int)) => match z with | v0_3 => spec_l4RuleOk.l0 x0 k v0_3) ?_ (fun _ => rfl) k 0 h
    clear h
    rintro k0 v0_3 ih0 h
    replace h : (spec_l4RuleOk.l0 x0 (k0 + 1) v0_3).bind _ = some _ := h
    rw [spec_l4RuleOk.l0] at h
    refine aloop_r ?_
    refine awp_seq ?_
    refine seq_reg (by kernel_rfl) ?_
    refine awp_cond (b := (decide (v0_3 < (x0.Verbs.length : Int)))) (by kernel_rfl) (fun hb => ?_) (fun hb => ?_)
    · replace h := bif_p hb h
      refine awp_skip ?_
      refine awp_seq ?_
      refine awp_block ?_
      obtain ⟨o6_3_0, h⟩ := bif_s h
      obtain ⟨r6_5, hr6_5, h⟩ := bbind_s h
      rcases Bool.eq_false_or_eq_true (!r6_5) with d6_7 | d6_7
      · replace h := bif_t d6_7 h
        refine seq_draw hmix #[0, 1, 0, 7, 15, 31, 63, 127, 255, 511, 1023, 2047, 4095, 2047, 10239, 32767, 65535, 2047, 133119, 2047, 919551, 1968127, 4194303, 8388607, 16777215] [] [(51, true)] [⟨77, [.int .i64 (x0.Verbs.getD v0_3.toNat default), .int .i64 1, .int .i64 5], [], .bool r6_5, [], 2, 0⟩] [(0 : Int) ≤ v0_3 ∧ v0_3 < (x0.Verbs.length : Int), same [.int .i64 (x0.Verbs.getD v0_3.toNat default), .int .i64 1, .int .i64 5], (!r6_5) = true] (by kernel_rfl) ⟨o6_3_0, rfl, d6_7, trivial⟩ ⟨spec_l1In.calls _ _ _ _ _ hr6_5, trivial⟩ ?_
        refine awp_cond_k (b := true) (by kernel_rfl) ?_
        refine seq_reg (by kernel_rfl) ?_
        obtain rfl := Option.some.inj h
        exact awp_ret (fin_ob [] (by kernel_rfl) trivial)
      · replace h := bif_f d6_7 h
        rcases Bool.eq_false_or_eq_true (decide (v0_3 > 0)) with d6_10 | d6_10
        · replace h := bif_p d6_10 h
          obtain ⟨o6_15_0, h⟩ := bif_s h
          obtain ⟨o6_20_0, h⟩ := bif_s h
          refine seq_draw hmix #[0, 1, 0, 7, 15, 31, 63, 127, 255, 511, 1023, 2047, 4095, 2047, 10239, 32767, 65535, 2047, 133119, 2047, 919551, 1968127, 4194303, 8388607, 16777215] [] [(51, false), (54, true)] [⟨77, [.int .i64 (x0.Verbs.getD v0_3.toNat default), .int .i64 1, .int .i64 5], [], .bool r6_5, [], 2, 0⟩] [(0 : Int) ≤ v0_3 ∧ v0_3 < (x0.Verbs.length : Int), same [.int .i64 (x0.Verbs.getD v0_3.toNat default), .int .i64 1, .int .i64 5], (!r6_5) = false, (decide (v0_3 > 0)) = true, (0 : Int) ≤ (wr .i64 (v0_3 - 1)) ∧ (wr .i64 (v0_3 - 1)) < (x0.Verbs.length : Int), (0 : Int) ≤ v0_3 ∧ v0_3 < (x0.Verbs.length : Int)] (by kernel_rfl) ⟨o6_3_0, rfl, d6_7, d6_10, o6_15_0, o6_20_0, trivial⟩ ⟨spec_l1In.calls _ _ _ _ _ hr6_5, trivial⟩ ?_
          refine awp_cond (b := (decide ((x0.Verbs.getD (wr .i64 (v0_3 - 1)).toNat default) ≥ (x0.Verbs.getD v0_3.toNat default)))) (by kernel_rfl) (fun hb => ?_) (fun hb => ?_)
          · replace h := bif_p hb h
            refine seq_reg (by kernel_rfl) ?_
            obtain rfl := Option.some.inj h
            exact awp_ret (fin_ob [] (by kernel_rfl) trivial)
          · replace h := bif_n hb h
            refine awp_skip ?_
            refine awp_reg (by kernel_rfl) ?_
            exact ⟨_, _, [(1, .bp 1 0), (3, .int .i64 (wr .i64 (v0_3 + 1)))], [(1, .box [sl 1 cI64 x0.Verbs, .str x0.Kind, .str x0.Team, .str x0.Prefix])], [(1, 1)], ⟨by kernel_rfl, by kernel_rfl, (or_box (by kernel_rfl) (by kernel_rfl) trivial)⟩, ih0 (wr .i64 (v0_3 + 1)) h⟩
        · replace h := bif_n d6_10 h
          refine seq_draw hmix #[0, 1, 0, 7, 15, 31, 63, 127, 255, 511, 1023, 2047, 4095, 2047, 10239, 32767, 65535, 2047, 133119, 2047, 919551, 1968127, 4194303, 8388607, 16777215] [] [(51, false), (54, false)] [⟨77, [.int .i64 (x0.Verbs.getD v0_3.toNat default), .int .i64 1, .int .i64 5], [], .bool r6_5, [], 2, 0⟩] [(0 : Int) ≤ v0_3 ∧ v0_3 < (x0.Verbs.length : Int), same [.int .i64 (x0.Verbs.getD v0_3.toNat default), .int .i64 1, .int .i64 5], (!r6_5) = false, (decide (v0_3 > 0)) = false] (by kernel_rfl) ⟨o6_3_0, rfl, d6_7, d6_10, trivial⟩ ⟨spec_l1In.calls _ _ _ _ _ hr6_5, trivial⟩ ?_
          refine awp_cond_k (b := false) (by kernel_rfl) ?_
          refine awp_skip ?_
          refine awp_reg (by kernel_rfl) ?_
          exact ⟨_, _, [(1, .bp 1 0), (3, .int .i64 (wr .i64 (v0_3 + 1)))], [(1, .box [sl 1 cI64 x0.Verbs, .str x0.Kind, .str x0.Team, .str x0.Prefix])], [(1, 1)], ⟨by kernel_rfl, by kernel_rfl, (or_box (by kernel_rfl) (by kernel_rfl) trivial)⟩, ih0 (wr .i64 (v0_3 + 1)) h⟩
    · replace h := bif_n hb h
      refine awp_exit ?_
      replace h := bsome h
      refine awp_seq ?_
      refine seq_reg (by kernel_rfl) ?_
      refine awp_block ?_
      refine awp_loop_r (nt := 82) (N := 3) (l := [(1, .bp 2 0), (4, .int .i64 0)]) (hs := [(2, .box [sl 1 cI64 x0.Verbs, .str x0.Kind, .str x0.Team, .str x0.Prefix])]) (r := [(2, 1)]) rfl ⟨by kernel_rfl, by kernel_rfl, (or_box (by kernel_rfl) (by kernel_rfl) trivial)⟩ ?_
      refine loop_ind (fr := fun (v1_4 : (Int)) => Fm 82 3 [(1, .bp 2 0), (4, .int .i64 v1_4)] [(2, .box [sl 1 cI64 x0.Verbs, .str x0.Kind, .str x0.Team, .str x0.Prefix])]) (f := fun k (z : (Int)) => match z with | v1_4 => spec_l4RuleOk.l1 x0 k v1_4) ?_ (fun _ => rfl) k 0 h
      clear h
      rintro k1 v1_4 ih1 h
      replace h : (spec_l4RuleOk.l1 x0 (k1 + 1) v1_4).bind _ = some _ := h
      rw [spec_l4RuleOk.l1] at h
      refine aloop_r ?_
      refine awp_seq ?_
      refine seq_reg (by kernel_rfl) ?_
      refine awp_cond (b := (decide (v1_4 < (x0.Prefix.length : Int)))) (by kernel_rfl) (fun hb => ?_) (fun hb => ?_)
      · replace h := bif_p hb h
        refine awp_skip ?_
        refine awp_seq ?_
        refine awp_block ?_
        obtain ⟨o11_3_0, h⟩ := bif_s h
        obtain ⟨r11_4, hr11_4, h⟩ := bbind_s h
        refine seq_region [] [⟨96, [.int .u8 ((x0.Prefix.getD v1_4.toNat 0).toNat : Int)], [], .bool r11_4, [], 3, 0⟩] [(0 : Int) ≤ v1_4 ∧ v1_4 < (x0.Prefix.length : Int), same [.int .u8 ((x0.Prefix.getD v1_4.toNat 0).toNat : Int)]] (by kernel_rfl) ⟨o11_3_0, rfl, trivial⟩ ⟨spec_l1Byte.calls _ _ _ hr11_4, trivial⟩ ?_
        refine awp_cond (b := (!r11_4)) (by kernel_rfl) (fun hb => ?_) (fun hb => ?_)
        · replace h := bif_t hb h
          refine seq_reg (by kernel_rfl) ?_
          obtain rfl := Option.some.inj h
          exact awp_ret (fin_ob [] (by kernel_rfl) trivial)
        · replace h := bif_f hb h
          refine awp_skip ?_
          refine awp_reg (by kernel_rfl) ?_
          exact ⟨_, _, [(1, .bp 2 0), (4, .int .i64 (wr .i64 (v1_4 + 1)))], [(2, .box [sl 1 cI64 x0.Verbs, .str x0.Kind, .str x0.Team, .str x0.Prefix])], [(2, 2)], ⟨by kernel_rfl, by kernel_rfl, (or_box (by kernel_rfl) (by kernel_rfl) trivial)⟩, ih1 (wr .i64 (v1_4 + 1)) h⟩
      · replace h := bif_n hb h
        refine awp_exit ?_
        replace h := bsome h
        refine seq_reg (by kernel_rfl) ?_
        obtain rfl := Option.some.inj h
        exact awp_ret (fin_ob [] (by kernel_rfl) trivial)
  · intro z h hg
    rcases Bool.eq_false_or_eq_true ((x0.Verbs.length : Int) == 0) with d1_4 | d1_4
    · replace h := if_t d1_4 h
      refine seq_region [(9, true)] [] [((x0.Verbs.length : Int) == 0) = true] (by kernel_rfl) ⟨d1_4, trivial⟩ trivial ?_
      refine awp_cond_k (b := true) (by kernel_rfl) ?_
      refine seq_reg (by kernel_rfl) ?_
      obtain rfl := Option.some.inj h
      replace h := hg
      obtain rfl := Option.some.inj h
      exact awp_ret (fin_ob [] (by kernel_rfl) trivial)
    · replace h := if_f d1_4 h
      rcases Bool.eq_false_or_eq_true (decide ((x0.Prefix.length : Int) > 16)) with d1_10 | d1_10
      · replace h := if_p d1_10 h
        refine seq_region [(9, false), (15, true)] [] [((x0.Verbs.length : Int) == 0) = false, (decide ((x0.Prefix.length : Int) > 16)) = true] (by kernel_rfl) ⟨d1_4, d1_10, trivial⟩ trivial ?_
        refine awp_cond_k (b := true) (by kernel_rfl) ?_
        refine seq_reg (by kernel_rfl) ?_
        obtain rfl := Option.some.inj h
        replace h := hg
        obtain rfl := Option.some.inj h
        exact awp_ret (fin_ob [] (by kernel_rfl) trivial)
      · replace h := if_n d1_10 h
        rcases Bool.eq_false_or_eq_true (!(x0.Kind == [])) with d1_14 | d1_14
        · replace h := if_t d1_14 h
          obtain ⟨r1_17, hr1_17, h⟩ := bind_s h
          rcases Bool.eq_false_or_eq_true (!r1_17) with d1_21 | d1_21
          · replace h := if_t d1_21 h
            refine seq_region [(9, false), (15, false), (19, true), (26, true)] [⟨94, [.str x0.Kind], [], .bool r1_17, [], 1, 0⟩] [((x0.Verbs.length : Int) == 0) = false, (decide ((x0.Prefix.length : Int) > 16)) = false, (!(x0.Kind == [])) = true, same [.str x0.Kind], (!r1_17) = true] (by kernel_rfl) ⟨d1_4, d1_10, d1_14, rfl, d1_21, trivial⟩ ⟨spec_l1NameOk.calls _ _ _ hr1_17, trivial⟩ ?_
            refine awp_cond_k (b := true) (by kernel_rfl) ?_
            refine seq_reg (by kernel_rfl) ?_
            obtain rfl := Option.some.inj h
            replace h := hg
            obtain rfl := Option.some.inj h
            exact awp_ret (fin_ob [] (by kernel_rfl) trivial)
          · replace h := if_f d1_21 h
            rcases Bool.eq_false_or_eq_true (!(x0.Team == [])) with d1_25 | d1_25
            · replace h := if_t d1_25 h
              obtain ⟨r1_28, hr1_28, h⟩ := bind_s h
              refine seq_region [(9, false), (15, false), (19, true), (26, false), (30, true)] [⟨94, [.str x0.Kind], [], .bool r1_17, [], 1, 0⟩, ⟨94, [.str x0.Team], [], .bool r1_28, [], 1, 0⟩] [((x0.Verbs.length : Int) == 0) = false, (decide ((x0.Prefix.length : Int) > 16)) = false, (!(x0.Kind == [])) = true, same [.str x0.Kind], (!r1_17) = false, (!(x0.Team == [])) = true, same [.str x0.Team]] (by kernel_rfl) ⟨d1_4, d1_10, d1_14, rfl, d1_21, d1_25, rfl, trivial⟩ ⟨spec_l1NameOk.calls _ _ _ hr1_17, spec_l1NameOk.calls _ _ _ hr1_28, trivial⟩ ?_
              refine awp_cond (b := (!r1_28)) (by kernel_rfl) (fun hb => ?_) (fun hb => ?_)
              · replace h := if_t hb h
                refine seq_reg (by kernel_rfl) ?_
                obtain rfl := Option.some.inj h
                replace h := hg
                obtain rfl := Option.some.inj h
                exact awp_ret (fin_ob [] (by kernel_rfl) trivial)
              · replace h := if_f hb h
                refine awp_skip ?_
                obtain rfl := Option.some.inj h
                exact ⟨(), rfl, fm_wk ⟨by kernel_rfl, by kernel_rfl, (ob_box (by kernel_rfl) (by kernel_rfl) trivial)⟩ (by kernel_rfl)⟩
            · replace h := if_f d1_25 h
              refine seq_region [(9, false), (15, false), (19, true), (26, false), (30, false)] [⟨94, [.str x0.Kind], [], .bool r1_17, [], 1, 0⟩] [((x0.Verbs.length : Int) == 0) = false, (decide ((x0.Prefix.length : Int) > 16)) = false, (!(x0.Kind == [])) = true, same [.str x0.Kind], (!r1_17) = false, (!(x0.Team == [])) = false] (by kernel_rfl) ⟨d1_4, d1_10, d1_14, rfl, d1_21, d1_25, trivial⟩ ⟨spec_l1NameOk.calls _ _ _ hr1_17, trivial⟩ ?_
              refine awp_cond_k (b := false) (by kernel_rfl) ?_
              refine awp_skip ?_
              obtain rfl := Option.some.inj h
              exact ⟨(), rfl, fm_wk ⟨by kernel_rfl, by kernel_rfl, (ob_box (by kernel_rfl) (by kernel_rfl) trivial)⟩ (by kernel_rfl)⟩
        · replace h := if_f d1_14 h
          rcases Bool.eq_false_or_eq_true (!(x0.Team == [])) with d1_25 | d1_25
          · replace h := if_t d1_25 h
            obtain ⟨r1_28, hr1_28, h⟩ := bind_s h
            refine seq_region [(9, false), (15, false), (19, false), (30, true)] [⟨94, [.str x0.Team], [], .bool r1_28, [], 1, 0⟩] [((x0.Verbs.length : Int) == 0) = false, (decide ((x0.Prefix.length : Int) > 16)) = false, (!(x0.Kind == [])) = false, (!(x0.Team == [])) = true, same [.str x0.Team]] (by kernel_rfl) ⟨d1_4, d1_10, d1_14, d1_25, rfl, trivial⟩ ⟨spec_l1NameOk.calls _ _ _ hr1_28, trivial⟩ ?_
            refine awp_cond (b := (!r1_28)) (by kernel_rfl) (fun hb => ?_) (fun hb => ?_)
            · replace h := if_t hb h
              refine seq_reg (by kernel_rfl) ?_
              obtain rfl := Option.some.inj h
              replace h := hg
              obtain rfl := Option.some.inj h
              exact awp_ret (fin_ob [] (by kernel_rfl) trivial)
            · replace h := if_f hb h
              refine awp_skip ?_
              obtain rfl := Option.some.inj h
              exact ⟨(), rfl, fm_wk ⟨by kernel_rfl, by kernel_rfl, (ob_box (by kernel_rfl) (by kernel_rfl) trivial)⟩ (by kernel_rfl)⟩
          · replace h := if_f d1_25 h
            refine seq_region [(9, false), (15, false), (19, false), (30, false)] [] [((x0.Verbs.length : Int) == 0) = false, (decide ((x0.Prefix.length : Int) > 16)) = false, (!(x0.Kind == [])) = false, (!(x0.Team == [])) = false] (by kernel_rfl) ⟨d1_4, d1_10, d1_14, d1_25, trivial⟩ trivial ?_
            refine awp_cond_k (b := false) (by kernel_rfl) ?_
            refine awp_skip ?_
            obtain rfl := Option.some.inj h
            exact ⟨(), rfl, fm_wk ⟨by kernel_rfl, by kernel_rfl, (ob_box (by kernel_rfl) (by kernel_rfl) trivial)⟩ (by kernel_rfl)⟩

theorem spec_l4AllOk.calls (k : Nat) (x0 : List (GateTeam)) (x1 : List (GateRule)) (x2 : GateRule) (r : Bool) (h : spec_l4AllOk k x0 x1 x2 = some r) : PC Try.prog 32 [sl 2 GateTeam.c x0, sl 4 GateRule.c x1, .agg (GateRule.c x2)] (.bool r) := by
  unfold spec_l4AllOk at h
  refine pc_intro (fn := Try.f32) Try.call32 Try.func32 rfl (Nat.le_of_ble_eq_true rfl) rfl rfl ?_
  refine seq_reg (by kernel_rfl) ?_
  refine awp_seq ?_
  obtain ⟨r1_1, hr1_1, h⟩ := bind_s h
  rcases Bool.eq_false_or_eq_true (!r1_1) with d1_3 | d1_3
  · replace h := if_t d1_3 h
    refine seq_region [(11, true)] [⟨67, [sl 2 GateTeam.c x0], [], .bool r1_1, [], 1, 0⟩] [same [sl 2 GateTeam.c x0], (!r1_1) = true] (by kernel_rfl) ⟨rfl, d1_3, trivial⟩ ⟨spec_GateTeamsOk.calls _ _ _ hr1_1, trivial⟩ ?_
    refine awp_cond_k (b := true) (by kernel_rfl) ?_
    refine seq_reg (by kernel_rfl) ?_
    obtain rfl := Option.some.inj h
    exact awp_ret (fin_ob [] (by kernel_rfl) trivial)
  · replace h := if_f d1_3 h
    obtain ⟨r1_5, hr1_5, h⟩ := bind_s h
    refine seq_region [(11, false)] [⟨67, [sl 2 GateTeam.c x0], [], .bool r1_1, [], 1, 0⟩, ⟨68, [.agg (GateRule.c x2)], [], .bool r1_5, [], 1, 0⟩] [same [sl 2 GateTeam.c x0], (!r1_1) = false, same [.agg (GateRule.c x2)]] (by kernel_rfl) ⟨rfl, d1_3, rfl, trivial⟩ ⟨spec_GateTeamsOk.calls _ _ _ hr1_1, spec_l4RuleOk.calls _ _ _ hr1_5, trivial⟩ ?_
    refine awp_cond (b := (!r1_5)) (by kernel_rfl) (fun hb => ?_) (fun hb => ?_)
    · replace h := if_t hb h
      refine seq_reg (by kernel_rfl) ?_
      obtain rfl := Option.some.inj h
      exact awp_ret (fin_ob [] (by kernel_rfl) trivial)
    · replace h := if_f hb h
      refine awp_skip ?_
      refine awp_seq ?_
      refine seq_reg (by kernel_rfl) ?_
      refine awp_block ?_
      refine awp_loop_r (nt := 28) (N := 1) (l := [(1, sl 4 GateRule.c x1), (7, .int .i64 0)]) (hs := []) (r := []) rfl ⟨by kernel_rfl, by kernel_rfl, trivial⟩ ?_
      refine loop_ind (fr := fun (v0_7 : (Int)) => Fm 28 1 [(1, sl 4 GateRule.c x1), (7, .int .i64 v0_7)] []) (f := fun k (z : (Int)) => match z with | v0_7 => spec_l4AllOk.l0 x1 k v0_7) ?_ (fun _ => rfl) k 0 h
      clear h
      rintro k0 v0_7 ih0 h
      replace h : (spec_l4AllOk.l0 x1 (k0 + 1) v0_7).bind _ = some _ := h
      rw [spec_l4AllOk.l0] at h
      refine aloop_r ?_
      refine awp_seq ?_
      refine seq_reg (by kernel_rfl) ?_
      refine awp_cond (b := (decide (v0_7 < (x1.length : Int)))) (by kernel_rfl) (fun hb => ?_) (fun hb => ?_)
      · replace h := bif_p hb h
        refine awp_skip ?_
        refine awp_seq ?_
        refine awp_block ?_
        obtain ⟨o6_2_0, h⟩ := bif_s h
        obtain ⟨r6_4, hr6_4, h⟩ := bbind_s h
        refine seq_region [] [⟨68, [.agg (GateRule.c (x1.getD v0_7.toNat default))], [], .bool r6_4, [], 1, 0⟩] [(0 : Int) ≤ v0_7 ∧ v0_7 < (x1.length : Int), same [.agg (GateRule.c (x1.getD v0_7.toNat default))]] (by kernel_rfl) ⟨o6_2_0, rfl, trivial⟩ ⟨spec_l4RuleOk.calls _ _ _ hr6_4, trivial⟩ ?_
        refine awp_cond (b := (!r6_4)) (by kernel_rfl) (fun hb => ?_) (fun hb => ?_)
        · replace h := bif_t hb h
          refine seq_reg (by kernel_rfl) ?_
          obtain rfl := Option.some.inj h
          exact awp_ret (fin_ob [] (by kernel_rfl) trivial)
        · replace h := bif_f hb h
          refine awp_skip ?_
          refine awp_reg (by kernel_rfl) ?_
          exact ⟨_, _, [(1, sl 4 GateRule.c x1), (7, .int .i64 (wr .i64 (v0_7 + 1)))], [], [], ⟨by kernel_rfl, by kernel_rfl, trivial⟩, ih0 (wr .i64 (v0_7 + 1)) h⟩
      · replace h := bif_n hb h
        refine awp_exit ?_
        replace h := bsome h
        refine seq_reg (by kernel_rfl) ?_
        obtain rfl := Option.some.inj h
        exact awp_ret (fin_ob [] (by kernel_rfl) trivial)

theorem spec_l4Verb.calls (k : Nat) (x0 : GateRule) (x1 : Int) (r : Bool) (h : spec_l4Verb k x0 x1 = some r) : PC Try.prog 69 [.agg (GateRule.c x0), .int .i64 x1] (.bool r) := by
  unfold spec_l4Verb at h
  refine pc_intro (fn := Try.f69) Try.call69 Try.func69 rfl (Nat.le_of_ble_eq_true rfl) rfl rfl ?_
  refine seq_reg (by kernel_rfl) ?_
  refine awp_seq ?_
  refine seq_reg (by kernel_rfl) ?_
  refine awp_block ?_
  refine awp_loop_r (nt := 20) (N := 2) (l := [(1, .int .i64 x1), (2, .bp 1 0), (5, .int .i64 0)]) (hs := [(1, .box [sl 1 cI64 x0.Verbs, .str x0.Kind, .str x0.Team, .str x0.Prefix])]) (r := [(1, 0)]) rfl ⟨by kernel_rfl, by kernel_rfl, (or_box (by kernel_rfl) (by kernel_rfl) trivial)⟩ ?_
  refine loop_ind (fr := fun (v0_5 : (Int)) => Fm 20 2 [(1, .int .i64 x1), (2, .bp 1 0), (5, .int .i64 v0_5)] [(1, .box [sl 1 cI64 x0.Verbs, .str x0.Kind, .str x0.Team, .str x0.Prefix])]) (f := fun k (z : (Int)) => match z with | v0_5 => spec_l4Verb.l0 x0 x1 k v0_5) ?_ (fun _ => rfl) k 0 h
  clear h
  rintro k0 v0_5 ih0 h
  replace h : (spec_l4Verb.l0 x0 x1 (k0 + 1) v0_5).bind _ = some _ := h
  rw [spec_l4Verb.l0] at h
  refine aloop_r ?_
  refine awp_seq ?_
  refine seq_reg (by kernel_rfl) ?_
  refine awp_cond (b := (decide (v0_5 < (x0.Verbs.length : Int)))) (by kernel_rfl) (fun hb => ?_) (fun hb => ?_)
  · replace h := bif_p hb h
    refine awp_skip ?_
    refine awp_seq ?_
    refine awp_block ?_
    obtain ⟨o4_3_0, h⟩ := bif_s h
    refine seq_region [] [] [(0 : Int) ≤ v0_5 ∧ v0_5 < (x0.Verbs.length : Int)] (by kernel_rfl) ⟨o4_3_0, trivial⟩ trivial ?_
    refine awp_cond (b := ((x0.Verbs.getD v0_5.toNat default) == x1)) (by kernel_rfl) (fun hb => ?_) (fun hb => ?_)
    · replace h := bif_t hb h
      refine seq_reg (by kernel_rfl) ?_
      obtain rfl := Option.some.inj h
      exact awp_ret (fin_ob [] (by kernel_rfl) trivial)
    · replace h := bif_f hb h
      refine awp_skip ?_
      refine awp_reg (by kernel_rfl) ?_
      exact ⟨_, _, [(1, .int .i64 x1), (2, .bp 1 0), (5, .int .i64 (wr .i64 (v0_5 + 1)))], [(1, .box [sl 1 cI64 x0.Verbs, .str x0.Kind, .str x0.Team, .str x0.Prefix])], [(1, 1)], ⟨by kernel_rfl, by kernel_rfl, (or_box (by kernel_rfl) (by kernel_rfl) trivial)⟩, ih0 (wr .i64 (v0_5 + 1)) h⟩
  · replace h := bif_n hb h
    refine awp_exit ?_
    replace h := bsome h
    refine seq_reg (by kernel_rfl) ?_
    obtain rfl := Option.some.inj h
    exact awp_ret (fin_ob [] (by kernel_rfl) trivial)

theorem spec_GateUnder.calls (k : Nat) (x0 : List (GateTeam)) (x1 : List UInt8) (x2 : List UInt8) (r : Bool) (h : spec_GateUnder k x0 x1 x2 = some r) : PC Try.prog 57 [sl 2 GateTeam.c x0, .str x1, .str x2] (.bool r) := by
  unfold spec_GateUnder at h
  refine pc_intro (fn := Try.f57) Try.call57 Try.func57 rfl (Nat.le_of_ble_eq_true rfl) rfl rfl ?_
  refine seq_reg (by kernel_rfl) ?_
  refine awp_seq ?_
  refine seq_reg (by kernel_rfl) ?_
  refine awp_cond (b := (x1 == x2)) (by kernel_rfl) (fun hb => ?_) (fun hb => ?_)
  · replace h := if_t hb h
    refine seq_reg (by kernel_rfl) ?_
    obtain rfl := Option.some.inj h
    exact awp_ret (fin_ob [] (by kernel_rfl) trivial)
  · replace h := if_f hb h
    refine awp_skip ?_
    refine awp_seq ?_
    refine seq_reg (by kernel_rfl) ?_
    refine awp_block ?_
    refine awp_loop_r (nt := 23) (N := 0) (l := [(0, sl 2 GateTeam.c x0), (1, .str x1), (2, .str x2), (7, .int .i64 0)]) (hs := []) (r := []) rfl ⟨by kernel_rfl, by kernel_rfl, trivial⟩ ?_
    refine loop_ind (fr := fun (z : (List UInt8) × (Int)) => match z with | (v0_1, v0_7) => Fm 23 0 [(0, sl 2 GateTeam.c x0), (1, .str v0_1), (2, .str x2), (7, .int .i64 v0_7)] []) (f := fun k (z : (List UInt8) × (Int)) => match z with | (v0_1, v0_7) => spec_GateUnder.l0 x0 x2 k v0_1 v0_7) ?_ (fun _ => rfl) k (x1, 0) h
    clear h
    rintro k0 ⟨v0_1, v0_7⟩ ih0 h
    replace h : (spec_GateUnder.l0 x0 x2 (k0 + 1) v0_1 v0_7).bind _ = some _ := h
    rw [spec_GateUnder.l0] at h
    refine aloop_r ?_
    refine awp_seq ?_
    refine seq_reg (by kernel_rfl) ?_
    refine awp_cond (b := (decide (v0_7 < 4))) (by kernel_rfl) (fun hb => ?_) (fun hb => ?_)
    · replace h := bif_p hb h
      refine awp_skip ?_
      refine awp_seq ?_
      refine awp_block ?_
      obtain ⟨r6_2, hr6_2, h⟩ := bbind_s h
      refine seq_region [] [⟨86, [sl 2 GateTeam.c x0, .str v0_1], [], .str r6_2, [], 0, 0⟩] [same [sl 2 GateTeam.c x0, .str v0_1]] (by kernel_rfl) ⟨rfl, trivial⟩ ⟨spec_l4Over.calls _ _ _ _ hr6_2, trivial⟩ ?_
      refine awp_seq ?_
      refine seq_reg (by kernel_rfl) ?_
      refine awp_cond (b := (r6_2 == [])) (by kernel_rfl) (fun hb => ?_) (fun hb => ?_)
      · replace h := bif_t hb h
        refine seq_reg (by kernel_rfl) ?_
        obtain rfl := Option.some.inj h
        exact awp_ret (fin_ob [] (by kernel_rfl) trivial)
      · replace h := bif_f hb h
        refine awp_skip ?_
        refine seq_reg (by kernel_rfl) ?_
        refine awp_cond (b := (r6_2 == x2)) (by kernel_rfl) (fun hb => ?_) (fun hb => ?_)
        · replace h := bif_t hb h
          refine seq_reg (by kernel_rfl) ?_
          obtain rfl := Option.some.inj h
          exact awp_ret (fin_ob [] (by kernel_rfl) trivial)
        · replace h := bif_f hb h
          refine awp_skip ?_
          refine awp_reg (by kernel_rfl) ?_
          exact ⟨_, _, [(0, sl 2 GateTeam.c x0), (1, .str r6_2), (2, .str x2), (7, .int .i64 (wr .i64 (v0_7 + 1)))], [], [], ⟨by kernel_rfl, by kernel_rfl, trivial⟩, ih0 (r6_2, (wr .i64 (v0_7 + 1))) h⟩
    · replace h := bif_n hb h
      refine awp_exit ?_
      replace h := bsome h
      refine seq_reg (by kernel_rfl) ?_
      obtain rfl := Option.some.inj h
      exact awp_ret (fin_ob [] (by kernel_rfl) trivial)

theorem spec_l4Begins.calls (k : Nat) (x0 : List UInt8) (x1 : List UInt8) (r : Bool) (h : spec_l4Begins k x0 x1 = some r) : PC Try.prog 70 [.str x0, .str x1] (.bool r) := by
  unfold spec_l4Begins at h
  refine pc_intro (fn := Try.f70) Try.call70 Try.func70 rfl (Nat.le_of_ble_eq_true rfl) rfl rfl ?_
  refine seq_reg (by kernel_rfl) ?_
  rcases Bool.eq_false_or_eq_true (decide ((x0.length : Int) ≥ (x1.length : Int))) with d1_5 | d1_5
  · replace h := if_p d1_5 h
    obtain ⟨o1_9_0, h⟩ := if_s h
    refine seq_region [(10, true)] [] [(decide ((x0.length : Int) ≥ (x1.length : Int))) = true, (0 : Int) ≤ (0 : Int) ∧ (0 : Int) ≤ (x1.length : Int) ∧ (x1.length : Int) ≤ (x0.length : Int)] (by kernel_rfl) ⟨d1_5, o1_9_0, trivial⟩ trivial ?_
    obtain rfl := Option.some.inj h
    exact awp_ret (fin_ob [] (by kernel_rfl) trivial)
  · replace h := if_n d1_5 h
    refine seq_region [(10, false)] [] [(decide ((x0.length : Int) ≥ (x1.length : Int))) = false] (by kernel_rfl) ⟨d1_5, trivial⟩ trivial ?_
    obtain rfl := Option.some.inj h
    exact awp_ret (fin_ob [] (by kernel_rfl) trivial)

theorem spec_l4Lacks.calls (k : Nat) (x0 : List (GateTeam)) (x1 : List (GateRule)) (x2 : GateRule) (r : Int) (h : spec_l4Lacks k x0 x1 x2 = some r) : PC Try.prog 33 [sl 2 GateTeam.c x0, sl 4 GateRule.c x1, .agg (GateRule.c x2)] (.int .i64 r) := by
  unfold spec_l4Lacks at h
  refine pc_intro (fn := Try.f33) Try.call33 Try.func33 rfl (Nat.le_of_ble_eq_true rfl) rfl rfl ?_
  refine seq_reg (by kernel_rfl) ?_
  refine awp_seq ?_
  refine seq_reg (by kernel_rfl) ?_
  refine awp_block ?_
  refine awp_loop_r (nt := 79) (N := 2) (l := [(0, sl 2 GateTeam.c x0), (1, sl 4 GateRule.c x1), (5, .bp 1 0), (7, .int .i64 0)]) (hs := [(1, .box [sl 1 cI64 x2.Verbs, .str x2.Kind, .str x2.Team, .str x2.Prefix])]) (r := [(1, 0)]) rfl ⟨by kernel_rfl, by kernel_rfl, (or_box (by kernel_rfl) (by kernel_rfl) trivial)⟩ ?_
  refine loop_ind (fr := fun (v0_7 : (Int)) => Fm 79 2 [(0, sl 2 GateTeam.c x0), (1, sl 4 GateRule.c x1), (5, .bp 1 0), (7, .int .i64 v0_7)] [(1, .box [sl 1 cI64 x2.Verbs, .str x2.Kind, .str x2.Team, .str x2.Prefix])]) (f := fun k (z : (Int)) => match z with | v0_7 => spec_l4Lacks.l0 x2 x1 x0 k v0_7) ?_ (fun _ => rfl) k 0 h
  clear h
  rintro k0 v0_7 ih0 h
  replace h : (spec_l4Lacks.l0 x2 x1 x0 (k0 + 1) v0_7).bind _ = some _ := h
  rw [spec_l4Lacks.l0] at h
  refine aloop_r ?_
  refine awp_seq ?_
  refine seq_reg (by kernel_rfl) ?_
  refine awp_cond (b := (decide (v0_7 < (x2.Verbs.length : Int)))) (by kernel_rfl) (fun hb => ?_) (fun hb => ?_)
  · replace h := bif_p hb h
    refine awp_skip ?_
    refine awp_seq ?_
    refine awp_block ?_
    refine seq_reg (by kernel_rfl) ?_
    refine awp_seq ?_
    refine seq_reg (by kernel_rfl) ?_
    refine awp_block ?_
    refine awp_loop_r (nt := 79) (N := 3) (l := [(0, sl 2 GateTeam.c x0), (1, sl 4 GateRule.c x1), (5, .bp 2 0), (7, .int .i64 v0_7), (8, .bool false), (9, .int .i64 0)]) (hs := [(2, .box [sl 1 cI64 x2.Verbs, .str x2.Kind, .str x2.Team, .str x2.Prefix])]) (r := [(2, 1)]) rfl ⟨by kernel_rfl, by kernel_rfl, (or_box (by kernel_rfl) (by kernel_rfl) trivial)⟩ ?_
    replace h := bassoc h
    refine loop_ind (fr := fun (z : (Bool) × (Int)) => match z with | (v1_8, v1_9) => Fm 79 3 [(0, sl 2 GateTeam.c x0), (1, sl 4 GateRule.c x1), (5, .bp 2 0), (7, .int .i64 v0_7), (8, .bool v1_8), (9, .int .i64 v1_9)] [(2, .box [sl 1 cI64 x2.Verbs, .str x2.Kind, .str x2.Team, .str x2.Prefix])]) (f := fun k (z : (Bool) × (Int)) => match z with | (v1_8, v1_9) => spec_l4Lacks.l1 x1 v0_7 x2 x0 k v1_8 v1_9) ?_ (fun _ => rfl) k0 (false, 0) h
    clear h
    rintro k1 ⟨v1_8, v1_9⟩ ih1 h
    replace h : (spec_l4Lacks.l1 x1 v0_7 x2 x0 (k1 + 1) v1_8 v1_9).bind _ = some _ := h
    rw [spec_l4Lacks.l1] at h
    refine aloop_r ?_
    refine awp_seq ?_
    refine seq_reg (by kernel_rfl) ?_
    refine awp_cond (b := (decide (v1_9 < (x1.length : Int)))) (by kernel_rfl) (fun hb => ?_) (fun hb => ?_)
    · replace h := bif_p hb h
      refine awp_skip ?_
      refine awp_seq ?_
      refine awp_block ?_
      obtain ⟨o8_2_0, h⟩ := bif_s h
      refine seq_region [] [] [(0 : Int) ≤ v1_9 ∧ v1_9 < (x1.length : Int)] (by kernel_rfl) ⟨o8_2_0, trivial⟩ trivial ?_
      obtain ⟨o9_4_0, h⟩ := bif_s h
      obtain ⟨r9_6, hr9_6, h⟩ := bbind_s h
      rcases Bool.eq_false_or_eq_true r9_6 with d9_7 | d9_7
      · replace h := bif_t d9_7 h
        rcases Bool.eq_false_or_eq_true ((x1.getD v1_9.toNat default).Kind == []) with d9_11 | d9_11
        · replace h := bif_t d9_11 h
          rcases Bool.eq_false_or_eq_true ((x1.getD v1_9.toNat default).Team == []) with d9_23 | d9_23
          · replace h := bif_t d9_23 h
            obtain ⟨r9_42, hr9_42, h⟩ := bbind_s h
            refine seq_draw hmix #[0, 0, 2, 0, 14, 30, 63, 127, 255, 511, 1023, 2047, 4095, 8191, 4095, 20479, 65535, 131071, 262143, 524287, 1048575, 2097151, 4194303, 8388607, 16777215, 33554431, 67108863, 134217727, 268435455, 268435455, 805306367, 268435455, 2415919103, 8589934591, 17179869183, 34359738367, 68719476735, 137438953471, 274877906943, 549755813887, 274877906943, 1374389534719, 4398046511103, 8796093022207] [] [(35, true), (39, true), (51, true)] [⟨69, [.agg (GateRule.c (x1.getD v1_9.toNat default)), .int .i64 (x2.Verbs.getD v0_7.toNat default)], [], .bool r9_6, [], 4, 0⟩, ⟨70, [.str x2.Prefix, .str (x1.getD v1_9.toNat default).Prefix], [], .bool r9_42, [], 4, 0⟩] [(0 : Int) ≤ v0_7 ∧ v0_7 < (x2.Verbs.length : Int), same [.agg (GateRule.c (x1.getD v1_9.toNat default)), .int .i64 (x2.Verbs.getD v0_7.toNat default)], r9_6 = true, ((x1.getD v1_9.toNat default).Kind == []) = true, ((x1.getD v1_9.toNat default).Team == []) = true, same [.str x2.Prefix, .str (x1.getD v1_9.toNat default).Prefix]] (by kernel_rfl) ⟨o9_4_0, rfl, d9_7, d9_11, d9_23, rfl, trivial⟩ ⟨spec_l4Verb.calls _ _ _ _ hr9_6, spec_l4Begins.calls _ _ _ _ hr9_42, trivial⟩ ?_
            refine awp_cond (b := r9_42) (by kernel_rfl) (fun hb => ?_) (fun hb => ?_)
            · replace h := bif_t hb h
              refine awp_reg (by kernel_rfl) ?_
              refine awp_reg (by kernel_rfl) ?_
              exact ⟨_, _, [(0, sl 2 GateTeam.c x0), (1, sl 4 GateRule.c x1), (5, .bp 2 0), (7, .int .i64 v0_7), (8, .bool true), (9, .int .i64 (wr .i64 (v1_9 + 1)))], [(2, .box [sl 1 cI64 x2.Verbs, .str x2.Kind, .str x2.Team, .str x2.Prefix])], [(2, 2)], ⟨by kernel_rfl, by kernel_rfl, (or_box (by kernel_rfl) (by kernel_rfl) trivial)⟩, ih1 (true, (wr .i64 (v1_9 + 1))) h⟩
            · replace h := bif_f hb h
              refine awp_skip ?_
              refine awp_reg (by kernel_rfl) ?_
              exact ⟨_, _, [(0, sl 2 GateTeam.c x0), (1, sl 4 GateRule.c x1), (5, .bp 2 0), (7, .int .i64 v0_7), (8, .bool v1_8), (9, .int .i64 (wr .i64 (v1_9 + 1)))], [(2, .box [sl 1 cI64 x2.Verbs, .str x2.Kind, .str x2.Team, .str x2.Prefix])], [(2, 2)], ⟨by kernel_rfl, by kernel_rfl, (or_box (by kernel_rfl) (by kernel_rfl) trivial)⟩, ih1 (v1_8, (wr .i64 (v1_9 + 1))) h⟩
          · replace h := bif_f d9_23 h
            rcases Bool.eq_false_or_eq_true (!(x2.Team == [])) with d9_27 | d9_27
            · replace h := bif_t d9_27 h
              obtain ⟨r9_33, hr9_33, h⟩ := bbind_s h
              rcases Bool.eq_false_or_eq_true r9_33 with d9_37 | d9_37
              · replace h := bif_t d9_37 h
                obtain ⟨r9_42, hr9_42, h⟩ := bbind_s h
                refine seq_draw hmix #[0, 0, 2, 0, 14, 30, 63, 127, 255, 511, 1023, 2047, 4095, 8191, 4095, 20479, 65535, 131071, 262143, 524287, 1048575, 2097151, 4194303, 8388607, 16777215, 33554431, 67108863, 134217727, 268435455, 268435455, 805306367, 268435455, 2415919103, 8589934591, 17179869183, 34359738367, 68719476735, 137438953471, 274877906943, 549755813887, 274877906943, 1374389534719, 4398046511103, 8796093022207] [] [(35, true), (39, true), (51, false), (55, true), (65, true)] [⟨69, [.agg (GateRule.c (x1.getD v1_9.toNat default)), .int .i64 (x2.Verbs.getD v0_7.toNat default)], [], .bool r9_6, [], 4, 0⟩, ⟨57, [sl 2 GateTeam.c x0, .str x2.Team, .str (x1.getD v1_9.toNat default).Team], [], .bool r9_33, [], 4, 0⟩, ⟨70, [.str x2.Prefix, .str (x1.getD v1_9.toNat default).Prefix], [], .bool r9_42, [], 4, 0⟩] [(0 : Int) ≤ v0_7 ∧ v0_7 < (x2.Verbs.length : Int), same [.agg (GateRule.c (x1.getD v1_9.toNat default)), .int .i64 (x2.Verbs.getD v0_7.toNat default)], r9_6 = true, ((x1.getD v1_9.toNat default).Kind == []) = true, ((x1.getD v1_9.toNat default).Team == []) = false, (!(x2.Team == [])) = true, same [sl 2 GateTeam.c x0, .str x2.Team, .str (x1.getD v1_9.toNat default).Team], r9_33 = true, same [.str x2.Prefix, .str (x1.getD v1_9.toNat default).Prefix]] (by kernel_rfl) ⟨o9_4_0, rfl, d9_7, d9_11, d9_23, d9_27, rfl, d9_37, rfl, trivial⟩ ⟨spec_l4Verb.calls _ _ _ _ hr9_6, spec_GateUnder.calls _ _ _ _ _ hr9_33, spec_l4Begins.calls _ _ _ _ hr9_42, trivial⟩ ?_
                refine awp_cond (b := r9_42) (by kernel_rfl) (fun hb => ?_) (fun hb => ?_)
                · replace h := bif_t hb h
                  refine awp_reg (by kernel_rfl) ?_
                  refine awp_reg (by kernel_rfl) ?_
                  exact ⟨_, _, [(0, sl 2 GateTeam.c x0), (1, sl 4 GateRule.c x1), (5, .bp 2 0), (7, .int .i64 v0_7), (8, .bool true), (9, .int .i64 (wr .i64 (v1_9 + 1)))], [(2, .box [sl 1 cI64 x2.Verbs, .str x2.Kind, .str x2.Team, .str x2.Prefix])], [(2, 2)], ⟨by kernel_rfl, by kernel_rfl, (or_box (by kernel_rfl) (by kernel_rfl) trivial)⟩, ih1 (true, (wr .i64 (v1_9 + 1))) h⟩
                · replace h := bif_f hb h
                  refine awp_skip ?_
                  refine awp_reg (by kernel_rfl) ?_
                  exact ⟨_, _, [(0, sl 2 GateTeam.c x0), (1, sl 4 GateRule.c x1), (5, .bp 2 0), (7, .int .i64 v0_7), (8, .bool v1_8), (9, .int .i64 (wr .i64 (v1_9 + 1)))], [(2, .box [sl 1 cI64 x2.Verbs, .str x2.Kind, .str x2.Team, .str x2.Prefix])], [(2, 2)], ⟨by kernel_rfl, by kernel_rfl, (or_box (by kernel_rfl) (by kernel_rfl) trivial)⟩, ih1 (v1_8, (wr .i64 (v1_9 + 1))) h⟩
              · replace h := bif_f d9_37 h
                refine seq_draw hmix #[0, 0, 2, 0, 14, 30, 63, 127, 255, 511, 1023, 2047, 4095, 8191, 4095, 20479, 65535, 131071, 262143, 524287, 1048575, 2097151, 4194303, 8388607, 16777215, 33554431, 67108863, 134217727, 268435455, 268435455, 805306367, 268435455, 2415919103, 8589934591, 17179869183, 34359738367, 68719476735, 137438953471, 274877906943, 549755813887, 274877906943, 1374389534719, 4398046511103, 8796093022207] [] [(35, true), (39, true), (51, false), (55, true), (65, false)] [⟨69, [.agg (GateRule.c (x1.getD v1_9.toNat default)), .int .i64 (x2.Verbs.getD v0_7.toNat default)], [], .bool r9_6, [], 4, 0⟩, ⟨57, [sl 2 GateTeam.c x0, .str x2.Team, .str (x1.getD v1_9.toNat default).Team], [], .bool r9_33, [], 4, 0⟩] [(0 : Int) ≤ v0_7 ∧ v0_7 < (x2.Verbs.length : Int), same [.agg (GateRule.c (x1.getD v1_9.toNat default)), .int .i64 (x2.Verbs.getD v0_7.toNat default)], r9_6 = true, ((x1.getD v1_9.toNat default).Kind == []) = true, ((x1.getD v1_9.toNat default).Team == []) = false, (!(x2.Team == [])) = true, same [sl 2 GateTeam.c x0, .str x2.Team, .str (x1.getD v1_9.toNat default).Team], r9_33 = false] (by kernel_rfl) ⟨o9_4_0, rfl, d9_7, d9_11, d9_23, d9_27, rfl, d9_37, trivial⟩ ⟨spec_l4Verb.calls _ _ _ _ hr9_6, spec_GateUnder.calls _ _ _ _ _ hr9_33, trivial⟩ ?_
                refine awp_cond_k (b := false) (by kernel_rfl) ?_
                refine awp_skip ?_
                refine awp_reg (by kernel_rfl) ?_
                exact ⟨_, _, [(0, sl 2 GateTeam.c x0), (1, sl 4 GateRule.c x1), (5, .bp 2 0), (7, .int .i64 v0_7), (8, .bool v1_8), (9, .int .i64 (wr .i64 (v1_9 + 1)))], [(2, .box [sl 1 cI64 x2.Verbs, .str x2.Kind, .str x2.Team, .str x2.Prefix])], [(2, 2)], ⟨by kernel_rfl, by kernel_rfl, (or_box (by kernel_rfl) (by kernel_rfl) trivial)⟩, ih1 (v1_8, (wr .i64 (v1_9 + 1))) h⟩
            · replace h := bif_f d9_27 h
              refine seq_draw hmix #[0, 0, 2, 0, 14, 30, 63, 127, 255, 511, 1023, 2047, 4095, 8191, 4095, 20479, 65535, 131071, 262143, 524287, 1048575, 2097151, 4194303, 8388607, 16777215, 33554431, 67108863, 134217727, 268435455, 268435455, 805306367, 268435455, 2415919103, 8589934591, 17179869183, 34359738367, 68719476735, 137438953471, 274877906943, 549755813887, 274877906943, 1374389534719, 4398046511103, 8796093022207] [] [(35, true), (39, true), (51, false), (55, false)] [⟨69, [.agg (GateRule.c (x1.getD v1_9.toNat default)), .int .i64 (x2.Verbs.getD v0_7.toNat default)], [], .bool r9_6, [], 4, 0⟩] [(0 : Int) ≤ v0_7 ∧ v0_7 < (x2.Verbs.length : Int), same [.agg (GateRule.c (x1.getD v1_9.toNat default)), .int .i64 (x2.Verbs.getD v0_7.toNat default)], r9_6 = true, ((x1.getD v1_9.toNat default).Kind == []) = true, ((x1.getD v1_9.toNat default).Team == []) = false, (!(x2.Team == [])) = false] (by kernel_rfl) ⟨o9_4_0, rfl, d9_7, d9_11, d9_23, d9_27, trivial⟩ ⟨spec_l4Verb.calls _ _ _ _ hr9_6, trivial⟩ ?_
              refine awp_cond_k (b := false) (by kernel_rfl) ?_
              refine awp_skip ?_
              refine awp_reg (by kernel_rfl) ?_
              exact ⟨_, _, [(0, sl 2 GateTeam.c x0), (1, sl 4 GateRule.c x1), (5, .bp 2 0), (7, .int .i64 v0_7), (8, .bool v1_8), (9, .int .i64 (wr .i64 (v1_9 + 1)))], [(2, .box [sl 1 cI64 x2.Verbs, .str x2.Kind, .str x2.Team, .str x2.Prefix])], [(2, 2)], ⟨by kernel_rfl, by kernel_rfl, (or_box (by kernel_rfl) (by kernel_rfl) trivial)⟩, ih1 (v1_8, (wr .i64 (v1_9 + 1))) h⟩
        · replace h := bif_f d9_11 h
          rcases Bool.eq_false_or_eq_true ((x1.getD v1_9.toNat default).Kind == x2.Kind) with d9_19 | d9_19
          · replace h := bif_t d9_19 h
            rcases Bool.eq_false_or_eq_true ((x1.getD v1_9.toNat default).Team == []) with d9_23 | d9_23
            · replace h := bif_t d9_23 h
              obtain ⟨r9_42, hr9_42, h⟩ := bbind_s h
              refine seq_draw hmix #[0, 0, 2, 0, 14, 30, 63, 127, 255, 511, 1023, 2047, 4095, 8191, 4095, 20479, 65535, 131071, 262143, 524287, 1048575, 2097151, 4194303, 8388607, 16777215, 33554431, 67108863, 134217727, 268435455, 268435455, 805306367, 268435455, 2415919103, 8589934591, 17179869183, 34359738367, 68719476735, 137438953471, 274877906943, 549755813887, 274877906943, 1374389534719, 4398046511103, 8796093022207] [] [(35, true), (39, false), (47, true), (51, true)] [⟨69, [.agg (GateRule.c (x1.getD v1_9.toNat default)), .int .i64 (x2.Verbs.getD v0_7.toNat default)], [], .bool r9_6, [], 4, 0⟩, ⟨70, [.str x2.Prefix, .str (x1.getD v1_9.toNat default).Prefix], [], .bool r9_42, [], 4, 0⟩] [(0 : Int) ≤ v0_7 ∧ v0_7 < (x2.Verbs.length : Int), same [.agg (GateRule.c (x1.getD v1_9.toNat default)), .int .i64 (x2.Verbs.getD v0_7.toNat default)], r9_6 = true, ((x1.getD v1_9.toNat default).Kind == []) = false, ((x1.getD v1_9.toNat default).Kind == x2.Kind) = true, ((x1.getD v1_9.toNat default).Team == []) = true, same [.str x2.Prefix, .str (x1.getD v1_9.toNat default).Prefix]] (by kernel_rfl) ⟨o9_4_0, rfl, d9_7, d9_11, d9_19, d9_23, rfl, trivial⟩ ⟨spec_l4Verb.calls _ _ _ _ hr9_6, spec_l4Begins.calls _ _ _ _ hr9_42, trivial⟩ ?_
              refine awp_cond (b := r9_42) (by kernel_rfl) (fun hb => ?_) (fun hb => ?_)
              · replace h := bif_t hb h
                refine awp_reg (by kernel_rfl) ?_
                refine awp_reg (by kernel_rfl) ?_
                exact ⟨_, _, [(0, sl 2 GateTeam.c x0), (1, sl 4 GateRule.c x1), (5, .bp 2 0), (7, .int .i64 v0_7), (8, .bool true), (9, .int .i64 (wr .i64 (v1_9 + 1)))], [(2, .box [sl 1 cI64 x2.Verbs, .str x2.Kind, .str x2.Team, .str x2.Prefix])], [(2, 2)], ⟨by kernel_rfl, by kernel_rfl, (or_box (by kernel_rfl) (by kernel_rfl) trivial)⟩, ih1 (true, (wr .i64 (v1_9 + 1))) h⟩
              · replace h := bif_f hb h
                refine awp_skip ?_
                refine awp_reg (by kernel_rfl) ?_
                exact ⟨_, _, [(0, sl 2 GateTeam.c x0), (1, sl 4 GateRule.c x1), (5, .bp 2 0), (7, .int .i64 v0_7), (8, .bool v1_8), (9, .int .i64 (wr .i64 (v1_9 + 1)))], [(2, .box [sl 1 cI64 x2.Verbs, .str x2.Kind, .str x2.Team, .str x2.Prefix])], [(2, 2)], ⟨by kernel_rfl, by kernel_rfl, (or_box (by kernel_rfl) (by kernel_rfl) trivial)⟩, ih1 (v1_8, (wr .i64 (v1_9 + 1))) h⟩
            · replace h := bif_f d9_23 h
              rcases Bool.eq_false_or_eq_true (!(x2.Team == [])) with d9_27 | d9_27
              · replace h := bif_t d9_27 h
                obtain ⟨r9_33, hr9_33, h⟩ := bbind_s h
                rcases Bool.eq_false_or_eq_true r9_33 with d9_37 | d9_37
                · replace h := bif_t d9_37 h
                  obtain ⟨r9_42, hr9_42, h⟩ := bbind_s h
                  refine seq_draw hmix #[0, 0, 2, 0, 14, 30, 63, 127, 255, 511, 1023, 2047, 4095, 8191, 4095, 20479, 65535, 131071, 262143, 524287, 1048575, 2097151, 4194303, 8388607, 16777215, 33554431, 67108863, 134217727, 268435455, 268435455, 805306367, 268435455, 2415919103, 8589934591, 17179869183, 34359738367, 68719476735, 137438953471, 274877906943, 549755813887, 274877906943, 1374389534719, 4398046511103, 8796093022207] [] [(35, true), (39, false), (47, true), (51, false), (55, true), (65, true)] [⟨69, [.agg (GateRule.c (x1.getD v1_9.toNat default)), .int .i64 (x2.Verbs.getD v0_7.toNat default)], [], .bool r9_6, [], 4, 0⟩, ⟨57, [sl 2 GateTeam.c x0, .str x2.Team, .str (x1.getD v1_9.toNat default).Team], [], .bool r9_33, [], 4, 0⟩, ⟨70, [.str x2.Prefix, .str (x1.getD v1_9.toNat default).Prefix], [], .bool r9_42, [], 4, 0⟩] [(0 : Int) ≤ v0_7 ∧ v0_7 < (x2.Verbs.length : Int), same [.agg (GateRule.c (x1.getD v1_9.toNat default)), .int .i64 (x2.Verbs.getD v0_7.toNat default)], r9_6 = true, ((x1.getD v1_9.toNat default).Kind == []) = false, ((x1.getD v1_9.toNat default).Kind == x2.Kind) = true, ((x1.getD v1_9.toNat default).Team == []) = false, (!(x2.Team == [])) = true, same [sl 2 GateTeam.c x0, .str x2.Team, .str (x1.getD v1_9.toNat default).Team], r9_33 = true, same [.str x2.Prefix, .str (x1.getD v1_9.toNat default).Prefix]] (by kernel_rfl) ⟨o9_4_0, rfl, d9_7, d9_11, d9_19, d9_23, d9_27, rfl, d9_37, rfl, trivial⟩ ⟨spec_l4Verb.calls _ _ _ _ hr9_6, spec_GateUnder.calls _ _ _ _ _ hr9_33, spec_l4Begins.calls _ _ _ _ hr9_42, trivial⟩ ?_
                  refine awp_cond (b := r9_42) (by kernel_rfl) (fun hb => ?_) (fun hb => ?_)
                  · replace h := bif_t hb h
                    refine awp_reg (by kernel_rfl) ?_
                    refine awp_reg (by kernel_rfl) ?_
                    exact ⟨_, _, [(0, sl 2 GateTeam.c x0), (1, sl 4 GateRule.c x1), (5, .bp 2 0), (7, .int .i64 v0_7), (8, .bool true), (9, .int .i64 (wr .i64 (v1_9 + 1)))], [(2, .box [sl 1 cI64 x2.Verbs, .str x2.Kind, .str x2.Team, .str x2.Prefix])], [(2, 2)], ⟨by kernel_rfl, by kernel_rfl, (or_box (by kernel_rfl) (by kernel_rfl) trivial)⟩, ih1 (true, (wr .i64 (v1_9 + 1))) h⟩
                  · replace h := bif_f hb h
                    refine awp_skip ?_
                    refine awp_reg (by kernel_rfl) ?_
                    exact ⟨_, _, [(0, sl 2 GateTeam.c x0), (1, sl 4 GateRule.c x1), (5, .bp 2 0), (7, .int .i64 v0_7), (8, .bool v1_8), (9, .int .i64 (wr .i64 (v1_9 + 1)))], [(2, .box [sl 1 cI64 x2.Verbs, .str x2.Kind, .str x2.Team, .str x2.Prefix])], [(2, 2)], ⟨by kernel_rfl, by kernel_rfl, (or_box (by kernel_rfl) (by kernel_rfl) trivial)⟩, ih1 (v1_8, (wr .i64 (v1_9 + 1))) h⟩
                · replace h := bif_f d9_37 h
                  refine seq_draw hmix #[0, 0, 2, 0, 14, 30, 63, 127, 255, 511, 1023, 2047, 4095, 8191, 4095, 20479, 65535, 131071, 262143, 524287, 1048575, 2097151, 4194303, 8388607, 16777215, 33554431, 67108863, 134217727, 268435455, 268435455, 805306367, 268435455, 2415919103, 8589934591, 17179869183, 34359738367, 68719476735, 137438953471, 274877906943, 549755813887, 274877906943, 1374389534719, 4398046511103, 8796093022207] [] [(35, true), (39, false), (47, true), (51, false), (55, true), (65, false)] [⟨69, [.agg (GateRule.c (x1.getD v1_9.toNat default)), .int .i64 (x2.Verbs.getD v0_7.toNat default)], [], .bool r9_6, [], 4, 0⟩, ⟨57, [sl 2 GateTeam.c x0, .str x2.Team, .str (x1.getD v1_9.toNat default).Team], [], .bool r9_33, [], 4, 0⟩] [(0 : Int) ≤ v0_7 ∧ v0_7 < (x2.Verbs.length : Int), same [.agg (GateRule.c (x1.getD v1_9.toNat default)), .int .i64 (x2.Verbs.getD v0_7.toNat default)], r9_6 = true, ((x1.getD v1_9.toNat default).Kind == []) = false, ((x1.getD v1_9.toNat default).Kind == x2.Kind) = true, ((x1.getD v1_9.toNat default).Team == []) = false, (!(x2.Team == [])) = true, same [sl 2 GateTeam.c x0, .str x2.Team, .str (x1.getD v1_9.toNat default).Team], r9_33 = false] (by kernel_rfl) ⟨o9_4_0, rfl, d9_7, d9_11, d9_19, d9_23, d9_27, rfl, d9_37, trivial⟩ ⟨spec_l4Verb.calls _ _ _ _ hr9_6, spec_GateUnder.calls _ _ _ _ _ hr9_33, trivial⟩ ?_
                  refine awp_cond_k (b := false) (by kernel_rfl) ?_
                  refine awp_skip ?_
                  refine awp_reg (by kernel_rfl) ?_
                  exact ⟨_, _, [(0, sl 2 GateTeam.c x0), (1, sl 4 GateRule.c x1), (5, .bp 2 0), (7, .int .i64 v0_7), (8, .bool v1_8), (9, .int .i64 (wr .i64 (v1_9 + 1)))], [(2, .box [sl 1 cI64 x2.Verbs, .str x2.Kind, .str x2.Team, .str x2.Prefix])], [(2, 2)], ⟨by kernel_rfl, by kernel_rfl, (or_box (by kernel_rfl) (by kernel_rfl) trivial)⟩, ih1 (v1_8, (wr .i64 (v1_9 + 1))) h⟩
              · replace h := bif_f d9_27 h
                refine seq_draw hmix #[0, 0, 2, 0, 14, 30, 63, 127, 255, 511, 1023, 2047, 4095, 8191, 4095, 20479, 65535, 131071, 262143, 524287, 1048575, 2097151, 4194303, 8388607, 16777215, 33554431, 67108863, 134217727, 268435455, 268435455, 805306367, 268435455, 2415919103, 8589934591, 17179869183, 34359738367, 68719476735, 137438953471, 274877906943, 549755813887, 274877906943, 1374389534719, 4398046511103, 8796093022207] [] [(35, true), (39, false), (47, true), (51, false), (55, false)] [⟨69, [.agg (GateRule.c (x1.getD v1_9.toNat default)), .int .i64 (x2.Verbs.getD v0_7.toNat default)], [], .bool r9_6, [], 4, 0⟩] [(0 : Int) ≤ v0_7 ∧ v0_7 < (x2.Verbs.length : Int), same [.agg (GateRule.c (x1.getD v1_9.toNat default)), .int .i64 (x2.Verbs.getD v0_7.toNat default)], r9_6 = true, ((x1.getD v1_9.toNat default).Kind == []) = false, ((x1.getD v1_9.toNat default).Kind == x2.Kind) = true, ((x1.getD v1_9.toNat default).Team == []) = false, (!(x2.Team == [])) = false] (by kernel_rfl) ⟨o9_4_0, rfl, d9_7, d9_11, d9_19, d9_23, d9_27, trivial⟩ ⟨spec_l4Verb.calls _ _ _ _ hr9_6, trivial⟩ ?_
                refine awp_cond_k (b := false) (by kernel_rfl) ?_
                refine awp_skip ?_
                refine awp_reg (by kernel_rfl) ?_
                exact ⟨_, _, [(0, sl 2 GateTeam.c x0), (1, sl 4 GateRule.c x1), (5, .bp 2 0), (7, .int .i64 v0_7), (8, .bool v1_8), (9, .int .i64 (wr .i64 (v1_9 + 1)))], [(2, .box [sl 1 cI64 x2.Verbs, .str x2.Kind, .str x2.Team, .str x2.Prefix])], [(2, 2)], ⟨by kernel_rfl, by kernel_rfl, (or_box (by kernel_rfl) (by kernel_rfl) trivial)⟩, ih1 (v1_8, (wr .i64 (v1_9 + 1))) h⟩
          · replace h := bif_f d9_19 h
            refine seq_draw hmix #[0, 0, 2, 0, 14, 30, 63, 127, 255, 511, 1023, 2047, 4095, 8191, 4095, 20479, 65535, 131071, 262143, 524287, 1048575, 2097151, 4194303, 8388607, 16777215, 33554431, 67108863, 134217727, 268435455, 268435455, 805306367, 268435455, 2415919103, 8589934591, 17179869183, 34359738367, 68719476735, 137438953471, 274877906943, 549755813887, 274877906943, 1374389534719, 4398046511103, 8796093022207] [] [(35, true), (39, false), (47, false)] [⟨69, [.agg (GateRule.c (x1.getD v1_9.toNat default)), .int .i64 (x2.Verbs.getD v0_7.toNat default)], [], .bool r9_6, [], 4, 0⟩] [(0 : Int) ≤ v0_7 ∧ v0_7 < (x2.Verbs.length : Int), same [.agg (GateRule.c (x1.getD v1_9.toNat default)), .int .i64 (x2.Verbs.getD v0_7.toNat default)], r9_6 = true, ((x1.getD v1_9.toNat default).Kind == []) = false, ((x1.getD v1_9.toNat default).Kind == x2.Kind) = false] (by kernel_rfl) ⟨o9_4_0, rfl, d9_7, d9_11, d9_19, trivial⟩ ⟨spec_l4Verb.calls _ _ _ _ hr9_6, trivial⟩ ?_
            refine awp_cond_k (b := false) (by kernel_rfl) ?_
            refine awp_skip ?_
            refine awp_reg (by kernel_rfl) ?_
            exact ⟨_, _, [(0, sl 2 GateTeam.c x0), (1, sl 4 GateRule.c x1), (5, .bp 2 0), (7, .int .i64 v0_7), (8, .bool v1_8), (9, .int .i64 (wr .i64 (v1_9 + 1)))], [(2, .box [sl 1 cI64 x2.Verbs, .str x2.Kind, .str x2.Team, .str x2.Prefix])], [(2, 2)], ⟨by kernel_rfl, by kernel_rfl, (or_box (by kernel_rfl) (by kernel_rfl) trivial)⟩, ih1 (v1_8, (wr .i64 (v1_9 + 1))) h⟩
      · replace h := bif_f d9_7 h
        refine seq_draw hmix #[0, 0, 2, 0, 14, 30, 63, 127, 255, 511, 1023, 2047, 4095, 8191, 4095, 20479, 65535, 131071, 262143, 524287, 1048575, 2097151, 4194303, 8388607, 16777215, 33554431, 67108863, 134217727, 268435455, 268435455, 805306367, 268435455, 2415919103, 8589934591, 17179869183, 34359738367, 68719476735, 137438953471, 274877906943, 549755813887, 274877906943, 1374389534719, 4398046511103, 8796093022207] [] [(35, false)] [⟨69, [.agg (GateRule.c (x1.getD v1_9.toNat default)), .int .i64 (x2.Verbs.getD v0_7.toNat default)], [], .bool r9_6, [], 4, 0⟩] [(0 : Int) ≤ v0_7 ∧ v0_7 < (x2.Verbs.length : Int), same [.agg (GateRule.c (x1.getD v1_9.toNat default)), .int .i64 (x2.Verbs.getD v0_7.toNat default)], r9_6 = false] (by kernel_rfl) ⟨o9_4_0, rfl, d9_7, trivial⟩ ⟨spec_l4Verb.calls _ _ _ _ hr9_6, trivial⟩ ?_
        refine awp_cond_k (b := false) (by kernel_rfl) ?_
        refine awp_skip ?_
        refine awp_reg (by kernel_rfl) ?_
        exact ⟨_, _, [(0, sl 2 GateTeam.c x0), (1, sl 4 GateRule.c x1), (5, .bp 2 0), (7, .int .i64 v0_7), (8, .bool v1_8), (9, .int .i64 (wr .i64 (v1_9 + 1)))], [(2, .box [sl 1 cI64 x2.Verbs, .str x2.Kind, .str x2.Team, .str x2.Prefix])], [(2, 2)], ⟨by kernel_rfl, by kernel_rfl, (or_box (by kernel_rfl) (by kernel_rfl) trivial)⟩, ih1 (v1_8, (wr .i64 (v1_9 + 1))) h⟩
    · replace h := bif_n hb h
      refine awp_exit ?_
      replace h := bsome h
      refine seq_reg (by kernel_rfl) ?_
      refine awp_cond (b := (!v1_8)) (by kernel_rfl) (fun hb => ?_) (fun hb => ?_)
      · replace h := bif_t hb h
        obtain ⟨o12_3_0, h⟩ := bif_s h
        refine seq_region [] [] [(0 : Int) ≤ v0_7 ∧ v0_7 < (x2.Verbs.length : Int)] (by kernel_rfl) ⟨o12_3_0, trivial⟩ trivial ?_
        obtain rfl := Option.some.inj h
        exact awp_ret (fin_ob [] (by kernel_rfl) trivial)
      · replace h := bif_f hb h
        refine awp_skip ?_
        refine awp_reg (by kernel_rfl) ?_
        exact ⟨_, _, [(0, sl 2 GateTeam.c x0), (1, sl 4 GateRule.c x1), (5, .bp 1 0), (7, .int .i64 (wr .i64 (v0_7 + 1)))], [(1, .box [sl 1 cI64 x2.Verbs, .str x2.Kind, .str x2.Team, .str x2.Prefix])], [(1, 2)], ⟨by kernel_rfl, by kernel_rfl, (or_box (by kernel_rfl) (by kernel_rfl) trivial)⟩, ih0 (wr .i64 (v0_7 + 1)) h⟩
  · replace h := bif_n hb h
    refine awp_exit ?_
    replace h := bsome h
    refine seq_reg (by kernel_rfl) ?_
    obtain rfl := Option.some.inj h
    exact awp_ret (fin_ob [] (by kernel_rfl) trivial)

theorem spec_GateCovers.calls (k : Nat) (x0 : List (GateTeam)) (x1 : List (GateRule)) (x2 : GateRule) (r : Bool) (h : spec_GateCovers k x0 x1 x2 = some r) : PC Try.prog 9 [sl 2 GateTeam.c x0, sl 4 GateRule.c x1, .agg (GateRule.c x2)] (.bool r) := by
  unfold spec_GateCovers at h
  refine pc_intro (fn := Try.f9) Try.call9 Try.func9 rfl (Nat.le_of_ble_eq_true rfl) rfl rfl ?_
  refine seq_reg (by kernel_rfl) ?_
  obtain ⟨r1_3, hr1_3, h⟩ := bind_s h
  rcases Bool.eq_false_or_eq_true r1_3 with d1_4 | d1_4
  · replace h := if_t d1_4 h
    obtain ⟨r1_8, hr1_8, h⟩ := bind_s h
    refine seq_region [(11, true)] [⟨32, [sl 2 GateTeam.c x0, sl 4 GateRule.c x1, .agg (GateRule.c x2)], [], .bool r1_3, [], 1, 0⟩, ⟨33, [sl 2 GateTeam.c x0, sl 4 GateRule.c x1, .agg (GateRule.c x2)], [], .int .i64 r1_8, [], 1, 0⟩] [same [sl 2 GateTeam.c x0, sl 4 GateRule.c x1, .agg (GateRule.c x2)], r1_3 = true, same [sl 2 GateTeam.c x0, sl 4 GateRule.c x1, .agg (GateRule.c x2)]] (by kernel_rfl) ⟨rfl, d1_4, rfl, trivial⟩ ⟨spec_l4AllOk.calls _ _ _ _ _ hr1_3, spec_l4Lacks.calls _ _ _ _ _ hr1_8, trivial⟩ ?_
    obtain rfl := Option.some.inj h
    exact awp_ret (fin_ob [] (by kernel_rfl) trivial)
  · replace h := if_f d1_4 h
    refine seq_region [(11, false)] [⟨32, [sl 2 GateTeam.c x0, sl 4 GateRule.c x1, .agg (GateRule.c x2)], [], .bool r1_3, [], 1, 0⟩] [same [sl 2 GateTeam.c x0, sl 4 GateRule.c x1, .agg (GateRule.c x2)], r1_3 = false] (by kernel_rfl) ⟨rfl, d1_4, trivial⟩ ⟨spec_l4AllOk.calls _ _ _ _ _ hr1_3, trivial⟩ ?_
    obtain rfl := Option.some.inj h
    exact awp_ret (fin_ob [] (by kernel_rfl) trivial)

theorem impl_nameByte.calls (k : Nat) (x0 : Int) (r : Bool) (h : impl_nameByte k x0 = some r) : PC Try.prog 105 [.int .u8 x0] (.bool r) := by
  unfold impl_nameByte at h
  refine pc_intro (fn := Try.f105) Try.call105 Try.func105 rfl (Nat.le_of_ble_eq_true rfl) rfl rfl ?_
  refine seq_reg (by kernel_rfl) ?_
  rcases Bool.eq_false_or_eq_true (decide (x0 ≥ 97)) with d1_2 | d1_2
  · replace h := if_p d1_2 h
    rcases Bool.eq_false_or_eq_true (decide (x0 ≤ 122)) with d1_6 | d1_6
    · replace h := if_p d1_6 h
      refine seq_region [(5, true), (9, true)] [] [(decide (x0 ≥ 97)) = true, (decide (x0 ≤ 122)) = true] (by kernel_rfl) ⟨d1_2, d1_6, trivial⟩ trivial ?_
      obtain rfl := Option.some.inj h
      exact awp_ret (fin_ob [] (by kernel_rfl) trivial)
    · replace h := if_n d1_6 h
      rcases Bool.eq_false_or_eq_true (decide (x0 ≥ 48)) with d1_9 | d1_9
      · replace h := if_p d1_9 h
        rcases Bool.eq_false_or_eq_true (decide (x0 ≤ 57)) with d1_14 | d1_14
        · replace h := if_p d1_14 h
          refine seq_region [(5, true), (9, false), (12, true), (17, true)] [] [(decide (x0 ≥ 97)) = true, (decide (x0 ≤ 122)) = false, (decide (x0 ≥ 48)) = true, (decide (x0 ≤ 57)) = true] (by kernel_rfl) ⟨d1_2, d1_6, d1_9, d1_14, trivial⟩ trivial ?_
          obtain rfl := Option.some.inj h
          exact awp_ret (fin_ob [] (by kernel_rfl) trivial)
        · replace h := if_n d1_14 h
          refine seq_region [(5, true), (9, false), (12, true), (17, false)] [] [(decide (x0 ≥ 97)) = true, (decide (x0 ≤ 122)) = false, (decide (x0 ≥ 48)) = true, (decide (x0 ≤ 57)) = false] (by kernel_rfl) ⟨d1_2, d1_6, d1_9, d1_14, trivial⟩ trivial ?_
          obtain rfl := Option.some.inj h
          exact awp_ret (fin_ob [] (by kernel_rfl) trivial)
      · replace h := if_n d1_9 h
        refine seq_region [(5, true), (9, false), (12, false)] [] [(decide (x0 ≥ 97)) = true, (decide (x0 ≤ 122)) = false, (decide (x0 ≥ 48)) = false] (by kernel_rfl) ⟨d1_2, d1_6, d1_9, trivial⟩ trivial ?_
        obtain rfl := Option.some.inj h
        exact awp_ret (fin_ob [] (by kernel_rfl) trivial)
  · replace h := if_n d1_2 h
    rcases Bool.eq_false_or_eq_true (decide (x0 ≥ 48)) with d1_9 | d1_9
    · replace h := if_p d1_9 h
      rcases Bool.eq_false_or_eq_true (decide (x0 ≤ 57)) with d1_14 | d1_14
      · replace h := if_p d1_14 h
        refine seq_region [(5, false), (12, true), (17, true)] [] [(decide (x0 ≥ 97)) = false, (decide (x0 ≥ 48)) = true, (decide (x0 ≤ 57)) = true] (by kernel_rfl) ⟨d1_2, d1_9, d1_14, trivial⟩ trivial ?_
        obtain rfl := Option.some.inj h
        exact awp_ret (fin_ob [] (by kernel_rfl) trivial)
      · replace h := if_n d1_14 h
        refine seq_region [(5, false), (12, true), (17, false)] [] [(decide (x0 ≥ 97)) = false, (decide (x0 ≥ 48)) = true, (decide (x0 ≤ 57)) = false] (by kernel_rfl) ⟨d1_2, d1_9, d1_14, trivial⟩ trivial ?_
        obtain rfl := Option.some.inj h
        exact awp_ret (fin_ob [] (by kernel_rfl) trivial)
    · replace h := if_n d1_9 h
      refine seq_region [(5, false), (12, false)] [] [(decide (x0 ≥ 97)) = false, (decide (x0 ≥ 48)) = false] (by kernel_rfl) ⟨d1_2, d1_9, trivial⟩ trivial ?_
      obtain rfl := Option.some.inj h
      exact awp_ret (fin_ob [] (by kernel_rfl) trivial)

theorem impl_nameBytes.calls (k : Nat) (x0 : List UInt8) (r : Bool) (h : impl_nameBytes k x0 = some r) : PC Try.prog 98 [.str x0] (.bool r) := by
  unfold impl_nameBytes at h
  refine pc_intro (fn := Try.f98) Try.call98 Try.func98 rfl (Nat.le_of_ble_eq_true rfl) rfl rfl ?_
  refine seq_reg (by kernel_rfl) ?_
  refine awp_seq ?_
  refine seq_reg (by kernel_rfl) ?_
  refine awp_block ?_
  refine awp_loop_r (nt := 15) (N := 0) (l := [(0, .str x0), (5, .int .i64 (x0.length : Int)), (6, .int .i64 0)]) (hs := []) (r := []) rfl ⟨by kernel_rfl, by kernel_rfl, trivial⟩ ?_
  refine loop_ind (fr := fun (v0_6 : (Int)) => Fm 15 0 [(0, .str x0), (5, .int .i64 (x0.length : Int)), (6, .int .i64 v0_6)] []) (f := fun k (z : (Int)) => match z with | v0_6 => impl_nameBytes.l0 x0 k v0_6) ?_ (fun _ => rfl) k 0 h
  clear h
  rintro k0 v0_6 ih0 h
  replace h : (impl_nameBytes.l0 x0 (k0 + 1) v0_6).bind _ = some _ := h
  rw [impl_nameBytes.l0] at h
  refine aloop_r ?_
  refine seq_reg (by kernel_rfl) ?_
  refine awp_seq ?_
  refine awp_cond (b := (decide (v0_6 < (x0.length : Int)))) (by kernel_rfl) (fun hb => ?_) (fun hb => ?_)
  · replace h := bif_p hb h
    refine awp_skip ?_
    refine awp_seq ?_
    refine awp_block ?_
    refine seq_reg (by kernel_rfl) ?_
    obtain ⟨o4_2_0, h⟩ := bif_s h
    obtain ⟨r4_3, hr4_3, h⟩ := bbind_s h
    refine seq_region [] [⟨105, [.int .u8 ((x0.getD v0_6.toNat 0).toNat : Int)], [], .bool r4_3, [], 0, 0⟩] [(0 : Int) ≤ v0_6 ∧ v0_6 < (x0.length : Int), same [.int .u8 ((x0.getD v0_6.toNat 0).toNat : Int)]] (by kernel_rfl) ⟨o4_2_0, rfl, trivial⟩ ⟨impl_nameByte.calls _ _ _ hr4_3, trivial⟩ ?_
    refine awp_cond (b := (!r4_3)) (by kernel_rfl) (fun hb => ?_) (fun hb => ?_)
    · replace h := bif_t hb h
      refine seq_reg (by kernel_rfl) ?_
      obtain rfl := Option.some.inj h
      exact awp_ret (fin_ob [] (by kernel_rfl) trivial)
    · replace h := bif_f hb h
      refine awp_skip ?_
      refine awp_reg (by kernel_rfl) ?_
      exact ⟨_, _, [(0, .str x0), (5, .int .i64 (x0.length : Int)), (6, .int .i64 (wr .i64 (v0_6 + 1)))], [], [], ⟨by kernel_rfl, by kernel_rfl, trivial⟩, ih0 (wr .i64 (v0_6 + 1)) h⟩
  · replace h := bif_n hb h
    refine awp_exit ?_
    replace h := bsome h
    refine seq_reg (by kernel_rfl) ?_
    obtain rfl := Option.some.inj h
    exact awp_ret (fin_ob [] (by kernel_rfl) trivial)

theorem impl_isName.calls (k : Nat) (x0 : List UInt8) (r : Bool) (h : impl_isName k x0 = some r) : PC Try.prog 97 [.str x0] (.bool r) := by
  unfold impl_isName at h
  refine pc_intro (fn := Try.f97) Try.call97 Try.func97 rfl (Nat.le_of_ble_eq_true rfl) rfl rfl ?_
  refine seq_reg (by kernel_rfl) ?_
  rcases Bool.eq_false_or_eq_true (decide ((x0.length : Int) ≥ 1)) with d1_3 | d1_3
  · replace h := if_p d1_3 h
    rcases Bool.eq_false_or_eq_true (decide ((x0.length : Int) ≤ 16)) with d1_8 | d1_8
    · replace h := if_p d1_8 h
      obtain ⟨r1_10, hr1_10, h⟩ := bind_s h
      refine seq_region [(6, true), (11, true)] [⟨98, [.str x0], [], .bool r1_10, [], 0, 0⟩] [(decide ((x0.length : Int) ≥ 1)) = true, (decide ((x0.length : Int) ≤ 16)) = true, same [.str x0]] (by kernel_rfl) ⟨d1_3, d1_8, rfl, trivial⟩ ⟨impl_nameBytes.calls _ _ _ hr1_10, trivial⟩ ?_
      obtain rfl := Option.some.inj h
      exact awp_ret (fin_ob [] (by kernel_rfl) trivial)
    · replace h := if_n d1_8 h
      refine seq_region [(6, true), (11, false)] [] [(decide ((x0.length : Int) ≥ 1)) = true, (decide ((x0.length : Int) ≤ 16)) = false] (by kernel_rfl) ⟨d1_3, d1_8, trivial⟩ trivial ?_
      obtain rfl := Option.some.inj h
      exact awp_ret (fin_ob [] (by kernel_rfl) trivial)
  · replace h := if_n d1_3 h
    refine seq_region [(6, false)] [] [(decide ((x0.length : Int) ≥ 1)) = false] (by kernel_rfl) ⟨d1_3, trivial⟩ trivial ?_
    obtain rfl := Option.some.inj h
    exact awp_ret (fin_ob [] (by kernel_rfl) trivial)

theorem impl_teamOf.calls (k : Nat) (x0 : List (GateTeam)) (x1 : List UInt8) (r : Int) (h : impl_teamOf k x0 x1 = some r) : PC Try.prog 90 [sl 2 GateTeam.c x0, .str x1] (.int .i64 r) := by
  unfold impl_teamOf at h
  refine pc_intro (fn := Try.f90) Try.call90 Try.func90 rfl (Nat.le_of_ble_eq_true rfl) rfl rfl ?_
  refine seq_reg (by kernel_rfl) ?_
  refine awp_seq ?_
  refine seq_reg (by kernel_rfl) ?_
  refine awp_block ?_
  refine awp_loop_r (nt := 20) (N := 0) (l := [(1, .str x1), (7, sl 2 GateTeam.c x0), (8, .int .i64 (x0.length : Int)), (9, .int .i64 0)]) (hs := []) (r := []) rfl ⟨by kernel_rfl, by kernel_rfl, trivial⟩ ?_
  refine loop_ind (fr := fun (v0_9 : (Int)) => Fm 20 0 [(1, .str x1), (7, sl 2 GateTeam.c x0), (8, .int .i64 (x0.length : Int)), (9, .int .i64 v0_9)] []) (f := fun k (z : (Int)) => match z with | v0_9 => impl_teamOf.l0 x0 x1 k v0_9) ?_ (fun _ => rfl) k 0 h
  clear h
  rintro k0 v0_9 ih0 h
  replace h : (impl_teamOf.l0 x0 x1 (k0 + 1) v0_9).bind _ = some _ := h
  rw [impl_teamOf.l0] at h
  refine aloop_r ?_
  refine seq_reg (by kernel_rfl) ?_
  refine awp_seq ?_
  refine awp_cond (b := (decide (v0_9 < (x0.length : Int)))) (by kernel_rfl) (fun hb => ?_) (fun hb => ?_)
  · replace h := bif_p hb h
    refine awp_skip ?_
    refine awp_seq ?_
    refine awp_block ?_
    obtain ⟨o3_1_0, h⟩ := bif_s h
    refine seq_region [] [] [(0 : Int) ≤ v0_9 ∧ v0_9 < (x0.length : Int)] (by kernel_rfl) ⟨o3_1_0, trivial⟩ trivial ?_
    refine seq_reg (by kernel_rfl) ?_
    refine awp_cond (b := ((x0.getD v0_9.toNat default).Name == x1)) (by kernel_rfl) (fun hb => ?_) (fun hb => ?_)
    · replace h := bif_t hb h
      refine seq_reg (by kernel_rfl) ?_
      obtain rfl := Option.some.inj h
      exact awp_ret (fin_ob [] (by kernel_rfl) trivial)
    · replace h := bif_f hb h
      refine awp_skip ?_
      refine awp_reg (by kernel_rfl) ?_
      exact ⟨_, _, [(1, .str x1), (7, sl 2 GateTeam.c x0), (8, .int .i64 (x0.length : Int)), (9, .int .i64 (wr .i64 (v0_9 + 1)))], [], [], ⟨by kernel_rfl, by kernel_rfl, trivial⟩, ih0 (wr .i64 (v0_9 + 1)) h⟩
  · replace h := bif_n hb h
    refine awp_exit ?_
    replace h := bsome h
    refine seq_reg (by kernel_rfl) ?_
    obtain rfl := Option.some.inj h
    exact awp_ret (fin_ob [] (by kernel_rfl) trivial)

theorem impl_GateTeamsOk.calls (k : Nat) (x0 : List (GateTeam)) (r : Bool) (h : impl_GateTeamsOk k x0 = some r) : PC Try.prog 71 [sl 2 GateTeam.c x0] (.bool r) := by
  unfold impl_GateTeamsOk at h
  refine pc_intro (fn := Try.f71) Try.call71 Try.func71 rfl (Nat.le_of_ble_eq_true rfl) rfl rfl ?_
  refine seq_reg (by kernel_rfl) ?_
  refine awp_seq ?_
  refine seq_reg (by kernel_rfl) ?_
  refine awp_cond (b := (decide ((x0.length : Int) > 12))) (by kernel_rfl) (fun hb => ?_) (fun hb => ?_)
  · replace h := if_p hb h
    refine seq_reg (by kernel_rfl) ?_
    obtain rfl := Option.some.inj h
    exact awp_ret (fin_ob [] (by kernel_rfl) trivial)
  · replace h := if_n hb h
    refine awp_skip ?_
    refine awp_seq ?_
    refine seq_reg (by kernel_rfl) ?_
    refine awp_block ?_
    refine awp_loop_r (nt := 73) (N := 0) (l := [(0, sl 2 GateTeam.c x0), (12, sl 2 GateTeam.c x0), (13, .int .i64 (x0.length : Int)), (14, .int .i64 0)]) (hs := []) (r := []) rfl ⟨by kernel_rfl, by kernel_rfl, trivial⟩ ?_
    refine loop_ind (fr := fun (v0_14 : (Int)) => Fm 73 0 [(0, sl 2 GateTeam.c x0), (12, sl 2 GateTeam.c x0), (13, .int .i64 (x0.length : Int)), (14, .int .i64 v0_14)] []) (f := fun k (z : (Int)) => match z with | v0_14 => impl_GateTeamsOk.l0 x0 k v0_14) ?_ (fun _ => rfl) k 0 h
    clear h
    rintro k0 v0_14 ih0 h
    replace h : (impl_GateTeamsOk.l0 x0 (k0 + 1) v0_14).bind _ = some _ := h
    rw [impl_GateTeamsOk.l0] at h
    refine aloop_r ?_
    refine seq_reg (by kernel_rfl) ?_
    refine awp_seq ?_
    refine awp_cond (b := (decide (v0_14 < (x0.length : Int)))) (by kernel_rfl) (fun hb => ?_) (fun hb => ?_)
    · replace h := bif_p hb h
      refine awp_skip ?_
      refine awp_seq ?_
      refine awp_block ?_
      obtain ⟨o5_1_0, h⟩ := bif_s h
      refine seq_region [] [] [(0 : Int) ≤ v0_14 ∧ v0_14 < (x0.length : Int)] (by kernel_rfl) ⟨o5_1_0, trivial⟩ trivial ?_
      obtain ⟨r6_2, hr6_2, h⟩ := bbind_s h
      rcases Bool.eq_false_or_eq_true (!r6_2) with d6_4 | d6_4
      · replace h := bif_t d6_4 h
        refine seq_draw hmix #[0, 1, 3, 7, 15, 31, 63, 127, 255, 255, 767, 2047, 4095, 8191, 255, 16639, 65535, 131071, 262143, 524287, 1048575, 2097151, 4194303, 8388607, 16777215, 16777215, 50331647, 134217727, 268435455, 536870911, 1073741823] [] [(23, true)] [⟨97, [.str (x0.getD v0_14.toNat default).Name], [], .bool r6_2, [], 1, 0⟩] [same [.str (x0.getD v0_14.toNat default).Name], (!r6_2) = true] (by kernel_rfl) ⟨rfl, d6_4, trivial⟩ ⟨impl_isName.calls _ _ _ hr6_2, trivial⟩ ?_
        refine awp_cond_k (b := true) (by kernel_rfl) ?_
        refine seq_reg (by kernel_rfl) ?_
        obtain rfl := Option.some.inj h
        exact awp_ret (fin_ob [] (by kernel_rfl) trivial)
      · replace h := bif_f d6_4 h
        rcases Bool.eq_false_or_eq_true (decide (v0_14 > 0)) with d6_7 | d6_7
        · replace h := bif_p d6_7 h
          obtain ⟨o6_11_0, h⟩ := bif_s h
          rcases Bool.eq_false_or_eq_true (!Op.bytesLess (x0.getD (wr .i64 (v0_14 - 1)).toNat default).Name (x0.getD v0_14.toNat default).Name) with d6_19 | d6_19
          · replace h := bif_t d6_19 h
            refine seq_draw hmix #[0, 1, 3, 7, 15, 31, 63, 127, 255, 255, 767, 2047, 4095, 8191, 255, 16639, 65535, 131071, 262143, 524287, 1048575, 2097151, 4194303, 8388607, 16777215, 16777215, 50331647, 134217727, 268435455, 536870911, 1073741823] [] [(23, false), (26, true), (38, true)] [⟨97, [.str (x0.getD v0_14.toNat default).Name], [], .bool r6_2, [], 1, 0⟩] [same [.str (x0.getD v0_14.toNat default).Name], (!r6_2) = false, (decide (v0_14 > 0)) = true, (0 : Int) ≤ (wr .i64 (v0_14 - 1)) ∧ (wr .i64 (v0_14 - 1)) < (x0.length : Int), (!Op.bytesLess (x0.getD (wr .i64 (v0_14 - 1)).toNat default).Name (x0.getD v0_14.toNat default).Name) = true] (by kernel_rfl) ⟨rfl, d6_4, d6_7, o6_11_0, d6_19, trivial⟩ ⟨impl_isName.calls _ _ _ hr6_2, trivial⟩ ?_
            refine awp_cond_k (b := true) (by kernel_rfl) ?_
            refine seq_reg (by kernel_rfl) ?_
            obtain rfl := Option.some.inj h
            exact awp_ret (fin_ob [] (by kernel_rfl) trivial)
          · replace h := bif_f d6_19 h
            rcases Bool.eq_false_or_eq_true (!((x0.getD v0_14.toNat default).Over == [])) with d6_23 | d6_23
            · replace h := bif_t d6_23 h
              obtain ⟨r6_27, hr6_27, h⟩ := bbind_s h
              refine seq_draw hmix #[0, 1, 3, 7, 15, 31, 63, 127, 255, 255, 767, 2047, 4095, 8191, 255, 16639, 65535, 131071, 262143, 524287, 1048575, 2097151, 4194303, 8388607, 16777215, 16777215, 50331647, 134217727, 268435455, 536870911, 1073741823] [] [(23, false), (26, true), (38, false), (42, true)] [⟨97, [.str (x0.getD v0_14.toNat default).Name], [], .bool r6_2, [], 1, 0⟩, ⟨90, [sl 2 GateTeam.c x0, .str (x0.getD v0_14.toNat default).Over], [], .int .i64 r6_27, [], 1, 0⟩] [same [.str (x0.getD v0_14.toNat default).Name], (!r6_2) = false, (decide (v0_14 > 0)) = true, (0 : Int) ≤ (wr .i64 (v0_14 - 1)) ∧ (wr .i64 (v0_14 - 1)) < (x0.length : Int), (!Op.bytesLess (x0.getD (wr .i64 (v0_14 - 1)).toNat default).Name (x0.getD v0_14.toNat default).Name) = false, (!((x0.getD v0_14.toNat default).Over == [])) = true, same [sl 2 GateTeam.c x0, .str (x0.getD v0_14.toNat default).Over]] (by kernel_rfl) ⟨rfl, d6_4, d6_7, o6_11_0, d6_19, d6_23, rfl, trivial⟩ ⟨impl_isName.calls _ _ _ hr6_2, impl_teamOf.calls _ _ _ _ hr6_27, trivial⟩ ?_
              refine awp_cond (b := (decide (r6_27 < 0))) (by kernel_rfl) (fun hb => ?_) (fun hb => ?_)
              · replace h := bif_p hb h
                refine seq_reg (by kernel_rfl) ?_
                obtain rfl := Option.some.inj h
                exact awp_ret (fin_ob [] (by kernel_rfl) trivial)
              · replace h := bif_n hb h
                refine awp_skip ?_
                refine awp_reg (by kernel_rfl) ?_
                exact ⟨_, _, [(0, sl 2 GateTeam.c x0), (12, sl 2 GateTeam.c x0), (13, .int .i64 (x0.length : Int)), (14, .int .i64 (wr .i64 (v0_14 + 1)))], [], [], ⟨by kernel_rfl, by kernel_rfl, trivial⟩, ih0 (wr .i64 (v0_14 + 1)) h⟩
            · replace h := bif_f d6_23 h
              refine seq_draw hmix #[0, 1, 3, 7, 15, 31, 63, 127, 255, 255, 767, 2047, 4095, 8191, 255, 16639, 65535, 131071, 262143, 524287, 1048575, 2097151, 4194303, 8388607, 16777215, 16777215, 50331647, 134217727, 268435455, 536870911, 1073741823] [] [(23, false), (26, true), (38, false), (42, false)] [⟨97, [.str (x0.getD v0_14.toNat default).Name], [], .bool r6_2, [], 1, 0⟩] [same [.str (x0.getD v0_14.toNat default).Name], (!r6_2) = false, (decide (v0_14 > 0)) = true, (0 : Int) ≤ (wr .i64 (v0_14 - 1)) ∧ (wr .i64 (v0_14 - 1)) < (x0.length : Int), (!Op.bytesLess (x0.getD (wr .i64 (v0_14 - 1)).toNat default).Name (x0.getD v0_14.toNat default).Name) = false, (!((x0.getD v0_14.toNat default).Over == [])) = false] (by kernel_rfl) ⟨rfl, d6_4, d6_7, o6_11_0, d6_19, d6_23, trivial⟩ ⟨impl_isName.calls _ _ _ hr6_2, trivial⟩ ?_
              refine awp_cond_k (b := false) (by kernel_rfl) ?_
              refine awp_skip ?_
              refine awp_reg (by kernel_rfl) ?_
              exact ⟨_, _, [(0, sl 2 GateTeam.c x0), (12, sl 2 GateTeam.c x0), (13, .int .i64 (x0.length : Int)), (14, .int .i64 (wr .i64 (v0_14 + 1)))], [], [], ⟨by kernel_rfl, by kernel_rfl, trivial⟩, ih0 (wr .i64 (v0_14 + 1)) h⟩
        · replace h := bif_n d6_7 h
          rcases Bool.eq_false_or_eq_true (!((x0.getD v0_14.toNat default).Over == [])) with d6_23 | d6_23
          · replace h := bif_t d6_23 h
            obtain ⟨r6_27, hr6_27, h⟩ := bbind_s h
            refine seq_draw hmix #[0, 1, 3, 7, 15, 31, 63, 127, 255, 255, 767, 2047, 4095, 8191, 255, 16639, 65535, 131071, 262143, 524287, 1048575, 2097151, 4194303, 8388607, 16777215, 16777215, 50331647, 134217727, 268435455, 536870911, 1073741823] [] [(23, false), (26, false), (42, true)] [⟨97, [.str (x0.getD v0_14.toNat default).Name], [], .bool r6_2, [], 1, 0⟩, ⟨90, [sl 2 GateTeam.c x0, .str (x0.getD v0_14.toNat default).Over], [], .int .i64 r6_27, [], 1, 0⟩] [same [.str (x0.getD v0_14.toNat default).Name], (!r6_2) = false, (decide (v0_14 > 0)) = false, (!((x0.getD v0_14.toNat default).Over == [])) = true, same [sl 2 GateTeam.c x0, .str (x0.getD v0_14.toNat default).Over]] (by kernel_rfl) ⟨rfl, d6_4, d6_7, d6_23, rfl, trivial⟩ ⟨impl_isName.calls _ _ _ hr6_2, impl_teamOf.calls _ _ _ _ hr6_27, trivial⟩ ?_
            refine awp_cond (b := (decide (r6_27 < 0))) (by kernel_rfl) (fun hb => ?_) (fun hb => ?_)
            · replace h := bif_p hb h
              refine seq_reg (by kernel_rfl) ?_
              obtain rfl := Option.some.inj h
              exact awp_ret (fin_ob [] (by kernel_rfl) trivial)
            · replace h := bif_n hb h
              refine awp_skip ?_
              refine awp_reg (by kernel_rfl) ?_
              exact ⟨_, _, [(0, sl 2 GateTeam.c x0), (12, sl 2 GateTeam.c x0), (13, .int .i64 (x0.length : Int)), (14, .int .i64 (wr .i64 (v0_14 + 1)))], [], [], ⟨by kernel_rfl, by kernel_rfl, trivial⟩, ih0 (wr .i64 (v0_14 + 1)) h⟩
          · replace h := bif_f d6_23 h
            refine seq_draw hmix #[0, 1, 3, 7, 15, 31, 63, 127, 255, 255, 767, 2047, 4095, 8191, 255, 16639, 65535, 131071, 262143, 524287, 1048575, 2097151, 4194303, 8388607, 16777215, 16777215, 50331647, 134217727, 268435455, 536870911, 1073741823] [] [(23, false), (26, false), (42, false)] [⟨97, [.str (x0.getD v0_14.toNat default).Name], [], .bool r6_2, [], 1, 0⟩] [same [.str (x0.getD v0_14.toNat default).Name], (!r6_2) = false, (decide (v0_14 > 0)) = false, (!((x0.getD v0_14.toNat default).Over == [])) = false] (by kernel_rfl) ⟨rfl, d6_4, d6_7, d6_23, trivial⟩ ⟨impl_isName.calls _ _ _ hr6_2, trivial⟩ ?_
            refine awp_cond_k (b := false) (by kernel_rfl) ?_
            refine awp_skip ?_
            refine awp_reg (by kernel_rfl) ?_
            exact ⟨_, _, [(0, sl 2 GateTeam.c x0), (12, sl 2 GateTeam.c x0), (13, .int .i64 (x0.length : Int)), (14, .int .i64 (wr .i64 (v0_14 + 1)))], [], [], ⟨by kernel_rfl, by kernel_rfl, trivial⟩, ih0 (wr .i64 (v0_14 + 1)) h⟩
    · replace h := bif_n hb h
      refine awp_exit ?_
      replace h := bsome h
      refine awp_seq ?_
      refine seq_reg (by kernel_rfl) ?_
      refine awp_block ?_
      refine awp_loop_r (nt := 73) (N := 0) (l := [(0, sl 2 GateTeam.c x0), (51, sl 2 GateTeam.c x0), (52, .int .i64 (x0.length : Int)), (53, .int .i64 0)]) (hs := []) (r := []) rfl ⟨by kernel_rfl, by kernel_rfl, trivial⟩ ?_
      refine loop_ind (fr := fun (v1_53 : (Int)) => Fm 73 0 [(0, sl 2 GateTeam.c x0), (51, sl 2 GateTeam.c x0), (52, .int .i64 (x0.length : Int)), (53, .int .i64 v1_53)] []) (f := fun k (z : (Int)) => match z with | v1_53 => impl_GateTeamsOk.l1 x0 k v1_53) ?_ (fun _ => rfl) k 0 h
      clear h
      rintro k1 v1_53 ih1 h
      replace h : (impl_GateTeamsOk.l1 x0 (k1 + 1) v1_53).bind _ = some _ := h
      rw [impl_GateTeamsOk.l1] at h
      refine aloop_r ?_
      refine seq_reg (by kernel_rfl) ?_
      refine awp_seq ?_
      refine awp_cond (b := (decide (v1_53 < (x0.length : Int)))) (by kernel_rfl) (fun hb => ?_) (fun hb => ?_)
      · replace h := bif_p hb h
        refine awp_skip ?_
        refine awp_seq ?_
        refine awp_block ?_
        obtain ⟨o11_0_0, h⟩ := bif_s h
        refine seq_region [] [] [(0 : Int) ≤ v1_53 ∧ v1_53 < (x0.length : Int)] (by kernel_rfl) ⟨o11_0_0, trivial⟩ trivial ?_
        refine seq_reg (by kernel_rfl) ?_
        refine seq_reg (by kernel_rfl) ?_
        refine awp_block ?_
        refine awp_loop_r (nt := 73) (N := 1) (l := [(0, sl 2 GateTeam.c x0), (7, .int .i64 0), (8, .str (x0.getD v1_53.toNat default).Over), (51, sl 2 GateTeam.c x0), (52, .int .i64 (x0.length : Int)), (53, .int .i64 v1_53)]) (hs := []) (r := []) rfl ⟨by kernel_rfl, by kernel_rfl, trivial⟩ ?_
        replace h := bassoc h
        refine loop_ind (fr := fun (z : (Int) × (List UInt8)) => match z with | (v2_7, v2_8) => Fm 73 1 [(0, sl 2 GateTeam.c x0), (7, .int .i64 v2_7), (8, .str v2_8), (51, sl 2 GateTeam.c x0), (52, .int .i64 (x0.length : Int)), (53, .int .i64 v1_53)] []) (f := fun k (z : (Int) × (List UInt8)) => match z with | (v2_7, v2_8) => impl_GateTeamsOk.l2 x0 k v2_7 v2_8) ?_ (fun _ => rfl) k1 (0, (x0.getD v1_53.toNat default).Over) h
        clear h
        rintro k2 ⟨v2_7, v2_8⟩ ih2 h
        replace h : (impl_GateTeamsOk.l2 x0 (k2 + 1) v2_7 v2_8).bind _ = some _ := h
        rw [impl_GateTeamsOk.l2] at h
        refine aloop_r ?_
        refine awp_seq ?_
        refine seq_reg (by kernel_rfl) ?_
        refine awp_cond (b := (!(v2_8 == []))) (by kernel_rfl) (fun hb => ?_) (fun hb => ?_)
        · replace h := bif_t hb h
          refine awp_skip ?_
          refine awp_seq ?_
          refine awp_block ?_
          refine seq_reg (by kernel_rfl) ?_
          refine seq_reg (by kernel_rfl) ?_
          refine awp_cond (b := (decide ((wr .i64 (v2_7 + 1)) > 4))) (by kernel_rfl) (fun hb => ?_) (fun hb => ?_)
          · replace h := bif_p hb h
            refine seq_reg (by kernel_rfl) ?_
            obtain rfl := Option.some.inj h
            exact awp_ret (fin_ob [] (by kernel_rfl) trivial)
          · replace h := bif_n hb h
            refine awp_skip ?_
            obtain ⟨r15_3, hr15_3, h⟩ := bbind_s h
            obtain ⟨o15_4_0, h⟩ := bif_s h
            refine awp_region [] [⟨90, [sl 2 GateTeam.c x0, .str v2_8], [], .int .i64 r15_3, [], 1, 0⟩] [same [sl 2 GateTeam.c x0, .str v2_8], (0 : Int) ≤ r15_3 ∧ r15_3 < (x0.length : Int)] (by kernel_rfl) ⟨rfl, o15_4_0, trivial⟩ ⟨impl_teamOf.calls _ _ _ _ hr15_3, trivial⟩ ?_
            exact ⟨_, _, [(0, sl 2 GateTeam.c x0), (7, .int .i64 (wr .i64 (v2_7 + 1))), (8, .str (x0.getD r15_3.toNat default).Over), (51, sl 2 GateTeam.c x0), (52, .int .i64 (x0.length : Int)), (53, .int .i64 v1_53)], [], [], ⟨by kernel_rfl, by kernel_rfl, trivial⟩, ih2 ((wr .i64 (v2_7 + 1)), (x0.getD r15_3.toNat default).Over) h⟩
        · replace h := bif_f hb h
          refine awp_exit ?_
          replace h := bsome h
          refine awp_reg (by kernel_rfl) ?_
          exact ⟨_, _, [(0, sl 2 GateTeam.c x0), (51, sl 2 GateTeam.c x0), (52, .int .i64 (x0.length : Int)), (53, .int .i64 (wr .i64 (v1_53 + 1)))], [], [], ⟨by kernel_rfl, by kernel_rfl, trivial⟩, ih1 (wr .i64 (v1_53 + 1)) h⟩
      · replace h := bif_n hb h
        refine awp_exit ?_
        replace h := bsome h
        refine seq_reg (by kernel_rfl) ?_
        obtain rfl := Option.some.inj h
        exact awp_ret (fin_ob [] (by kernel_rfl) trivial)

theorem impl_GateRule_ok.calls (k : Nat) (x0 : GateRule) (r : Bool) (h : impl_GateRule_ok k x0 = some r) : PC Try.prog 72 [.agg (GateRule.c x0)] (.bool r) := by
  unfold impl_GateRule_ok at h
  refine pc_intro (fn := Try.f72) Try.call72 Try.func72 rfl (Nat.le_of_ble_eq_true rfl) rfl rfl ?_
  refine seq_reg (by kernel_rfl) ?_
  refine seq_join (fr := fun (z : Unit) => match z with | () => Fm 72 1 [(1, .bp 0 0)] [(0, .box [sl 1 cI64 x0.Verbs, .str x0.Kind, .str x0.Team, .str x0.Prefix])]) (inn := fun (z : Unit) => (.inr z)) h ?_ ?_
  · rintro ⟨⟩ h
    refine awp_seq ?_
    refine seq_reg (by kernel_rfl) ?_
    refine awp_block ?_
    refine awp_loop_r (nt := 72) (N := 2) (l := [(1, .bp 1 0), (44, sl 1 cI64 x0.Verbs), (45, .int .i64 (x0.Verbs.length : Int)), (46, .int .i64 0)]) (hs := [(1, .box [sl 1 cI64 x0.Verbs, .str x0.Kind, .str x0.Team, .str x0.Prefix])]) (r := [(1, 0)]) rfl ⟨by kernel_rfl, by kernel_rfl, (or_box (by kernel_rfl) (by kernel_rfl) trivial)⟩ ?_
    refine loop_ind (fr := fun (v0_46 : (Int)) => Fm 72 2 [(1, .bp 1 0), (44, sl 1 cI64 x0.Verbs), (45, .int .i64 (x0.Verbs.length : Int)), (46, .int .i64 v0_46)] [(1, .box [sl 1 cI64 x0.Verbs, .str x0.Kind, .str x0.Team, .str x0.Prefix])]) (f := fun k (z : (Int)) => match z with | v0_46 => impl_GateRule_ok.l0 x0 k v0_46) ?_ (fun _ => rfl) k 0 h
    clear h
    rintro k0 v0_46 ih0 h
    replace h : (impl_GateRule_ok.l0 x0 (k0 + 1) v0_46).bind _ = some _ := h
    rw [impl_GateRule_ok.l0] at h
    refine aloop_r ?_
    refine seq_reg (by kernel_rfl) ?_
    refine awp_seq ?_
    refine awp_cond (b := (decide (v0_46 < (x0.Verbs.length : Int)))) (by kernel_rfl) (fun hb => ?_) (fun hb => ?_)
    · replace h := bif_p hb h
      refine awp_skip ?_
      refine awp_seq ?_
      refine awp_block ?_
      obtain ⟨o5_1_0, h⟩ := bif_s h
      refine seq_region [] [] [(0 : Int) ≤ v0_46 ∧ v0_46 < (x0.Verbs.length : Int)] (by kernel_rfl) ⟨o5_1_0, trivial⟩ trivial ?_
      rcases Bool.eq_false_or_eq_true (decide ((x0.Verbs.getD v0_46.toNat default) < 1)) with d6_2 | d6_2
      · replace h := bif_p d6_2 h
        refine seq_region [(53, true)] [] [(decide ((x0.Verbs.getD v0_46.toNat default) < 1)) = true] (by kernel_rfl) ⟨d6_2, trivial⟩ trivial ?_
        refine awp_cond_k (b := true) (by kernel_rfl) ?_
        refine seq_reg (by kernel_rfl) ?_
        obtain rfl := Option.some.inj h
        exact awp_ret (fin_ob [] (by kernel_rfl) trivial)
      · replace h := bif_n d6_2 h
        rcases Bool.eq_false_or_eq_true (decide ((x0.Verbs.getD v0_46.toNat default) > 5)) with d6_6 | d6_6
        · replace h := bif_p d6_6 h
          refine seq_region [(53, false), (57, true)] [] [(decide ((x0.Verbs.getD v0_46.toNat default) < 1)) = false, (decide ((x0.Verbs.getD v0_46.toNat default) > 5)) = true] (by kernel_rfl) ⟨d6_2, d6_6, trivial⟩ trivial ?_
          refine awp_cond_k (b := true) (by kernel_rfl) ?_
          refine seq_reg (by kernel_rfl) ?_
          obtain rfl := Option.some.inj h
          exact awp_ret (fin_ob [] (by kernel_rfl) trivial)
        · replace h := bif_n d6_6 h
          rcases Bool.eq_false_or_eq_true (decide (v0_46 > 0)) with d6_9 | d6_9
          · replace h := bif_p d6_9 h
            obtain ⟨o6_14_0, h⟩ := bif_s h
            refine seq_region [(53, false), (57, false), (60, true)] [] [(decide ((x0.Verbs.getD v0_46.toNat default) < 1)) = false, (decide ((x0.Verbs.getD v0_46.toNat default) > 5)) = false, (decide (v0_46 > 0)) = true, (0 : Int) ≤ (wr .i64 (v0_46 - 1)) ∧ (wr .i64 (v0_46 - 1)) < (x0.Verbs.length : Int)] (by kernel_rfl) ⟨d6_2, d6_6, d6_9, o6_14_0, trivial⟩ trivial ?_
            refine awp_cond (b := (decide ((x0.Verbs.getD (wr .i64 (v0_46 - 1)).toNat default) ≥ (x0.Verbs.getD v0_46.toNat default)))) (by kernel_rfl) (fun hb => ?_) (fun hb => ?_)
            · replace h := bif_p hb h
              refine seq_reg (by kernel_rfl) ?_
              obtain rfl := Option.some.inj h
              exact awp_ret (fin_ob [] (by kernel_rfl) trivial)
            · replace h := bif_n hb h
              refine awp_skip ?_
              refine awp_reg (by kernel_rfl) ?_
              exact ⟨_, _, [(1, .bp 1 0), (44, sl 1 cI64 x0.Verbs), (45, .int .i64 (x0.Verbs.length : Int)), (46, .int .i64 (wr .i64 (v0_46 + 1)))], [(1, .box [sl 1 cI64 x0.Verbs, .str x0.Kind, .str x0.Team, .str x0.Prefix])], [(1, 1)], ⟨by kernel_rfl, by kernel_rfl, (or_box (by kernel_rfl) (by kernel_rfl) trivial)⟩, ih0 (wr .i64 (v0_46 + 1)) h⟩
          · replace h := bif_n d6_9 h
            refine seq_region [(53, false), (57, false), (60, false)] [] [(decide ((x0.Verbs.getD v0_46.toNat default) < 1)) = false, (decide ((x0.Verbs.getD v0_46.toNat default) > 5)) = false, (decide (v0_46 > 0)) = false] (by kernel_rfl) ⟨d6_2, d6_6, d6_9, trivial⟩ trivial ?_
            refine awp_cond_k (b := false) (by kernel_rfl) ?_
            refine awp_skip ?_
            refine awp_reg (by kernel_rfl) ?_
            exact ⟨_, _, [(1, .bp 1 0), (44, sl 1 cI64 x0.Verbs), (45, .int .i64 (x0.Verbs.length : Int)), (46, .int .i64 (wr .i64 (v0_46 + 1)))], [(1, .box [sl 1 cI64 x0.Verbs, .str x0.Kind, .str x0.Team, .str x0.Prefix])], [(1, 1)], ⟨by kernel_rfl, by kernel_rfl, (or_box (by kernel_rfl) (by kernel_rfl) trivial)⟩, ih0 (wr .i64 (v0_46 + 1)) h⟩
    · replace h := bif_n hb h
      refine awp_exit ?_
      replace h := bsome h
      refine seq_reg (by kernel_rfl) ?_
      obtain rfl := Option.some.inj h
      exact awp_ret (fin_ob [] (by kernel_rfl) trivial)
  · intro z h hg
    rcases Bool.eq_false_or_eq_true ((x0.Verbs.length : Int) == 0) with d1_4 | d1_4
    · replace h := if_t d1_4 h
      refine seq_region [(9, true)] [] [((x0.Verbs.length : Int) == 0) = true] (by kernel_rfl) ⟨d1_4, trivial⟩ trivial ?_
      refine awp_cond_k (b := true) (by kernel_rfl) ?_
      refine seq_reg (by kernel_rfl) ?_
      obtain rfl := Option.some.inj h
      replace h := hg
      obtain rfl := Option.some.inj h
      exact awp_ret (fin_ob [] (by kernel_rfl) trivial)
    · replace h := if_f d1_4 h
      rcases Bool.eq_false_or_eq_true (!(x0.Kind == [])) with d1_8 | d1_8
      · replace h := if_t d1_8 h
        obtain ⟨r1_11, hr1_11, h⟩ := bind_s h
        rcases Bool.eq_false_or_eq_true (!r1_11) with d1_15 | d1_15
        · replace h := if_t d1_15 h
          refine seq_region [(9, false), (13, true), (20, true)] [⟨97, [.str x0.Kind], [], .bool r1_11, [], 1, 0⟩] [((x0.Verbs.length : Int) == 0) = false, (!(x0.Kind == [])) = true, same [.str x0.Kind], (!r1_11) = true] (by kernel_rfl) ⟨d1_4, d1_8, rfl, d1_15, trivial⟩ ⟨impl_isName.calls _ _ _ hr1_11, trivial⟩ ?_
          refine awp_cond_k (b := true) (by kernel_rfl) ?_
          refine seq_reg (by kernel_rfl) ?_
          obtain rfl := Option.some.inj h
          replace h := hg
          obtain rfl := Option.some.inj h
          exact awp_ret (fin_ob [] (by kernel_rfl) trivial)
        · replace h := if_f d1_15 h
          rcases Bool.eq_false_or_eq_true (!(x0.Team == [])) with d1_19 | d1_19
          · replace h := if_t d1_19 h
            obtain ⟨r1_22, hr1_22, h⟩ := bind_s h
            rcases Bool.eq_false_or_eq_true (!r1_22) with d1_26 | d1_26
            · replace h := if_t d1_26 h
              refine seq_region [(9, false), (13, true), (20, false), (24, true), (31, true)] [⟨97, [.str x0.Kind], [], .bool r1_11, [], 1, 0⟩, ⟨97, [.str x0.Team], [], .bool r1_22, [], 1, 0⟩] [((x0.Verbs.length : Int) == 0) = false, (!(x0.Kind == [])) = true, same [.str x0.Kind], (!r1_11) = false, (!(x0.Team == [])) = true, same [.str x0.Team], (!r1_22) = true] (by kernel_rfl) ⟨d1_4, d1_8, rfl, d1_15, d1_19, rfl, d1_26, trivial⟩ ⟨impl_isName.calls _ _ _ hr1_11, impl_isName.calls _ _ _ hr1_22, trivial⟩ ?_
              refine awp_cond_k (b := true) (by kernel_rfl) ?_
              refine seq_reg (by kernel_rfl) ?_
              obtain rfl := Option.some.inj h
              replace h := hg
              obtain rfl := Option.some.inj h
              exact awp_ret (fin_ob [] (by kernel_rfl) trivial)
            · replace h := if_f d1_26 h
              rcases Bool.eq_false_or_eq_true (decide ((x0.Prefix.length : Int) > 16)) with d1_32 | d1_32
              · replace h := if_p d1_32 h
                refine seq_region [(9, false), (13, true), (20, false), (24, true), (31, false), (37, true)] [⟨97, [.str x0.Kind], [], .bool r1_11, [], 1, 0⟩, ⟨97, [.str x0.Team], [], .bool r1_22, [], 1, 0⟩] [((x0.Verbs.length : Int) == 0) = false, (!(x0.Kind == [])) = true, same [.str x0.Kind], (!r1_11) = false, (!(x0.Team == [])) = true, same [.str x0.Team], (!r1_22) = false, (decide ((x0.Prefix.length : Int) > 16)) = true] (by kernel_rfl) ⟨d1_4, d1_8, rfl, d1_15, d1_19, rfl, d1_26, d1_32, trivial⟩ ⟨impl_isName.calls _ _ _ hr1_11, impl_isName.calls _ _ _ hr1_22, trivial⟩ ?_
                refine awp_cond_k (b := true) (by kernel_rfl) ?_
                refine seq_reg (by kernel_rfl) ?_
                obtain rfl := Option.some.inj h
                replace h := hg
                obtain rfl := Option.some.inj h
                exact awp_ret (fin_ob [] (by kernel_rfl) trivial)
              · replace h := if_n d1_32 h
                obtain ⟨r1_35, hr1_35, h⟩ := bind_s h
                refine seq_region [(9, false), (13, true), (20, false), (24, true), (31, false), (37, false)] [⟨97, [.str x0.Kind], [], .bool r1_11, [], 1, 0⟩, ⟨97, [.str x0.Team], [], .bool r1_22, [], 1, 0⟩, ⟨98, [.str x0.Prefix], [], .bool r1_35, [], 1, 0⟩] [((x0.Verbs.length : Int) == 0) = false, (!(x0.Kind == [])) = true, same [.str x0.Kind], (!r1_11) = false, (!(x0.Team == [])) = true, same [.str x0.Team], (!r1_22) = false, (decide ((x0.Prefix.length : Int) > 16)) = false, same [.str x0.Prefix]] (by kernel_rfl) ⟨d1_4, d1_8, rfl, d1_15, d1_19, rfl, d1_26, d1_32, rfl, trivial⟩ ⟨impl_isName.calls _ _ _ hr1_11, impl_isName.calls _ _ _ hr1_22, impl_nameBytes.calls _ _ _ hr1_35, trivial⟩ ?_
                refine awp_cond (b := (!r1_35)) (by kernel_rfl) (fun hb => ?_) (fun hb => ?_)
                · replace h := if_t hb h
                  refine seq_reg (by kernel_rfl) ?_
                  obtain rfl := Option.some.inj h
                  replace h := hg
                  obtain rfl := Option.some.inj h
                  exact awp_ret (fin_ob [] (by kernel_rfl) trivial)
                · replace h := if_f hb h
                  refine awp_skip ?_
                  obtain rfl := Option.some.inj h
                  exact ⟨(), rfl, fm_wk ⟨by kernel_rfl, by kernel_rfl, (ob_box (by kernel_rfl) (by kernel_rfl) trivial)⟩ (by kernel_rfl)⟩
          · replace h := if_f d1_19 h
            rcases Bool.eq_false_or_eq_true (decide ((x0.Prefix.length : Int) > 16)) with d1_32 | d1_32
            · replace h := if_p d1_32 h
              refine seq_region [(9, false), (13, true), (20, false), (24, false), (37, true)] [⟨97, [.str x0.Kind], [], .bool r1_11, [], 1, 0⟩] [((x0.Verbs.length : Int) == 0) = false, (!(x0.Kind == [])) = true, same [.str x0.Kind], (!r1_11) = false, (!(x0.Team == [])) = false, (decide ((x0.Prefix.length : Int) > 16)) = true] (by kernel_rfl) ⟨d1_4, d1_8, rfl, d1_15, d1_19, d1_32, trivial⟩ ⟨impl_isName.calls _ _ _ hr1_11, trivial⟩ ?_
              refine awp_cond_k (b := true) (by kernel_rfl) ?_
              refine seq_reg (by kernel_rfl) ?_
              obtain rfl := Option.some.inj h
              replace h := hg
              obtain rfl := Option.some.inj h
              exact awp_ret (fin_ob [] (by kernel_rfl) trivial)
            · replace h := if_n d1_32 h
              obtain ⟨r1_35, hr1_35, h⟩ := bind_s h
              refine seq_region [(9, false), (13, true), (20, false), (24, false), (37, false)] [⟨97, [.str x0.Kind], [], .bool r1_11, [], 1, 0⟩, ⟨98, [.str x0.Prefix], [], .bool r1_35, [], 1, 0⟩] [((x0.Verbs.length : Int) == 0) = false, (!(x0.Kind == [])) = true, same [.str x0.Kind], (!r1_11) = false, (!(x0.Team == [])) = false, (decide ((x0.Prefix.length : Int) > 16)) = false, same [.str x0.Prefix]] (by kernel_rfl) ⟨d1_4, d1_8, rfl, d1_15, d1_19, d1_32, rfl, trivial⟩ ⟨impl_isName.calls _ _ _ hr1_11, impl_nameBytes.calls _ _ _ hr1_35, trivial⟩ ?_
              refine awp_cond (b := (!r1_35)) (by kernel_rfl) (fun hb => ?_) (fun hb => ?_)
              · replace h := if_t hb h
                refine seq_reg (by kernel_rfl) ?_
                obtain rfl := Option.some.inj h
                replace h := hg
                obtain rfl := Option.some.inj h
                exact awp_ret (fin_ob [] (by kernel_rfl) trivial)
              · replace h := if_f hb h
                refine awp_skip ?_
                obtain rfl := Option.some.inj h
                exact ⟨(), rfl, fm_wk ⟨by kernel_rfl, by kernel_rfl, (ob_box (by kernel_rfl) (by kernel_rfl) trivial)⟩ (by kernel_rfl)⟩
      · replace h := if_f d1_8 h
        rcases Bool.eq_false_or_eq_true (!(x0.Team == [])) with d1_19 | d1_19
        · replace h := if_t d1_19 h
          obtain ⟨r1_22, hr1_22, h⟩ := bind_s h
          rcases Bool.eq_false_or_eq_true (!r1_22) with d1_26 | d1_26
          · replace h := if_t d1_26 h
            refine seq_region [(9, false), (13, false), (24, true), (31, true)] [⟨97, [.str x0.Team], [], .bool r1_22, [], 1, 0⟩] [((x0.Verbs.length : Int) == 0) = false, (!(x0.Kind == [])) = false, (!(x0.Team == [])) = true, same [.str x0.Team], (!r1_22) = true] (by kernel_rfl) ⟨d1_4, d1_8, d1_19, rfl, d1_26, trivial⟩ ⟨impl_isName.calls _ _ _ hr1_22, trivial⟩ ?_
            refine awp_cond_k (b := true) (by kernel_rfl) ?_
            refine seq_reg (by kernel_rfl) ?_
            obtain rfl := Option.some.inj h
            replace h := hg
            obtain rfl := Option.some.inj h
            exact awp_ret (fin_ob [] (by kernel_rfl) trivial)
          · replace h := if_f d1_26 h
            rcases Bool.eq_false_or_eq_true (decide ((x0.Prefix.length : Int) > 16)) with d1_32 | d1_32
            · replace h := if_p d1_32 h
              refine seq_region [(9, false), (13, false), (24, true), (31, false), (37, true)] [⟨97, [.str x0.Team], [], .bool r1_22, [], 1, 0⟩] [((x0.Verbs.length : Int) == 0) = false, (!(x0.Kind == [])) = false, (!(x0.Team == [])) = true, same [.str x0.Team], (!r1_22) = false, (decide ((x0.Prefix.length : Int) > 16)) = true] (by kernel_rfl) ⟨d1_4, d1_8, d1_19, rfl, d1_26, d1_32, trivial⟩ ⟨impl_isName.calls _ _ _ hr1_22, trivial⟩ ?_
              refine awp_cond_k (b := true) (by kernel_rfl) ?_
              refine seq_reg (by kernel_rfl) ?_
              obtain rfl := Option.some.inj h
              replace h := hg
              obtain rfl := Option.some.inj h
              exact awp_ret (fin_ob [] (by kernel_rfl) trivial)
            · replace h := if_n d1_32 h
              obtain ⟨r1_35, hr1_35, h⟩ := bind_s h
              refine seq_region [(9, false), (13, false), (24, true), (31, false), (37, false)] [⟨97, [.str x0.Team], [], .bool r1_22, [], 1, 0⟩, ⟨98, [.str x0.Prefix], [], .bool r1_35, [], 1, 0⟩] [((x0.Verbs.length : Int) == 0) = false, (!(x0.Kind == [])) = false, (!(x0.Team == [])) = true, same [.str x0.Team], (!r1_22) = false, (decide ((x0.Prefix.length : Int) > 16)) = false, same [.str x0.Prefix]] (by kernel_rfl) ⟨d1_4, d1_8, d1_19, rfl, d1_26, d1_32, rfl, trivial⟩ ⟨impl_isName.calls _ _ _ hr1_22, impl_nameBytes.calls _ _ _ hr1_35, trivial⟩ ?_
              refine awp_cond (b := (!r1_35)) (by kernel_rfl) (fun hb => ?_) (fun hb => ?_)
              · replace h := if_t hb h
                refine seq_reg (by kernel_rfl) ?_
                obtain rfl := Option.some.inj h
                replace h := hg
                obtain rfl := Option.some.inj h
                exact awp_ret (fin_ob [] (by kernel_rfl) trivial)
              · replace h := if_f hb h
                refine awp_skip ?_
                obtain rfl := Option.some.inj h
                exact ⟨(), rfl, fm_wk ⟨by kernel_rfl, by kernel_rfl, (ob_box (by kernel_rfl) (by kernel_rfl) trivial)⟩ (by kernel_rfl)⟩
        · replace h := if_f d1_19 h
          rcases Bool.eq_false_or_eq_true (decide ((x0.Prefix.length : Int) > 16)) with d1_32 | d1_32
          · replace h := if_p d1_32 h
            refine seq_region [(9, false), (13, false), (24, false), (37, true)] [] [((x0.Verbs.length : Int) == 0) = false, (!(x0.Kind == [])) = false, (!(x0.Team == [])) = false, (decide ((x0.Prefix.length : Int) > 16)) = true] (by kernel_rfl) ⟨d1_4, d1_8, d1_19, d1_32, trivial⟩ trivial ?_
            refine awp_cond_k (b := true) (by kernel_rfl) ?_
            refine seq_reg (by kernel_rfl) ?_
            obtain rfl := Option.some.inj h
            replace h := hg
            obtain rfl := Option.some.inj h
            exact awp_ret (fin_ob [] (by kernel_rfl) trivial)
          · replace h := if_n d1_32 h
            obtain ⟨r1_35, hr1_35, h⟩ := bind_s h
            refine seq_region [(9, false), (13, false), (24, false), (37, false)] [⟨98, [.str x0.Prefix], [], .bool r1_35, [], 1, 0⟩] [((x0.Verbs.length : Int) == 0) = false, (!(x0.Kind == [])) = false, (!(x0.Team == [])) = false, (decide ((x0.Prefix.length : Int) > 16)) = false, same [.str x0.Prefix]] (by kernel_rfl) ⟨d1_4, d1_8, d1_19, d1_32, rfl, trivial⟩ ⟨impl_nameBytes.calls _ _ _ hr1_35, trivial⟩ ?_
            refine awp_cond (b := (!r1_35)) (by kernel_rfl) (fun hb => ?_) (fun hb => ?_)
            · replace h := if_t hb h
              refine seq_reg (by kernel_rfl) ?_
              obtain rfl := Option.some.inj h
              replace h := hg
              obtain rfl := Option.some.inj h
              exact awp_ret (fin_ob [] (by kernel_rfl) trivial)
            · replace h := if_f hb h
              refine awp_skip ?_
              obtain rfl := Option.some.inj h
              exact ⟨(), rfl, fm_wk ⟨by kernel_rfl, by kernel_rfl, (ob_box (by kernel_rfl) (by kernel_rfl) trivial)⟩ (by kernel_rfl)⟩

theorem impl_rulesOk.calls (k : Nat) (x0 : List (GateTeam)) (x1 : List (GateRule)) (x2 : GateRule) (r : Bool) (h : impl_rulesOk k x0 x1 x2 = some r) : PC Try.prog 36 [sl 2 GateTeam.c x0, sl 4 GateRule.c x1, .agg (GateRule.c x2)] (.bool r) := by
  unfold impl_rulesOk at h
  refine pc_intro (fn := Try.f36) Try.call36 Try.func36 rfl (Nat.le_of_ble_eq_true rfl) rfl rfl ?_
  refine seq_reg (by kernel_rfl) ?_
  refine awp_seq ?_
  obtain ⟨r1_1, hr1_1, h⟩ := bind_s h
  rcases Bool.eq_false_or_eq_true (!r1_1) with d1_3 | d1_3
  · replace h := if_t d1_3 h
    refine seq_region [(12, true)] [⟨71, [sl 2 GateTeam.c x0], [], .bool r1_1, [], 1, 0⟩] [same [sl 2 GateTeam.c x0], (!r1_1) = true] (by kernel_rfl) ⟨rfl, d1_3, trivial⟩ ⟨impl_GateTeamsOk.calls _ _ _ hr1_1, trivial⟩ ?_
    refine awp_cond_k (b := true) (by kernel_rfl) ?_
    refine seq_reg (by kernel_rfl) ?_
    obtain rfl := Option.some.inj h
    exact awp_ret (fin_ob [] (by kernel_rfl) trivial)
  · replace h := if_f d1_3 h
    obtain ⟨r1_5, hr1_5, h⟩ := bind_s h
    refine seq_region [(12, false)] [⟨71, [sl 2 GateTeam.c x0], [], .bool r1_1, [], 1, 0⟩, ⟨72, [.agg (GateRule.c x2)], [], .bool r1_5, [], 1, 0⟩] [same [sl 2 GateTeam.c x0], (!r1_1) = false, same [.agg (GateRule.c x2)]] (by kernel_rfl) ⟨rfl, d1_3, rfl, trivial⟩ ⟨impl_GateTeamsOk.calls _ _ _ hr1_1, impl_GateRule_ok.calls _ _ _ hr1_5, trivial⟩ ?_
    refine awp_cond (b := (!r1_5)) (by kernel_rfl) (fun hb => ?_) (fun hb => ?_)
    · replace h := if_t hb h
      refine seq_reg (by kernel_rfl) ?_
      obtain rfl := Option.some.inj h
      exact awp_ret (fin_ob [] (by kernel_rfl) trivial)
    · replace h := if_f hb h
      refine awp_skip ?_
      refine awp_seq ?_
      refine seq_reg (by kernel_rfl) ?_
      refine awp_block ?_
      refine awp_loop_r (nt := 27) (N := 1) (l := [(17, sl 4 GateRule.c x1), (18, .int .i64 (x1.length : Int)), (19, .int .i64 0)]) (hs := []) (r := []) rfl ⟨by kernel_rfl, by kernel_rfl, trivial⟩ ?_
      refine loop_ind (fr := fun (v0_19 : (Int)) => Fm 27 1 [(17, sl 4 GateRule.c x1), (18, .int .i64 (x1.length : Int)), (19, .int .i64 v0_19)] []) (f := fun k (z : (Int)) => match z with | v0_19 => impl_rulesOk.l0 x1 k v0_19) ?_ (fun _ => rfl) k 0 h
      clear h
      rintro k0 v0_19 ih0 h
      replace h : (impl_rulesOk.l0 x1 (k0 + 1) v0_19).bind _ = some _ := h
      rw [impl_rulesOk.l0] at h
      refine aloop_r ?_
      refine seq_reg (by kernel_rfl) ?_
      refine awp_seq ?_
      refine awp_cond (b := (decide (v0_19 < (x1.length : Int)))) (by kernel_rfl) (fun hb => ?_) (fun hb => ?_)
      · replace h := bif_p hb h
        refine awp_skip ?_
        refine awp_seq ?_
        refine awp_block ?_
        obtain ⟨o5_0_0, h⟩ := bif_s h
        refine seq_region [] [] [(0 : Int) ≤ v0_19 ∧ v0_19 < (x1.length : Int)] (by kernel_rfl) ⟨o5_0_0, trivial⟩ trivial ?_
        obtain ⟨r6_1, hr6_1, h⟩ := bbind_s h
        refine seq_region [] [⟨72, [.agg (GateRule.c (x1.getD v0_19.toNat default))], [], .bool r6_1, [], 2, 0⟩] [same [.agg (GateRule.c (x1.getD v0_19.toNat default))]] (by kernel_rfl) ⟨rfl, trivial⟩ ⟨impl_GateRule_ok.calls _ _ _ hr6_1, trivial⟩ ?_
        refine awp_cond (b := (!r6_1)) (by kernel_rfl) (fun hb => ?_) (fun hb => ?_)
        · replace h := bif_t hb h
          refine seq_reg (by kernel_rfl) ?_
          obtain rfl := Option.some.inj h
          exact awp_ret (fin_ob [] (by kernel_rfl) trivial)
        · replace h := bif_f hb h
          refine awp_skip ?_
          refine awp_reg (by kernel_rfl) ?_
          exact ⟨_, _, [(17, sl 4 GateRule.c x1), (18, .int .i64 (x1.length : Int)), (19, .int .i64 (wr .i64 (v0_19 + 1)))], [], [], ⟨by kernel_rfl, by kernel_rfl, trivial⟩, ih0 (wr .i64 (v0_19 + 1)) h⟩
      · replace h := bif_n hb h
        refine awp_exit ?_
        replace h := bsome h
        refine seq_reg (by kernel_rfl) ?_
        obtain rfl := Option.some.inj h
        exact awp_ret (fin_ob [] (by kernel_rfl) trivial)

theorem impl_setOf.calls (k : Nat) (x0 : List (Int)) (r : Int) (h : impl_setOf k x0 = some r) : PC Try.prog 99 [sl 1 cI64 x0] (.int .u16 r) := by
  unfold impl_setOf at h
  refine pc_intro (fn := Try.f99) Try.call99 Try.func99 rfl (Nat.le_of_ble_eq_true rfl) rfl rfl ?_
  refine seq_reg (by kernel_rfl) ?_
  refine seq_reg (by kernel_rfl) ?_
  refine awp_seq ?_
  refine seq_reg (by kernel_rfl) ?_
  refine awp_block ?_
  refine awp_loop_r (nt := 25) (N := 0) (l := [(3, .int .u16 0), (6, sl 1 cI64 x0), (7, .int .i64 (x0.length : Int)), (8, .int .i64 0)]) (hs := []) (r := []) rfl ⟨by kernel_rfl, by kernel_rfl, trivial⟩ ?_
  refine loop_ind (fr := fun (z : (Int) × (Int)) => match z with | (v0_3, v0_8) => Fm 25 0 [(3, .int .u16 v0_3), (6, sl 1 cI64 x0), (7, .int .i64 (x0.length : Int)), (8, .int .i64 v0_8)] []) (f := fun k (z : (Int) × (Int)) => match z with | (v0_3, v0_8) => impl_setOf.l0 x0 k v0_3 v0_8) ?_ (fun _ => rfl) k (0, 0) h
  clear h
  rintro k0 ⟨v0_3, v0_8⟩ ih0 h
  replace h : (impl_setOf.l0 x0 (k0 + 1) v0_3 v0_8).bind _ = some _ := h
  rw [impl_setOf.l0] at h
  refine aloop_r ?_
  refine seq_reg (by kernel_rfl) ?_
  refine awp_seq ?_
  refine awp_cond (b := (decide (v0_8 < (x0.length : Int)))) (by kernel_rfl) (fun hb => ?_) (fun hb => ?_)
  · replace h := bif_p hb h
    refine awp_skip ?_
    refine awp_seq ?_
    refine awp_block ?_
    obtain ⟨o4_0_0, h⟩ := bif_s h
    refine seq_region [] [] [(0 : Int) ≤ v0_8 ∧ v0_8 < (x0.length : Int)] (by kernel_rfl) ⟨o4_0_0, trivial⟩ trivial ?_
    rcases Bool.eq_false_or_eq_true (decide ((x0.getD v0_8.toNat default) ≥ 0)) with d5_2 | d5_2
    · replace h := bif_p d5_2 h
      refine seq_region [(14, true)] [] [(decide ((x0.getD v0_8.toNat default) ≥ 0)) = true] (by kernel_rfl) ⟨d5_2, trivial⟩ trivial ?_
      refine awp_cond (b := (decide ((x0.getD v0_8.toNat default) < 16))) (by kernel_rfl) (fun hb => ?_) (fun hb => ?_)
      · replace h := bif_p hb h
        obtain ⟨o6_3_0, h⟩ := bif_s h
        refine awp_region [] [] [(0 : Int) ≤ (wr .u64 (x0.getD v0_8.toNat default))] (by kernel_rfl) ⟨o6_3_0, trivial⟩ trivial ?_
        refine awp_reg (by kernel_rfl) ?_
        exact ⟨_, _, [(3, .int .u16 (bOr .u16 v0_3 (bShl .u16 1 (wr .u64 (x0.getD v0_8.toNat default))))), (6, sl 1 cI64 x0), (7, .int .i64 (x0.length : Int)), (8, .int .i64 (wr .i64 (v0_8 + 1)))], [], [], ⟨by kernel_rfl, by kernel_rfl, trivial⟩, ih0 ((bOr .u16 v0_3 (bShl .u16 1 (wr .u64 (x0.getD v0_8.toNat default)))), (wr .i64 (v0_8 + 1))) h⟩
      · replace h := bif_n hb h
        refine awp_skip ?_
        refine awp_reg (by kernel_rfl) ?_
        exact ⟨_, _, [(3, .int .u16 v0_3), (6, sl 1 cI64 x0), (7, .int .i64 (x0.length : Int)), (8, .int .i64 (wr .i64 (v0_8 + 1)))], [], [], ⟨by kernel_rfl, by kernel_rfl, trivial⟩, ih0 (v0_3, (wr .i64 (v0_8 + 1))) h⟩
    · replace h := bif_n d5_2 h
      refine seq_region [(14, false)] [] [(decide ((x0.getD v0_8.toNat default) ≥ 0)) = false] (by kernel_rfl) ⟨d5_2, trivial⟩ trivial ?_
      refine awp_cond_k (b := false) (by kernel_rfl) ?_
      refine awp_skip ?_
      refine awp_reg (by kernel_rfl) ?_
      exact ⟨_, _, [(3, .int .u16 v0_3), (6, sl 1 cI64 x0), (7, .int .i64 (x0.length : Int)), (8, .int .i64 (wr .i64 (v0_8 + 1)))], [], [], ⟨by kernel_rfl, by kernel_rfl, trivial⟩, ih0 (v0_3, (wr .i64 (v0_8 + 1))) h⟩
  · replace h := bif_n hb h
    refine awp_exit ?_
    replace h := bsome h
    refine seq_reg (by kernel_rfl) ?_
    obtain rfl := Option.some.inj h
    exact awp_ret (fin_ob [] (by kernel_rfl) trivial)

theorem impl_verbSet_has.calls (k : Nat) (x0 : Int) (x1 : Int) (r : Bool) (h : impl_verbSet_has k x0 x1 = some r) : PC Try.prog 100 [.int .u16 x0, .int .i64 x1] (.bool r) := by
  unfold impl_verbSet_has at h
  refine pc_intro (fn := Try.f100) Try.call100 Try.func100 rfl (Nat.le_of_ble_eq_true rfl) rfl rfl ?_
  refine seq_reg (by kernel_rfl) ?_
  rcases Bool.eq_false_or_eq_true (decide (x1 ≥ 0)) with d1_2 | d1_2
  · replace h := if_p d1_2 h
    rcases Bool.eq_false_or_eq_true (decide (x1 < 16)) with d1_6 | d1_6
    · replace h := if_p d1_6 h
      obtain ⟨o1_10_0, h⟩ := if_s h
      refine seq_region [(7, true), (11, true)] [] [(decide (x1 ≥ 0)) = true, (decide (x1 < 16)) = true, (0 : Int) ≤ (wr .u64 x1)] (by kernel_rfl) ⟨d1_2, d1_6, o1_10_0, trivial⟩ trivial ?_
      obtain rfl := Option.some.inj h
      exact awp_ret (fin_ob [] (by kernel_rfl) trivial)
    · replace h := if_n d1_6 h
      refine seq_region [(7, true), (11, false)] [] [(decide (x1 ≥ 0)) = true, (decide (x1 < 16)) = false] (by kernel_rfl) ⟨d1_2, d1_6, trivial⟩ trivial ?_
      obtain rfl := Option.some.inj h
      exact awp_ret (fin_ob [] (by kernel_rfl) trivial)
  · replace h := if_n d1_2 h
    refine seq_region [(7, false)] [] [(decide (x1 ≥ 0)) = false] (by kernel_rfl) ⟨d1_2, trivial⟩ trivial ?_
    obtain rfl := Option.some.inj h
    exact awp_ret (fin_ob [] (by kernel_rfl) trivial)

theorem impl_GateUnder.calls (k : Nat) (x0 : List (GateTeam)) (x1 : List UInt8) (x2 : List UInt8) (r : Bool) (h : impl_GateUnder k x0 x1 x2 = some r) : PC Try.prog 62 [sl 2 GateTeam.c x0, .str x1, .str x2] (.bool r) := by
  unfold impl_GateUnder at h
  refine pc_intro (fn := Try.f62) Try.call62 Try.func62 rfl (Nat.le_of_ble_eq_true rfl) rfl rfl ?_
  refine seq_reg (by kernel_rfl) ?_
  refine awp_seq ?_
  refine seq_reg (by kernel_rfl) ?_
  refine awp_block ?_
  refine awp_loop_r (nt := 36) (N := 0) (l := [(0, sl 2 GateTeam.c x0), (1, .str x1), (2, .str x2), (7, .int .i64 0)]) (hs := []) (r := []) rfl ⟨by kernel_rfl, by kernel_rfl, trivial⟩ ?_
  refine loop_ind (fr := fun (z : (List UInt8) × (Int)) => match z with | (v0_1, v0_7) => Fm 36 0 [(0, sl 2 GateTeam.c x0), (1, .str v0_1), (2, .str x2), (7, .int .i64 v0_7)] []) (f := fun k (z : (List UInt8) × (Int)) => match z with | (v0_1, v0_7) => impl_GateUnder.l0 x2 x0 k v0_1 v0_7) ?_ (fun _ => rfl) k (x1, 0) h
  clear h
  rintro k0 ⟨v0_1, v0_7⟩ ih0 h
  replace h : (impl_GateUnder.l0 x2 x0 (k0 + 1) v0_1 v0_7).bind _ = some _ := h
  rw [impl_GateUnder.l0] at h
  refine aloop_r ?_
  refine awp_seq ?_
  refine seq_reg (by kernel_rfl) ?_
  refine awp_cond (b := (!(v0_1 == x2))) (by kernel_rfl) (fun hb => ?_) (fun hb => ?_)
  · replace h := bif_t hb h
    refine awp_skip ?_
    refine awp_seq ?_
    refine awp_block ?_
    obtain ⟨r4_2, hr4_2, h⟩ := bbind_s h
    refine seq_region [] [⟨90, [sl 2 GateTeam.c x0, .str v0_1], [], .int .i64 r4_2, [], 0, 0⟩] [same [sl 2 GateTeam.c x0, .str v0_1]] (by kernel_rfl) ⟨rfl, trivial⟩ ⟨impl_teamOf.calls _ _ _ _ hr4_2, trivial⟩ ?_
    refine awp_seq ?_
    rcases Bool.eq_false_or_eq_true (v0_7 == 4) with d5_2 | d5_2
    · replace h := bif_t d5_2 h
      refine seq_region [(19, true)] [] [(v0_7 == 4) = true] (by kernel_rfl) ⟨d5_2, trivial⟩ trivial ?_
      refine awp_cond_k (b := true) (by kernel_rfl) ?_
      refine seq_reg (by kernel_rfl) ?_
      obtain rfl := Option.some.inj h
      exact awp_ret (fin_ob [] (by kernel_rfl) trivial)
    · replace h := bif_f d5_2 h
      rcases Bool.eq_false_or_eq_true (decide (r4_2 < 0)) with d5_6 | d5_6
      · replace h := bif_p d5_6 h
        refine seq_region [(19, false), (23, true)] [] [(v0_7 == 4) = false, (decide (r4_2 < 0)) = true] (by kernel_rfl) ⟨d5_2, d5_6, trivial⟩ trivial ?_
        refine awp_cond_k (b := true) (by kernel_rfl) ?_
        refine seq_reg (by kernel_rfl) ?_
        obtain rfl := Option.some.inj h
        exact awp_ret (fin_ob [] (by kernel_rfl) trivial)
      · replace h := bif_n d5_6 h
        obtain ⟨o5_9_0, h⟩ := bif_s h
        refine seq_region [(19, false), (23, false)] [] [(v0_7 == 4) = false, (decide (r4_2 < 0)) = false, (0 : Int) ≤ r4_2 ∧ r4_2 < (x0.length : Int)] (by kernel_rfl) ⟨d5_2, d5_6, o5_9_0, trivial⟩ trivial ?_
        refine awp_cond (b := ((x0.getD r4_2.toNat default).Over == [])) (by kernel_rfl) (fun hb => ?_) (fun hb => ?_)
        · replace h := bif_t hb h
          refine seq_reg (by kernel_rfl) ?_
          obtain rfl := Option.some.inj h
          exact awp_ret (fin_ob [] (by kernel_rfl) trivial)
        · replace h := bif_f hb h
          refine awp_skip ?_
          obtain ⟨o7_2_0, h⟩ := bif_s h
          refine awp_region [] [] [(0 : Int) ≤ r4_2 ∧ r4_2 < (x0.length : Int)] (by kernel_rfl) ⟨o7_2_0, trivial⟩ trivial ?_
          refine awp_reg (by kernel_rfl) ?_
          exact ⟨_, _, [(0, sl 2 GateTeam.c x0), (1, .str (x0.getD r4_2.toNat default).Over), (2, .str x2), (7, .int .i64 (wr .i64 (v0_7 + 1)))], [], [], ⟨by kernel_rfl, by kernel_rfl, trivial⟩, ih0 ((x0.getD r4_2.toNat default).Over, (wr .i64 (v0_7 + 1))) h⟩
  · replace h := bif_f hb h
    refine awp_exit ?_
    replace h := bsome h
    refine seq_reg (by kernel_rfl) ?_
    obtain rfl := Option.some.inj h
    exact awp_ret (fin_ob [] (by kernel_rfl) trivial)

theorem stringslite_HasPrefix.calls (k : Nat) (x0 : List UInt8) (x1 : List UInt8) (r : Bool) (h : stringslite_HasPrefix k x0 x1 = some r) : PC Try.prog 106 [.str x0, .str x1] (.bool r) := by
  unfold stringslite_HasPrefix at h
  refine pc_intro (fn := Try.f106) Try.call106 Try.func106 rfl (Nat.le_of_ble_eq_true rfl) rfl rfl ?_
  refine seq_reg (by kernel_rfl) ?_
  rcases Bool.eq_false_or_eq_true (decide ((x0.length : Int) ≥ (x1.length : Int))) with d1_5 | d1_5
  · replace h := if_p d1_5 h
    obtain ⟨o1_9_0, h⟩ := if_s h
    refine seq_region [(10, true)] [] [(decide ((x0.length : Int) ≥ (x1.length : Int))) = true, (0 : Int) ≤ (0 : Int) ∧ (0 : Int) ≤ (x1.length : Int) ∧ (x1.length : Int) ≤ (x0.length : Int)] (by kernel_rfl) ⟨d1_5, o1_9_0, trivial⟩ trivial ?_
    obtain rfl := Option.some.inj h
    exact awp_ret (fin_ob [] (by kernel_rfl) trivial)
  · replace h := if_n d1_5 h
    refine seq_region [(10, false)] [] [(decide ((x0.length : Int) ≥ (x1.length : Int))) = false] (by kernel_rfl) ⟨d1_5, trivial⟩ trivial ?_
    obtain rfl := Option.some.inj h
    exact awp_ret (fin_ob [] (by kernel_rfl) trivial)

theorem strings_HasPrefix.calls (k : Nat) (x0 : List UInt8) (x1 : List UInt8) (r : Bool) (h : strings_HasPrefix k x0 x1 = some r) : PC Try.prog 101 [.str x0, .str x1] (.bool r) := by
  unfold strings_HasPrefix at h
  refine pc_intro (fn := Try.f101) Try.call101 Try.func101 rfl (Nat.le_of_ble_eq_true rfl) rfl rfl ?_
  refine seq_reg (by kernel_rfl) ?_
  obtain ⟨r1_2, hr1_2, h⟩ := bind_s h
  refine seq_region [] [⟨106, [.str x0, .str x1], [], .bool r1_2, [], 0, 0⟩] [same [.str x0, .str x1]] (by kernel_rfl) ⟨rfl, trivial⟩ ⟨stringslite_HasPrefix.calls _ _ _ _ hr1_2, trivial⟩ ?_
  obtain rfl := Option.some.inj h
  exact awp_ret (fin_ob [] (by kernel_rfl) trivial)

theorem impl_GateRule_wider.calls (k : Nat) (x0 : GateRule) (x1 : List (GateTeam)) (x2 : GateRule) (x3 : Int) (r : Bool) (h : impl_GateRule_wider k x0 x1 x2 x3 = some r) : PC Try.prog 73 [.agg (GateRule.c x0), sl 2 GateTeam.c x1, .agg (GateRule.c x2), .int .i64 x3] (.bool r) := by
  unfold impl_GateRule_wider at h
  refine pc_intro (fn := Try.f73) Try.call73 Try.func73 rfl (Nat.le_of_ble_eq_true rfl) rfl rfl ?_
  refine seq_reg (by kernel_rfl) ?_
  obtain ⟨r1_2, hr1_2, h⟩ := bind_s h
  obtain ⟨r1_4, hr1_4, h⟩ := bind_s h
  rcases Bool.eq_false_or_eq_true r1_4 with d1_5 | d1_5
  · replace h := if_t d1_5 h
    rcases Bool.eq_false_or_eq_true (x0.Kind == []) with d1_9 | d1_9
    · replace h := if_t d1_9 h
      rcases Bool.eq_false_or_eq_true (x0.Team == []) with d1_21 | d1_21
      · replace h := if_t d1_21 h
        obtain ⟨r1_40, hr1_40, h⟩ := bind_s h
        refine seq_region [(14, true), (18, true), (30, true)] [⟨99, [sl 1 cI64 x0.Verbs], [], .int .u16 r1_2, [], 2, 0⟩, ⟨100, [.int .u16 r1_2, .int .i64 x3], [], .bool r1_4, [], 2, 0⟩, ⟨101, [.str x2.Prefix, .str x0.Prefix], [], .bool r1_40, [], 2, 0⟩] [same [sl 1 cI64 x0.Verbs], same [.int .u16 r1_2, .int .i64 x3], r1_4 = true, (x0.Kind == []) = true, (x0.Team == []) = true, same [.str x2.Prefix, .str x0.Prefix]] (by kernel_rfl) ⟨rfl, rfl, d1_5, d1_9, d1_21, rfl, trivial⟩ ⟨impl_setOf.calls _ _ _ hr1_2, impl_verbSet_has.calls _ _ _ _ hr1_4, strings_HasPrefix.calls _ _ _ _ hr1_40, trivial⟩ ?_
        obtain rfl := Option.some.inj h
        exact awp_ret (fin_ob [] (by kernel_rfl) trivial)
      · replace h := if_f d1_21 h
        rcases Bool.eq_false_or_eq_true (!(x2.Team == [])) with d1_25 | d1_25
        · replace h := if_t d1_25 h
          obtain ⟨r1_31, hr1_31, h⟩ := bind_s h
          rcases Bool.eq_false_or_eq_true r1_31 with d1_35 | d1_35
          · replace h := if_t d1_35 h
            obtain ⟨r1_40, hr1_40, h⟩ := bind_s h
            refine seq_region [(14, true), (18, true), (30, false), (34, true), (44, true)] [⟨99, [sl 1 cI64 x0.Verbs], [], .int .u16 r1_2, [], 2, 0⟩, ⟨100, [.int .u16 r1_2, .int .i64 x3], [], .bool r1_4, [], 2, 0⟩, ⟨62, [sl 2 GateTeam.c x1, .str x2.Team, .str x0.Team], [], .bool r1_31, [], 2, 0⟩, ⟨101, [.str x2.Prefix, .str x0.Prefix], [], .bool r1_40, [], 2, 0⟩] [same [sl 1 cI64 x0.Verbs], same [.int .u16 r1_2, .int .i64 x3], r1_4 = true, (x0.Kind == []) = true, (x0.Team == []) = false, (!(x2.Team == [])) = true, same [sl 2 GateTeam.c x1, .str x2.Team, .str x0.Team], r1_31 = true, same [.str x2.Prefix, .str x0.Prefix]] (by kernel_rfl) ⟨rfl, rfl, d1_5, d1_9, d1_21, d1_25, rfl, d1_35, rfl, trivial⟩ ⟨impl_setOf.calls _ _ _ hr1_2, impl_verbSet_has.calls _ _ _ _ hr1_4, impl_GateUnder.calls _ _ _ _ _ hr1_31, strings_HasPrefix.calls _ _ _ _ hr1_40, trivial⟩ ?_
            obtain rfl := Option.some.inj h
            exact awp_ret (fin_ob [] (by kernel_rfl) trivial)
          · replace h := if_f d1_35 h
            refine seq_region [(14, true), (18, true), (30, false), (34, true), (44, false)] [⟨99, [sl 1 cI64 x0.Verbs], [], .int .u16 r1_2, [], 2, 0⟩, ⟨100, [.int .u16 r1_2, .int .i64 x3], [], .bool r1_4, [], 2, 0⟩, ⟨62, [sl 2 GateTeam.c x1, .str x2.Team, .str x0.Team], [], .bool r1_31, [], 2, 0⟩] [same [sl 1 cI64 x0.Verbs], same [.int .u16 r1_2, .int .i64 x3], r1_4 = true, (x0.Kind == []) = true, (x0.Team == []) = false, (!(x2.Team == [])) = true, same [sl 2 GateTeam.c x1, .str x2.Team, .str x0.Team], r1_31 = false] (by kernel_rfl) ⟨rfl, rfl, d1_5, d1_9, d1_21, d1_25, rfl, d1_35, trivial⟩ ⟨impl_setOf.calls _ _ _ hr1_2, impl_verbSet_has.calls _ _ _ _ hr1_4, impl_GateUnder.calls _ _ _ _ _ hr1_31, trivial⟩ ?_
            obtain rfl := Option.some.inj h
            exact awp_ret (fin_ob [] (by kernel_rfl) trivial)
        · replace h := if_f d1_25 h
          refine seq_region [(14, true), (18, true), (30, false), (34, false)] [⟨99, [sl 1 cI64 x0.Verbs], [], .int .u16 r1_2, [], 2, 0⟩, ⟨100, [.int .u16 r1_2, .int .i64 x3], [], .bool r1_4, [], 2, 0⟩] [same [sl 1 cI64 x0.Verbs], same [.int .u16 r1_2, .int .i64 x3], r1_4 = true, (x0.Kind == []) = true, (x0.Team == []) = false, (!(x2.Team == [])) = false] (by kernel_rfl) ⟨rfl, rfl, d1_5, d1_9, d1_21, d1_25, trivial⟩ ⟨impl_setOf.calls _ _ _ hr1_2, impl_verbSet_has.calls _ _ _ _ hr1_4, trivial⟩ ?_
          obtain rfl := Option.some.inj h
          exact awp_ret (fin_ob [] (by kernel_rfl) trivial)
    · replace h := if_f d1_9 h
      rcases Bool.eq_false_or_eq_true (x0.Kind == x2.Kind) with d1_17 | d1_17
      · replace h := if_t d1_17 h
        rcases Bool.eq_false_or_eq_true (x0.Team == []) with d1_21 | d1_21
        · replace h := if_t d1_21 h
          obtain ⟨r1_40, hr1_40, h⟩ := bind_s h
          refine seq_region [(14, true), (18, false), (26, true), (30, true)] [⟨99, [sl 1 cI64 x0.Verbs], [], .int .u16 r1_2, [], 2, 0⟩, ⟨100, [.int .u16 r1_2, .int .i64 x3], [], .bool r1_4, [], 2, 0⟩, ⟨101, [.str x2.Prefix, .str x0.Prefix], [], .bool r1_40, [], 2, 0⟩] [same [sl 1 cI64 x0.Verbs], same [.int .u16 r1_2, .int .i64 x3], r1_4 = true, (x0.Kind == []) = false, (x0.Kind == x2.Kind) = true, (x0.Team == []) = true, same [.str x2.Prefix, .str x0.Prefix]] (by kernel_rfl) ⟨rfl, rfl, d1_5, d1_9, d1_17, d1_21, rfl, trivial⟩ ⟨impl_setOf.calls _ _ _ hr1_2, impl_verbSet_has.calls _ _ _ _ hr1_4, strings_HasPrefix.calls _ _ _ _ hr1_40, trivial⟩ ?_
          obtain rfl := Option.some.inj h
          exact awp_ret (fin_ob [] (by kernel_rfl) trivial)
        · replace h := if_f d1_21 h
          rcases Bool.eq_false_or_eq_true (!(x2.Team == [])) with d1_25 | d1_25
          · replace h := if_t d1_25 h
            obtain ⟨r1_31, hr1_31, h⟩ := bind_s h
            rcases Bool.eq_false_or_eq_true r1_31 with d1_35 | d1_35
            · replace h := if_t d1_35 h
              obtain ⟨r1_40, hr1_40, h⟩ := bind_s h
              refine seq_region [(14, true), (18, false), (26, true), (30, false), (34, true), (44, true)] [⟨99, [sl 1 cI64 x0.Verbs], [], .int .u16 r1_2, [], 2, 0⟩, ⟨100, [.int .u16 r1_2, .int .i64 x3], [], .bool r1_4, [], 2, 0⟩, ⟨62, [sl 2 GateTeam.c x1, .str x2.Team, .str x0.Team], [], .bool r1_31, [], 2, 0⟩, ⟨101, [.str x2.Prefix, .str x0.Prefix], [], .bool r1_40, [], 2, 0⟩] [same [sl 1 cI64 x0.Verbs], same [.int .u16 r1_2, .int .i64 x3], r1_4 = true, (x0.Kind == []) = false, (x0.Kind == x2.Kind) = true, (x0.Team == []) = false, (!(x2.Team == [])) = true, same [sl 2 GateTeam.c x1, .str x2.Team, .str x0.Team], r1_31 = true, same [.str x2.Prefix, .str x0.Prefix]] (by kernel_rfl) ⟨rfl, rfl, d1_5, d1_9, d1_17, d1_21, d1_25, rfl, d1_35, rfl, trivial⟩ ⟨impl_setOf.calls _ _ _ hr1_2, impl_verbSet_has.calls _ _ _ _ hr1_4, impl_GateUnder.calls _ _ _ _ _ hr1_31, strings_HasPrefix.calls _ _ _ _ hr1_40, trivial⟩ ?_
              obtain rfl := Option.some.inj h
              exact awp_ret (fin_ob [] (by kernel_rfl) trivial)
            · replace h := if_f d1_35 h
              refine seq_region [(14, true), (18, false), (26, true), (30, false), (34, true), (44, false)] [⟨99, [sl 1 cI64 x0.Verbs], [], .int .u16 r1_2, [], 2, 0⟩, ⟨100, [.int .u16 r1_2, .int .i64 x3], [], .bool r1_4, [], 2, 0⟩, ⟨62, [sl 2 GateTeam.c x1, .str x2.Team, .str x0.Team], [], .bool r1_31, [], 2, 0⟩] [same [sl 1 cI64 x0.Verbs], same [.int .u16 r1_2, .int .i64 x3], r1_4 = true, (x0.Kind == []) = false, (x0.Kind == x2.Kind) = true, (x0.Team == []) = false, (!(x2.Team == [])) = true, same [sl 2 GateTeam.c x1, .str x2.Team, .str x0.Team], r1_31 = false] (by kernel_rfl) ⟨rfl, rfl, d1_5, d1_9, d1_17, d1_21, d1_25, rfl, d1_35, trivial⟩ ⟨impl_setOf.calls _ _ _ hr1_2, impl_verbSet_has.calls _ _ _ _ hr1_4, impl_GateUnder.calls _ _ _ _ _ hr1_31, trivial⟩ ?_
              obtain rfl := Option.some.inj h
              exact awp_ret (fin_ob [] (by kernel_rfl) trivial)
          · replace h := if_f d1_25 h
            refine seq_region [(14, true), (18, false), (26, true), (30, false), (34, false)] [⟨99, [sl 1 cI64 x0.Verbs], [], .int .u16 r1_2, [], 2, 0⟩, ⟨100, [.int .u16 r1_2, .int .i64 x3], [], .bool r1_4, [], 2, 0⟩] [same [sl 1 cI64 x0.Verbs], same [.int .u16 r1_2, .int .i64 x3], r1_4 = true, (x0.Kind == []) = false, (x0.Kind == x2.Kind) = true, (x0.Team == []) = false, (!(x2.Team == [])) = false] (by kernel_rfl) ⟨rfl, rfl, d1_5, d1_9, d1_17, d1_21, d1_25, trivial⟩ ⟨impl_setOf.calls _ _ _ hr1_2, impl_verbSet_has.calls _ _ _ _ hr1_4, trivial⟩ ?_
            obtain rfl := Option.some.inj h
            exact awp_ret (fin_ob [] (by kernel_rfl) trivial)
      · replace h := if_f d1_17 h
        refine seq_region [(14, true), (18, false), (26, false)] [⟨99, [sl 1 cI64 x0.Verbs], [], .int .u16 r1_2, [], 2, 0⟩, ⟨100, [.int .u16 r1_2, .int .i64 x3], [], .bool r1_4, [], 2, 0⟩] [same [sl 1 cI64 x0.Verbs], same [.int .u16 r1_2, .int .i64 x3], r1_4 = true, (x0.Kind == []) = false, (x0.Kind == x2.Kind) = false] (by kernel_rfl) ⟨rfl, rfl, d1_5, d1_9, d1_17, trivial⟩ ⟨impl_setOf.calls _ _ _ hr1_2, impl_verbSet_has.calls _ _ _ _ hr1_4, trivial⟩ ?_
        obtain rfl := Option.some.inj h
        exact awp_ret (fin_ob [] (by kernel_rfl) trivial)
  · replace h := if_f d1_5 h
    refine seq_region [(14, false)] [⟨99, [sl 1 cI64 x0.Verbs], [], .int .u16 r1_2, [], 2, 0⟩, ⟨100, [.int .u16 r1_2, .int .i64 x3], [], .bool r1_4, [], 2, 0⟩] [same [sl 1 cI64 x0.Verbs], same [.int .u16 r1_2, .int .i64 x3], r1_4 = false] (by kernel_rfl) ⟨rfl, rfl, d1_5, trivial⟩ ⟨impl_setOf.calls _ _ _ hr1_2, impl_verbSet_has.calls _ _ _ _ hr1_4, trivial⟩ ?_
    obtain rfl := Option.some.inj h
    exact awp_ret (fin_ob [] (by kernel_rfl) trivial)

theorem impl_bare.calls (k : Nat) (x0 : List (GateTeam)) (x1 : List (GateRule)) (x2 : GateRule) (r : Int) (h : impl_bare k x0 x1 x2 = some r) : PC Try.prog 37 [sl 2 GateTeam.c x0, sl 4 GateRule.c x1, .agg (GateRule.c x2)] (.int .i64 r) := by
  unfold impl_bare at h
  refine pc_intro (fn := Try.f37) Try.call37 Try.func37 rfl (Nat.le_of_ble_eq_true rfl) rfl rfl ?_
  refine seq_reg (by kernel_rfl) ?_
  refine awp_scope ?_
  refine awp_seq ?_
  refine awp_label ?_
  refine awp_seq ?_
  refine seq_reg (by kernel_rfl) ?_
  refine awp_block ?_
  refine awp_loop_r (nt := 32) (N := 2) (l := [(0, sl 2 GateTeam.c x0), (1, sl 4 GateRule.c x1), (5, .bp 1 0), (12, sl 1 cI64 x2.Verbs), (13, .int .i64 (x2.Verbs.length : Int)), (14, .int .i64 0)]) (hs := [(1, .box [sl 1 cI64 x2.Verbs, .str x2.Kind, .str x2.Team, .str x2.Prefix])]) (r := [(1, 0)]) rfl ⟨by kernel_rfl, by kernel_rfl, (or_box (by kernel_rfl) (by kernel_rfl) trivial)⟩ ?_
  refine loop_ind (fr := fun (v0_14 : (Int)) => Fm 32 2 [(0, sl 2 GateTeam.c x0), (1, sl 4 GateRule.c x1), (5, .bp 1 0), (12, sl 1 cI64 x2.Verbs), (13, .int .i64 (x2.Verbs.length : Int)), (14, .int .i64 v0_14)] [(1, .box [sl 1 cI64 x2.Verbs, .str x2.Kind, .str x2.Team, .str x2.Prefix])]) (f := fun k (z : (Int)) => match z with | v0_14 => impl_bare.l0 x2 x1 x0 k v0_14) ?_ (fun _ => rfl) k 0 h
  clear h
  rintro k0 v0_14 ih0 h
  replace h : (impl_bare.l0 x2 x1 x0 (k0 + 1) v0_14).bind _ = some _ := h
  rw [impl_bare.l0] at h
  refine aloop_r ?_
  refine seq_reg (by kernel_rfl) ?_
  refine awp_seq ?_
  refine awp_cond (b := (decide (v0_14 < (x2.Verbs.length : Int)))) (by kernel_rfl) (fun hb => ?_) (fun hb => ?_)
  · replace h := bif_p hb h
    refine awp_skip ?_
    refine awp_seq ?_
    refine awp_block ?_
    obtain ⟨o3_0_0, h⟩ := bif_s h
    refine seq_region [] [] [(0 : Int) ≤ v0_14 ∧ v0_14 < (x2.Verbs.length : Int)] (by kernel_rfl) ⟨o3_0_0, trivial⟩ trivial ?_
    refine awp_seq ?_
    refine seq_reg (by kernel_rfl) ?_
    refine awp_block ?_
    refine awp_loop_r (nt := 32) (N := 3) (l := [(0, sl 2 GateTeam.c x0), (1, sl 4 GateRule.c x1), (5, .bp 2 0), (8, .int .i64 (x2.Verbs.getD v0_14.toNat default)), (12, sl 1 cI64 x2.Verbs), (13, .int .i64 (x2.Verbs.length : Int)), (14, .int .i64 v0_14), (18, sl 4 GateRule.c x1), (19, .int .i64 (x1.length : Int)), (20, .int .i64 0)]) (hs := [(2, .box [sl 1 cI64 x2.Verbs, .str x2.Kind, .str x2.Team, .str x2.Prefix])]) (r := [(2, 1)]) rfl ⟨by kernel_rfl, by kernel_rfl, (or_box (by kernel_rfl) (by kernel_rfl) trivial)⟩ ?_
    replace h := bassoc h
    refine loop_ind (fr := fun (v1_20 : (Int)) => Fm 32 3 [(0, sl 2 GateTeam.c x0), (1, sl 4 GateRule.c x1), (5, .bp 2 0), (8, .int .i64 (x2.Verbs.getD v0_14.toNat default)), (12, sl 1 cI64 x2.Verbs), (13, .int .i64 (x2.Verbs.length : Int)), (14, .int .i64 v0_14), (18, sl 4 GateRule.c x1), (19, .int .i64 (x1.length : Int)), (20, .int .i64 v1_20)] [(2, .box [sl 1 cI64 x2.Verbs, .str x2.Kind, .str x2.Team, .str x2.Prefix])]) (f := fun k (z : (Int)) => match z with | v1_20 => impl_bare.l1 x1 x0 x2 v0_14 k v1_20) ?_ (fun _ => rfl) k0 0 h
    clear h
    rintro k1 v1_20 ih1 h
    replace h : (impl_bare.l1 x1 x0 x2 v0_14 (k1 + 1) v1_20).bind _ = some _ := h
    rw [impl_bare.l1] at h
    refine aloop_r ?_
    refine seq_reg (by kernel_rfl) ?_
    refine awp_seq ?_
    refine awp_cond (b := (decide (v1_20 < (x1.length : Int)))) (by kernel_rfl) (fun hb => ?_) (fun hb => ?_)
    · replace h := bif_p hb h
      refine awp_skip ?_
      refine awp_seq ?_
      refine awp_block ?_
      obtain ⟨o6_0_0, h⟩ := bif_s h
      refine seq_region [] [] [(0 : Int) ≤ v1_20 ∧ v1_20 < (x1.length : Int)] (by kernel_rfl) ⟨o6_0_0, trivial⟩ trivial ?_
      obtain ⟨r7_4, hr7_4, h⟩ := bbind_s h
      refine seq_region [] [⟨73, [.agg (GateRule.c (x1.getD v1_20.toNat default)), sl 2 GateTeam.c x0, .agg (GateRule.c x2), .int .i64 (x2.Verbs.getD v0_14.toNat default)], [], .bool r7_4, [], 4, 0⟩] [same [.agg (GateRule.c (x1.getD v1_20.toNat default)), sl 2 GateTeam.c x0, .agg (GateRule.c x2), .int .i64 (x2.Verbs.getD v0_14.toNat default)]] (by kernel_rfl) ⟨rfl, trivial⟩ ⟨impl_GateRule_wider.calls _ _ _ _ _ _ hr7_4, trivial⟩ ?_
      refine awp_cond (b := r7_4) (by kernel_rfl) (fun hb => ?_) (fun hb => ?_)
      · replace h := bif_t hb h
        refine awp_exit ?_
        replace h := bsome h
        refine awp_reg (by kernel_rfl) ?_
        exact ⟨_, _, [(0, sl 2 GateTeam.c x0), (1, sl 4 GateRule.c x1), (5, .bp 1 0), (12, sl 1 cI64 x2.Verbs), (13, .int .i64 (x2.Verbs.length : Int)), (14, .int .i64 (wr .i64 (v0_14 + 1)))], [(1, .box [sl 1 cI64 x2.Verbs, .str x2.Kind, .str x2.Team, .str x2.Prefix])], [(1, 2)], ⟨by kernel_rfl, by kernel_rfl, (or_box (by kernel_rfl) (by kernel_rfl) trivial)⟩, ih0 (wr .i64 (v0_14 + 1)) h⟩
      · replace h := bif_f hb h
        refine awp_skip ?_
        refine awp_reg (by kernel_rfl) ?_
        exact ⟨_, _, [(0, sl 2 GateTeam.c x0), (1, sl 4 GateRule.c x1), (5, .bp 2 0), (8, .int .i64 (x2.Verbs.getD v0_14.toNat default)), (12, sl 1 cI64 x2.Verbs), (13, .int .i64 (x2.Verbs.length : Int)), (14, .int .i64 v0_14), (18, sl 4 GateRule.c x1), (19, .int .i64 (x1.length : Int)), (20, .int .i64 (wr .i64 (v1_20 + 1)))], [(2, .box [sl 1 cI64 x2.Verbs, .str x2.Kind, .str x2.Team, .str x2.Prefix])], [(2, 2)], ⟨by kernel_rfl, by kernel_rfl, (or_box (by kernel_rfl) (by kernel_rfl) trivial)⟩, ih1 (wr .i64 (v1_20 + 1)) h⟩
    · replace h := bif_n hb h
      refine awp_exit ?_
      replace h := bsome h
      refine seq_reg (by kernel_rfl) ?_
      obtain rfl := Option.some.inj h
      exact awp_ret (fin_ob [] (by kernel_rfl) trivial)
  · replace h := bif_n hb h
    refine awp_exit ?_
    replace h := bsome h
    refine seq_reg (by kernel_rfl) ?_
    obtain rfl := Option.some.inj h
    exact awp_ret (fin_ob [] (by kernel_rfl) trivial)

theorem impl_GateCovers.calls (k : Nat) (x0 : List (GateTeam)) (x1 : List (GateRule)) (x2 : GateRule) (r : Bool) (h : impl_GateCovers k x0 x1 x2 = some r) : PC Try.prog 13 [sl 2 GateTeam.c x0, sl 4 GateRule.c x1, .agg (GateRule.c x2)] (.bool r) := by
  unfold impl_GateCovers at h
  refine pc_intro (fn := Try.f13) Try.call13 Try.func13 rfl (Nat.le_of_ble_eq_true rfl) rfl rfl ?_
  refine seq_reg (by kernel_rfl) ?_
  obtain ⟨r1_3, hr1_3, h⟩ := bind_s h
  rcases Bool.eq_false_or_eq_true r1_3 with d1_4 | d1_4
  · replace h := if_t d1_4 h
    obtain ⟨r1_8, hr1_8, h⟩ := bind_s h
    refine seq_region [(11, true)] [⟨36, [sl 2 GateTeam.c x0, sl 4 GateRule.c x1, .agg (GateRule.c x2)], [], .bool r1_3, [], 1, 0⟩, ⟨37, [sl 2 GateTeam.c x0, sl 4 GateRule.c x1, .agg (GateRule.c x2)], [], .int .i64 r1_8, [], 1, 0⟩] [same [sl 2 GateTeam.c x0, sl 4 GateRule.c x1, .agg (GateRule.c x2)], r1_3 = true, same [sl 2 GateTeam.c x0, sl 4 GateRule.c x1, .agg (GateRule.c x2)]] (by kernel_rfl) ⟨rfl, d1_4, rfl, trivial⟩ ⟨impl_rulesOk.calls _ _ _ _ _ hr1_3, impl_bare.calls _ _ _ _ _ hr1_8, trivial⟩ ?_
    obtain rfl := Option.some.inj h
    exact awp_ret (fin_ob [] (by kernel_rfl) trivial)
  · replace h := if_f d1_4 h
    refine seq_region [(11, false)] [⟨36, [sl 2 GateTeam.c x0, sl 4 GateRule.c x1, .agg (GateRule.c x2)], [], .bool r1_3, [], 1, 0⟩] [same [sl 2 GateTeam.c x0, sl 4 GateRule.c x1, .agg (GateRule.c x2)], r1_3 = false] (by kernel_rfl) ⟨rfl, d1_4, trivial⟩ ⟨impl_rulesOk.calls _ _ _ _ _ hr1_3, trivial⟩ ?_
    obtain rfl := Option.some.inj h
    exact awp_ret (fin_ob [] (by kernel_rfl) trivial)
end Go.Proofs.Ytkfdfapickladaa.Fn
