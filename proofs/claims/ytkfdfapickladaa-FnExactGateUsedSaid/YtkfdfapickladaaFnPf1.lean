/- What the functions of the program compute. No condition. -/
import Derived.Test.YtkfdfapickladaaFnPf0
namespace Go.Proofs.Ytkfdfapickladaa.Fn
open Go Go.RowKit Go.Proofs.Ytkfdfapickladaa.Abs
theorem laws_eqGateTeam.calls (k : Nat) (x0 : GateTeam) (x1 : GateTeam) (r : Bool) (h : laws_eqGateTeam k x0 x1 = some r) : PC Try.prog 38 [.agg (GateTeam.c x0), .agg (GateTeam.c x1)] (.bool r) := by
  unfold laws_eqGateTeam at h
  refine pc_intro (fn := Try.f38) Try.call38 Try.func38 rfl (Nat.le_of_ble_eq_true rfl) rfl rfl ?_
  refine seq_reg (by kernel_rfl) ?_
  refine awp_seq ?_
  refine seq_reg (by kernel_rfl) ?_
  refine awp_cond (b := (!(x0.Name == x1.Name))) (by kernel_rfl) (fun hb => ?_) (fun hb => ?_)
  · replace h := if_t hb h
    refine seq_reg (by kernel_rfl) ?_
    obtain rfl := Option.some.inj h
    exact awp_ret (fin_ob [] (by kernel_rfl) trivial)
  · replace h := if_f hb h
    refine awp_skip ?_
    refine awp_seq ?_
    refine seq_reg (by kernel_rfl) ?_
    refine awp_cond (b := (!(x0.Over == x1.Over))) (by kernel_rfl) (fun hb => ?_) (fun hb => ?_)
    · replace h := if_t hb h
      refine seq_reg (by kernel_rfl) ?_
      obtain rfl := Option.some.inj h
      exact awp_ret (fin_ob [] (by kernel_rfl) trivial)
    · replace h := if_f hb h
      refine awp_skip ?_
      refine seq_reg (by kernel_rfl) ?_
      obtain rfl := Option.some.inj h
      exact awp_ret (fin_ob [] (by kernel_rfl) trivial)

theorem laws_eqGateTeamS.calls (k : Nat) (x0 : List (GateTeam)) (x1 : List (GateTeam)) (r : Bool) (h : laws_eqGateTeamS k x0 x1 = some r) : PC Try.prog 14 [sl 2 GateTeam.c x0, sl 2 GateTeam.c x1] (.bool r) := by
  unfold laws_eqGateTeamS at h
  refine pc_intro (fn := Try.f14) Try.call14 Try.func14 rfl (Nat.le_of_ble_eq_true rfl) rfl rfl ?_
  refine seq_reg (by kernel_rfl) ?_
  refine awp_seq ?_
  refine seq_reg (by kernel_rfl) ?_
  refine awp_cond (b := ((x0.length : Int) != (x1.length : Int))) (by kernel_rfl) (fun hb => ?_) (fun hb => ?_)
  · replace h := if_t hb h
    refine seq_reg (by kernel_rfl) ?_
    obtain rfl := Option.some.inj h
    exact awp_ret (fin_ob [] (by kernel_rfl) trivial)
  · replace h := if_f hb h
    refine awp_skip ?_
    refine awp_seq ?_
    refine seq_reg (by kernel_rfl) ?_
    refine awp_block ?_
    refine awp_loop_r (nt := 27) (N := 0) (l := [(0, sl 2 GateTeam.c x0), (1, sl 2 GateTeam.c x1), (5, .int .i64 0)]) (hs := []) (r := []) rfl ⟨by kernel_rfl, by kernel_rfl, trivial⟩ ?_
    refine loop_ind (fr := fun (v0_5 : (Int)) => Fm 27 0 [(0, sl 2 GateTeam.c x0), (1, sl 2 GateTeam.c x1), (5, .int .i64 v0_5)] []) (f := fun k (z : (Int)) => match z with | v0_5 => laws_eqGateTeamS.l0 x0 x1 k v0_5) ?_ (fun _ => rfl) k 0 h
    clear h
    rintro k0 v0_5 ih0 h
    replace h : (laws_eqGateTeamS.l0 x0 x1 (k0 + 1) v0_5).bind _ = some _ := h
    rw [laws_eqGateTeamS.l0] at h
    refine aloop_r ?_
    refine awp_seq ?_
    refine seq_reg (by kernel_rfl) ?_
    refine awp_cond (b := (decide (v0_5 < (x0.length : Int)))) (by kernel_rfl) (fun hb => ?_) (fun hb => ?_)
    · replace h := bif_p hb h
      refine awp_skip ?_
      refine awp_seq ?_
      refine awp_block ?_
      obtain ⟨o6_2_0, h⟩ := bif_s h
      obtain ⟨o6_6_0, h⟩ := bif_s h
      obtain ⟨r6_8, hr6_8, h⟩ := bbind_s h
      refine seq_draw hmix #[0, 0, 3, 7, 0, 0, 48, 112, 255, 511] [] [] [⟨38, [.agg (GateTeam.c (x0.getD v0_5.toNat default)), .agg (GateTeam.c (x1.getD v0_5.toNat default))], [], .bool r6_8, [], 0, 0⟩] [(0 : Int) ≤ v0_5 ∧ v0_5 < (x0.length : Int), (0 : Int) ≤ v0_5 ∧ v0_5 < (x1.length : Int), same [.agg (GateTeam.c (x0.getD v0_5.toNat default)), .agg (GateTeam.c (x1.getD v0_5.toNat default))]] (by kernel_rfl) ⟨o6_2_0, o6_6_0, rfl, trivial⟩ ⟨laws_eqGateTeam.calls _ _ _ _ hr6_8, trivial⟩ ?_
      refine awp_cond (b := (!r6_8)) (by kernel_rfl) (fun hb => ?_) (fun hb => ?_)
      · replace h := bif_t hb h
        refine seq_reg (by kernel_rfl) ?_
        obtain rfl := Option.some.inj h
        exact awp_ret (fin_ob [] (by kernel_rfl) trivial)
      · replace h := bif_f hb h
        refine awp_skip ?_
        refine awp_reg (by kernel_rfl) ?_
        exact ⟨_, _, [(0, sl 2 GateTeam.c x0), (1, sl 2 GateTeam.c x1), (5, .int .i64 (wr .i64 (v0_5 + 1)))], [], [], ⟨by kernel_rfl, by kernel_rfl, trivial⟩, ih0 (wr .i64 (v0_5 + 1)) h⟩
    · replace h := bif_n hb h
      refine awp_exit ?_
      replace h := bsome h
      refine seq_reg (by kernel_rfl) ?_
      obtain rfl := Option.some.inj h
      exact awp_ret (fin_ob [] (by kernel_rfl) trivial)

theorem laws_eqIntS.calls (k : Nat) (x0 : List (Int)) (x1 : List (Int)) (r : Bool) (h : laws_eqIntS k x0 x1 = some r) : PC Try.prog 39 [sl 1 cI64 x0, sl 1 cI64 x1] (.bool r) := by
  unfold laws_eqIntS at h
  refine pc_intro (fn := Try.f39) Try.call39 Try.func39 rfl (Nat.le_of_ble_eq_true rfl) rfl rfl ?_
  refine seq_reg (by kernel_rfl) ?_
  refine awp_seq ?_
  refine seq_reg (by kernel_rfl) ?_
  refine awp_cond (b := ((x0.length : Int) != (x1.length : Int))) (by kernel_rfl) (fun hb => ?_) (fun hb => ?_)
  · replace h := if_t hb h
    refine seq_reg (by kernel_rfl) ?_
    obtain rfl := Option.some.inj h
    exact awp_ret (fin_ob [] (by kernel_rfl) trivial)
  · replace h := if_f hb h
    refine awp_skip ?_
    refine awp_seq ?_
    refine seq_reg (by kernel_rfl) ?_
    refine awp_block ?_
    refine awp_loop_r (nt := 26) (N := 0) (l := [(0, sl 1 cI64 x0), (1, sl 1 cI64 x1), (5, .int .i64 0)]) (hs := []) (r := []) rfl ⟨by kernel_rfl, by kernel_rfl, trivial⟩ ?_
    refine loop_ind (fr := fun (v0_5 : (Int)) => Fm 26 0 [(0, sl 1 cI64 x0), (1, sl 1 cI64 x1), (5, .int .i64 v0_5)] []) (f := fun k (z : (Int)) => match z with | v0_5 => laws_eqIntS.l0 x0 x1 k v0_5) ?_ (fun _ => rfl) k 0 h
    clear h
    rintro k0 v0_5 ih0 h
    replace h : (laws_eqIntS.l0 x0 x1 (k0 + 1) v0_5).bind _ = some _ := h
    rw [laws_eqIntS.l0] at h
    refine aloop_r ?_
    refine awp_seq ?_
    refine seq_reg (by kernel_rfl) ?_
    refine awp_cond (b := (decide (v0_5 < (x0.length : Int)))) (by kernel_rfl) (fun hb => ?_) (fun hb => ?_)
    · replace h := bif_p hb h
      refine awp_skip ?_
      refine awp_seq ?_
      refine awp_block ?_
      obtain ⟨o6_2_0, h⟩ := bif_s h
      obtain ⟨o6_6_0, h⟩ := bif_s h
      refine seq_draw hmix #[0, 0, 3, 7, 0, 0, 48, 112, 255] [] [] [] [(0 : Int) ≤ v0_5 ∧ v0_5 < (x0.length : Int), (0 : Int) ≤ v0_5 ∧ v0_5 < (x1.length : Int)] (by kernel_rfl) ⟨o6_2_0, o6_6_0, trivial⟩ trivial ?_
      refine awp_cond (b := ((x0.getD v0_5.toNat default) != (x1.getD v0_5.toNat default))) (by kernel_rfl) (fun hb => ?_) (fun hb => ?_)
      · replace h := bif_t hb h
        refine seq_reg (by kernel_rfl) ?_
        obtain rfl := Option.some.inj h
        exact awp_ret (fin_ob [] (by kernel_rfl) trivial)
      · replace h := bif_f hb h
        refine awp_skip ?_
        refine awp_reg (by kernel_rfl) ?_
        exact ⟨_, _, [(0, sl 1 cI64 x0), (1, sl 1 cI64 x1), (5, .int .i64 (wr .i64 (v0_5 + 1)))], [], [], ⟨by kernel_rfl, by kernel_rfl, trivial⟩, ih0 (wr .i64 (v0_5 + 1)) h⟩
    · replace h := bif_n hb h
      refine awp_exit ?_
      replace h := bsome h
      refine seq_reg (by kernel_rfl) ?_
      obtain rfl := Option.some.inj h
      exact awp_ret (fin_ob [] (by kernel_rfl) trivial)

theorem laws_eqGateRule.calls (k : Nat) (x0 : GateRule) (x1 : GateRule) (r : Bool) (h : laws_eqGateRule k x0 x1 = some r) : PC Try.prog 16 [.agg (GateRule.c x0), .agg (GateRule.c x1)] (.bool r) := by
  unfold laws_eqGateRule at h
  refine pc_intro (fn := Try.f16) Try.call16 Try.func16 rfl (Nat.le_of_ble_eq_true rfl) rfl rfl ?_
  refine seq_reg (by kernel_rfl) ?_
  refine awp_seq ?_
  obtain ⟨r1_4, hr1_4, h⟩ := bind_s h
  refine seq_region [] [⟨39, [sl 1 cI64 x0.Verbs, sl 1 cI64 x1.Verbs], [], .bool r1_4, [], 2, 0⟩] [same [sl 1 cI64 x0.Verbs, sl 1 cI64 x1.Verbs]] (by kernel_rfl) ⟨rfl, trivial⟩ ⟨laws_eqIntS.calls _ _ _ _ hr1_4, trivial⟩ ?_
  refine awp_cond (b := (!r1_4)) (by kernel_rfl) (fun hb => ?_) (fun hb => ?_)
  · replace h := if_t hb h
    refine seq_reg (by kernel_rfl) ?_
    obtain rfl := Option.some.inj h
    exact awp_ret (fin_ob [] (by kernel_rfl) trivial)
  · replace h := if_f hb h
    refine awp_skip ?_
    refine awp_seq ?_
    refine seq_reg (by kernel_rfl) ?_
    refine awp_cond (b := (!(x0.Kind == x1.Kind))) (by kernel_rfl) (fun hb => ?_) (fun hb => ?_)
    · replace h := if_t hb h
      refine seq_reg (by kernel_rfl) ?_
      obtain rfl := Option.some.inj h
      exact awp_ret (fin_ob [] (by kernel_rfl) trivial)
    · replace h := if_f hb h
      refine awp_skip ?_
      refine awp_seq ?_
      refine seq_reg (by kernel_rfl) ?_
      refine awp_cond (b := (!(x0.Team == x1.Team))) (by kernel_rfl) (fun hb => ?_) (fun hb => ?_)
      · replace h := if_t hb h
        refine seq_reg (by kernel_rfl) ?_
        obtain rfl := Option.some.inj h
        exact awp_ret (fin_ob [] (by kernel_rfl) trivial)
      · replace h := if_f hb h
        refine awp_skip ?_
        refine awp_seq ?_
        refine seq_reg (by kernel_rfl) ?_
        refine awp_cond (b := (!(x0.Prefix == x1.Prefix))) (by kernel_rfl) (fun hb => ?_) (fun hb => ?_)
        · replace h := if_t hb h
          refine seq_reg (by kernel_rfl) ?_
          obtain rfl := Option.some.inj h
          exact awp_ret (fin_ob [] (by kernel_rfl) trivial)
        · replace h := if_f hb h
          refine awp_skip ?_
          refine seq_reg (by kernel_rfl) ?_
          obtain rfl := Option.some.inj h
          exact awp_ret (fin_ob [] (by kernel_rfl) trivial)

theorem laws_eqGateRuleS.calls (k : Nat) (x0 : List (GateRule)) (x1 : List (GateRule)) (r : Bool) (h : laws_eqGateRuleS k x0 x1 = some r) : PC Try.prog 15 [sl 4 GateRule.c x0, sl 4 GateRule.c x1] (.bool r) := by
  unfold laws_eqGateRuleS at h
  refine pc_intro (fn := Try.f15) Try.call15 Try.func15 rfl (Nat.le_of_ble_eq_true rfl) rfl rfl ?_
  refine seq_reg (by kernel_rfl) ?_
  refine awp_seq ?_
  refine seq_reg (by kernel_rfl) ?_
  refine awp_cond (b := ((x0.length : Int) != (x1.length : Int))) (by kernel_rfl) (fun hb => ?_) (fun hb => ?_)
  · replace h := if_t hb h
    refine seq_reg (by kernel_rfl) ?_
    obtain rfl := Option.some.inj h
    exact awp_ret (fin_ob [] (by kernel_rfl) trivial)
  · replace h := if_f hb h
    refine awp_skip ?_
    refine awp_seq ?_
    refine seq_reg (by kernel_rfl) ?_
    refine awp_block ?_
    refine awp_loop_r (nt := 27) (N := 0) (l := [(0, sl 4 GateRule.c x0), (1, sl 4 GateRule.c x1), (5, .int .i64 0)]) (hs := []) (r := []) rfl ⟨by kernel_rfl, by kernel_rfl, trivial⟩ ?_
    refine loop_ind (fr := fun (v0_5 : (Int)) => Fm 27 0 [(0, sl 4 GateRule.c x0), (1, sl 4 GateRule.c x1), (5, .int .i64 v0_5)] []) (f := fun k (z : (Int)) => match z with | v0_5 => laws_eqGateRuleS.l0 x0 x1 k v0_5) ?_ (fun _ => rfl) k 0 h
    clear h
    rintro k0 v0_5 ih0 h
    replace h : (laws_eqGateRuleS.l0 x0 x1 (k0 + 1) v0_5).bind _ = some _ := h
    rw [laws_eqGateRuleS.l0] at h
    refine aloop_r ?_
    refine awp_seq ?_
    refine seq_reg (by kernel_rfl) ?_
    refine awp_cond (b := (decide (v0_5 < (x0.length : Int)))) (by kernel_rfl) (fun hb => ?_) (fun hb => ?_)
    · replace h := bif_p hb h
      refine awp_skip ?_
      refine awp_seq ?_
      refine awp_block ?_
      obtain ⟨o6_2_0, h⟩ := bif_s h
      obtain ⟨o6_6_0, h⟩ := bif_s h
      obtain ⟨r6_8, hr6_8, h⟩ := bbind_s h
      refine seq_draw hmix #[0, 0, 3, 7, 0, 0, 48, 112, 255, 511] [] [] [⟨16, [.agg (GateRule.c (x0.getD v0_5.toNat default)), .agg (GateRule.c (x1.getD v0_5.toNat default))], [], .bool r6_8, [], 0, 0⟩] [(0 : Int) ≤ v0_5 ∧ v0_5 < (x0.length : Int), (0 : Int) ≤ v0_5 ∧ v0_5 < (x1.length : Int), same [.agg (GateRule.c (x0.getD v0_5.toNat default)), .agg (GateRule.c (x1.getD v0_5.toNat default))]] (by kernel_rfl) ⟨o6_2_0, o6_6_0, rfl, trivial⟩ ⟨laws_eqGateRule.calls _ _ _ _ hr6_8, trivial⟩ ?_
      refine awp_cond (b := (!r6_8)) (by kernel_rfl) (fun hb => ?_) (fun hb => ?_)
      · replace h := bif_t hb h
        refine seq_reg (by kernel_rfl) ?_
        obtain rfl := Option.some.inj h
        exact awp_ret (fin_ob [] (by kernel_rfl) trivial)
      · replace h := bif_f hb h
        refine awp_skip ?_
        refine awp_reg (by kernel_rfl) ?_
        exact ⟨_, _, [(0, sl 4 GateRule.c x0), (1, sl 4 GateRule.c x1), (5, .int .i64 (wr .i64 (v0_5 + 1)))], [], [], ⟨by kernel_rfl, by kernel_rfl, trivial⟩, ih0 (wr .i64 (v0_5 + 1)) h⟩
    · replace h := bif_n hb h
      refine awp_exit ?_
      replace h := bsome h
      refine seq_reg (by kernel_rfl) ?_
      obtain rfl := Option.some.inj h
      exact awp_ret (fin_ob [] (by kernel_rfl) trivial)

theorem laws_FnExactGateCovers.calls (k : Nat) (x0 : List (GateTeam)) (x1 : List (GateRule)) (x2 : GateRule) (r : Bool) (h : laws_FnExactGateCovers k x0 x1 x2 = some r) : PC Try.prog 3 [sl 2 GateTeam.c x0, sl 4 GateRule.c x1, .agg (GateRule.c x2)] (.bool r) := by
  unfold laws_FnExactGateCovers at h
  refine pc_intro (fn := Try.f3) Try.call3 Try.func3 rfl (Nat.le_of_ble_eq_true rfl) rfl rfl ?_
  refine seq_reg (by kernel_rfl) ?_
  refine seq_reg (by kernel_rfl) ?_
  obtain ⟨r2_2, hr2_2, h⟩ := bind_s h
  refine seq_region [] [⟨6, [sl 2 GateTeam.c x0, .int .i64 1048576], [], .int .i64 r2_2, [], 1, 0⟩] [same [sl 2 GateTeam.c x0, .int .i64 1048576]] (by kernel_rfl) ⟨rfl, trivial⟩ ⟨laws_szGateTeamS.calls _ _ _ _ hr2_2, trivial⟩ ?_
  refine awp_seq ?_
  refine seq_reg (by kernel_rfl) ?_
  refine awp_cond (b := (decide (r2_2 < 0))) (by kernel_rfl) (fun hb => ?_) (fun hb => ?_)
  · replace h := if_p hb h
    refine seq_reg (by kernel_rfl) ?_
    obtain rfl := Option.some.inj h
    exact awp_ret (fin_ob [] (by kernel_rfl) trivial)
  · replace h := if_n hb h
    refine awp_skip ?_
    obtain ⟨r5_2, hr5_2, h⟩ := bind_s h
    refine seq_region [] [⟨7, [sl 4 GateRule.c x1, .int .i64 r2_2], [], .int .i64 r5_2, [], 1, 0⟩] [same [sl 4 GateRule.c x1, .int .i64 r2_2]] (by kernel_rfl) ⟨rfl, trivial⟩ ⟨laws_szGateRuleS.calls _ _ _ _ hr5_2, trivial⟩ ?_
    refine awp_seq ?_
    refine seq_reg (by kernel_rfl) ?_
    refine awp_cond (b := (decide (r5_2 < 0))) (by kernel_rfl) (fun hb => ?_) (fun hb => ?_)
    · replace h := if_p hb h
      refine seq_reg (by kernel_rfl) ?_
      obtain rfl := Option.some.inj h
      exact awp_ret (fin_ob [] (by kernel_rfl) trivial)
    · replace h := if_n hb h
      refine awp_skip ?_
      obtain ⟨r8_2, hr8_2, h⟩ := bind_s h
      refine seq_region [] [⟨8, [.agg (GateRule.c x2), .int .i64 r5_2], [], .int .i64 r8_2, [], 1, 0⟩] [same [.agg (GateRule.c x2), .int .i64 r5_2]] (by kernel_rfl) ⟨rfl, trivial⟩ ⟨laws_szGateRule.calls _ _ _ _ hr8_2, trivial⟩ ?_
      refine awp_seq ?_
      refine seq_reg (by kernel_rfl) ?_
      refine awp_cond (b := (decide (r8_2 < 0))) (by kernel_rfl) (fun hb => ?_) (fun hb => ?_)
      · replace h := if_p hb h
        refine seq_reg (by kernel_rfl) ?_
        obtain rfl := Option.some.inj h
        exact awp_ret (fin_ob [] (by kernel_rfl) trivial)
      · replace h := if_n hb h
        refine awp_skip ?_
        obtain ⟨r11_1, hr11_1, h⟩ := bind_s h
        obtain ⟨r11_3, hr11_3, h⟩ := bind_s h
        obtain ⟨r11_5, hr11_5, h⟩ := bind_s h
        obtain ⟨r11_6, hr11_6, h⟩ := bind_s h
        refine seq_draw hmix #[0, 1, 0, 7, 0, 31, 63, 127] [] [] [⟨10, [sl 2 GateTeam.c x0], [], sl 2 GateTeam.c r11_1, [], 1, 0⟩, ⟨11, [sl 4 GateRule.c x1], [], sl 4 GateRule.c r11_3, [], 1, 0⟩, ⟨12, [.agg (GateRule.c x2)], [], .agg (GateRule.c r11_5), [], 1, 0⟩, ⟨9, [sl 2 GateTeam.c r11_1, sl 4 GateRule.c r11_3, .agg (GateRule.c r11_5)], [], .bool r11_6, [], 1, 0⟩] [same [sl 2 GateTeam.c x0], same [sl 4 GateRule.c x1], same [.agg (GateRule.c x2)], same [sl 2 GateTeam.c r11_1, sl 4 GateRule.c r11_3, .agg (GateRule.c r11_5)]] (by kernel_rfl) ⟨rfl, rfl, rfl, rfl, trivial⟩ ⟨laws_toGateTeamS.calls _ _ _ hr11_1, laws_toGateRuleS.calls _ _ _ hr11_3, laws_toGateRule.calls _ _ _ hr11_5, spec_GateCovers.calls _ _ _ _ _ hr11_6, trivial⟩ ?_
        obtain ⟨r12_1, hr12_1, h⟩ := bind_s h
        refine seq_region [] [⟨10, [sl 2 GateTeam.c x0], [], sl 2 GateTeam.c r12_1, [], 1, 0⟩] [same [sl 2 GateTeam.c x0]] (by kernel_rfl) ⟨rfl, trivial⟩ ⟨laws_toGateTeamS.calls _ _ _ hr12_1, trivial⟩ ?_
        obtain ⟨r13_1, hr13_1, h⟩ := bind_s h
        refine seq_region [] [⟨11, [sl 4 GateRule.c x1], [], sl 4 GateRule.c r13_1, [], 1, 0⟩] [same [sl 4 GateRule.c x1]] (by kernel_rfl) ⟨rfl, trivial⟩ ⟨laws_toGateRuleS.calls _ _ _ hr13_1, trivial⟩ ?_
        obtain ⟨r14_1, hr14_1, h⟩ := bind_s h
        refine seq_region [] [⟨12, [.agg (GateRule.c x2)], [], .agg (GateRule.c r14_1), [], 1, 0⟩] [same [.agg (GateRule.c x2)]] (by kernel_rfl) ⟨rfl, trivial⟩ ⟨laws_toGateRule.calls _ _ _ hr14_1, trivial⟩ ?_
        obtain ⟨r15_3, hr15_3, h⟩ := bind_s h
        refine seq_region [] [⟨13, [sl 2 GateTeam.c r12_1, sl 4 GateRule.c r13_1, .agg (GateRule.c r14_1)], [], .bool r15_3, [], 2, 0⟩] [same [sl 2 GateTeam.c r12_1, sl 4 GateRule.c r13_1, .agg (GateRule.c r14_1)]] (by kernel_rfl) ⟨rfl, trivial⟩ ⟨impl_GateCovers.calls _ _ _ _ _ hr15_3, trivial⟩ ?_
        refine awp_seq ?_
        refine seq_reg (by kernel_rfl) ?_
        refine awp_cond (b := (!(r15_3 == r11_6))) (by kernel_rfl) (fun hb => ?_) (fun hb => ?_)
        · replace h := if_t hb h
          refine seq_reg (by kernel_rfl) ?_
          obtain rfl := Option.some.inj h
          exact awp_ret (fin_ob [] (by kernel_rfl) trivial)
        · replace h := if_f hb h
          refine awp_skip ?_
          refine awp_seq ?_
          obtain ⟨r18_2, hr18_2, h⟩ := bind_s h
          obtain ⟨r18_3, hr18_3, h⟩ := bind_s h
          refine seq_region [] [⟨10, [sl 2 GateTeam.c x0], [], sl 2 GateTeam.c r18_2, [], 2, 0⟩, ⟨14, [sl 2 GateTeam.c r12_1, sl 2 GateTeam.c r18_2], [], .bool r18_3, [], 2, 0⟩] [same [sl 2 GateTeam.c x0], same [sl 2 GateTeam.c r12_1, sl 2 GateTeam.c r18_2]] (by kernel_rfl) ⟨rfl, rfl, trivial⟩ ⟨laws_toGateTeamS.calls _ _ _ hr18_2, laws_eqGateTeamS.calls _ _ _ _ hr18_3, trivial⟩ ?_
          refine awp_cond (b := (!r18_3)) (by kernel_rfl) (fun hb => ?_) (fun hb => ?_)
          · replace h := if_t hb h
            refine seq_reg (by kernel_rfl) ?_
            obtain rfl := Option.some.inj h
            exact awp_ret (fin_ob [] (by kernel_rfl) trivial)
          · replace h := if_f hb h
            refine awp_skip ?_
            refine awp_seq ?_
            obtain ⟨r20_2, hr20_2, h⟩ := bind_s h
            obtain ⟨r20_3, hr20_3, h⟩ := bind_s h
            refine seq_region [] [⟨11, [sl 4 GateRule.c x1], [], sl 4 GateRule.c r20_2, [], 2, 0⟩, ⟨15, [sl 4 GateRule.c r13_1, sl 4 GateRule.c r20_2], [], .bool r20_3, [], 2, 0⟩] [same [sl 4 GateRule.c x1], same [sl 4 GateRule.c r13_1, sl 4 GateRule.c r20_2]] (by kernel_rfl) ⟨rfl, rfl, trivial⟩ ⟨laws_toGateRuleS.calls _ _ _ hr20_2, laws_eqGateRuleS.calls _ _ _ _ hr20_3, trivial⟩ ?_
            refine awp_cond (b := (!r20_3)) (by kernel_rfl) (fun hb => ?_) (fun hb => ?_)
            · replace h := if_t hb h
              refine seq_reg (by kernel_rfl) ?_
              obtain rfl := Option.some.inj h
              exact awp_ret (fin_ob [] (by kernel_rfl) trivial)
            · replace h := if_f hb h
              refine awp_skip ?_
              refine awp_seq ?_
              obtain ⟨r22_2, hr22_2, h⟩ := bind_s h
              obtain ⟨r22_3, hr22_3, h⟩ := bind_s h
              refine seq_draw hmix #[0, 0, 2, 7, 15] [] [] [⟨12, [.agg (GateRule.c x2)], [], .agg (GateRule.c r22_2), [], 2, 0⟩, ⟨16, [.agg (GateRule.c r14_1), .agg (GateRule.c r22_2)], [], .bool r22_3, [], 2, 0⟩] [same [.agg (GateRule.c x2)], same [.agg (GateRule.c r14_1), .agg (GateRule.c r22_2)]] (by kernel_rfl) ⟨rfl, rfl, trivial⟩ ⟨laws_toGateRule.calls _ _ _ hr22_2, laws_eqGateRule.calls _ _ _ _ hr22_3, trivial⟩ ?_
              refine awp_cond (b := (!r22_3)) (by kernel_rfl) (fun hb => ?_) (fun hb => ?_)
              · replace h := if_t hb h
                refine seq_reg (by kernel_rfl) ?_
                obtain rfl := Option.some.inj h
                exact awp_ret (fin_ob [] (by kernel_rfl) trivial)
              · replace h := if_f hb h
                refine awp_skip ?_
                refine seq_reg (by kernel_rfl) ?_
                obtain rfl := Option.some.inj h
                exact awp_ret (fin_ob [] (by kernel_rfl) trivial)

theorem laws_szStringS.calls (k : Nat) (x0 : List (List UInt8)) (x1 : Int) (r : Int) (h : laws_szStringS k x0 x1 = some r) : PC Try.prog 42 [sl 1 cStr x0, .int .i64 x1] (.int .i64 r) := by
  unfold laws_szStringS at h
  refine pc_intro (fn := Try.f42) Try.call42 Try.func42 rfl (Nat.le_of_ble_eq_true rfl) rfl rfl ?_
  refine seq_reg (by kernel_rfl) ?_
  refine seq_reg (by kernel_rfl) ?_
  refine awp_seq ?_
  refine seq_reg (by kernel_rfl) ?_
  refine awp_cond (b := (decide ((wr .i64 (x1 - (x0.length : Int))) < 0))) (by kernel_rfl) (fun hb => ?_) (fun hb => ?_)
  · replace h := if_p hb h
    refine seq_reg (by kernel_rfl) ?_
    obtain rfl := Option.some.inj h
    exact awp_ret (fin_ob [] (by kernel_rfl) trivial)
  · replace h := if_n hb h
    refine awp_skip ?_
    refine awp_seq ?_
    refine seq_reg (by kernel_rfl) ?_
    refine awp_block ?_
    refine awp_loop_r (nt := 28) (N := 0) (l := [(0, sl 1 cStr x0), (1, .int .i64 (wr .i64 (x1 - (x0.length : Int)))), (5, .int .i64 0)]) (hs := []) (r := []) rfl ⟨by kernel_rfl, by kernel_rfl, trivial⟩ ?_
    refine loop_ind (fr := fun (z : (Int) × (Int)) => match z with | (v0_1, v0_5) => Fm 28 0 [(0, sl 1 cStr x0), (1, .int .i64 v0_1), (5, .int .i64 v0_5)] []) (f := fun k (z : (Int) × (Int)) => match z with | (v0_1, v0_5) => laws_szStringS.l0 x0 k v0_1 v0_5) ?_ (fun _ => rfl) k ((wr .i64 (x1 - (x0.length : Int))), 0) h
    clear h
    rintro k0 ⟨v0_1, v0_5⟩ ih0 h
    replace h : (laws_szStringS.l0 x0 (k0 + 1) v0_1 v0_5).bind _ = some _ := h
    rw [laws_szStringS.l0] at h
    refine aloop_r ?_
    refine awp_seq ?_
    refine seq_reg (by kernel_rfl) ?_
    refine awp_cond (b := (decide (v0_5 < (x0.length : Int)))) (by kernel_rfl) (fun hb => ?_) (fun hb => ?_)
    · replace h := bif_p hb h
      refine awp_skip ?_
      refine awp_seq ?_
      refine awp_block ?_
      obtain ⟨o7_3_0, h⟩ := bif_s h
      refine seq_region [] [] [(0 : Int) ≤ v0_5 ∧ v0_5 < (x0.length : Int)] (by kernel_rfl) ⟨o7_3_0, trivial⟩ trivial ?_
      refine seq_reg (by kernel_rfl) ?_
      refine awp_cond (b := (decide ((wr .i64 (v0_1 - ((x0.getD v0_5.toNat default).length : Int))) < 0))) (by kernel_rfl) (fun hb => ?_) (fun hb => ?_)
      · replace h := bif_p hb h
        refine seq_reg (by kernel_rfl) ?_
        obtain rfl := Option.some.inj h
        exact awp_ret (fin_ob [] (by kernel_rfl) trivial)
      · replace h := bif_n hb h
        refine awp_skip ?_
        refine awp_reg (by kernel_rfl) ?_
        exact ⟨_, _, [(0, sl 1 cStr x0), (1, .int .i64 (wr .i64 (v0_1 - ((x0.getD v0_5.toNat default).length : Int)))), (5, .int .i64 (wr .i64 (v0_5 + 1)))], [], [], ⟨by kernel_rfl, by kernel_rfl, trivial⟩, ih0 ((wr .i64 (v0_1 - ((x0.getD v0_5.toNat default).length : Int))), (wr .i64 (v0_5 + 1))) h⟩
    · replace h := bif_n hb h
      refine awp_exit ?_
      replace h := bsome h
      refine seq_reg (by kernel_rfl) ?_
      obtain rfl := Option.some.inj h
      exact awp_ret (fin_ob [] (by kernel_rfl) trivial)

theorem laws_szGateField.calls (k : Nat) (x0 : GateField) (x1 : Int) (r : Int) (h : laws_szGateField k x0 x1 = some r) : PC Try.prog 107 [.agg (GateField.c x0), .int .i64 x1] (.int .i64 r) := by
  unfold laws_szGateField at h
  refine pc_intro (fn := Try.f107) Try.call107 Try.func107 rfl (Nat.le_of_ble_eq_true rfl) rfl rfl ?_
  refine seq_reg (by kernel_rfl) ?_
  refine seq_reg (by kernel_rfl) ?_
  refine awp_seq ?_
  refine seq_reg (by kernel_rfl) ?_
  refine awp_cond (b := (decide ((wr .i64 (x1 - (x0.Name.length : Int))) < 0))) (by kernel_rfl) (fun hb => ?_) (fun hb => ?_)
  · replace h := if_p hb h
    refine seq_reg (by kernel_rfl) ?_
    obtain rfl := Option.some.inj h
    exact awp_ret (fin_ob [] (by kernel_rfl) trivial)
  · replace h := if_n hb h
    refine awp_skip ?_
    obtain ⟨r4_3, hr4_3, h⟩ := bind_s h
    refine seq_region [] [⟨42, [sl 1 cStr x0.Words, .int .i64 (wr .i64 (x1 - (x0.Name.length : Int)))], [], .int .i64 r4_3, [], 1, 0⟩] [same [sl 1 cStr x0.Words, .int .i64 (wr .i64 (x1 - (x0.Name.length : Int)))]] (by kernel_rfl) ⟨rfl, trivial⟩ ⟨laws_szStringS.calls _ _ _ _ hr4_3, trivial⟩ ?_
    refine awp_seq ?_
    refine seq_reg (by kernel_rfl) ?_
    refine awp_cond (b := (decide (r4_3 < 0))) (by kernel_rfl) (fun hb => ?_) (fun hb => ?_)
    · replace h := if_p hb h
      refine seq_reg (by kernel_rfl) ?_
      obtain rfl := Option.some.inj h
      exact awp_ret (fin_ob [] (by kernel_rfl) trivial)
    · replace h := if_n hb h
      refine awp_skip ?_
      refine seq_reg (by kernel_rfl) ?_
      refine awp_seq ?_
      refine seq_reg (by kernel_rfl) ?_
      refine awp_cond (b := (decide ((wr .i64 (r4_3 - (x0.To.length : Int))) < 0))) (by kernel_rfl) (fun hb => ?_) (fun hb => ?_)
      · replace h := if_p hb h
        refine seq_reg (by kernel_rfl) ?_
        obtain rfl := Option.some.inj h
        exact awp_ret (fin_ob [] (by kernel_rfl) trivial)
      · replace h := if_n hb h
        refine awp_skip ?_
        refine seq_reg (by kernel_rfl) ?_
        refine awp_seq ?_
        refine seq_reg (by kernel_rfl) ?_
        refine awp_cond (b := (decide ((wr .i64 ((wr .i64 (r4_3 - (x0.To.length : Int))) - (x0.Default.length : Int))) < 0))) (by kernel_rfl) (fun hb => ?_) (fun hb => ?_)
        · replace h := if_p hb h
          refine seq_reg (by kernel_rfl) ?_
          obtain rfl := Option.some.inj h
          exact awp_ret (fin_ob [] (by kernel_rfl) trivial)
        · replace h := if_n hb h
          refine awp_skip ?_
          refine seq_reg (by kernel_rfl) ?_
          refine awp_seq ?_
          refine seq_reg (by kernel_rfl) ?_
          refine awp_cond (b := (decide ((wr .i64 ((wr .i64 ((wr .i64 (r4_3 - (x0.To.length : Int))) - (x0.Default.length : Int))) - (x0.Weighs.length : Int))) < 0))) (by kernel_rfl) (fun hb => ?_) (fun hb => ?_)
          · replace h := if_p hb h
            refine seq_reg (by kernel_rfl) ?_
            obtain rfl := Option.some.inj h
            exact awp_ret (fin_ob [] (by kernel_rfl) trivial)
          · replace h := if_n hb h
            refine awp_skip ?_
            refine seq_reg (by kernel_rfl) ?_
            obtain rfl := Option.some.inj h
            exact awp_ret (fin_ob [] (by kernel_rfl) trivial)

theorem laws_szGateFieldS.calls (k : Nat) (x0 : List (GateField)) (x1 : Int) (r : Int) (h : laws_szGateFieldS k x0 x1 = some r) : PC Try.prog 102 [sl 11 GateField.c x0, .int .i64 x1] (.int .i64 r) := by
  unfold laws_szGateFieldS at h
  refine pc_intro (fn := Try.f102) Try.call102 Try.func102 rfl (Nat.le_of_ble_eq_true rfl) rfl rfl ?_
  refine seq_reg (by kernel_rfl) ?_
  refine seq_reg (by kernel_rfl) ?_
  refine awp_seq ?_
  refine seq_reg (by kernel_rfl) ?_
  refine awp_cond (b := (decide ((wr .i64 (x1 - (x0.length : Int))) < 0))) (by kernel_rfl) (fun hb => ?_) (fun hb => ?_)
  · replace h := if_p hb h
    refine seq_reg (by kernel_rfl) ?_
    obtain rfl := Option.some.inj h
    exact awp_ret (fin_ob [] (by kernel_rfl) trivial)
  · replace h := if_n hb h
    refine awp_skip ?_
    refine awp_seq ?_
    refine seq_reg (by kernel_rfl) ?_
    refine awp_block ?_
    refine awp_loop_r (nt := 27) (N := 0) (l := [(0, sl 11 GateField.c x0), (1, .int .i64 (wr .i64 (x1 - (x0.length : Int)))), (5, .int .i64 0)]) (hs := []) (r := []) rfl ⟨by kernel_rfl, by kernel_rfl, trivial⟩ ?_
    refine loop_ind (fr := fun (z : (Int) × (Int)) => match z with | (v0_1, v0_5) => Fm 27 0 [(0, sl 11 GateField.c x0), (1, .int .i64 v0_1), (5, .int .i64 v0_5)] []) (f := fun k (z : (Int) × (Int)) => match z with | (v0_1, v0_5) => laws_szGateFieldS.l0 x0 k v0_1 v0_5) ?_ (fun _ => rfl) k ((wr .i64 (x1 - (x0.length : Int))), 0) h
    clear h
    rintro k0 ⟨v0_1, v0_5⟩ ih0 h
    replace h : (laws_szGateFieldS.l0 x0 (k0 + 1) v0_1 v0_5).bind _ = some _ := h
    rw [laws_szGateFieldS.l0] at h
    refine aloop_r ?_
    refine awp_seq ?_
    refine seq_reg (by kernel_rfl) ?_
    refine awp_cond (b := (decide (v0_5 < (x0.length : Int)))) (by kernel_rfl) (fun hb => ?_) (fun hb => ?_)
    · replace h := bif_p hb h
      refine awp_skip ?_
      refine awp_seq ?_
      refine awp_block ?_
      obtain ⟨o7_2_0, h⟩ := bif_s h
      obtain ⟨r7_5, hr7_5, h⟩ := bbind_s h
      refine seq_region [] [⟨107, [.agg (GateField.c (x0.getD v0_5.toNat default)), .int .i64 v0_1], [], .int .i64 r7_5, [], 0, 0⟩] [(0 : Int) ≤ v0_5 ∧ v0_5 < (x0.length : Int), same [.agg (GateField.c (x0.getD v0_5.toNat default)), .int .i64 v0_1]] (by kernel_rfl) ⟨o7_2_0, rfl, trivial⟩ ⟨laws_szGateField.calls _ _ _ _ hr7_5, trivial⟩ ?_
      refine seq_reg (by kernel_rfl) ?_
      refine awp_cond (b := (decide (r7_5 < 0))) (by kernel_rfl) (fun hb => ?_) (fun hb => ?_)
      · replace h := bif_p hb h
        refine seq_reg (by kernel_rfl) ?_
        obtain rfl := Option.some.inj h
        exact awp_ret (fin_ob [] (by kernel_rfl) trivial)
      · replace h := bif_n hb h
        refine awp_skip ?_
        refine awp_reg (by kernel_rfl) ?_
        exact ⟨_, _, [(0, sl 11 GateField.c x0), (1, .int .i64 r7_5), (5, .int .i64 (wr .i64 (v0_5 + 1)))], [], [], ⟨by kernel_rfl, by kernel_rfl, trivial⟩, ih0 (r7_5, (wr .i64 (v0_5 + 1))) h⟩
    · replace h := bif_n hb h
      refine awp_exit ?_
      replace h := bsome h
      refine seq_reg (by kernel_rfl) ?_
      obtain rfl := Option.some.inj h
      exact awp_ret (fin_ob [] (by kernel_rfl) trivial)

theorem laws_szGateShape.calls (k : Nat) (x0 : GateShape) (x1 : Int) (r : Int) (h : laws_szGateShape k x0 x1 = some r) : PC Try.prog 74 [.agg (GateShape.c x0), .int .i64 x1] (.int .i64 r) := by
  unfold laws_szGateShape at h
  refine pc_intro (fn := Try.f74) Try.call74 Try.func74 rfl (Nat.le_of_ble_eq_true rfl) rfl rfl ?_
  refine seq_reg (by kernel_rfl) ?_
  refine seq_reg (by kernel_rfl) ?_
  refine awp_seq ?_
  refine seq_reg (by kernel_rfl) ?_
  refine awp_cond (b := (decide ((wr .i64 (x1 - (x0.Kind.length : Int))) < 0))) (by kernel_rfl) (fun hb => ?_) (fun hb => ?_)
  · replace h := if_p hb h
    refine seq_reg (by kernel_rfl) ?_
    obtain rfl := Option.some.inj h
    exact awp_ret (fin_ob [] (by kernel_rfl) trivial)
  · replace h := if_n hb h
    refine awp_skip ?_
    obtain ⟨r4_3, hr4_3, h⟩ := bind_s h
    refine seq_region [] [⟨102, [sl 11 GateField.c x0.Fields, .int .i64 (wr .i64 (x1 - (x0.Kind.length : Int)))], [], .int .i64 r4_3, [], 1, 0⟩] [same [sl 11 GateField.c x0.Fields, .int .i64 (wr .i64 (x1 - (x0.Kind.length : Int)))]] (by kernel_rfl) ⟨rfl, trivial⟩ ⟨laws_szGateFieldS.calls _ _ _ _ hr4_3, trivial⟩ ?_
    refine awp_seq ?_
    refine seq_reg (by kernel_rfl) ?_
    refine awp_cond (b := (decide (r4_3 < 0))) (by kernel_rfl) (fun hb => ?_) (fun hb => ?_)
    · replace h := if_p hb h
      refine seq_reg (by kernel_rfl) ?_
      obtain rfl := Option.some.inj h
      exact awp_ret (fin_ob [] (by kernel_rfl) trivial)
    · replace h := if_n hb h
      refine awp_skip ?_
      refine seq_reg (by kernel_rfl) ?_
      obtain rfl := Option.some.inj h
      exact awp_ret (fin_ob [] (by kernel_rfl) trivial)

theorem laws_szGateShapeS.calls (k : Nat) (x0 : List (GateShape)) (x1 : Int) (r : Int) (h : laws_szGateShapeS k x0 x1 = some r) : PC Try.prog 40 [sl 2 GateShape.c x0, .int .i64 x1] (.int .i64 r) := by
  unfold laws_szGateShapeS at h
  refine pc_intro (fn := Try.f40) Try.call40 Try.func40 rfl (Nat.le_of_ble_eq_true rfl) rfl rfl ?_
  refine seq_reg (by kernel_rfl) ?_
  refine seq_reg (by kernel_rfl) ?_
  refine awp_seq ?_
  refine seq_reg (by kernel_rfl) ?_
  refine awp_cond (b := (decide ((wr .i64 (x1 - (x0.length : Int))) < 0))) (by kernel_rfl) (fun hb => ?_) (fun hb => ?_)
  · replace h := if_p hb h
    refine seq_reg (by kernel_rfl) ?_
    obtain rfl := Option.some.inj h
    exact awp_ret (fin_ob [] (by kernel_rfl) trivial)
  · replace h := if_n hb h
    refine awp_skip ?_
    refine awp_seq ?_
    refine seq_reg (by kernel_rfl) ?_
    refine awp_block ?_
    refine awp_loop_r (nt := 27) (N := 0) (l := [(0, sl 2 GateShape.c x0), (1, .int .i64 (wr .i64 (x1 - (x0.length : Int)))), (5, .int .i64 0)]) (hs := []) (r := []) rfl ⟨by kernel_rfl, by kernel_rfl, trivial⟩ ?_
    refine loop_ind (fr := fun (z : (Int) × (Int)) => match z with | (v0_1, v0_5) => Fm 27 0 [(0, sl 2 GateShape.c x0), (1, .int .i64 v0_1), (5, .int .i64 v0_5)] []) (f := fun k (z : (Int) × (Int)) => match z with | (v0_1, v0_5) => laws_szGateShapeS.l0 x0 k v0_1 v0_5) ?_ (fun _ => rfl) k ((wr .i64 (x1 - (x0.length : Int))), 0) h
    clear h
    rintro k0 ⟨v0_1, v0_5⟩ ih0 h
    replace h : (laws_szGateShapeS.l0 x0 (k0 + 1) v0_1 v0_5).bind _ = some _ := h
    rw [laws_szGateShapeS.l0] at h
    refine aloop_r ?_
    refine awp_seq ?_
    refine seq_reg (by kernel_rfl) ?_
    refine awp_cond (b := (decide (v0_5 < (x0.length : Int)))) (by kernel_rfl) (fun hb => ?_) (fun hb => ?_)
    · replace h := bif_p hb h
      refine awp_skip ?_
      refine awp_seq ?_
      refine awp_block ?_
      obtain ⟨o7_2_0, h⟩ := bif_s h
      obtain ⟨r7_5, hr7_5, h⟩ := bbind_s h
      refine seq_region [] [⟨74, [.agg (GateShape.c (x0.getD v0_5.toNat default)), .int .i64 v0_1], [], .int .i64 r7_5, [], 0, 0⟩] [(0 : Int) ≤ v0_5 ∧ v0_5 < (x0.length : Int), same [.agg (GateShape.c (x0.getD v0_5.toNat default)), .int .i64 v0_1]] (by kernel_rfl) ⟨o7_2_0, rfl, trivial⟩ ⟨laws_szGateShape.calls _ _ _ _ hr7_5, trivial⟩ ?_
      refine seq_reg (by kernel_rfl) ?_
      refine awp_cond (b := (decide (r7_5 < 0))) (by kernel_rfl) (fun hb => ?_) (fun hb => ?_)
      · replace h := bif_p hb h
        refine seq_reg (by kernel_rfl) ?_
        obtain rfl := Option.some.inj h
        exact awp_ret (fin_ob [] (by kernel_rfl) trivial)
      · replace h := bif_n hb h
        refine awp_skip ?_
        refine awp_reg (by kernel_rfl) ?_
        exact ⟨_, _, [(0, sl 2 GateShape.c x0), (1, .int .i64 r7_5), (5, .int .i64 (wr .i64 (v0_5 + 1)))], [], [], ⟨by kernel_rfl, by kernel_rfl, trivial⟩, ih0 (r7_5, (wr .i64 (v0_5 + 1))) h⟩
    · replace h := bif_n hb h
      refine awp_exit ?_
      replace h := bsome h
      refine seq_reg (by kernel_rfl) ?_
      obtain rfl := Option.some.inj h
      exact awp_ret (fin_ob [] (by kernel_rfl) trivial)

theorem laws_szGateMend.calls (k : Nat) (x0 : GateMend) (x1 : Int) (r : Int) (h : laws_szGateMend k x0 x1 = some r) : PC Try.prog 75 [.agg (GateMend.c x0), .int .i64 x1] (.int .i64 r) := by
  unfold laws_szGateMend at h
  refine pc_intro (fn := Try.f75) Try.call75 Try.func75 rfl (Nat.le_of_ble_eq_true rfl) rfl rfl ?_
  refine seq_reg (by kernel_rfl) ?_
  refine seq_reg (by kernel_rfl) ?_
  refine awp_seq ?_
  refine seq_reg (by kernel_rfl) ?_
  refine awp_cond (b := (decide ((wr .i64 (x1 - (x0.Kind.length : Int))) < 0))) (by kernel_rfl) (fun hb => ?_) (fun hb => ?_)
  · replace h := if_p hb h
    refine seq_reg (by kernel_rfl) ?_
    obtain rfl := Option.some.inj h
    exact awp_ret (fin_ob [] (by kernel_rfl) trivial)
  · replace h := if_n hb h
    refine awp_skip ?_
    refine seq_reg (by kernel_rfl) ?_
    refine awp_seq ?_
    refine seq_reg (by kernel_rfl) ?_
    refine awp_cond (b := (decide ((wr .i64 ((wr .i64 (x1 - (x0.Kind.length : Int))) - (x0.Field.length : Int))) < 0))) (by kernel_rfl) (fun hb => ?_) (fun hb => ?_)
    · replace h := if_p hb h
      refine seq_reg (by kernel_rfl) ?_
      obtain rfl := Option.some.inj h
      exact awp_ret (fin_ob [] (by kernel_rfl) trivial)
    · replace h := if_n hb h
      refine awp_skip ?_
      refine seq_reg (by kernel_rfl) ?_
      refine awp_seq ?_
      refine seq_reg (by kernel_rfl) ?_
      refine awp_cond (b := (decide ((wr .i64 ((wr .i64 ((wr .i64 (x1 - (x0.Kind.length : Int))) - (x0.Field.length : Int))) - (x0.When.length : Int))) < 0))) (by kernel_rfl) (fun hb => ?_) (fun hb => ?_)
      · replace h := if_p hb h
        refine seq_reg (by kernel_rfl) ?_
        obtain rfl := Option.some.inj h
        exact awp_ret (fin_ob [] (by kernel_rfl) trivial)
      · replace h := if_n hb h
        refine awp_skip ?_
        refine seq_reg (by kernel_rfl) ?_
        refine awp_seq ?_
        refine seq_reg (by kernel_rfl) ?_
        refine awp_cond (b := (decide ((wr .i64 ((wr .i64 ((wr .i64 ((wr .i64 (x1 - (x0.Kind.length : Int))) - (x0.Field.length : Int))) - (x0.When.length : Int))) - (x0.Is.length : Int))) < 0))) (by kernel_rfl) (fun hb => ?_) (fun hb => ?_)
        · replace h := if_p hb h
          refine seq_reg (by kernel_rfl) ?_
          obtain rfl := Option.some.inj h
          exact awp_ret (fin_ob [] (by kernel_rfl) trivial)
        · replace h := if_n hb h
          refine awp_skip ?_
          refine seq_reg (by kernel_rfl) ?_
          refine awp_seq ?_
          refine seq_reg (by kernel_rfl) ?_
          refine awp_cond (b := (decide ((wr .i64 ((wr .i64 ((wr .i64 ((wr .i64 ((wr .i64 (x1 - (x0.Kind.length : Int))) - (x0.Field.length : Int))) - (x0.When.length : Int))) - (x0.Is.length : Int))) - (x0.Put.length : Int))) < 0))) (by kernel_rfl) (fun hb => ?_) (fun hb => ?_)
          · replace h := if_p hb h
            refine seq_reg (by kernel_rfl) ?_
            obtain rfl := Option.some.inj h
            exact awp_ret (fin_ob [] (by kernel_rfl) trivial)
          · replace h := if_n hb h
            refine awp_skip ?_
            refine seq_reg (by kernel_rfl) ?_
            refine awp_seq ?_
            refine seq_reg (by kernel_rfl) ?_
            refine awp_cond (b := (decide ((wr .i64 ((wr .i64 ((wr .i64 ((wr .i64 ((wr .i64 ((wr .i64 (x1 - (x0.Kind.length : Int))) - (x0.Field.length : Int))) - (x0.When.length : Int))) - (x0.Is.length : Int))) - (x0.Put.length : Int))) - (x0.From.length : Int))) < 0))) (by kernel_rfl) (fun hb => ?_) (fun hb => ?_)
            · replace h := if_p hb h
              refine seq_reg (by kernel_rfl) ?_
              obtain rfl := Option.some.inj h
              exact awp_ret (fin_ob [] (by kernel_rfl) trivial)
            · replace h := if_n hb h
              refine awp_skip ?_
              refine seq_reg (by kernel_rfl) ?_
              obtain rfl := Option.some.inj h
              exact awp_ret (fin_ob [] (by kernel_rfl) trivial)

theorem laws_szGateMendS.calls (k : Nat) (x0 : List (GateMend)) (x1 : Int) (r : Int) (h : laws_szGateMendS k x0 x1 = some r) : PC Try.prog 41 [sl 6 GateMend.c x0, .int .i64 x1] (.int .i64 r) := by
  unfold laws_szGateMendS at h
  refine pc_intro (fn := Try.f41) Try.call41 Try.func41 rfl (Nat.le_of_ble_eq_true rfl) rfl rfl ?_
  refine seq_reg (by kernel_rfl) ?_
  refine seq_reg (by kernel_rfl) ?_
  refine awp_seq ?_
  refine seq_reg (by kernel_rfl) ?_
  refine awp_cond (b := (decide ((wr .i64 (x1 - (x0.length : Int))) < 0))) (by kernel_rfl) (fun hb => ?_) (fun hb => ?_)
  · replace h := if_p hb h
    refine seq_reg (by kernel_rfl) ?_
    obtain rfl := Option.some.inj h
    exact awp_ret (fin_ob [] (by kernel_rfl) trivial)
  · replace h := if_n hb h
    refine awp_skip ?_
    refine awp_seq ?_
    refine seq_reg (by kernel_rfl) ?_
    refine awp_block ?_
    refine awp_loop_r (nt := 27) (N := 0) (l := [(0, sl 6 GateMend.c x0), (1, .int .i64 (wr .i64 (x1 - (x0.length : Int)))), (5, .int .i64 0)]) (hs := []) (r := []) rfl ⟨by kernel_rfl, by kernel_rfl, trivial⟩ ?_
    refine loop_ind (fr := fun (z : (Int) × (Int)) => match z with | (v0_1, v0_5) => Fm 27 0 [(0, sl 6 GateMend.c x0), (1, .int .i64 v0_1), (5, .int .i64 v0_5)] []) (f := fun k (z : (Int) × (Int)) => match z with | (v0_1, v0_5) => laws_szGateMendS.l0 x0 k v0_1 v0_5) ?_ (fun _ => rfl) k ((wr .i64 (x1 - (x0.length : Int))), 0) h
    clear h
    rintro k0 ⟨v0_1, v0_5⟩ ih0 h
    replace h : (laws_szGateMendS.l0 x0 (k0 + 1) v0_1 v0_5).bind _ = some _ := h
    rw [laws_szGateMendS.l0] at h
    refine aloop_r ?_
    refine awp_seq ?_
    refine seq_reg (by kernel_rfl) ?_
    refine awp_cond (b := (decide (v0_5 < (x0.length : Int)))) (by kernel_rfl) (fun hb => ?_) (fun hb => ?_)
    · replace h := bif_p hb h
      refine awp_skip ?_
      refine awp_seq ?_
      refine awp_block ?_
      obtain ⟨o7_2_0, h⟩ := bif_s h
      obtain ⟨r7_5, hr7_5, h⟩ := bbind_s h
      refine seq_region [] [⟨75, [.agg (GateMend.c (x0.getD v0_5.toNat default)), .int .i64 v0_1], [], .int .i64 r7_5, [], 0, 0⟩] [(0 : Int) ≤ v0_5 ∧ v0_5 < (x0.length : Int), same [.agg (GateMend.c (x0.getD v0_5.toNat default)), .int .i64 v0_1]] (by kernel_rfl) ⟨o7_2_0, rfl, trivial⟩ ⟨laws_szGateMend.calls _ _ _ _ hr7_5, trivial⟩ ?_
      refine seq_reg (by kernel_rfl) ?_
      refine awp_cond (b := (decide (r7_5 < 0))) (by kernel_rfl) (fun hb => ?_) (fun hb => ?_)
      · replace h := bif_p hb h
        refine seq_reg (by kernel_rfl) ?_
        obtain rfl := Option.some.inj h
        exact awp_ret (fin_ob [] (by kernel_rfl) trivial)
      · replace h := bif_n hb h
        refine awp_skip ?_
        refine awp_reg (by kernel_rfl) ?_
        exact ⟨_, _, [(0, sl 6 GateMend.c x0), (1, .int .i64 r7_5), (5, .int .i64 (wr .i64 (v0_5 + 1)))], [], [], ⟨by kernel_rfl, by kernel_rfl, trivial⟩, ih0 (r7_5, (wr .i64 (v0_5 + 1))) h⟩
    · replace h := bif_n hb h
      refine awp_exit ?_
      replace h := bsome h
      refine seq_reg (by kernel_rfl) ?_
      obtain rfl := Option.some.inj h
      exact awp_ret (fin_ob [] (by kernel_rfl) trivial)

theorem laws_szGateLaw.calls (k : Nat) (x0 : GateLaw) (x1 : Int) (r : Int) (h : laws_szGateLaw k x0 x1 = some r) : PC Try.prog 17 [.agg (GateLaw.c x0), .int .i64 x1] (.int .i64 r) := by
  unfold laws_szGateLaw at h
  refine pc_intro (fn := Try.f17) Try.call17 Try.func17 rfl (Nat.le_of_ble_eq_true rfl) rfl rfl ?_
  refine seq_reg (by kernel_rfl) ?_
  obtain ⟨r1_3, hr1_3, h⟩ := bind_s h
  refine seq_region [] [⟨40, [sl 2 GateShape.c x0.Shapes, .int .i64 x1], [], .int .i64 r1_3, [], 1, 0⟩] [same [sl 2 GateShape.c x0.Shapes, .int .i64 x1]] (by kernel_rfl) ⟨rfl, trivial⟩ ⟨laws_szGateShapeS.calls _ _ _ _ hr1_3, trivial⟩ ?_
  refine awp_seq ?_
  refine seq_reg (by kernel_rfl) ?_
  refine awp_cond (b := (decide (r1_3 < 0))) (by kernel_rfl) (fun hb => ?_) (fun hb => ?_)
  · replace h := if_p hb h
    refine seq_reg (by kernel_rfl) ?_
    obtain rfl := Option.some.inj h
    exact awp_ret (fin_ob [] (by kernel_rfl) trivial)
  · replace h := if_n hb h
    refine awp_skip ?_
    obtain ⟨r4_3, hr4_3, h⟩ := bind_s h
    refine seq_region [] [⟨41, [sl 6 GateMend.c x0.Mends, .int .i64 r1_3], [], .int .i64 r4_3, [], 1, 0⟩] [same [sl 6 GateMend.c x0.Mends, .int .i64 r1_3]] (by kernel_rfl) ⟨rfl, trivial⟩ ⟨laws_szGateMendS.calls _ _ _ _ hr4_3, trivial⟩ ?_
    refine awp_seq ?_
    refine seq_reg (by kernel_rfl) ?_
    refine awp_cond (b := (decide (r4_3 < 0))) (by kernel_rfl) (fun hb => ?_) (fun hb => ?_)
    · replace h := if_p hb h
      refine seq_reg (by kernel_rfl) ?_
      obtain rfl := Option.some.inj h
      exact awp_ret (fin_ob [] (by kernel_rfl) trivial)
    · replace h := if_n hb h
      refine awp_skip ?_
      obtain ⟨r7_3, hr7_3, h⟩ := bind_s h
      refine seq_region [] [⟨6, [sl 2 GateTeam.c x0.Teams, .int .i64 r4_3], [], .int .i64 r7_3, [], 1, 0⟩] [same [sl 2 GateTeam.c x0.Teams, .int .i64 r4_3]] (by kernel_rfl) ⟨rfl, trivial⟩ ⟨laws_szGateTeamS.calls _ _ _ _ hr7_3, trivial⟩ ?_
      refine awp_seq ?_
      refine seq_reg (by kernel_rfl) ?_
      refine awp_cond (b := (decide (r7_3 < 0))) (by kernel_rfl) (fun hb => ?_) (fun hb => ?_)
      · replace h := if_p hb h
        refine seq_reg (by kernel_rfl) ?_
        obtain rfl := Option.some.inj h
        exact awp_ret (fin_ob [] (by kernel_rfl) trivial)
      · replace h := if_n hb h
        refine awp_skip ?_
        refine seq_reg (by kernel_rfl) ?_
        obtain rfl := Option.some.inj h
        exact awp_ret (fin_ob [] (by kernel_rfl) trivial)

theorem laws_szGateObject.calls (k : Nat) (x0 : GateObject) (x1 : Int) (r : Int) (h : laws_szGateObject k x0 x1 = some r) : PC Try.prog 18 [.agg (GateObject.c x0), .int .i64 x1] (.int .i64 r) := by
  unfold laws_szGateObject at h
  refine pc_intro (fn := Try.f18) Try.call18 Try.func18 rfl (Nat.le_of_ble_eq_true rfl) rfl rfl ?_
  refine seq_reg (by kernel_rfl) ?_
  refine seq_reg (by kernel_rfl) ?_
  refine awp_seq ?_
  refine seq_reg (by kernel_rfl) ?_
  refine awp_cond (b := (decide ((wr .i64 (x1 - (x0.Kind.length : Int))) < 0))) (by kernel_rfl) (fun hb => ?_) (fun hb => ?_)
  · replace h := if_p hb h
    refine seq_reg (by kernel_rfl) ?_
    obtain rfl := Option.some.inj h
    exact awp_ret (fin_ob [] (by kernel_rfl) trivial)
  · replace h := if_n hb h
    refine awp_skip ?_
    refine seq_reg (by kernel_rfl) ?_
    refine awp_seq ?_
    refine seq_reg (by kernel_rfl) ?_
    refine awp_cond (b := (decide ((wr .i64 ((wr .i64 (x1 - (x0.Kind.length : Int))) - (x0.Name.length : Int))) < 0))) (by kernel_rfl) (fun hb => ?_) (fun hb => ?_)
    · replace h := if_p hb h
      refine seq_reg (by kernel_rfl) ?_
      obtain rfl := Option.some.inj h
      exact awp_ret (fin_ob [] (by kernel_rfl) trivial)
    · replace h := if_n hb h
      refine awp_skip ?_
      refine seq_reg (by kernel_rfl) ?_
      refine awp_seq ?_
      refine seq_reg (by kernel_rfl) ?_
      refine awp_cond (b := (decide ((wr .i64 ((wr .i64 ((wr .i64 (x1 - (x0.Kind.length : Int))) - (x0.Name.length : Int))) - (x0.Team.length : Int))) < 0))) (by kernel_rfl) (fun hb => ?_) (fun hb => ?_)
      · replace h := if_p hb h
        refine seq_reg (by kernel_rfl) ?_
        obtain rfl := Option.some.inj h
        exact awp_ret (fin_ob [] (by kernel_rfl) trivial)
      · replace h := if_n hb h
        refine awp_skip ?_
        obtain ⟨r10_3, hr10_3, h⟩ := bind_s h
        refine seq_region [] [⟨42, [sl 1 cStr x0.Values, .int .i64 (wr .i64 ((wr .i64 ((wr .i64 (x1 - (x0.Kind.length : Int))) - (x0.Name.length : Int))) - (x0.Team.length : Int)))], [], .int .i64 r10_3, [], 1, 0⟩] [same [sl 1 cStr x0.Values, .int .i64 (wr .i64 ((wr .i64 ((wr .i64 (x1 - (x0.Kind.length : Int))) - (x0.Name.length : Int))) - (x0.Team.length : Int)))]] (by kernel_rfl) ⟨rfl, trivial⟩ ⟨laws_szStringS.calls _ _ _ _ hr10_3, trivial⟩ ?_
        refine awp_seq ?_
        refine seq_reg (by kernel_rfl) ?_
        refine awp_cond (b := (decide (r10_3 < 0))) (by kernel_rfl) (fun hb => ?_) (fun hb => ?_)
        · replace h := if_p hb h
          refine seq_reg (by kernel_rfl) ?_
          obtain rfl := Option.some.inj h
          exact awp_ret (fin_ob [] (by kernel_rfl) trivial)
        · replace h := if_n hb h
          refine awp_skip ?_
          obtain ⟨r13_3, hr13_3, h⟩ := bind_s h
          refine seq_region [] [⟨42, [sl 1 cStr x0.Holds, .int .i64 r10_3], [], .int .i64 r13_3, [], 1, 0⟩] [same [sl 1 cStr x0.Holds, .int .i64 r10_3]] (by kernel_rfl) ⟨rfl, trivial⟩ ⟨laws_szStringS.calls _ _ _ _ hr13_3, trivial⟩ ?_
          refine awp_seq ?_
          refine seq_reg (by kernel_rfl) ?_
          refine awp_cond (b := (decide (r13_3 < 0))) (by kernel_rfl) (fun hb => ?_) (fun hb => ?_)
          · replace h := if_p hb h
            refine seq_reg (by kernel_rfl) ?_
            obtain rfl := Option.some.inj h
            exact awp_ret (fin_ob [] (by kernel_rfl) trivial)
          · replace h := if_n hb h
            refine awp_skip ?_
            refine seq_reg (by kernel_rfl) ?_
            obtain rfl := Option.some.inj h
            exact awp_ret (fin_ob [] (by kernel_rfl) trivial)

theorem laws_toStringS.calls (k : Nat) (x0 : List (List UInt8)) (r : List (List UInt8)) (h : laws_toStringS k x0 = some r) : PC Try.prog 47 [sl 1 cStr x0] (sl 1 cStr r) := by
  unfold laws_toStringS at h
  refine pc_intro (fn := Try.f47) Try.call47 Try.func47 rfl (Nat.le_of_ble_eq_true rfl) rfl rfl ?_
  refine seq_reg (by kernel_rfl) ?_
  obtain ⟨o1_2_0, h⟩ := if_s h
  refine seq_region [] [] [(0 : Int) ≤ (x0.length : Int) ∧ (x0.length : Int) ≤ (x0.length : Int) ∧ (x0.length : Int) * (16 : Int) ≤ 140737488355328 ∧ (x0.length : Int) ≤ 140737488355328] (by kernel_rfl) ⟨o1_2_0, trivial⟩ trivial ?_
  refine awp_row 0 (by kernel_rfl) (RowEq.make (esz := 1) (n := (x0.length : Int).toNat) (c := cStr) (z := ([] : List UInt8)) (zs := [.str []]) ⟨.inl rfl, trivial⟩) ?_
  refine awp_seq ?_
  refine seq_reg (by kernel_rfl) ?_
  refine awp_block ?_
  refine awp_loop_r (nt := 22) (N := 2) (l := [(0, sl 1 cStr x0), (3, .ms 1 0 (List.replicate (x0.length : Int).toNat ([] : List UInt8)).length 1), (4, .int .i64 0)]) (hs := [(1, .row 1 (List.replicate (x0.length : Int).toNat ([] : List UInt8)).length (cells cStr (List.replicate (x0.length : Int).toNat ([] : List UInt8))))]) (r := [(1, 0)]) rfl (frob_len (m := (x0.length : Int).toNat) (l := fun m => [(0, sl 1 cStr x0), (3, .ms 1 0 m 1), (4, .int .i64 0)]) (hs := fun m => [(1, .row 1 m (cells cStr (List.replicate (x0.length : Int).toNat ([] : List UInt8))))]) (RowEq.len (RowEq.make (esz := 1) (n := (x0.length : Int).toNat) (c := cStr) (z := ([] : List UInt8)) (zs := [.str []]) ⟨.inl rfl, trivial⟩)) ⟨by kernel_rfl, by kernel_rfl, (or_same (by kernel_rfl) (by kernel_rfl) trivial)⟩) ?_
  refine loop_ind (fr := fun (z : (Int) × (List (List UInt8))) => match z with | (v0_4, v0_w0) => Fm 22 2 [(0, sl 1 cStr x0), (3, .ms 1 0 v0_w0.length 1), (4, .int .i64 v0_4)] [(1, .row 1 v0_w0.length (cells cStr v0_w0))]) (f := fun k (z : (Int) × (List (List UInt8))) => match z with | (v0_4, v0_w0) => laws_toStringS.l0 x0 k v0_4 v0_w0) ?_ (fun _ => rfl) k (0, (List.replicate (x0.length : Int).toNat ([] : List UInt8))) h
  clear h
  rintro k0 ⟨v0_4, v0_w0⟩ ih0 h
  replace h : (laws_toStringS.l0 x0 (k0 + 1) v0_4 v0_w0).bind _ = some _ := h
  rw [laws_toStringS.l0] at h
  refine aloop_r ?_
  refine awp_seq ?_
  refine seq_reg (by kernel_rfl) ?_
  refine awp_cond (b := (decide (v0_4 < (x0.length : Int)))) (by kernel_rfl) (fun hb => ?_) (fun hb => ?_)
  · replace h := bif_p hb h
    refine awp_skip ?_
    refine awp_seq ?_
    refine awp_block ?_
    obtain ⟨o5_4_0, h⟩ := bif_s h
    obtain ⟨o5_6_0, h⟩ := bif_s h
    refine awp_region [] [] [(0 : Int) ≤ v0_4 ∧ v0_4 < (x0.length : Int), (0 : Int) ≤ v0_4 ∧ v0_4 < (v0_w0.length : Int), v0_4.toNat < v0_w0.length] (by kernel_rfl) ⟨o5_4_0, o5_6_0, (by omega), trivial⟩ trivial ?_
    refine awp_row 1 (by kernel_rfl) (RowEq.set (i := v0_4.toNat) (x := (x0.getD v0_4.toNat default)) (l := [.str (x0.getD v0_4.toNat default)]) (RowEq.same (esz := 1) (c := cStr) (n := v0_w0.length) (xs := v0_w0) rfl) ⟨.inl rfl, trivial⟩) ?_
    refine awp_reg (by kernel_rfl) ?_
    exact ⟨_, _, [(0, sl 1 cStr x0), (3, .ms 1 0 (v0_w0.set v0_4.toNat (x0.getD v0_4.toNat default)).length 1), (4, .int .i64 (wr .i64 (v0_4 + 1)))], [(1, .row 1 (v0_w0.set v0_4.toNat (x0.getD v0_4.toNat default)).length (cells cStr (v0_w0.set v0_4.toNat (x0.getD v0_4.toNat default))))], [(1, 1)], (frob_len (m := v0_w0.length) (l := fun m => [(0, sl 1 cStr x0), (3, .ms 1 0 m 1), (4, .int .i64 (wr .i64 (v0_4 + 1)))]) (hs := fun m => [(1, .row 1 m (cells cStr (v0_w0.set v0_4.toNat (x0.getD v0_4.toNat default))))]) (RowEq.len (RowEq.set (i := v0_4.toNat) (x := (x0.getD v0_4.toNat default)) (l := [.str (x0.getD v0_4.toNat default)]) (RowEq.same (esz := 1) (c := cStr) (n := v0_w0.length) (xs := v0_w0) rfl) ⟨.inl rfl, trivial⟩)) ⟨by kernel_rfl, by kernel_rfl, (or_same (by kernel_rfl) (by kernel_rfl) trivial)⟩), ih0 ((wr .i64 (v0_4 + 1)), (v0_w0.set v0_4.toNat (x0.getD v0_4.toNat default))) h⟩
  · replace h := bif_n hb h
    refine awp_exit ?_
    replace h := bsome h
    refine seq_reg (by kernel_rfl) ?_
    obtain rfl := Option.some.inj h
    exact awp_ret (fin_ob [v0_w0.length ≤ v0_w0.length] (by kernel_rfl) ⟨Nat.le_refl _, trivial⟩)

theorem laws_toGateField.calls (k : Nat) (x0 : GateField) (r : GateField) (h : laws_toGateField k x0 = some r) : PC Try.prog 108 [.agg (GateField.c x0)] (.agg (GateField.c r)) := by
  unfold laws_toGateField at h
  refine pc_intro (fn := Try.f108) Try.call108 Try.func108 rfl (Nat.le_of_ble_eq_true rfl) rfl rfl ?_
  refine seq_reg (by kernel_rfl) ?_
  refine seq_reg (by kernel_rfl) ?_
  refine seq_reg (by kernel_rfl) ?_
  refine seq_reg (by kernel_rfl) ?_
  refine seq_reg (by kernel_rfl) ?_
  refine seq_reg (by kernel_rfl) ?_
  obtain ⟨r6_2, hr6_2, h⟩ := bind_s h
  refine seq_region [] [⟨47, [sl 1 cStr x0.Words], [], sl 1 cStr r6_2, [], 3, 0⟩] [same [sl 1 cStr x0.Words]] (by kernel_rfl) ⟨rfl, trivial⟩ ⟨laws_toStringS.calls _ _ _ hr6_2, trivial⟩ ?_
  refine seq_reg (by kernel_rfl) ?_
  refine seq_reg (by kernel_rfl) ?_
  refine seq_reg (by kernel_rfl) ?_
  refine seq_reg (by kernel_rfl) ?_
  refine seq_reg (by kernel_rfl) ?_
  refine seq_reg (by kernel_rfl) ?_
  refine seq_reg (by kernel_rfl) ?_
  obtain rfl := Option.some.inj h
  exact awp_ret (fin_ob [] (by kernel_rfl) trivial)

theorem laws_toGateFieldS.calls (k : Nat) (x0 : List (GateField)) (r : List (GateField)) (h : laws_toGateFieldS k x0 = some r) : PC Try.prog 103 [sl 11 GateField.c x0] (sl 11 GateField.c r) := by
  unfold laws_toGateFieldS at h
  refine pc_intro (fn := Try.f103) Try.call103 Try.func103 rfl (Nat.le_of_ble_eq_true rfl) rfl rfl ?_
  refine seq_reg (by kernel_rfl) ?_
  obtain ⟨o1_2_0, h⟩ := if_s h
  refine seq_region [] [] [(0 : Int) ≤ (x0.length : Int) ∧ (x0.length : Int) ≤ (x0.length : Int) ∧ (x0.length : Int) * (128 : Int) ≤ 140737488355328 ∧ (x0.length : Int) ≤ 140737488355328] (by kernel_rfl) ⟨o1_2_0, trivial⟩ trivial ?_
  refine awp_row 0 (by kernel_rfl) (RowEq.make (esz := 11) (n := (x0.length : Int).toNat) (c := GateField.c) (z := (default : GateField)) (zs := [.str [], .int .i64 0, .int .i64 0, .int .i64 0, .nils, .str [], .int .i64 0, .kb false, .kb false, .str [], .str []]) ⟨.inl rfl, .inl rfl, .inl rfl, .inl rfl, .inr rfl, .inl rfl, .inl rfl, .inr rfl, .inr rfl, .inl rfl, .inl rfl, trivial⟩) ?_
  refine awp_seq ?_
  refine seq_reg (by kernel_rfl) ?_
  refine awp_block ?_
  refine awp_loop_r (nt := 23) (N := 2) (l := [(0, sl 11 GateField.c x0), (3, .ms 1 0 (List.replicate (x0.length : Int).toNat (default : GateField)).length 11), (4, .int .i64 0)]) (hs := [(1, .row 11 (List.replicate (x0.length : Int).toNat (default : GateField)).length (cells GateField.c (List.replicate (x0.length : Int).toNat (default : GateField))))]) (r := [(1, 0)]) rfl (frob_len (m := (x0.length : Int).toNat) (l := fun m => [(0, sl 11 GateField.c x0), (3, .ms 1 0 m 11), (4, .int .i64 0)]) (hs := fun m => [(1, .row 11 m (cells GateField.c (List.replicate (x0.length : Int).toNat (default : GateField))))]) (RowEq.len (RowEq.make (esz := 11) (n := (x0.length : Int).toNat) (c := GateField.c) (z := (default : GateField)) (zs := [.str [], .int .i64 0, .int .i64 0, .int .i64 0, .nils, .str [], .int .i64 0, .kb false, .kb false, .str [], .str []]) ⟨.inl rfl, .inl rfl, .inl rfl, .inl rfl, .inr rfl, .inl rfl, .inl rfl, .inr rfl, .inr rfl, .inl rfl, .inl rfl, trivial⟩)) ⟨by kernel_rfl, by kernel_rfl, (or_same (by kernel_rfl) (by kernel_rfl) trivial)⟩) ?_
  refine loop_ind (fr := fun (z : (Int) × (List (GateField))) => match z with | (v0_4, v0_w0) => Fm 23 2 [(0, sl 11 GateField.c x0), (3, .ms 1 0 v0_w0.length 11), (4, .int .i64 v0_4)] [(1, .row 11 v0_w0.length (cells GateField.c v0_w0))]) (f := fun k (z : (Int) × (List (GateField))) => match z with | (v0_4, v0_w0) => laws_toGateFieldS.l0 x0 k v0_4 v0_w0) ?_ (fun _ => rfl) k (0, (List.replicate (x0.length : Int).toNat (default : GateField))) h
  clear h
  rintro k0 ⟨v0_4, v0_w0⟩ ih0 h
  replace h : (laws_toGateFieldS.l0 x0 (k0 + 1) v0_4 v0_w0).bind _ = some _ := h
  rw [laws_toGateFieldS.l0] at h
  refine aloop_r ?_
  refine awp_seq ?_
  refine seq_reg (by kernel_rfl) ?_
  refine awp_cond (b := (decide (v0_4 < (x0.length : Int)))) (by kernel_rfl) (fun hb => ?_) (fun hb => ?_)
  · replace h := bif_p hb h
    refine awp_skip ?_
    refine awp_seq ?_
    refine awp_block ?_
    obtain ⟨o5_4_0, h⟩ := bif_s h
    obtain ⟨r5_6, hr5_6, h⟩ := bbind_s h
    obtain ⟨o5_7_0, h⟩ := bif_s h
    refine awp_region [] [⟨108, [.agg (GateField.c (x0.getD v0_4.toNat default))], [], .agg (GateField.c r5_6), [], 2, 0⟩] [(0 : Int) ≤ v0_4 ∧ v0_4 < (x0.length : Int), same [.agg (GateField.c (x0.getD v0_4.toNat default))], (0 : Int) ≤ v0_4 ∧ v0_4 < (v0_w0.length : Int), v0_4.toNat < v0_w0.length] (by kernel_rfl) ⟨o5_4_0, rfl, o5_7_0, (by omega), trivial⟩ ⟨laws_toGateField.calls _ _ _ hr5_6, trivial⟩ ?_
    refine awp_row 1 (by kernel_rfl) (RowEq.set (i := v0_4.toNat) (x := r5_6) (l := [.str r5_6.Name, .int .i64 r5_6.Kind, .int .i64 r5_6.Least, .int .i64 r5_6.Most, sl 1 cStr r5_6.Words, .str r5_6.To, .int .i64 r5_6.Role, .bool r5_6.Must, .bool r5_6.Fixed, .str r5_6.Default, .str r5_6.Weighs]) (RowEq.same (esz := 11) (c := GateField.c) (n := v0_w0.length) (xs := v0_w0) rfl) ⟨.inl rfl, .inl rfl, .inl rfl, .inl rfl, .inl rfl, .inl rfl, .inl rfl, .inl rfl, .inl rfl, .inl rfl, .inl rfl, trivial⟩) ?_
    refine awp_reg (by kernel_rfl) ?_
    exact ⟨_, _, [(0, sl 11 GateField.c x0), (3, .ms 1 0 (v0_w0.set v0_4.toNat r5_6).length 11), (4, .int .i64 (wr .i64 (v0_4 + 1)))], [(1, .row 11 (v0_w0.set v0_4.toNat r5_6).length (cells GateField.c (v0_w0.set v0_4.toNat r5_6)))], [(1, 1)], (frob_len (m := v0_w0.length) (l := fun m => [(0, sl 11 GateField.c x0), (3, .ms 1 0 m 11), (4, .int .i64 (wr .i64 (v0_4 + 1)))]) (hs := fun m => [(1, .row 11 m (cells GateField.c (v0_w0.set v0_4.toNat r5_6)))]) (RowEq.len (RowEq.set (i := v0_4.toNat) (x := r5_6) (l := [.str r5_6.Name, .int .i64 r5_6.Kind, .int .i64 r5_6.Least, .int .i64 r5_6.Most, sl 1 cStr r5_6.Words, .str r5_6.To, .int .i64 r5_6.Role, .bool r5_6.Must, .bool r5_6.Fixed, .str r5_6.Default, .str r5_6.Weighs]) (RowEq.same (esz := 11) (c := GateField.c) (n := v0_w0.length) (xs := v0_w0) rfl) ⟨.inl rfl, .inl rfl, .inl rfl, .inl rfl, .inl rfl, .inl rfl, .inl rfl, .inl rfl, .inl rfl, .inl rfl, .inl rfl, trivial⟩)) ⟨by kernel_rfl, by kernel_rfl, (or_same (by kernel_rfl) (by kernel_rfl) trivial)⟩), ih0 ((wr .i64 (v0_4 + 1)), (v0_w0.set v0_4.toNat r5_6)) h⟩
  · replace h := bif_n hb h
    refine awp_exit ?_
    replace h := bsome h
    refine seq_reg (by kernel_rfl) ?_
    obtain rfl := Option.some.inj h
    exact awp_ret (fin_ob [v0_w0.length ≤ v0_w0.length] (by kernel_rfl) ⟨Nat.le_refl _, trivial⟩)

theorem laws_toGateShape.calls (k : Nat) (x0 : GateShape) (r : GateShape) (h : laws_toGateShape k x0 = some r) : PC Try.prog 78 [.agg (GateShape.c x0)] (.agg (GateShape.c r)) := by
  unfold laws_toGateShape at h
  refine pc_intro (fn := Try.f78) Try.call78 Try.func78 rfl (Nat.le_of_ble_eq_true rfl) rfl rfl ?_
  refine seq_reg (by kernel_rfl) ?_
  refine seq_reg (by kernel_rfl) ?_
  refine seq_reg (by kernel_rfl) ?_
  obtain ⟨r3_2, hr3_2, h⟩ := bind_s h
  refine seq_region [] [⟨103, [sl 11 GateField.c x0.Fields], [], sl 11 GateField.c r3_2, [], 3, 0⟩] [same [sl 11 GateField.c x0.Fields]] (by kernel_rfl) ⟨rfl, trivial⟩ ⟨laws_toGateFieldS.calls _ _ _ hr3_2, trivial⟩ ?_
  refine seq_reg (by kernel_rfl) ?_
  obtain rfl := Option.some.inj h
  exact awp_ret (fin_ob [] (by kernel_rfl) trivial)

theorem laws_toGateShapeS.calls (k : Nat) (x0 : List (GateShape)) (r : List (GateShape)) (h : laws_toGateShapeS k x0 = some r) : PC Try.prog 45 [sl 2 GateShape.c x0] (sl 2 GateShape.c r) := by
  unfold laws_toGateShapeS at h
  refine pc_intro (fn := Try.f45) Try.call45 Try.func45 rfl (Nat.le_of_ble_eq_true rfl) rfl rfl ?_
  refine seq_reg (by kernel_rfl) ?_
  obtain ⟨o1_2_0, h⟩ := if_s h
  refine seq_region [] [] [(0 : Int) ≤ (x0.length : Int) ∧ (x0.length : Int) ≤ (x0.length : Int) ∧ (x0.length : Int) * (40 : Int) ≤ 140737488355328 ∧ (x0.length : Int) ≤ 140737488355328] (by kernel_rfl) ⟨o1_2_0, trivial⟩ trivial ?_
  refine awp_row 0 (by kernel_rfl) (RowEq.make (esz := 2) (n := (x0.length : Int).toNat) (c := GateShape.c) (z := (default : GateShape)) (zs := [.str [], .nils]) ⟨.inl rfl, .inr rfl, trivial⟩) ?_
  refine awp_seq ?_
  refine seq_reg (by kernel_rfl) ?_
  refine awp_block ?_
  refine awp_loop_r (nt := 23) (N := 2) (l := [(0, sl 2 GateShape.c x0), (3, .ms 1 0 (List.replicate (x0.length : Int).toNat (default : GateShape)).length 2), (4, .int .i64 0)]) (hs := [(1, .row 2 (List.replicate (x0.length : Int).toNat (default : GateShape)).length (cells GateShape.c (List.replicate (x0.length : Int).toNat (default : GateShape))))]) (r := [(1, 0)]) rfl (frob_len (m := (x0.length : Int).toNat) (l := fun m => [(0, sl 2 GateShape.c x0), (3, .ms 1 0 m 2), (4, .int .i64 0)]) (hs := fun m => [(1, .row 2 m (cells GateShape.c (List.replicate (x0.length : Int).toNat (default : GateShape))))]) (RowEq.len (RowEq.make (esz := 2) (n := (x0.length : Int).toNat) (c := GateShape.c) (z := (default : GateShape)) (zs := [.str [], .nils]) ⟨.inl rfl, .inr rfl, trivial⟩)) ⟨by kernel_rfl, by kernel_rfl, (or_same (by kernel_rfl) (by kernel_rfl) trivial)⟩) ?_
  refine loop_ind (fr := fun (z : (Int) × (List (GateShape))) => match z with | (v0_4, v0_w0) => Fm 23 2 [(0, sl 2 GateShape.c x0), (3, .ms 1 0 v0_w0.length 2), (4, .int .i64 v0_4)] [(1, .row 2 v0_w0.length (cells GateShape.c v0_w0))]) (f := fun k (z : (Int) × (List (GateShape))) => match z with | (v0_4, v0_w0) => laws_toGateShapeS.l0 x0 k v0_4 v0_w0) ?_ (fun _ => rfl) k (0, (List.replicate (x0.length : Int).toNat (default : GateShape))) h
  clear h
  rintro k0 ⟨v0_4, v0_w0⟩ ih0 h
  replace h : (laws_toGateShapeS.l0 x0 (k0 + 1) v0_4 v0_w0).bind _ = some _ := h
  rw [laws_toGateShapeS.l0] at h
  refine aloop_r ?_
  refine awp_seq ?_
  refine seq_reg (by kernel_rfl) ?_
  refine awp_cond (b := (decide (v0_4 < (x0.length : Int)))) (by kernel_rfl) (fun hb => ?_) (fun hb => ?_)
  · replace h := bif_p hb h
    refine awp_skip ?_
    refine awp_seq ?_
    refine awp_block ?_
    obtain ⟨o5_4_0, h⟩ := bif_s h
    obtain ⟨r5_6, hr5_6, h⟩ := bbind_s h
    obtain ⟨o5_7_0, h⟩ := bif_s h
    refine awp_region [] [⟨78, [.agg (GateShape.c (x0.getD v0_4.toNat default))], [], .agg (GateShape.c r5_6), [], 2, 0⟩] [(0 : Int) ≤ v0_4 ∧ v0_4 < (x0.length : Int), same [.agg (GateShape.c (x0.getD v0_4.toNat default))], (0 : Int) ≤ v0_4 ∧ v0_4 < (v0_w0.length : Int), v0_4.toNat < v0_w0.length] (by kernel_rfl) ⟨o5_4_0, rfl, o5_7_0, (by omega), trivial⟩ ⟨laws_toGateShape.calls _ _ _ hr5_6, trivial⟩ ?_
    refine awp_row 1 (by kernel_rfl) (RowEq.set (i := v0_4.toNat) (x := r5_6) (l := [.str r5_6.Kind, sl 11 GateField.c r5_6.Fields]) (RowEq.same (esz := 2) (c := GateShape.c) (n := v0_w0.length) (xs := v0_w0) rfl) ⟨.inl rfl, .inl rfl, trivial⟩) ?_
    refine awp_reg (by kernel_rfl) ?_
    exact ⟨_, _, [(0, sl 2 GateShape.c x0), (3, .ms 1 0 (v0_w0.set v0_4.toNat r5_6).length 2), (4, .int .i64 (wr .i64 (v0_4 + 1)))], [(1, .row 2 (v0_w0.set v0_4.toNat r5_6).length (cells GateShape.c (v0_w0.set v0_4.toNat r5_6)))], [(1, 1)], (frob_len (m := v0_w0.length) (l := fun m => [(0, sl 2 GateShape.c x0), (3, .ms 1 0 m 2), (4, .int .i64 (wr .i64 (v0_4 + 1)))]) (hs := fun m => [(1, .row 2 m (cells GateShape.c (v0_w0.set v0_4.toNat r5_6)))]) (RowEq.len (RowEq.set (i := v0_4.toNat) (x := r5_6) (l := [.str r5_6.Kind, sl 11 GateField.c r5_6.Fields]) (RowEq.same (esz := 2) (c := GateShape.c) (n := v0_w0.length) (xs := v0_w0) rfl) ⟨.inl rfl, .inl rfl, trivial⟩)) ⟨by kernel_rfl, by kernel_rfl, (or_same (by kernel_rfl) (by kernel_rfl) trivial)⟩), ih0 ((wr .i64 (v0_4 + 1)), (v0_w0.set v0_4.toNat r5_6)) h⟩
  · replace h := bif_n hb h
    refine awp_exit ?_
    replace h := bsome h
    refine seq_reg (by kernel_rfl) ?_
    obtain rfl := Option.some.inj h
    exact awp_ret (fin_ob [v0_w0.length ≤ v0_w0.length] (by kernel_rfl) ⟨Nat.le_refl _, trivial⟩)

theorem laws_toGateMend.calls (k : Nat) (x0 : GateMend) (r : GateMend) (h : laws_toGateMend k x0 = some r) : PC Try.prog 79 [.agg (GateMend.c x0)] (.agg (GateMend.c r)) := by
  unfold laws_toGateMend at h
  refine pc_intro (fn := Try.f79) Try.call79 Try.func79 rfl (Nat.le_of_ble_eq_true rfl) rfl rfl ?_
  refine seq_reg (by kernel_rfl) ?_
  refine seq_reg (by kernel_rfl) ?_
  refine seq_reg (by kernel_rfl) ?_
  refine seq_reg (by kernel_rfl) ?_
  refine seq_reg (by kernel_rfl) ?_
  refine seq_reg (by kernel_rfl) ?_
  refine seq_reg (by kernel_rfl) ?_
  refine seq_reg (by kernel_rfl) ?_
  refine seq_reg (by kernel_rfl) ?_
  obtain rfl := Option.some.inj h
  exact awp_ret (fin_ob [] (by kernel_rfl) trivial)

theorem laws_toGateMendS.calls (k : Nat) (x0 : List (GateMend)) (r : List (GateMend)) (h : laws_toGateMendS k x0 = some r) : PC Try.prog 46 [sl 6 GateMend.c x0] (sl 6 GateMend.c r) := by
  unfold laws_toGateMendS at h
  refine pc_intro (fn := Try.f46) Try.call46 Try.func46 rfl (Nat.le_of_ble_eq_true rfl) rfl rfl ?_
  refine seq_reg (by kernel_rfl) ?_
  obtain ⟨o1_2_0, h⟩ := if_s h
  refine seq_region [] [] [(0 : Int) ≤ (x0.length : Int) ∧ (x0.length : Int) ≤ (x0.length : Int) ∧ (x0.length : Int) * (96 : Int) ≤ 140737488355328 ∧ (x0.length : Int) ≤ 140737488355328] (by kernel_rfl) ⟨o1_2_0, trivial⟩ trivial ?_
  refine awp_row 0 (by kernel_rfl) (RowEq.make (esz := 6) (n := (x0.length : Int).toNat) (c := GateMend.c) (z := (default : GateMend)) (zs := [.str [], .str [], .str [], .str [], .str [], .str []]) ⟨.inl rfl, .inl rfl, .inl rfl, .inl rfl, .inl rfl, .inl rfl, trivial⟩) ?_
  refine awp_seq ?_
  refine seq_reg (by kernel_rfl) ?_
  refine awp_block ?_
  refine awp_loop_r (nt := 23) (N := 2) (l := [(0, sl 6 GateMend.c x0), (3, .ms 1 0 (List.replicate (x0.length : Int).toNat (default : GateMend)).length 6), (4, .int .i64 0)]) (hs := [(1, .row 6 (List.replicate (x0.length : Int).toNat (default : GateMend)).length (cells GateMend.c (List.replicate (x0.length : Int).toNat (default : GateMend))))]) (r := [(1, 0)]) rfl (frob_len (m := (x0.length : Int).toNat) (l := fun m => [(0, sl 6 GateMend.c x0), (3, .ms 1 0 m 6), (4, .int .i64 0)]) (hs := fun m => [(1, .row 6 m (cells GateMend.c (List.replicate (x0.length : Int).toNat (default : GateMend))))]) (RowEq.len (RowEq.make (esz := 6) (n := (x0.length : Int).toNat) (c := GateMend.c) (z := (default : GateMend)) (zs := [.str [], .str [], .str [], .str [], .str [], .str []]) ⟨.inl rfl, .inl rfl, .inl rfl, .inl rfl, .inl rfl, .inl rfl, trivial⟩)) ⟨by kernel_rfl, by kernel_rfl, (or_same (by kernel_rfl) (by kernel_rfl) trivial)⟩) ?_
  refine loop_ind (fr := fun (z : (Int) × (List (GateMend))) => match z with | (v0_4, v0_w0) => Fm 23 2 [(0, sl 6 GateMend.c x0), (3, .ms 1 0 v0_w0.length 6), (4, .int .i64 v0_4)] [(1, .row 6 v0_w0.length (cells GateMend.c v0_w0))]) (f := fun k (z : (Int) × (List (GateMend))) => match z with | (v0_4, v0_w0) => laws_toGateMendS.l0 x0 k v0_4 v0_w0) ?_ (fun _ => rfl) k (0, (List.replicate (x0.length : Int).toNat (default : GateMend))) h
  clear h
  rintro k0 ⟨v0_4, v0_w0⟩ ih0 h
  replace h : (laws_toGateMendS.l0 x0 (k0 + 1) v0_4 v0_w0).bind _ = some _ := h
  rw [laws_toGateMendS.l0] at h
  refine aloop_r ?_
  refine awp_seq ?_
  refine seq_reg (by kernel_rfl) ?_
  refine awp_cond (b := (decide (v0_4 < (x0.length : Int)))) (by kernel_rfl) (fun hb => ?_) (fun hb => ?_)
  · replace h := bif_p hb h
    refine awp_skip ?_
    refine awp_seq ?_
    refine awp_block ?_
    obtain ⟨o5_4_0, h⟩ := bif_s h
    obtain ⟨r5_6, hr5_6, h⟩ := bbind_s h
    obtain ⟨o5_7_0, h⟩ := bif_s h
    refine awp_region [] [⟨79, [.agg (GateMend.c (x0.getD v0_4.toNat default))], [], .agg (GateMend.c r5_6), [], 2, 0⟩] [(0 : Int) ≤ v0_4 ∧ v0_4 < (x0.length : Int), same [.agg (GateMend.c (x0.getD v0_4.toNat default))], (0 : Int) ≤ v0_4 ∧ v0_4 < (v0_w0.length : Int), v0_4.toNat < v0_w0.length] (by kernel_rfl) ⟨o5_4_0, rfl, o5_7_0, (by omega), trivial⟩ ⟨laws_toGateMend.calls _ _ _ hr5_6, trivial⟩ ?_
    refine awp_row 1 (by kernel_rfl) (RowEq.set (i := v0_4.toNat) (x := r5_6) (l := [.str r5_6.Kind, .str r5_6.Field, .str r5_6.When, .str r5_6.Is, .str r5_6.Put, .str r5_6.From]) (RowEq.same (esz := 6) (c := GateMend.c) (n := v0_w0.length) (xs := v0_w0) rfl) ⟨.inl rfl, .inl rfl, .inl rfl, .inl rfl, .inl rfl, .inl rfl, trivial⟩) ?_
    refine awp_reg (by kernel_rfl) ?_
    exact ⟨_, _, [(0, sl 6 GateMend.c x0), (3, .ms 1 0 (v0_w0.set v0_4.toNat r5_6).length 6), (4, .int .i64 (wr .i64 (v0_4 + 1)))], [(1, .row 6 (v0_w0.set v0_4.toNat r5_6).length (cells GateMend.c (v0_w0.set v0_4.toNat r5_6)))], [(1, 1)], (frob_len (m := v0_w0.length) (l := fun m => [(0, sl 6 GateMend.c x0), (3, .ms 1 0 m 6), (4, .int .i64 (wr .i64 (v0_4 + 1)))]) (hs := fun m => [(1, .row 6 m (cells GateMend.c (v0_w0.set v0_4.toNat r5_6)))]) (RowEq.len (RowEq.set (i := v0_4.toNat) (x := r5_6) (l := [.str r5_6.Kind, .str r5_6.Field, .str r5_6.When, .str r5_6.Is, .str r5_6.Put, .str r5_6.From]) (RowEq.same (esz := 6) (c := GateMend.c) (n := v0_w0.length) (xs := v0_w0) rfl) ⟨.inl rfl, .inl rfl, .inl rfl, .inl rfl, .inl rfl, .inl rfl, trivial⟩)) ⟨by kernel_rfl, by kernel_rfl, (or_same (by kernel_rfl) (by kernel_rfl) trivial)⟩), ih0 ((wr .i64 (v0_4 + 1)), (v0_w0.set v0_4.toNat r5_6)) h⟩
  · replace h := bif_n hb h
    refine awp_exit ?_
    replace h := bsome h
    refine seq_reg (by kernel_rfl) ?_
    obtain rfl := Option.some.inj h
    exact awp_ret (fin_ob [v0_w0.length ≤ v0_w0.length] (by kernel_rfl) ⟨Nat.le_refl _, trivial⟩)

theorem laws_toGateLaw.calls (k : Nat) (x0 : GateLaw) (r : GateLaw) (h : laws_toGateLaw k x0 = some r) : PC Try.prog 20 [.agg (GateLaw.c x0)] (.agg (GateLaw.c r)) := by
  unfold laws_toGateLaw at h
  refine pc_intro (fn := Try.f20) Try.call20 Try.func20 rfl (Nat.le_of_ble_eq_true rfl) rfl rfl ?_
  refine seq_reg (by kernel_rfl) ?_
  refine seq_reg (by kernel_rfl) ?_
  obtain ⟨r2_2, hr2_2, h⟩ := bind_s h
  refine seq_region [] [⟨45, [sl 2 GateShape.c x0.Shapes], [], sl 2 GateShape.c r2_2, [], 3, 0⟩] [same [sl 2 GateShape.c x0.Shapes]] (by kernel_rfl) ⟨rfl, trivial⟩ ⟨laws_toGateShapeS.calls _ _ _ hr2_2, trivial⟩ ?_
  obtain ⟨r3_2, hr3_2, h⟩ := bind_s h
  refine seq_region [] [⟨46, [sl 6 GateMend.c x0.Mends], [], sl 6 GateMend.c r3_2, [], 3, 0⟩] [same [sl 6 GateMend.c x0.Mends]] (by kernel_rfl) ⟨rfl, trivial⟩ ⟨laws_toGateMendS.calls _ _ _ hr3_2, trivial⟩ ?_
  obtain ⟨r4_2, hr4_2, h⟩ := bind_s h
  refine seq_region [] [⟨10, [sl 2 GateTeam.c x0.Teams], [], sl 2 GateTeam.c r4_2, [], 3, 0⟩] [same [sl 2 GateTeam.c x0.Teams]] (by kernel_rfl) ⟨rfl, trivial⟩ ⟨laws_toGateTeamS.calls _ _ _ hr4_2, trivial⟩ ?_
  refine seq_reg (by kernel_rfl) ?_
  obtain rfl := Option.some.inj h
  exact awp_ret (fin_ob [] (by kernel_rfl) trivial)

theorem laws_toGateObject.calls (k : Nat) (x0 : GateObject) (r : GateObject) (h : laws_toGateObject k x0 = some r) : PC Try.prog 21 [.agg (GateObject.c x0)] (.agg (GateObject.c r)) := by
  unfold laws_toGateObject at h
  refine pc_intro (fn := Try.f21) Try.call21 Try.func21 rfl (Nat.le_of_ble_eq_true rfl) rfl rfl ?_
  refine seq_reg (by kernel_rfl) ?_
  refine seq_reg (by kernel_rfl) ?_
  refine seq_reg (by kernel_rfl) ?_
  refine seq_reg (by kernel_rfl) ?_
  refine seq_reg (by kernel_rfl) ?_
  obtain ⟨r5_2, hr5_2, h⟩ := bind_s h
  refine seq_region [] [⟨47, [sl 1 cStr x0.Values], [], sl 1 cStr r5_2, [], 3, 0⟩] [same [sl 1 cStr x0.Values]] (by kernel_rfl) ⟨rfl, trivial⟩ ⟨laws_toStringS.calls _ _ _ hr5_2, trivial⟩ ?_
  refine seq_reg (by kernel_rfl) ?_
  obtain ⟨r7_2, hr7_2, h⟩ := bind_s h
  refine seq_region [] [⟨47, [sl 1 cStr x0.Holds], [], sl 1 cStr r7_2, [], 3, 0⟩] [same [sl 1 cStr x0.Holds]] (by kernel_rfl) ⟨rfl, trivial⟩ ⟨laws_toStringS.calls _ _ _ hr7_2, trivial⟩ ?_
  refine seq_reg (by kernel_rfl) ?_
  refine seq_reg (by kernel_rfl) ?_
  obtain rfl := Option.some.inj h
  exact awp_ret (fin_ob [] (by kernel_rfl) trivial)

theorem spec_l1Shape.calls (k : Nat) (x0 : List (GateShape)) (x1 : List UInt8) (r : Int) (h : spec_l1Shape k x0 x1 = some r) : PC Try.prog 76 [sl 2 GateShape.c x0, .str x1] (.int .i64 r) := by
  unfold spec_l1Shape at h
  refine pc_intro (fn := Try.f76) Try.call76 Try.func76 rfl (Nat.le_of_ble_eq_true rfl) rfl rfl ?_
  refine seq_reg (by kernel_rfl) ?_
  refine awp_seq ?_
  refine seq_reg (by kernel_rfl) ?_
  refine awp_block ?_
  refine awp_loop_r (nt := 20) (N := 0) (l := [(0, sl 2 GateShape.c x0), (1, .str x1), (5, .int .i64 0)]) (hs := []) (r := []) rfl ⟨by kernel_rfl, by kernel_rfl, trivial⟩ ?_
  refine loop_ind (fr := fun (v0_5 : (Int)) => Fm 20 0 [(0, sl 2 GateShape.c x0), (1, .str x1), (5, .int .i64 v0_5)] []) (f := fun k (z : (Int)) => match z with | v0_5 => spec_l1Shape.l0 x0 x1 k v0_5) ?_ (fun _ => rfl) k 0 h
  clear h
  rintro k0 v0_5 ih0 h
  replace h : (spec_l1Shape.l0 x0 x1 (k0 + 1) v0_5).bind _ = some _ := h
  rw [spec_l1Shape.l0] at h
  refine aloop_r ?_
  refine awp_seq ?_
  refine seq_reg (by kernel_rfl) ?_
  refine awp_cond (b := (decide (v0_5 < (x0.length : Int)))) (by kernel_rfl) (fun hb => ?_) (fun hb => ?_)
  · replace h := bif_p hb h
    refine awp_skip ?_
    refine awp_seq ?_
    refine awp_block ?_
    obtain ⟨o4_2_0, h⟩ := bif_s h
    refine seq_region [] [] [(0 : Int) ≤ v0_5 ∧ v0_5 < (x0.length : Int)] (by kernel_rfl) ⟨o4_2_0, trivial⟩ trivial ?_
    refine awp_cond (b := ((x0.getD v0_5.toNat default).Kind == x1)) (by kernel_rfl) (fun hb => ?_) (fun hb => ?_)
    · replace h := bif_t hb h
      refine seq_reg (by kernel_rfl) ?_
      obtain rfl := Option.some.inj h
      exact awp_ret (fin_ob [] (by kernel_rfl) trivial)
    · replace h := bif_f hb h
      refine awp_skip ?_
      refine awp_reg (by kernel_rfl) ?_
      exact ⟨_, _, [(0, sl 2 GateShape.c x0), (1, .str x1), (5, .int .i64 (wr .i64 (v0_5 + 1)))], [], [], ⟨by kernel_rfl, by kernel_rfl, trivial⟩, ih0 (wr .i64 (v0_5 + 1)) h⟩
  · replace h := bif_n hb h
    refine awp_exit ?_
    replace h := bsome h
    refine seq_reg (by kernel_rfl) ?_
    obtain rfl := Option.some.inj h
    exact awp_ret (fin_ob [] (by kernel_rfl) trivial)

theorem spec_l2Fields.calls (k : Nat) (x0 : List (GateShape)) (x1 : GateObject) (r : (List (GateField) × Bool)) (h : spec_l2Fields k x0 x1 = some r) : PC Try.prog 43 [sl 2 GateShape.c x0, .agg (GateObject.c x1)] (.tup [sl 11 GateField.c r.1, .bool r.2]) := by
  unfold spec_l2Fields at h
  refine pc_intro (fn := Try.f43) Try.call43 Try.func43 rfl (Nat.le_of_ble_eq_true rfl) rfl rfl ?_
  refine seq_reg (by kernel_rfl) ?_
  obtain ⟨r1_3, hr1_3, h⟩ := bind_s h
  refine seq_region [] [⟨76, [sl 2 GateShape.c x0, .str x1.Kind], [], .int .i64 r1_3, [], 1, 0⟩] [same [sl 2 GateShape.c x0, .str x1.Kind]] (by kernel_rfl) ⟨rfl, trivial⟩ ⟨spec_l1Shape.calls _ _ _ _ hr1_3, trivial⟩ ?_
  refine awp_seq ?_
  rcases Bool.eq_false_or_eq_true (decide (r1_3 < 0)) with d2_2 | d2_2
  · replace h := if_p d2_2 h
    refine seq_draw hmix #[0, 1, 3, 7, 7, 31, 63, 127, 255, 7, 519, 1543, 4095, 8191] [] [(13, true)] [] [(decide (r1_3 < 0)) = true] (by kernel_rfl) ⟨d2_2, trivial⟩ trivial ?_
    refine awp_cond_k (b := true) (by kernel_rfl) ?_
    refine seq_reg (by kernel_rfl) ?_
    refine awp_row 1 (by kernel_rfl) (RowEq.nil (esz := 11) (e := fun i j => ([] : List AV).getD (i * 11 + j) .top) (c := GateField.c)) ?_
    obtain rfl := Option.some.inj h
    exact awp_ret (fin_ob [0 ≤ 0] (by kernel_rfl) ⟨Nat.le_refl _, trivial⟩)
  · replace h := if_n d2_2 h
    obtain ⟨o2_5_0, h⟩ := if_s h
    refine seq_draw hmix #[0, 1, 3, 7, 7, 31, 63, 127, 255, 7, 519, 1543, 4095, 8191] [] [(13, false)] [] [(decide (r1_3 < 0)) = false, (0 : Int) ≤ r1_3 ∧ r1_3 < (x0.length : Int)] (by kernel_rfl) ⟨d2_2, o2_5_0, trivial⟩ trivial ?_
    refine awp_cond (b := (((x0.getD r1_3.toNat default).Fields.length : Int) != (x1.Values.length : Int))) (by kernel_rfl) (fun hb => ?_) (fun hb => ?_)
    · replace h := if_t hb h
      refine seq_reg (by kernel_rfl) ?_
      refine awp_row 1 (by kernel_rfl) (RowEq.nil (esz := 11) (e := fun i j => ([] : List AV).getD (i * 11 + j) .top) (c := GateField.c)) ?_
      obtain rfl := Option.some.inj h
      exact awp_ret (fin_ob [0 ≤ 0] (by kernel_rfl) ⟨Nat.le_refl _, trivial⟩)
    · replace h := if_f hb h
      refine awp_skip ?_
      obtain ⟨o4_2_0, h⟩ := if_s h
      refine seq_region [] [] [(0 : Int) ≤ r1_3 ∧ r1_3 < (x0.length : Int)] (by kernel_rfl) ⟨o4_2_0, trivial⟩ trivial ?_
      obtain rfl := Option.some.inj h
      exact awp_ret (fin_ob [] (by kernel_rfl) trivial)

theorem spec_l1Number.calls (k : Nat) (x0 : List UInt8) (r : Int) (h : spec_l1Number k x0 = some r) : PC Try.prog 44 [.str x0] (.int .i64 r) := by
  unfold spec_l1Number at h
  refine pc_intro (fn := Try.f44) Try.call44 Try.func44 rfl (Nat.le_of_ble_eq_true rfl) rfl rfl ?_
  refine seq_reg (by kernel_rfl) ?_
  refine seq_join (fr := fun (z : Unit) => match z with | () => Fm 44 0 [(0, .str x0)] []) (inn := fun (z : Unit) => (.inr z)) h ?_ ?_
  · rintro ⟨⟩ h
    refine seq_reg (by kernel_rfl) ?_
    refine awp_seq ?_
    refine seq_reg (by kernel_rfl) ?_
    refine awp_block ?_
    refine awp_loop_r (nt := 44) (N := 0) (l := [(0, .str x0), (3, .int .i64 0), (4, .int .i64 0)]) (hs := []) (r := []) rfl ⟨by kernel_rfl, by kernel_rfl, trivial⟩ ?_
    refine loop_ind (fr := fun (z : (Int) × (Int)) => match z with | (v0_3, v0_4) => Fm 44 0 [(0, .str x0), (3, .int .i64 v0_3), (4, .int .i64 v0_4)] []) (f := fun k (z : (Int) × (Int)) => match z with | (v0_3, v0_4) => spec_l1Number.l0 x0 k v0_3 v0_4) ?_ (fun _ => rfl) k (0, 0) h
    clear h
    rintro k0 ⟨v0_3, v0_4⟩ ih0 h
    replace h : (spec_l1Number.l0 x0 (k0 + 1) v0_3 v0_4).bind _ = some _ := h
    rw [spec_l1Number.l0] at h
    refine aloop_r ?_
    refine awp_seq ?_
    refine seq_reg (by kernel_rfl) ?_
    refine awp_cond (b := (decide (v0_4 < (x0.length : Int)))) (by kernel_rfl) (fun hb => ?_) (fun hb => ?_)
    · replace h := bif_p hb h
      refine awp_skip ?_
      refine awp_seq ?_
      refine awp_block ?_
      refine awp_seq ?_
      obtain ⟨o7_2_0, h⟩ := bif_s h
      rcases Bool.eq_false_or_eq_true (decide (((x0.getD v0_4.toNat 0).toNat : Int) < 48)) with d7_4 | d7_4
      · replace h := bif_p d7_4 h
        refine seq_region [(29, true)] [] [(0 : Int) ≤ v0_4 ∧ v0_4 < (x0.length : Int), (decide (((x0.getD v0_4.toNat 0).toNat : Int) < 48)) = true] (by kernel_rfl) ⟨o7_2_0, d7_4, trivial⟩ trivial ?_
        refine awp_cond_k (b := true) (by kernel_rfl) ?_
        refine seq_reg (by kernel_rfl) ?_
        obtain rfl := Option.some.inj h
        exact awp_ret (fin_ob [] (by kernel_rfl) trivial)
      · replace h := bif_n d7_4 h
        obtain ⟨o7_7_0, h⟩ := bif_s h
        refine seq_region [(29, false)] [] [(0 : Int) ≤ v0_4 ∧ v0_4 < (x0.length : Int), (decide (((x0.getD v0_4.toNat 0).toNat : Int) < 48)) = false, (0 : Int) ≤ v0_4 ∧ v0_4 < (x0.length : Int)] (by kernel_rfl) ⟨o7_2_0, d7_4, o7_7_0, trivial⟩ trivial ?_
        refine awp_cond (b := (decide (((x0.getD v0_4.toNat 0).toNat : Int) > 57))) (by kernel_rfl) (fun hb => ?_) (fun hb => ?_)
        · replace h := bif_p hb h
          refine seq_reg (by kernel_rfl) ?_
          obtain rfl := Option.some.inj h
          exact awp_ret (fin_ob [] (by kernel_rfl) trivial)
        · replace h := bif_n hb h
          refine awp_skip ?_
          obtain ⟨o9_4_0, h⟩ := bif_s h
          refine awp_region [] [] [(0 : Int) ≤ v0_4 ∧ v0_4 < (x0.length : Int)] (by kernel_rfl) ⟨o9_4_0, trivial⟩ trivial ?_
          refine awp_reg (by kernel_rfl) ?_
          exact ⟨_, _, [(0, .str x0), (3, .int .i64 (wr .i64 ((wr .i64 ((wr .i64 (v0_3 * 10)) + (wr .i64 ((x0.getD v0_4.toNat 0).toNat : Int)))) - 48))), (4, .int .i64 (wr .i64 (v0_4 + 1)))], [], [], ⟨by kernel_rfl, by kernel_rfl, trivial⟩, ih0 ((wr .i64 ((wr .i64 ((wr .i64 (v0_3 * 10)) + (wr .i64 ((x0.getD v0_4.toNat 0).toNat : Int)))) - 48)), (wr .i64 (v0_4 + 1))) h⟩
    · replace h := bif_n hb h
      refine awp_exit ?_
      replace h := bsome h
      refine seq_reg (by kernel_rfl) ?_
      obtain rfl := Option.some.inj h
      exact awp_ret (fin_ob [] (by kernel_rfl) trivial)
  · intro z h hg
    obtain ⟨r1_2, hr1_2, h⟩ := bind_s h
    rcases Bool.eq_false_or_eq_true (!r1_2) with d1_4 | d1_4
    · replace h := if_t d1_4 h
      refine seq_region [(9, true)] [⟨77, [.int .i64 (x0.length : Int), .int .i64 1, .int .i64 7], [], .bool r1_2, [], 0, 0⟩] [same [.int .i64 (x0.length : Int), .int .i64 1, .int .i64 7], (!r1_2) = true] (by kernel_rfl) ⟨rfl, d1_4, trivial⟩ ⟨spec_l1In.calls _ _ _ _ _ hr1_2, trivial⟩ ?_
      refine awp_cond_k (b := true) (by kernel_rfl) ?_
      refine seq_reg (by kernel_rfl) ?_
      obtain rfl := Option.some.inj h
      replace h := hg
      obtain rfl := Option.some.inj h
      exact awp_ret (fin_ob [] (by kernel_rfl) trivial)
    · replace h := if_f d1_4 h
      rcases Bool.eq_false_or_eq_true (decide ((x0.length : Int) > 1)) with d1_8 | d1_8
      · replace h := if_p d1_8 h
        obtain ⟨o1_10_0, h⟩ := if_s h
        refine seq_region [(9, false), (13, true)] [⟨77, [.int .i64 (x0.length : Int), .int .i64 1, .int .i64 7], [], .bool r1_2, [], 0, 0⟩] [same [.int .i64 (x0.length : Int), .int .i64 1, .int .i64 7], (!r1_2) = false, (decide ((x0.length : Int) > 1)) = true, (0 : Int) ≤ 0 ∧ 0 < (x0.length : Int)] (by kernel_rfl) ⟨rfl, d1_4, d1_8, o1_10_0, trivial⟩ ⟨spec_l1In.calls _ _ _ _ _ hr1_2, trivial⟩ ?_
        refine awp_cond (b := (((x0.getD (0 : Int).toNat 0).toNat : Int) == 48)) (by kernel_rfl) (fun hb => ?_) (fun hb => ?_)
        · replace h := if_t hb h
          refine seq_reg (by kernel_rfl) ?_
          obtain rfl := Option.some.inj h
          replace h := hg
          obtain rfl := Option.some.inj h
          exact awp_ret (fin_ob [] (by kernel_rfl) trivial)
        · replace h := if_f hb h
          refine awp_skip ?_
          obtain rfl := Option.some.inj h
          exact ⟨(), rfl, fm_wk ⟨by kernel_rfl, by kernel_rfl, trivial⟩ (by kernel_rfl)⟩
      · replace h := if_n d1_8 h
        refine seq_region [(9, false), (13, false)] [⟨77, [.int .i64 (x0.length : Int), .int .i64 1, .int .i64 7], [], .bool r1_2, [], 0, 0⟩] [same [.int .i64 (x0.length : Int), .int .i64 1, .int .i64 7], (!r1_2) = false, (decide ((x0.length : Int) > 1)) = false] (by kernel_rfl) ⟨rfl, d1_4, d1_8, trivial⟩ ⟨spec_l1In.calls _ _ _ _ _ hr1_2, trivial⟩ ?_
        refine awp_cond_k (b := false) (by kernel_rfl) ?_
        refine awp_skip ?_
        obtain rfl := Option.some.inj h
        exact ⟨(), rfl, fm_wk ⟨by kernel_rfl, by kernel_rfl, trivial⟩ (by kernel_rfl)⟩

theorem spec_GateWeighs.calls (k : Nat) (x0 : GateLaw) (x1 : GateObject) (x2 : List UInt8) (r : Int) (h : spec_GateWeighs k x0 x1 x2 = some r) : PC Try.prog 19 [.agg (GateLaw.c x0), .agg (GateObject.c x1), .str x2] (.int .i64 r) := by
  unfold spec_GateWeighs at h
  refine pc_intro (fn := Try.f19) Try.call19 Try.func19 rfl (Nat.le_of_ble_eq_true rfl) rfl rfl ?_
  refine seq_reg (by kernel_rfl) ?_
  obtain ⟨r1_3, hr1_3, h⟩ := bind_s h
  refine seq_region [] [⟨43, [sl 2 GateShape.c x0.Shapes, .agg (GateObject.c x1)], [], .tup [sl 11 GateField.c r1_3.1, .bool r1_3.2], [], 2, 0⟩] [same [sl 2 GateShape.c x0.Shapes, .agg (GateObject.c x1)]] (by kernel_rfl) ⟨rfl, trivial⟩ ⟨spec_l2Fields.calls _ _ _ _ hr1_3, trivial⟩ ?_
  refine awp_seq ?_
  rcases Bool.eq_false_or_eq_true (!r1_3.2) with d2_2 | d2_2
  · replace h := if_t d2_2 h
    refine seq_region [(21, true)] [] [(!r1_3.2) = true] (by kernel_rfl) ⟨d2_2, trivial⟩ trivial ?_
    refine awp_cond_k (b := true) (by kernel_rfl) ?_
    refine seq_reg (by kernel_rfl) ?_
    obtain rfl := Option.some.inj h
    exact awp_ret (fin_ob [] (by kernel_rfl) trivial)
  · replace h := if_f d2_2 h
    refine seq_region [(21, false)] [] [(!r1_3.2) = false] (by kernel_rfl) ⟨d2_2, trivial⟩ trivial ?_
    refine awp_cond (b := (x2 == [])) (by kernel_rfl) (fun hb => ?_) (fun hb => ?_)
    · replace h := if_t hb h
      refine seq_reg (by kernel_rfl) ?_
      obtain rfl := Option.some.inj h
      exact awp_ret (fin_ob [] (by kernel_rfl) trivial)
    · replace h := if_f hb h
      refine awp_skip ?_
      refine seq_reg (by kernel_rfl) ?_
      refine seq_join (fr := fun (z : (Int)) => match z with | q0_9 => Fm 64 2 [(2, .str x2), (4, .bp 1 0), (7, sl 11 GateField.c r1_3.1), (9, .int .i64 q0_9)] [(1, .box [.str x1.Kind, .str x1.Name, .str x1.Team, sl 1 cStr x1.Values, .bool x1.Ending, sl 1 cStr x1.Holds, .int .i64 x1.Version])]) (inn := fun (z : (Int)) => z) h ?_ ?_
      · rintro q0_9 h
        refine awp_seq ?_
        refine seq_reg (by kernel_rfl) ?_
        refine awp_block ?_
        refine awp_loop_r (nt := 64) (N := 3) (l := [(2, .str x2), (4, .bp 2 0), (7, sl 11 GateField.c r1_3.1), (9, .int .i64 q0_9), (10, .int .i64 0)]) (hs := [(2, .box [.str x1.Kind, .str x1.Name, .str x1.Team, sl 1 cStr x1.Values, .bool x1.Ending, sl 1 cStr x1.Holds, .int .i64 x1.Version])]) (r := [(2, 1)]) rfl ⟨by kernel_rfl, by kernel_rfl, (or_box (by kernel_rfl) (by kernel_rfl) trivial)⟩ ?_
        refine loop_ind (fr := fun (z : (Int) × (Int)) => match z with | (v0_9, v0_10) => Fm 64 3 [(2, .str x2), (4, .bp 2 0), (7, sl 11 GateField.c r1_3.1), (9, .int .i64 v0_9), (10, .int .i64 v0_10)] [(2, .box [.str x1.Kind, .str x1.Name, .str x1.Team, sl 1 cStr x1.Values, .bool x1.Ending, sl 1 cStr x1.Holds, .int .i64 x1.Version])]) (f := fun k (z : (Int) × (Int)) => match z with | (v0_9, v0_10) => spec_GateWeighs.l0 r1_3 x1 x2 k v0_9 v0_10) ?_ (fun _ => rfl) k (q0_9, 0) h
        clear h
        rintro k0 ⟨v0_9, v0_10⟩ ih0 h
        replace h : (spec_GateWeighs.l0 r1_3 x1 x2 (k0 + 1) v0_9 v0_10).bind _ = some _ := h
        rw [spec_GateWeighs.l0] at h
        refine aloop_r ?_
        refine awp_seq ?_
        refine seq_reg (by kernel_rfl) ?_
        refine awp_cond (b := (decide (v0_10 < (r1_3.1.length : Int)))) (by kernel_rfl) (fun hb => ?_) (fun hb => ?_)
        · replace h := bif_p hb h
          refine awp_skip ?_
          refine awp_seq ?_
          refine awp_block ?_
          obtain ⟨o10_3_0, h⟩ := bif_s h
          obtain ⟨r10_5, hr10_5, h⟩ := bbind_s h
          refine seq_region [] [⟨44, [.str (x1.Values.getD v0_10.toNat default)], [], .int .i64 r10_5, [], 3, 0⟩] [(0 : Int) ≤ v0_10 ∧ v0_10 < (x1.Values.length : Int), same [.str (x1.Values.getD v0_10.toNat default)]] (by kernel_rfl) ⟨o10_3_0, rfl, trivial⟩ ⟨spec_l1Number.calls _ _ _ hr10_5, trivial⟩ ?_
          obtain ⟨o11_2_0, h⟩ := bif_s h
          rcases Bool.eq_false_or_eq_true ((r1_3.1.getD v0_10.toNat default).Kind == 1) with d11_6 | d11_6
          · replace h := bif_t d11_6 h
            obtain ⟨o11_9_0, h⟩ := bif_s h
            rcases Bool.eq_false_or_eq_true ((r1_3.1.getD v0_10.toNat default).Weighs == x2) with d11_15 | d11_15
            · replace h := bif_t d11_15 h
              refine seq_region [(47, true), (56, true)] [] [(0 : Int) ≤ v0_10 ∧ v0_10 < (r1_3.1.length : Int), ((r1_3.1.getD v0_10.toNat default).Kind == 1) = true, (0 : Int) ≤ v0_10 ∧ v0_10 < (r1_3.1.length : Int), ((r1_3.1.getD v0_10.toNat default).Weighs == x2) = true] (by kernel_rfl) ⟨o11_2_0, d11_6, o11_9_0, d11_15, trivial⟩ trivial ?_
              refine awp_cond (b := (decide (r10_5 > 0))) (by kernel_rfl) (fun hb => ?_) (fun hb => ?_)
              · replace h := bif_p hb h
                refine awp_reg (by kernel_rfl) ?_
                refine awp_reg (by kernel_rfl) ?_
                exact ⟨_, _, [(2, .str x2), (4, .bp 2 0), (7, sl 11 GateField.c r1_3.1), (9, .int .i64 (wr .i64 (v0_9 + r10_5))), (10, .int .i64 (wr .i64 (v0_10 + 1)))], [(2, .box [.str x1.Kind, .str x1.Name, .str x1.Team, sl 1 cStr x1.Values, .bool x1.Ending, sl 1 cStr x1.Holds, .int .i64 x1.Version])], [(2, 2)], ⟨by kernel_rfl, by kernel_rfl, (or_box (by kernel_rfl) (by kernel_rfl) trivial)⟩, ih0 ((wr .i64 (v0_9 + r10_5)), (wr .i64 (v0_10 + 1))) h⟩
              · replace h := bif_n hb h
                refine awp_skip ?_
                refine awp_reg (by kernel_rfl) ?_
                exact ⟨_, _, [(2, .str x2), (4, .bp 2 0), (7, sl 11 GateField.c r1_3.1), (9, .int .i64 v0_9), (10, .int .i64 (wr .i64 (v0_10 + 1)))], [(2, .box [.str x1.Kind, .str x1.Name, .str x1.Team, sl 1 cStr x1.Values, .bool x1.Ending, sl 1 cStr x1.Holds, .int .i64 x1.Version])], [(2, 2)], ⟨by kernel_rfl, by kernel_rfl, (or_box (by kernel_rfl) (by kernel_rfl) trivial)⟩, ih0 (v0_9, (wr .i64 (v0_10 + 1))) h⟩
            · replace h := bif_f d11_15 h
              refine seq_region [(47, true), (56, false)] [] [(0 : Int) ≤ v0_10 ∧ v0_10 < (r1_3.1.length : Int), ((r1_3.1.getD v0_10.toNat default).Kind == 1) = true, (0 : Int) ≤ v0_10 ∧ v0_10 < (r1_3.1.length : Int), ((r1_3.1.getD v0_10.toNat default).Weighs == x2) = false] (by kernel_rfl) ⟨o11_2_0, d11_6, o11_9_0, d11_15, trivial⟩ trivial ?_
              refine awp_cond_k (b := false) (by kernel_rfl) ?_
              refine awp_skip ?_
              refine awp_reg (by kernel_rfl) ?_
              exact ⟨_, _, [(2, .str x2), (4, .bp 2 0), (7, sl 11 GateField.c r1_3.1), (9, .int .i64 v0_9), (10, .int .i64 (wr .i64 (v0_10 + 1)))], [(2, .box [.str x1.Kind, .str x1.Name, .str x1.Team, sl 1 cStr x1.Values, .bool x1.Ending, sl 1 cStr x1.Holds, .int .i64 x1.Version])], [(2, 2)], ⟨by kernel_rfl, by kernel_rfl, (or_box (by kernel_rfl) (by kernel_rfl) trivial)⟩, ih0 (v0_9, (wr .i64 (v0_10 + 1))) h⟩
          · replace h := bif_f d11_6 h
            refine seq_region [(47, false)] [] [(0 : Int) ≤ v0_10 ∧ v0_10 < (r1_3.1.length : Int), ((r1_3.1.getD v0_10.toNat default).Kind == 1) = false] (by kernel_rfl) ⟨o11_2_0, d11_6, trivial⟩ trivial ?_
            refine awp_cond_k (b := false) (by kernel_rfl) ?_
            refine awp_skip ?_
            refine awp_reg (by kernel_rfl) ?_
            exact ⟨_, _, [(2, .str x2), (4, .bp 2 0), (7, sl 11 GateField.c r1_3.1), (9, .int .i64 v0_9), (10, .int .i64 (wr .i64 (v0_10 + 1)))], [(2, .box [.str x1.Kind, .str x1.Name, .str x1.Team, sl 1 cStr x1.Values, .bool x1.Ending, sl 1 cStr x1.Holds, .int .i64 x1.Version])], [(2, 2)], ⟨by kernel_rfl, by kernel_rfl, (or_box (by kernel_rfl) (by kernel_rfl) trivial)⟩, ih0 (v0_9, (wr .i64 (v0_10 + 1))) h⟩
        · replace h := bif_n hb h
          refine awp_exit ?_
          replace h := bsome h
          refine seq_reg (by kernel_rfl) ?_
          obtain rfl := Option.some.inj h
          exact awp_ret (fin_ob [] (by kernel_rfl) trivial)
      · intro z h hg
        refine seq_reg (by kernel_rfl) ?_
        refine awp_cond (b := (x2 == x1.Kind)) (by kernel_rfl) (fun hb => ?_) (fun hb => ?_)
        · replace h := if_t hb h
          refine awp_reg (by kernel_rfl) ?_
          obtain rfl := Option.some.inj h
          exact ⟨1, rfl, fm_wk ⟨by kernel_rfl, by kernel_rfl, (ob_box (by kernel_rfl) (by kernel_rfl) trivial)⟩ (by kernel_rfl)⟩
        · replace h := if_f hb h
          refine awp_skip ?_
          obtain rfl := Option.some.inj h
          exact ⟨0, rfl, fm_wk ⟨by kernel_rfl, by kernel_rfl, (ob_box (by kernel_rfl) (by kernel_rfl) trivial)⟩ (by kernel_rfl)⟩

theorem impl_shapeOf.calls (k : Nat) (x0 : List (GateShape)) (x1 : List UInt8) (r : Int) (h : impl_shapeOf k x0 x1 = some r) : PC Try.prog 80 [sl 2 GateShape.c x0, .str x1] (.int .i64 r) := by
  unfold impl_shapeOf at h
  refine pc_intro (fn := Try.f80) Try.call80 Try.func80 rfl (Nat.le_of_ble_eq_true rfl) rfl rfl ?_
  refine seq_reg (by kernel_rfl) ?_
  refine awp_seq ?_
  refine seq_reg (by kernel_rfl) ?_
  refine awp_block ?_
  refine awp_loop_r (nt := 20) (N := 0) (l := [(1, .str x1), (7, sl 2 GateShape.c x0), (8, .int .i64 (x0.length : Int)), (9, .int .i64 0)]) (hs := []) (r := []) rfl ⟨by kernel_rfl, by kernel_rfl, trivial⟩ ?_
  refine loop_ind (fr := fun (v0_9 : (Int)) => Fm 20 0 [(1, .str x1), (7, sl 2 GateShape.c x0), (8, .int .i64 (x0.length : Int)), (9, .int .i64 v0_9)] []) (f := fun k (z : (Int)) => match z with | v0_9 => impl_shapeOf.l0 x0 x1 k v0_9) ?_ (fun _ => rfl) k 0 h
  clear h
  rintro k0 v0_9 ih0 h
  replace h : (impl_shapeOf.l0 x0 x1 (k0 + 1) v0_9).bind _ = some _ := h
  rw [impl_shapeOf.l0] at h
  refine aloop_r ?_
  refine seq_reg (by kernel_rfl) ?_
  refine awp_seq ?_
  refine awp_cond (b := (decide (v0_9 < (x0.length : Int)))) (by kernel_rfl) (fun hb => ?_) (fun hb => ?_)
  · replace h := bif_p hb h
    refine awp_skip ?_
    refine awp_seq ?_
    refine awp_block ?_
    obtain ⟨o3_1_0, h⟩ := bif_s h
    refine seq_region [] [] [(0 : Int) ≤ v0_9 ∧ v0_9 < (x0.length : Int)] (by kernel_rfl) ⟨o3_1_0, trivial⟩ trivial ?_
    refine seq_reg (by kernel_rfl) ?_
    refine awp_cond (b := ((x0.getD v0_9.toNat default).Kind == x1)) (by kernel_rfl) (fun hb => ?_) (fun hb => ?_)
    · replace h := bif_t hb h
      refine seq_reg (by kernel_rfl) ?_
      obtain rfl := Option.some.inj h
      exact awp_ret (fin_ob [] (by kernel_rfl) trivial)
    · replace h := bif_f hb h
      refine awp_skip ?_
      refine awp_reg (by kernel_rfl) ?_
      exact ⟨_, _, [(1, .str x1), (7, sl 2 GateShape.c x0), (8, .int .i64 (x0.length : Int)), (9, .int .i64 (wr .i64 (v0_9 + 1)))], [], [], ⟨by kernel_rfl, by kernel_rfl, trivial⟩, ih0 (wr .i64 (v0_9 + 1)) h⟩
  · replace h := bif_n hb h
    refine awp_exit ?_
    replace h := bsome h
    refine seq_reg (by kernel_rfl) ?_
    obtain rfl := Option.some.inj h
    exact awp_ret (fin_ob [] (by kernel_rfl) trivial)

theorem impl_fieldsOf.calls (k : Nat) (x0 : List (GateShape)) (x1 : GateObject) (r : (List (GateField) × Bool)) (h : impl_fieldsOf k x0 x1 = some r) : PC Try.prog 48 [sl 2 GateShape.c x0, .agg (GateObject.c x1)] (.tup [sl 11 GateField.c r.1, .bool r.2]) := by
  unfold impl_fieldsOf at h
  refine pc_intro (fn := Try.f48) Try.call48 Try.func48 rfl (Nat.le_of_ble_eq_true rfl) rfl rfl ?_
  refine seq_reg (by kernel_rfl) ?_
  obtain ⟨r1_3, hr1_3, h⟩ := bind_s h
  refine seq_region [] [⟨80, [sl 2 GateShape.c x0, .str x1.Kind], [], .int .i64 r1_3, [], 1, 0⟩] [same [sl 2 GateShape.c x0, .str x1.Kind]] (by kernel_rfl) ⟨rfl, trivial⟩ ⟨impl_shapeOf.calls _ _ _ _ hr1_3, trivial⟩ ?_
  refine awp_seq ?_
  rcases Bool.eq_false_or_eq_true (decide (r1_3 < 0)) with d2_2 | d2_2
  · replace h := if_p d2_2 h
    refine seq_draw hmix #[0, 1, 3, 7, 15, 31, 7, 7, 199, 455, 967, 1991, 4095, 8191] [] [(13, true)] [] [(decide (r1_3 < 0)) = true] (by kernel_rfl) ⟨d2_2, trivial⟩ trivial ?_
    refine awp_cond_k (b := true) (by kernel_rfl) ?_
    refine seq_reg (by kernel_rfl) ?_
    obtain rfl := Option.some.inj h
    exact awp_ret (fin_ob [] (by kernel_rfl) trivial)
  · replace h := if_n d2_2 h
    obtain ⟨o2_8_0, h⟩ := if_s h
    refine seq_draw hmix #[0, 1, 3, 7, 15, 31, 7, 7, 199, 455, 967, 1991, 4095, 8191] [] [(13, false)] [] [(decide (r1_3 < 0)) = false, (0 : Int) ≤ r1_3 ∧ r1_3 < (x0.length : Int)] (by kernel_rfl) ⟨d2_2, o2_8_0, trivial⟩ trivial ?_
    refine awp_cond (b := ((x1.Values.length : Int) != ((x0.getD r1_3.toNat default).Fields.length : Int))) (by kernel_rfl) (fun hb => ?_) (fun hb => ?_)
    · replace h := if_t hb h
      refine seq_reg (by kernel_rfl) ?_
      obtain rfl := Option.some.inj h
      exact awp_ret (fin_ob [] (by kernel_rfl) trivial)
    · replace h := if_f hb h
      refine awp_skip ?_
      obtain ⟨o4_2_0, h⟩ := if_s h
      refine seq_region [] [] [(0 : Int) ≤ r1_3 ∧ r1_3 < (x0.length : Int)] (by kernel_rfl) ⟨o4_2_0, trivial⟩ trivial ?_
      obtain rfl := Option.some.inj h
      exact awp_ret (fin_ob [] (by kernel_rfl) trivial)

theorem impl_decimal.calls (k : Nat) (x0 : List UInt8) (r : (Int × Bool)) (h : impl_decimal k x0 = some r) : PC Try.prog 49 [.str x0] (.tup [.int .i64 r.1, .bool r.2]) := by
  unfold impl_decimal at h
  refine pc_intro (fn := Try.f49) Try.call49 Try.func49 rfl (Nat.le_of_ble_eq_true rfl) rfl rfl ?_
  refine seq_reg (by kernel_rfl) ?_
  refine seq_join (fr := fun (z : Unit) => match z with | () => Fm 49 0 [(0, .str x0)] []) (inn := fun (z : Unit) => (.inr z)) h ?_ ?_
  · rintro ⟨⟩ h
    refine seq_reg (by kernel_rfl) ?_
    refine awp_seq ?_
    refine seq_reg (by kernel_rfl) ?_
    refine awp_block ?_
    refine awp_loop_r (nt := 49) (N := 0) (l := [(0, .str x0), (4, .int .i64 0), (25, .int .i64 (x0.length : Int)), (26, .int .i64 0)]) (hs := []) (r := []) rfl ⟨by kernel_rfl, by kernel_rfl, trivial⟩ ?_
    refine loop_ind (fr := fun (z : (Int) × (Int)) => match z with | (v0_4, v0_26) => Fm 49 0 [(0, .str x0), (4, .int .i64 v0_4), (25, .int .i64 (x0.length : Int)), (26, .int .i64 v0_26)] []) (f := fun k (z : (Int) × (Int)) => match z with | (v0_4, v0_26) => impl_decimal.l0 x0 k v0_4 v0_26) ?_ (fun _ => rfl) k (0, 0) h
    clear h
    rintro k0 ⟨v0_4, v0_26⟩ ih0 h
    replace h : (impl_decimal.l0 x0 (k0 + 1) v0_4 v0_26).bind _ = some _ := h
    rw [impl_decimal.l0] at h
    refine aloop_r ?_
    refine seq_reg (by kernel_rfl) ?_
    refine awp_seq ?_
    refine awp_cond (b := (decide (v0_26 < (x0.length : Int)))) (by kernel_rfl) (fun hb => ?_) (fun hb => ?_)
    · replace h := bif_p hb h
      refine awp_skip ?_
      refine awp_seq ?_
      refine awp_block ?_
      refine seq_reg (by kernel_rfl) ?_
      refine awp_seq ?_
      obtain ⟨o7_2_0, h⟩ := bif_s h
      rcases Bool.eq_false_or_eq_true (decide (((x0.getD v0_26.toNat 0).toNat : Int) < 48)) with d7_4 | d7_4
      · replace h := bif_p d7_4 h
        refine seq_region [(33, true)] [] [(0 : Int) ≤ v0_26 ∧ v0_26 < (x0.length : Int), (decide (((x0.getD v0_26.toNat 0).toNat : Int) < 48)) = true] (by kernel_rfl) ⟨o7_2_0, d7_4, trivial⟩ trivial ?_
        refine awp_cond_k (b := true) (by kernel_rfl) ?_
        refine seq_reg (by kernel_rfl) ?_
        obtain rfl := Option.some.inj h
        exact awp_ret (fin_ob [] (by kernel_rfl) trivial)
      · replace h := bif_n d7_4 h
        obtain ⟨o7_7_0, h⟩ := bif_s h
        refine seq_region [(33, false)] [] [(0 : Int) ≤ v0_26 ∧ v0_26 < (x0.length : Int), (decide (((x0.getD v0_26.toNat 0).toNat : Int) < 48)) = false, (0 : Int) ≤ v0_26 ∧ v0_26 < (x0.length : Int)] (by kernel_rfl) ⟨o7_2_0, d7_4, o7_7_0, trivial⟩ trivial ?_
        refine awp_cond (b := (decide (((x0.getD v0_26.toNat 0).toNat : Int) > 57))) (by kernel_rfl) (fun hb => ?_) (fun hb => ?_)
        · replace h := bif_p hb h
          refine seq_reg (by kernel_rfl) ?_
          obtain rfl := Option.some.inj h
          exact awp_ret (fin_ob [] (by kernel_rfl) trivial)
        · replace h := bif_n hb h
          refine awp_skip ?_
          obtain ⟨o9_4_0, h⟩ := bif_s h
          refine awp_region [] [] [(0 : Int) ≤ v0_26 ∧ v0_26 < (x0.length : Int)] (by kernel_rfl) ⟨o9_4_0, trivial⟩ trivial ?_
          refine awp_reg (by kernel_rfl) ?_
          exact ⟨_, _, [(0, .str x0), (4, .int .i64 (wr .i64 ((wr .i64 (v0_4 * 10)) + (wr .i64 (wr .u8 (((x0.getD v0_26.toNat 0).toNat : Int) - 48)))))), (25, .int .i64 (x0.length : Int)), (26, .int .i64 (wr .i64 (v0_26 + 1)))], [], [], ⟨by kernel_rfl, by kernel_rfl, trivial⟩, ih0 ((wr .i64 ((wr .i64 (v0_4 * 10)) + (wr .i64 (wr .u8 (((x0.getD v0_26.toNat 0).toNat : Int) - 48))))), (wr .i64 (v0_26 + 1))) h⟩
    · replace h := bif_n hb h
      refine awp_exit ?_
      replace h := bsome h
      refine seq_reg (by kernel_rfl) ?_
      obtain rfl := Option.some.inj h
      exact awp_ret (fin_ob [] (by kernel_rfl) trivial)
  · intro z h hg
    rcases Bool.eq_false_or_eq_true (decide ((x0.length : Int) < 1)) with d1_3 | d1_3
    · replace h := if_p d1_3 h
      refine seq_region [(9, true)] [] [(decide ((x0.length : Int) < 1)) = true] (by kernel_rfl) ⟨d1_3, trivial⟩ trivial ?_
      refine awp_cond_k (b := true) (by kernel_rfl) ?_
      refine seq_reg (by kernel_rfl) ?_
      obtain rfl := Option.some.inj h
      replace h := hg
      obtain rfl := Option.some.inj h
      exact awp_ret (fin_ob [] (by kernel_rfl) trivial)
    · replace h := if_n d1_3 h
      rcases Bool.eq_false_or_eq_true (decide ((x0.length : Int) > 7)) with d1_8 | d1_8
      · replace h := if_p d1_8 h
        refine seq_region [(9, false), (14, true)] [] [(decide ((x0.length : Int) < 1)) = false, (decide ((x0.length : Int) > 7)) = true] (by kernel_rfl) ⟨d1_3, d1_8, trivial⟩ trivial ?_
        refine awp_cond_k (b := true) (by kernel_rfl) ?_
        refine seq_reg (by kernel_rfl) ?_
        obtain rfl := Option.some.inj h
        replace h := hg
        obtain rfl := Option.some.inj h
        exact awp_ret (fin_ob [] (by kernel_rfl) trivial)
      · replace h := if_n d1_8 h
        obtain ⟨o1_10_0, h⟩ := if_s h
        rcases Bool.eq_false_or_eq_true (((x0.getD (0 : Int).toNat 0).toNat : Int) == 48) with d1_12 | d1_12
        · replace h := if_t d1_12 h
          refine seq_region [(9, false), (14, false), (18, true)] [] [(decide ((x0.length : Int) < 1)) = false, (decide ((x0.length : Int) > 7)) = false, (0 : Int) ≤ 0 ∧ 0 < (x0.length : Int), (((x0.getD (0 : Int).toNat 0).toNat : Int) == 48) = true] (by kernel_rfl) ⟨d1_3, d1_8, o1_10_0, d1_12, trivial⟩ trivial ?_
          refine awp_cond (b := (decide ((x0.length : Int) > 1))) (by kernel_rfl) (fun hb => ?_) (fun hb => ?_)
          · replace h := if_p hb h
            refine seq_reg (by kernel_rfl) ?_
            obtain rfl := Option.some.inj h
            replace h := hg
            obtain rfl := Option.some.inj h
            exact awp_ret (fin_ob [] (by kernel_rfl) trivial)
          · replace h := if_n hb h
            refine awp_skip ?_
            obtain rfl := Option.some.inj h
            exact ⟨(), rfl, fm_wk ⟨by kernel_rfl, by kernel_rfl, trivial⟩ (by kernel_rfl)⟩
        · replace h := if_f d1_12 h
          refine seq_region [(9, false), (14, false), (18, false)] [] [(decide ((x0.length : Int) < 1)) = false, (decide ((x0.length : Int) > 7)) = false, (0 : Int) ≤ 0 ∧ 0 < (x0.length : Int), (((x0.getD (0 : Int).toNat 0).toNat : Int) == 48) = false] (by kernel_rfl) ⟨d1_3, d1_8, o1_10_0, d1_12, trivial⟩ trivial ?_
          refine awp_cond_k (b := false) (by kernel_rfl) ?_
          refine awp_skip ?_
          obtain rfl := Option.some.inj h
          exact ⟨(), rfl, fm_wk ⟨by kernel_rfl, by kernel_rfl, trivial⟩ (by kernel_rfl)⟩

theorem impl_GateWeighs.calls (k : Nat) (x0 : GateLaw) (x1 : GateObject) (x2 : List UInt8) (r : Int) (h : impl_GateWeighs k x0 x1 x2 = some r) : PC Try.prog 22 [.agg (GateLaw.c x0), .agg (GateObject.c x1), .str x2] (.int .i64 r) := by
  unfold impl_GateWeighs at h
  refine pc_intro (fn := Try.f22) Try.call22 Try.func22 rfl (Nat.le_of_ble_eq_true rfl) rfl rfl ?_
  refine seq_reg (by kernel_rfl) ?_
  obtain ⟨r1_3, hr1_3, h⟩ := bind_s h
  refine seq_region [] [⟨48, [sl 2 GateShape.c x0.Shapes, .agg (GateObject.c x1)], [], .tup [sl 11 GateField.c r1_3.1, .bool r1_3.2], [], 2, 0⟩] [same [sl 2 GateShape.c x0.Shapes, .agg (GateObject.c x1)]] (by kernel_rfl) ⟨rfl, trivial⟩ ⟨impl_fieldsOf.calls _ _ _ _ hr1_3, trivial⟩ ?_
  refine awp_seq ?_
  rcases Bool.eq_false_or_eq_true (!r1_3.2) with d2_2 | d2_2
  · replace h := if_t d2_2 h
    refine seq_region [(23, true)] [] [(!r1_3.2) = true] (by kernel_rfl) ⟨d2_2, trivial⟩ trivial ?_
    refine awp_cond_k (b := true) (by kernel_rfl) ?_
    refine seq_reg (by kernel_rfl) ?_
    obtain rfl := Option.some.inj h
    exact awp_ret (fin_ob [] (by kernel_rfl) trivial)
  · replace h := if_f d2_2 h
    refine seq_region [(23, false)] [] [(!r1_3.2) = false] (by kernel_rfl) ⟨d2_2, trivial⟩ trivial ?_
    refine awp_cond (b := (x2 == [])) (by kernel_rfl) (fun hb => ?_) (fun hb => ?_)
    · replace h := if_t hb h
      refine seq_reg (by kernel_rfl) ?_
      obtain rfl := Option.some.inj h
      exact awp_ret (fin_ob [] (by kernel_rfl) trivial)
    · replace h := if_f hb h
      refine awp_skip ?_
      refine seq_reg (by kernel_rfl) ?_
      refine seq_join (fr := fun (z : (Int)) => match z with | q0_9 => Fm 61 2 [(2, .str x2), (4, .bp 1 0), (7, sl 11 GateField.c r1_3.1), (9, .int .i64 q0_9)] [(1, .box [.str x1.Kind, .str x1.Name, .str x1.Team, sl 1 cStr x1.Values, .bool x1.Ending, sl 1 cStr x1.Holds, .int .i64 x1.Version])]) (inn := fun (z : (Int)) => z) h ?_ ?_
      · rintro q0_9 h
        refine awp_seq ?_
        refine seq_reg (by kernel_rfl) ?_
        refine awp_block ?_
        refine awp_loop_r (nt := 61) (N := 3) (l := [(2, .str x2), (4, .bp 2 0), (9, .int .i64 q0_9), (31, sl 11 GateField.c r1_3.1), (32, .int .i64 (r1_3.1.length : Int)), (33, .int .i64 0)]) (hs := [(2, .box [.str x1.Kind, .str x1.Name, .str x1.Team, sl 1 cStr x1.Values, .bool x1.Ending, sl 1 cStr x1.Holds, .int .i64 x1.Version])]) (r := [(2, 1)]) rfl ⟨by kernel_rfl, by kernel_rfl, (or_box (by kernel_rfl) (by kernel_rfl) trivial)⟩ ?_
        refine loop_ind (fr := fun (z : (Int) × (Int)) => match z with | (v0_9, v0_33) => Fm 61 3 [(2, .str x2), (4, .bp 2 0), (9, .int .i64 v0_9), (31, sl 11 GateField.c r1_3.1), (32, .int .i64 (r1_3.1.length : Int)), (33, .int .i64 v0_33)] [(2, .box [.str x1.Kind, .str x1.Name, .str x1.Team, sl 1 cStr x1.Values, .bool x1.Ending, sl 1 cStr x1.Holds, .int .i64 x1.Version])]) (f := fun k (z : (Int) × (Int)) => match z with | (v0_9, v0_33) => impl_GateWeighs.l0 r1_3 x2 x1 k v0_9 v0_33) ?_ (fun _ => rfl) k (q0_9, 0) h
        clear h
        rintro k0 ⟨v0_9, v0_33⟩ ih0 h
        replace h : (impl_GateWeighs.l0 r1_3 x2 x1 (k0 + 1) v0_9 v0_33).bind _ = some _ := h
        rw [impl_GateWeighs.l0] at h
        refine aloop_r ?_
        refine seq_reg (by kernel_rfl) ?_
        refine awp_seq ?_
        refine awp_cond (b := (decide (v0_33 < (r1_3.1.length : Int)))) (by kernel_rfl) (fun hb => ?_) (fun hb => ?_)
        · replace h := bif_p hb h
          refine awp_skip ?_
          refine awp_seq ?_
          refine awp_block ?_
          obtain ⟨o9_1_0, h⟩ := bif_s h
          refine seq_region [] [] [(0 : Int) ≤ v0_33 ∧ v0_33 < (r1_3.1.length : Int)] (by kernel_rfl) ⟨o9_1_0, trivial⟩ trivial ?_
          refine awp_seq ?_
          rcases Bool.eq_false_or_eq_true ((r1_3.1.getD v0_33.toNat default).Kind != 1) with d10_3 | d10_3
          · replace h := bif_t d10_3 h
            refine seq_region [(41, true)] [] [((r1_3.1.getD v0_33.toNat default).Kind != 1) = true] (by kernel_rfl) ⟨d10_3, trivial⟩ trivial ?_
            refine awp_cond_k (b := true) (by kernel_rfl) ?_
            refine awp_exit ?_
            refine awp_reg (by kernel_rfl) ?_
            exact ⟨_, _, [(2, .str x2), (4, .bp 2 0), (9, .int .i64 v0_9), (31, sl 11 GateField.c r1_3.1), (32, .int .i64 (r1_3.1.length : Int)), (33, .int .i64 (wr .i64 (v0_33 + 1)))], [(2, .box [.str x1.Kind, .str x1.Name, .str x1.Team, sl 1 cStr x1.Values, .bool x1.Ending, sl 1 cStr x1.Holds, .int .i64 x1.Version])], [(2, 2)], ⟨by kernel_rfl, by kernel_rfl, (or_box (by kernel_rfl) (by kernel_rfl) trivial)⟩, ih0 (v0_9, (wr .i64 (v0_33 + 1))) h⟩
          · replace h := bif_f d10_3 h
            refine seq_region [(41, false)] [] [((r1_3.1.getD v0_33.toNat default).Kind != 1) = false] (by kernel_rfl) ⟨d10_3, trivial⟩ trivial ?_
            refine awp_cond (b := (!((r1_3.1.getD v0_33.toNat default).Weighs == x2))) (by kernel_rfl) (fun hb => ?_) (fun hb => ?_)
            · replace h := bif_t hb h
              refine awp_exit ?_
              refine awp_reg (by kernel_rfl) ?_
              exact ⟨_, _, [(2, .str x2), (4, .bp 2 0), (9, .int .i64 v0_9), (31, sl 11 GateField.c r1_3.1), (32, .int .i64 (r1_3.1.length : Int)), (33, .int .i64 (wr .i64 (v0_33 + 1)))], [(2, .box [.str x1.Kind, .str x1.Name, .str x1.Team, sl 1 cStr x1.Values, .bool x1.Ending, sl 1 cStr x1.Holds, .int .i64 x1.Version])], [(2, 2)], ⟨by kernel_rfl, by kernel_rfl, (or_box (by kernel_rfl) (by kernel_rfl) trivial)⟩, ih0 (v0_9, (wr .i64 (v0_33 + 1))) h⟩
            · replace h := bif_f hb h
              refine awp_skip ?_
              obtain ⟨o11_3_0, h⟩ := bif_s h
              obtain ⟨r11_5, hr11_5, h⟩ := bbind_s h
              refine seq_region [] [⟨49, [.str (x1.Values.getD v0_33.toNat default)], [], .tup [.int .i64 r11_5.1, .bool r11_5.2], [], 4, 0⟩] [(0 : Int) ≤ v0_33 ∧ v0_33 < (x1.Values.length : Int), same [.str (x1.Values.getD v0_33.toNat default)]] (by kernel_rfl) ⟨o11_3_0, rfl, trivial⟩ ⟨impl_decimal.calls _ _ _ hr11_5, trivial⟩ ?_
              refine awp_reg (by kernel_rfl) ?_
              refine awp_reg (by kernel_rfl) ?_
              exact ⟨_, _, [(2, .str x2), (4, .bp 2 0), (9, .int .i64 (wr .i64 (v0_9 + r11_5.1))), (31, sl 11 GateField.c r1_3.1), (32, .int .i64 (r1_3.1.length : Int)), (33, .int .i64 (wr .i64 (v0_33 + 1)))], [(2, .box [.str x1.Kind, .str x1.Name, .str x1.Team, sl 1 cStr x1.Values, .bool x1.Ending, sl 1 cStr x1.Holds, .int .i64 x1.Version])], [(2, 2)], ⟨by kernel_rfl, by kernel_rfl, (or_box (by kernel_rfl) (by kernel_rfl) trivial)⟩, ih0 ((wr .i64 (v0_9 + r11_5.1)), (wr .i64 (v0_33 + 1))) h⟩
        · replace h := bif_n hb h
          refine awp_exit ?_
          replace h := bsome h
          refine seq_reg (by kernel_rfl) ?_
          obtain rfl := Option.some.inj h
          exact awp_ret (fin_ob [] (by kernel_rfl) trivial)
      · intro z h hg
        refine seq_reg (by kernel_rfl) ?_
        refine awp_cond (b := (x2 == x1.Kind)) (by kernel_rfl) (fun hb => ?_) (fun hb => ?_)
        · replace h := if_t hb h
          refine awp_reg (by kernel_rfl) ?_
          obtain rfl := Option.some.inj h
          exact ⟨1, rfl, fm_wk ⟨by kernel_rfl, by kernel_rfl, (ob_box (by kernel_rfl) (by kernel_rfl) trivial)⟩ (by kernel_rfl)⟩
        · replace h := if_f hb h
          refine awp_skip ?_
          obtain rfl := Option.some.inj h
          exact ⟨0, rfl, fm_wk ⟨by kernel_rfl, by kernel_rfl, (ob_box (by kernel_rfl) (by kernel_rfl) trivial)⟩ (by kernel_rfl)⟩

theorem laws_eqStringS.calls (k : Nat) (x0 : List (List UInt8)) (x1 : List (List UInt8)) (r : Bool) (h : laws_eqStringS k x0 x1 = some r) : PC Try.prog 52 [sl 1 cStr x0, sl 1 cStr x1] (.bool r) := by
  unfold laws_eqStringS at h
  refine pc_intro (fn := Try.f52) Try.call52 Try.func52 rfl (Nat.le_of_ble_eq_true rfl) rfl rfl ?_
  refine seq_reg (by kernel_rfl) ?_
  refine awp_seq ?_
  refine seq_reg (by kernel_rfl) ?_
  refine awp_cond (b := ((x0.length : Int) != (x1.length : Int))) (by kernel_rfl) (fun hb => ?_) (fun hb => ?_)
  · replace h := if_t hb h
    refine seq_reg (by kernel_rfl) ?_
    obtain rfl := Option.some.inj h
    exact awp_ret (fin_ob [] (by kernel_rfl) trivial)
  · replace h := if_f hb h
    refine awp_skip ?_
    refine awp_seq ?_
    refine seq_reg (by kernel_rfl) ?_
    refine awp_block ?_
    refine awp_loop_r (nt := 26) (N := 0) (l := [(0, sl 1 cStr x0), (1, sl 1 cStr x1), (5, .int .i64 0)]) (hs := []) (r := []) rfl ⟨by kernel_rfl, by kernel_rfl, trivial⟩ ?_
    refine loop_ind (fr := fun (v0_5 : (Int)) => Fm 26 0 [(0, sl 1 cStr x0), (1, sl 1 cStr x1), (5, .int .i64 v0_5)] []) (f := fun k (z : (Int)) => match z with | v0_5 => laws_eqStringS.l0 x0 x1 k v0_5) ?_ (fun _ => rfl) k 0 h
    clear h
    rintro k0 v0_5 ih0 h
    replace h : (laws_eqStringS.l0 x0 x1 (k0 + 1) v0_5).bind _ = some _ := h
    rw [laws_eqStringS.l0] at h
    refine aloop_r ?_
    refine awp_seq ?_
    refine seq_reg (by kernel_rfl) ?_
    refine awp_cond (b := (decide (v0_5 < (x0.length : Int)))) (by kernel_rfl) (fun hb => ?_) (fun hb => ?_)
    · replace h := bif_p hb h
      refine awp_skip ?_
      refine awp_seq ?_
      refine awp_block ?_
      obtain ⟨o6_2_0, h⟩ := bif_s h
      obtain ⟨o6_6_0, h⟩ := bif_s h
      refine seq_draw hmix #[0, 0, 3, 7, 0, 0, 48, 112, 255] [] [] [] [(0 : Int) ≤ v0_5 ∧ v0_5 < (x0.length : Int), (0 : Int) ≤ v0_5 ∧ v0_5 < (x1.length : Int)] (by kernel_rfl) ⟨o6_2_0, o6_6_0, trivial⟩ trivial ?_
      refine awp_cond (b := (!((x0.getD v0_5.toNat default) == (x1.getD v0_5.toNat default)))) (by kernel_rfl) (fun hb => ?_) (fun hb => ?_)
      · replace h := bif_t hb h
        refine seq_reg (by kernel_rfl) ?_
        obtain rfl := Option.some.inj h
        exact awp_ret (fin_ob [] (by kernel_rfl) trivial)
      · replace h := bif_f hb h
        refine awp_skip ?_
        refine awp_reg (by kernel_rfl) ?_
        exact ⟨_, _, [(0, sl 1 cStr x0), (1, sl 1 cStr x1), (5, .int .i64 (wr .i64 (v0_5 + 1)))], [], [], ⟨by kernel_rfl, by kernel_rfl, trivial⟩, ih0 (wr .i64 (v0_5 + 1)) h⟩
    · replace h := bif_n hb h
      refine awp_exit ?_
      replace h := bsome h
      refine seq_reg (by kernel_rfl) ?_
      obtain rfl := Option.some.inj h
      exact awp_ret (fin_ob [] (by kernel_rfl) trivial)

theorem laws_eqGateField.calls (k : Nat) (x0 : GateField) (x1 : GateField) (r : Bool) (h : laws_eqGateField k x0 x1 = some r) : PC Try.prog 109 [.agg (GateField.c x0), .agg (GateField.c x1)] (.bool r) := by
  unfold laws_eqGateField at h
  refine pc_intro (fn := Try.f109) Try.call109 Try.func109 rfl (Nat.le_of_ble_eq_true rfl) rfl rfl ?_
  refine seq_reg (by kernel_rfl) ?_
  refine awp_seq ?_
  refine seq_reg (by kernel_rfl) ?_
  refine awp_cond (b := (!(x0.Name == x1.Name))) (by kernel_rfl) (fun hb => ?_) (fun hb => ?_)
  · replace h := if_t hb h
    refine seq_reg (by kernel_rfl) ?_
    obtain rfl := Option.some.inj h
    exact awp_ret (fin_ob [] (by kernel_rfl) trivial)
  · replace h := if_f hb h
    refine awp_skip ?_
    refine awp_seq ?_
    refine seq_reg (by kernel_rfl) ?_
    refine awp_cond (b := (x0.Kind != x1.Kind)) (by kernel_rfl) (fun hb => ?_) (fun hb => ?_)
    · replace h := if_t hb h
      refine seq_reg (by kernel_rfl) ?_
      obtain rfl := Option.some.inj h
      exact awp_ret (fin_ob [] (by kernel_rfl) trivial)
    · replace h := if_f hb h
      refine awp_skip ?_
      refine awp_seq ?_
      refine seq_reg (by kernel_rfl) ?_
      refine awp_cond (b := (x0.Least != x1.Least)) (by kernel_rfl) (fun hb => ?_) (fun hb => ?_)
      · replace h := if_t hb h
        refine seq_reg (by kernel_rfl) ?_
        obtain rfl := Option.some.inj h
        exact awp_ret (fin_ob [] (by kernel_rfl) trivial)
      · replace h := if_f hb h
        refine awp_skip ?_
        refine awp_seq ?_
        refine seq_reg (by kernel_rfl) ?_
        refine awp_cond (b := (x0.Most != x1.Most)) (by kernel_rfl) (fun hb => ?_) (fun hb => ?_)
        · replace h := if_t hb h
          refine seq_reg (by kernel_rfl) ?_
          obtain rfl := Option.some.inj h
          exact awp_ret (fin_ob [] (by kernel_rfl) trivial)
        · replace h := if_f hb h
          refine awp_skip ?_
          refine awp_seq ?_
          obtain ⟨r9_4, hr9_4, h⟩ := bind_s h
          refine seq_region [] [⟨52, [sl 1 cStr x0.Words, sl 1 cStr x1.Words], [], .bool r9_4, [], 2, 0⟩] [same [sl 1 cStr x0.Words, sl 1 cStr x1.Words]] (by kernel_rfl) ⟨rfl, trivial⟩ ⟨laws_eqStringS.calls _ _ _ _ hr9_4, trivial⟩ ?_
          refine awp_cond (b := (!r9_4)) (by kernel_rfl) (fun hb => ?_) (fun hb => ?_)
          · replace h := if_t hb h
            refine seq_reg (by kernel_rfl) ?_
            obtain rfl := Option.some.inj h
            exact awp_ret (fin_ob [] (by kernel_rfl) trivial)
          · replace h := if_f hb h
            refine awp_skip ?_
            refine awp_seq ?_
            refine seq_reg (by kernel_rfl) ?_
            refine awp_cond (b := (!(x0.To == x1.To))) (by kernel_rfl) (fun hb => ?_) (fun hb => ?_)
            · replace h := if_t hb h
              refine seq_reg (by kernel_rfl) ?_
              obtain rfl := Option.some.inj h
              exact awp_ret (fin_ob [] (by kernel_rfl) trivial)
            · replace h := if_f hb h
              refine awp_skip ?_
              refine awp_seq ?_
              refine seq_reg (by kernel_rfl) ?_
              refine awp_cond (b := (x0.Role != x1.Role)) (by kernel_rfl) (fun hb => ?_) (fun hb => ?_)
              · replace h := if_t hb h
                refine seq_reg (by kernel_rfl) ?_
                obtain rfl := Option.some.inj h
                exact awp_ret (fin_ob [] (by kernel_rfl) trivial)
              · replace h := if_f hb h
                refine awp_skip ?_
                refine awp_seq ?_
                refine seq_reg (by kernel_rfl) ?_
                refine awp_cond (b := (!(x0.Must == x1.Must))) (by kernel_rfl) (fun hb => ?_) (fun hb => ?_)
                · replace h := if_t hb h
                  refine seq_reg (by kernel_rfl) ?_
                  obtain rfl := Option.some.inj h
                  exact awp_ret (fin_ob [] (by kernel_rfl) trivial)
                · replace h := if_f hb h
                  refine awp_skip ?_
                  refine awp_seq ?_
                  refine seq_reg (by kernel_rfl) ?_
                  refine awp_cond (b := (!(x0.Fixed == x1.Fixed))) (by kernel_rfl) (fun hb => ?_) (fun hb => ?_)
                  · replace h := if_t hb h
                    refine seq_reg (by kernel_rfl) ?_
                    obtain rfl := Option.some.inj h
                    exact awp_ret (fin_ob [] (by kernel_rfl) trivial)
                  · replace h := if_f hb h
                    refine awp_skip ?_
                    refine awp_seq ?_
                    refine seq_reg (by kernel_rfl) ?_
                    refine awp_cond (b := (!(x0.Default == x1.Default))) (by kernel_rfl) (fun hb => ?_) (fun hb => ?_)
                    · replace h := if_t hb h
                      refine seq_reg (by kernel_rfl) ?_
                      obtain rfl := Option.some.inj h
                      exact awp_ret (fin_ob [] (by kernel_rfl) trivial)
                    · replace h := if_f hb h
                      refine awp_skip ?_
                      refine awp_seq ?_
                      refine seq_reg (by kernel_rfl) ?_
                      refine awp_cond (b := (!(x0.Weighs == x1.Weighs))) (by kernel_rfl) (fun hb => ?_) (fun hb => ?_)
                      · replace h := if_t hb h
                        refine seq_reg (by kernel_rfl) ?_
                        obtain rfl := Option.some.inj h
                        exact awp_ret (fin_ob [] (by kernel_rfl) trivial)
                      · replace h := if_f hb h
                        refine awp_skip ?_
                        refine seq_reg (by kernel_rfl) ?_
                        obtain rfl := Option.some.inj h
                        exact awp_ret (fin_ob [] (by kernel_rfl) trivial)

theorem laws_eqGateFieldS.calls (k : Nat) (x0 : List (GateField)) (x1 : List (GateField)) (r : Bool) (h : laws_eqGateFieldS k x0 x1 = some r) : PC Try.prog 104 [sl 11 GateField.c x0, sl 11 GateField.c x1] (.bool r) := by
  unfold laws_eqGateFieldS at h
  refine pc_intro (fn := Try.f104) Try.call104 Try.func104 rfl (Nat.le_of_ble_eq_true rfl) rfl rfl ?_
  refine seq_reg (by kernel_rfl) ?_
  refine awp_seq ?_
  refine seq_reg (by kernel_rfl) ?_
  refine awp_cond (b := ((x0.length : Int) != (x1.length : Int))) (by kernel_rfl) (fun hb => ?_) (fun hb => ?_)
  · replace h := if_t hb h
    refine seq_reg (by kernel_rfl) ?_
    obtain rfl := Option.some.inj h
    exact awp_ret (fin_ob [] (by kernel_rfl) trivial)
  · replace h := if_f hb h
    refine awp_skip ?_
    refine awp_seq ?_
    refine seq_reg (by kernel_rfl) ?_
    refine awp_block ?_
    refine awp_loop_r (nt := 27) (N := 0) (l := [(0, sl 11 GateField.c x0), (1, sl 11 GateField.c x1), (5, .int .i64 0)]) (hs := []) (r := []) rfl ⟨by kernel_rfl, by kernel_rfl, trivial⟩ ?_
    refine loop_ind (fr := fun (v0_5 : (Int)) => Fm 27 0 [(0, sl 11 GateField.c x0), (1, sl 11 GateField.c x1), (5, .int .i64 v0_5)] []) (f := fun k (z : (Int)) => match z with | v0_5 => laws_eqGateFieldS.l0 x0 x1 k v0_5) ?_ (fun _ => rfl) k 0 h
    clear h
    rintro k0 v0_5 ih0 h
    replace h : (laws_eqGateFieldS.l0 x0 x1 (k0 + 1) v0_5).bind _ = some _ := h
    rw [laws_eqGateFieldS.l0] at h
    refine aloop_r ?_
    refine awp_seq ?_
    refine seq_reg (by kernel_rfl) ?_
    refine awp_cond (b := (decide (v0_5 < (x0.length : Int)))) (by kernel_rfl) (fun hb => ?_) (fun hb => ?_)
    · replace h := bif_p hb h
      refine awp_skip ?_
      refine awp_seq ?_
      refine awp_block ?_
      obtain ⟨o6_2_0, h⟩ := bif_s h
      obtain ⟨o6_6_0, h⟩ := bif_s h
      obtain ⟨r6_8, hr6_8, h⟩ := bbind_s h
      refine seq_draw hmix #[0, 0, 3, 7, 0, 0, 48, 112, 255, 511] [] [] [⟨109, [.agg (GateField.c (x0.getD v0_5.toNat default)), .agg (GateField.c (x1.getD v0_5.toNat default))], [], .bool r6_8, [], 0, 0⟩] [(0 : Int) ≤ v0_5 ∧ v0_5 < (x0.length : Int), (0 : Int) ≤ v0_5 ∧ v0_5 < (x1.length : Int), same [.agg (GateField.c (x0.getD v0_5.toNat default)), .agg (GateField.c (x1.getD v0_5.toNat default))]] (by kernel_rfl) ⟨o6_2_0, o6_6_0, rfl, trivial⟩ ⟨laws_eqGateField.calls _ _ _ _ hr6_8, trivial⟩ ?_
      refine awp_cond (b := (!r6_8)) (by kernel_rfl) (fun hb => ?_) (fun hb => ?_)
      · replace h := bif_t hb h
        refine seq_reg (by kernel_rfl) ?_
        obtain rfl := Option.some.inj h
        exact awp_ret (fin_ob [] (by kernel_rfl) trivial)
      · replace h := bif_f hb h
        refine awp_skip ?_
        refine awp_reg (by kernel_rfl) ?_
        exact ⟨_, _, [(0, sl 11 GateField.c x0), (1, sl 11 GateField.c x1), (5, .int .i64 (wr .i64 (v0_5 + 1)))], [], [], ⟨by kernel_rfl, by kernel_rfl, trivial⟩, ih0 (wr .i64 (v0_5 + 1)) h⟩
    · replace h := bif_n hb h
      refine awp_exit ?_
      replace h := bsome h
      refine seq_reg (by kernel_rfl) ?_
      obtain rfl := Option.some.inj h
      exact awp_ret (fin_ob [] (by kernel_rfl) trivial)

theorem laws_eqGateShape.calls (k : Nat) (x0 : GateShape) (x1 : GateShape) (r : Bool) (h : laws_eqGateShape k x0 x1 = some r) : PC Try.prog 81 [.agg (GateShape.c x0), .agg (GateShape.c x1)] (.bool r) := by
  unfold laws_eqGateShape at h
  refine pc_intro (fn := Try.f81) Try.call81 Try.func81 rfl (Nat.le_of_ble_eq_true rfl) rfl rfl ?_
  refine seq_reg (by kernel_rfl) ?_
  refine awp_seq ?_
  refine seq_reg (by kernel_rfl) ?_
  refine awp_cond (b := (!(x0.Kind == x1.Kind))) (by kernel_rfl) (fun hb => ?_) (fun hb => ?_)
  · replace h := if_t hb h
    refine seq_reg (by kernel_rfl) ?_
    obtain rfl := Option.some.inj h
    exact awp_ret (fin_ob [] (by kernel_rfl) trivial)
  · replace h := if_f hb h
    refine awp_skip ?_
    refine awp_seq ?_
    obtain ⟨r3_4, hr3_4, h⟩ := bind_s h
    refine seq_region [] [⟨104, [sl 11 GateField.c x0.Fields, sl 11 GateField.c x1.Fields], [], .bool r3_4, [], 2, 0⟩] [same [sl 11 GateField.c x0.Fields, sl 11 GateField.c x1.Fields]] (by kernel_rfl) ⟨rfl, trivial⟩ ⟨laws_eqGateFieldS.calls _ _ _ _ hr3_4, trivial⟩ ?_
    refine awp_cond (b := (!r3_4)) (by kernel_rfl) (fun hb => ?_) (fun hb => ?_)
    · replace h := if_t hb h
      refine seq_reg (by kernel_rfl) ?_
      obtain rfl := Option.some.inj h
      exact awp_ret (fin_ob [] (by kernel_rfl) trivial)
    · replace h := if_f hb h
      refine awp_skip ?_
      refine seq_reg (by kernel_rfl) ?_
      obtain rfl := Option.some.inj h
      exact awp_ret (fin_ob [] (by kernel_rfl) trivial)

theorem laws_eqGateShapeS.calls (k : Nat) (x0 : List (GateShape)) (x1 : List (GateShape)) (r : Bool) (h : laws_eqGateShapeS k x0 x1 = some r) : PC Try.prog 50 [sl 2 GateShape.c x0, sl 2 GateShape.c x1] (.bool r) := by
  unfold laws_eqGateShapeS at h
  refine pc_intro (fn := Try.f50) Try.call50 Try.func50 rfl (Nat.le_of_ble_eq_true rfl) rfl rfl ?_
  refine seq_reg (by kernel_rfl) ?_
  refine awp_seq ?_
  refine seq_reg (by kernel_rfl) ?_
  refine awp_cond (b := ((x0.length : Int) != (x1.length : Int))) (by kernel_rfl) (fun hb => ?_) (fun hb => ?_)
  · replace h := if_t hb h
    refine seq_reg (by kernel_rfl) ?_
    obtain rfl := Option.some.inj h
    exact awp_ret (fin_ob [] (by kernel_rfl) trivial)
  · replace h := if_f hb h
    refine awp_skip ?_
    refine awp_seq ?_
    refine seq_reg (by kernel_rfl) ?_
    refine awp_block ?_
    refine awp_loop_r (nt := 27) (N := 0) (l := [(0, sl 2 GateShape.c x0), (1, sl 2 GateShape.c x1), (5, .int .i64 0)]) (hs := []) (r := []) rfl ⟨by kernel_rfl, by kernel_rfl, trivial⟩ ?_
    refine loop_ind (fr := fun (v0_5 : (Int)) => Fm 27 0 [(0, sl 2 GateShape.c x0), (1, sl 2 GateShape.c x1), (5, .int .i64 v0_5)] []) (f := fun k (z : (Int)) => match z with | v0_5 => laws_eqGateShapeS.l0 x0 x1 k v0_5) ?_ (fun _ => rfl) k 0 h
    clear h
    rintro k0 v0_5 ih0 h
    replace h : (laws_eqGateShapeS.l0 x0 x1 (k0 + 1) v0_5).bind _ = some _ := h
    rw [laws_eqGateShapeS.l0] at h
    refine aloop_r ?_
    refine awp_seq ?_
    refine seq_reg (by kernel_rfl) ?_
    refine awp_cond (b := (decide (v0_5 < (x0.length : Int)))) (by kernel_rfl) (fun hb => ?_) (fun hb => ?_)
    · replace h := bif_p hb h
      refine awp_skip ?_
      refine awp_seq ?_
      refine awp_block ?_
      obtain ⟨o6_2_0, h⟩ := bif_s h
      obtain ⟨o6_6_0, h⟩ := bif_s h
      obtain ⟨r6_8, hr6_8, h⟩ := bbind_s h
      refine seq_draw hmix #[0, 0, 3, 7, 0, 0, 48, 112, 255, 511] [] [] [⟨81, [.agg (GateShape.c (x0.getD v0_5.toNat default)), .agg (GateShape.c (x1.getD v0_5.toNat default))], [], .bool r6_8, [], 0, 0⟩] [(0 : Int) ≤ v0_5 ∧ v0_5 < (x0.length : Int), (0 : Int) ≤ v0_5 ∧ v0_5 < (x1.length : Int), same [.agg (GateShape.c (x0.getD v0_5.toNat default)), .agg (GateShape.c (x1.getD v0_5.toNat default))]] (by kernel_rfl) ⟨o6_2_0, o6_6_0, rfl, trivial⟩ ⟨laws_eqGateShape.calls _ _ _ _ hr6_8, trivial⟩ ?_
      refine awp_cond (b := (!r6_8)) (by kernel_rfl) (fun hb => ?_) (fun hb => ?_)
      · replace h := bif_t hb h
        refine seq_reg (by kernel_rfl) ?_
        obtain rfl := Option.some.inj h
        exact awp_ret (fin_ob [] (by kernel_rfl) trivial)
      · replace h := bif_f hb h
        refine awp_skip ?_
        refine awp_reg (by kernel_rfl) ?_
        exact ⟨_, _, [(0, sl 2 GateShape.c x0), (1, sl 2 GateShape.c x1), (5, .int .i64 (wr .i64 (v0_5 + 1)))], [], [], ⟨by kernel_rfl, by kernel_rfl, trivial⟩, ih0 (wr .i64 (v0_5 + 1)) h⟩
    · replace h := bif_n hb h
      refine awp_exit ?_
      replace h := bsome h
      refine seq_reg (by kernel_rfl) ?_
      obtain rfl := Option.some.inj h
      exact awp_ret (fin_ob [] (by kernel_rfl) trivial)

theorem laws_eqGateMend.calls (k : Nat) (x0 : GateMend) (x1 : GateMend) (r : Bool) (h : laws_eqGateMend k x0 x1 = some r) : PC Try.prog 82 [.agg (GateMend.c x0), .agg (GateMend.c x1)] (.bool r) := by
  unfold laws_eqGateMend at h
  refine pc_intro (fn := Try.f82) Try.call82 Try.func82 rfl (Nat.le_of_ble_eq_true rfl) rfl rfl ?_
  refine seq_reg (by kernel_rfl) ?_
  refine awp_seq ?_
  refine seq_reg (by kernel_rfl) ?_
  refine awp_cond (b := (!(x0.Kind == x1.Kind))) (by kernel_rfl) (fun hb => ?_) (fun hb => ?_)
  · replace h := if_t hb h
    refine seq_reg (by kernel_rfl) ?_
    obtain rfl := Option.some.inj h
    exact awp_ret (fin_ob [] (by kernel_rfl) trivial)
  · replace h := if_f hb h
    refine awp_skip ?_
    refine awp_seq ?_
    refine seq_reg (by kernel_rfl) ?_
    refine awp_cond (b := (!(x0.Field == x1.Field))) (by kernel_rfl) (fun hb => ?_) (fun hb => ?_)
    · replace h := if_t hb h
      refine seq_reg (by kernel_rfl) ?_
      obtain rfl := Option.some.inj h
      exact awp_ret (fin_ob [] (by kernel_rfl) trivial)
    · replace h := if_f hb h
      refine awp_skip ?_
      refine awp_seq ?_
      refine seq_reg (by kernel_rfl) ?_
      refine awp_cond (b := (!(x0.When == x1.When))) (by kernel_rfl) (fun hb => ?_) (fun hb => ?_)
      · replace h := if_t hb h
        refine seq_reg (by kernel_rfl) ?_
        obtain rfl := Option.some.inj h
        exact awp_ret (fin_ob [] (by kernel_rfl) trivial)
      · replace h := if_f hb h
        refine awp_skip ?_
        refine awp_seq ?_
        refine seq_reg (by kernel_rfl) ?_
        refine awp_cond (b := (!(x0.Is == x1.Is))) (by kernel_rfl) (fun hb => ?_) (fun hb => ?_)
        · replace h := if_t hb h
          refine seq_reg (by kernel_rfl) ?_
          obtain rfl := Option.some.inj h
          exact awp_ret (fin_ob [] (by kernel_rfl) trivial)
        · replace h := if_f hb h
          refine awp_skip ?_
          refine awp_seq ?_
          refine seq_reg (by kernel_rfl) ?_
          refine awp_cond (b := (!(x0.Put == x1.Put))) (by kernel_rfl) (fun hb => ?_) (fun hb => ?_)
          · replace h := if_t hb h
            refine seq_reg (by kernel_rfl) ?_
            obtain rfl := Option.some.inj h
            exact awp_ret (fin_ob [] (by kernel_rfl) trivial)
          · replace h := if_f hb h
            refine awp_skip ?_
            refine awp_seq ?_
            refine seq_reg (by kernel_rfl) ?_
            refine awp_cond (b := (!(x0.From == x1.From))) (by kernel_rfl) (fun hb => ?_) (fun hb => ?_)
            · replace h := if_t hb h
              refine seq_reg (by kernel_rfl) ?_
              obtain rfl := Option.some.inj h
              exact awp_ret (fin_ob [] (by kernel_rfl) trivial)
            · replace h := if_f hb h
              refine awp_skip ?_
              refine seq_reg (by kernel_rfl) ?_
              obtain rfl := Option.some.inj h
              exact awp_ret (fin_ob [] (by kernel_rfl) trivial)

theorem laws_eqGateMendS.calls (k : Nat) (x0 : List (GateMend)) (x1 : List (GateMend)) (r : Bool) (h : laws_eqGateMendS k x0 x1 = some r) : PC Try.prog 51 [sl 6 GateMend.c x0, sl 6 GateMend.c x1] (.bool r) := by
  unfold laws_eqGateMendS at h
  refine pc_intro (fn := Try.f51) Try.call51 Try.func51 rfl (Nat.le_of_ble_eq_true rfl) rfl rfl ?_
  refine seq_reg (by kernel_rfl) ?_
  refine awp_seq ?_
  refine seq_reg (by kernel_rfl) ?_
  refine awp_cond (b := ((x0.length : Int) != (x1.length : Int))) (by kernel_rfl) (fun hb => ?_) (fun hb => ?_)
  · replace h := if_t hb h
    refine seq_reg (by kernel_rfl) ?_
    obtain rfl := Option.some.inj h
    exact awp_ret (fin_ob [] (by kernel_rfl) trivial)
  · replace h := if_f hb h
    refine awp_skip ?_
    refine awp_seq ?_
    refine seq_reg (by kernel_rfl) ?_
    refine awp_block ?_
    refine awp_loop_r (nt := 27) (N := 0) (l := [(0, sl 6 GateMend.c x0), (1, sl 6 GateMend.c x1), (5, .int .i64 0)]) (hs := []) (r := []) rfl ⟨by kernel_rfl, by kernel_rfl, trivial⟩ ?_
    refine loop_ind (fr := fun (v0_5 : (Int)) => Fm 27 0 [(0, sl 6 GateMend.c x0), (1, sl 6 GateMend.c x1), (5, .int .i64 v0_5)] []) (f := fun k (z : (Int)) => match z with | v0_5 => laws_eqGateMendS.l0 x0 x1 k v0_5) ?_ (fun _ => rfl) k 0 h
    clear h
    rintro k0 v0_5 ih0 h
    replace h : (laws_eqGateMendS.l0 x0 x1 (k0 + 1) v0_5).bind _ = some _ := h
    rw [laws_eqGateMendS.l0] at h
    refine aloop_r ?_
    refine awp_seq ?_
    refine seq_reg (by kernel_rfl) ?_
    refine awp_cond (b := (decide (v0_5 < (x0.length : Int)))) (by kernel_rfl) (fun hb => ?_) (fun hb => ?_)
    · replace h := bif_p hb h
      refine awp_skip ?_
      refine awp_seq ?_
      refine awp_block ?_
      obtain ⟨o6_2_0, h⟩ := bif_s h
      obtain ⟨o6_6_0, h⟩ := bif_s h
      obtain ⟨r6_8, hr6_8, h⟩ := bbind_s h
      refine seq_draw hmix #[0, 0, 3, 7, 0, 0, 48, 112, 255, 511] [] [] [⟨82, [.agg (GateMend.c (x0.getD v0_5.toNat default)), .agg (GateMend.c (x1.getD v0_5.toNat default))], [], .bool r6_8, [], 0, 0⟩] [(0 : Int) ≤ v0_5 ∧ v0_5 < (x0.length : Int), (0 : Int) ≤ v0_5 ∧ v0_5 < (x1.length : Int), same [.agg (GateMend.c (x0.getD v0_5.toNat default)), .agg (GateMend.c (x1.getD v0_5.toNat default))]] (by kernel_rfl) ⟨o6_2_0, o6_6_0, rfl, trivial⟩ ⟨laws_eqGateMend.calls _ _ _ _ hr6_8, trivial⟩ ?_
      refine awp_cond (b := (!r6_8)) (by kernel_rfl) (fun hb => ?_) (fun hb => ?_)
      · replace h := bif_t hb h
        refine seq_reg (by kernel_rfl) ?_
        obtain rfl := Option.some.inj h
        exact awp_ret (fin_ob [] (by kernel_rfl) trivial)
      · replace h := bif_f hb h
        refine awp_skip ?_
        refine awp_reg (by kernel_rfl) ?_
        exact ⟨_, _, [(0, sl 6 GateMend.c x0), (1, sl 6 GateMend.c x1), (5, .int .i64 (wr .i64 (v0_5 + 1)))], [], [], ⟨by kernel_rfl, by kernel_rfl, trivial⟩, ih0 (wr .i64 (v0_5 + 1)) h⟩
    · replace h := bif_n hb h
      refine awp_exit ?_
      replace h := bsome h
      refine seq_reg (by kernel_rfl) ?_
      obtain rfl := Option.some.inj h
      exact awp_ret (fin_ob [] (by kernel_rfl) trivial)

theorem laws_eqGateLaw.calls (k : Nat) (x0 : GateLaw) (x1 : GateLaw) (r : Bool) (h : laws_eqGateLaw k x0 x1 = some r) : PC Try.prog 23 [.agg (GateLaw.c x0), .agg (GateLaw.c x1)] (.bool r) := by
  unfold laws_eqGateLaw at h
  refine pc_intro (fn := Try.f23) Try.call23 Try.func23 rfl (Nat.le_of_ble_eq_true rfl) rfl rfl ?_
  refine seq_reg (by kernel_rfl) ?_
  refine awp_seq ?_
  obtain ⟨r1_4, hr1_4, h⟩ := bind_s h
  refine seq_region [] [⟨50, [sl 2 GateShape.c x0.Shapes, sl 2 GateShape.c x1.Shapes], [], .bool r1_4, [], 2, 0⟩] [same [sl 2 GateShape.c x0.Shapes, sl 2 GateShape.c x1.Shapes]] (by kernel_rfl) ⟨rfl, trivial⟩ ⟨laws_eqGateShapeS.calls _ _ _ _ hr1_4, trivial⟩ ?_
  refine awp_cond (b := (!r1_4)) (by kernel_rfl) (fun hb => ?_) (fun hb => ?_)
  · replace h := if_t hb h
    refine seq_reg (by kernel_rfl) ?_
    obtain rfl := Option.some.inj h
    exact awp_ret (fin_ob [] (by kernel_rfl) trivial)
  · replace h := if_f hb h
    refine awp_skip ?_
    refine awp_seq ?_
    obtain ⟨r3_4, hr3_4, h⟩ := bind_s h
    refine seq_region [] [⟨51, [sl 6 GateMend.c x0.Mends, sl 6 GateMend.c x1.Mends], [], .bool r3_4, [], 2, 0⟩] [same [sl 6 GateMend.c x0.Mends, sl 6 GateMend.c x1.Mends]] (by kernel_rfl) ⟨rfl, trivial⟩ ⟨laws_eqGateMendS.calls _ _ _ _ hr3_4, trivial⟩ ?_
    refine awp_cond (b := (!r3_4)) (by kernel_rfl) (fun hb => ?_) (fun hb => ?_)
    · replace h := if_t hb h
      refine seq_reg (by kernel_rfl) ?_
      obtain rfl := Option.some.inj h
      exact awp_ret (fin_ob [] (by kernel_rfl) trivial)
    · replace h := if_f hb h
      refine awp_skip ?_
      refine awp_seq ?_
      obtain ⟨r5_4, hr5_4, h⟩ := bind_s h
      refine seq_region [] [⟨14, [sl 2 GateTeam.c x0.Teams, sl 2 GateTeam.c x1.Teams], [], .bool r5_4, [], 2, 0⟩] [same [sl 2 GateTeam.c x0.Teams, sl 2 GateTeam.c x1.Teams]] (by kernel_rfl) ⟨rfl, trivial⟩ ⟨laws_eqGateTeamS.calls _ _ _ _ hr5_4, trivial⟩ ?_
      refine awp_cond (b := (!r5_4)) (by kernel_rfl) (fun hb => ?_) (fun hb => ?_)
      · replace h := if_t hb h
        refine seq_reg (by kernel_rfl) ?_
        obtain rfl := Option.some.inj h
        exact awp_ret (fin_ob [] (by kernel_rfl) trivial)
      · replace h := if_f hb h
        refine awp_skip ?_
        refine seq_reg (by kernel_rfl) ?_
        obtain rfl := Option.some.inj h
        exact awp_ret (fin_ob [] (by kernel_rfl) trivial)

theorem laws_eqGateObject.calls (k : Nat) (x0 : GateObject) (x1 : GateObject) (r : Bool) (h : laws_eqGateObject k x0 x1 = some r) : PC Try.prog 24 [.agg (GateObject.c x0), .agg (GateObject.c x1)] (.bool r) := by
  unfold laws_eqGateObject at h
  refine pc_intro (fn := Try.f24) Try.call24 Try.func24 rfl (Nat.le_of_ble_eq_true rfl) rfl rfl ?_
  refine seq_reg (by kernel_rfl) ?_
  refine awp_seq ?_
  refine seq_reg (by kernel_rfl) ?_
  refine awp_cond (b := (!(x0.Kind == x1.Kind))) (by kernel_rfl) (fun hb => ?_) (fun hb => ?_)
  · replace h := if_t hb h
    refine seq_reg (by kernel_rfl) ?_
    obtain rfl := Option.some.inj h
    exact awp_ret (fin_ob [] (by kernel_rfl) trivial)
  · replace h := if_f hb h
    refine awp_skip ?_
    refine awp_seq ?_
    refine seq_reg (by kernel_rfl) ?_
    refine awp_cond (b := (!(x0.Name == x1.Name))) (by kernel_rfl) (fun hb => ?_) (fun hb => ?_)
    · replace h := if_t hb h
      refine seq_reg (by kernel_rfl) ?_
      obtain rfl := Option.some.inj h
      exact awp_ret (fin_ob [] (by kernel_rfl) trivial)
    · replace h := if_f hb h
      refine awp_skip ?_
      refine awp_seq ?_
      refine seq_reg (by kernel_rfl) ?_
      refine awp_cond (b := (!(x0.Team == x1.Team))) (by kernel_rfl) (fun hb => ?_) (fun hb => ?_)
      · replace h := if_t hb h
        refine seq_reg (by kernel_rfl) ?_
        obtain rfl := Option.some.inj h
        exact awp_ret (fin_ob [] (by kernel_rfl) trivial)
      · replace h := if_f hb h
        refine awp_skip ?_
        refine awp_seq ?_
        obtain ⟨r7_4, hr7_4, h⟩ := bind_s h
        refine seq_region [] [⟨52, [sl 1 cStr x0.Values, sl 1 cStr x1.Values], [], .bool r7_4, [], 2, 0⟩] [same [sl 1 cStr x0.Values, sl 1 cStr x1.Values]] (by kernel_rfl) ⟨rfl, trivial⟩ ⟨laws_eqStringS.calls _ _ _ _ hr7_4, trivial⟩ ?_
        refine awp_cond (b := (!r7_4)) (by kernel_rfl) (fun hb => ?_) (fun hb => ?_)
        · replace h := if_t hb h
          refine seq_reg (by kernel_rfl) ?_
          obtain rfl := Option.some.inj h
          exact awp_ret (fin_ob [] (by kernel_rfl) trivial)
        · replace h := if_f hb h
          refine awp_skip ?_
          refine awp_seq ?_
          refine seq_reg (by kernel_rfl) ?_
          refine awp_cond (b := (!(x0.Ending == x1.Ending))) (by kernel_rfl) (fun hb => ?_) (fun hb => ?_)
          · replace h := if_t hb h
            refine seq_reg (by kernel_rfl) ?_
            obtain rfl := Option.some.inj h
            exact awp_ret (fin_ob [] (by kernel_rfl) trivial)
          · replace h := if_f hb h
            refine awp_skip ?_
            refine awp_seq ?_
            obtain ⟨r11_4, hr11_4, h⟩ := bind_s h
            refine seq_region [] [⟨52, [sl 1 cStr x0.Holds, sl 1 cStr x1.Holds], [], .bool r11_4, [], 2, 0⟩] [same [sl 1 cStr x0.Holds, sl 1 cStr x1.Holds]] (by kernel_rfl) ⟨rfl, trivial⟩ ⟨laws_eqStringS.calls _ _ _ _ hr11_4, trivial⟩ ?_
            refine awp_cond (b := (!r11_4)) (by kernel_rfl) (fun hb => ?_) (fun hb => ?_)
            · replace h := if_t hb h
              refine seq_reg (by kernel_rfl) ?_
              obtain rfl := Option.some.inj h
              exact awp_ret (fin_ob [] (by kernel_rfl) trivial)
            · replace h := if_f hb h
              refine awp_skip ?_
              refine awp_seq ?_
              refine seq_reg (by kernel_rfl) ?_
              refine awp_cond (b := (x0.Version != x1.Version)) (by kernel_rfl) (fun hb => ?_) (fun hb => ?_)
              · replace h := if_t hb h
                refine seq_reg (by kernel_rfl) ?_
                obtain rfl := Option.some.inj h
                exact awp_ret (fin_ob [] (by kernel_rfl) trivial)
              · replace h := if_f hb h
                refine awp_skip ?_
                refine seq_reg (by kernel_rfl) ?_
                obtain rfl := Option.some.inj h
                exact awp_ret (fin_ob [] (by kernel_rfl) trivial)

theorem laws_FnExactGateWeighs.calls (k : Nat) (x0 : GateLaw) (x1 : GateObject) (x2 : List UInt8) (r : Bool) (h : laws_FnExactGateWeighs k x0 x1 x2 = some r) : PC Try.prog 4 [.agg (GateLaw.c x0), .agg (GateObject.c x1), .str x2] (.bool r) := by
  unfold laws_FnExactGateWeighs at h
  refine pc_intro (fn := Try.f4) Try.call4 Try.func4 rfl (Nat.le_of_ble_eq_true rfl) rfl rfl ?_
  refine seq_reg (by kernel_rfl) ?_
  refine awp_seq ?_
  refine seq_reg (by kernel_rfl) ?_
  refine awp_cond (b := (decide ((x2.length : Int) > 1048576))) (by kernel_rfl) (fun hb => ?_) (fun hb => ?_)
  · replace h := if_p hb h
    refine seq_reg (by kernel_rfl) ?_
    obtain rfl := Option.some.inj h
    exact awp_ret (fin_ob [] (by kernel_rfl) trivial)
  · replace h := if_n hb h
    refine awp_skip ?_
    refine seq_reg (by kernel_rfl) ?_
    obtain ⟨r4_2, hr4_2, h⟩ := bind_s h
    refine seq_region [] [⟨17, [.agg (GateLaw.c x0), .int .i64 1048576], [], .int .i64 r4_2, [], 2, 0⟩] [same [.agg (GateLaw.c x0), .int .i64 1048576]] (by kernel_rfl) ⟨rfl, trivial⟩ ⟨laws_szGateLaw.calls _ _ _ _ hr4_2, trivial⟩ ?_
    refine awp_seq ?_
    refine seq_reg (by kernel_rfl) ?_
    refine awp_cond (b := (decide (r4_2 < 0))) (by kernel_rfl) (fun hb => ?_) (fun hb => ?_)
    · replace h := if_p hb h
      refine seq_reg (by kernel_rfl) ?_
      obtain rfl := Option.some.inj h
      exact awp_ret (fin_ob [] (by kernel_rfl) trivial)
    · replace h := if_n hb h
      refine awp_skip ?_
      obtain ⟨r7_2, hr7_2, h⟩ := bind_s h
      refine seq_region [] [⟨18, [.agg (GateObject.c x1), .int .i64 r4_2], [], .int .i64 r7_2, [], 2, 0⟩] [same [.agg (GateObject.c x1), .int .i64 r4_2]] (by kernel_rfl) ⟨rfl, trivial⟩ ⟨laws_szGateObject.calls _ _ _ _ hr7_2, trivial⟩ ?_
      refine awp_seq ?_
      refine seq_reg (by kernel_rfl) ?_
      refine awp_cond (b := (decide (r7_2 < 0))) (by kernel_rfl) (fun hb => ?_) (fun hb => ?_)
      · replace h := if_p hb h
        refine seq_reg (by kernel_rfl) ?_
        obtain rfl := Option.some.inj h
        exact awp_ret (fin_ob [] (by kernel_rfl) trivial)
      · replace h := if_n hb h
        refine awp_skip ?_
        obtain ⟨r10_1, hr10_1, h⟩ := bind_s h
        obtain ⟨r10_3, hr10_3, h⟩ := bind_s h
        obtain ⟨r10_5, hr10_5, h⟩ := bind_s h
        refine seq_draw hmix #[0, 1, 0, 7, 0, 31, 63] [] [] [⟨20, [.agg (GateLaw.c x0)], [], .agg (GateLaw.c r10_1), [], 2, 0⟩, ⟨21, [.agg (GateObject.c x1)], [], .agg (GateObject.c r10_3), [], 2, 0⟩, ⟨19, [.agg (GateLaw.c r10_1), .agg (GateObject.c r10_3), .str x2], [], .int .i64 r10_5, [], 2, 0⟩] [same [.agg (GateLaw.c x0)], same [.agg (GateObject.c x1)], same [.agg (GateLaw.c r10_1), .agg (GateObject.c r10_3), .str x2]] (by kernel_rfl) ⟨rfl, rfl, rfl, trivial⟩ ⟨laws_toGateLaw.calls _ _ _ hr10_1, laws_toGateObject.calls _ _ _ hr10_3, spec_GateWeighs.calls _ _ _ _ _ hr10_5, trivial⟩ ?_
        obtain ⟨r11_1, hr11_1, h⟩ := bind_s h
        refine seq_region [] [⟨20, [.agg (GateLaw.c x0)], [], .agg (GateLaw.c r11_1), [], 2, 0⟩] [same [.agg (GateLaw.c x0)]] (by kernel_rfl) ⟨rfl, trivial⟩ ⟨laws_toGateLaw.calls _ _ _ hr11_1, trivial⟩ ?_
        obtain ⟨r12_1, hr12_1, h⟩ := bind_s h
        refine seq_region [] [⟨21, [.agg (GateObject.c x1)], [], .agg (GateObject.c r12_1), [], 3, 0⟩] [same [.agg (GateObject.c x1)]] (by kernel_rfl) ⟨rfl, trivial⟩ ⟨laws_toGateObject.calls _ _ _ hr12_1, trivial⟩ ?_
        obtain ⟨r13_3, hr13_3, h⟩ := bind_s h
        refine seq_region [] [⟨22, [.agg (GateLaw.c r11_1), .agg (GateObject.c r12_1), .str x2], [], .int .i64 r13_3, [], 4, 0⟩] [same [.agg (GateLaw.c r11_1), .agg (GateObject.c r12_1), .str x2]] (by kernel_rfl) ⟨rfl, trivial⟩ ⟨impl_GateWeighs.calls _ _ _ _ _ hr13_3, trivial⟩ ?_
        refine awp_seq ?_
        refine seq_reg (by kernel_rfl) ?_
        refine awp_cond (b := (r13_3 != r10_5)) (by kernel_rfl) (fun hb => ?_) (fun hb => ?_)
        · replace h := if_t hb h
          refine seq_reg (by kernel_rfl) ?_
          obtain rfl := Option.some.inj h
          exact awp_ret (fin_ob [] (by kernel_rfl) trivial)
        · replace h := if_f hb h
          refine awp_skip ?_
          refine awp_seq ?_
          obtain ⟨r16_2, hr16_2, h⟩ := bind_s h
          obtain ⟨r16_3, hr16_3, h⟩ := bind_s h
          refine seq_draw hmix #[0, 0, 2, 7, 15] [] [] [⟨20, [.agg (GateLaw.c x0)], [], .agg (GateLaw.c r16_2), [], 4, 0⟩, ⟨23, [.agg (GateLaw.c r11_1), .agg (GateLaw.c r16_2)], [], .bool r16_3, [], 4, 0⟩] [same [.agg (GateLaw.c x0)], same [.agg (GateLaw.c r11_1), .agg (GateLaw.c r16_2)]] (by kernel_rfl) ⟨rfl, rfl, trivial⟩ ⟨laws_toGateLaw.calls _ _ _ hr16_2, laws_eqGateLaw.calls _ _ _ _ hr16_3, trivial⟩ ?_
          refine awp_cond (b := (!r16_3)) (by kernel_rfl) (fun hb => ?_) (fun hb => ?_)
          · replace h := if_t hb h
            refine seq_reg (by kernel_rfl) ?_
            obtain rfl := Option.some.inj h
            exact awp_ret (fin_ob [] (by kernel_rfl) trivial)
          · replace h := if_f hb h
            refine awp_skip ?_
            refine awp_seq ?_
            obtain ⟨r18_2, hr18_2, h⟩ := bind_s h
            obtain ⟨r18_3, hr18_3, h⟩ := bind_s h
            refine seq_draw hmix #[0, 0, 2, 7, 15] [] [] [⟨21, [.agg (GateObject.c x1)], [], .agg (GateObject.c r18_2), [], 4, 0⟩, ⟨24, [.agg (GateObject.c r12_1), .agg (GateObject.c r18_2)], [], .bool r18_3, [], 4, 0⟩] [same [.agg (GateObject.c x1)], same [.agg (GateObject.c r12_1), .agg (GateObject.c r18_2)]] (by kernel_rfl) ⟨rfl, rfl, trivial⟩ ⟨laws_toGateObject.calls _ _ _ hr18_2, laws_eqGateObject.calls _ _ _ _ hr18_3, trivial⟩ ?_
            refine awp_cond (b := (!r18_3)) (by kernel_rfl) (fun hb => ?_) (fun hb => ?_)
            · replace h := if_t hb h
              refine seq_reg (by kernel_rfl) ?_
              obtain rfl := Option.some.inj h
              exact awp_ret (fin_ob [] (by kernel_rfl) trivial)
            · replace h := if_f hb h
              refine awp_skip ?_
              refine seq_reg (by kernel_rfl) ?_
              obtain rfl := Option.some.inj h
              exact awp_ret (fin_ob [] (by kernel_rfl) trivial)

theorem laws_szGateObjectS.calls (k : Nat) (x0 : List (GateObject)) (x1 : Int) (r : Int) (h : laws_szGateObjectS k x0 x1 = some r) : PC Try.prog 53 [sl 7 GateObject.c x0, .int .i64 x1] (.int .i64 r) := by
  unfold laws_szGateObjectS at h
  refine pc_intro (fn := Try.f53) Try.call53 Try.func53 rfl (Nat.le_of_ble_eq_true rfl) rfl rfl ?_
  refine seq_reg (by kernel_rfl) ?_
  refine seq_reg (by kernel_rfl) ?_
  refine awp_seq ?_
  refine seq_reg (by kernel_rfl) ?_
  refine awp_cond (b := (decide ((wr .i64 (x1 - (x0.length : Int))) < 0))) (by kernel_rfl) (fun hb => ?_) (fun hb => ?_)
  · replace h := if_p hb h
    refine seq_reg (by kernel_rfl) ?_
    obtain rfl := Option.some.inj h
    exact awp_ret (fin_ob [] (by kernel_rfl) trivial)
  · replace h := if_n hb h
    refine awp_skip ?_
    refine awp_seq ?_
    refine seq_reg (by kernel_rfl) ?_
    refine awp_block ?_
    refine awp_loop_r (nt := 27) (N := 0) (l := [(0, sl 7 GateObject.c x0), (1, .int .i64 (wr .i64 (x1 - (x0.length : Int)))), (5, .int .i64 0)]) (hs := []) (r := []) rfl ⟨by kernel_rfl, by kernel_rfl, trivial⟩ ?_
    refine loop_ind (fr := fun (z : (Int) × (Int)) => match z with | (v0_1, v0_5) => Fm 27 0 [(0, sl 7 GateObject.c x0), (1, .int .i64 v0_1), (5, .int .i64 v0_5)] []) (f := fun k (z : (Int) × (Int)) => match z with | (v0_1, v0_5) => laws_szGateObjectS.l0 x0 k v0_1 v0_5) ?_ (fun _ => rfl) k ((wr .i64 (x1 - (x0.length : Int))), 0) h
    clear h
    rintro k0 ⟨v0_1, v0_5⟩ ih0 h
    replace h : (laws_szGateObjectS.l0 x0 (k0 + 1) v0_1 v0_5).bind _ = some _ := h
    rw [laws_szGateObjectS.l0] at h
    refine aloop_r ?_
    refine awp_seq ?_
    refine seq_reg (by kernel_rfl) ?_
    refine awp_cond (b := (decide (v0_5 < (x0.length : Int)))) (by kernel_rfl) (fun hb => ?_) (fun hb => ?_)
    · replace h := bif_p hb h
      refine awp_skip ?_
      refine awp_seq ?_
      refine awp_block ?_
      obtain ⟨o7_2_0, h⟩ := bif_s h
      obtain ⟨r7_5, hr7_5, h⟩ := bbind_s h
      refine seq_region [] [⟨18, [.agg (GateObject.c (x0.getD v0_5.toNat default)), .int .i64 v0_1], [], .int .i64 r7_5, [], 0, 0⟩] [(0 : Int) ≤ v0_5 ∧ v0_5 < (x0.length : Int), same [.agg (GateObject.c (x0.getD v0_5.toNat default)), .int .i64 v0_1]] (by kernel_rfl) ⟨o7_2_0, rfl, trivial⟩ ⟨laws_szGateObject.calls _ _ _ _ hr7_5, trivial⟩ ?_
      refine seq_reg (by kernel_rfl) ?_
      refine awp_cond (b := (decide (r7_5 < 0))) (by kernel_rfl) (fun hb => ?_) (fun hb => ?_)
      · replace h := bif_p hb h
        refine seq_reg (by kernel_rfl) ?_
        obtain rfl := Option.some.inj h
        exact awp_ret (fin_ob [] (by kernel_rfl) trivial)
      · replace h := bif_n hb h
        refine awp_skip ?_
        refine awp_reg (by kernel_rfl) ?_
        exact ⟨_, _, [(0, sl 7 GateObject.c x0), (1, .int .i64 r7_5), (5, .int .i64 (wr .i64 (v0_5 + 1)))], [], [], ⟨by kernel_rfl, by kernel_rfl, trivial⟩, ih0 (r7_5, (wr .i64 (v0_5 + 1))) h⟩
    · replace h := bif_n hb h
      refine awp_exit ?_
      replace h := bsome h
      refine seq_reg (by kernel_rfl) ?_
      obtain rfl := Option.some.inj h
      exact awp_ret (fin_ob [] (by kernel_rfl) trivial)

theorem laws_szGateGrant.calls (k : Nat) (x0 : GateGrant) (x1 : Int) (r : Int) (h : laws_szGateGrant k x0 x1 = some r) : PC Try.prog 83 [.agg (GateGrant.c x0), .int .i64 x1] (.int .i64 r) := by
  unfold laws_szGateGrant at h
  refine pc_intro (fn := Try.f83) Try.call83 Try.func83 rfl (Nat.le_of_ble_eq_true rfl) rfl rfl ?_
  refine seq_reg (by kernel_rfl) ?_
  refine seq_reg (by kernel_rfl) ?_
  refine awp_seq ?_
  refine seq_reg (by kernel_rfl) ?_
  refine awp_cond (b := (decide ((wr .i64 (x1 - (x0.To.length : Int))) < 0))) (by kernel_rfl) (fun hb => ?_) (fun hb => ?_)
  · replace h := if_p hb h
    refine seq_reg (by kernel_rfl) ?_
    obtain rfl := Option.some.inj h
    exact awp_ret (fin_ob [] (by kernel_rfl) trivial)
  · replace h := if_n hb h
    refine awp_skip ?_
    refine seq_reg (by kernel_rfl) ?_
    refine awp_seq ?_
    refine seq_reg (by kernel_rfl) ?_
    refine awp_cond (b := (decide ((wr .i64 ((wr .i64 (x1 - (x0.To.length : Int))) - (x0.By.length : Int))) < 0))) (by kernel_rfl) (fun hb => ?_) (fun hb => ?_)
    · replace h := if_p hb h
      refine seq_reg (by kernel_rfl) ?_
      obtain rfl := Option.some.inj h
      exact awp_ret (fin_ob [] (by kernel_rfl) trivial)
    · replace h := if_n hb h
      refine awp_skip ?_
      obtain ⟨r7_3, hr7_3, h⟩ := bind_s h
      refine seq_region [] [⟨8, [.agg (GateRule.c x0.Rule), .int .i64 (wr .i64 ((wr .i64 (x1 - (x0.To.length : Int))) - (x0.By.length : Int)))], [], .int .i64 r7_3, [], 1, 0⟩] [same [.agg (GateRule.c x0.Rule), .int .i64 (wr .i64 ((wr .i64 (x1 - (x0.To.length : Int))) - (x0.By.length : Int)))]] (by kernel_rfl) ⟨rfl, trivial⟩ ⟨laws_szGateRule.calls _ _ _ _ hr7_3, trivial⟩ ?_
      refine awp_seq ?_
      refine seq_reg (by kernel_rfl) ?_
      refine awp_cond (b := (decide (r7_3 < 0))) (by kernel_rfl) (fun hb => ?_) (fun hb => ?_)
      · replace h := if_p hb h
        refine seq_reg (by kernel_rfl) ?_
        obtain rfl := Option.some.inj h
        exact awp_ret (fin_ob [] (by kernel_rfl) trivial)
      · replace h := if_n hb h
        refine awp_skip ?_
        refine seq_reg (by kernel_rfl) ?_
        obtain rfl := Option.some.inj h
        exact awp_ret (fin_ob [] (by kernel_rfl) trivial)

theorem laws_szGateGrantS.calls (k : Nat) (x0 : List (GateGrant)) (x1 : Int) (r : Int) (h : laws_szGateGrantS k x0 x1 = some r) : PC Try.prog 54 [sl 7 GateGrant.c x0, .int .i64 x1] (.int .i64 r) := by
  unfold laws_szGateGrantS at h
  refine pc_intro (fn := Try.f54) Try.call54 Try.func54 rfl (Nat.le_of_ble_eq_true rfl) rfl rfl ?_
  refine seq_reg (by kernel_rfl) ?_
  refine seq_reg (by kernel_rfl) ?_
  refine awp_seq ?_
  refine seq_reg (by kernel_rfl) ?_
  refine awp_cond (b := (decide ((wr .i64 (x1 - (x0.length : Int))) < 0))) (by kernel_rfl) (fun hb => ?_) (fun hb => ?_)
  · replace h := if_p hb h
    refine seq_reg (by kernel_rfl) ?_
    obtain rfl := Option.some.inj h
    exact awp_ret (fin_ob [] (by kernel_rfl) trivial)
  · replace h := if_n hb h
    refine awp_skip ?_
    refine awp_seq ?_
    refine seq_reg (by kernel_rfl) ?_
    refine awp_block ?_
    refine awp_loop_r (nt := 27) (N := 0) (l := [(0, sl 7 GateGrant.c x0), (1, .int .i64 (wr .i64 (x1 - (x0.length : Int)))), (5, .int .i64 0)]) (hs := []) (r := []) rfl ⟨by kernel_rfl, by kernel_rfl, trivial⟩ ?_
    refine loop_ind (fr := fun (z : (Int) × (Int)) => match z with | (v0_1, v0_5) => Fm 27 0 [(0, sl 7 GateGrant.c x0), (1, .int .i64 v0_1), (5, .int .i64 v0_5)] []) (f := fun k (z : (Int) × (Int)) => match z with | (v0_1, v0_5) => laws_szGateGrantS.l0 x0 k v0_1 v0_5) ?_ (fun _ => rfl) k ((wr .i64 (x1 - (x0.length : Int))), 0) h
    clear h
    rintro k0 ⟨v0_1, v0_5⟩ ih0 h
    replace h : (laws_szGateGrantS.l0 x0 (k0 + 1) v0_1 v0_5).bind _ = some _ := h
    rw [laws_szGateGrantS.l0] at h
    refine aloop_r ?_
    refine awp_seq ?_
    refine seq_reg (by kernel_rfl) ?_
    refine awp_cond (b := (decide (v0_5 < (x0.length : Int)))) (by kernel_rfl) (fun hb => ?_) (fun hb => ?_)
    · replace h := bif_p hb h
      refine awp_skip ?_
      refine awp_seq ?_
      refine awp_block ?_
      obtain ⟨o7_2_0, h⟩ := bif_s h
      obtain ⟨r7_5, hr7_5, h⟩ := bbind_s h
      refine seq_region [] [⟨83, [.agg (GateGrant.c (x0.getD v0_5.toNat default)), .int .i64 v0_1], [], .int .i64 r7_5, [], 0, 0⟩] [(0 : Int) ≤ v0_5 ∧ v0_5 < (x0.length : Int), same [.agg (GateGrant.c (x0.getD v0_5.toNat default)), .int .i64 v0_1]] (by kernel_rfl) ⟨o7_2_0, rfl, trivial⟩ ⟨laws_szGateGrant.calls _ _ _ _ hr7_5, trivial⟩ ?_
      refine seq_reg (by kernel_rfl) ?_
      refine awp_cond (b := (decide (r7_5 < 0))) (by kernel_rfl) (fun hb => ?_) (fun hb => ?_)
      · replace h := bif_p hb h
        refine seq_reg (by kernel_rfl) ?_
        obtain rfl := Option.some.inj h
        exact awp_ret (fin_ob [] (by kernel_rfl) trivial)
      · replace h := bif_n hb h
        refine awp_skip ?_
        refine awp_reg (by kernel_rfl) ?_
        exact ⟨_, _, [(0, sl 7 GateGrant.c x0), (1, .int .i64 r7_5), (5, .int .i64 (wr .i64 (v0_5 + 1)))], [], [], ⟨by kernel_rfl, by kernel_rfl, trivial⟩, ih0 (r7_5, (wr .i64 (v0_5 + 1))) h⟩
    · replace h := bif_n hb h
      refine awp_exit ?_
      replace h := bsome h
      refine seq_reg (by kernel_rfl) ?_
      obtain rfl := Option.some.inj h
      exact awp_ret (fin_ob [] (by kernel_rfl) trivial)

theorem laws_szGateLedger.calls (k : Nat) (x0 : GateLedger) (x1 : Int) (r : Int) (h : laws_szGateLedger k x0 x1 = some r) : PC Try.prog 84 [.agg (GateLedger.c x0), .int .i64 x1] (.int .i64 r) := by
  unfold laws_szGateLedger at h
  refine pc_intro (fn := Try.f84) Try.call84 Try.func84 rfl (Nat.le_of_ble_eq_true rfl) rfl rfl ?_
  refine seq_reg (by kernel_rfl) ?_
  refine seq_reg (by kernel_rfl) ?_
  refine awp_seq ?_
  refine seq_reg (by kernel_rfl) ?_
  refine awp_cond (b := (decide ((wr .i64 (x1 - (x0.Team.length : Int))) < 0))) (by kernel_rfl) (fun hb => ?_) (fun hb => ?_)
  · replace h := if_p hb h
    refine seq_reg (by kernel_rfl) ?_
    obtain rfl := Option.some.inj h
    exact awp_ret (fin_ob [] (by kernel_rfl) trivial)
  · replace h := if_n hb h
    refine awp_skip ?_
    refine seq_reg (by kernel_rfl) ?_
    refine awp_seq ?_
    refine seq_reg (by kernel_rfl) ?_
    refine awp_cond (b := (decide ((wr .i64 ((wr .i64 (x1 - (x0.Team.length : Int))) - (x0.Resource.length : Int))) < 0))) (by kernel_rfl) (fun hb => ?_) (fun hb => ?_)
    · replace h := if_p hb h
      refine seq_reg (by kernel_rfl) ?_
      obtain rfl := Option.some.inj h
      exact awp_ret (fin_ob [] (by kernel_rfl) trivial)
    · replace h := if_n hb h
      refine awp_skip ?_
      refine seq_reg (by kernel_rfl) ?_
      obtain rfl := Option.some.inj h
      exact awp_ret (fin_ob [] (by kernel_rfl) trivial)

theorem laws_szGateLedgerS.calls (k : Nat) (x0 : List (GateLedger)) (x1 : Int) (r : Int) (h : laws_szGateLedgerS k x0 x1 = some r) : PC Try.prog 55 [sl 4 GateLedger.c x0, .int .i64 x1] (.int .i64 r) := by
  unfold laws_szGateLedgerS at h
  refine pc_intro (fn := Try.f55) Try.call55 Try.func55 rfl (Nat.le_of_ble_eq_true rfl) rfl rfl ?_
  refine seq_reg (by kernel_rfl) ?_
  refine seq_reg (by kernel_rfl) ?_
  refine awp_seq ?_
  refine seq_reg (by kernel_rfl) ?_
  refine awp_cond (b := (decide ((wr .i64 (x1 - (x0.length : Int))) < 0))) (by kernel_rfl) (fun hb => ?_) (fun hb => ?_)
  · replace h := if_p hb h
    refine seq_reg (by kernel_rfl) ?_
    obtain rfl := Option.some.inj h
    exact awp_ret (fin_ob [] (by kernel_rfl) trivial)
  · replace h := if_n hb h
    refine awp_skip ?_
    refine awp_seq ?_
    refine seq_reg (by kernel_rfl) ?_
    refine awp_block ?_
    refine awp_loop_r (nt := 27) (N := 0) (l := [(0, sl 4 GateLedger.c x0), (1, .int .i64 (wr .i64 (x1 - (x0.length : Int)))), (5, .int .i64 0)]) (hs := []) (r := []) rfl ⟨by kernel_rfl, by kernel_rfl, trivial⟩ ?_
    refine loop_ind (fr := fun (z : (Int) × (Int)) => match z with | (v0_1, v0_5) => Fm 27 0 [(0, sl 4 GateLedger.c x0), (1, .int .i64 v0_1), (5, .int .i64 v0_5)] []) (f := fun k (z : (Int) × (Int)) => match z with | (v0_1, v0_5) => laws_szGateLedgerS.l0 x0 k v0_1 v0_5) ?_ (fun _ => rfl) k ((wr .i64 (x1 - (x0.length : Int))), 0) h
    clear h
    rintro k0 ⟨v0_1, v0_5⟩ ih0 h
    replace h : (laws_szGateLedgerS.l0 x0 (k0 + 1) v0_1 v0_5).bind _ = some _ := h
    rw [laws_szGateLedgerS.l0] at h
    refine aloop_r ?_
    refine awp_seq ?_
    refine seq_reg (by kernel_rfl) ?_
    refine awp_cond (b := (decide (v0_5 < (x0.length : Int)))) (by kernel_rfl) (fun hb => ?_) (fun hb => ?_)
    · replace h := bif_p hb h
      refine awp_skip ?_
      refine awp_seq ?_
      refine awp_block ?_
      obtain ⟨o7_2_0, h⟩ := bif_s h
      obtain ⟨r7_5, hr7_5, h⟩ := bbind_s h
      refine seq_region [] [⟨84, [.agg (GateLedger.c (x0.getD v0_5.toNat default)), .int .i64 v0_1], [], .int .i64 r7_5, [], 0, 0⟩] [(0 : Int) ≤ v0_5 ∧ v0_5 < (x0.length : Int), same [.agg (GateLedger.c (x0.getD v0_5.toNat default)), .int .i64 v0_1]] (by kernel_rfl) ⟨o7_2_0, rfl, trivial⟩ ⟨laws_szGateLedger.calls _ _ _ _ hr7_5, trivial⟩ ?_
      refine seq_reg (by kernel_rfl) ?_
      refine awp_cond (b := (decide (r7_5 < 0))) (by kernel_rfl) (fun hb => ?_) (fun hb => ?_)
      · replace h := bif_p hb h
        refine seq_reg (by kernel_rfl) ?_
        obtain rfl := Option.some.inj h
        exact awp_ret (fin_ob [] (by kernel_rfl) trivial)
      · replace h := bif_n hb h
        refine awp_skip ?_
        refine awp_reg (by kernel_rfl) ?_
        exact ⟨_, _, [(0, sl 4 GateLedger.c x0), (1, .int .i64 r7_5), (5, .int .i64 (wr .i64 (v0_5 + 1)))], [], [], ⟨by kernel_rfl, by kernel_rfl, trivial⟩, ih0 (r7_5, (wr .i64 (v0_5 + 1))) h⟩
    · replace h := bif_n hb h
      refine awp_exit ?_
      replace h := bsome h
      refine seq_reg (by kernel_rfl) ?_
      obtain rfl := Option.some.inj h
      exact awp_ret (fin_ob [] (by kernel_rfl) trivial)

theorem laws_szGatePurse.calls (k : Nat) (x0 : GatePurse) (x1 : Int) (r : Int) (h : laws_szGatePurse k x0 x1 = some r) : PC Try.prog 85 [.agg (GatePurse.c x0), .int .i64 x1] (.int .i64 r) := by
  unfold laws_szGatePurse at h
  refine pc_intro (fn := Try.f85) Try.call85 Try.func85 rfl (Nat.le_of_ble_eq_true rfl) rfl rfl ?_
  refine seq_reg (by kernel_rfl) ?_
  refine seq_reg (by kernel_rfl) ?_
  refine awp_seq ?_
  refine seq_reg (by kernel_rfl) ?_
  refine awp_cond (b := (decide ((wr .i64 (x1 - (x0.Door.length : Int))) < 0))) (by kernel_rfl) (fun hb => ?_) (fun hb => ?_)
  · replace h := if_p hb h
    refine seq_reg (by kernel_rfl) ?_
    obtain rfl := Option.some.inj h
    exact awp_ret (fin_ob [] (by kernel_rfl) trivial)
  · replace h := if_n hb h
    refine awp_skip ?_
    refine seq_reg (by kernel_rfl) ?_
    refine awp_seq ?_
    refine seq_reg (by kernel_rfl) ?_
    refine awp_cond (b := (decide ((wr .i64 ((wr .i64 (x1 - (x0.Door.length : Int))) - (x0.Team.length : Int))) < 0))) (by kernel_rfl) (fun hb => ?_) (fun hb => ?_)
    · replace h := if_p hb h
      refine seq_reg (by kernel_rfl) ?_
      obtain rfl := Option.some.inj h
      exact awp_ret (fin_ob [] (by kernel_rfl) trivial)
    · replace h := if_n hb h
      refine awp_skip ?_
      refine seq_reg (by kernel_rfl) ?_
      refine awp_seq ?_
      refine seq_reg (by kernel_rfl) ?_
      refine awp_cond (b := (decide ((wr .i64 ((wr .i64 ((wr .i64 (x1 - (x0.Door.length : Int))) - (x0.Team.length : Int))) - (x0.Resource.length : Int))) < 0))) (by kernel_rfl) (fun hb => ?_) (fun hb => ?_)
      · replace h := if_p hb h
        refine seq_reg (by kernel_rfl) ?_
        obtain rfl := Option.some.inj h
        exact awp_ret (fin_ob [] (by kernel_rfl) trivial)
      · replace h := if_n hb h
        refine awp_skip ?_
        refine seq_reg (by kernel_rfl) ?_
        obtain rfl := Option.some.inj h
        exact awp_ret (fin_ob [] (by kernel_rfl) trivial)

theorem laws_szGatePurseS.calls (k : Nat) (x0 : List (GatePurse)) (x1 : Int) (r : Int) (h : laws_szGatePurseS k x0 x1 = some r) : PC Try.prog 56 [sl 5 GatePurse.c x0, .int .i64 x1] (.int .i64 r) := by
  unfold laws_szGatePurseS at h
  refine pc_intro (fn := Try.f56) Try.call56 Try.func56 rfl (Nat.le_of_ble_eq_true rfl) rfl rfl ?_
  refine seq_reg (by kernel_rfl) ?_
  refine seq_reg (by kernel_rfl) ?_
  refine awp_seq ?_
  refine seq_reg (by kernel_rfl) ?_
  refine awp_cond (b := (decide ((wr .i64 (x1 - (x0.length : Int))) < 0))) (by kernel_rfl) (fun hb => ?_) (fun hb => ?_)
  · replace h := if_p hb h
    refine seq_reg (by kernel_rfl) ?_
    obtain rfl := Option.some.inj h
    exact awp_ret (fin_ob [] (by kernel_rfl) trivial)
  · replace h := if_n hb h
    refine awp_skip ?_
    refine awp_seq ?_
    refine seq_reg (by kernel_rfl) ?_
    refine awp_block ?_
    refine awp_loop_r (nt := 27) (N := 0) (l := [(0, sl 5 GatePurse.c x0), (1, .int .i64 (wr .i64 (x1 - (x0.length : Int)))), (5, .int .i64 0)]) (hs := []) (r := []) rfl ⟨by kernel_rfl, by kernel_rfl, trivial⟩ ?_
    refine loop_ind (fr := fun (z : (Int) × (Int)) => match z with | (v0_1, v0_5) => Fm 27 0 [(0, sl 5 GatePurse.c x0), (1, .int .i64 v0_1), (5, .int .i64 v0_5)] []) (f := fun k (z : (Int) × (Int)) => match z with | (v0_1, v0_5) => laws_szGatePurseS.l0 x0 k v0_1 v0_5) ?_ (fun _ => rfl) k ((wr .i64 (x1 - (x0.length : Int))), 0) h
    clear h
    rintro k0 ⟨v0_1, v0_5⟩ ih0 h
    replace h : (laws_szGatePurseS.l0 x0 (k0 + 1) v0_1 v0_5).bind _ = some _ := h
    rw [laws_szGatePurseS.l0] at h
    refine aloop_r ?_
    refine awp_seq ?_
    refine seq_reg (by kernel_rfl) ?_
    refine awp_cond (b := (decide (v0_5 < (x0.length : Int)))) (by kernel_rfl) (fun hb => ?_) (fun hb => ?_)
    · replace h := bif_p hb h
      refine awp_skip ?_
      refine awp_seq ?_
      refine awp_block ?_
      obtain ⟨o7_2_0, h⟩ := bif_s h
      obtain ⟨r7_5, hr7_5, h⟩ := bbind_s h
      refine seq_region [] [⟨85, [.agg (GatePurse.c (x0.getD v0_5.toNat default)), .int .i64 v0_1], [], .int .i64 r7_5, [], 0, 0⟩] [(0 : Int) ≤ v0_5 ∧ v0_5 < (x0.length : Int), same [.agg (GatePurse.c (x0.getD v0_5.toNat default)), .int .i64 v0_1]] (by kernel_rfl) ⟨o7_2_0, rfl, trivial⟩ ⟨laws_szGatePurse.calls _ _ _ _ hr7_5, trivial⟩ ?_
      refine seq_reg (by kernel_rfl) ?_
      refine awp_cond (b := (decide (r7_5 < 0))) (by kernel_rfl) (fun hb => ?_) (fun hb => ?_)
      · replace h := bif_p hb h
        refine seq_reg (by kernel_rfl) ?_
        obtain rfl := Option.some.inj h
        exact awp_ret (fin_ob [] (by kernel_rfl) trivial)
      · replace h := bif_n hb h
        refine awp_skip ?_
        refine awp_reg (by kernel_rfl) ?_
        exact ⟨_, _, [(0, sl 5 GatePurse.c x0), (1, .int .i64 r7_5), (5, .int .i64 (wr .i64 (v0_5 + 1)))], [], [], ⟨by kernel_rfl, by kernel_rfl, trivial⟩, ih0 (r7_5, (wr .i64 (v0_5 + 1))) h⟩
    · replace h := bif_n hb h
      refine awp_exit ?_
      replace h := bsome h
      refine seq_reg (by kernel_rfl) ?_
      obtain rfl := Option.some.inj h
      exact awp_ret (fin_ob [] (by kernel_rfl) trivial)

theorem laws_szGateBook.calls (k : Nat) (x0 : GateBook) (x1 : Int) (r : Int) (h : laws_szGateBook k x0 x1 = some r) : PC Try.prog 25 [.agg (GateBook.c x0), .int .i64 x1] (.int .i64 r) := by
  unfold laws_szGateBook at h
  refine pc_intro (fn := Try.f25) Try.call25 Try.func25 rfl (Nat.le_of_ble_eq_true rfl) rfl rfl ?_
  refine seq_reg (by kernel_rfl) ?_
  obtain ⟨r1_3, hr1_3, h⟩ := bind_s h
  refine seq_region [] [⟨53, [sl 7 GateObject.c x0.Objects, .int .i64 x1], [], .int .i64 r1_3, [], 1, 0⟩] [same [sl 7 GateObject.c x0.Objects, .int .i64 x1]] (by kernel_rfl) ⟨rfl, trivial⟩ ⟨laws_szGateObjectS.calls _ _ _ _ hr1_3, trivial⟩ ?_
  refine awp_seq ?_
  refine seq_reg (by kernel_rfl) ?_
  refine awp_cond (b := (decide (r1_3 < 0))) (by kernel_rfl) (fun hb => ?_) (fun hb => ?_)
  · replace h := if_p hb h
    refine seq_reg (by kernel_rfl) ?_
    obtain rfl := Option.some.inj h
    exact awp_ret (fin_ob [] (by kernel_rfl) trivial)
  · replace h := if_n hb h
    refine awp_skip ?_
    obtain ⟨r4_3, hr4_3, h⟩ := bind_s h
    refine seq_region [] [⟨54, [sl 7 GateGrant.c x0.Grants, .int .i64 r1_3], [], .int .i64 r4_3, [], 1, 0⟩] [same [sl 7 GateGrant.c x0.Grants, .int .i64 r1_3]] (by kernel_rfl) ⟨rfl, trivial⟩ ⟨laws_szGateGrantS.calls _ _ _ _ hr4_3, trivial⟩ ?_
    refine awp_seq ?_
    refine seq_reg (by kernel_rfl) ?_
    refine awp_cond (b := (decide (r4_3 < 0))) (by kernel_rfl) (fun hb => ?_) (fun hb => ?_)
    · replace h := if_p hb h
      refine seq_reg (by kernel_rfl) ?_
      obtain rfl := Option.some.inj h
      exact awp_ret (fin_ob [] (by kernel_rfl) trivial)
    · replace h := if_n hb h
      refine awp_skip ?_
      obtain ⟨r7_3, hr7_3, h⟩ := bind_s h
      refine seq_region [] [⟨55, [sl 4 GateLedger.c x0.Ledgers, .int .i64 r4_3], [], .int .i64 r7_3, [], 1, 0⟩] [same [sl 4 GateLedger.c x0.Ledgers, .int .i64 r4_3]] (by kernel_rfl) ⟨rfl, trivial⟩ ⟨laws_szGateLedgerS.calls _ _ _ _ hr7_3, trivial⟩ ?_
      refine awp_seq ?_
      refine seq_reg (by kernel_rfl) ?_
      refine awp_cond (b := (decide (r7_3 < 0))) (by kernel_rfl) (fun hb => ?_) (fun hb => ?_)
      · replace h := if_p hb h
        refine seq_reg (by kernel_rfl) ?_
        obtain rfl := Option.some.inj h
        exact awp_ret (fin_ob [] (by kernel_rfl) trivial)
      · replace h := if_n hb h
        refine awp_skip ?_
        obtain ⟨r10_3, hr10_3, h⟩ := bind_s h
        refine seq_region [] [⟨56, [sl 5 GatePurse.c x0.Purses, .int .i64 r7_3], [], .int .i64 r10_3, [], 1, 0⟩] [same [sl 5 GatePurse.c x0.Purses, .int .i64 r7_3]] (by kernel_rfl) ⟨rfl, trivial⟩ ⟨laws_szGatePurseS.calls _ _ _ _ hr10_3, trivial⟩ ?_
        refine awp_seq ?_
        refine seq_reg (by kernel_rfl) ?_
        refine awp_cond (b := (decide (r10_3 < 0))) (by kernel_rfl) (fun hb => ?_) (fun hb => ?_)
        · replace h := if_p hb h
          refine seq_reg (by kernel_rfl) ?_
          obtain rfl := Option.some.inj h
          exact awp_ret (fin_ob [] (by kernel_rfl) trivial)
        · replace h := if_n hb h
          refine awp_skip ?_
          refine seq_reg (by kernel_rfl) ?_
          obtain rfl := Option.some.inj h
          exact awp_ret (fin_ob [] (by kernel_rfl) trivial)

theorem laws_toGateObjectS.calls (k : Nat) (x0 : List (GateObject)) (r : List (GateObject)) (h : laws_toGateObjectS k x0 = some r) : PC Try.prog 58 [sl 7 GateObject.c x0] (sl 7 GateObject.c r) := by
  unfold laws_toGateObjectS at h
  refine pc_intro (fn := Try.f58) Try.call58 Try.func58 rfl (Nat.le_of_ble_eq_true rfl) rfl rfl ?_
  refine seq_reg (by kernel_rfl) ?_
  obtain ⟨o1_2_0, h⟩ := if_s h
  refine seq_region [] [] [(0 : Int) ≤ (x0.length : Int) ∧ (x0.length : Int) ≤ (x0.length : Int) ∧ (x0.length : Int) * (112 : Int) ≤ 140737488355328 ∧ (x0.length : Int) ≤ 140737488355328] (by kernel_rfl) ⟨o1_2_0, trivial⟩ trivial ?_
  refine awp_row 0 (by kernel_rfl) (RowEq.make (esz := 7) (n := (x0.length : Int).toNat) (c := GateObject.c) (z := (default : GateObject)) (zs := [.str [], .str [], .str [], .nils, .kb false, .nils, .int .i64 0]) ⟨.inl rfl, .inl rfl, .inl rfl, .inr rfl, .inr rfl, .inr rfl, .inl rfl, trivial⟩) ?_
  refine awp_seq ?_
  refine seq_reg (by kernel_rfl) ?_
  refine awp_block ?_
  refine awp_loop_r (nt := 23) (N := 2) (l := [(0, sl 7 GateObject.c x0), (3, .ms 1 0 (List.replicate (x0.length : Int).toNat (default : GateObject)).length 7), (4, .int .i64 0)]) (hs := [(1, .row 7 (List.replicate (x0.length : Int).toNat (default : GateObject)).length (cells GateObject.c (List.replicate (x0.length : Int).toNat (default : GateObject))))]) (r := [(1, 0)]) rfl (frob_len (m := (x0.length : Int).toNat) (l := fun m => [(0, sl 7 GateObject.c x0), (3, .ms 1 0 m 7), (4, .int .i64 0)]) (hs := fun m => [(1, .row 7 m (cells GateObject.c (List.replicate (x0.length : Int).toNat (default : GateObject))))]) (RowEq.len (RowEq.make (esz := 7) (n := (x0.length : Int).toNat) (c := GateObject.c) (z := (default : GateObject)) (zs := [.str [], .str [], .str [], .nils, .kb false, .nils, .int .i64 0]) ⟨.inl rfl, .inl rfl, .inl rfl, .inr rfl, .inr rfl, .inr rfl, .inl rfl, trivial⟩)) ⟨by kernel_rfl, by kernel_rfl, (or_same (by kernel_rfl) (by kernel_rfl) trivial)⟩) ?_
  refine loop_ind (fr := fun (z : (Int) × (List (GateObject))) => match z with | (v0_4, v0_w0) => Fm 23 2 [(0, sl 7 GateObject.c x0), (3, .ms 1 0 v0_w0.length 7), (4, .int .i64 v0_4)] [(1, .row 7 v0_w0.length (cells GateObject.c v0_w0))]) (f := fun k (z : (Int) × (List (GateObject))) => match z with | (v0_4, v0_w0) => laws_toGateObjectS.l0 x0 k v0_4 v0_w0) ?_ (fun _ => rfl) k (0, (List.replicate (x0.length : Int).toNat (default : GateObject))) h
  clear h
  rintro k0 ⟨v0_4, v0_w0⟩ ih0 h
  replace h : (laws_toGateObjectS.l0 x0 (k0 + 1) v0_4 v0_w0).bind _ = some _ := h
  rw [laws_toGateObjectS.l0] at h
  refine aloop_r ?_
  refine awp_seq ?_
  refine seq_reg (by kernel_rfl) ?_
  refine awp_cond (b := (decide (v0_4 < (x0.length : Int)))) (by kernel_rfl) (fun hb => ?_) (fun hb => ?_)
  · replace h := bif_p hb h
    refine awp_skip ?_
    refine awp_seq ?_
    refine awp_block ?_
    obtain ⟨o5_4_0, h⟩ := bif_s h
    obtain ⟨r5_6, hr5_6, h⟩ := bbind_s h
    obtain ⟨o5_7_0, h⟩ := bif_s h
    refine awp_region [] [⟨21, [.agg (GateObject.c (x0.getD v0_4.toNat default))], [], .agg (GateObject.c r5_6), [], 2, 0⟩] [(0 : Int) ≤ v0_4 ∧ v0_4 < (x0.length : Int), same [.agg (GateObject.c (x0.getD v0_4.toNat default))], (0 : Int) ≤ v0_4 ∧ v0_4 < (v0_w0.length : Int), v0_4.toNat < v0_w0.length] (by kernel_rfl) ⟨o5_4_0, rfl, o5_7_0, (by omega), trivial⟩ ⟨laws_toGateObject.calls _ _ _ hr5_6, trivial⟩ ?_
    refine awp_row 1 (by kernel_rfl) (RowEq.set (i := v0_4.toNat) (x := r5_6) (l := [.str r5_6.Kind, .str r5_6.Name, .str r5_6.Team, sl 1 cStr r5_6.Values, .bool r5_6.Ending, sl 1 cStr r5_6.Holds, .int .i64 r5_6.Version]) (RowEq.same (esz := 7) (c := GateObject.c) (n := v0_w0.length) (xs := v0_w0) rfl) ⟨.inl rfl, .inl rfl, .inl rfl, .inl rfl, .inl rfl, .inl rfl, .inl rfl, trivial⟩) ?_
    refine awp_reg (by kernel_rfl) ?_
    exact ⟨_, _, [(0, sl 7 GateObject.c x0), (3, .ms 1 0 (v0_w0.set v0_4.toNat r5_6).length 7), (4, .int .i64 (wr .i64 (v0_4 + 1)))], [(1, .row 7 (v0_w0.set v0_4.toNat r5_6).length (cells GateObject.c (v0_w0.set v0_4.toNat r5_6)))], [(1, 1)], (frob_len (m := v0_w0.length) (l := fun m => [(0, sl 7 GateObject.c x0), (3, .ms 1 0 m 7), (4, .int .i64 (wr .i64 (v0_4 + 1)))]) (hs := fun m => [(1, .row 7 m (cells GateObject.c (v0_w0.set v0_4.toNat r5_6)))]) (RowEq.len (RowEq.set (i := v0_4.toNat) (x := r5_6) (l := [.str r5_6.Kind, .str r5_6.Name, .str r5_6.Team, sl 1 cStr r5_6.Values, .bool r5_6.Ending, sl 1 cStr r5_6.Holds, .int .i64 r5_6.Version]) (RowEq.same (esz := 7) (c := GateObject.c) (n := v0_w0.length) (xs := v0_w0) rfl) ⟨.inl rfl, .inl rfl, .inl rfl, .inl rfl, .inl rfl, .inl rfl, .inl rfl, trivial⟩)) ⟨by kernel_rfl, by kernel_rfl, (or_same (by kernel_rfl) (by kernel_rfl) trivial)⟩), ih0 ((wr .i64 (v0_4 + 1)), (v0_w0.set v0_4.toNat r5_6)) h⟩
  · replace h := bif_n hb h
    refine awp_exit ?_
    replace h := bsome h
    refine seq_reg (by kernel_rfl) ?_
    obtain rfl := Option.some.inj h
    exact awp_ret (fin_ob [v0_w0.length ≤ v0_w0.length] (by kernel_rfl) ⟨Nat.le_refl _, trivial⟩)

theorem laws_toGateGrant.calls (k : Nat) (x0 : GateGrant) (r : GateGrant) (h : laws_toGateGrant k x0 = some r) : PC Try.prog 87 [.agg (GateGrant.c x0)] (.agg (GateGrant.c r)) := by
  unfold laws_toGateGrant at h
  refine pc_intro (fn := Try.f87) Try.call87 Try.func87 rfl (Nat.le_of_ble_eq_true rfl) rfl rfl ?_
  refine seq_reg (by kernel_rfl) ?_
  refine seq_reg (by kernel_rfl) ?_
  refine seq_reg (by kernel_rfl) ?_
  refine seq_reg (by kernel_rfl) ?_
  refine seq_reg (by kernel_rfl) ?_
  obtain ⟨r5_2, hr5_2, h⟩ := bind_s h
  refine seq_region [] [⟨12, [.agg (GateRule.c x0.Rule)], [], .agg (GateRule.c r5_2), [], 3, 0⟩] [same [.agg (GateRule.c x0.Rule)]] (by kernel_rfl) ⟨rfl, trivial⟩ ⟨laws_toGateRule.calls _ _ _ hr5_2, trivial⟩ ?_
  refine seq_reg (by kernel_rfl) ?_
  obtain rfl := Option.some.inj h
  exact awp_ret (fin_ob [] (by kernel_rfl) trivial)

theorem laws_toGateGrantS.calls (k : Nat) (x0 : List (GateGrant)) (r : List (GateGrant)) (h : laws_toGateGrantS k x0 = some r) : PC Try.prog 59 [sl 7 GateGrant.c x0] (sl 7 GateGrant.c r) := by
  unfold laws_toGateGrantS at h
  refine pc_intro (fn := Try.f59) Try.call59 Try.func59 rfl (Nat.le_of_ble_eq_true rfl) rfl rfl ?_
  refine seq_reg (by kernel_rfl) ?_
  obtain ⟨o1_2_0, h⟩ := if_s h
  refine seq_region [] [] [(0 : Int) ≤ (x0.length : Int) ∧ (x0.length : Int) ≤ (x0.length : Int) ∧ (x0.length : Int) * (112 : Int) ≤ 140737488355328 ∧ (x0.length : Int) ≤ 140737488355328] (by kernel_rfl) ⟨o1_2_0, trivial⟩ trivial ?_
  refine awp_row 0 (by kernel_rfl) (RowEq.make (esz := 7) (n := (x0.length : Int).toNat) (c := GateGrant.c) (z := (default : GateGrant)) (zs := [.int .i64 0, .str [], .str [], .nils, .str [], .str [], .str []]) ⟨.inl rfl, .inl rfl, .inl rfl, .inr rfl, .inl rfl, .inl rfl, .inl rfl, trivial⟩) ?_
  refine awp_seq ?_
  refine seq_reg (by kernel_rfl) ?_
  refine awp_block ?_
  refine awp_loop_r (nt := 23) (N := 2) (l := [(0, sl 7 GateGrant.c x0), (3, .ms 1 0 (List.replicate (x0.length : Int).toNat (default : GateGrant)).length 7), (4, .int .i64 0)]) (hs := [(1, .row 7 (List.replicate (x0.length : Int).toNat (default : GateGrant)).length (cells GateGrant.c (List.replicate (x0.length : Int).toNat (default : GateGrant))))]) (r := [(1, 0)]) rfl (frob_len (m := (x0.length : Int).toNat) (l := fun m => [(0, sl 7 GateGrant.c x0), (3, .ms 1 0 m 7), (4, .int .i64 0)]) (hs := fun m => [(1, .row 7 m (cells GateGrant.c (List.replicate (x0.length : Int).toNat (default : GateGrant))))]) (RowEq.len (RowEq.make (esz := 7) (n := (x0.length : Int).toNat) (c := GateGrant.c) (z := (default : GateGrant)) (zs := [.int .i64 0, .str [], .str [], .nils, .str [], .str [], .str []]) ⟨.inl rfl, .inl rfl, .inl rfl, .inr rfl, .inl rfl, .inl rfl, .inl rfl, trivial⟩)) ⟨by kernel_rfl, by kernel_rfl, (or_same (by kernel_rfl) (by kernel_rfl) trivial)⟩) ?_
  refine loop_ind (fr := fun (z : (Int) × (List (GateGrant))) => match z with | (v0_4, v0_w0) => Fm 23 2 [(0, sl 7 GateGrant.c x0), (3, .ms 1 0 v0_w0.length 7), (4, .int .i64 v0_4)] [(1, .row 7 v0_w0.length (cells GateGrant.c v0_w0))]) (f := fun k (z : (Int) × (List (GateGrant))) => match z with | (v0_4, v0_w0) => laws_toGateGrantS.l0 x0 k v0_4 v0_w0) ?_ (fun _ => rfl) k (0, (List.replicate (x0.length : Int).toNat (default : GateGrant))) h
  clear h
  rintro k0 ⟨v0_4, v0_w0⟩ ih0 h
  replace h : (laws_toGateGrantS.l0 x0 (k0 + 1) v0_4 v0_w0).bind _ = some _ := h
  rw [laws_toGateGrantS.l0] at h
  refine aloop_r ?_
  refine awp_seq ?_
  refine seq_reg (by kernel_rfl) ?_
  refine awp_cond (b := (decide (v0_4 < (x0.length : Int)))) (by kernel_rfl) (fun hb => ?_) (fun hb => ?_)
  · replace h := bif_p hb h
    refine awp_skip ?_
    refine awp_seq ?_
    refine awp_block ?_
    obtain ⟨o5_4_0, h⟩ := bif_s h
    obtain ⟨r5_6, hr5_6, h⟩ := bbind_s h
    obtain ⟨o5_7_0, h⟩ := bif_s h
    refine awp_region [] [⟨87, [.agg (GateGrant.c (x0.getD v0_4.toNat default))], [], .agg (GateGrant.c r5_6), [], 2, 0⟩] [(0 : Int) ≤ v0_4 ∧ v0_4 < (x0.length : Int), same [.agg (GateGrant.c (x0.getD v0_4.toNat default))], (0 : Int) ≤ v0_4 ∧ v0_4 < (v0_w0.length : Int), v0_4.toNat < v0_w0.length] (by kernel_rfl) ⟨o5_4_0, rfl, o5_7_0, (by omega), trivial⟩ ⟨laws_toGateGrant.calls _ _ _ hr5_6, trivial⟩ ?_
    refine awp_row 1 (by kernel_rfl) (RowEq.set (i := v0_4.toNat) (x := r5_6) (l := [.int .i64 r5_6.Number, .str r5_6.To, .str r5_6.By, sl 1 cI64 r5_6.Rule.Verbs, .str r5_6.Rule.Kind, .str r5_6.Rule.Team, .str r5_6.Rule.Prefix]) (RowEq.same (esz := 7) (c := GateGrant.c) (n := v0_w0.length) (xs := v0_w0) rfl) ⟨.inl rfl, .inl rfl, .inl rfl, .inl rfl, .inl rfl, .inl rfl, .inl rfl, trivial⟩) ?_
    refine awp_reg (by kernel_rfl) ?_
    exact ⟨_, _, [(0, sl 7 GateGrant.c x0), (3, .ms 1 0 (v0_w0.set v0_4.toNat r5_6).length 7), (4, .int .i64 (wr .i64 (v0_4 + 1)))], [(1, .row 7 (v0_w0.set v0_4.toNat r5_6).length (cells GateGrant.c (v0_w0.set v0_4.toNat r5_6)))], [(1, 1)], (frob_len (m := v0_w0.length) (l := fun m => [(0, sl 7 GateGrant.c x0), (3, .ms 1 0 m 7), (4, .int .i64 (wr .i64 (v0_4 + 1)))]) (hs := fun m => [(1, .row 7 m (cells GateGrant.c (v0_w0.set v0_4.toNat r5_6)))]) (RowEq.len (RowEq.set (i := v0_4.toNat) (x := r5_6) (l := [.int .i64 r5_6.Number, .str r5_6.To, .str r5_6.By, sl 1 cI64 r5_6.Rule.Verbs, .str r5_6.Rule.Kind, .str r5_6.Rule.Team, .str r5_6.Rule.Prefix]) (RowEq.same (esz := 7) (c := GateGrant.c) (n := v0_w0.length) (xs := v0_w0) rfl) ⟨.inl rfl, .inl rfl, .inl rfl, .inl rfl, .inl rfl, .inl rfl, .inl rfl, trivial⟩)) ⟨by kernel_rfl, by kernel_rfl, (or_same (by kernel_rfl) (by kernel_rfl) trivial)⟩), ih0 ((wr .i64 (v0_4 + 1)), (v0_w0.set v0_4.toNat r5_6)) h⟩
  · replace h := bif_n hb h
    refine awp_exit ?_
    replace h := bsome h
    refine seq_reg (by kernel_rfl) ?_
    obtain rfl := Option.some.inj h
    exact awp_ret (fin_ob [v0_w0.length ≤ v0_w0.length] (by kernel_rfl) ⟨Nat.le_refl _, trivial⟩)

theorem laws_toGateLedger.calls (k : Nat) (x0 : GateLedger) (r : GateLedger) (h : laws_toGateLedger k x0 = some r) : PC Try.prog 88 [.agg (GateLedger.c x0)] (.agg (GateLedger.c r)) := by
  unfold laws_toGateLedger at h
  refine pc_intro (fn := Try.f88) Try.call88 Try.func88 rfl (Nat.le_of_ble_eq_true rfl) rfl rfl ?_
  refine seq_reg (by kernel_rfl) ?_
  refine seq_reg (by kernel_rfl) ?_
  refine seq_reg (by kernel_rfl) ?_
  refine seq_reg (by kernel_rfl) ?_
  refine seq_reg (by kernel_rfl) ?_
  refine seq_reg (by kernel_rfl) ?_
  refine seq_reg (by kernel_rfl) ?_
  obtain rfl := Option.some.inj h
  exact awp_ret (fin_ob [] (by kernel_rfl) trivial)
end Go.Proofs.Ytkfdfapickladaa.Fn
