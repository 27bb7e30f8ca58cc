/- What the functions of the program compute. No condition. -/
import Derived.Test.YtkfdfapickladaaFnPf1
namespace Go.Proofs.Ytkfdfapickladaa.Fn
open Go Go.RowKit Go.Proofs.Ytkfdfapickladaa.Abs
theorem laws_toGateLedgerS.calls (k : Nat) (x0 : List (GateLedger)) (r : List (GateLedger)) (h : laws_toGateLedgerS k x0 = some r) : PC Try.prog 60 [sl 4 GateLedger.c x0] (sl 4 GateLedger.c r) := by
  unfold laws_toGateLedgerS at h
  refine pc_intro (fn := Try.f60) Try.call60 Try.func60 rfl (Nat.le_of_ble_eq_true rfl) rfl rfl ?_
  refine seq_reg (by kernel_rfl) ?_
  obtain ⟨o1_2_0, h⟩ := if_s h
  refine seq_region [] [] [(0 : Int) ≤ (x0.length : Int) ∧ (x0.length : Int) ≤ (x0.length : Int) ∧ (x0.length : Int) * (48 : Int) ≤ 140737488355328 ∧ (x0.length : Int) ≤ 140737488355328] (by kernel_rfl) ⟨o1_2_0, trivial⟩ trivial ?_
  refine awp_row 0 (by kernel_rfl) (RowEq.make (esz := 4) (n := (x0.length : Int).toNat) (c := GateLedger.c) (z := (default : GateLedger)) (zs := [.str [], .str [], .int .i64 0, .int .i64 0]) ⟨.inl rfl, .inl rfl, .inl rfl, .inl rfl, trivial⟩) ?_
  refine awp_seq ?_
  refine seq_reg (by kernel_rfl) ?_
  refine awp_block ?_
  refine awp_loop_r (nt := 23) (N := 2) (l := [(0, sl 4 GateLedger.c x0), (3, .ms 1 0 (List.replicate (x0.length : Int).toNat (default : GateLedger)).length 4), (4, .int .i64 0)]) (hs := [(1, .row 4 (List.replicate (x0.length : Int).toNat (default : GateLedger)).length (cells GateLedger.c (List.replicate (x0.length : Int).toNat (default : GateLedger))))]) (r := [(1, 0)]) rfl (frob_len (m := (x0.length : Int).toNat) (l := fun m => [(0, sl 4 GateLedger.c x0), (3, .ms 1 0 m 4), (4, .int .i64 0)]) (hs := fun m => [(1, .row 4 m (cells GateLedger.c (List.replicate (x0.length : Int).toNat (default : GateLedger))))]) (RowEq.len (RowEq.make (esz := 4) (n := (x0.length : Int).toNat) (c := GateLedger.c) (z := (default : GateLedger)) (zs := [.str [], .str [], .int .i64 0, .int .i64 0]) ⟨.inl rfl, .inl rfl, .inl rfl, .inl rfl, trivial⟩)) ⟨by kernel_rfl, by kernel_rfl, (or_same (by kernel_rfl) (by kernel_rfl) trivial)⟩) ?_
  refine loop_ind (fr := fun (z : (Int) × (List (GateLedger))) => match z with | (v0_4, v0_w0) => Fm 23 2 [(0, sl 4 GateLedger.c x0), (3, .ms 1 0 v0_w0.length 4), (4, .int .i64 v0_4)] [(1, .row 4 v0_w0.length (cells GateLedger.c v0_w0))]) (f := fun k (z : (Int) × (List (GateLedger))) => match z with | (v0_4, v0_w0) => laws_toGateLedgerS.l0 x0 k v0_4 v0_w0) ?_ (fun _ => rfl) k (0, (List.replicate (x0.length : Int).toNat (default : GateLedger))) h
  clear h
  rintro k0 ⟨v0_4, v0_w0⟩ ih0 h
  replace h : (laws_toGateLedgerS.l0 x0 (k0 + 1) v0_4 v0_w0).bind _ = some _ := h
  rw [laws_toGateLedgerS.l0] at h
  refine aloop_r ?_
  refine awp_seq ?_
  refine seq_reg (by kernel_rfl) ?_
  refine awp_cond (b := (decide (v0_4 < (x0.length : Int)))) (by kernel_rfl) (fun hb => ?_) (fun hb => ?_)
  · replace h := bif_p hb h
    refine awp_skip ?_
    refine awp_seq ?_
    refine awp_block ?_
    obtain ⟨o5_4_0, h⟩ := bif_s h
    obtain ⟨r5_6, hr5_6, h⟩ := bbind_s h
    obtain ⟨o5_7_0, h⟩ := bif_s h
    refine awp_region [] [⟨88, [.agg (GateLedger.c (x0.getD v0_4.toNat default))], [], .agg (GateLedger.c r5_6), [], 2, 0⟩] [(0 : Int) ≤ v0_4 ∧ v0_4 < (x0.length : Int), same [.agg (GateLedger.c (x0.getD v0_4.toNat default))], (0 : Int) ≤ v0_4 ∧ v0_4 < (v0_w0.length : Int), v0_4.toNat < v0_w0.length] (by kernel_rfl) ⟨o5_4_0, rfl, o5_7_0, (by omega), trivial⟩ ⟨laws_toGateLedger.calls _ _ _ hr5_6, trivial⟩ ?_
    refine awp_row 1 (by kernel_rfl) (RowEq.set (i := v0_4.toNat) (x := r5_6) (l := [.str r5_6.Team, .str r5_6.Resource, .int .i64 r5_6.Most, .int .i64 r5_6.Free]) (RowEq.same (esz := 4) (c := GateLedger.c) (n := v0_w0.length) (xs := v0_w0) rfl) ⟨.inl rfl, .inl rfl, .inl rfl, .inl rfl, trivial⟩) ?_
    refine awp_reg (by kernel_rfl) ?_
    exact ⟨_, _, [(0, sl 4 GateLedger.c x0), (3, .ms 1 0 (v0_w0.set v0_4.toNat r5_6).length 4), (4, .int .i64 (wr .i64 (v0_4 + 1)))], [(1, .row 4 (v0_w0.set v0_4.toNat r5_6).length (cells GateLedger.c (v0_w0.set v0_4.toNat r5_6)))], [(1, 1)], (frob_len (m := v0_w0.length) (l := fun m => [(0, sl 4 GateLedger.c x0), (3, .ms 1 0 m 4), (4, .int .i64 (wr .i64 (v0_4 + 1)))]) (hs := fun m => [(1, .row 4 m (cells GateLedger.c (v0_w0.set v0_4.toNat r5_6)))]) (RowEq.len (RowEq.set (i := v0_4.toNat) (x := r5_6) (l := [.str r5_6.Team, .str r5_6.Resource, .int .i64 r5_6.Most, .int .i64 r5_6.Free]) (RowEq.same (esz := 4) (c := GateLedger.c) (n := v0_w0.length) (xs := v0_w0) rfl) ⟨.inl rfl, .inl rfl, .inl rfl, .inl rfl, trivial⟩)) ⟨by kernel_rfl, by kernel_rfl, (or_same (by kernel_rfl) (by kernel_rfl) trivial)⟩), ih0 ((wr .i64 (v0_4 + 1)), (v0_w0.set v0_4.toNat r5_6)) h⟩
  · replace h := bif_n hb h
    refine awp_exit ?_
    replace h := bsome h
    refine seq_reg (by kernel_rfl) ?_
    obtain rfl := Option.some.inj h
    exact awp_ret (fin_ob [v0_w0.length ≤ v0_w0.length] (by kernel_rfl) ⟨Nat.le_refl _, trivial⟩)

theorem laws_toGatePurse.calls (k : Nat) (x0 : GatePurse) (r : GatePurse) (h : laws_toGatePurse k x0 = some r) : PC Try.prog 89 [.agg (GatePurse.c x0)] (.agg (GatePurse.c r)) := by
  unfold laws_toGatePurse at h
  refine pc_intro (fn := Try.f89) Try.call89 Try.func89 rfl (Nat.le_of_ble_eq_true rfl) rfl rfl ?_
  refine seq_reg (by kernel_rfl) ?_
  refine seq_reg (by kernel_rfl) ?_
  refine seq_reg (by kernel_rfl) ?_
  refine seq_reg (by kernel_rfl) ?_
  refine seq_reg (by kernel_rfl) ?_
  refine seq_reg (by kernel_rfl) ?_
  refine seq_reg (by kernel_rfl) ?_
  refine seq_reg (by kernel_rfl) ?_
  obtain rfl := Option.some.inj h
  exact awp_ret (fin_ob [] (by kernel_rfl) trivial)

theorem laws_toGatePurseS.calls (k : Nat) (x0 : List (GatePurse)) (r : List (GatePurse)) (h : laws_toGatePurseS k x0 = some r) : PC Try.prog 61 [sl 5 GatePurse.c x0] (sl 5 GatePurse.c r) := by
  unfold laws_toGatePurseS at h
  refine pc_intro (fn := Try.f61) Try.call61 Try.func61 rfl (Nat.le_of_ble_eq_true rfl) rfl rfl ?_
  refine seq_reg (by kernel_rfl) ?_
  obtain ⟨o1_2_0, h⟩ := if_s h
  refine seq_region [] [] [(0 : Int) ≤ (x0.length : Int) ∧ (x0.length : Int) ≤ (x0.length : Int) ∧ (x0.length : Int) * (64 : Int) ≤ 140737488355328 ∧ (x0.length : Int) ≤ 140737488355328] (by kernel_rfl) ⟨o1_2_0, trivial⟩ trivial ?_
  refine awp_row 0 (by kernel_rfl) (RowEq.make (esz := 5) (n := (x0.length : Int).toNat) (c := GatePurse.c) (z := (default : GatePurse)) (zs := [.str [], .str [], .str [], .int .i64 0, .int .i64 0]) ⟨.inl rfl, .inl rfl, .inl rfl, .inl rfl, .inl rfl, trivial⟩) ?_
  refine awp_seq ?_
  refine seq_reg (by kernel_rfl) ?_
  refine awp_block ?_
  refine awp_loop_r (nt := 23) (N := 2) (l := [(0, sl 5 GatePurse.c x0), (3, .ms 1 0 (List.replicate (x0.length : Int).toNat (default : GatePurse)).length 5), (4, .int .i64 0)]) (hs := [(1, .row 5 (List.replicate (x0.length : Int).toNat (default : GatePurse)).length (cells GatePurse.c (List.replicate (x0.length : Int).toNat (default : GatePurse))))]) (r := [(1, 0)]) rfl (frob_len (m := (x0.length : Int).toNat) (l := fun m => [(0, sl 5 GatePurse.c x0), (3, .ms 1 0 m 5), (4, .int .i64 0)]) (hs := fun m => [(1, .row 5 m (cells GatePurse.c (List.replicate (x0.length : Int).toNat (default : GatePurse))))]) (RowEq.len (RowEq.make (esz := 5) (n := (x0.length : Int).toNat) (c := GatePurse.c) (z := (default : GatePurse)) (zs := [.str [], .str [], .str [], .int .i64 0, .int .i64 0]) ⟨.inl rfl, .inl rfl, .inl rfl, .inl rfl, .inl rfl, trivial⟩)) ⟨by kernel_rfl, by kernel_rfl, (or_same (by kernel_rfl) (by kernel_rfl) trivial)⟩) ?_
  refine loop_ind (fr := fun (z : (Int) × (List (GatePurse))) => match z with | (v0_4, v0_w0) => Fm 23 2 [(0, sl 5 GatePurse.c x0), (3, .ms 1 0 v0_w0.length 5), (4, .int .i64 v0_4)] [(1, .row 5 v0_w0.length (cells GatePurse.c v0_w0))]) (f := fun k (z : (Int) × (List (GatePurse))) => match z with | (v0_4, v0_w0) => laws_toGatePurseS.l0 x0 k v0_4 v0_w0) ?_ (fun _ => rfl) k (0, (List.replicate (x0.length : Int).toNat (default : GatePurse))) h
  clear h
  rintro k0 ⟨v0_4, v0_w0⟩ ih0 h
  replace h : (laws_toGatePurseS.l0 x0 (k0 + 1) v0_4 v0_w0).bind _ = some _ := h
  rw [laws_toGatePurseS.l0] at h
  refine aloop_r ?_
  refine awp_seq ?_
  refine seq_reg (by kernel_rfl) ?_
  refine awp_cond (b := (decide (v0_4 < (x0.length : Int)))) (by kernel_rfl) (fun hb => ?_) (fun hb => ?_)
  · replace h := bif_p hb h
    refine awp_skip ?_
    refine awp_seq ?_
    refine awp_block ?_
    obtain ⟨o5_4_0, h⟩ := bif_s h
    obtain ⟨r5_6, hr5_6, h⟩ := bbind_s h
    obtain ⟨o5_7_0, h⟩ := bif_s h
    refine awp_region [] [⟨89, [.agg (GatePurse.c (x0.getD v0_4.toNat default))], [], .agg (GatePurse.c r5_6), [], 2, 0⟩] [(0 : Int) ≤ v0_4 ∧ v0_4 < (x0.length : Int), same [.agg (GatePurse.c (x0.getD v0_4.toNat default))], (0 : Int) ≤ v0_4 ∧ v0_4 < (v0_w0.length : Int), v0_4.toNat < v0_w0.length] (by kernel_rfl) ⟨o5_4_0, rfl, o5_7_0, (by omega), trivial⟩ ⟨laws_toGatePurse.calls _ _ _ hr5_6, trivial⟩ ?_
    refine awp_row 1 (by kernel_rfl) (RowEq.set (i := v0_4.toNat) (x := r5_6) (l := [.str r5_6.Door, .str r5_6.Team, .str r5_6.Resource, .int .i64 r5_6.Amount, .int .i64 r5_6.Until]) (RowEq.same (esz := 5) (c := GatePurse.c) (n := v0_w0.length) (xs := v0_w0) rfl) ⟨.inl rfl, .inl rfl, .inl rfl, .inl rfl, .inl rfl, trivial⟩) ?_
    refine awp_reg (by kernel_rfl) ?_
    exact ⟨_, _, [(0, sl 5 GatePurse.c x0), (3, .ms 1 0 (v0_w0.set v0_4.toNat r5_6).length 5), (4, .int .i64 (wr .i64 (v0_4 + 1)))], [(1, .row 5 (v0_w0.set v0_4.toNat r5_6).length (cells GatePurse.c (v0_w0.set v0_4.toNat r5_6)))], [(1, 1)], (frob_len (m := v0_w0.length) (l := fun m => [(0, sl 5 GatePurse.c x0), (3, .ms 1 0 m 5), (4, .int .i64 (wr .i64 (v0_4 + 1)))]) (hs := fun m => [(1, .row 5 m (cells GatePurse.c (v0_w0.set v0_4.toNat r5_6)))]) (RowEq.len (RowEq.set (i := v0_4.toNat) (x := r5_6) (l := [.str r5_6.Door, .str r5_6.Team, .str r5_6.Resource, .int .i64 r5_6.Amount, .int .i64 r5_6.Until]) (RowEq.same (esz := 5) (c := GatePurse.c) (n := v0_w0.length) (xs := v0_w0) rfl) ⟨.inl rfl, .inl rfl, .inl rfl, .inl rfl, .inl rfl, trivial⟩)) ⟨by kernel_rfl, by kernel_rfl, (or_same (by kernel_rfl) (by kernel_rfl) trivial)⟩), ih0 ((wr .i64 (v0_4 + 1)), (v0_w0.set v0_4.toNat r5_6)) h⟩
  · replace h := bif_n hb h
    refine awp_exit ?_
    replace h := bsome h
    refine seq_reg (by kernel_rfl) ?_
    obtain rfl := Option.some.inj h
    exact awp_ret (fin_ob [v0_w0.length ≤ v0_w0.length] (by kernel_rfl) ⟨Nat.le_refl _, trivial⟩)

theorem laws_toGateBook.calls (k : Nat) (x0 : GateBook) (r : GateBook) (h : laws_toGateBook k x0 = some r) : PC Try.prog 27 [.agg (GateBook.c x0)] (.agg (GateBook.c r)) := by
  unfold laws_toGateBook at h
  refine pc_intro (fn := Try.f27) Try.call27 Try.func27 rfl (Nat.le_of_ble_eq_true rfl) rfl rfl ?_
  refine seq_reg (by kernel_rfl) ?_
  refine seq_reg (by kernel_rfl) ?_
  refine seq_reg (by kernel_rfl) ?_
  refine seq_reg (by kernel_rfl) ?_
  refine seq_reg (by kernel_rfl) ?_
  obtain ⟨r5_2, hr5_2, h⟩ := bind_s h
  refine seq_region [] [⟨58, [sl 7 GateObject.c x0.Objects], [], sl 7 GateObject.c r5_2, [], 3, 0⟩] [same [sl 7 GateObject.c x0.Objects]] (by kernel_rfl) ⟨rfl, trivial⟩ ⟨laws_toGateObjectS.calls _ _ _ hr5_2, trivial⟩ ?_
  obtain ⟨r6_2, hr6_2, h⟩ := bind_s h
  refine seq_region [] [⟨59, [sl 7 GateGrant.c x0.Grants], [], sl 7 GateGrant.c r6_2, [], 3, 0⟩] [same [sl 7 GateGrant.c x0.Grants]] (by kernel_rfl) ⟨rfl, trivial⟩ ⟨laws_toGateGrantS.calls _ _ _ hr6_2, trivial⟩ ?_
  obtain ⟨r7_2, hr7_2, h⟩ := bind_s h
  refine seq_region [] [⟨60, [sl 4 GateLedger.c x0.Ledgers], [], sl 4 GateLedger.c r7_2, [], 3, 0⟩] [same [sl 4 GateLedger.c x0.Ledgers]] (by kernel_rfl) ⟨rfl, trivial⟩ ⟨laws_toGateLedgerS.calls _ _ _ hr7_2, trivial⟩ ?_
  obtain ⟨r8_2, hr8_2, h⟩ := bind_s h
  refine seq_region [] [⟨61, [sl 5 GatePurse.c x0.Purses], [], sl 5 GatePurse.c r8_2, [], 3, 0⟩] [same [sl 5 GatePurse.c x0.Purses]] (by kernel_rfl) ⟨rfl, trivial⟩ ⟨laws_toGatePurseS.calls _ _ _ hr8_2, trivial⟩ ?_
  refine seq_reg (by kernel_rfl) ?_
  obtain rfl := Option.some.inj h
  exact awp_ret (fin_ob [] (by kernel_rfl) trivial)

theorem spec_GateUsed.calls (k : Nat) (x0 : GateLaw) (x1 : GateBook) (x2 : List UInt8) (x3 : List UInt8) (r : Int) (h : spec_GateUsed k x0 x1 x2 x3 = some r) : PC Try.prog 26 [.agg (GateLaw.c x0), .agg (GateBook.c x1), .str x2, .str x3] (.int .i64 r) := by
  unfold spec_GateUsed at h
  refine pc_intro (fn := Try.f26) Try.call26 Try.func26 rfl (Nat.le_of_ble_eq_true rfl) rfl rfl ?_
  refine seq_reg (by kernel_rfl) ?_
  refine seq_reg (by kernel_rfl) ?_
  refine awp_seq ?_
  refine seq_reg (by kernel_rfl) ?_
  refine awp_block ?_
  refine awp_loop_r (nt := 39) (N := 4) (l := [(2, .str x2), (3, .str x3), (4, .bp 2 0), (5, .bp 3 0), (9, .int .i64 0), (10, .int .i64 0)]) (hs := [(2, .box [sl 2 GateShape.c x0.Shapes, sl 6 GateMend.c x0.Mends, sl 2 GateTeam.c x0.Teams]), (3, .box [.int .i64 x1.Now, .int .i64 x1.Tick, .int .i64 x1.Given, sl 7 GateObject.c x1.Objects, sl 7 GateGrant.c x1.Grants, sl 4 GateLedger.c x1.Ledgers, sl 5 GatePurse.c x1.Purses])]) (r := [(2, 0), (3, 1)]) rfl ⟨by kernel_rfl, by kernel_rfl, (or_box (by kernel_rfl) (by kernel_rfl) (or_box (by kernel_rfl) (by kernel_rfl) trivial))⟩ ?_
  refine loop_ind (fr := fun (z : (Int) × (Int)) => match z with | (v0_9, v0_10) => Fm 39 4 [(2, .str x2), (3, .str x3), (4, .bp 2 0), (5, .bp 3 0), (9, .int .i64 v0_9), (10, .int .i64 v0_10)] [(2, .box [sl 2 GateShape.c x0.Shapes, sl 6 GateMend.c x0.Mends, sl 2 GateTeam.c x0.Teams]), (3, .box [.int .i64 x1.Now, .int .i64 x1.Tick, .int .i64 x1.Given, sl 7 GateObject.c x1.Objects, sl 7 GateGrant.c x1.Grants, sl 4 GateLedger.c x1.Ledgers, sl 5 GatePurse.c x1.Purses])]) (f := fun k (z : (Int) × (Int)) => match z with | (v0_9, v0_10) => spec_GateUsed.l0 x1 x0 x2 x3 k v0_9 v0_10) ?_ (fun _ => rfl) k (0, 0) h
  clear h
  rintro k0 ⟨v0_9, v0_10⟩ ih0 h
  replace h : (spec_GateUsed.l0 x1 x0 x2 x3 (k0 + 1) v0_9 v0_10).bind _ = some _ := h
  rw [spec_GateUsed.l0] at h
  refine aloop_r ?_
  refine awp_seq ?_
  refine seq_reg (by kernel_rfl) ?_
  refine awp_cond (b := (decide (v0_10 < (x1.Objects.length : Int)))) (by kernel_rfl) (fun hb => ?_) (fun hb => ?_)
  · replace h := bif_p hb h
    refine awp_skip ?_
    refine awp_seq ?_
    refine awp_block ?_
    obtain ⟨o5_5_0, h⟩ := bif_s h
    obtain ⟨r5_9, hr5_9, h⟩ := bbind_s h
    refine seq_draw hmix #[0, 1, 0, 4, 0, 28, 60, 124, 0, 511] [] [] [⟨57, [sl 2 GateTeam.c x0.Teams, .str (x1.Objects.getD v0_10.toNat default).Team, .str x2], [], .bool r5_9, [], 4, 0⟩] [(0 : Int) ≤ v0_10 ∧ v0_10 < (x1.Objects.length : Int), same [sl 2 GateTeam.c x0.Teams, .str (x1.Objects.getD v0_10.toNat default).Team, .str x2]] (by kernel_rfl) ⟨o5_5_0, rfl, trivial⟩ ⟨spec_GateUnder.calls _ _ _ _ _ hr5_9, trivial⟩ ?_
    refine awp_cond (b := r5_9) (by kernel_rfl) (fun hb => ?_) (fun hb => ?_)
    · replace h := bif_t hb h
      obtain ⟨o6_5_0, h⟩ := bif_s h
      obtain ⟨r6_8, hr6_8, h⟩ := bbind_s h
      refine awp_draw hmix #[0, 0, 0, 4, 0, 28, 60, 0, 254, 511, 1023] [] [] [⟨19, [.agg (GateLaw.c x0), .agg (GateObject.c (x1.Objects.getD v0_10.toNat default)), .str x3], [], .int .i64 r6_8, [], 4, 0⟩] [(0 : Int) ≤ v0_10 ∧ v0_10 < (x1.Objects.length : Int), same [.agg (GateLaw.c x0), .agg (GateObject.c (x1.Objects.getD v0_10.toNat default)), .str x3]] (by kernel_rfl) ⟨o6_5_0, rfl, trivial⟩ ⟨spec_GateWeighs.calls _ _ _ _ _ hr6_8, trivial⟩ ?_
      refine awp_reg (by kernel_rfl) ?_
      exact ⟨_, _, [(2, .str x2), (3, .str x3), (4, .bp 2 0), (5, .bp 3 0), (9, .int .i64 (wr .i64 (v0_9 + r6_8))), (10, .int .i64 (wr .i64 (v0_10 + 1)))], [(2, .box [sl 2 GateShape.c x0.Shapes, sl 6 GateMend.c x0.Mends, sl 2 GateTeam.c x0.Teams]), (3, .box [.int .i64 x1.Now, .int .i64 x1.Tick, .int .i64 x1.Given, sl 7 GateObject.c x1.Objects, sl 7 GateGrant.c x1.Grants, sl 4 GateLedger.c x1.Ledgers, sl 5 GatePurse.c x1.Purses])], [(2, 2), (3, 3)], ⟨by kernel_rfl, by kernel_rfl, (or_box (by kernel_rfl) (by kernel_rfl) (or_box (by kernel_rfl) (by kernel_rfl) trivial))⟩, ih0 ((wr .i64 (v0_9 + r6_8)), (wr .i64 (v0_10 + 1))) h⟩
    · replace h := bif_f hb h
      refine awp_skip ?_
      refine awp_reg (by kernel_rfl) ?_
      exact ⟨_, _, [(2, .str x2), (3, .str x3), (4, .bp 2 0), (5, .bp 3 0), (9, .int .i64 v0_9), (10, .int .i64 (wr .i64 (v0_10 + 1)))], [(2, .box [sl 2 GateShape.c x0.Shapes, sl 6 GateMend.c x0.Mends, sl 2 GateTeam.c x0.Teams]), (3, .box [.int .i64 x1.Now, .int .i64 x1.Tick, .int .i64 x1.Given, sl 7 GateObject.c x1.Objects, sl 7 GateGrant.c x1.Grants, sl 4 GateLedger.c x1.Ledgers, sl 5 GatePurse.c x1.Purses])], [(2, 2), (3, 3)], ⟨by kernel_rfl, by kernel_rfl, (or_box (by kernel_rfl) (by kernel_rfl) (or_box (by kernel_rfl) (by kernel_rfl) trivial))⟩, ih0 (v0_9, (wr .i64 (v0_10 + 1))) h⟩
  · replace h := bif_n hb h
    refine awp_exit ?_
    replace h := bsome h
    refine seq_reg (by kernel_rfl) ?_
    obtain rfl := Option.some.inj h
    exact awp_ret (fin_ob [] (by kernel_rfl) trivial)

theorem impl_GateUsed.calls (k : Nat) (x0 : GateLaw) (x1 : GateBook) (x2 : List UInt8) (x3 : List UInt8) (r : Int) (h : impl_GateUsed k x0 x1 x2 x3 = some r) : PC Try.prog 28 [.agg (GateLaw.c x0), .agg (GateBook.c x1), .str x2, .str x3] (.int .i64 r) := by
  unfold impl_GateUsed at h
  refine pc_intro (fn := Try.f28) Try.call28 Try.func28 rfl (Nat.le_of_ble_eq_true rfl) rfl rfl ?_
  refine seq_reg (by kernel_rfl) ?_
  refine seq_reg (by kernel_rfl) ?_
  refine awp_seq ?_
  refine seq_reg (by kernel_rfl) ?_
  refine awp_block ?_
  refine awp_loop_r (nt := 33) (N := 3) (l := [(2, .str x2), (3, .str x3), (4, .bp 2 0), (9, .int .i64 0), (13, sl 7 GateObject.c x1.Objects), (14, .int .i64 (x1.Objects.length : Int)), (15, .int .i64 0)]) (hs := [(2, .box [sl 2 GateShape.c x0.Shapes, sl 6 GateMend.c x0.Mends, sl 2 GateTeam.c x0.Teams])]) (r := [(2, 0)]) rfl ⟨by kernel_rfl, by kernel_rfl, (or_box (by kernel_rfl) (by kernel_rfl) trivial)⟩ ?_
  refine loop_ind (fr := fun (z : (Int) × (Int)) => match z with | (v0_9, v0_15) => Fm 33 3 [(2, .str x2), (3, .str x3), (4, .bp 2 0), (9, .int .i64 v0_9), (13, sl 7 GateObject.c x1.Objects), (14, .int .i64 (x1.Objects.length : Int)), (15, .int .i64 v0_15)] [(2, .box [sl 2 GateShape.c x0.Shapes, sl 6 GateMend.c x0.Mends, sl 2 GateTeam.c x0.Teams])]) (f := fun k (z : (Int) × (Int)) => match z with | (v0_9, v0_15) => impl_GateUsed.l0 x1 x0 x2 x3 k v0_9 v0_15) ?_ (fun _ => rfl) k (0, 0) h
  clear h
  rintro k0 ⟨v0_9, v0_15⟩ ih0 h
  replace h : (impl_GateUsed.l0 x1 x0 x2 x3 (k0 + 1) v0_9 v0_15).bind _ = some _ := h
  rw [impl_GateUsed.l0] at h
  refine aloop_r ?_
  refine seq_reg (by kernel_rfl) ?_
  refine awp_seq ?_
  refine awp_cond (b := (decide (v0_15 < (x1.Objects.length : Int)))) (by kernel_rfl) (fun hb => ?_) (fun hb => ?_)
  · replace h := bif_p hb h
    refine awp_skip ?_
    refine awp_seq ?_
    refine awp_block ?_
    obtain ⟨o4_0_0, h⟩ := bif_s h
    refine seq_region [] [] [(0 : Int) ≤ v0_15 ∧ v0_15 < (x1.Objects.length : Int)] (by kernel_rfl) ⟨o4_0_0, trivial⟩ trivial ?_
    obtain ⟨r5_5, hr5_5, h⟩ := bbind_s h
    refine seq_region [] [⟨62, [sl 2 GateTeam.c x0.Teams, .str (x1.Objects.getD v0_15.toNat default).Team, .str x2], [], .bool r5_5, [], 4, 0⟩] [same [sl 2 GateTeam.c x0.Teams, .str (x1.Objects.getD v0_15.toNat default).Team, .str x2]] (by kernel_rfl) ⟨rfl, trivial⟩ ⟨impl_GateUnder.calls _ _ _ _ _ hr5_5, trivial⟩ ?_
    refine awp_cond (b := r5_5) (by kernel_rfl) (fun hb => ?_) (fun hb => ?_)
    · replace h := bif_t hb h
      obtain ⟨r6_4, hr6_4, h⟩ := bbind_s h
      refine awp_region [] [⟨22, [.agg (GateLaw.c x0), .agg (GateObject.c (x1.Objects.getD v0_15.toNat default)), .str x3], [], .int .i64 r6_4, [], 4, 0⟩] [same [.agg (GateLaw.c x0), .agg (GateObject.c (x1.Objects.getD v0_15.toNat default)), .str x3]] (by kernel_rfl) ⟨rfl, trivial⟩ ⟨impl_GateWeighs.calls _ _ _ _ _ hr6_4, trivial⟩ ?_
      refine awp_reg (by kernel_rfl) ?_
      exact ⟨_, _, [(2, .str x2), (3, .str x3), (4, .bp 2 0), (9, .int .i64 (wr .i64 (v0_9 + r6_4))), (13, sl 7 GateObject.c x1.Objects), (14, .int .i64 (x1.Objects.length : Int)), (15, .int .i64 (wr .i64 (v0_15 + 1)))], [(2, .box [sl 2 GateShape.c x0.Shapes, sl 6 GateMend.c x0.Mends, sl 2 GateTeam.c x0.Teams])], [(2, 2)], ⟨by kernel_rfl, by kernel_rfl, (or_box (by kernel_rfl) (by kernel_rfl) trivial)⟩, ih0 ((wr .i64 (v0_9 + r6_4)), (wr .i64 (v0_15 + 1))) h⟩
    · replace h := bif_f hb h
      refine awp_skip ?_
      refine awp_reg (by kernel_rfl) ?_
      exact ⟨_, _, [(2, .str x2), (3, .str x3), (4, .bp 2 0), (9, .int .i64 v0_9), (13, sl 7 GateObject.c x1.Objects), (14, .int .i64 (x1.Objects.length : Int)), (15, .int .i64 (wr .i64 (v0_15 + 1)))], [(2, .box [sl 2 GateShape.c x0.Shapes, sl 6 GateMend.c x0.Mends, sl 2 GateTeam.c x0.Teams])], [(2, 2)], ⟨by kernel_rfl, by kernel_rfl, (or_box (by kernel_rfl) (by kernel_rfl) trivial)⟩, ih0 (v0_9, (wr .i64 (v0_15 + 1))) h⟩
  · replace h := bif_n hb h
    refine awp_exit ?_
    replace h := bsome h
    refine seq_reg (by kernel_rfl) ?_
    obtain rfl := Option.some.inj h
    exact awp_ret (fin_ob [] (by kernel_rfl) trivial)

theorem laws_eqGateObjectS.calls (k : Nat) (x0 : List (GateObject)) (x1 : List (GateObject)) (r : Bool) (h : laws_eqGateObjectS k x0 x1 = some r) : PC Try.prog 63 [sl 7 GateObject.c x0, sl 7 GateObject.c x1] (.bool r) := by
  unfold laws_eqGateObjectS at h
  refine pc_intro (fn := Try.f63) Try.call63 Try.func63 rfl (Nat.le_of_ble_eq_true rfl) rfl rfl ?_
  refine seq_reg (by kernel_rfl) ?_
  refine awp_seq ?_
  refine seq_reg (by kernel_rfl) ?_
  refine awp_cond (b := ((x0.length : Int) != (x1.length : Int))) (by kernel_rfl) (fun hb => ?_) (fun hb => ?_)
  · replace h := if_t hb h
    refine seq_reg (by kernel_rfl) ?_
    obtain rfl := Option.some.inj h
    exact awp_ret (fin_ob [] (by kernel_rfl) trivial)
  · replace h := if_f hb h
    refine awp_skip ?_
    refine awp_seq ?_
    refine seq_reg (by kernel_rfl) ?_
    refine awp_block ?_
    refine awp_loop_r (nt := 27) (N := 0) (l := [(0, sl 7 GateObject.c x0), (1, sl 7 GateObject.c x1), (5, .int .i64 0)]) (hs := []) (r := []) rfl ⟨by kernel_rfl, by kernel_rfl, trivial⟩ ?_
    refine loop_ind (fr := fun (v0_5 : (Int)) => Fm 27 0 [(0, sl 7 GateObject.c x0), (1, sl 7 GateObject.c x1), (5, .int .i64 v0_5)] []) (f := fun k (z : (Int)) => match z with | v0_5 => laws_eqGateObjectS.l0 x0 x1 k v0_5) ?_ (fun _ => rfl) k 0 h
    clear h
    rintro k0 v0_5 ih0 h
    replace h : (laws_eqGateObjectS.l0 x0 x1 (k0 + 1) v0_5).bind _ = some _ := h
    rw [laws_eqGateObjectS.l0] at h
    refine aloop_r ?_
    refine awp_seq ?_
    refine seq_reg (by kernel_rfl) ?_
    refine awp_cond (b := (decide (v0_5 < (x0.length : Int)))) (by kernel_rfl) (fun hb => ?_) (fun hb => ?_)
    · replace h := bif_p hb h
      refine awp_skip ?_
      refine awp_seq ?_
      refine awp_block ?_
      obtain ⟨o6_2_0, h⟩ := bif_s h
      obtain ⟨o6_6_0, h⟩ := bif_s h
      obtain ⟨r6_8, hr6_8, h⟩ := bbind_s h
      refine seq_draw hmix #[0, 0, 3, 7, 0, 0, 48, 112, 255, 511] [] [] [⟨24, [.agg (GateObject.c (x0.getD v0_5.toNat default)), .agg (GateObject.c (x1.getD v0_5.toNat default))], [], .bool r6_8, [], 0, 0⟩] [(0 : Int) ≤ v0_5 ∧ v0_5 < (x0.length : Int), (0 : Int) ≤ v0_5 ∧ v0_5 < (x1.length : Int), same [.agg (GateObject.c (x0.getD v0_5.toNat default)), .agg (GateObject.c (x1.getD v0_5.toNat default))]] (by kernel_rfl) ⟨o6_2_0, o6_6_0, rfl, trivial⟩ ⟨laws_eqGateObject.calls _ _ _ _ hr6_8, trivial⟩ ?_
      refine awp_cond (b := (!r6_8)) (by kernel_rfl) (fun hb => ?_) (fun hb => ?_)
      · replace h := bif_t hb h
        refine seq_reg (by kernel_rfl) ?_
        obtain rfl := Option.some.inj h
        exact awp_ret (fin_ob [] (by kernel_rfl) trivial)
      · replace h := bif_f hb h
        refine awp_skip ?_
        refine awp_reg (by kernel_rfl) ?_
        exact ⟨_, _, [(0, sl 7 GateObject.c x0), (1, sl 7 GateObject.c x1), (5, .int .i64 (wr .i64 (v0_5 + 1)))], [], [], ⟨by kernel_rfl, by kernel_rfl, trivial⟩, ih0 (wr .i64 (v0_5 + 1)) h⟩
    · replace h := bif_n hb h
      refine awp_exit ?_
      replace h := bsome h
      refine seq_reg (by kernel_rfl) ?_
      obtain rfl := Option.some.inj h
      exact awp_ret (fin_ob [] (by kernel_rfl) trivial)

theorem laws_eqGateGrant.calls (k : Nat) (x0 : GateGrant) (x1 : GateGrant) (r : Bool) (h : laws_eqGateGrant k x0 x1 = some r) : PC Try.prog 91 [.agg (GateGrant.c x0), .agg (GateGrant.c x1)] (.bool r) := by
  unfold laws_eqGateGrant at h
  refine pc_intro (fn := Try.f91) Try.call91 Try.func91 rfl (Nat.le_of_ble_eq_true rfl) rfl rfl ?_
  refine seq_reg (by kernel_rfl) ?_
  refine awp_seq ?_
  refine seq_reg (by kernel_rfl) ?_
  refine awp_cond (b := (x0.Number != x1.Number)) (by kernel_rfl) (fun hb => ?_) (fun hb => ?_)
  · replace h := if_t hb h
    refine seq_reg (by kernel_rfl) ?_
    obtain rfl := Option.some.inj h
    exact awp_ret (fin_ob [] (by kernel_rfl) trivial)
  · replace h := if_f hb h
    refine awp_skip ?_
    refine awp_seq ?_
    refine seq_reg (by kernel_rfl) ?_
    refine awp_cond (b := (!(x0.To == x1.To))) (by kernel_rfl) (fun hb => ?_) (fun hb => ?_)
    · replace h := if_t hb h
      refine seq_reg (by kernel_rfl) ?_
      obtain rfl := Option.some.inj h
      exact awp_ret (fin_ob [] (by kernel_rfl) trivial)
    · replace h := if_f hb h
      refine awp_skip ?_
      refine awp_seq ?_
      refine seq_reg (by kernel_rfl) ?_
      refine awp_cond (b := (!(x0.By == x1.By))) (by kernel_rfl) (fun hb => ?_) (fun hb => ?_)
      · replace h := if_t hb h
        refine seq_reg (by kernel_rfl) ?_
        obtain rfl := Option.some.inj h
        exact awp_ret (fin_ob [] (by kernel_rfl) trivial)
      · replace h := if_f hb h
        refine awp_skip ?_
        refine awp_seq ?_
        obtain ⟨r7_4, hr7_4, h⟩ := bind_s h
        refine seq_region [] [⟨16, [.agg (GateRule.c x0.Rule), .agg (GateRule.c x1.Rule)], [], .bool r7_4, [], 2, 0⟩] [same [.agg (GateRule.c x0.Rule), .agg (GateRule.c x1.Rule)]] (by kernel_rfl) ⟨rfl, trivial⟩ ⟨laws_eqGateRule.calls _ _ _ _ hr7_4, trivial⟩ ?_
        refine awp_cond (b := (!r7_4)) (by kernel_rfl) (fun hb => ?_) (fun hb => ?_)
        · replace h := if_t hb h
          refine seq_reg (by kernel_rfl) ?_
          obtain rfl := Option.some.inj h
          exact awp_ret (fin_ob [] (by kernel_rfl) trivial)
        · replace h := if_f hb h
          refine awp_skip ?_
          refine seq_reg (by kernel_rfl) ?_
          obtain rfl := Option.some.inj h
          exact awp_ret (fin_ob [] (by kernel_rfl) trivial)

theorem laws_eqGateGrantS.calls (k : Nat) (x0 : List (GateGrant)) (x1 : List (GateGrant)) (r : Bool) (h : laws_eqGateGrantS k x0 x1 = some r) : PC Try.prog 64 [sl 7 GateGrant.c x0, sl 7 GateGrant.c x1] (.bool r) := by
  unfold laws_eqGateGrantS at h
  refine pc_intro (fn := Try.f64) Try.call64 Try.func64 rfl (Nat.le_of_ble_eq_true rfl) rfl rfl ?_
  refine seq_reg (by kernel_rfl) ?_
  refine awp_seq ?_
  refine seq_reg (by kernel_rfl) ?_
  refine awp_cond (b := ((x0.length : Int) != (x1.length : Int))) (by kernel_rfl) (fun hb => ?_) (fun hb => ?_)
  · replace h := if_t hb h
    refine seq_reg (by kernel_rfl) ?_
    obtain rfl := Option.some.inj h
    exact awp_ret (fin_ob [] (by kernel_rfl) trivial)
  · replace h := if_f hb h
    refine awp_skip ?_
    refine awp_seq ?_
    refine seq_reg (by kernel_rfl) ?_
    refine awp_block ?_
    refine awp_loop_r (nt := 27) (N := 0) (l := [(0, sl 7 GateGrant.c x0), (1, sl 7 GateGrant.c x1), (5, .int .i64 0)]) (hs := []) (r := []) rfl ⟨by kernel_rfl, by kernel_rfl, trivial⟩ ?_
    refine loop_ind (fr := fun (v0_5 : (Int)) => Fm 27 0 [(0, sl 7 GateGrant.c x0), (1, sl 7 GateGrant.c x1), (5, .int .i64 v0_5)] []) (f := fun k (z : (Int)) => match z with | v0_5 => laws_eqGateGrantS.l0 x0 x1 k v0_5) ?_ (fun _ => rfl) k 0 h
    clear h
    rintro k0 v0_5 ih0 h
    replace h : (laws_eqGateGrantS.l0 x0 x1 (k0 + 1) v0_5).bind _ = some _ := h
    rw [laws_eqGateGrantS.l0] at h
    refine aloop_r ?_
    refine awp_seq ?_
    refine seq_reg (by kernel_rfl) ?_
    refine awp_cond (b := (decide (v0_5 < (x0.length : Int)))) (by kernel_rfl) (fun hb => ?_) (fun hb => ?_)
    · replace h := bif_p hb h
      refine awp_skip ?_
      refine awp_seq ?_
      refine awp_block ?_
      obtain ⟨o6_2_0, h⟩ := bif_s h
      obtain ⟨o6_6_0, h⟩ := bif_s h
      obtain ⟨r6_8, hr6_8, h⟩ := bbind_s h
      refine seq_draw hmix #[0, 0, 3, 7, 0, 0, 48, 112, 255, 511] [] [] [⟨91, [.agg (GateGrant.c (x0.getD v0_5.toNat default)), .agg (GateGrant.c (x1.getD v0_5.toNat default))], [], .bool r6_8, [], 0, 0⟩] [(0 : Int) ≤ v0_5 ∧ v0_5 < (x0.length : Int), (0 : Int) ≤ v0_5 ∧ v0_5 < (x1.length : Int), same [.agg (GateGrant.c (x0.getD v0_5.toNat default)), .agg (GateGrant.c (x1.getD v0_5.toNat default))]] (by kernel_rfl) ⟨o6_2_0, o6_6_0, rfl, trivial⟩ ⟨laws_eqGateGrant.calls _ _ _ _ hr6_8, trivial⟩ ?_
      refine awp_cond (b := (!r6_8)) (by kernel_rfl) (fun hb => ?_) (fun hb => ?_)
      · replace h := bif_t hb h
        refine seq_reg (by kernel_rfl) ?_
        obtain rfl := Option.some.inj h
        exact awp_ret (fin_ob [] (by kernel_rfl) trivial)
      · replace h := bif_f hb h
        refine awp_skip ?_
        refine awp_reg (by kernel_rfl) ?_
        exact ⟨_, _, [(0, sl 7 GateGrant.c x0), (1, sl 7 GateGrant.c x1), (5, .int .i64 (wr .i64 (v0_5 + 1)))], [], [], ⟨by kernel_rfl, by kernel_rfl, trivial⟩, ih0 (wr .i64 (v0_5 + 1)) h⟩
    · replace h := bif_n hb h
      refine awp_exit ?_
      replace h := bsome h
      refine seq_reg (by kernel_rfl) ?_
      obtain rfl := Option.some.inj h
      exact awp_ret (fin_ob [] (by kernel_rfl) trivial)

theorem laws_eqGateLedger.calls (k : Nat) (x0 : GateLedger) (x1 : GateLedger) (r : Bool) (h : laws_eqGateLedger k x0 x1 = some r) : PC Try.prog 92 [.agg (GateLedger.c x0), .agg (GateLedger.c x1)] (.bool r) := by
  unfold laws_eqGateLedger at h
  refine pc_intro (fn := Try.f92) Try.call92 Try.func92 rfl (Nat.le_of_ble_eq_true rfl) rfl rfl ?_
  refine seq_reg (by kernel_rfl) ?_
  refine awp_seq ?_
  refine seq_reg (by kernel_rfl) ?_
  refine awp_cond (b := (!(x0.Team == x1.Team))) (by kernel_rfl) (fun hb => ?_) (fun hb => ?_)
  · replace h := if_t hb h
    refine seq_reg (by kernel_rfl) ?_
    obtain rfl := Option.some.inj h
    exact awp_ret (fin_ob [] (by kernel_rfl) trivial)
  · replace h := if_f hb h
    refine awp_skip ?_
    refine awp_seq ?_
    refine seq_reg (by kernel_rfl) ?_
    refine awp_cond (b := (!(x0.Resource == x1.Resource))) (by kernel_rfl) (fun hb => ?_) (fun hb => ?_)
    · replace h := if_t hb h
      refine seq_reg (by kernel_rfl) ?_
      obtain rfl := Option.some.inj h
      exact awp_ret (fin_ob [] (by kernel_rfl) trivial)
    · replace h := if_f hb h
      refine awp_skip ?_
      refine awp_seq ?_
      refine seq_reg (by kernel_rfl) ?_
      refine awp_cond (b := (x0.Most != x1.Most)) (by kernel_rfl) (fun hb => ?_) (fun hb => ?_)
      · replace h := if_t hb h
        refine seq_reg (by kernel_rfl) ?_
        obtain rfl := Option.some.inj h
        exact awp_ret (fin_ob [] (by kernel_rfl) trivial)
      · replace h := if_f hb h
        refine awp_skip ?_
        refine awp_seq ?_
        refine seq_reg (by kernel_rfl) ?_
        refine awp_cond (b := (x0.Free != x1.Free)) (by kernel_rfl) (fun hb => ?_) (fun hb => ?_)
        · replace h := if_t hb h
          refine seq_reg (by kernel_rfl) ?_
          obtain rfl := Option.some.inj h
          exact awp_ret (fin_ob [] (by kernel_rfl) trivial)
        · replace h := if_f hb h
          refine awp_skip ?_
          refine seq_reg (by kernel_rfl) ?_
          obtain rfl := Option.some.inj h
          exact awp_ret (fin_ob [] (by kernel_rfl) trivial)

theorem laws_eqGateLedgerS.calls (k : Nat) (x0 : List (GateLedger)) (x1 : List (GateLedger)) (r : Bool) (h : laws_eqGateLedgerS k x0 x1 = some r) : PC Try.prog 65 [sl 4 GateLedger.c x0, sl 4 GateLedger.c x1] (.bool r) := by
  unfold laws_eqGateLedgerS at h
  refine pc_intro (fn := Try.f65) Try.call65 Try.func65 rfl (Nat.le_of_ble_eq_true rfl) rfl rfl ?_
  refine seq_reg (by kernel_rfl) ?_
  refine awp_seq ?_
  refine seq_reg (by kernel_rfl) ?_
  refine awp_cond (b := ((x0.length : Int) != (x1.length : Int))) (by kernel_rfl) (fun hb => ?_) (fun hb => ?_)
  · replace h := if_t hb h
    refine seq_reg (by kernel_rfl) ?_
    obtain rfl := Option.some.inj h
    exact awp_ret (fin_ob [] (by kernel_rfl) trivial)
  · replace h := if_f hb h
    refine awp_skip ?_
    refine awp_seq ?_
    refine seq_reg (by kernel_rfl) ?_
    refine awp_block ?_
    refine awp_loop_r (nt := 27) (N := 0) (l := [(0, sl 4 GateLedger.c x0), (1, sl 4 GateLedger.c x1), (5, .int .i64 0)]) (hs := []) (r := []) rfl ⟨by kernel_rfl, by kernel_rfl, trivial⟩ ?_
    refine loop_ind (fr := fun (v0_5 : (Int)) => Fm 27 0 [(0, sl 4 GateLedger.c x0), (1, sl 4 GateLedger.c x1), (5, .int .i64 v0_5)] []) (f := fun k (z : (Int)) => match z with | v0_5 => laws_eqGateLedgerS.l0 x0 x1 k v0_5) ?_ (fun _ => rfl) k 0 h
    clear h
    rintro k0 v0_5 ih0 h
    replace h : (laws_eqGateLedgerS.l0 x0 x1 (k0 + 1) v0_5).bind _ = some _ := h
    rw [laws_eqGateLedgerS.l0] at h
    refine aloop_r ?_
    refine awp_seq ?_
    refine seq_reg (by kernel_rfl) ?_
    refine awp_cond (b := (decide (v0_5 < (x0.length : Int)))) (by kernel_rfl) (fun hb => ?_) (fun hb => ?_)
    · replace h := bif_p hb h
      refine awp_skip ?_
      refine awp_seq ?_
      refine awp_block ?_
      obtain ⟨o6_2_0, h⟩ := bif_s h
      obtain ⟨o6_6_0, h⟩ := bif_s h
      obtain ⟨r6_8, hr6_8, h⟩ := bbind_s h
      refine seq_draw hmix #[0, 0, 3, 7, 0, 0, 48, 112, 255, 511] [] [] [⟨92, [.agg (GateLedger.c (x0.getD v0_5.toNat default)), .agg (GateLedger.c (x1.getD v0_5.toNat default))], [], .bool r6_8, [], 0, 0⟩] [(0 : Int) ≤ v0_5 ∧ v0_5 < (x0.length : Int), (0 : Int) ≤ v0_5 ∧ v0_5 < (x1.length : Int), same [.agg (GateLedger.c (x0.getD v0_5.toNat default)), .agg (GateLedger.c (x1.getD v0_5.toNat default))]] (by kernel_rfl) ⟨o6_2_0, o6_6_0, rfl, trivial⟩ ⟨laws_eqGateLedger.calls _ _ _ _ hr6_8, trivial⟩ ?_
      refine awp_cond (b := (!r6_8)) (by kernel_rfl) (fun hb => ?_) (fun hb => ?_)
      · replace h := bif_t hb h
        refine seq_reg (by kernel_rfl) ?_
        obtain rfl := Option.some.inj h
        exact awp_ret (fin_ob [] (by kernel_rfl) trivial)
      · replace h := bif_f hb h
        refine awp_skip ?_
        refine awp_reg (by kernel_rfl) ?_
        exact ⟨_, _, [(0, sl 4 GateLedger.c x0), (1, sl 4 GateLedger.c x1), (5, .int .i64 (wr .i64 (v0_5 + 1)))], [], [], ⟨by kernel_rfl, by kernel_rfl, trivial⟩, ih0 (wr .i64 (v0_5 + 1)) h⟩
    · replace h := bif_n hb h
      refine awp_exit ?_
      replace h := bsome h
      refine seq_reg (by kernel_rfl) ?_
      obtain rfl := Option.some.inj h
      exact awp_ret (fin_ob [] (by kernel_rfl) trivial)

theorem laws_eqGatePurse.calls (k : Nat) (x0 : GatePurse) (x1 : GatePurse) (r : Bool) (h : laws_eqGatePurse k x0 x1 = some r) : PC Try.prog 93 [.agg (GatePurse.c x0), .agg (GatePurse.c x1)] (.bool r) := by
  unfold laws_eqGatePurse at h
  refine pc_intro (fn := Try.f93) Try.call93 Try.func93 rfl (Nat.le_of_ble_eq_true rfl) rfl rfl ?_
  refine seq_reg (by kernel_rfl) ?_
  refine awp_seq ?_
  refine seq_reg (by kernel_rfl) ?_
  refine awp_cond (b := (!(x0.Door == x1.Door))) (by kernel_rfl) (fun hb => ?_) (fun hb => ?_)
  · replace h := if_t hb h
    refine seq_reg (by kernel_rfl) ?_
    obtain rfl := Option.some.inj h
    exact awp_ret (fin_ob [] (by kernel_rfl) trivial)
  · replace h := if_f hb h
    refine awp_skip ?_
    refine awp_seq ?_
    refine seq_reg (by kernel_rfl) ?_
    refine awp_cond (b := (!(x0.Team == x1.Team))) (by kernel_rfl) (fun hb => ?_) (fun hb => ?_)
    · replace h := if_t hb h
      refine seq_reg (by kernel_rfl) ?_
      obtain rfl := Option.some.inj h
      exact awp_ret (fin_ob [] (by kernel_rfl) trivial)
    · replace h := if_f hb h
      refine awp_skip ?_
      refine awp_seq ?_
      refine seq_reg (by kernel_rfl) ?_
      refine awp_cond (b := (!(x0.Resource == x1.Resource))) (by kernel_rfl) (fun hb => ?_) (fun hb => ?_)
      · replace h := if_t hb h
        refine seq_reg (by kernel_rfl) ?_
        obtain rfl := Option.some.inj h
        exact awp_ret (fin_ob [] (by kernel_rfl) trivial)
      · replace h := if_f hb h
        refine awp_skip ?_
        refine awp_seq ?_
        refine seq_reg (by kernel_rfl) ?_
        refine awp_cond (b := (x0.Amount != x1.Amount)) (by kernel_rfl) (fun hb => ?_) (fun hb => ?_)
        · replace h := if_t hb h
          refine seq_reg (by kernel_rfl) ?_
          obtain rfl := Option.some.inj h
          exact awp_ret (fin_ob [] (by kernel_rfl) trivial)
        · replace h := if_f hb h
          refine awp_skip ?_
          refine awp_seq ?_
          refine seq_reg (by kernel_rfl) ?_
          refine awp_cond (b := (x0.Until != x1.Until)) (by kernel_rfl) (fun hb => ?_) (fun hb => ?_)
          · replace h := if_t hb h
            refine seq_reg (by kernel_rfl) ?_
            obtain rfl := Option.some.inj h
            exact awp_ret (fin_ob [] (by kernel_rfl) trivial)
          · replace h := if_f hb h
            refine awp_skip ?_
            refine seq_reg (by kernel_rfl) ?_
            obtain rfl := Option.some.inj h
            exact awp_ret (fin_ob [] (by kernel_rfl) trivial)

theorem laws_eqGatePurseS.calls (k : Nat) (x0 : List (GatePurse)) (x1 : List (GatePurse)) (r : Bool) (h : laws_eqGatePurseS k x0 x1 = some r) : PC Try.prog 66 [sl 5 GatePurse.c x0, sl 5 GatePurse.c x1] (.bool r) := by
  unfold laws_eqGatePurseS at h
  refine pc_intro (fn := Try.f66) Try.call66 Try.func66 rfl (Nat.le_of_ble_eq_true rfl) rfl rfl ?_
  refine seq_reg (by kernel_rfl) ?_
  refine awp_seq ?_
  refine seq_reg (by kernel_rfl) ?_
  refine awp_cond (b := ((x0.length : Int) != (x1.length : Int))) (by kernel_rfl) (fun hb => ?_) (fun hb => ?_)
  · replace h := if_t hb h
    refine seq_reg (by kernel_rfl) ?_
    obtain rfl := Option.some.inj h
    exact awp_ret (fin_ob [] (by kernel_rfl) trivial)
  · replace h := if_f hb h
    refine awp_skip ?_
    refine awp_seq ?_
    refine seq_reg (by kernel_rfl) ?_
    refine awp_block ?_
    refine awp_loop_r (nt := 27) (N := 0) (l := [(0, sl 5 GatePurse.c x0), (1, sl 5 GatePurse.c x1), (5, .int .i64 0)]) (hs := []) (r := []) rfl ⟨by kernel_rfl, by kernel_rfl, trivial⟩ ?_
    refine loop_ind (fr := fun (v0_5 : (Int)) => Fm 27 0 [(0, sl 5 GatePurse.c x0), (1, sl 5 GatePurse.c x1), (5, .int .i64 v0_5)] []) (f := fun k (z : (Int)) => match z with | v0_5 => laws_eqGatePurseS.l0 x0 x1 k v0_5) ?_ (fun _ => rfl) k 0 h
    clear h
    rintro k0 v0_5 ih0 h
    replace h : (laws_eqGatePurseS.l0 x0 x1 (k0 + 1) v0_5).bind _ = some _ := h
    rw [laws_eqGatePurseS.l0] at h
    refine aloop_r ?_
    refine awp_seq ?_
    refine seq_reg (by kernel_rfl) ?_
    refine awp_cond (b := (decide (v0_5 < (x0.length : Int)))) (by kernel_rfl) (fun hb => ?_) (fun hb => ?_)
    · replace h := bif_p hb h
      refine awp_skip ?_
      refine awp_seq ?_
      refine awp_block ?_
      obtain ⟨o6_2_0, h⟩ := bif_s h
      obtain ⟨o6_6_0, h⟩ := bif_s h
      obtain ⟨r6_8, hr6_8, h⟩ := bbind_s h
      refine seq_draw hmix #[0, 0, 3, 7, 0, 0, 48, 112, 255, 511] [] [] [⟨93, [.agg (GatePurse.c (x0.getD v0_5.toNat default)), .agg (GatePurse.c (x1.getD v0_5.toNat default))], [], .bool r6_8, [], 0, 0⟩] [(0 : Int) ≤ v0_5 ∧ v0_5 < (x0.length : Int), (0 : Int) ≤ v0_5 ∧ v0_5 < (x1.length : Int), same [.agg (GatePurse.c (x0.getD v0_5.toNat default)), .agg (GatePurse.c (x1.getD v0_5.toNat default))]] (by kernel_rfl) ⟨o6_2_0, o6_6_0, rfl, trivial⟩ ⟨laws_eqGatePurse.calls _ _ _ _ hr6_8, trivial⟩ ?_
      refine awp_cond (b := (!r6_8)) (by kernel_rfl) (fun hb => ?_) (fun hb => ?_)
      · replace h := bif_t hb h
        refine seq_reg (by kernel_rfl) ?_
        obtain rfl := Option.some.inj h
        exact awp_ret (fin_ob [] (by kernel_rfl) trivial)
      · replace h := bif_f hb h
        refine awp_skip ?_
        refine awp_reg (by kernel_rfl) ?_
        exact ⟨_, _, [(0, sl 5 GatePurse.c x0), (1, sl 5 GatePurse.c x1), (5, .int .i64 (wr .i64 (v0_5 + 1)))], [], [], ⟨by kernel_rfl, by kernel_rfl, trivial⟩, ih0 (wr .i64 (v0_5 + 1)) h⟩
    · replace h := bif_n hb h
      refine awp_exit ?_
      replace h := bsome h
      refine seq_reg (by kernel_rfl) ?_
      obtain rfl := Option.some.inj h
      exact awp_ret (fin_ob [] (by kernel_rfl) trivial)

theorem laws_eqGateBook.calls (k : Nat) (x0 : GateBook) (x1 : GateBook) (r : Bool) (h : laws_eqGateBook k x0 x1 = some r) : PC Try.prog 29 [.agg (GateBook.c x0), .agg (GateBook.c x1)] (.bool r) := by
  unfold laws_eqGateBook at h
  refine pc_intro (fn := Try.f29) Try.call29 Try.func29 rfl (Nat.le_of_ble_eq_true rfl) rfl rfl ?_
  refine seq_reg (by kernel_rfl) ?_
  refine awp_seq ?_
  refine seq_reg (by kernel_rfl) ?_
  refine awp_cond (b := (x0.Now != x1.Now)) (by kernel_rfl) (fun hb => ?_) (fun hb => ?_)
  · replace h := if_t hb h
    refine seq_reg (by kernel_rfl) ?_
    obtain rfl := Option.some.inj h
    exact awp_ret (fin_ob [] (by kernel_rfl) trivial)
  · replace h := if_f hb h
    refine awp_skip ?_
    refine awp_seq ?_
    refine seq_reg (by kernel_rfl) ?_
    refine awp_cond (b := (x0.Tick != x1.Tick)) (by kernel_rfl) (fun hb => ?_) (fun hb => ?_)
    · replace h := if_t hb h
      refine seq_reg (by kernel_rfl) ?_
      obtain rfl := Option.some.inj h
      exact awp_ret (fin_ob [] (by kernel_rfl) trivial)
    · replace h := if_f hb h
      refine awp_skip ?_
      refine awp_seq ?_
      refine seq_reg (by kernel_rfl) ?_
      refine awp_cond (b := (x0.Given != x1.Given)) (by kernel_rfl) (fun hb => ?_) (fun hb => ?_)
      · replace h := if_t hb h
        refine seq_reg (by kernel_rfl) ?_
        obtain rfl := Option.some.inj h
        exact awp_ret (fin_ob [] (by kernel_rfl) trivial)
      · replace h := if_f hb h
        refine awp_skip ?_
        refine awp_seq ?_
        obtain ⟨r7_4, hr7_4, h⟩ := bind_s h
        refine seq_region [] [⟨63, [sl 7 GateObject.c x0.Objects, sl 7 GateObject.c x1.Objects], [], .bool r7_4, [], 2, 0⟩] [same [sl 7 GateObject.c x0.Objects, sl 7 GateObject.c x1.Objects]] (by kernel_rfl) ⟨rfl, trivial⟩ ⟨laws_eqGateObjectS.calls _ _ _ _ hr7_4, trivial⟩ ?_
        refine awp_cond (b := (!r7_4)) (by kernel_rfl) (fun hb => ?_) (fun hb => ?_)
        · replace h := if_t hb h
          refine seq_reg (by kernel_rfl) ?_
          obtain rfl := Option.some.inj h
          exact awp_ret (fin_ob [] (by kernel_rfl) trivial)
        · replace h := if_f hb h
          refine awp_skip ?_
          refine awp_seq ?_
          obtain ⟨r9_4, hr9_4, h⟩ := bind_s h
          refine seq_region [] [⟨64, [sl 7 GateGrant.c x0.Grants, sl 7 GateGrant.c x1.Grants], [], .bool r9_4, [], 2, 0⟩] [same [sl 7 GateGrant.c x0.Grants, sl 7 GateGrant.c x1.Grants]] (by kernel_rfl) ⟨rfl, trivial⟩ ⟨laws_eqGateGrantS.calls _ _ _ _ hr9_4, trivial⟩ ?_
          refine awp_cond (b := (!r9_4)) (by kernel_rfl) (fun hb => ?_) (fun hb => ?_)
          · replace h := if_t hb h
            refine seq_reg (by kernel_rfl) ?_
            obtain rfl := Option.some.inj h
            exact awp_ret (fin_ob [] (by kernel_rfl) trivial)
          · replace h := if_f hb h
            refine awp_skip ?_
            refine awp_seq ?_
            obtain ⟨r11_4, hr11_4, h⟩ := bind_s h
            refine seq_region [] [⟨65, [sl 4 GateLedger.c x0.Ledgers, sl 4 GateLedger.c x1.Ledgers], [], .bool r11_4, [], 2, 0⟩] [same [sl 4 GateLedger.c x0.Ledgers, sl 4 GateLedger.c x1.Ledgers]] (by kernel_rfl) ⟨rfl, trivial⟩ ⟨laws_eqGateLedgerS.calls _ _ _ _ hr11_4, trivial⟩ ?_
            refine awp_cond (b := (!r11_4)) (by kernel_rfl) (fun hb => ?_) (fun hb => ?_)
            · replace h := if_t hb h
              refine seq_reg (by kernel_rfl) ?_
              obtain rfl := Option.some.inj h
              exact awp_ret (fin_ob [] (by kernel_rfl) trivial)
            · replace h := if_f hb h
              refine awp_skip ?_
              refine awp_seq ?_
              obtain ⟨r13_4, hr13_4, h⟩ := bind_s h
              refine seq_region [] [⟨66, [sl 5 GatePurse.c x0.Purses, sl 5 GatePurse.c x1.Purses], [], .bool r13_4, [], 2, 0⟩] [same [sl 5 GatePurse.c x0.Purses, sl 5 GatePurse.c x1.Purses]] (by kernel_rfl) ⟨rfl, trivial⟩ ⟨laws_eqGatePurseS.calls _ _ _ _ hr13_4, trivial⟩ ?_
              refine awp_cond (b := (!r13_4)) (by kernel_rfl) (fun hb => ?_) (fun hb => ?_)
              · replace h := if_t hb h
                refine seq_reg (by kernel_rfl) ?_
                obtain rfl := Option.some.inj h
                exact awp_ret (fin_ob [] (by kernel_rfl) trivial)
              · replace h := if_f hb h
                refine awp_skip ?_
                refine seq_reg (by kernel_rfl) ?_
                obtain rfl := Option.some.inj h
                exact awp_ret (fin_ob [] (by kernel_rfl) trivial)

theorem laws_FnExactGateUsed.calls (k : Nat) (x0 : GateLaw) (x1 : GateBook) (x2 : List UInt8) (x3 : List UInt8) (r : Bool) (h : laws_FnExactGateUsed k x0 x1 x2 x3 = some r) : PC Try.prog 5 [.agg (GateLaw.c x0), .agg (GateBook.c x1), .str x2, .str x3] (.bool r) := by
  unfold laws_FnExactGateUsed at h
  refine pc_intro (fn := Try.f5) Try.call5 Try.func5 rfl (Nat.le_of_ble_eq_true rfl) rfl rfl ?_
  refine seq_reg (by kernel_rfl) ?_
  refine awp_seq ?_
  refine seq_reg (by kernel_rfl) ?_
  refine awp_cond (b := (decide ((x2.length : Int) > 1048576))) (by kernel_rfl) (fun hb => ?_) (fun hb => ?_)
  · replace h := if_p hb h
    refine seq_reg (by kernel_rfl) ?_
    obtain rfl := Option.some.inj h
    exact awp_ret (fin_ob [] (by kernel_rfl) trivial)
  · replace h := if_n hb h
    refine awp_skip ?_
    refine awp_seq ?_
    refine seq_reg (by kernel_rfl) ?_
    refine awp_cond (b := (decide ((x3.length : Int) > 1048576))) (by kernel_rfl) (fun hb => ?_) (fun hb => ?_)
    · replace h := if_p hb h
      refine seq_reg (by kernel_rfl) ?_
      obtain rfl := Option.some.inj h
      exact awp_ret (fin_ob [] (by kernel_rfl) trivial)
    · replace h := if_n hb h
      refine awp_skip ?_
      refine seq_reg (by kernel_rfl) ?_
      obtain ⟨r6_2, hr6_2, h⟩ := bind_s h
      refine seq_region [] [⟨17, [.agg (GateLaw.c x0), .int .i64 1048576], [], .int .i64 r6_2, [], 2, 0⟩] [same [.agg (GateLaw.c x0), .int .i64 1048576]] (by kernel_rfl) ⟨rfl, trivial⟩ ⟨laws_szGateLaw.calls _ _ _ _ hr6_2, trivial⟩ ?_
      refine awp_seq ?_
      refine seq_reg (by kernel_rfl) ?_
      refine awp_cond (b := (decide (r6_2 < 0))) (by kernel_rfl) (fun hb => ?_) (fun hb => ?_)
      · replace h := if_p hb h
        refine seq_reg (by kernel_rfl) ?_
        obtain rfl := Option.some.inj h
        exact awp_ret (fin_ob [] (by kernel_rfl) trivial)
      · replace h := if_n hb h
        refine awp_skip ?_
        obtain ⟨r9_2, hr9_2, h⟩ := bind_s h
        refine seq_region [] [⟨25, [.agg (GateBook.c x1), .int .i64 r6_2], [], .int .i64 r9_2, [], 2, 0⟩] [same [.agg (GateBook.c x1), .int .i64 r6_2]] (by kernel_rfl) ⟨rfl, trivial⟩ ⟨laws_szGateBook.calls _ _ _ _ hr9_2, trivial⟩ ?_
        refine awp_seq ?_
        refine seq_reg (by kernel_rfl) ?_
        refine awp_cond (b := (decide (r9_2 < 0))) (by kernel_rfl) (fun hb => ?_) (fun hb => ?_)
        · replace h := if_p hb h
          refine seq_reg (by kernel_rfl) ?_
          obtain rfl := Option.some.inj h
          exact awp_ret (fin_ob [] (by kernel_rfl) trivial)
        · replace h := if_n hb h
          refine awp_skip ?_
          obtain ⟨r12_1, hr12_1, h⟩ := bind_s h
          obtain ⟨r12_3, hr12_3, h⟩ := bind_s h
          obtain ⟨r12_6, hr12_6, h⟩ := bind_s h
          refine seq_draw hmix #[0, 1, 0, 7, 0, 0, 63, 127] [] [] [⟨20, [.agg (GateLaw.c x0)], [], .agg (GateLaw.c r12_1), [], 2, 0⟩, ⟨27, [.agg (GateBook.c x1)], [], .agg (GateBook.c r12_3), [], 2, 0⟩, ⟨26, [.agg (GateLaw.c r12_1), .agg (GateBook.c r12_3), .str x2, .str x3], [], .int .i64 r12_6, [], 2, 0⟩] [same [.agg (GateLaw.c x0)], same [.agg (GateBook.c x1)], same [.agg (GateLaw.c r12_1), .agg (GateBook.c r12_3), .str x2, .str x3]] (by kernel_rfl) ⟨rfl, rfl, rfl, trivial⟩ ⟨laws_toGateLaw.calls _ _ _ hr12_1, laws_toGateBook.calls _ _ _ hr12_3, spec_GateUsed.calls _ _ _ _ _ _ hr12_6, trivial⟩ ?_
          obtain ⟨r13_1, hr13_1, h⟩ := bind_s h
          refine seq_region [] [⟨20, [.agg (GateLaw.c x0)], [], .agg (GateLaw.c r13_1), [], 2, 0⟩] [same [.agg (GateLaw.c x0)]] (by kernel_rfl) ⟨rfl, trivial⟩ ⟨laws_toGateLaw.calls _ _ _ hr13_1, trivial⟩ ?_
          obtain ⟨r14_1, hr14_1, h⟩ := bind_s h
          refine seq_region [] [⟨27, [.agg (GateBook.c x1)], [], .agg (GateBook.c r14_1), [], 3, 0⟩] [same [.agg (GateBook.c x1)]] (by kernel_rfl) ⟨rfl, trivial⟩ ⟨laws_toGateBook.calls _ _ _ hr14_1, trivial⟩ ?_
          obtain ⟨r15_4, hr15_4, h⟩ := bind_s h
          refine seq_region [] [⟨28, [.agg (GateLaw.c r13_1), .agg (GateBook.c r14_1), .str x2, .str x3], [], .int .i64 r15_4, [], 4, 0⟩] [same [.agg (GateLaw.c r13_1), .agg (GateBook.c r14_1), .str x2, .str x3]] (by kernel_rfl) ⟨rfl, trivial⟩ ⟨impl_GateUsed.calls _ _ _ _ _ _ hr15_4, trivial⟩ ?_
          refine awp_seq ?_
          refine seq_reg (by kernel_rfl) ?_
          refine awp_cond (b := (r15_4 != r12_6)) (by kernel_rfl) (fun hb => ?_) (fun hb => ?_)
          · replace h := if_t hb h
            refine seq_reg (by kernel_rfl) ?_
            obtain rfl := Option.some.inj h
            exact awp_ret (fin_ob [] (by kernel_rfl) trivial)
          · replace h := if_f hb h
            refine awp_skip ?_
            refine awp_seq ?_
            obtain ⟨r18_2, hr18_2, h⟩ := bind_s h
            obtain ⟨r18_3, hr18_3, h⟩ := bind_s h
            refine seq_draw hmix #[0, 0, 2, 7, 15] [] [] [⟨20, [.agg (GateLaw.c x0)], [], .agg (GateLaw.c r18_2), [], 4, 0⟩, ⟨23, [.agg (GateLaw.c r13_1), .agg (GateLaw.c r18_2)], [], .bool r18_3, [], 4, 0⟩] [same [.agg (GateLaw.c x0)], same [.agg (GateLaw.c r13_1), .agg (GateLaw.c r18_2)]] (by kernel_rfl) ⟨rfl, rfl, trivial⟩ ⟨laws_toGateLaw.calls _ _ _ hr18_2, laws_eqGateLaw.calls _ _ _ _ hr18_3, trivial⟩ ?_
            refine awp_cond (b := (!r18_3)) (by kernel_rfl) (fun hb => ?_) (fun hb => ?_)
            · replace h := if_t hb h
              refine seq_reg (by kernel_rfl) ?_
              obtain rfl := Option.some.inj h
              exact awp_ret (fin_ob [] (by kernel_rfl) trivial)
            · replace h := if_f hb h
              refine awp_skip ?_
              refine awp_seq ?_
              obtain ⟨r20_2, hr20_2, h⟩ := bind_s h
              obtain ⟨r20_3, hr20_3, h⟩ := bind_s h
              refine seq_draw hmix #[0, 0, 2, 7, 15] [] [] [⟨27, [.agg (GateBook.c x1)], [], .agg (GateBook.c r20_2), [], 4, 0⟩, ⟨29, [.agg (GateBook.c r14_1), .agg (GateBook.c r20_2)], [], .bool r20_3, [], 4, 0⟩] [same [.agg (GateBook.c x1)], same [.agg (GateBook.c r14_1), .agg (GateBook.c r20_2)]] (by kernel_rfl) ⟨rfl, rfl, trivial⟩ ⟨laws_toGateBook.calls _ _ _ hr20_2, laws_eqGateBook.calls _ _ _ _ hr20_3, trivial⟩ ?_
              refine awp_cond (b := (!r20_3)) (by kernel_rfl) (fun hb => ?_) (fun hb => ?_)
              · replace h := if_t hb h
                refine seq_reg (by kernel_rfl) ?_
                obtain rfl := Option.some.inj h
                exact awp_ret (fin_ob [] (by kernel_rfl) trivial)
              · replace h := if_f hb h
                refine awp_skip ?_
                refine seq_reg (by kernel_rfl) ?_
                obtain rfl := Option.some.inj h
                exact awp_ret (fin_ob [] (by kernel_rfl) trivial)
end Go.Proofs.Ytkfdfapickladaa.Fn
