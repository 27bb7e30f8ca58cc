/- What a set of rules leaves uncovered: the two texts agree. No condition. -/
import Derived.Test.YtnhkbghbllbknaaDoorPwO
namespace Go.Proofs.YtnhkbghbllbknaaDoor.Pu
open Go Go.RowKit Go.Proofs.YtnhkbghbllbknaaDoor.Abs Go.Proofs.YtnhkbghbllbknaaDoor.Fn

/-! ### All is in order -/

def allOk (x : List GateTeam) (rs : List GateRule) (q : GateRule) : Bool := teamsOk x && (ruleOk q && rs.all ruleOk)
theorem specAllOk_e {k : Nat} {x : List GateTeam} {rs : List GateRule} {q : GateRule} (hk : 4194304 * 3 ≤ k) (hx : sdS GateTeam.sd x) (hr : sdS GateRule.sd rs) (hq : q.sd) : spec_l4AllOk k x rs q = some (allOk x rs q) := by
  unfold spec_l4AllOk allOk
  have h := loop_all (R := Option Bool) (x := rs) (p := ruleOk) (B := 4194304 * 2) (l := fun k i => iter (ts := spec_l4AllOk_L4_ts) (R := Bool) k (spec_l4AllOk_L4 (some true)) rs i) (E := some true) (O := some false)
    (fun k => by simp only [iter, spec_l4AllOk_L4, ilt_e, cond_false] <;> rfl)
    (fun k i hi hb => by
      simp only [iter, spec_l4AllOk_L4, ilt_n hi, inb_n hi, cond_true, req_t, nth_i hi, specRuleOk_e hb (hr.2 _ (mem_i hi)), Option.bind_some, iadd_n hr.1 hi]
      cases ruleOk rs[i] <;> rfl) k (by have := hr.1; omega)
  simp only [share, specTeamsOk_e hk hx, specRuleOk_e (show 4194304 * 2 ≤ k by omega) hq, Option.bind_some]
  cases teamsOk x <;> cases ruleOk q <;> first | rfl | exact h.trans (by cases rs.all ruleOk <;> rfl)
theorem implAllOk_e {k : Nat} {x : List GateTeam} {rs : List GateRule} {q : GateRule} (hk : 4194304 * 3 ≤ k) (hx : sdS GateTeam.sd x) (hr : sdS GateRule.sd rs) (hq : q.sd) : impl_rulesOk k x rs q = some (allOk x rs q) := by
  unfold impl_rulesOk allOk
  have h := loop_all (R := Option Bool) (x := rs) (p := ruleOk) (B := 4194304 * 2) (l := fun k i => iter (ts := impl_rulesOk_L4_ts) (R := Bool) k (impl_rulesOk_L4 (some true)) rs (rs.length : Int) i) (E := some true) (O := some false)
    (fun k => by simp only [iter, impl_rulesOk_L4, ilt_e, cond_false] <;> rfl)
    (fun k i hi hb => by
      simp only [iter, impl_rulesOk_L4, ilt_n hi, inb_n hi, cond_true, req_t, nth_i hi, implRuleOk_e hb (hr.2 _ (mem_i hi)), Option.bind_some, iadd_n hr.1 hi]
      cases ruleOk rs[i] <;> rfl) k (by have := hr.1; omega)
  simp only [share, implTeamsOk_e hk hx, implRuleOk_e (show 4194304 * 2 ≤ k by omega) hq, Option.bind_some]
  cases teamsOk x <;> cases ruleOk q <;> first | rfl | exact h.trans (by cases rs.all ruleOk <;> rfl)

/-! ### Verbs -/

def hasV (r : GateRule) (v : Int) : Bool := r.Verbs.any fun y => ieq y v
theorem specVerb_e {k : Nat} {r : GateRule} {v : Int} (hk : 4194304 ≤ k) (hr : r.sd) : spec_l4Verb k r v = some (hasV r v) := by
  unfold spec_l4Verb
  have h := loop_any (R := Option Bool) (x := r.Verbs) (p := fun y => ieq y v) (B := 0) (l := fun k i => iter (ts := spec_l4Verb_L2_ts) (R := Bool) k (spec_l4Verb_L2 (some false)) v r i) (E := some false) (O := some true)
    (fun k => by simp only [iter, spec_l4Verb_L2, ilt_e, cond_false] <;> rfl)
    (fun k i hi _ => by simp only [iter, spec_l4Verb_L2, ilt_n hi, inb_n hi, cond_true, req_t, nth_i hi, iadd_n hr.1.1 hi] <;> rfl) k (by have := hr.1.1; omega)
  simp only [share]
  refine h.trans ?_
  unfold hasV
  cases r.Verbs.any fun y => ieq y v <;> rfl
def setStep (s : Int) (v : Int) : Int := bOr .u16 s (bShl .u16 1 (iconv .u64 v))
def bit (s v : Int) : Bool := ieq (bAnd .u16 (bShr .u16 s (iconv .u64 v)) 1) 1
theorem step_bit : ∀ s : Fin 64, ∀ a : Fin 5, (∃ t : Fin 64, setStep (s.val : Int) ((a.val + 1 : Nat) : Int) = (t.val : Int)) ∧ ∀ v : Fin 5, bit (setStep (s.val : Int) ((a.val + 1 : Nat) : Int)) ((v.val + 1 : Nat) : Int) = (bit (s.val : Int) ((v.val + 1 : Nat) : Int) || ieq ((a.val + 1 : Nat) : Int) ((v.val + 1 : Nat) : Int)) := by
  decide +kernel
theorem set_bits : ∀ (vs : List Int) (s : Fin 64), (∀ v, v ∈ vs → 1 ≤ v ∧ v ≤ 5) → ∀ v : Int, 1 ≤ v → v ≤ 5 → bit (vs.foldl setStep (s.val : Int)) v = (bit (s.val : Int) v || vs.any fun y => ieq y v)
  | [], s, _, v, _, _ => by simp
  | a :: r, s, h, v, h1, h2 => by
    obtain ⟨ha1, ha2⟩ := h a (List.mem_cons_self ..)
    obtain ⟨a', rfl⟩ : ∃ a' : Fin 5, a = ((a'.val + 1 : Nat) : Int) := ⟨⟨(a - 1).toNat, by omega⟩, by simp only; omega⟩
    obtain ⟨v', rfl⟩ : ∃ v' : Fin 5, v = ((v'.val + 1 : Nat) : Int) := ⟨⟨(v - 1).toNat, by omega⟩, by simp only; omega⟩
    obtain ⟨⟨t, ht⟩, hb⟩ := step_bit s a'
    rw [List.foldl_cons, ht, set_bits r t (fun y hy => h y (List.mem_cons_of_mem _ hy)) _ h1 h2, ← ht, hb v', List.any_cons, Bool.or_assoc]
theorem bit_0 : ∀ v : Fin 5, bit 0 ((v.val + 1 : Nat) : Int) = false := by decide +kernel
theorem verbs_in {rv : List Int} : ∀ {o : Option Int}, chain verbP o rv = true → ∀ v, v ∈ rv → 1 ≤ v ∧ v ≤ 5 := by
  induction rv with
  | nil => intro o _ v hv; cases hv
  | cons a r ih =>
    intro o h v hv
    simp only [chain, verbP, Bool.and_eq_true, ile, decide_eq_true_eq] at h
    rcases List.mem_cons.1 hv with e | e
    · exact e ▸ h.1.1
    · exact ih h.2 v e
theorem ruleOk_verbs {r : GateRule} (h : ruleOk r = true) : ∀ v, v ∈ r.Verbs → 1 ≤ v ∧ v ≤ 5 := by
  simp only [ruleOk, Bool.and_eq_true] at h
  exact verbs_in h.2.2.2.2.1
theorem iconv_v {v : Int} (h1 : 1 ≤ v) (h2 : v ≤ 5) : ile 0 (iconv .u64 v) = true := by
  obtain ⟨v', rfl⟩ : ∃ v' : Fin 5, v = ((v'.val + 1 : Nat) : Int) := ⟨⟨(v - 1).toNat, by omega⟩, by simp only; omega⟩
  revert v'
  decide +kernel
theorem setOf_e {k : Nat} {vs : List Int} (hk : 4194304 ≤ k) (hl : vs.length ≤ 1048576) (hv : ∀ v, v ∈ vs → 1 ≤ v ∧ v ≤ 5) : impl_setOf k vs = some (vs.foldl setStep 0) := by
  unfold impl_setOf
  simp only [share]
  refine loop_fold (S := Int) (x := vs) (f := setStep) (B := 0) (l := fun k s i => iter (ts := impl_setOf_L3_ts) (R := Int) k (impl_setOf_L3 fun v => some v) s vs (vs.length : Int) i) (J := fun s => some s) (fun _ _ => True)
    (fun k s _ => by simp only [iter, impl_setOf_L3, ilt_e, cond_false] <;> rfl)
    (fun k i s hi _ _ => ⟨by
      obtain ⟨h1, h2⟩ := hv _ (mem_i hi)
      simp only [iter, impl_setOf_L3, share, ilt_n hi, inb_n hi, cond_true, req_t, nth_i hi, ile_t (show (0 : Int) ≤ vs[i] by omega), ilt_t (show vs[i] < (16 : Int) by omega), iconv_v h1 h2]
      rw [iadd_n hl hi]; rfl, trivial⟩) k 0 (by omega) trivial
theorem implHas_e {k : Nat} {r : GateRule} {v : Int} (hk : 4194304 ≤ k) (hr : r.sd) (ho : ruleOk r = true) (h1 : 1 ≤ v) (h2 : v ≤ 5) : ((impl_setOf k r.Verbs).bind fun s => impl_verbSet_has k s v) = some (hasV r v) := by
  rw [setOf_e hk hr.1.1 (ruleOk_verbs ho)]
  unfold impl_verbSet_has
  have hb := set_bits r.Verbs 0 (ruleOk_verbs ho) v h1 h2
  have h0 : bit 0 v = false := by
    obtain ⟨v', rfl⟩ : ∃ v' : Fin 5, v = ((v'.val + 1 : Nat) : Int) := ⟨⟨(v - 1).toNat, by omega⟩, by simp only; omega⟩
    exact bit_0 v'
  simp only [Option.bind_some, ile_t (show (0 : Int) ≤ v by omega), ilt_t (show v < (16 : Int) by omega), iconv_v h1 h2, cond_true, req_t]
  have hb' : bit (r.Verbs.foldl setStep 0) v = hasV r v := by
    have : bit (r.Verbs.foldl setStep 0) v = (bit 0 v || r.Verbs.any fun y => ieq y v) := hb
    rw [this, h0, Bool.false_or]; rfl
  rw [← hb']; rfl

/-! ### Beginnings; being under a team -/

def begins (x p : List UInt8) : Bool := ile (p.length : Int) (x.length : Int) && seq (subl x 0 (p.length : Int)) p
theorem beg_e (x p : List UInt8) : cond (ile (p.length : Int) (x.length : Int)) (req (subB 0 (p.length : Int) x.length) (some (seq (subl x 0 (p.length : Int)) p))) (some false) = some (begins x p) := by
  unfold begins
  cases h : ile (p.length : Int) (x.length : Int) with
  | false => rfl
  | true =>
    simp only [ile, decide_eq_true_eq] at h
    have hs : subB 0 (p.length : Int) x.length = true := by simp [subB]; omega
    rw [hs]; rfl
theorem specBegins_e (k : Nat) (x p : List UInt8) : spec_l4Begins k x p = some (begins x p) := beg_e x p
theorem implBegins_e (k : Nat) (x p : List UInt8) : strings_HasPrefix k x p = some (begins x p) := by
  show (stringslite_HasPrefix k x p).bind (fun v => some v) = _
  have : stringslite_HasPrefix k x p = some (begins x p) := beg_e x p
  rw [this]; rfl
def underN (x : List GateTeam) : Nat → Nm → Nm → Bool
  | 0, a, b => seq a b
  | m + 1, a, b => seq a b || (!seq (overN x a) [] && underN x m (overN x a) b)
theorem specUnder_e {k : Nat} {x : List GateTeam} {a b : Nm} (hk : 4194304 * 2 ≤ k) (hx : x.length ≤ 1048576) : spec_GateUnder k x a b = some (underN x 4 a b) := by
  have go : ∀ (m j k : Nat) (a : Nm), j + m = 4 → 4194304 + m + 1 ≤ k → cond (seq a b) (some true) (iter (ts := spec_GateUnder_L4_ts) (R := Bool) k (spec_GateUnder_L4 (some false)) x a b (j : Int)) = some (underN x m a b) := by
    intro m
    induction m with
    | zero =>
      intro j k a h hk
      obtain rfl : j = 4 := by omega
      obtain ⟨k, rfl⟩ : ∃ q, k = q + 1 := ⟨k - 1, by omega⟩
      simp only [iter, spec_GateUnder_L4, underN, ilt_f (show ¬ ((4 : Nat) : Int) < (4 : Int) by omega)]
      cases seq a b <;> rfl
    | succ m ih =>
      intro j k a h hk
      obtain ⟨k, rfl⟩ : ∃ q, k = q + 1 := ⟨k - 1, by omega⟩
      have h1 := ih (j + 1) k (overN x a) (by omega) (by omega)
      simp only [iter, spec_GateUnder_L4, underN, ilt_t (show ((j : Nat) : Int) < (4 : Int) by omega), cond_true, l4Over_e (show 4194304 ≤ k by omega) hx, Option.bind_some, iadd_n (n := 4) (by omega) (show j < 4 by omega)]
      cases seq a b with
      | true => rfl
      | false =>
        cases seq (overN x a) [] with
        | true => rfl
        | false => exact h1
  exact go 4 0 k a (by omega) (by omega)
theorem implUnder_e {k : Nat} {x : List GateTeam} {a b : Nm} (hk : 4194304 * 2 ≤ k) (hx : x.length ≤ 1048576) : impl_GateUnder k x a b = some (underN x 4 a b) := by
  have go : ∀ (m j k : Nat) (a : Nm), j + m = 4 → 4194304 + m + 1 ≤ k → iter (ts := impl_GateUnder_L2_ts) (R := Bool) k (impl_GateUnder_L2 (some true)) x a b (j : Int) = some (underN x m a b) := by
    intro m
    induction m with
    | zero =>
      intro j k a h hk
      obtain rfl : j = 4 := by omega
      obtain ⟨k, rfl⟩ : ∃ q, k = q + 1 := ⟨k - 1, by omega⟩
      simp only [iter, impl_GateUnder_L2, share, underN, teamOf_e (show 4194304 ≤ k by omega) hx, Option.bind_some, show ieq ((4 : Nat) : Int) 4 = true from rfl]
      cases seq a b <;> rfl
    | succ m ih =>
      intro j k a h hk
      obtain ⟨k, rfl⟩ : ∃ q, k = q + 1 := ⟨k - 1, by omega⟩
      have hj : ieq (j : Int) 4 = false := by simp only [ieq, beq_eq_false_iff_ne]; omega
      have h1 := ih (j + 1) k (overN x a) (by omega) (by omega)
      simp only [iter, impl_GateUnder_L2, share, underN, teamOf_e (show 4194304 ≤ k by omega) hx, Option.bind_some, hj]
      cases seq a b with
      | true => rfl
      | false =>
        simp only [Bool.not_false, cond_true, cond_false, Bool.false_or]
        rcases gidx_find (fun t : GateTeam => seq t.Name a) x with ⟨k1, k2⟩ | ⟨q, hq, k1, k2, _⟩
        · have e : overN x a = [] := by simp only [overN, teamN, k2]
          rw [k1, e]; rfl
        · have e : overN x a = x[q].Over := by simp only [overN, teamN, k2]
          rw [k1, ilt_f (by omega), inb_n hq, nth_i hq, e]
          rw [e] at h1
          simp only [cond_false, req_t]
          cases seq x[q].Over [] with
          | true => rfl
          | false =>
            simp only [cond_false, iadd_n (n := 4) (by omega) (show j < 4 by omega)]
            exact h1
  exact go 4 0 k a (by omega) (by omega)

/-! ### A rule is wider at a verb -/

def wideN (x : List GateTeam) (r q : GateRule) (v : Int) : Bool := hasV r v && ((seq r.Kind [] || seq r.Kind q.Kind) && ((seq r.Team [] || (!seq q.Team [] && underN x 4 q.Team r.Team)) && begins q.Prefix r.Prefix))
theorem implWider_e {k : Nat} {x : List GateTeam} {r q : GateRule} {v : Int} (hk : 4194304 * 2 ≤ k) (hx : x.length ≤ 1048576) (hr : r.sd) (ho : ruleOk r = true) (h1 : 1 ≤ v) (h2 : v ≤ 5) : impl_GateRule_wider k r x q v = some (wideN x r q v) := by
  have hh := implHas_e (k := k) (by omega) hr ho h1 h2
  unfold impl_GateRule_wider wideN
  have hb : ∀ f : Bool → Option Bool, ((impl_setOf k r.Verbs).bind fun s => (impl_verbSet_has k s v).bind f) = f (hasV r v) := fun f => by
    have : ((impl_setOf k r.Verbs).bind fun s => (impl_verbSet_has k s v).bind f) = ((impl_setOf k r.Verbs).bind fun s => impl_verbSet_has k s v).bind f := by
      cases impl_setOf k r.Verbs <;> rfl
    rw [this, hh]; rfl
  rw [hb]
  simp only [implBegins_e, implUnder_e hk hx, Option.bind_some]
  cases hasV r v <;> cases seq r.Kind [] <;> cases seq r.Kind q.Kind <;> cases seq r.Team [] <;> cases seq q.Team [] <;> cases underN x 4 q.Team r.Team <;> rfl

/-- The first verb that is lacking; 0 if none is. -/
def lacksN (x : List GateTeam) (rs : List GateRule) (q : GateRule) : Int := (q.Verbs.find? fun v => !rs.any fun r => wideN x r q v).getD 0
theorem specLacks_e {k : Nat} {x : List GateTeam} {rs : List GateRule} {q : GateRule} (hk : 4194304 * 4 ≤ k) (hx : x.length ≤ 1048576) (hr : sdS GateRule.sd rs) (hq : q.sd) : spec_l4Lacks k x rs q = some (lacksN x rs q) := by
  have inner : ∀ (J : List GateTeam → List GateRule → GateRule → Int → Bool → Option Int) (j : Nat) (hj : j < q.Verbs.length) (k : Nat), 4194304 * 3 ≤ k →
      iter (ts := spec_l4Lacks_L6_ts) (R := Int) k (spec_l4Lacks_L6 J) x rs q (j : Int) false (0 : Int) = J x rs q (j : Int) (rs.any fun r => wideN x r q q.Verbs[j]) := by
    intro J j hj k hk
    have h := loop_fold (R := Option Int) (S := Bool) (x := rs) (f := fun b r => b || wideN x r q q.Verbs[j]) (B := 4194304 * 2) (l := fun k b i => iter (ts := spec_l4Lacks_L6_ts) (R := Int) k (spec_l4Lacks_L6 J) x rs q (j : Int) b i) (J := fun b => J x rs q (j : Int) b) (fun _ _ => True)
      (fun k b _ => by simp only [iter, spec_l4Lacks_L6, ilt_e, cond_false] <;> rfl)
      (fun k i b hi hb _ => ⟨by
        simp only [iter, spec_l4Lacks_L6, share, ilt_n hi, inb_n hi, inb_n hj, cond_true, req_t, nth_i hi, nth_i hj, specVerb_e (show 4194304 ≤ k by omega) (hr.2 _ (mem_i hi)), specBegins_e, specUnder_e hb hx, Option.bind_some, iadd_n hr.1 hi, wideN]
        cases hasV rs[i] q.Verbs[j] <;> cases seq rs[i].Kind [] <;> cases seq rs[i].Kind q.Kind <;> cases seq rs[i].Team [] <;> cases seq q.Team [] <;> cases underN x 4 q.Team rs[i].Team <;> cases begins q.Prefix rs[i].Prefix <;> cases b <;> rfl, trivial⟩) k false (by have := hr.1; omega) trivial
    refine h.trans ?_
    have e : ∀ (y : List GateRule) (b : Bool), y.foldl (fun b r => b || wideN x r q q.Verbs[j]) b = (b || y.any fun r => wideN x r q q.Verbs[j]) := by
      intro y
      induction y with
      | nil => intro b; simp
      | cons a r ih => intro b; rw [List.foldl_cons, ih, List.any_cons, Bool.or_assoc]
    rw [e]; rfl
  unfold spec_l4Lacks
  have h := loop_find (R := Option Int) (x := q.Verbs) (p := fun v => !rs.any fun r => wideN x r q v) (B := 4194304 * 3) (l := fun k i => iter (ts := spec_l4Lacks_L2_ts) (R := Int) k (spec_l4Lacks_L2 (some 0)) x rs q i) (E := some 0) (O := fun v => some v)
    (fun k => by simp only [iter, spec_l4Lacks_L2, ilt_e, cond_false] <;> rfl)
    (fun k i hi hb => by
      simp only [iter, spec_l4Lacks_L2, share, ilt_n hi, cond_true]
      refine (inner _ i hi k hb).trans ?_
      simp only [inb_n hi, nth_i hi, req_t, iadd_n hq.1.1 hi] <;> rfl) k (by have := hq.1.1; omega)
  simp only [share]
  refine h.trans ?_
  unfold lacksN
  cases q.Verbs.find? fun v => !rs.any fun r => wideN x r q v <;> rfl
theorem implLacks_e {k : Nat} {x : List GateTeam} {rs : List GateRule} {q : GateRule} (hk : 4194304 * 4 ≤ k) (hx : x.length ≤ 1048576) (hr : sdS GateRule.sd rs) (hq : q.sd) (ho : rs.all ruleOk = true) (hoq : ruleOk q = true) : impl_bare k x rs q = some (lacksN x rs q) := by
  have inner : ∀ (J1 : List GateTeam → List GateRule → GateRule → List Int → Int → Int → Option Int) (J2 : Int → Option Int) (l : List Int) (n j : Int) (v : Int) (h1 : 1 ≤ v) (h2 : v ≤ 5) (k : Nat), 4194304 * 3 ≤ k →
      iter (ts := impl_bare_L5_ts) (R := Int) k (impl_bare_L5 J1 J2) x rs q v l n j rs (rs.length : Int) (0 : Int) = cond (rs.any fun r => wideN x r q v) (J1 x rs q l n j) (J2 v) := by
    intro J1 J2 l n j v h1 h2 k hk
    exact loop_any (R := Option Int) (x := rs) (p := fun r => wideN x r q v) (B := 4194304 * 2) (l := fun k i => iter (ts := impl_bare_L5_ts) (R := Int) k (impl_bare_L5 J1 J2) x rs q v l n j rs (rs.length : Int) i) (E := J2 v) (O := J1 x rs q l n j)
      (fun k => by simp only [iter, impl_bare_L5, ilt_e, cond_false] <;> rfl)
      (fun k i hi hb => by
        simp only [iter, impl_bare_L5, ilt_n hi, inb_n hi, cond_true, req_t, nth_i hi, implWider_e hb hx (hr.2 _ (mem_i hi)) (List.all_eq_true.1 ho _ (mem_i hi)) h1 h2, Option.bind_some, iadd_n hr.1 hi] <;> rfl) k (by have := hr.1; omega)
  unfold impl_bare
  have h := loop_find (R := Option Int) (x := q.Verbs) (p := fun v => !rs.any fun r => wideN x r q v) (B := 4194304 * 3) (l := fun k i => iter (ts := impl_bare_L2_ts) (R := Int) k (impl_bare_L2 (some 0)) x rs q q.Verbs (q.Verbs.length : Int) i) (E := some 0) (O := fun v => some v)
    (fun k => by simp only [iter, impl_bare_L2, ilt_e, cond_false] <;> rfl)
    (fun k i hi hb => by
      obtain ⟨h1, h2⟩ := ruleOk_verbs hoq _ (mem_i hi)
      rw [← nth_i (d := (0 : Int)) hi] at h1 h2
      simp only [iter, impl_bare_L2, share, ilt_n hi, inb_n hi, cond_true]
      refine (inner _ _ _ _ _ _ h1 h2 k hb).trans ?_
      rw [iadd_n hq.1.1 hi, nth_i hi]
      cases rs.any fun r => wideN x r q q.Verbs[i] <;> rfl) k (by have := hq.1.1; omega)
  simp only [share]
  refine h.trans ?_
  unfold lacksN
  cases q.Verbs.find? fun v => !rs.any fun r => wideN x r q v <;> rfl

end Go.Proofs.YtnhkbghbllbknaaDoor.Pu
