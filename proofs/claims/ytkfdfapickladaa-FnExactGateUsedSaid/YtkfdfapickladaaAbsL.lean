/- A region whose order Go leaves open, the second part: the theorem. No condition. -/
import Derived.Test.YtkfdfapickladaaAbsK
namespace Go.Proofs.Ytkfdfapickladaa.Abs
open Go Go.RowKit

variable {w w' w'' : World} {F F' F'' : Nat → Prop} {μ μ' μ'' : Nat → Nat} {K K' K'' : Nat → Prop} {H H' H'' : Hp} {P : Program}

/-- Record e, of operation o, number i, is right: q: the records ahead of it. -/
structure CertI (P : Program) (ops : List Oper) (B : Array Nat) (tch : List (Nat × List Nat)) (s : SSt) (q : List RE) (e : RE) (o : Oper) : Prop where
  d : e.d = o.dst
  ok : okDst s o.dst = true
  run : (wantA ⟨ops⟩ (maskS s ops B tch q e.N) o = some false ∧ e.v = .lit undef ∧ e.up = [] ∧ e.k = 0) ∨
    (wantA ⟨ops⟩ (maskS s ops B tch q e.N) o = some true ∧ ∃ v, OpOk P o (maskS s ops B tch q e.N) ⟨v, e.up, List.range' e.N e.k⟩ ∧
      (∀ w F μ K u, VR w F μ K v u → VR w F μ K e.v u) ∧ ∀ id, id ∈ e.up.map (·.1) → id ∈ tchOf tch q.length)

/-- The windows of new numbers stand one behind the other. -/
def wfN (N0 : Nat) : List RE → Nat → Prop
  | [], N => N = N0
  | e :: r, N => wfN N0 r e.N ∧ N = e.N + e.k

theorem wfN_lt {N0 : Nat} {D : Nat → Bool} : ∀ {rs : List RE} {N id : Nat}, wfN N0 rs N → kD D N0 rs id → id < N
  | [], N, id, h, hk => by simp only [wfN] at h; subst h; exact hk
  | e :: r, N, id, h, hk => by
    obtain ⟨h1, rfl⟩ := h
    rcases hk with hk | ⟨_, _, hk⟩
    · have := wfN_lt h1 hk; omega
    · exact hk
theorem wfN_le {N0 : Nat} {i : Nat} {e : RE} : ∀ {rs : List RE} {N : Nat}, wfN N0 rs N → reAt rs i = some e → e.N + e.k ≤ N
  | [], N, _, h => by cases h
  | x :: r, N, h, hr => by
    obtain ⟨h1, rfl⟩ := h
    simp only [reAt] at hr
    split at hr
    · cases hr; exact Nat.le_refl _
    · have := wfN_le h1 hr; omega
theorem wfN_fresh {N0 : Nat} {D : Nat → Bool} {i : Nat} {e : RE} (hi : D i = false) : ∀ {rs : List RE} {N id : Nat}, wfN N0 rs N → reAt rs i = some e → kD D N0 rs id → ¬ (e.N ≤ id ∧ id < e.N + e.k)
  | [], N, id, _, h, _ => by cases h
  | x :: r, N, id, h, hr, hk => by
    obtain ⟨h1, rfl⟩ := h
    simp only [reAt] at hr
    split at hr
    · rename_i hl
      cases hr
      subst hl
      rcases hk with hk | ⟨hd, _⟩
      · have := wfN_lt h1 hk; omega
      · rw [hi] at hd; cases hd
    · rcases hk with hk | ⟨_, hk, _⟩
      · exact wfN_fresh hi h1 hr hk
      · have := wfN_le h1 hr; omega
theorem wfN_all {N0 : Nat} {D : Nat → Bool} : ∀ {rs : List RE} {N : Nat}, wfN N0 rs N → (∀ j, j < rs.length → D j = true) → ∀ id, kD D N0 rs id ↔ id < N
  | [], N, h, _, id => by simp only [wfN] at h; subst h; exact Iff.rfl
  | e :: r, N, h, hd, id => by
    obtain ⟨h1, rfl⟩ := h
    simp only [kD]
    rw [wfN_all h1 (fun j hj => hd j (by simp; omega)), hd r.length (by simp)]
    simp only [true_and]
    omega

theorem evD_ok {ops : List Oper} {B : Array Nat} {tch : List (Nat × List Nat)} {ds : List (Nat × Bool)} {s : SSt} : ∀ (l : List Oper) (q : List RE) (cs : List CallR) (N : Nat) (r : Evd), evD P ops B tch ds s l q cs N = some r → AllP r.ob → CallsOk P cs → wfN s.N q N →
    wfN s.N r.rs r.N ∧ r.rs.length = q.length + l.length ∧ Suf q r.rs ∧ ∀ i o, l[i]? = some o → ∃ e q', reAt r.rs (q.length + i) = some e ∧ q'.length = q.length + i ∧ Suf q' r.rs ∧ CertI P ops B tch s q' e o
  | [], q, cs, N, r, h, _, _, hw => by
    cases h
    exact ⟨hw, rfl, ⟨[], rfl⟩, fun i o ho => by simp at ho⟩
  | o :: rest, q, cs, N, r, h, ho, hc, hw => by
    have fin : ∀ (e : RE) (r' : Evd), CertI P ops B tch s q e o → (wfN s.N r'.rs r'.N ∧ r'.rs.length = (e :: q).length + rest.length ∧ Suf (e :: q) r'.rs ∧ ∀ i o, rest[i]? = some o → ∃ e' q', reAt r'.rs ((e :: q).length + i) = some e' ∧ q'.length = (e :: q).length + i ∧ Suf q' r'.rs ∧ CertI P ops B tch s q' e' o) →
        wfN s.N r'.rs r'.N ∧ r'.rs.length = q.length + (o :: rest).length ∧ Suf q r'.rs ∧ ∀ i o', (o :: rest)[i]? = some o' → ∃ e q', reAt r'.rs (q.length + i) = some e ∧ q'.length = q.length + i ∧ Suf q' r'.rs ∧ CertI P ops B tch s q' e o' := by
      rintro e r' hcert ⟨h1, h2, ⟨p, hp⟩, h4⟩
      have hs : Suf q r'.rs := ⟨p ++ [e], by rw [hp]; simp⟩
      refine ⟨h1, by rw [h2]; simp; omega, hs, fun i o' hi => ?_⟩
      cases i with
      | zero =>
        simp only [List.getElem?_cons_zero, Option.some.injEq] at hi
        subst hi
        refine ⟨e, q, ?_, rfl, hs, hcert⟩
        rw [hp, Nat.add_zero, reAt_suf (by simp)]
        simp [reAt]
      | succ i =>
        obtain ⟨e', q', k1, k2, k3, k4⟩ := h4 i o' (by simpa using hi)
        have e1 : (e :: q).length + i = q.length + (i + 1) := by simp; omega
        exact ⟨e', q', e1 ▸ k1, e1 ▸ k2, k3, k4⟩
    simp only [evD] at h
    split at h
    · rename_i hd
      split at h
      · cases h
      · rename_i hwt
        exact fin _ r ⟨rfl, hd, .inl ⟨hwt, rfl, rfl, rfl⟩⟩ (evD_ok rest _ cs N r h ho hc ⟨hw, rfl⟩)
      · rename_i hwt
        split at h
        · cases h
        · rename_i e he
          split at h
          · rename_i hall
            split at h
            · cases h
            · rename_i r' hr'
              cases h
              obtain ⟨h1, h2⟩ := evO_ok he ho.app.1 hc
              refine fin _ r' ⟨rfl, hd, .inr ⟨hwt, e.v, h1, fun w F μ K u hu => decA_ok ho.app.2.app.1 hu, fun id hid => ?_⟩⟩ (evD_ok rest _ e.cs _ r' hr' ho.app.2.app.2 h2 ⟨hw, rfl⟩)
              simp only [List.all_eq_true] at hall
              obtain ⟨p, hp, rfl⟩ := List.mem_map.1 hid
              have := hall p hp
              simp only [List.any_eq_true] at this
              obtain ⟨x, hx, hxe⟩ := this
              rw [← Nat.eq_of_beq_eq_true hxe]; exact hx
          · cases h
    · cases h

/-! ### What the static look gives -/

theorem go1_spec {ops : List Oper} {B : Array Nat} : ∀ {l : List Oper} {i0 : Nat}, statOk.go1 ops B i0 l = true → ∀ i o, l[i]? = some o →
    (∀ e, e ∈ o.after → Region.binds .any e = true → e.on < i0 + i) ∧ B.getD (i0 + i) 0 < 2 ^ (i0 + i) ∧ statOk.go3 B (i0 + i) o.after.toList (i0 + i) = true ∧ statOk.go2 B (i0 + i) o 0 ops = true
  | [], i0, _, i, o, h => by simp at h
  | x :: r, i0, hg, i, o, h => by
    simp only [statOk.go1, Bool.and_eq_true] at hg
    obtain ⟨⟨⟨⟨h1, h2⟩, h3⟩, h4⟩, h5⟩ := hg
    cases i with
    | zero =>
      simp only [List.getElem?_cons_zero, Option.some.injEq] at h
      subst h
      refine ⟨fun e he hb => ?_, Nat.le_of_ble_eq_true h2, h3, h4⟩
      simp only [List.all_eq_true] at h1
      have := h1 e (by simpa using he)
      rw [hb] at this
      exact Nat.le_of_ble_eq_true this
    | succ i =>
      have := go1_spec h5 i o (by simpa using h)
      rwa [show i0 + 1 + i = i0 + (i + 1) by omega] at this
theorem go2_spec {B : Array Nat} {i : Nat} {o : Oper} : ∀ {l : List Oper} {j0 : Nat}, statOk.go2 B i o j0 l = true → ∀ j p, l[j]? = some p → j0 + j < i → ∀ t, o.dst = some t → p.dst = some t → bit B i (j0 + j) = true
  | [], j0, _, j, p, h => by simp at h
  | x :: r, j0, hg, j, p, h => by
    simp only [statOk.go2, Bool.and_eq_true] at hg
    intro hj t ht hp
    cases j with
    | zero =>
      simp only [List.getElem?_cons_zero, Option.some.injEq] at h
      subst h
      have := hg.1
      rw [ht] at this
      simp only [Nat.add_zero] at hj ⊢
      have h1 : j0.blt i = true := Nat.ble_eq_true_of_le hj
      rw [h1] at this
      have h2 : isD x.dst t = true := isD_iff.2 hp
      simp only [h2] at this
      simpa using this
    | succ j =>
      have := go2_spec hg.2 j p (by simpa using h) (by omega) t ht hp
      rwa [show j0 + 1 + j = j0 + (j + 1) by omega] at this
theorem go3_spec {B : Array Nat} {i : Nat} {es : List Edge} : ∀ {m : Nat}, statOk.go3 B i es m = true → ∀ j, j < m → bit B i j = true → ∃ e, e ∈ es ∧ Region.binds .any e = true ∧ (e.on = j ∨ bit B e.on j = true)
  | 0, _, j, hj, _ => by omega
  | m + 1, h, j, hj, hb => by
    simp only [statOk.go3, Bool.and_eq_true] at h
    by_cases e : j = m
    · subst e
      have := h.1
      rw [hb] at this
      simp only [Bool.not_true, Bool.false_or, List.any_eq_true, Bool.and_eq_true, Bool.or_eq_true] at this
      obtain ⟨e, h1, h2, h3⟩ := this
      exact ⟨e, h1, h2, h3.imp Nat.eq_of_beq_eq_true id⟩
    · exact go3_spec h.2 j (by omega) hb

theorem bit_lt {B : Array Nat} {i j : Nat} (h : B.getD i 0 < 2 ^ i) (hb : bit B i j = true) : j < i := by
  rcases Nat.lt_or_ge j i with h1 | h1
  · exact h1
  · have := Nat.testBit_lt_two_pow (Nat.lt_of_lt_of_le h (Nat.pow_le_pow_right (by omega) h1))
    unfold bit at hb
    rw [this] at hb; cases hb

theorem tchOf_mem {tch : List (Nat × List Nat)} {i id : Nat} (h : id ∈ tchOf tch i) : ∃ p, p ∈ tch ∧ p.1 = i ∧ id ∈ p.2 := by
  induction tch with
  | nil => cases h
  | cons p r ih =>
    obtain ⟨j, l⟩ := p
    simp only [tchOf] at h
    split at h
    · rename_i e
      exact ⟨(j, l), by simp, (Nat.eq_of_beq_eq_true e).symm, h⟩
    · obtain ⟨p, h1, h2, h3⟩ := ih h
      exact ⟨p, by simp [h1], h2, h3⟩

theorem hidT_false {B : Array Nat} {i t : Nat} : ∀ {l : List Oper} {j0 : Nat}, hidT B i t j0 l = false → ∀ j o, l[j]? = some o → o.dst = some t → inc B i (j0 + j) = false
  | [], j0, _, j, o, h, _ => by simp at h
  | x :: r, j0, hg, j, o, h, hd => by
    simp only [hidT, Bool.or_eq_false_iff] at hg
    cases j with
    | zero =>
      simp only [List.getElem?_cons_zero, Option.some.injEq] at h
      subst h
      have h1 := hg.1
      rw [isD_iff.2 hd] at h1
      simpa using h1
    | succ j =>
      have := hidT_false hg.2 j o (by simpa using h) hd
      rwa [show j0 + 1 + j = j0 + (j + 1) by omega] at this
theorem hidH_false {B : Array Nat} {i id : Nat} : ∀ {tch : List (Nat × List Nat)}, hidH B i id tch = false → ∀ p, p ∈ tch → id ∈ p.2 → inc B i p.1 = false
  | [], _, p, hp, _ => by cases hp
  | (j, l) :: r, hg, p, hp, hid => by
    simp only [hidH, Bool.or_eq_false_iff] at hg
    rcases List.mem_cons.1 hp with e | e
    · subst e
      have h1 := hg.1
      have h2 : (l.any fun x => Nat.beq x id) = true := List.any_eq_true.2 ⟨id, hid, by simp⟩
      rw [h2] at h1
      simpa using h1
    · exact hidH_false hg.2 p e hid

/-! ### Whatever the order -/

/-- The look at a region that draws: what it comes to. -/
def evDraw (P : Program) (ops : List Oper) (B : Array Nat) (tch : List (Nat × List Nat)) (ds : List (Nat × Bool)) (s : SSt) (cs : List CallR) : Evs :=
  if statOk ops B tch then (match evD P ops B tch ds s ops [] cs s.N with
    | some r => ⟨⟨s.nt, r.N, ovT (fun _ => true) s.tm r.rs, ovH (fun _ => true) s.H r.rs⟩, r.ob, r.cs⟩
    | none => ⟨s, [False], cs⟩) else ⟨s, [False], cs⟩

def lst (listed : Array Bool) : Nat → Bool := fun j => listed.getD j false

theorem lst_more {listed : Array Bool} {i : Nat} (hi : i < listed.size) : lst (listed.setIfInBounds i true) = more (lst listed) i := by
  funext j
  simp only [lst, more]
  by_cases e : j = i
  · subst e; simp [hi]
  · rw [if_neg e, getD_set_ne false (Ne.symm e)]

def unl (listed : Array Bool) : Nat := listed.toList.countP (fun b => !b)

theorem countP_set : ∀ (l : List Bool) (i : Nat), l[i]? = some false → l.countP (fun b => !b) = (l.set i true).countP (fun b => !b) + 1
  | [], i, h => by simp at h
  | x :: l, 0, h => by
    simp only [List.getElem?_cons_zero, Option.some.injEq] at h
    subst h
    simp
  | x :: l, i + 1, h => by
    have ih := countP_set l i (by simpa using h)
    simp only [List.set_cons_succ, List.countP_cons, ih]
    omega
theorem unl_set {listed : Array Bool} {i : Nat} (hi : i < listed.size) (hf : lst listed i = false) : unl listed = unl (listed.setIfInBounds i true) + 1 := by
  unfold unl
  have h1 : listed.toList[i]? = some false := by
    simp only [lst] at hf
    simp [hi] at hf ⊢
    exact hf
  rw [Array.toList_setIfInBounds]
  exact countP_set _ _ h1

theorem draw_any {ops : List Oper} {B : Array Nat} {tch : List (Nat × List Nat)} {s : SSt} {rs : List RE} {N : Nat} {Q : Exit → Act → World → Prop} (hst : statOk ops B tch = true) (hwf : wfN s.N rs N) (hlen : rs.length = ops.length)
    (hcert : ∀ i o, ops[i]? = some o → ∃ e q, reAt rs i = some e ∧ q.length = i ∧ Suf q rs ∧ CertI P ops B tch s q e o) {w0 : World} {F0 : Nat → Prop} {μ0 : Nat → Nat}
    (hQ : ∀ w F μ a, SR w F μ (below N) ⟨s.nt, N, ovT (fun _ => true) s.tm rs, ovH (fun _ => true) s.H rs⟩ a → Fr w0 F0 μ0 (below s.N) s.H w F μ (below N) (ovH (fun _ => true) s.H rs) → Q .normal a w) :
    ∀ (fuel : Nat) (listed : Array Bool) (a : Act) (w : World) (F : Nat → Prop) (μ : Nat → Nat), listed.size = ops.length → unl listed = fuel → (∀ i, lst listed i = true → ∀ j, bit B i j = true → lst listed j = true) →
      SR w F μ (kD (lst listed) s.N rs) (Js s rs (lst listed)) a → Fr w0 F0 μ0 (below s.N) s.H w F μ (kD (lst listed) s.N rs) (ovH (lst listed) s.H rs) → wpAny P .any ⟨ops⟩ Q fuel listed a w := by
  simp only [statOk, Bool.and_eq_true] at hst
  obtain ⟨hst1, hst2⟩ := hst
  have st := fun i o ho => go1_spec hst1 i o ho
  simp only [Nat.zero_add] at st
  intro fuel
  induction fuel with
  | zero =>
    intro listed a w F μ hsz hun hcl hs hf
    have hall : ∀ j, j < ops.length → lst listed j = true := by
      intro j hj
      cases h : lst listed j with
      | true => rfl
      | false => have := unl_set (hsz ▸ hj) h; omega
    refine ⟨?_, ?_⟩
    · unfold Region.ready
      rw [List.filter_eq_nil_iff]
      intro j hj
      have hj : j < ops.length := by simpa using hj
      have h1 : listed.getD j true = true := by
        have := hall j hj
        simp only [lst] at this
        have hlt : j < listed.size := hsz ▸ hj
        simp [hlt] at this ⊢
        exact this
      rw [h1]; simp
    · have hk : kD (lst listed) s.N rs = below N := by
        funext id
        exact propext (wfN_all hwf (fun j hj => hall j (hlen ▸ hj)) id)
      have hT : ovT (lst listed) s.tm rs = ovT (fun _ => true) s.tm rs := funext fun t => ovT_congr fun j e hj _ => hall j (by have := reAt_lt hj; omega)
      have hH : ovH (lst listed) s.H rs = ovH (fun _ => true) s.H rs := funext fun t => ovH_congr fun j e hj _ => hall j (by have := reAt_lt hj; omega)
      rw [hk, hH] at hf
      have hs2 : SR w F μ (below N) ⟨s.nt, N, ovT (fun _ => true) s.tm rs, ovH (fun _ => true) s.H rs⟩ a := by
        rw [← hk, ← hT, ← hH]
        exact { hr := hs.hr, nt := hs.nt, tm := hs.tm, df := hs.df }
      exact hQ w F μ a hs2 hf
  | succ fuel ih =>
    intro listed a w F μ hsz hun hcl hs hf
    refine ⟨fun hnil => ?_, fun i hi => ?_⟩
    · -- something may come up
      exfalso
      have key : ∀ m, m ≤ ops.length → ∀ j, j < m → lst listed j = true := by
        intro m
        induction m with
        | zero => intro _ j hj; omega
        | succ m ihm =>
          intro hm j hj
          rcases Nat.lt_or_ge j m with h | h
          · exact ihm (by omega) j h
          · have hjm : j = m := by omega
            subst hjm
            cases hl : lst listed j with
            | true => rfl
            | false =>
              exfalso
              have hjo : j < ops.length := by omega
              have hmem : j ∈ Region.ready .any ⟨ops⟩ listed := by
                rw [mem_ready]
                refine ⟨?_, ops[j], by simp [hjo], fun e he hb => ?_⟩
                · have hlt : j < listed.size := hsz ▸ hjo
                  simp only [lst] at hl
                  simp [hlt] at hl ⊢
                  exact hl
                · exact ihm (by omega) e.on ((st j ops[j] (by simp [hjo])).1 e he hb)
              rw [hnil] at hmem
              cases hmem
      have hz : unl listed = 0 := by
        unfold unl
        rw [List.countP_eq_zero]
        intro b hb
        obtain ⟨j, hj, rfl⟩ := List.mem_iff_getElem.1 hb
        have hj' : j < listed.size := by simpa using hj
        have := key ops.length (Nat.le_refl _) j (hsz ▸ hj')
        simp only [lst] at this
        simp [hj'] at this ⊢
        exact this
      omega
    · obtain ⟨hiun, o, hoi, hdeps⟩ := mem_ready.1 hi
      have hoi' : ops[i]? = some o := by simpa using hoi
      have hio : i < ops.length := (List.getElem?_eq_some_iff.1 hoi').1
      have hil : i < listed.size := hsz ▸ hio
      have hDi : lst listed i = false := by
        simp only [lst]
        simp [hil] at hiun ⊢
        exact hiun
      obtain ⟨e, q, hre, hql, ⟨p, hp⟩, hc⟩ := hcert i o hoi'
      obtain ⟨s1, s2, s3, s4⟩ := st i o hoi'
      -- what it waits for has run, and nothing that waits for it
      have hB : ∀ j, bit B i j = true → lst listed j = true := by
        intro j hb
        obtain ⟨ed, h1, h2, h3⟩ := go3_spec s3 j (bit_lt s2 hb) hb
        have h4 : lst listed ed.on = true := hdeps ed (by simpa using h1) h2
        rcases h3 with h3 | h3
        · rw [← h3]; exact h4
        · exact hcl ed.on h4 j h3
      have hnB : ∀ j, lst listed j = true → bit B j i = false := by
        intro j hj
        cases h : bit B j i with
        | false => rfl
        | true => have := hcl j hj i h; rw [hDi] at this; cases this
      have hsmall : ∀ j, q.length ≤ j → bit B q.length j = false := by
        intro j hj
        cases h : bit B q.length j with
        | false => rfl
        | true => rw [hql] at h hj; have := bit_lt s2 h; omega
      have recOp : ∀ j e', reAt rs j = some e' → ∃ o', ops[j]? = some o' ∧ e'.d = o'.dst ∧ ∀ id, id ∈ e'.up.map (·.1) → id ∈ tchOf tch j := by
        intro j e' hj
        have hjo : j < ops.length := hlen ▸ reAt_lt hj
        obtain ⟨e2, q2, k1, k2, _, k4⟩ := hcert j ops[j] (by simp [hjo])
        rw [hj] at k1
        cases k1
        refine ⟨ops[j], by simp [hjo], k4.d, fun id hid => ?_⟩
        rcases k4.run with ⟨_, _, h3, _⟩ | ⟨_, _, _, _, h4⟩
        · rw [h3] at hid; simp at hid
        · rw [← k2]; exact h4 id hid
      have eqD : ∀ j, j ≠ i → inc B i j = false → (lst listed j = bit B i j) := by
        intro j hne hinc
        simp only [inc, Bool.and_eq_false_iff, Bool.not_eq_false'] at hinc
        cases hl : lst listed j with
        | true =>
          rcases hinc with (h | h) | h
          · exact absurd (Nat.eq_of_beq_eq_true h).symm hne
          · exact h.symm
          · rw [hnB j hl] at h; cases h
        | false =>
          cases h : bit B i j with
          | false => rfl
          | true => rw [hB j h] at hl; cases hl
      have hless : Less (maskS s ops B tch q e.N) (Js s rs (lst listed)) := by
        refine ⟨rfl, fun t => ?_, fun id => ?_⟩
        · simp only [maskS, Js]
          cases hh : hidT B q.length t 0 ops with
          | true => exact .inl rfl
          | false =>
            refine .inr ?_
            simp only [cond_false]
            rw [← ovT_suf (p := p) (s0 := s.tm) (t := t) (D := bit B q.length) hsmall, ← hp]
            refine ovT_congr fun j e' hj hd => ?_
            obtain ⟨o', ho', hdo, _⟩ := recOp j e' hj
            have hinc := hidT_false hh j o' ho' (hdo ▸ hd)
            rw [Nat.zero_add, hql] at hinc
            rw [hql]
            by_cases hji : j = i
            · subst hji
              rw [hDi]
              cases h : bit B j j with
              | false => rfl
              | true => have := bit_lt s2 h; omega
            · exact (eqD j hji hinc).symm
        · simp only [maskS, Js]
          cases hh : hidH B q.length id tch with
          | true => exact .inl rfl
          | false =>
            refine .inr ?_
            simp only [cond_false]
            rw [← ovH_suf (p := p) (H0 := s.H) (id := id) (D := bit B q.length) hsmall, ← hp]
            refine ovH_congr fun j e' hj hd => ?_
            obtain ⟨o', ho', _, hto⟩ := recOp j e' hj
            obtain ⟨pp, hpp, hpj, hpid⟩ := tchOf_mem (hto id hd)
            have hinc := hidH_false hh pp hpp hpid
            rw [hpj, hql] at hinc
            rw [hql]
            by_cases hji : j = i
            · subst hji
              rw [hDi]
              cases h : bit B j j with
              | false => rfl
              | true => have := bit_lt s2 h; omega
            · exact (eqD j hji hinc).symm
      have hsm : SR w F μ (kD (lst listed) s.N rs) (maskS s ops B tch q e.N) a := hs.less hless
      -- the state behind it
      have nT : ∀ j e', reAt rs j = some e' → i < j → lst listed j = true → e'.d = e.d → e.d = none := by
        intro j e' hj hij hl hde
        cases hd : e.d with
        | none => rfl
        | some t =>
          obtain ⟨o', ho', hdo, _⟩ := recOp j e' hj
          have hb := go2_spec ((st j o' ho').2.2.2) i o hoi' (by omega) t (by rw [← hdo, hde, hd]) (by rw [← hc.d, hd])
          rw [Nat.zero_add, hnB j hl] at hb
          cases hb
      have nH : ∀ j e' id, reAt rs j = some e' → i < j → lst listed j = true → id ∈ e'.up.map (·.1) → id ∉ e.up.map (·.1) := by
        intro j e' id hj hij hl hid hid'
        obtain ⟨o', ho', _, hto⟩ := recOp j e' hj
        obtain ⟨o2, ho2, _, hto2⟩ := recOp i e hre
        obtain ⟨p1, hp1, hpj, hpid⟩ := tchOf_mem (hto id hid)
        obtain ⟨p2, hp2, hpj2, hpid2⟩ := tchOf_mem (hto2 id hid')
        simp only [List.all_eq_true] at hst2
        have h1 := hst2 p1 hp1 p2 hp2
        rw [hpj, hpj2] at h1
        have h2 : i.blt j = true := Nat.ble_eq_true_of_le hij
        have h3 : (p1.2.any fun x => p2.2.any fun y => Nat.beq x y) = true :=
          List.any_eq_true.2 ⟨id, hpid, List.any_eq_true.2 ⟨id, hpid2, by simp⟩⟩
        rw [h2, h3, hnB j hl] at h1
        cases h1
      have hun' : unl (listed.setIfInBounds i true) = fuel := by have := unl_set hil hDi; omega
      have hcl' : ∀ k, lst (listed.setIfInBounds i true) k = true → ∀ j, bit B k j = true → lst (listed.setIfInBounds i true) j = true := by
        rw [lst_more hil]
        intro k hk j hb
        simp only [more] at hk ⊢
        split
        · rfl
        · split at hk
          · rename_i hki; subst hki; exact hB j hb
          · exact hcl k hk j hb
      have goOn : ∀ (v : Value) (w' : World) (F' : Nat → Prop) (μ' : Nat → Nat), VR w' F' μ' (kD (more (lst listed) i) s.N rs) e.v v → HR w' F' μ' (kD (more (lst listed) i) s.N rs) (ovH (more (lst listed) i) s.H rs) →
          (∀ x u, VR w F μ (kD (lst listed) s.N rs) x u → VR w' F' μ' (kD (more (lst listed) i) s.N rs) x u) → Fr w0 F0 μ0 (below s.N) s.H w' F' μ' (kD (more (lst listed) i) s.N rs) (ovH (more (lst listed) i) s.H rs) →
          wpAny P .any ⟨ops⟩ Q fuel (listed.setIfInBounds i true) (a.put o.dst v) w' := by
        intro v w' F' μ' hv hr hup hf'
        refine ih _ _ _ F' μ' (by simp [hsz]) hun' hcl' ?_ ?_ <;> rw [lst_more hil]
        · refine { hr := hr, nt := ?_, tm := fun t => ?_, df := ?_ }
          · have : (a.put o.dst v).tmps.size = a.tmps.size := by cases o.dst <;> simp [Act.put]
            exact this.trans hs.nt
          · show VR w' F' μ' _ (ovT (more (lst listed) i) s.tm rs t) _
            rw [ovT_more hre nT hDi t]
            cases hd : isD e.d t with
            | true =>
              have h1 : o.dst = some t := hc.d ▸ isD_iff.1 hd
              have h2 : t < a.tmps.size := by
                have := hc.ok
                rw [h1] at this
                have := Nat.le_of_ble_eq_true this
                rw [hs.nt]; exact this
              simpa [Act.put, h1, h2] using hv
            | false =>
              have h1 : o.dst ≠ some t := fun h => by
                rw [← hc.d] at h
                rw [isD_iff.2 h] at hd; cases hd
              have h3 : (a.put o.dst v).tmps.getD t undef = a.tmps.getD t undef := by
                cases hdd : o.dst with
                | none => rfl
                | some d =>
                  have : d ≠ t := fun h => h1 (by rw [hdd, h])
                  simp [Act.put, Array.getElem?_setIfInBounds_ne this]
              rw [h3]
              exact hup _ _ (hs.tm t)
          · have : (a.put o.dst v).defers = a.defers := by cases o.dst <;> rfl
            exact this.trans hs.df
        · exact hf'
      unfold wpOp
      rw [hoi]
      simp only
      rcases hc.run with ⟨hw, hv0, hu0, hk0⟩ | ⟨hw, v0, hok, hvv, htt⟩
      · rw [wantA_ok hsm hw]
        simp only [Bool.false_eq_true, if_false]
        have eK : kD (more (lst listed) i) s.N rs = kD (lst listed) s.N rs := by
          funext id
          refine propext ((kD_more hre id).trans ⟨fun h => ?_, fun h => .inl h⟩)
          rcases h with h | ⟨h1, h2⟩
          · exact h
          · rw [hk0] at h2; omega
        have eH : ovH (more (lst listed) i) s.H rs = ovH (lst listed) s.H rs := by
          funext id
          rw [ovH_more hre nH hDi id, hu0]
          rfl
        refine goOn undef w F μ ?_ ?_ ?_ ?_
        · rw [hv0]; exact .lit _
        · rw [eK, eH]; exact hs.hr
        · rw [eK]; exact fun _ _ h => h
        · rw [eK, eH]; exact hf
      · rw [wantA_ok hsm hw]
        simp only [if_true]
        refine .inl ?_
        have hok' : OpOk P o (Js s rs (lst listed)) ⟨v0, e.up, List.range' e.N e.k⟩ := OpOk.more hok hless
        have eK : plus (kD (lst listed) s.N rs) (List.range' e.N e.k) = kD (more (lst listed) i) s.N rs := by
          funext id
          refine propext (Iff.trans ?_ (kD_more hre id).symm)
          simp only [plus, List.mem_range'_1]
        have eH : Hp.upd (ovH (lst listed) s.H rs) e.up = ovH (more (lst listed) i) s.H rs := by
          funext id
          rw [ovH_more hre nH hDi id]
          rcases Hp.upd_mem (ovH (lst listed) s.H rs) id e.up with ⟨h1, h2⟩ | ⟨h1, h2⟩
          · rw [hasId_iff.2 h1]; exact (h2 s.H).symm
          · have : hasId e.up id = false := by
              cases h : hasId e.up id with
              | false => rfl
              | true => exact absurd (hasId_iff.1 h) h1
            rw [this]; exact h2 _
        refine hok' w F μ _ a hs (fun id hid hk => ?_) _ _ fun v w' F' μ' hv hr hf' => ?_
        · simp only [List.mem_range'_1] at hid
          exact wfN_fresh hDi hwf hre hk hid
        · have hf2 : Fr w F μ (kD (lst listed) s.N rs) (ovH (lst listed) s.H rs) w' F' μ' (plus (kD (lst listed) s.N rs) (List.range' e.N e.k)) (Hp.upd (ovH (lst listed) s.H rs) e.up) := hf'
          have hr2 : HR w' F' μ' (plus (kD (lst listed) s.N rs) (List.range' e.N e.k)) (Hp.upd (ovH (lst listed) s.H rs) e.up) := hr
          rw [eK, eH] at hf2 hr2
          have hv2 := hvv _ _ _ _ _ hv
          simp only at hv2
          rw [eK] at hv2
          exact goOn v w' F' μ' hv2 hr2 (fun x u hx => hx.step hs.hr hf2) (hf.trans hf2)

/-- A region that draws its order. -/
theorem awp_draw {id : Nat} {ops : List Oper} {Q : Exit → SSt → Prop} {s : SSt} (hm : P.follows .mixedOrders = true) (B : Array Nat) (tch : List (Nat × List Nat)) (ds : List (Nat × Bool)) (cs : List CallR) (obs : List Prop)
    (he : (evDraw P ops B tch ds s cs).ob = obs) (ho : AllP obs) (hc : CallsOk P cs) (hq : Q .normal (evDraw P ops B tch ds s cs).s) : AWP P (.region id ⟨ops⟩ true) Q s := by
  intro w F μ a hs
  rw [← he] at ho
  unfold evDraw at ho hq
  split at ho
  · rename_i hst
    rw [if_pos hst] at hq
    cases hr : evD P ops B tch ds s ops [] cs s.N with
    | none => rw [hr] at ho; exact ho.1.elim
    | some r =>
      rw [hr] at ho hq
      obtain ⟨k1, k2, _, k4⟩ := evD_ok ops [] cs s.N r hr ho hc rfl
      have emp : lst (Array.replicate ops.length false) = fun _ => false := by
        funext j
        simp only [lst]
        by_cases h : j < ops.length <;> simp [h]
      have eT : ∀ q : List RE, ovT (fun _ => false) s.tm q = s.tm := fun q => by
        induction q with
        | nil => rfl
        | cons x q ih => funext t; exact congrFun ih t
      have eH : ∀ q : List RE, ovH (fun _ => false) s.H q = s.H := fun q => by
        induction q with
        | nil => rfl
        | cons x q ih => funext t; exact congrFun ih t
      have eK : ∀ q : List RE, kD (fun _ => false) s.N q = below s.N := fun q => by
        induction q with
        | nil => rfl
        | cons x q ih => funext t; simp [kD, ih]
      have hs0 : SR { w with drawn := w.drawn + 1 } F μ (below s.N) s a :=
        { hr := hs.hr.drew _, nt := hs.nt, tm := fun t => (hs.tm t).drew _, df := hs.df }
      refine wp_region_any hm ?_
      refine draw_any (rs := r.rs) (N := r.N) hst k1 (by simpa using k2) (fun i o hio => by
        obtain ⟨e, q, h1, h2, h3, h4⟩ := k4 i o hio
        exact ⟨e, q, by simpa using h1, by simpa using h2, h3, h4⟩) (w0 := w) (F0 := F) (μ0 := μ) (fun w' F' μ' a' hs' hf' => ⟨_, F', μ', hq, hs', hf'⟩) _ _ _ _ F μ (by simp) (by
          unfold unl
          simp [List.countP_replicate]) (by
          rw [show (⟨ops⟩ : Array Oper).size = ops.length from rfl, emp]; intro i hi; cases hi) ?_ ?_
      · rw [show (⟨ops⟩ : Array Oper).size = ops.length from rfl, emp, eK]
        have : Js s r.rs (fun _ => false) = s := by simp only [Js, eT, eH]
        rw [this]; exact hs0
      · rw [show (⟨ops⟩ : Array Oper).size = ops.length from rfl, emp, eK, eH]
        exact Fr.drew _ fun id hl => hs.hr.live_known hl
  · exact ho.1.elim
theorem seq_draw {id : Nat} {ops : List Oper} {y : Code} {Q : Exit → SSt → Prop} {s : SSt} (hm : P.follows .mixedOrders = true) (B : Array Nat) (tch : List (Nat × List Nat)) (ds : List (Nat × Bool)) (cs : List CallR) (obs : List Prop)
    (he : (evDraw P ops B tch ds s cs).ob = obs) (ho : AllP obs) (hc : CallsOk P cs) (hq : AWP P y Q (evDraw P ops B tch ds s cs).s) : AWP P (.seq (.region id ⟨ops⟩ true) y) Q s :=
  awp_seq (awp_draw hm B tch ds cs obs he ho hc hq)

end Go.Proofs.Ytkfdfapickladaa.Abs
