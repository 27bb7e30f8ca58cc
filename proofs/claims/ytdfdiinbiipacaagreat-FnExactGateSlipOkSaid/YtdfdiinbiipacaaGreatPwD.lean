/- The program's row: by depth. No condition. -/
import Derived.Test.YtdfdiinbiipacaaGreatPwR
namespace Go.Proofs.YtdfdiinbiipacaaGreat.Pu
open Go Go.RowKit Go.Proofs.YtdfdiinbiipacaaGreat.Abs Go.Proofs.YtdfdiinbiipacaaGreat.Fn

def setS (n : Nm) (v : Int) (st : List Pair) : List Pair := mput (fun p : Pair => seq n p.Key) st ⟨n, v⟩
theorem seen1_set (n n' : Nm) (v : Int) (st : List Pair) : seen1 n' (setS n v st) = cond (seq n' n) v (seen1 n' st) := mget_mput (key := Pair.Key) (y := ⟨n, v⟩)
theorem seen1_set_same (n : Nm) (v : Int) (st : List Pair) : seen1 n (setS n v st) = v := by rw [seen1_set, seq_self]; rfl
theorem seq_ne {a b : Nm} (h : a ≠ b) : seq a b = false := by
  cases e : seq a b with
  | false => rfl
  | true => exact absurd (seq_iff.1 e) h
theorem seen1_set_other {n n' : Nm} (h : n' ≠ n) (v : Int) (st : List Pair) : seen1 n' (setS n v st) = seen1 n' st := by rw [seen1_set, seq_ne h]; rfl

section
variable {ms : List GateMend} {s : GateShape} {R : Nm → List Nm} {N : List Nm}
/-- What is left of the fuel where the fields G have been come to. -/
def fu (N G : List Nm) : Nat := 8388608 + (N.length + 1 - G.length) * 1048578
theorem fu_le {N G G' : List Nm} (h : G.length ≤ G'.length) : fu N G' ≤ fu N G := by unfold fu; omega
theorem fu_ge (N G : List Nm) : 8388608 ≤ fu N G := by unfold fu; omega
theorem fu_cons {N G : List Nm} {x : Nm} (h : G.length + 1 ≤ N.length) : fu N (x :: G) + 1048578 ≤ fu N G := by unfold fu; simp only [List.length_cons]; omega
/-- The states as they stand: G: the fields that have been come to. -/
structure DInv (R : Nm → List Nm) (N : List Nm) (st : List Pair) (out G : List Nm) : Prop where
  two : ∀ y, seen1 y st = 2 ↔ y ∈ out
  rng : ∀ y, seen1 y st = 0 ∨ seen1 y st = 1 ∨ seen1 y st = 2
  topo : Topo R out
  sub : ∀ y, y ∈ out → y ∈ N
  gnd : G.Nodup
  gsub : ∀ y, y ∈ G → y ∈ N
  g : ∀ y, y ∈ G ↔ seen1 y st ≠ 0
/-- What a walk has done. -/
structure DPost (R : Nm → List Nm) (N : List Nm) (st : List Pair) (out G : List Nm) (st' : List Pair) (out' : List Nm) : Prop where
  inv : ∃ G', DInv R N st' out' G' ∧ G.length ≤ G'.length
  one : ∀ y, seen1 y st' = 1 ↔ seen1 y st = 1
  ext : ∀ y, y ∈ out → y ∈ out'
/-- Is x ahead of all that stand open? -/
def Ahead (L : List Nm) (st : List Pair) (x : Nm) : Prop := ∀ z, seen1 z st = 1 → L.idxOf x < L.idxOf z
def WalkOk (R : Nm → List Nm) (N : List Nm) (ms : List GateMend) (s : GateShape) (f : Nat → Nm → List Pair → List GateMend → GateShape → List Nm → Option (Bool × List Pair × List GateMend × GateShape × List Nm)) (n : Nat) : Prop :=
  ∀ k x st out G, fu N G ≤ k → x ∈ N → DInv R N st out G → N.length < n + G.length → ∃ b st' out', f k x st ms s out = some (b, st', ms, s, out') ∧ (b = true → DPost R N st out G st' out' ∧ x ∈ out') ∧ ∀ L, Full R N L → Ahead L st x → b = true

theorem DPost.refl {st : List Pair} {out G : List Nm} (h : DInv R N st out G) : DPost R N st out G st out := ⟨⟨G, h, Nat.le_refl _⟩, fun _ => Iff.rfl, fun _ h => h⟩
theorem DPost.ahead {st st' : List Pair} {out out' G L : List Nm} (h : DPost R N st out G st' out') {x : Nm} (ha : Ahead L st x) : Ahead L st' x := fun z hz => ha z ((h.one z).1 hz)

theorem walk_loop {f : Nat → Nm → List Pair → List GateMend → GateShape → List Nm → Option (Bool × List Pair × List GateMend × GateShape × List Nm)} {n : Nat} (hf : WalkOk R N ms s f n) {ys : List Nm} (hl : ys.length ≤ 1048576) (hN : ∀ y, y ∈ ys → y ∈ N) (x : Nm)
    (J : Nm → List Pair → List GateMend → GateShape → List Nm → Option (Bool × List Pair × List GateMend × GateShape × List Nm)) :
    ∀ m i k st out G, i + m = ys.length → fu N G + m + 1 ≤ k → DInv R N st out G → N.length < n + G.length →
      ∃ b st' out', iter (ts := impl_row_string__1_L8_ts) (R := Bool × (List Pair) × (List GateMend) × GateShape × (List (List UInt8))) k (impl_row_string__1_L8 f J) x ys (ys.length : Int) (i : Int) st ms s out = (cond b (J x st' ms s out') (some (false, st', ms, s, out'))) ∧
        (b = true → DPost R N st out G st' out' ∧ ∀ y, y ∈ ys.drop i → y ∈ out') ∧ ∀ L, Full R N L → (∀ y, y ∈ ys.drop i → Ahead L st y) → b = true := by
  intro m
  induction m with
  | zero =>
    intro i k st out G h hk hi _
    obtain ⟨k, rfl⟩ : ∃ q, k = q + 1 := ⟨k - 1, by omega⟩
    obtain rfl : i = ys.length := by omega
    refine ⟨true, st, out, ?_, fun _ => ⟨.refl hi, fun y hy => by simp at hy⟩, fun _ _ _ => rfl⟩
    simp only [iter, impl_row_string__1_L8, ilt_e, cond_false] <;> rfl
  | succ m ih =>
    intro i k st out G h hk hi hg
    obtain ⟨k, rfl⟩ : ∃ q, k = q + 1 := ⟨k - 1, by omega⟩
    have hlt : i < ys.length := by omega
    obtain ⟨b, st1, out1, h1, h2, h3⟩ := hf k ys[i] st out G (by omega) (hN _ (mem_i hlt)) hi hg
    rw [List.drop_eq_getElem_cons hlt]
    cases b with
    | false =>
      refine ⟨false, st1, out1, ?_, (fun h => by cases h), fun L hL ha => h3 L hL (ha _ (List.mem_cons_self ..))⟩
      simp only [iter, impl_row_string__1_L8, ilt_n hlt, inb_n hlt, cond_true, req_t, nth_i hlt, h1, Option.bind_some] <;> rfl
    | true =>
      obtain ⟨p1, p2⟩ := h2 rfl
      obtain ⟨G1, hi1, hg1⟩ := p1.inv
      obtain ⟨b, st2, out2, k1, k2, k3⟩ := ih (i + 1) k st1 out1 G1 (by omega) (by have := fu_le (N := N) hg1; omega) hi1 (by omega)
      refine ⟨b, st2, out2, ?_, fun hb => ?_, fun L hL ha => k3 L hL fun y hy => p1.ahead (ha y (List.mem_cons_of_mem _ hy))⟩
      · simp only [iter, impl_row_string__1_L8, ilt_n hlt, inb_n hlt, cond_true, req_t, nth_i hlt, h1, Option.bind_some, iadd_n hl hlt]
        exact k1
      · obtain ⟨q1, q2⟩ := k2 hb
        obtain ⟨G2, hi2, hg2⟩ := q1.inv
        refine ⟨⟨⟨G2, hi2, by omega⟩, fun y => (q1.one y).trans (p1.one y), fun y hy => q1.ext y (p1.ext y hy)⟩, fun y hy => ?_⟩
        rcases List.mem_cons.1 hy with e | e
        · exact e ▸ q1.ext _ p2
        · exact q2 y e

theorem walk_ok (hms : ms.length ≤ 1048576) (hR : ∀ x, x ∈ N → ∀ y, y ∈ reads ms s.Kind x → y ∈ N) (hRl : ∀ x, (reads ms s.Kind x).length ≤ 1048576) (hNl : N.length ≤ 1048576) : ∀ n, WalkOk (reads ms s.Kind) N ms s (impl_row_string__1 n) n
  | 0 => fun k x st out G _ _ hi hg => by
    have := hi.gnd.length_le_of_subset hi.gsub
    omega
  | n + 1 => fun k x st out G hk hx hi hg => by
    have ih := walk_ok hms hR hRl hNl n
    have e0 : mget (fun p : Pair => seq x p.Key) (fun p : Pair => p.Val) (0 : Int) st = seen1 x st := rfl
    simp only [impl_row_string__1, e0, share]
    rcases hi.rng x with h0 | h0 | h0
    · -- not yet come to
      rw [h0]
      have i1 : DInv (reads ms s.Kind) N (setS x 1 st) out (x :: G) := by
        have hxG : x ∉ G := fun h => (hi.g x).1 h h0
        refine ⟨fun y => ?_, fun y => ?_, hi.topo, hi.sub, List.nodup_cons.2 ⟨hxG, hi.gnd⟩, fun y hy => ?_, fun y => ?_⟩
        · by_cases e : y = x
          · subst e
            rw [seen1_set_same]
            exact ⟨fun h => by omega, fun h => by have := (hi.two y).2 h; omega⟩
          · rw [seen1_set_other e]; exact hi.two y
        · by_cases e : y = x
          · subst e; rw [seen1_set_same]; exact .inr (.inl rfl)
          · rw [seen1_set_other e]; exact hi.rng y
        · rcases List.mem_cons.1 hy with e | e
          · exact e ▸ hx
          · exact hi.gsub y e
        · by_cases e : y = x
          · subst e; rw [seen1_set_same]; simp
          · rw [seen1_set_other e, List.mem_cons]
            exact ⟨fun h => (hi.g y).1 (h.resolve_left e), fun h => .inr ((hi.g y).2 h)⟩
      have hGl : (x :: G).length ≤ N.length := i1.gnd.length_le_of_subset i1.gsub
      have hfu : fu N (x :: G) + 1048578 ≤ fu N G := fu_cons (by simpa using hGl)
      have := fu_ge N G
      have hrow := rowOf1_e (name := x) (s := s) (show 4194304 ≤ k by omega) hms
      let J : Nm → List Pair → List GateMend → GateShape → List Nm → Option (Bool × List Pair × List GateMend × GateShape × List Nm) := fun v39 v40 v41 v42 v43 =>
        req (appB (v43.length + ([v39] : List (List UInt8)).length) 16) (some (true, (mput (fun p : Pair => seq v39 p.Key) v40 (⟨v39, (2 : Int)⟩ : Pair)), v41, v42, (v43 ++ ([v39] : List (List UInt8)))))
      have hrl := hRl x
      obtain ⟨b, st2, out2, k1, k2, k3⟩ := walk_loop ih hrl (hR x hx) x J (reads ms s.Kind x).length 0 k (setS x 1 st) out (x :: G) (by omega) (by omega) i1 (by simp; omega)
      simp only [hrow, Option.bind_some]
      have e1 : (mput (fun p : Pair => seq x p.Key) st (⟨x, (1 : Int)⟩ : Pair)) = setS x 1 st := rfl
      have k1' : iter (ts := impl_row_string__1_L8_ts) (R := Bool × (List Pair) × (List GateMend) × GateShape × (List (List UInt8))) k (impl_row_string__1_L8 (impl_row_string__1 n) J) x (reads ms s.Kind x) ((reads ms s.Kind x).length : Int) (0 : Int) (setS x 1 st) ms s out = (cond b (J x st2 ms s out2) (some (false, st2, ms, s, out2))) := k1
      cases b with
      | false =>
        refine ⟨false, st2, out2, by rw [show ieq 0 1 = false from rfl, show ieq 0 2 = false from rfl]; exact k1', (fun h => by cases h), fun L hL ha => ?_⟩
        refine k3 L hL fun y hy z hz => ?_
        have hlt := (hL.topo.lt (hL.all x hx) (by simpa using hy)).2
        by_cases e : z = x
        · rw [e]; exact hlt
        · rw [seen1_set_other e] at hz
          exact Nat.lt_trans hlt (ha z hz)
      | true =>
        obtain ⟨q1, q2⟩ := k2 rfl
        obtain ⟨G2, hi2, hg2⟩ := q1.inv
        have hx1 : seen1 x st2 = 1 := (q1.one x).2 (seen1_set_same _ _ _)
        have hxo : x ∉ out2 := fun h => by have := (hi2.two x).2 h; omega
        have hlen : out2.length ≤ 1048576 := Nat.le_trans (hi2.topo.nd.length_le_of_subset hi2.sub) hNl
        refine ⟨true, setS x 2 st2, out2 ++ [x], ?_, fun _ => ⟨⟨⟨G2, ⟨fun y => ?_, fun y => ?_, hi2.topo.snoc hxo fun y hy => q2 y (by simpa using hy), fun y hy => ?_, hi2.gnd, hi2.gsub, fun y => ?_⟩, ?_⟩, fun y => ?_, fun y hy => ?_⟩, by simp⟩, fun _ _ _ => rfl⟩
        · rw [show ieq 0 1 = false from rfl, show ieq 0 2 = false from rfl]
          refine k1'.trans ?_
          show req (appB (out2.length + 1) 16) _ = _
          rw [appB_t (by omega) (by omega)]; rfl
        · by_cases e : y = x
          · subst e; rw [seen1_set_same]; simp
          · rw [seen1_set_other e, hi2.two y]; simp [e]
        · by_cases e : y = x
          · subst e; rw [seen1_set_same]; exact .inr (.inr rfl)
          · rw [seen1_set_other e]; exact hi2.rng y
        · rcases List.mem_append.1 hy with h | h
          · exact hi2.sub y h
          · simp at h; exact h ▸ hx
        · by_cases e : y = x
          · subst e; rw [seen1_set_same, hi2.g y, hx1]; simp
          · rw [seen1_set_other e]; exact hi2.g y
        · simp only [List.length_cons] at hg2; omega
        · by_cases e : y = x
          · subst e; rw [seen1_set_same]; omega
          · rw [seen1_set_other e, q1.one y, seen1_set_other e]
        · exact List.mem_append_left _ (q1.ext y hy)
    · -- it stands open
      rw [h0]
      exact ⟨false, st, out, rfl, (fun h => by cases h), fun L _ ha => absurd (ha x h0) (Nat.lt_irrefl _)⟩
    · -- it is done
      rw [h0]
      exact ⟨true, st, out, rfl, fun _ => ⟨.refl hi, (hi.two x).1 h0⟩, fun _ _ _ => rfl⟩

theorem row_loop (hw : ∀ n, WalkOk R N ms s (impl_row_string__1 n) n) {xs : List Nm} (hl : xs.length ≤ 1048576) (hN : ∀ y, y ∈ xs → y ∈ N) (hNl : N.length ≤ 1048576)
    (J : List GateMend → GateShape → List Nm → Option (List Nm × Bool × List GateMend × GateShape)) :
    ∀ m i k st out G, i + m = xs.length → fu N G + m + 1 ≤ k → DInv R N st out G → (∀ z, seen1 z st ≠ 1) →
      ∃ b st' out', iter (ts := impl_row_string__L6_ts) (R := (List (List UInt8)) × Bool × (List GateMend) × GateShape) k (impl_row_string__L6 J) xs (xs.length : Int) (i : Int) ms s out st = (cond b (J ms s out') (some ([], false, ms, s))) ∧
        (b = true → DPost R N st out G st' out' ∧ ∀ y, y ∈ xs.drop i → y ∈ out') ∧ ∀ L, Full R N L → b = true := by
  intro m
  induction m with
  | zero =>
    intro i k st out G h hk hi _
    obtain ⟨k, rfl⟩ : ∃ q, k = q + 1 := ⟨k - 1, by omega⟩
    obtain rfl : i = xs.length := by omega
    refine ⟨true, st, out, ?_, fun _ => ⟨.refl hi, fun y hy => by simp at hy⟩, fun _ _ => rfl⟩
    simp only [iter, impl_row_string__L6, ilt_e, cond_false] <;> rfl
  | succ m ih =>
    intro i k st out G h hk hi hz
    obtain ⟨k, rfl⟩ : ∃ q, k = q + 1 := ⟨k - 1, by omega⟩
    have hlt : i < xs.length := by omega
    have := fu_ge N G
    obtain ⟨b, st1, out1, h1, h2, h3⟩ := hw k k xs[i] st out G (by omega) (hN _ (mem_i hlt)) hi (by omega)
    rw [List.drop_eq_getElem_cons hlt]
    cases b with
    | false =>
      refine ⟨false, st1, out1, ?_, (fun h => by cases h), fun L hL => h3 L hL fun z hz' => absurd hz' (hz z)⟩
      simp only [iter, impl_row_string__L6, ilt_n hlt, inb_n hlt, cond_true, req_t, nth_i hlt, h1, Option.bind_some] <;> rfl
    | true =>
      obtain ⟨p1, p2⟩ := h2 rfl
      obtain ⟨G1, hi1, hg1⟩ := p1.inv
      obtain ⟨b, st2, out2, k1, k2, k3⟩ := ih (i + 1) k st1 out1 G1 (by omega) (by have := fu_le (N := N) hg1; omega) hi1 fun z hz' => hz z ((p1.one z).1 hz')
      refine ⟨b, st2, out2, ?_, fun hb => ?_, k3⟩
      · simp only [iter, impl_row_string__L6, ilt_n hlt, inb_n hlt, cond_true, req_t, nth_i hlt, h1, Option.bind_some, iadd_n hl hlt]
        exact k1
      · obtain ⟨q1, q2⟩ := k2 hb
        obtain ⟨G2, hi2, hg2⟩ := q1.inv
        refine ⟨⟨⟨G2, hi2, by omega⟩, fun y => (q1.one y).trans (p1.one y), fun y hy => q1.ext y (p1.ext y hy)⟩, fun y hy => ?_⟩
        rcases List.mem_cons.1 hy with e | e
        · exact e ▸ q1.ext _ p2
        · exact q2 y e

theorem names_fold (l : List GateField) (q : List Nm) : l.foldl (fun (q : List Nm) f => q ++ [f.Name]) q = q ++ l.map (·.Name) := by
  induction l generalizing q with
  | nil => simp
  | cons a r ih => rw [List.foldl_cons, ih]; simp

/-- The program's row: it is one of all; it is found where there is one. -/
theorem rowOf_e (hms : ms.length ≤ 1048576) (hR : ∀ x, x ∈ names s → ∀ y, y ∈ reads ms s.Kind x → y ∈ names s) (hRl : ∀ x, (reads ms s.Kind x).length ≤ 1048576) (hNl : s.Fields.length ≤ 6) {k : Nat} (hk : 4194304 * 5 ≤ k) :
    ∃ b row, impl_rowOf k s ms = some (row, b) ∧ (b = true → Full (reads ms s.Kind) (names s) row) ∧ ((∃ L, Full (reads ms s.Kind) (names s) L) → b = true) := by
  have hNl' : (names s).length ≤ 6 := by simp only [names, List.length_map]; exact hNl
  have i0 : DInv (reads ms s.Kind) (names s) [] [] [] := ⟨fun y => by simp [seen1, mget], fun y => .inl rfl, Topo.nil, (fun y h => by cases h), List.nodup_nil, (fun y h => by cases h), fun y => by simp [seen1, mget]⟩
  let J : List GateMend → GateShape → List Nm → Option (List Nm × Bool × List GateMend × GateShape) := fun v23 v24 v25 => some (v25, true, v23, v24)
  obtain ⟨b, st', out', h1, h2, h3⟩ := row_loop (walk_ok hms hR hRl (by omega)) (by omega) (fun y h => h) (by omega) J (names s).length 0 k [] [] [] (by omega) (by simp only [fu, List.length_nil]; omega) i0 fun z hz => by simp [seen1, mget] at hz
  have hrow : impl_row_string_ k (names s) ms s = cond b (some (out', true, ms, s)) (some ([], false, ms, s)) := by
    unfold impl_row_string_
    simp only [share]
    exact h1
  have hof : impl_rowOf k s ms = cond b (some (out', true)) (some ([], false)) := by
    unfold impl_rowOf
    simp only [share]
    have h := fun J : GateShape → List GateMend → List Nm → Option (List Nm × Bool) => loop_fold (S := List Nm) (x := s.Fields) (f := fun q f => q ++ [f.Name]) (B := 0) (l := fun k q i => iter (ts := impl_rowOf_L3_ts) (R := (List (List UInt8)) × Bool) k (impl_rowOf_L3 J) s.Fields (s.Fields.length : Int) i s ms q)
      (J := fun q => J s ms q) (fun i q => q.length = i)
      (fun k q _ => by simp only [iter, impl_rowOf_L3, ilt_e, cond_false] <;> rfl)
      (fun k i q hi _ hq => ⟨by
        simp only [iter, impl_rowOf_L3, ilt_n hi, inb_n hi, cond_true, req_t, nth_i hi, iadd_n (show s.Fields.length ≤ 1048576 by omega) hi]
        rw [appB_t (by simp; omega) (by omega)]; rfl, by simp [hq]⟩) k [] (by omega) rfl
    refine (h _).trans ?_
    rw [names_fold, List.nil_append]
    change (impl_row_string_ k (names s) ms s).bind _ = _
    rw [hrow]
    cases b <;> rfl
  cases b with
  | false => exact ⟨false, [], hof, (fun h => by cases h), fun ⟨L, hL⟩ => h3 L hL⟩
  | true =>
    obtain ⟨p, q⟩ := h2 rfl
    obtain ⟨G', hi', _⟩ := p.inv
    exact ⟨true, out', hof, fun _ => ⟨hi'.topo, fun y h => q y (by simpa using h), fun y h => hi'.sub y h⟩, fun _ => rfl⟩
end
end Go.Proofs.YtdfdiinbiipacaaGreat.Pu
