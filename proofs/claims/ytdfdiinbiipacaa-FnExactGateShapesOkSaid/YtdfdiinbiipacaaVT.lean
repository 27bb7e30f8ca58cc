/- A region in the text's order. No condition. -/
import Derived.Test.YtdfdiinbiipacaaVS
namespace Go.Proofs.Ytdfdiinbiipacaa.Abs
open Go Go.RowKit

variable {w w' w'' : World} {F F' F'' O O' O'' : Nat → Prop} {μ μ' μ'' : Nat → Nat} {K K' K'' : Nat → Prop} {ft ft' : Nat → Nat → Prop} {P : Program} {R : Type}

/-- A bool that is known now. -/
def TSt.know (s : TSt) (t : Nat) (b : Bool) : TSt := { s with tm := (t, .d ⟨.bool, b⟩) :: s.tm }
theorem know_ok {s : TSt} {t : Nat} {b : Bool} (ho : s.ok) : (s.know t b).ok := by
  refine ⟨fun u => ?_, ho.H⟩
  simp only [TSt.know, look]
  cases e : Nat.beq u t with
  | true => simp only [TA.wf]
  | false => exact ho.tm u
theorem know_SR {s : TSt} {t : Nat} {b : Bool} {a : Act} (hs : SR w F O μ K s.st ft a) (h : look s.tm t = .d ⟨.bool, b⟩) : SR w F O μ K (s.know t b).st ft a := by
  refine ⟨hs.hr, hs.nt, fun u => ?_, hs.df⟩
  have := hs.tm u
  simp only [TSt.st, TSt.know, look] at this ⊢
  cases e : Nat.beq u t with
  | true => rw [Nat.eq_of_beq_eq_true e, h] at this; rw [Nat.eq_of_beq_eq_true e]; exact this
  | false => exact this

theorem wantT_look {ops : Array Oper} {s : TSt} {o : Oper} {t : Nat} {b c : Bool} (h : wantT ops s o = some (.on t b c)) : look s.tm t = .d ⟨.bool, b⟩ := by
  unfold wantT at h
  split at h
  · cases h
  · split at h
    · split at h
      · rename_i b' hb
        cases h
        exact hb
      · cases h
      · cases h
    · cases h

/-- One operation, wanted or not. -/
def evOne (E : Env) (cts : List CT) (o : Oper) (s : TSt) (b : Bool) (κ : TSt → Option R) (κp : TA → TSt → Option R) : Option R :=
  match b with
  | true => evT E cts o s (fun r => κ ((s.next r).put o.dst r.v)) (fun r => κp r.v (s.next r))
  | false => κ (s.put o.dst (.lit undef))
def evSeq (E : Env) (cts : List CT) (ops : Array Oper) : List Oper → TSt → (TSt → Option R) → (TA → TSt → Option R) → Option R
  | [], s, κ, _ => κ s
  | o :: rest, s, κ, κp => match okDst s o.dst with
    | true => match wantT ops s o with
      | some .yes => evOne E cts o s true (fun s => evSeq E cts ops rest s κ κp) κp
      | some .no => evOne E cts o s false (fun s => evSeq E cts ops rest s κ κp) κp
      | some (.on t b c) => cond b (evOne E cts o (s.know t true) c (fun s => evSeq E cts ops rest s κ κp) κp) (evOne E cts o (s.know t false) (!c) (fun s => evSeq E cts ops rest s κ κp) κp)
      | none => none
    | false => none

/-- What holds behind: of the way out and the state; the numbers below m0 are pinned. -/
structure Here (w : World) (F O : Nat → Prop) (μ : Nat → Nat) (m0 n0 : Nat) (s' : TSt) (a' : Act) (w' : World) (F' O' : Nat → Prop) (μ' : Nat → Nat) (ft' : Nat → Nat → Prop) : Prop where
  ok : s'.ok
  le : m0 ≤ s'.N
  nt : s'.nt = n0
  sr : SR w' F' O' μ' (below s'.N) s'.st ft' a'
  fr : Fr w F O μ (below m0) w' F' O' μ'

theorem Here.trans {m0 n0 : Nat} {s' : TSt} {a' : Act} (hf : Fr w F O μ (below m0) w' F' O' μ') (h : Here w' F' O' μ' m0 n0 s' a' w'' F'' O'' μ'' ft') : Here w F O μ m0 n0 s' a' w'' F'' O'' μ'' ft' :=
  ⟨h.ok, h.le, h.nt, h.sr, hf.trans h.fr⟩
theorem Here.refl {m0 n0 : Nat} {s : TSt} {a : Act} (ho : s.ok) (hm : m0 ≤ s.N) (hn : s.nt = n0) (hs : SR w F O μ (below s.N) s.st ft a) : Here w F O μ m0 n0 s a w F O μ ft := ⟨ho, hm, hn, hs, Fr.refl _ _ _ _ _⟩

/-- Behind an operation. -/
theorem evOne_ok {E : Env} {cts : List CT} {o : Oper} {s : TSt} {b : Bool} {κ : TSt → Option R} {κp : TA → TSt → Option R} {z : R} {m0 n0 : Nat} {a : Act} {ops : Array Oper} {Kn : Act → World → Prop} {Q : Exit → Act → World → Prop} (hE : EnvOk E cts) (h : evOne E cts o s b κ κp = some z)
    (hd : okDst s o.dst = true) (hw : Region.wanted o (yielded ops a.tmps) = b) (ho : s.ok) (hm : m0 ≤ s.N) (hn : s.nt = n0) (hs : SR w F O μ (below s.N) s.st ft a)
    (hk : ∀ s' a' w' F' O' μ' ft', κ s' = some z → Here w F O μ m0 n0 s' a' w' F' O' μ' ft' → Kn a' w')
    (hp : ∀ v u s' a' w' F' O' μ' ft', κp v s' = some z → v.wf s'.H s'.N → VR w' F' μ' (below s'.N) (v.av s'.H) u → Here w F O μ m0 n0 s' a' w' F' O' μ' ft' → Q (.panic [{ v := u, recovered := false }]) a' w') :
    if Region.wanted o (yielded ops a.tmps) then o.wp E.P a w Kn Q ∨ (o.asks E.P a w ∧ LetsOut Q) else Kn (a.put o.dst undef) w := by
  cases b with
  | false =>
    rw [hw]
    simp only [evOne] at h
    simp only [Bool.false_eq_true, if_false]
    have hN : (s.put o.dst (.lit undef)).N = s.N := by cases o.dst <;> rfl
    exact hk _ _ w F O μ ft h ⟨put_ok ho (by simp only [TA.wf]), by rw [hN]; exact hm, by rw [← hn]; cases o.dst <;> rfl, by rw [hN]; exact put_SR hs hd (by simp only [TA.av]; exact .lit _), Fr.refl _ _ _ _ _⟩
  | true =>
    rw [hw]
    simp only [evOne] at h
    simp only [if_true]
    refine .inl ?_
    rcases evT_ok hE ho h with ⟨r, h1, h2, h3⟩ | ⟨r, h1, h2, h3⟩
    · refine tok_run h1 hs fun v w' F' O' μ' ft' k1 k2 k3 => ?_
      have hs' := next_SR hs ho h2 k2 k3
      have ho' := next_ok ho h2
      have hN : ((s.next r).put o.dst r.v).N = s.N + r.k := by cases o.dst <;> rfl
      have hd' : okDst (s.next r) o.dst = true := by cases hdst : o.dst <;> rw [hdst] at hd <;> exact hd
      exact hk _ _ w' F' O' μ' ft' h3 ⟨put_ok ho' h2.v, by rw [hN]; omega, by rw [← hn]; cases o.dst <;> rfl, by rw [hN]; exact put_SR hs' hd' k1, k3.pin fun id (hid : id < m0) => (show id < s.N by omega)⟩
    · refine tpan_run h1 hs fun v w' F' O' μ' ft' k1 k2 k3 => ?_
      have hs' := next_SR hs ho h2 k2 k3
      have ho' := next_ok ho h2
      exact hp r.v v (s.next r) a w' F' O' μ' ft' h3 h2.v k1 ⟨ho', by show m0 ≤ s.N + r.k; omega, hn, hs', k3.pin fun id (hid : id < m0) => (show id < s.N by omega)⟩

theorem evSeq_ok {E : Env} {cts : List CT} {ops : Array Oper} {κ : TSt → Option R} {κp : TA → TSt → Option R} {z : R} {m0 n0 : Nat} {Q : Exit → Act → World → Prop} (hE : EnvOk E cts) : ∀ {l : List Oper} {s : TSt} {w : World} {F O : Nat → Prop} {μ : Nat → Nat} {ft : Nat → Nat → Prop} {a : Act},
    evSeq E cts ops l s κ κp = some z → s.ok → m0 ≤ s.N → s.nt = n0 → SR w F O μ (below s.N) s.st ft a →
    (∀ s' a' w' F' O' μ' ft', κ s' = some z → Here w F O μ m0 n0 s' a' w' F' O' μ' ft' → Q .normal a' w') →
    (∀ v u s' a' w' F' O' μ' ft', κp v s' = some z → v.wf s'.H s'.N → VR w' F' μ' (below s'.N) (v.av s'.H) u → Here w F O μ m0 n0 s' a' w' F' O' μ' ft' → Q (.panic [{ v := u, recovered := false }]) a' w') → wpList E.P ops Q l a w
  | [], s, w, F, O, μ, ft, a, h, ho, hm, hn, hs, hk, hp => by
    simp only [evSeq] at h
    exact hk s a w F O μ ft h (.refl ho hm hn hs)
  | o :: rest, s, w, F, O, μ, ft, a, h, ho, hm, hn, hs, hk, hp => by
    simp only [evSeq] at h
    have go : ∀ (s0 : TSt) (b : Bool), evOne E cts o s0 b (fun s => evSeq E cts ops rest s κ κp) κp = some z → okDst s0 o.dst = true → s0.ok → m0 ≤ s0.N → s0.nt = n0 → SR w F O μ (below s0.N) s0.st ft a → Region.wanted o (yielded ops a.tmps) = b → wpList E.P ops Q (o :: rest) a w := by
      intro s0 b h0 hd0 ho0 hm0 hn0 hs0 hw0
      exact evOne_ok (ops := ops) hE h0 hd0 hw0 ho0 hm0 hn0 hs0 (fun s' a' w' F' O' μ' ft' hκ hh => evSeq_ok hE hκ hh.ok hh.le hh.nt hh.sr
        (fun s2 a2 w2 F2 O2 μ2 ft2 k1 k2 => hk s2 a2 w2 F2 O2 μ2 ft2 k1 (k2.trans hh.fr))
        (fun v u s2 a2 w2 F2 O2 μ2 ft2 k1 kw k2 k3 => hp v u s2 a2 w2 F2 O2 μ2 ft2 k1 kw k2 (k3.trans hh.fr))) hp
    split at h
    · rename_i hd
      split at h
      · rename_i hw
        exact go s true h hd ho hm hn hs (wantT_ok hs hw)
      · rename_i hw
        exact go s false h hd ho hm hn hs (wantT_ok hs hw)
      · rename_i t b c hw
        have hl := wantT_look hw
        have hw' := wantT_ok hs hw
        simp only at hw'
        cases b with
        | true =>
          refine go _ c h hd (know_ok ho) hm hn (know_SR hs hl) ?_
          rw [hw']; cases c <;> rfl
        | false =>
          refine go _ (!c) h hd (know_ok ho) hm hn (know_SR hs hl) ?_
          rw [hw']; cases c <;> rfl
      · cases h
    · cases h

end Go.Proofs.Ytdfdiinbiipacaa.Abs
