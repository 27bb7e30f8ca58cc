/- Three steps of the world: a new block, a block written, a row that grows in place; and what an operation of each kind does. No condition. -/
import Derived.Test.YtkfdfapickladaaAbsB
import Derived.Laws.Entries
namespace Go.Proofs.Ytkfdfapickladaa.Abs
open Go Go.RowKit

variable {w w' w'' : World} {F F' F'' : Nat → Prop} {μ μ' μ'' : Nat → Nat} {K K' K'' : Nat → Prop} {H H' H'' : Hp} {P : Program}

theorem plus_nil (K : Nat → Prop) : plus K [] = K := by
  funext id; simp [plus]

theorem Hp.upd_one (H : Hp) (i : Nat) (b : Option Blk) (id : Nat) : H.upd [(i, b)] id = if id = i then b else H id := rfl

/-- A draw. -/
theorem VR.drew {a : AV} {v : Value} (n : Nat) (h : VR w F μ K a v) : VR { w with drawn := n } F μ K a v :=
  h.mono (fun _ _ => rfl) (fun _ h => h) (fun _ _ => rfl) (fun _ h => h) (fun _ _ => rfl)
theorem HR.drew (n : Nat) (h : HR w F μ K H) : HR { w with drawn := n } F μ K H where
  lt := h.lt
  known := h.known
  blk := fun id b hb hl => by
    obtain ⟨cs, t, hc, hB⟩ := h.blk id b hb hl
    exact ⟨cs, t, hc, hB.mono (fun _ _ => rfl) (fun _ h => h) (fun _ _ => rfl) (fun _ h => h) (fun _ _ => rfl)⟩
  nof := h.nof
  inj := h.inj
  wf := h.wf
  pos := h.pos
theorem Fr.drew (n : Nat) (hk : ∀ id, H.live id → K id) : Fr w F μ K H { w with drawn := n } F μ K H :=
  { Fr.refl w F μ hk with }

theorem HR.live_known (h : HR w F μ K H) {id : Nat} (hl : H.live id) : K id := by
  obtain ⟨b, hb, _⟩ := hl
  exact h.known id b hb

/-! ### A new block -/

theorem heap_new (w : World) (o : Obj) : (w.alloc o).heap[w.heap.size]? = some o := by
  show (w.heap.push o)[_]? = _
  simp

def mu1 (μ : Nat → Nat) (N B : Nat) : Nat → Nat := fun id => if id = N then B else μ id
theorem mu1_new (μ : Nat → Nat) (N B : Nat) : mu1 μ N B N = B := by simp [mu1]
theorem mu1_old {μ : Nat → Nat} {N B id : Nat} (h : id ≠ N) : mu1 μ N B id = μ id := by simp [mu1, h]

theorem VR.alloc {a : AV} {v : Value} (hr : HR w F μ K H) {N : Nat} (hN : ¬ K N) (o : Obj) (h : VR w F μ K a v) : VR (w.alloc o) F (mu1 μ N w.heap.size) (plus K [N]) a v :=
  h.mono (fun b hb => Below.heap_alloc _ _ _ (hr.wf b hb)) (fun _ h => h) (fun id hid => mu1_old fun e => hN (e ▸ hid)) (fun _ h => .inl h)
    (fun id hid => by unfold World.shape?; rw [Below.heap_alloc _ _ _ (hr.lt id hid)])

theorem alloc_step (hr : HR w F μ K H) {N : Nat} (hN : ¬ K N) {b : Blk} {cs : Array Value} {t : TypeId} (hb : BlkR w F μ K cs b) :
    HR (w.alloc (.cells cs t)) F (mu1 μ N w.heap.size) (plus K [N]) (H.upd [(N, some b)]) ∧
    Fr w F μ K H (w.alloc (.cells cs t)) F (mu1 μ N w.heap.size) (plus K [N]) (H.upd [(N, some b)]) := by
  have ne : ∀ {id}, K id → id ≠ N := fun hid e => hN (e ▸ hid)
  have old : ∀ k, k < w.heap.size → (w.alloc (.cells cs t)).heap[k]? = w.heap[k]? := fun k hk => Below.heap_alloc _ _ _ hk
  have sh : ∀ k, k < w.heap.size → (w.alloc (.cells cs t)).shape? k = w.shape? k := fun k hk => by unfold World.shape?; rw [old k hk]
  have cases' : ∀ id, (H.upd [(N, some b)]).live id → id = N ∨ (id ≠ N ∧ H.live id) := by
    rintro id ⟨b', hb', hl⟩
    rw [Hp.upd_one] at hb'
    split at hb'
    · exact .inl ‹_›
    · exact .inr ⟨‹_›, b', hb', hl⟩
  have mono : ∀ {cs' : Array Value} {b' : Blk}, BlkR w F μ K cs' b' → BlkR (w.alloc (.cells cs t)) F (mu1 μ N w.heap.size) (plus K [N]) cs' b' := fun h =>
    h.mono (fun k hk => old k (hr.wf k hk)) (fun _ h => h) (fun id hid => mu1_old (ne hid)) (fun _ h => .inl h) (fun id hid => sh _ (hr.lt id hid))
  refine ⟨?_, ?_⟩
  · refine { lt := ?_, known := ?_, blk := ?_, nof := ?_, inj := ?_, wf := ?_, pos := by simp }
    · rintro id (h | h)
      · rw [mu1_old (ne h)]; have := hr.lt id h; simp; omega
      · obtain rfl : id = N := by simpa using h
        rw [mu1_new]; simp
    · intro id b' hb'
      rw [Hp.upd_one] at hb'
      split at hb'
      · rename_i e; exact .inr (by simp [e])
      · exact .inl (hr.known id b' hb')
    · intro id b' hb' hl
      rw [Hp.upd_one] at hb'
      split at hb'
      · rename_i e
        subst e
        cases hb'
        rw [mu1_new]
        exact ⟨cs, t, heap_new _ _, mono hb⟩
      · rename_i e
        obtain ⟨cs', t', hc, hB⟩ := hr.blk id b' hb' hl
        rw [mu1_old e]
        exact ⟨cs', t', by rw [old _ (hr.lt id (hr.known id b' hb'))]; exact hc, mono hB⟩
    · intro id hl hF
      rcases cases' id hl with e | ⟨e, hl⟩
      · subst e
        rw [mu1_new] at hF
        exact absurd (hr.wf _ hF) (by omega)
      · rw [mu1_old e] at hF
        exact hr.nof id hl hF
    · intro id id' hl hl' e
      rcases cases' id hl with h1 | ⟨h1, h2⟩ <;> rcases cases' id' hl' with k1 | ⟨k1, k2⟩
      · rw [h1, k1]
      · rw [h1, mu1_new, mu1_old k1] at e
        have := hr.lt id' (hr.live_known k2); omega
      · rw [k1, mu1_new, mu1_old h1] at e
        have := hr.lt id (hr.live_known h2); omega
      · rw [mu1_old h1, mu1_old k1] at e
        exact hr.inj id id' h2 k2 e
    · intro k hk
      have := hr.wf k hk
      simp; omega
  · refine { os := rfl, tape := rfl, output := rfl, size := by simp, len := fun _ h => .inl h, mu := fun id hid => mu1_old (ne hid), froz := fun _ h => h, shape := sh,
             same := fun k hk _ => old k hk, old := ?_, new := ?_, fnew := fun _ h => .inl h }
    · intro id hk hl
      rcases cases' id hl with h1 | ⟨_, h2⟩
      · exact absurd h1 (ne hk)
      · exact h2
    · intro id hk hl
      rcases cases' id hl with h1 | ⟨_, h2⟩
      · rw [h1, mu1_new]; exact .inl (Nat.le_refl _)
      · exact absurd (hr.live_known h2) hk

/-! ### A block written -/

def wset (w : World) (b : Nat) (cs : Array Value) (t : TypeId) : World := { w with heap := w.heap.setIfInBounds b (.cells cs t (0, 0)) }

theorem wset_size (w : World) (b : Nat) (cs : Array Value) (t : TypeId) : (wset w b cs t).heap.size = w.heap.size := by simp [wset]
theorem wset_same {b : Nat} (h : b < w.heap.size) (cs : Array Value) (t : TypeId) : (wset w b cs t).heap[b]? = some (.cells cs t (0, 0)) := by simp [wset, h]
theorem wset_other {b k : Nat} (h : k ≠ b) (cs : Array Value) (t : TypeId) : (wset w b cs t).heap[k]? = w.heap[k]? := by simp [wset, Array.getElem?_setIfInBounds_ne (Ne.symm h)]

theorem setCell_wset {b : Nat} {cs : Array Value} {t : TypeId} (h : w.heap[b]? = some (.cells cs t (0, 0))) (o : Nat) (v : Value) :
    w.setCell ⟨b, o, none⟩ v = wset w b (cs.setIfInBounds o v) t := by
  unfold World.setCell wset
  have hlt : b < w.heap.size := (Array.getElem?_eq_some_iff.1 h).1
  have hv : w.heap[b] = .cells cs t (0, 0) := (Array.getElem?_eq_some_iff.1 h).2
  congr 1
  refine Array.ext_getElem? fun i => ?_
  rw [Array.getElem?_modify]
  by_cases e : b = i
  · subst e; simp [hlt, hv]
  · simp [e, Array.getElem?_setIfInBounds_ne e]
theorem wset_wset (w : World) (b : Nat) (cs cs' : Array Value) (t : TypeId) : wset (wset w b cs t) b cs' t = wset w b cs' t := by
  unfold wset
  congr 1
  simp

theorem write_step (hr : HR w F μ K H) {N : Nat} {b b' : Blk} (hb : H N = some b) (hl : b.lies = true) {cs cs' : Array Value} {t : TypeId} (hc : w.heap[μ N]? = some (.cells cs t (0, 0)))
    (hsz : cs'.size = cs.size) (hB : BlkR w F μ K cs' b') :
    HR (wset w (μ N) cs' t) F μ K (H.upd [(N, some b')]) ∧ Fr w F μ K H (wset w (μ N) cs' t) F μ K (H.upd [(N, some b')]) ∧
    ∀ a v, VR w F μ K a v → VR (wset w (μ N) cs' t) F μ K a v := by
  have hlt : μ N < w.heap.size := hr.lt N (hr.known N b hb)
  have liveN : H.live N := ⟨b, hb, hl⟩
  have sh : ∀ k, (wset w (μ N) cs' t).shape? k = w.shape? k := fun k => by
    unfold World.shape?
    by_cases e : k = μ N
    · subst e; rw [wset_same hlt, hc]; simp [hsz]
    · rw [wset_other e]
  have frz : ∀ k, F k → (wset w (μ N) cs' t).heap[k]? = w.heap[k]? := fun k hk => wset_other (fun e => by subst e; exact hr.nof N liveN hk) _ _
  have cases' : ∀ id, (H.upd [(N, some b')]).live id → H.live id := by
    rintro id ⟨b0, hb0, hl0⟩
    rw [Hp.upd_one] at hb0
    split at hb0
    · rename_i e; subst e; exact liveN
    · exact ⟨b0, hb0, hl0⟩
  refine ⟨{ lt := ?_, known := ?_, blk := ?_, nof := ?_, inj := ?_, wf := ?_, pos := by rw [wset_size]; exact hr.pos }, { os := rfl, tape := rfl, output := rfl, size := ?_, len := fun _ h => h, mu := fun _ _ => rfl, froz := fun _ h => h, shape := fun k _ => sh k, same := ?_, old := ?_, new := ?_, fnew := fun _ h => .inl h }, ?_⟩
  · intro id hid; rw [wset_size]; exact hr.lt id hid
  · intro id b0 hb0
    rw [Hp.upd_one] at hb0
    split at hb0
    · rename_i e; subst e; exact hr.known _ b hb
    · exact hr.known id b0 hb0
  · intro id b0 hb0 hl0
    rw [Hp.upd_one] at hb0
    split at hb0
    · rename_i e
      subst e
      cases hb0
      exact ⟨cs', t, wset_same hlt _ _, hB.mono frz (fun _ h => h) (fun _ _ => rfl) (fun _ h => h) (fun id _ => sh _)⟩
    · rename_i e
      obtain ⟨cs0, t0, hc0, hB0⟩ := hr.blk id b0 hb0 hl0
      exact ⟨cs0, t0, by rw [wset_other (fun e' => e (hr.inj id N ⟨b0, hb0, hl0⟩ liveN e'))]; exact hc0, hB0.mono frz (fun _ h => h) (fun _ _ => rfl) (fun _ h => h) (fun id _ => sh _)⟩
  · exact fun id hl0 => hr.nof id (cases' id hl0)
  · exact fun id id' h1 h2 e => hr.inj id id' (cases' id h1) (cases' id' h2) e
  · intro k hk; rw [wset_size]; exact hr.wf k hk
  · rw [wset_size]; exact Nat.le_refl _
  · intro k _ hn
    exact wset_other (fun e => hn N liveN e.symm) _ _
  · exact fun id _ hl0 => cases' id hl0
  · exact fun id hk hl0 => absurd (hr.live_known (cases' id hl0)) hk
  · exact fun a v h => h.mono frz (fun _ h => h) (fun _ _ => rfl) (fun _ h => h) (fun id _ => sh _)

/-- A row that grows in place: block N's row is now number M's. -/
theorem grow_step (hr : HR w F μ K H) {N M : Nat} (hM : ¬ K M) {b b' : Blk} (hb : H N = some b) (hl : b.lies = true) {cs cs' : Array Value} {t : TypeId} (hc : w.heap[μ N]? = some (.cells cs t (0, 0)))
    (hsz : cs'.size = cs.size) (hB : BlkR w F μ K cs' b') :
    HR (wset w (μ N) cs' t) F (mu1 μ M (μ N)) (plus K [M]) (H.upd [(M, some b'), (N, none)]) ∧ Fr w F μ K H (wset w (μ N) cs' t) F (mu1 μ M (μ N)) (plus K [M]) (H.upd [(M, some b'), (N, none)]) := by
  have hlt : μ N < w.heap.size := hr.lt N (hr.known N b hb)
  have liveN : H.live N := ⟨b, hb, hl⟩
  have ne : ∀ {id}, K id → id ≠ M := fun hid e => hM (e ▸ hid)
  have sh : ∀ k, (wset w (μ N) cs' t).shape? k = w.shape? k := fun k => by
    unfold World.shape?
    by_cases e : k = μ N
    · subst e; rw [wset_same hlt, hc]; simp [hsz]
    · rw [wset_other e]
  have frz : ∀ k, F k → (wset w (μ N) cs' t).heap[k]? = w.heap[k]? := fun k hk => wset_other (fun e => by subst e; exact hr.nof N liveN hk) _ _
  have upd : ∀ id, H.upd [(M, some b'), (N, none)] id = if id = M then some b' else if id = N then none else H id := fun _ => rfl
  have cases' : ∀ id, (H.upd [(M, some b'), (N, none)]).live id → id = M ∨ (id ≠ M ∧ id ≠ N ∧ H.live id) := by
    rintro id ⟨b0, hb0, hl0⟩
    rw [upd] at hb0
    split at hb0
    · exact .inl ‹_›
    · split at hb0
      · cases hb0
      · exact .inr ⟨‹_›, ‹_›, b0, hb0, hl0⟩
  have mono : ∀ {cs1 : Array Value} {b'' : Blk}, BlkR w F μ K cs1 b'' → BlkR (wset w (μ N) cs' t) F (mu1 μ M (μ N)) (plus K [M]) cs1 b'' := fun h =>
    h.mono frz (fun _ h => h) (fun id hid => mu1_old (ne hid)) (fun _ h => .inl h) (fun id _ => sh _)
  refine ⟨{ lt := ?_, known := ?_, blk := ?_, nof := ?_, inj := ?_, wf := ?_, pos := by rw [wset_size]; exact hr.pos }, { os := rfl, tape := rfl, output := rfl, size := ?_, len := fun _ h => .inl h, mu := fun id hid => mu1_old (ne hid), froz := fun _ h => h, shape := fun k _ => sh k, same := ?_, old := ?_, new := ?_, fnew := fun _ h => .inl h }⟩
  · rintro id (h | h)
    · rw [mu1_old (ne h), wset_size]; exact hr.lt id h
    · obtain rfl : id = M := by simpa using h
      rw [mu1_new, wset_size]; exact hlt
  · intro id b0 hb0
    rw [upd] at hb0
    split at hb0
    · rename_i e; exact .inr (by simp [e])
    · split at hb0
      · cases hb0
      · exact .inl (hr.known id b0 hb0)
  · intro id b0 hb0 hl0
    rw [upd] at hb0
    split at hb0
    · rename_i e
      subst e
      cases hb0
      rw [mu1_new]
      exact ⟨cs', t, wset_same hlt _ _, mono hB⟩
    · split at hb0
      · cases hb0
      · rename_i e e'
        obtain ⟨cs0, t0, hc0, hB0⟩ := hr.blk id b0 hb0 hl0
        rw [mu1_old e]
        exact ⟨cs0, t0, by rw [wset_other (fun e2 => e' (hr.inj id N ⟨b0, hb0, hl0⟩ liveN e2))]; exact hc0, mono hB0⟩
  · intro id hl0 hF
    rcases cases' id hl0 with e | ⟨e, _, h2⟩
    · subst e; rw [mu1_new] at hF; exact hr.nof N liveN hF
    · rw [mu1_old e] at hF; exact hr.nof id h2 hF
  · intro id id' h1 h2 e
    rcases cases' id h1 with a1 | ⟨a1, a2, a3⟩ <;> rcases cases' id' h2 with c1 | ⟨c1, c2, c3⟩
    · rw [a1, c1]
    · rw [a1, mu1_new, mu1_old c1] at e
      exact absurd (hr.inj id' N c3 liveN e.symm) c2
    · rw [c1, mu1_new, mu1_old a1] at e
      exact absurd (hr.inj id N a3 liveN e) a2
    · rw [mu1_old a1, mu1_old c1] at e
      exact hr.inj id id' a3 c3 e
  · intro k hk; rw [wset_size]; exact hr.wf k hk
  · rw [wset_size]; exact Nat.le_refl _
  · intro k _ hn
    exact wset_other (fun e => hn N liveN e.symm) _ _
  · intro id hk hl0
    rcases cases' id hl0 with h1 | ⟨_, _, h2⟩
    · exact absurd h1 (ne hk)
    · exact h2
  · intro id hk hl0
    rcases cases' id hl0 with h1 | ⟨_, _, h2⟩
    · rw [h1, mu1_new]; exact .inr ⟨N, liveN, rfl⟩
    · exact absurd (hr.live_known h2) hk

/-- A row that is empty and lies nowhere. -/
theorem virt_step (hr : HR w F μ K H) {N : Nat} (hN : ¬ K N) (esz : Nat) (e : Nat → Nat → AV) :
    HR w F (mu1 μ N 0) (plus K [N]) (H.upd [(N, some (.vrow esz 0 e))]) ∧ Fr w F μ K H w F (mu1 μ N 0) (plus K [N]) (H.upd [(N, some (.vrow esz 0 e))]) := by
  have ne : ∀ {id}, K id → id ≠ N := fun hid e => hN (e ▸ hid)
  have cases' : ∀ id b, (H.upd [(N, some (.vrow esz 0 e))]) id = some b → b.lies = true → H id = some b := by
    intro id b hb hl
    rw [Hp.upd_one] at hb
    split at hb
    · cases hb; cases hl
    · exact hb
  have casesL : ∀ id, (H.upd [(N, some (.vrow esz 0 e))]).live id → H.live id := fun id ⟨b, hb, hl⟩ => ⟨b, cases' id b hb hl, hl⟩
  have mono : ∀ {cs1 : Array Value} {b'' : Blk}, BlkR w F μ K cs1 b'' → BlkR w F (mu1 μ N 0) (plus K [N]) cs1 b'' := fun h =>
    h.mono (fun _ _ => rfl) (fun _ h => h) (fun id hid => mu1_old (ne hid)) (fun _ h => .inl h) (fun _ _ => rfl)
  refine ⟨{ lt := ?_, known := ?_, blk := ?_, nof := ?_, inj := ?_, wf := hr.wf, pos := hr.pos }, { os := rfl, tape := rfl, output := rfl, size := Nat.le_refl _, len := fun _ h => .inl h, mu := fun id hid => mu1_old (ne hid), froz := fun _ h => h, shape := fun _ _ => rfl, same := fun _ _ _ => rfl, old := fun id _ hl => casesL id hl, new := fun id hk hl => absurd (hr.live_known (casesL id hl)) hk, fnew := fun _ h => .inl h }⟩
  · rintro id (h | h)
    · rw [mu1_old (ne h)]; exact hr.lt id h
    · obtain rfl : id = N := by simpa using h
      rw [mu1_new]; exact hr.pos
  · intro id b hb
    rw [Hp.upd_one] at hb
    split at hb
    · rename_i e; exact .inr (by simp [e])
    · exact .inl (hr.known id b hb)
  · intro id b hb hl
    have hb' := cases' id b hb hl
    obtain ⟨cs, t, hc, hB⟩ := hr.blk id b hb' hl
    rw [mu1_old (ne (hr.known id b hb'))]
    exact ⟨cs, t, hc, mono hB⟩
  · intro id hl
    have := casesL id hl
    rw [mu1_old (ne (hr.live_known this))]
    exact hr.nof id this
  · intro id id' hl hl' e
    have h1 := casesL id hl
    have h2 := casesL id' hl'
    rw [mu1_old (ne (hr.live_known h1)), mu1_old (ne (hr.live_known h2))] at e
    exact hr.inj id id' h1 h2 e

/-- Fewer blocks are kept. -/
theorem drop_step {N : Nat} (hr : HR w' F' μ' K' H') (hf : Fr w F μ K H w' F' μ' K' H') : HR w' F' μ' K' (H'.upd [(N, none)]) ∧ Fr w F μ K H w' F' μ' K' (H'.upd [(N, none)]) := by
  have pt : Part (H'.upd [(N, none)]) H' := ⟨fun id => by
    rw [Hp.upd_one]
    split
    · exact .inl rfl
    · exact .inr rfl⟩
  exact ⟨hr.part pt, { hf with old := fun id hid hl => hf.old id hid (pt.live hl), new := fun id hid hl => hf.new id hid (pt.live hl) }⟩

/-! ### Kinds of operations -/

/-- One that only yields a value. -/
theorem opok_value {o : Oper} {s : SSt} {rv : AV}
    (h : ∀ w F μ K a, SR w F μ K s a → ∃ v, (execOp a.eval o).run P w = .ok (.value v) w ∧ VR w F μ K rv v) : OpOk P o s ⟨rv, [], []⟩ := by
  intro w F μ K a hs _ Kn Q hk
  obtain ⟨v, hv, hr⟩ := h w F μ K a hs
  unfold Oper.wp
  rw [hv, Oper.upon_value]
  refine hk v w F μ ?_ ?_ ?_ <;> simp only [plus_nil, Hp.upd_nil]
  · exact hr
  · exact hs.hr
  · exact Fr.refl w F μ fun id hl => hs.hr.live_known hl

/-- One that makes a block. -/
theorem opok_alloc {o : Oper} {s : SSt} {rv : AV} {N : Nat} {b : Blk}
    (h : ∀ w F μ K a, SR w F μ K s a → ∃ v cs t n, (execOp a.eval o).run P w = .ok (.value v) (({ w with drawn := n } : World).alloc (.cells cs t)) ∧ BlkR w F μ K cs b ∧
      ∀ w' μ', (∀ x u, VR w F μ K x u → VR w' F μ' (plus K [N]) x u) → w'.shape? w.heap.size = some (t, cs.size) → μ' N = w.heap.size → VR w' F μ' (plus K [N]) rv v) : OpOk P o s ⟨rv, [(N, some b)], [N]⟩ := by
  intro w F μ K a hs hn Kn Q hk
  obtain ⟨v, cs, t, n, hv, hb, hr⟩ := h w F μ K a hs
  have hN : ¬ K N := hn N (by simp)
  have hs' : HR { w with drawn := n } F μ K s.H := hs.hr.drew n
  obtain ⟨h1, h2⟩ := alloc_step (w := { w with drawn := n }) hs' hN (b := b) (cs := cs) (t := t)
    (hb.mono (fun _ _ => rfl) (fun _ h => h) (fun _ _ => rfl) (fun _ h => h) (fun _ _ => rfl))
  unfold Oper.wp
  rw [hv, Oper.upon_value]
  refine hk v _ F _ ?_ h1 ((Fr.drew n fun id hl => hs.hr.live_known hl).trans h2)
  refine hr _ _ (fun x u hx => VR.alloc hs' hN _ (hx.drew n)) ?_ (mu1_new _ _ _)
  unfold World.shape?
  have := heap_new ({ w with drawn := n } : World) (.cells cs t)
  rw [show w.heap.size = ({ w with drawn := n } : World).heap.size from rfl, this]

end Go.Proofs.Ytkfdfapickladaa.Abs
