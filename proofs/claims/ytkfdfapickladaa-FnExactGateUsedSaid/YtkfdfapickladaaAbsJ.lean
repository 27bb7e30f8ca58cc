/- States that know less: at a loop's head; the loop's rule. No condition. -/
import Derived.Test.YtkfdfapickladaaAbsI
namespace Go.Proofs.Ytkfdfapickladaa.Abs
open Go Go.RowKit

variable {w w' w'' : World} {F F' F'' : Nat → Prop} {μ μ' μ'' : Nat → Nat} {K K' K'' : Nat → Prop} {H H' H'' : Hp} {P : Program}

/-- Do all blocks that a value leads to have numbers below N? -/
def ref1 (N : Nat) : AV → Bool
  | .ms id _ _ _ | .vs id _ _ | .bp id _ | .rp id _ _ _ => (id + 1).ble N
  | .agg _ | .tup _ | .ifc _ _ | .fn _ _ _ => false
  | _ => true
def ref2 (N : Nat) : AV → Bool
  | .agg cs | .tup cs => cs.all (ref1 N)
  | .fn _ xs ys => xs.all (ref1 N) && ys.all (ref1 N)
  | .ifc _ a => ref1 N a
  | a => ref1 N a

theorem VR.ref1 {N : Nat} {a : AV} {v : Value} (h : VR w F μ K a v) (hr : ref1 N a = true) : VR w F μ (Abs.below N) a v := by
  cases h <;> first
    | (simp [Abs.ref1] at hr; done)
    | exact .top _ | exact .lit _ | exact .int _ _ | exact .bool _ | exact .kb _ | exact .str _ | exact .nils | exact .fsnil _ _ _ _ | exact .vsnil _ _
    | exact .fs _ _ _ _ _ _ _ ‹_› ‹_› ‹_› ‹_›
    | exact .fp _ _ _ _ _ _ ‹_› ‹_› ‹_›
    | exact .ms _ _ _ _ _ _ _ (Nat.le_of_ble_eq_true hr) ‹_› ‹_› ‹_›
    | exact .vs _ _ _ _ _ _ ‹_› (Nat.le_of_ble_eq_true hr) ‹_› ‹_› ‹_›
    | exact .bp _ _ (Nat.le_of_ble_eq_true hr)
    | exact .rp _ _ _ _ (Nat.le_of_ble_eq_true hr)
theorem all_ref1 {N : Nat} {l : List AV} (h : l.all (ref1 N) = true) (i : Nat) (hi : i < l.length) : ref1 N (l.getD i .top) = true := by
  simp only [List.all_eq_true] at h
  simpa [List.getD, hi] using h _ (List.getElem_mem hi)
theorem VR.ref2 {N : Nat} {a : AV} {v : Value} (h : VR w F μ K a v) (hr : ref2 N a = true) : VR w F μ (Abs.below N) a v := by
  cases a with
  | agg cs => cases h with | agg _ vs hl hv => exact .agg cs vs hl fun i hi => (hv i hi).ref1 (all_ref1 hr i hi)
  | tup cs => cases h with | tup _ vs hl hv => exact .tup cs vs hl fun i hi => (hv i hi).ref1 (all_ref1 hr i hi)
  | fn f xs ys =>
    simp only [Abs.ref2, Bool.and_eq_true] at hr
    cases h with | fn _ _ _ vs us h h' hv hu => exact .fn f xs ys vs us h h' (fun i hi => (hv i hi).ref1 (all_ref1 hr.1 i hi)) fun i hi => (hu i hi).ref1 (all_ref1 hr.2 i hi)
  | ifc t a => cases h with | ifc _ _ v h => exact .ifc t a v (h.ref1 hr)
  | _ => exact h.ref1 hr

/-- b knows less than b0. -/
def BlkOb (N : Nat) : Option Blk → Blk → Prop
  | some (.box l), .box m => l.map nrm = m.map nrmE ∧ m.all (ref2 N) = true
  | some (.row esz n e), .row esz' n' e' => esz = esz' ∧ n = n' ∧ ∀ i j, i < n' → j < esz' → e i j = e' i j
  | some (.vrow esz n e), .vrow esz' n' e' => esz = esz' ∧ n = n' ∧ ∀ i j, i < n' → j < esz' → e i j = e' i j
  | _, _ => False
def TmOb (s : SSt) (N : Nat) (l : List (Nat × AV)) : Prop := l.map (fun p => nrm (s.tm p.1)) = l.map (fun p => nrmE p.2) ∧ l.all (fun p => ref2 N p.2) = true
def HsOb (H : Hp) (N : Nat) : List (Nat × Blk) → Prop
  | [] => True
  | (i, b) :: r => (BlkOb N (H i) b ∧ (i + 1).ble N = true) ∧ HsOb H N r

/-- A frame of a few temporaries and blocks. -/
def Fm (nt N : Nat) (l : List (Nat × AV)) (hs : List (Nat × Blk)) : SSt := ⟨nt, N, tml l, hpl hs⟩

theorem tml_ob {s : SSt} {a : Act} {N : Nat} (hs : SR w F μ K s a) : ∀ {l : List (Nat × AV)}, TmOb s N l → ∀ t, VR w F μ (below N) (tml l t) (a.tmps.getD t undef)
  | [], _, _ => .top _
  | (i, v) :: r, h, t => by
    simp only [tml]
    cases e : Nat.beq t i with
    | true =>
      rw [Nat.eq_of_beq_eq_true e]
      obtain ⟨h1, h2⟩ := h
      simp only [List.map_cons, List.cons.injEq] at h1
      simp only [List.all_cons, Bool.and_eq_true] at h2
      exact (VR.alike h1.1 (hs.tm i)).ref2 h2.1
    | false =>
      obtain ⟨h1, h2⟩ := h
      simp only [List.map_cons, List.cons.injEq] at h1
      simp only [List.all_cons, Bool.and_eq_true] at h2
      exact tml_ob hs ⟨h1.2, h2.2⟩ t

theorem hpl_ob {N : Nat} : ∀ {hs : List (Nat × Blk)}, HsOb H N hs → ∀ id b, hpl hs id = some b → BlkOb N (H id) b ∧ id < N
  | [], _, _, _, h => by cases h
  | (i, b0) :: r, h, id, b, hb => by
    simp only [hpl] at hb
    cases e : Nat.beq id i with
    | true =>
      rw [e] at hb
      cases hb
      rw [Nat.eq_of_beq_eq_true e]
      exact ⟨h.1.1, Nat.le_of_ble_eq_true h.1.2⟩
    | false =>
      rw [e] at hb
      exact hpl_ob h.2 id b hb

theorem BlkOb.live {N : Nat} {b : Blk} : ∀ {b0 : Option Blk}, BlkOb N b0 b → b.lies = true → ∃ b1, b0 = some b1 ∧ b1.lies = true := by
  intro b0 h hl
  cases b0 with
  | none => cases b <;> exact h.elim
  | some b1 =>
    refine ⟨b1, rfl, ?_⟩
    cases b1 <;> cases b <;> first | exact h.elim | rfl | skip
    obtain ⟨_, h2, _⟩ := h
    simpa [Blk.lies, h2] using hl

theorem BlkR.ob {N : Nat} {b b1 : Blk} {cs : Array Value} (h : BlkOb N (some b1) b) (hB : BlkR w F μ K cs b1) : BlkR w F μ (below N) cs b := by
  cases b1 <;> cases b <;> first | exact h.elim | skip
  · rename_i l m
    obtain ⟨h1, h2⟩ := h
    have hlen : l.length = m.length := by have := congrArg List.length h1; simpa using this
    refine ⟨hlen ▸ hB.1, fun j hj => ?_⟩
    have hj' : j < l.length := hlen ▸ hj
    have h3 : nrm (l.getD j .top) = nrmE (m.getD j .top) := by
      have := congrArg (fun x => x.getD j .top) h1
      simpa [List.getD, hj, hj'] using this
    have h4 : Abs.ref2 N (m.getD j .top) = true := by
      simp only [List.all_eq_true] at h2
      simpa [List.getD, hj] using h2 _ (List.getElem_mem hj)
    exact (VR.alike h3 (hB.2 j hj')).ref2 h4
  · obtain ⟨rfl, rfl, h3⟩ := h
    exact ⟨hB.1, fun i j hi hj => h3 i j hi hj ▸ hB.2 i j hi hj⟩
  · obtain ⟨rfl, rfl, h3⟩ := h
    exact ⟨hB.1, fun i j hi hj => h3 i j hi hj ▸ hB.2 i j hi hj⟩

/-- What is to be shown for a frame that knows less. -/
def FmOb (s : SSt) (nt N : Nat) (l : List (Nat × AV)) (hs : List (Nat × Blk)) : Prop := ((Nat.beq s.nt nt && N.ble s.N) && l.all (fun p => ref2 N p.2)) = true ∧ l.map (fun p => nrm (s.tm p.1)) = l.map (fun p => nrmE p.2) ∧ HsOb s.H N hs
theorem FmOb.of {s : SSt} {nt N : Nat} {l : List (Nat × AV)} {hs : List (Nat × Blk)} (h : FmOb s nt N l hs) : (Nat.beq s.nt nt && N.ble s.N) = true ∧ TmOb s N l ∧ HsOb s.H N hs := by
  obtain ⟨h1, h2, h3⟩ := h
  simp only [Bool.and_eq_true] at h1 ⊢
  exact ⟨h1.1, ⟨h2, by simpa using h1.2⟩, h3⟩

theorem fm_SR {s : SSt} {a : Act} {nt N : Nat} {l : List (Nat × AV)} {hs : List (Nat × Blk)} (h : SR w F μ (below s.N) s a) (ho : FmOb s nt N l hs) : SR w F μ (below N) (Fm nt N l hs) a := by
  obtain ⟨h1, h2, h3⟩ := ho.of
  simp only [Bool.and_eq_true] at h1
  have hN := Nat.le_of_ble_eq_true h1.2
  have hnt := Nat.eq_of_beq_eq_true h1.1
  have lv : ∀ id, Hp.live (hpl hs) id → s.H.live id := by
    rintro id ⟨b, hb, hl⟩
    obtain ⟨b1, e1, hl1⟩ := BlkOb.live (hpl_ob h3 id b hb).1 hl
    exact ⟨b1, e1, hl1⟩
  refine { hr := { lt := ?_, known := ?_, blk := ?_, nof := ?_, inj := ?_, wf := h.hr.wf, pos := h.hr.pos }, nt := h.nt.trans hnt, tm := tml_ob h h2, df := h.df }
  · intro id hid; exact h.hr.lt id (Nat.lt_of_lt_of_le hid hN)
  · intro id b hb; exact (hpl_ob h3 id b hb).2
  · intro id b hb hl
    obtain ⟨k1, _⟩ := hpl_ob h3 id b hb
    obtain ⟨b1, e1, hl1⟩ := k1.live hl
    rw [e1] at k1
    obtain ⟨cs, t, hc, hB⟩ := h.hr.blk id b1 e1 hl1
    exact ⟨cs, t, hc, hB.ob k1⟩
  · exact fun id hl => h.hr.nof id (lv id hl)
  · exact fun id id' hl hl' e => h.hr.inj id id' (lv id hl) (lv id' hl') e

theorem fm_Fr {s : SSt} {a : Act} {N0 nt N : Nat} {l : List (Nat × AV)} {hs : List (Nat × Blk)} (ho : FmOb s nt N l hs) (h0 : N0 ≤ N) (hs' : SR w' F' μ' (below s.N) s a)
    (hf : Fr w F μ (below N0) H w' F' μ' (below s.N) s.H) : Fr w F μ (below N0) H w' F' μ' (below N) (hpl hs) := by
  have lv : ∀ id, Hp.live (hpl hs) id → s.H.live id := by
    rintro id ⟨b, hb, hl⟩
    obtain ⟨b1, e1, hl1⟩ := BlkOb.live (hpl_ob ho.2.2 id b hb).1 hl
    exact ⟨b1, e1, hl1⟩
  have := hs'.hr
  exact { hf with len := fun id hid => Nat.lt_of_lt_of_le hid h0, old := fun id hid hl => hf.old id hid (lv id hl), new := fun id hid hl => hf.new id hid (lv id hl) }

/-- Into a frame that knows less (with the same numbers). -/
theorem fm_wk {s : SSt} {nt N : Nat} {l : List (Nat × AV)} {hs : List (Nat × Blk)} (ho : FmOb s nt N l hs) (hN : Nat.beq N s.N = true) : Wk (Fm nt N l hs) s := by
  intro w F μ a h
  have e := Nat.eq_of_beq_eq_true hN
  exact ⟨F, μ, fm_SR h ho, fm_Fr ho (Nat.le_of_eq e.symm) h (Fr.refl w F μ fun id hl => h.hr.live_known hl)⟩

/-- A loop's round: behind it the loop goes on in a frame whose numbers begin anew. -/
theorem aloop_again {c : Code} {Q : Exit → SSt → Prop} {s : SSt}
    (h : AWP P c (thenA (fun s1 => ∃ nt N l hs, FmOb s1 nt N l hs ∧ s.N.ble N = true ∧ ALoop P c Q (Fm nt N l hs)) Q) s) : ALoop P c Q s := by
  intro w F μ a hs
  refine LoopW.round (Code.wp_mono ?_ (h w F μ a hs))
  rintro e a' w' ⟨s', F', μ', hq, hs', hf⟩
  cases e with
  | normal =>
    obtain ⟨nt, N, l, hh, ho, hN, hl⟩ := hq
    exact LoopW.mono (fun e a'' w'' => Post.trans (fm_Fr ho (Nat.le_of_ble_eq_true hN) hs' hf) e a'' w'') (hl w' F' μ' a' (fm_SR hs' ho))
  | _ => exact ⟨s', F', μ', hq, hs', hf⟩

/-- A loop, from a frame that knows less. -/
theorem awp_loop_fm {c : Code} {Q : Exit → SSt → Prop} {s : SSt} {nt N : Nat} {l : List (Nat × AV)} {hs : List (Nat × Blk)} (ho : FmOb s nt N l hs) (hN : Nat.beq N s.N = true)
    (h : ALoop P c Q (Fm nt N l hs)) : AWP P (.loop c) Q s := awp_loop (aloop_weak (fm_wk ho hN) h)

/-! ### Rows of data -/

/-- The cells of a list of data, c an element's. -/
def cells {α : Type} [Inhabited α] (c : α → List AV) (xs : List α) : Nat → Nat → AV := fun i j => (c (xs.getD i default)).getD j .top
def sl {α : Type} [Inhabited α] (esz : Nat) (c : α → List AV) (xs : List α) : AV := .fs esz xs.length (cells c xs)

end Go.Proofs.Ytkfdfapickladaa.Abs
