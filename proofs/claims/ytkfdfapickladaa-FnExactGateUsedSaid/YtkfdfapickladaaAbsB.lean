/- What one operation does to an abstract state; the rules for code; a call's contract. No condition. -/
import Derived.Test.YtkfdfapickladaaAbsA
namespace Go.Proofs.Ytkfdfapickladaa.Abs
open Go Go.RowKit

variable {w w' w'' : World} {F F' F'' : Nat → Prop} {μ μ' μ'' : Nat → Nat} {K K' K'' : Nat → Prop} {H H' H'' : Hp}

def ofV : Value → AV
  | .bool b => .kb b
  | .int k n => .int k n
  | .string s => .str s.data.toList
  | .slice none 0 0 => .nils
  | .func f ⟨[]⟩ ⟨[]⟩ => .fn f [] []
  | v => .lit v

theorem ofV_ok (v : Value) : VR w F μ K (ofV v) v := by
  unfold ofV
  split
  · exact .kb _
  · exact .int _ _
  · exact .str _
  · exact .nils
  · exact .fn _ [] [] [] [] rfl rfl (fun i h => by cases h) (fun i h => by cases h)
  · exact .lit _

def SSt.aval (s : SSt) : Operand → AV
  | .tmp t => s.tm t
  | .const v => ofV v
  | .func f => .fn (.func f) [] []
  | .global _ => .top

theorem aval_ok {s : SSt} {a : Act} (h : SR w F μ K s a) (x : Operand) : VR w F μ K (s.aval x) (a.eval x) := by
  cases x with
  | tmp t => exact h.tm t
  | const v => exact ofV_ok v
  | func f => exact .fn _ [] [] [] [] rfl rfl (fun i h => by cases h) (fun i h => by cases h)
  | global g => exact .top _

/-- Several values. -/
def VRs (w : World) (F : Nat → Prop) (μ : Nat → Nat) (K : Nat → Prop) (l : List AV) (vs : List Value) : Prop :=
  l.length = vs.length ∧ ∀ i, i < l.length → VR w F μ K (l.getD i .top) (vs.getD i undef)

theorem VRs.step {l : List AV} {vs : List Value} (hv : VRs w F μ K l vs) (hr : HR w F μ K H) (h : Fr w F μ K H w' F' μ' K' H') : VRs w' F' μ' K' l vs :=
  ⟨hv.1, fun i hi => (hv.2 i hi).step hr h⟩

theorem VRs.nil : VRs w F μ K [] [] := ⟨rfl, fun i h => by cases h⟩
theorem VRs.cons {x : AV} {v : Value} {l : List AV} {vs : List Value} (h : VR w F μ K x v) (hs : VRs w F μ K l vs) : VRs w F μ K (x :: l) (v :: vs) :=
  ⟨by simp [hs.1], fun i hi => by
    cases i with
    | zero => simpa using h
    | succ i => simpa using hs.2 i (by simpa using hi)⟩
theorem VRs.uncons {x : AV} {v : Value} {l : List AV} {vs : List Value} (h : VRs w F μ K (x :: l) (v :: vs)) : VR w F μ K x v ∧ VRs w F μ K l vs :=
  ⟨by simpa using h.2 0 (by simp), by simpa using h.1, fun i hi => by simpa using h.2 (i + 1) (by simpa using hi)⟩
theorem VRs.nil_inv {vs : List Value} (h : VRs w F μ K [] vs) : vs = [] := List.length_eq_zero_iff.1 h.1.symm
theorem VRs.cons_inv {x : AV} {l : List AV} {vs : List Value} (h : VRs w F μ K (x :: l) vs) : ∃ v r, vs = v :: r ∧ VR w F μ K x v ∧ VRs w F μ K l r := by
  cases vs with
  | nil => exact absurd h.1 (by simp)
  | cons v r => exact ⟨v, r, rfl, h.uncons⟩

theorem avals_ok {s : SSt} {a : Act} (h : SR w F μ K s a) : ∀ l : List Operand, VRs w F μ K (l.map s.aval) (l.map a.eval)
  | [] => .nil
  | x :: l => .cons (aval_ok h x) (avals_ok h l)

/-- The heap with some blocks put anew (or struck). -/
def Hp.upd (H : Hp) : List (Nat × Option Blk) → Hp
  | [] => H
  | (i, b) :: r => fun id => if id = i then b else Hp.upd H r id

def Hp.none' : Hp := fun _ => none

def plus (K : Nat → Prop) (l : List Nat) : Nat → Prop := fun id => K id ∨ id ∈ l

/-- THE CONTRACT OF A CALL: with these arguments, in a heap of its own that holds H, function f gives r; H becomes 'H.upd up'; 'new': the numbers of new blocks. -/
def GC (P : Program) (f : FuncId) (args : List AV) (H : Hp) (r : AV) (up : List (Nat × Option Blk)) (new : List Nat) : Prop :=
  (∀ (xs : Array Value) (w : World), (callFunc f xs).run P w = .ok (.enter f xs) w) ∧
  ∀ (w : World) (F : Nat → Prop) (μ : Nat → Nat) (K : Nat → Prop) (cargs : List Value), VRs w F μ K args cargs → HR w F μ K H → (∀ id, id ∈ new → ¬ K id) →
    Calls P f ⟨cargs⟩ w fun e w' => ∃ v F' μ', e = .returned v ∧ VR w' F' μ' (plus K new) r v ∧ HR w' F' μ' (plus K new) (H.upd up) ∧
      Fr w F μ K H w' F' μ' (plus K new) (H.upd up)

/-- What an operation leaves: its value, the blocks that it turned, the new ones. -/
structure Res where
  v : AV
  up : List (Nat × Option Blk)
  new : List Nat

def OpOk (P : Program) (o : Oper) (s : SSt) (r : Res) : Prop :=
  ∀ (w : World) (F : Nat → Prop) (μ : Nat → Nat) (K : Nat → Prop) (a : Act), SR w F μ K s a → (∀ id, id ∈ r.new → ¬ K id) → ∀ (Kn : Act → World → Prop) (Q : Exit → Act → World → Prop),
    (∀ v w' F' μ', VR w' F' μ' (plus K r.new) r.v v → HR w' F' μ' (plus K r.new) (s.H.upd r.up) → Fr w F μ K s.H w' F' μ' (plus K r.new) (s.H.upd r.up) → Kn (a.put o.dst v) w') → o.wp P a w Kn Q

/-! ### The frame: what runs in a part of the heap leaves the rest. -/

structure Part (H0 H : Hp) : Prop where
  H : ∀ id, H0 id = none ∨ H0 id = H id
theorem Part.live {H0 H : Hp} (h : Part H0 H) {id : Nat} (hl : H0.live id) : H.live id := by
  obtain ⟨b, hb, hl⟩ := hl
  rcases h.H id with e | e
  · rw [e] at hb; cases hb
  · exact ⟨b, e ▸ hb, hl⟩
theorem Hp.live_congr {H H' : Hp} {id : Nat} (e : H id = H' id) (hl : H.live id) : H'.live id := by
  obtain ⟨b, hb, hl⟩ := hl
  exact ⟨b, e ▸ hb, hl⟩

theorem HR.part {H0 : Hp} (h : HR w F μ K H) (l : Part H0 H) : HR w F μ K H0 where
  lt := h.lt
  known := fun id b hb => h.known id b (by
    rcases l.H id with e | e
    · rw [e] at hb; cases hb
    · rw [← e]; exact hb)
  blk := fun id b hb => h.blk id b (by
    rcases l.H id with e | e
    · rw [e] at hb; cases hb
    · rw [← e]; exact hb)
  nof := fun id hl => h.nof id (l.live hl)
  inj := fun id id' hl hl' e => h.inj id id' (l.live hl) (l.live hl') e
  wf := h.wf
  pos := h.pos

theorem Hp.upd_nil (H : Hp) : H.upd [] = H := rfl
theorem Hp.upd_mem (H : Hp) (id : Nat) : ∀ up : List (Nat × Option Blk), (id ∈ up.map (·.1) ∧ ∀ H' : Hp, H'.upd up id = H.upd up id) ∨ (id ∉ up.map (·.1) ∧ ∀ H' : Hp, H'.upd up id = H' id)
  | [] => .inr ⟨by simp, fun _ => rfl⟩
  | (i, b) :: r => by
    by_cases e : id = i
    · exact .inl ⟨by simp [e], fun H' => by simp [Hp.upd, e]⟩
    · rcases Hp.upd_mem H id r with ⟨h, h'⟩ | ⟨h, h'⟩
      · exact .inl ⟨by simp [h], fun H' => by simp [Hp.upd, e, h']⟩
      · refine .inr ⟨?_, fun H' => by simp [Hp.upd, e, h']⟩
        intro hm
        simp only [List.map_cons, List.mem_cons] at hm
        rcases hm with hm | hm
        · exact e hm
        · exact h hm

/-- A run in the part H0 of the heap H, seen in the whole: what it turned is turned, all else is as it was. -/
theorem frame {H0 : Hp} {up : List (Nat × Option Blk)} (hr : HR w F μ K H) (l : Part H0 H)
    (hr' : HR w' F' μ' K' (H0.upd up)) (hf : Fr w F μ K H0 w' F' μ' K' (H0.upd up)) :
    HR w' F' μ' K' (H.upd up) ∧ Fr w F μ K H w' F' μ' K' (H.upd up) := by
  -- a block of H is one that H0 has, or is untouched
  have kn : ∀ {id}, H.live id → K id := fun ⟨b, hb, _⟩ => hr.known _ b hb
  have out : ∀ id, H.live id → H0 id = none → ∀ id0, H0.live id0 → μ id0 ≠ μ id := fun id h1 h2 id0 h0 e => by
    have := hr.inj id0 id (l.live h0) h1 e
    subst this
    obtain ⟨b, hb, _⟩ := h0
    rw [h2] at hb; cases hb
  have cases' : ∀ id b, (H.upd up) id = some b → (H0.upd up) id = some b ∨ (H id = some b ∧ H0 id = none) := by
    intro id b hb
    rcases Hp.upd_mem H id up with ⟨hm, he⟩ | ⟨hm, he⟩
    · exact .inl (by rw [he H0]; exact hb)
    · have h1 := he H
      have h2 := he H0
      rw [h1] at hb
      rcases l.H id with e | e
      · exact .inr ⟨hb, e⟩
      · exact .inl (by rw [h2, e]; exact hb)
  have casesL : ∀ id, (H.upd up).live id → (H0.upd up).live id ∨ (H.live id ∧ H0 id = none) := by
    rintro id ⟨b, hb, hl⟩
    rcases cases' id b hb with h1 | ⟨h1, h2⟩
    · exact .inl ⟨b, h1, hl⟩
    · exact .inr ⟨⟨b, h1, hl⟩, h2⟩
  have same : ∀ id, H.live id → H0 id = none → w'.heap[μ id]? = w.heap[μ id]? := fun id h1 h2 =>
    hf.same _ (hr.lt id (kn h1)) fun id0 h0 => out id h1 h2 id0 h0
  refine ⟨?_, ?_⟩
  · refine { lt := hr'.lt, known := ?_, blk := ?_, nof := ?_, inj := ?_, wf := hr'.wf, pos := hr'.pos }
    · intro id b hb
      rcases cases' id b hb with h1 | ⟨h1, _⟩
      · exact hr'.known id b h1
      · exact hf.len id (hr.known id b h1)
    · intro id b hb hl
      rcases cases' id b hb with h1 | ⟨h1, h2⟩
      · exact hr'.blk id b h1 hl
      · obtain ⟨cs, t, hc, hB⟩ := hr.blk id b h1 hl
        rw [hf.mu id (hr.known id b h1)]
        exact ⟨cs, t, by rw [same id ⟨b, h1, hl⟩ h2]; exact hc, hB.mono (hf.frozen (hr.part l)) hf.froz hf.mu hf.len fun id hid => hf.shape _ (hr.lt id hid)⟩
    · intro id hl hF
      rcases casesL id hl with h1 | ⟨h1, h2⟩
      · exact hr'.nof id h1 hF
      · rw [hf.mu id (kn h1)] at hF
        rcases hf.fnew _ hF with h3 | h3 | ⟨id0, h3, h4⟩
        · exact hr.nof id h1 h3
        · exact absurd (hr.lt id (kn h1)) (by omega)
        · exact out id h1 h2 id0 h3 h4
    · have mix : ∀ id id', (H0.upd up).live id → H.live id' → H0 id' = none → μ' id ≠ μ' id' := by
        intro id id' h1 h2 h3 e
        rw [hf.mu id' (kn h2)] at e
        by_cases hk : K id
        · rw [hf.mu id hk] at e
          exact out id' h2 h3 id (hf.old id hk h1) e
        · rcases hf.new id hk h1 with h4 | ⟨id0, h4, h5⟩
          · have := hr.lt id' (kn h2); omega
          · exact out id' h2 h3 id0 h4 (h5.symm.trans e)
      intro id id' hl hl' e
      rcases casesL id hl with h1 | ⟨h1, h2⟩ <;> rcases casesL id' hl' with k1 | ⟨k1, k2⟩
      · exact hr'.inj id id' h1 k1 e
      · exact absurd e (mix id id' h1 k1 k2)
      · exact absurd e.symm (mix id' id k1 h1 h2)
      · rw [hf.mu id (kn h1), hf.mu id' (kn k1)] at e
        exact hr.inj id id' h1 k1 e
  · refine { os := hf.os, tape := hf.tape, output := hf.output, size := hf.size, len := hf.len, mu := hf.mu, froz := hf.froz, shape := hf.shape, same := ?_, old := ?_, new := ?_, fnew := ?_ }
    · exact fun b hb hn => hf.same b hb fun id hid => hn id (l.live hid)
    · intro id hk hl
      rcases casesL id hl with h1 | ⟨h1, _⟩
      · exact l.live (hf.old id hk h1)
      · exact h1
    · intro id hk hl
      rcases casesL id hl with h1 | ⟨h1, _⟩
      · rcases hf.new id hk h1 with h2 | ⟨id0, h2, h3⟩
        · exact .inl h2
        · exact .inr ⟨id0, l.live h2, h3⟩
      · exact absurd (kn h1) hk
    · intro b hb
      rcases hf.fnew b hb with h1 | h1 | ⟨id, h1, h2⟩
      · exact .inl h1
      · exact .inr (.inl h1)
      · exact .inr (.inr ⟨id, l.live h1, h2⟩)

/-- An operation in a state that knows more. -/
theorem OpOk.more {P : Program} {o : Oper} {s s' : SSt} {r : Res} (h : OpOk P o s r) (l : Less s s') : OpOk P o s' r := by
  intro w F μ K a hs hn Kn Q hk
  have lp : Part s.H s'.H := ⟨l.H⟩
  refine h w F μ K a (hs.less l) hn Kn Q fun v w' F' μ' hv hr hf => ?_
  obtain ⟨h1, h2⟩ := frame hs.hr lp hr hf
  exact hk v w' F' μ' hv h1 h2

end Go.Proofs.Ytkfdfapickladaa.Abs
