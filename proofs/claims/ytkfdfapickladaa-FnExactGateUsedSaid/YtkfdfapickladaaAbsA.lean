/- My abstract values over the model's memory: what a value stands for, frozen memory, memory of the call's own; what a step may turn. No condition. -/
import Derived.Test.YtkfdfapickladaaProg
import Derived.Below
import Derived.Tactics
import Derived.Laws.World
import Derived.Orders
namespace Go.Proofs.Ytkfdfapickladaa.Abs
open Go Go.RowKit

/-- An abstract value. 'fs': a slice in memory that nobody writes any more (element size, length, cells); 'fp': an address inside an element of such memory; 'ms': a slice of a row of the call's own; 'vs': the same, whole, nil where it is empty; 'bp', 'rp': addresses in a box, in a row of the call's own. -/
inductive AV where
  | top
  | lit (v : Value)
  | int (k : IntKind) (n : Int)
  | bool (b : Bool)
  | kb (b : Bool)
  | str (s : List UInt8)
  | nils
  | agg (cs : List AV)
  | tup (vs : List AV)
  | fs (esz n : Nat) (e : Nat → Nat → AV)
  | fp (esz : Nat) (e : Nat → AV) (off : Nat)
  | ms (id i n esz : Nat)
  | vs (id n esz : Nat)
  | bp (id off : Nat)
  | rp (id esz i j : Nat)
  | ifc (t : TypeId) (v : AV)
  | fn (f : Fn) (first cap : List AV)

instance : Inhabited AV := ⟨.top⟩

/-- No block at all: what stands so is closed. -/
def NoK : Nat → Prop := fun _ => False

/-- Abstract value 'a' stands for value 'v' in world w: F: the frozen blocks; μ: where the call's own blocks lie; K: which numbers of blocks are given. What lies in frozen memory leads to frozen memory alone. -/
inductive VR (w : World) (F : Nat → Prop) (μ : Nat → Nat) : (Nat → Prop) → AV → Value → Prop
  | top {K : Nat → Prop} (v : Value) : VR w F μ K .top v
  | lit {K : Nat → Prop} (v : Value) : VR w F μ K (.lit v) v
  | int {K : Nat → Prop} (k : IntKind) (n : Int) : VR w F μ K (.int k n) (.int k n)
  | bool {K : Nat → Prop} (b : Bool) : VR w F μ K (.bool b) (.bool b)
  | kb {K : Nat → Prop} (b : Bool) : VR w F μ K (.kb b) (.bool b)
  | str {K : Nat → Prop} (s : List UInt8) : VR w F μ K (.str s) (.string ⟨⟨s⟩⟩)
  | nils {K : Nat → Prop} : VR w F μ K .nils (.slice none 0 0)
  | agg {K : Nat → Prop} (cs : List AV) (vs : List Value) (h : cs.length = vs.length) (hv : ∀ i, i < cs.length → VR w F μ K (cs.getD i .top) (vs.getD i undef)) : VR w F μ K (.agg cs) (.agg ⟨vs⟩)
  | tup {K : Nat → Prop} (cs : List AV) (vs : List Value) (h : cs.length = vs.length) (hv : ∀ i, i < cs.length → VR w F μ K (cs.getD i .top) (vs.getD i undef)) : VR w F μ K (.tup cs) (.tuple ⟨vs⟩)
  | fs {K : Nat → Prop} (esz n : Nat) (e : Nat → Nat → AV) (b o cap : Nat) (u : Nat → Nat → Value) (hF : F b) (hc : n ≤ cap)
      (hu : ∀ i j, i < n → j < esz → w.cell? ⟨b, o + i * esz + j, none⟩ = some (u i j) ∧ (u i j).oneCell' = true) (hv : ∀ i j, i < n → j < esz → VR w F μ NoK (e i j) (u i j)) :
      VR w F μ K (.fs esz n e) (.slice (some ⟨b, o, none⟩) n cap)
  | fsnil {K : Nat → Prop} (esz : Nat) (e : Nat → Nat → AV) (a : Option Addr) (cap : Nat) : VR w F μ K (.fs esz 0 e) (.slice a 0 cap)
  | fp {K : Nat → Prop} (esz : Nat) (e : Nat → AV) (off b o : Nat) (u : Nat → Value) (hF : F b) (hu : ∀ j, off + j < esz → w.cell? ⟨b, o + j, none⟩ = some (u j))
      (hv : ∀ j, off + j < esz → VR w F μ NoK (e (off + j)) (u j)) : VR w F μ K (.fp esz e off) (.pointer (some ⟨b, o, none⟩))
  | ms {K : Nat → Prop} (id i n esz cap sz : Nat) (t : TypeId) (hid : K id) (hc : n ≤ cap) (hs : w.shape? (μ id) = some (t, sz)) (hsz : (i + cap) * esz ≤ sz) :
      VR w F μ K (.ms id i n esz) (.slice (some ⟨μ id, i * esz, none⟩) n cap)
  | vs {K : Nat → Prop} (id n esz cap sz : Nat) (t : TypeId) (hn : n ≠ 0) (hid : K id) (hc : n ≤ cap) (hs : w.shape? (μ id) = some (t, sz)) (hsz : cap * esz ≤ sz) :
      VR w F μ K (.vs id n esz) (.slice (some ⟨μ id, 0, none⟩) n cap)
  | vsnil {K : Nat → Prop} (id esz : Nat) : VR w F μ K (.vs id 0 esz) (.slice none 0 0)
  | bp {K : Nat → Prop} (id off : Nat) (hid : K id) : VR w F μ K (.bp id off) (.pointer (some ⟨μ id, off, none⟩))
  | rp {K : Nat → Prop} (id esz i j : Nat) (hid : K id) : VR w F μ K (.rp id esz i j) (.pointer (some ⟨μ id, i * esz + j, none⟩))
  | ifc {K : Nat → Prop} (t : TypeId) (a : AV) (v : Value) (h : VR w F μ K a v) : VR w F μ K (.ifc t a) (.iface t v)
  | fn {K : Nat → Prop} (f : Fn) (xs ys : List AV) (vs us : List Value) (h : xs.length = vs.length) (h' : ys.length = us.length)
      (hv : ∀ i, i < xs.length → VR w F μ K (xs.getD i .top) (vs.getD i undef)) (hu : ∀ i, i < ys.length → VR w F μ K (ys.getD i .top) (us.getD i undef)) :
      VR w F μ K (.fn f xs ys) (.func f ⟨vs⟩ ⟨us⟩)

theorem VR.mono {w w' : World} {F F' : Nat → Prop} {μ μ' : Nat → Nat} {K K' : Nat → Prop} {a : AV} {v : Value} (h : VR w F μ K a v)
    (hw : ∀ b, F b → w'.heap[b]? = w.heap[b]?) (hF : ∀ b, F b → F' b) (hμ : ∀ id, K id → μ' id = μ id) (hK : ∀ id, K id → K' id)
    (hs : ∀ id, K id → w'.shape? (μ id) = w.shape? (μ id)) : VR w' F' μ' K' a v := by
  induction h generalizing K' with
  | top v => exact .top v
  | lit v => exact .lit v
  | int k n => exact .int k n
  | bool b => exact .bool b
  | kb b => exact .kb b
  | str s => exact .str s
  | nils => exact .nils
  | agg cs vs h _ ih => exact .agg cs vs h fun i hi => ih i hi hμ hK hs
  | tup cs vs h _ ih => exact .tup cs vs h fun i hi => ih i hi hμ hK hs
  | fs esz n e b o cap u hb hc hu _ ih =>
    exact .fs esz n e b o cap u (hF b hb) hc (fun i j hi hj => by rw [World.cell?_of_block (hw b hb)]; exact hu i j hi hj) fun i j hi hj => ih i j hi hj (fun _ h => h.elim) (fun _ h => h) (fun _ h => h.elim)
  | fsnil esz e a cap => exact .fsnil esz e a cap
  | fp esz e off b o u hb hu _ ih =>
    exact .fp esz e off b o u (hF b hb) (fun j hj => by rw [World.cell?_of_block (hw b hb)]; exact hu j hj) fun j hj => ih j hj (fun _ h => h.elim) (fun _ h => h) (fun _ h => h.elim)
  | ms id i n esz cap sz t hid hc hsh hsz =>
    rw [← hμ id hid]
    exact .ms id i n esz cap sz t (hK id hid) hc (by rw [hμ id hid, hs id hid]; exact hsh) hsz
  | vs id n esz cap sz t hn hid hc hsh hsz =>
    rw [← hμ id hid]
    exact .vs id n esz cap sz t hn (hK id hid) hc (by rw [hμ id hid, hs id hid]; exact hsh) hsz
  | vsnil id esz => exact .vsnil id esz
  | bp id off hid => rw [← hμ id hid]; exact .bp id off (hK id hid)
  | rp id esz i j hid => rw [← hμ id hid]; exact .rp id esz i j (hK id hid)
  | ifc t a v _ ih => exact .ifc t a v (ih hμ hK hs)
  | fn f xs ys vs us h h' _ _ ih ih' => exact .fn f xs ys vs us h h' (fun i hi => ih i hi hμ hK hs) (fun i hi => ih' i hi hμ hK hs)

/-- What is closed stands wherever the call's own blocks lie. -/
theorem VR.up {w : World} {F : Nat → Prop} {μ μ' : Nat → Nat} {K : Nat → Prop} {a : AV} {v : Value} (h : VR w F μ NoK a v) : VR w F μ' K a v :=
  h.mono (fun _ _ => rfl) (fun _ h => h) (fun _ h => h.elim) (fun _ h => h.elim) (fun _ h => h.elim)

/-- Is a value of one cell surely closed? -/
def cloA1 : AV → Bool
  | .lit _ | .int _ _ | .bool _ | .kb _ | .str _ | .nils | .fs _ _ _ | .fp _ _ _ => true
  | _ => false
def cloA : AV → Bool
  | .agg cs => cs.all cloA1
  | a => cloA1 a
theorem VR.clo1 {w : World} {F : Nat → Prop} {μ : Nat → Nat} {K : Nat → Prop} {a : AV} {v : Value} (h : VR w F μ K a v) (hc : cloA1 a = true) : VR w F μ NoK a v := by
  cases h <;> first
    | (simp [cloA1] at hc; done)
    | exact .lit _ | exact .int _ _ | exact .bool _ | exact .kb _ | exact .str _ | exact .nils | exact .fsnil _ _ _ _
    | exact .fs _ _ _ _ _ _ _ ‹_› ‹_› ‹_› ‹_›
    | exact .fp _ _ _ _ _ _ ‹_› ‹_› ‹_›
theorem VR.clo {w : World} {F : Nat → Prop} {μ : Nat → Nat} {K : Nat → Prop} {a : AV} {v : Value} (h : VR w F μ K a v) (hc : cloA a = true) : VR w F μ NoK a v := by
  cases a with
  | agg cs =>
    cases h with
    | agg _ vs hl hv =>
      refine .agg cs vs hl fun i hi => (hv i hi).clo1 ?_
      simp only [cloA, List.all_eq_true] at hc
      simpa [List.getD, hi] using hc _ (List.getElem_mem hi)
  | _ => exact h.clo1 hc

/-- A block of the call's own: a box (a variable), or a row (an array) of n elements of esz cells, all closed; 'vrow': the same, and no block at all where it is empty. -/
inductive Blk where
  | box (l : List AV)
  | row (esz n : Nat) (e : Nat → Nat → AV)
  | vrow (esz n : Nat) (e : Nat → Nat → AV)

def BlkR (w : World) (F : Nat → Prop) (μ : Nat → Nat) (K : Nat → Prop) (cs : Array Value) : Blk → Prop
  | .box l => l.length ≤ cs.size ∧ ∀ j, j < l.length → VR w F μ K (l.getD j .top) (cs.getD j undef)
  | .row esz n e | .vrow esz n e => n * esz ≤ cs.size ∧ ∀ i j, i < n → j < esz → VR w F μ NoK (e i j) (cs.getD (i * esz + j) undef) ∧ (cs.getD (i * esz + j) undef).oneCell' = true

theorem BlkR.mono {w w' : World} {F F' : Nat → Prop} {μ μ' : Nat → Nat} {K K' : Nat → Prop} {cs : Array Value} {b : Blk} (h : BlkR w F μ K cs b)
    (hw : ∀ b, F b → w'.heap[b]? = w.heap[b]?) (hF : ∀ b, F b → F' b) (hμ : ∀ id, K id → μ' id = μ id) (hK : ∀ id, K id → K' id)
    (hs : ∀ id, K id → w'.shape? (μ id) = w.shape? (μ id)) : BlkR w' F' μ' K' cs b := by
  cases b with
  | box l => exact ⟨h.1, fun j hj => (h.2 j hj).mono hw hF hμ hK hs⟩
  | row esz n e => exact ⟨h.1, fun i j hi hj => ⟨(h.2 i j hi hj).1.mono hw hF (fun _ h => h.elim) (fun _ h => h) (fun _ h => h.elim), (h.2 i j hi hj).2⟩⟩
  | vrow esz n e => exact ⟨h.1, fun i j hi hj => ⟨(h.2 i j hi hj).1.mono hw hF (fun _ h => h.elim) (fun _ h => h) (fun _ h => h.elim), (h.2 i j hi hj).2⟩⟩

/-- The call's own blocks, by their numbers. -/
abbrev Hp := Nat → Option Blk
def Blk.lies : Blk → Bool
  | .vrow _ n _ => n != 0
  | _ => true
def Hp.live (H : Hp) (id : Nat) : Prop := ∃ b, H id = some b ∧ b.lies = true

/-- The call's own memory as it stands. -/
structure HR (w : World) (F : Nat → Prop) (μ : Nat → Nat) (K : Nat → Prop) (H : Hp) : Prop where
  lt : ∀ id, K id → μ id < w.heap.size
  known : ∀ id b, H id = some b → K id
  blk : ∀ id b, H id = some b → b.lies = true → ∃ cs t, w.heap[μ id]? = some (.cells cs t (0, 0)) ∧ BlkR w F μ K cs b
  nof : ∀ id, H.live id → ¬ F (μ id)
  inj : ∀ id id', H.live id → H.live id' → μ id = μ id' → id = id'
  wf : ∀ b, F b → b < w.heap.size
  pos : 0 < w.heap.size

/-- What a piece of code may have turned. -/
structure Fr (w : World) (F : Nat → Prop) (μ : Nat → Nat) (K : Nat → Prop) (H : Hp) (w' : World) (F' : Nat → Prop) (μ' : Nat → Nat) (K' : Nat → Prop) (H' : Hp) : Prop where
  os : w'.os = w.os
  tape : w'.tape = w.tape
  output : w'.output = w.output
  size : w.heap.size ≤ w'.heap.size
  len : ∀ id, K id → K' id
  mu : ∀ id, K id → μ' id = μ id
  froz : ∀ b, F b → F' b
  shape : ∀ b, b < w.heap.size → w'.shape? b = w.shape? b
  same : ∀ b, b < w.heap.size → (∀ id, H.live id → μ id ≠ b) → w'.heap[b]? = w.heap[b]?
  old : ∀ id, K id → H'.live id → H.live id
  new : ∀ id, ¬ K id → H'.live id → w.heap.size ≤ μ' id ∨ ∃ id0, H.live id0 ∧ μ' id = μ id0
  fnew : ∀ b, F' b → F b ∨ w.heap.size ≤ b ∨ ∃ id, H.live id ∧ μ id = b

variable {w w' w'' : World} {F F' F'' : Nat → Prop} {μ μ' μ'' : Nat → Nat} {K K' K'' : Nat → Prop} {H H' H'' : Hp}

theorem Fr.refl (w : World) (F : Nat → Prop) (μ : Nat → Nat) {K : Nat → Prop} {H : Hp} (hk : ∀ id, H.live id → K id) : Fr w F μ K H w F μ K H :=
  ⟨rfl, rfl, rfl, Nat.le_refl _, fun _ h => h, fun _ _ => rfl, fun _ h => h, fun _ _ => rfl, fun _ _ _ => rfl, fun _ _ h => h,
   fun id h hl => absurd (hk id hl) h, fun _ h => .inl h⟩

open Classical in
theorem Fr.trans (h : Fr w F μ K H w' F' μ' K' H') (k : Fr w' F' μ' K' H' w'' F'' μ'' K'' H'') : Fr w F μ K H w'' F'' μ'' K'' H'' where
  os := k.os.trans h.os
  tape := k.tape.trans h.tape
  output := k.output.trans h.output
  size := Nat.le_trans h.size k.size
  len := fun id hid => k.len id (h.len id hid)
  mu := fun id hid => (k.mu id (h.len id hid)).trans (h.mu id hid)
  froz := fun b hb => k.froz b (h.froz b hb)
  shape := fun b hb => (k.shape b (Nat.lt_of_lt_of_le hb h.size)).trans (h.shape b hb)
  same := fun b hb hn => (k.same b (Nat.lt_of_lt_of_le hb h.size) fun id hid e => by
      by_cases hl : K id
      · exact hn id (h.old id hl hid) ((h.mu id hl).symm.trans e)
      · rcases h.new id hl hid with h1 | ⟨id0, h0, h1⟩
        · omega
        · exact hn id0 h0 (h1.symm.trans e)).trans (h.same b hb hn)
  old := fun id hid hl => h.old id hid (k.old id (h.len id hid) hl)
  new := fun id hid hl => by
    by_cases hl' : K' id
    · rw [k.mu id hl']; exact h.new id hid (k.old id hl' hl)
    · rcases k.new id hl' hl with h1 | ⟨id0, h0, h1⟩
      · exact .inl (Nat.le_trans h.size h1)
      · by_cases h2 : K id0
        · exact .inr ⟨id0, h.old id0 h2 h0, h1.trans (h.mu id0 h2)⟩
        · rw [h1]; exact h.new id0 h2 h0
  fnew := fun b hb => by
    rcases k.fnew b hb with h1 | h1 | ⟨id, h0, h1⟩
    · exact h.fnew b h1
    · exact .inr (.inl (Nat.le_trans h.size h1))
    · by_cases h2 : K id
      · exact .inr (.inr ⟨id, h.old id h2 h0, (h.mu id h2).symm.trans h1⟩)
      · rcases h.new id h2 h0 with h3 | ⟨id0, h3, h4⟩
        · exact .inr (.inl (h1 ▸ h3))
        · exact .inr (.inr ⟨id0, h3, h4.symm.trans h1⟩)

/-- A frozen block stays as it was. -/
theorem Fr.frozen (h : Fr w F μ K H w' F' μ' K' H') (hr : HR w F μ K H) (b : Nat) (hb : F b) : w'.heap[b]? = w.heap[b]? :=
  h.same b (hr.wf b hb) fun id hid e => hr.nof id hid (e ▸ hb)

theorem VR.step {a : AV} {v : Value} (hv : VR w F μ K a v) (hr : HR w F μ K H) (h : Fr w F μ K H w' F' μ' K' H') : VR w' F' μ' K' a v :=
  hv.mono (h.frozen hr) h.froz h.mu h.len fun id hid => h.shape _ (hr.lt id hid)
theorem BlkR.step {cs : Array Value} {b : Blk} (hv : BlkR w F μ K cs b) (hr : HR w F μ K H) (h : Fr w F μ K H w' F' μ' K' H') : BlkR w' F' μ' K' cs b :=
  hv.mono (h.frozen hr) h.froz h.mu h.len fun id hid => h.shape _ (hr.lt id hid)

/-! ### A state -/

/-- A state of a function's frame: how many temporaries it has, the next number of a block, what the temporaries hold, the call's own blocks. -/
structure SSt where
  nt : Nat
  N : Nat
  tm : Nat → AV
  H : Hp

structure SR (w : World) (F : Nat → Prop) (μ : Nat → Nat) (K : Nat → Prop) (s : SSt) (a : Act) : Prop where
  hr : HR w F μ K s.H
  nt : a.tmps.size = s.nt
  tm : ∀ t, VR w F μ K (s.tm t) (a.tmps.getD t undef)
  df : a.defers = []

/-- s' knows less than s. -/
structure Less (s' s : SSt) : Prop where
  nt : s'.nt = s.nt
  tm : ∀ t, s'.tm t = .top ∨ s'.tm t = s.tm t
  H : ∀ id, s'.H id = none ∨ s'.H id = s.H id

theorem Less.live {s s' : SSt} (h : Less s' s) {id : Nat} (hl : s'.H.live id) : s.H.live id := by
  obtain ⟨b, hb, hl⟩ := hl
  rcases h.H id with e | e
  · rw [e] at hb; cases hb
  · exact ⟨b, e ▸ hb, hl⟩

theorem SR.less {s s' : SSt} {a : Act} (h : SR w F μ K s a) (l : Less s' s) : SR w F μ K s' a where
  hr := {
    lt := h.hr.lt
    known := fun id b hb => h.hr.known id b (by
      rcases l.H id with e | e
      · rw [e] at hb; cases hb
      · rw [← e]; exact hb)
    blk := fun id b hb => h.hr.blk id b (by
      rcases l.H id with e | e
      · rw [e] at hb; cases hb
      · rw [← e]; exact hb)
    nof := fun id hl => h.hr.nof id (l.live hl)
    inj := fun id id' hl hl' e => h.hr.inj id id' (l.live hl) (l.live hl') e
    wf := h.hr.wf
    pos := h.hr.pos }
  nt := h.nt.trans l.nt.symm
  tm := fun t => by
    rcases l.tm t with e | e
    · rw [e]; exact .top _
    · rw [e]; exact h.tm t
  df := h.df

end Go.Proofs.Ytkfdfapickladaa.Abs
