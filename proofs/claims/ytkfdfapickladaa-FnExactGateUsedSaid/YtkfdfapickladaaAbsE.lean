/- Operations that only yield a value, the second part: addresses, loads, parts, lengths, slices. No condition. -/
import Derived.Test.YtkfdfapickladaaAbsD
namespace Go.Proofs.Ytkfdfapickladaa.Abs
open Go Go.RowKit

variable {w w' w'' : World} {F F' F'' : Nat → Prop} {μ μ' μ'' : Nat → Nat} {K K' K'' : Nat → Prop} {H H' H'' : Hp} {P : Program}

theorem add_mk (b o n : Nat) : (⟨b, o, none⟩ : Addr).add n = ⟨b, o + n, none⟩ := by
  unfold Addr.add
  split
  · rename_i h; subst h; rfl
  · rfl

/-! ### The address of a field -/

theorem run_fieldPlace {f : Field} {i : TypeInfo} (hi : P.info? f.type = some i) (hz : i.size ≠ 0) (b o : Nat) :
    (fieldPlace ⟨b, o, none⟩ f).run P w = .ok ⟨b, o + f.offset, none⟩ w := by
  simp [fieldPlace, run_siz hi, hz, add_mk]

def fieldOf (P : Program) (t : TypeId) (k : Nat) : Option Field :=
  match P.underlying t with
  | some (.struct fs) => fs[k]?
  | _ => none
/-- The offset of a field whose type takes cells. -/
def offOf (P : Program) (t : TypeId) (k : Nat) : Option Nat :=
  match fieldOf P t k with
  | some f => match P.info? f.type with
    | some i => if i.size == 0 then none else some f.offset
    | none => none
  | none => none

theorem run_fieldAt {t : TypeId} {k off : Nat} (h : offOf P t k = some off) (b o : Nat) : (Instr.fieldAt t (.pointer (some ⟨b, o, none⟩)) k).run P w = .ok (.pointer (some ⟨b, o + off, none⟩)) w := by
  unfold offOf fieldOf at h
  split at h
  · rename_i f hf
    split at hf
    · rename_i fs hu
      split at h
      · rename_i i hi
        split at h
        · cases h
        · rename_i hz
          simp only [Option.some.injEq] at h
          subst h
          have hz' : i.size ≠ 0 := by simpa using hz
          simp [Instr.fieldAt, run_und hu, hf, Instr.sureAddr, run_fieldPlace hi hz']
      · cases h
    · cases hf
  · cases h

/-- An address that a field's offset is added to. -/
def addA (a : AV) (off : Nat) : Option AV :=
  match a with
  | .fp esz e o => some (.fp esz e (o + off))
  | .bp id o => some (.bp id (o + off))
  | .rp id esz i j => some (.rp id esz i (j + off))
  | _ => none

theorem addA_ok {a r : AV} {off : Nat} (h : addA a off = some r) {v : Value} (hv : VR w F μ K a v) :
    ∃ b o, v = .pointer (some ⟨b, o, none⟩) ∧ VR w F μ K r (.pointer (some ⟨b, o + off, none⟩)) := by
  cases a <;> simp [addA] at h <;> subst h
  · cases hv with
    | fp esz e o b o' u hF hu hv =>
      refine ⟨b, o', rfl, .fp _ _ _ b _ (fun j => u (off + j)) hF (fun j hj => ?_) (fun j hj => ?_)⟩
      · have := hu (off + j) (by omega); rw [← this]; congr 2; omega
      · have := hv (off + j) (by omega); rwa [← Nat.add_assoc] at this
  · cases hv with | bp id o hid => exact ⟨_, _, rfl, .bp _ _ hid⟩
  · cases hv with | rp id esz i j hid => exact ⟨_, _, rfl, by rw [Nat.add_assoc]; exact .rp _ _ _ _ hid⟩

theorem op_fieldAddr {o : Oper} {s : SSt} {x : Operand} {t : TypeId} {k off : Nat} {a r : AV} (ho : o.op = .fieldAddr t x k) (hx : s.aval x = a) (hf : offOf P t k = some off) (hr : addA a off = some r) :
    OpOk P o s ⟨r, [], []⟩ :=
  opok_value fun w F μ K a hs => by
    have h := aval_ok hs x
    rw [hx] at h
    obtain ⟨b, o', hv, hr'⟩ := addA_ok hr h
    exact ⟨_, by simp [execOp, ho, hv, run_fieldAt hf], hr'⟩

theorem op_nilCheck {o : Oper} {s : SSt} {x : Operand} {a r : AV} (ho : o.op = .nilCheck x) (hx : s.aval x = a) (hr : addA a 0 = some r) : OpOk P o s ⟨a, [], []⟩ :=
  opok_value fun w F μ K a hs => by
    have h := aval_ok hs x
    rw [hx] at h
    obtain ⟨b, o', hv, _⟩ := addA_ok hr h
    exact ⟨_, by simp only [execOp, ho, hv]; rfl, hv ▸ h⟩

/-! ### The address of an element -/

theorem op_indexAddr_fs {o : Oper} {s : SSt} {x y : Operand} {t et : TypeId} {ti : TypeInfo} {esz n : Nat} {e : Nat → Nat → AV} {k : IntKind} {i : Int} (ho : o.op = .indexAddr t x y) (hx : s.aval x = .fs esz n e) (hy : s.aval y = .int k i)
    (ht : P.underlying t = some (.slice et)) (hi : P.info? et = some ti) (hs : ti.size = esz) (h0 : 0 ≤ i) (h1 : i < n) : OpOk P o s ⟨.fp esz (e i.toNat) 0, [], []⟩ :=
  opok_value fun w F μ K a hsr => by
    have h := aval_ok hsr x
    rw [hx] at h
    have h' := aval_ok hsr y
    rw [hy] at h'
    have hlt : i.toNat < n := by omega
    generalize hv : a.eval x = v at h
    cases h with
    | fs _ _ _ b o' cap u hF hc hu hv' =>
      refine ⟨.pointer (some ⟨b, o' + i.toNat * esz, none⟩), ?_, .fp _ _ _ b _ (fun j => u i.toNat j) hF (fun j hj => ?_) (fun j hj => ?_)⟩
      · simp [execOp, ho, hv, h'.int_inv, Instr.indexAt, asIntOf, run_und ht, h0, h1, run_siz hi, hs, add_mk]
      · exact (hu i.toNat j hlt (by omega)).1
      · simpa using hv' i.toNat j hlt (by omega)
    | fsnil => omega

/-- A whole row or a part of it: its number, its first element, its length, its element's size. -/
def rowOf : AV → Option (Nat × Nat × Nat × Nat)
  | .ms id i n esz => some (id, i, n, esz)
  | .vs id n esz => some (id, 0, n, esz)
  | _ => none

theorem rowOf_ok {a : AV} {id i n esz : Nat} (h : rowOf a = some (id, i, n, esz)) {v : Value} (hv : VR w F μ K a v) (hn : n ≠ 0) :
    ∃ cap, v = .slice (some ⟨μ id, i * esz, none⟩) n cap ∧ n ≤ cap ∧ K id := by
  cases a <;> simp [rowOf] at h
  · obtain ⟨rfl, rfl, rfl, rfl⟩ := h
    cases hv with | ms id i n esz cap sz t hid hc hs hsz => exact ⟨cap, rfl, hc, hid⟩
  · obtain ⟨rfl, rfl, rfl, rfl⟩ := h
    cases hv with
    | vs id n esz cap sz t hn hid hc hs hsz => exact ⟨cap, by simp, hc, hid⟩
    | vsnil => exact absurd rfl hn

def addNat (i k : Nat) : Nat := match i with | 0 => k | _ => i + k
theorem addNat_eq (i k : Nat) : addNat i k = i + k := by cases i <;> simp [addNat]

theorem op_indexAddr_ms {o : Oper} {s : SSt} {x y : Operand} {t et : TypeId} {ti : TypeInfo} {id i0 esz n : Nat} {k : IntKind} {i : Int} (ho : o.op = .indexAddr t x y) (hx : rowOf (s.aval x) = some (id, i0, n, esz)) (hy : s.aval y = .int k i)
    (ht : P.underlying t = some (.slice et)) (hi : P.info? et = some ti) (hs : ti.size = esz) (h0 : 0 ≤ i) (h1 : i < n) : OpOk P o s ⟨.rp id esz (addNat i0 i.toNat) 0, [], []⟩ :=
  opok_value fun w F μ K a hsr => by
    have h' := aval_ok hsr y
    rw [hy] at h'
    obtain ⟨cap, hv, _, hid⟩ := rowOf_ok hx (aval_ok hsr x) (by omega)
    refine ⟨.pointer (some ⟨μ id, i0 * esz + i.toNat * esz, none⟩), ?_, ?_⟩
    · simp [execOp, ho, hv, h'.int_inv, Instr.indexAt, asIntOf, run_und ht, h0, h1, run_siz hi, hs, add_mk]
    · have := VR.rp (w := w) (F := F) (μ := μ) (K := K) id esz (addNat i0 i.toNat) 0 hid
      rw [addNat_eq] at this ⊢
      rwa [Nat.add_mul, Nat.add_zero] at this

/-! ### Loads -/

theorem loadVar_agg {t : TypeId} {d : TypeDesc} {i : TypeInfo} (ht : P.underlying t = some d) (hi : P.info? t = some i) (ha : aggD d = true) (b o : Nat) (u : Nat → Value)
    (hu : ∀ j, j < i.size → w.cell? ⟨b, o + j, none⟩ = some (u j)) : (Instr.loadAt t (.pointer (some ⟨b, o, none⟩))).run P w = .ok (.agg ⟨(List.range i.size).map u⟩) w := by
  simp only [Instr.loadAt, Instr.sureAddr, Sem.run_bind, Sem.run_pure, Result.andThen_ok, loadVar, run_agg ht, ha, if_true, run_siz hi]
  rw [run_loadCells w _ _ u fun j hj => by rw [add_mk]; exact hu j hj]
  rfl
theorem loadVar_one {t : TypeId} {d : TypeDesc} (ht : P.underlying t = some d) (ha : aggD d = false) (b o : Nat) (u : Value)
    (hu : w.cell? ⟨b, o, none⟩ = some u) : (Instr.loadAt t (.pointer (some ⟨b, o, none⟩))).run P w = .ok u w := by
  simp only [Instr.loadAt, Instr.sureAddr, Sem.run_bind, Sem.run_pure, Result.andThen_ok, loadVar, run_agg ht, ha, Bool.false_eq_true, if_false]
  simp [hu]

/-- All of them hold. -/
def AllP : List Prop → Prop
  | [] => True
  | p :: r => p ∧ AllP r
theorem AllP.app : ∀ {l m : List Prop}, AllP (l ++ m) → AllP l ∧ AllP m
  | [], _, h => ⟨trivial, h⟩
  | _ :: _, _, h => ⟨⟨h.1, (AllP.app h.2).1⟩, (AllP.app h.2).2⟩

/-- The cells behind an address, n of them. -/
def cellsAt (H : Hp) (a : AV) (n : Nat) : Option ((Nat → AV) × List Prop) :=
  match a with
  | .fp esz e off => if (off + n).ble esz then some (fun j => e (off + j), []) else none
  | .bp id off => match H id with
    | some (.box l) => if (off + n).ble l.length then some (fun j => l.getD (off + j) .top, []) else none
    | _ => none
  | .rp id esz i j => match H id with
    | some (.row esz' m e) => if esz.beq esz' && (j + n).ble esz then some (fun j' => e i (j + j'), [i < m]) else none
    | some (.vrow esz' m e) => if esz.beq esz' && (j + n).ble esz then some (fun j' => e i (j + j'), [i < m]) else none
    | _ => none
  | _ => none

theorem cellsAt_ok (hr : HR w F μ K H) {a : AV} {n : Nat} {c : Nat → AV} {ob : List Prop} (h : cellsAt H a n = some (c, ob)) (hob : AllP ob) {v : Value} (hv : VR w F μ K a v) :
    ∃ (b o : Nat) (u : Nat → Value), v = .pointer (some ⟨b, o, none⟩) ∧ ∀ j, j < n → w.cell? ⟨b, o + j, none⟩ = some (u j) ∧ VR w F μ K (c j) (u j) := by
  have row : ∀ {id i j esz m : Nat} {e : Nat → Nat → AV} {cs : Array Value} {t : TypeId}, w.heap[μ id]? = some (.cells cs t (0, 0)) → m * esz ≤ cs.size → (∀ i j, i < m → j < esz → VR w F μ NoK (e i j) (cs.getD (i * esz + j) undef)) →
      i < m → j + n ≤ esz → ∀ k, k < n → w.cell? ⟨μ id, i * esz + j + k, none⟩ = some (cs.getD (i * esz + j + k) undef) ∧ VR w F μ K (e i (j + k)) (cs.getD (i * esz + j + k) undef) := by
    intro id i j esz m e cs t hc hsz hB him hjn k hk
    have h2 : (i + 1) * esz ≤ m * esz := Nat.mul_le_mul_right _ him
    rw [Nat.add_mul, Nat.one_mul] at h2
    have hlt : i * esz + j + k < cs.size := by omega
    refine ⟨by simp [World.cell?, hc, hlt], ?_⟩
    have := hB i (j + k) him (by omega)
    rw [← Nat.add_assoc] at this
    exact this.up
  cases a with
  | fp esz e off =>
    simp only [cellsAt] at h
    split at h
    · rename_i hle
      have hle := Nat.le_of_ble_eq_true hle
      simp only [Option.some.injEq, Prod.mk.injEq] at h
      obtain ⟨rfl, rfl⟩ := h
      cases hv with
      | fp _ _ _ b o u hF hu hv => exact ⟨b, o, u, rfl, fun j hj => ⟨hu j (by omega), (hv j (by omega)).up⟩⟩
    · cases h
  | bp id off =>
    simp only [cellsAt] at h
    split at h
    · rename_i l hl
      split at h
      · rename_i hle
        have hle := Nat.le_of_ble_eq_true hle
        simp only [Option.some.injEq, Prod.mk.injEq] at h
        obtain ⟨rfl, rfl⟩ := h
        obtain ⟨cs, t, hc, hB⟩ := hr.blk id _ hl rfl
        cases hv with
        | bp _ _ hid =>
          refine ⟨_, _, fun j => cs.getD (off + j) undef, rfl, fun j hj => ⟨?_, hB.2 (off + j) (by omega)⟩⟩
          have hlt : off + j < cs.size := Nat.lt_of_lt_of_le (by omega) hB.1
          simp [World.cell?, hc, hlt]
      · cases h
    · cases h
  | rp id esz i j =>
    simp only [cellsAt] at h
    split at h
    · rename_i esz' m e hl
      split at h
      · rename_i hle
        simp only [Bool.and_eq_true] at hle
        obtain ⟨h1, h2⟩ := hle
        have h1 := Nat.eq_of_beq_eq_true h1
        subst h1
        have h2 := Nat.le_of_ble_eq_true h2
        simp only [Option.some.injEq, Prod.mk.injEq] at h
        obtain ⟨rfl, rfl⟩ := h
        obtain ⟨cs, t, hc, hB⟩ := hr.blk id _ hl rfl
        cases hv with
        | rp _ _ _ _ hid => exact ⟨_, _, _, rfl, row hc hB.1 (fun i j hi hj => (hB.2 i j hi hj).1) hob.1 h2⟩
      · cases h
    · rename_i esz' m e hl
      split at h
      · rename_i hle
        simp only [Bool.and_eq_true] at hle
        obtain ⟨h1, h2⟩ := hle
        have h1 := Nat.eq_of_beq_eq_true h1
        subst h1
        have h2 := Nat.le_of_ble_eq_true h2
        simp only [Option.some.injEq, Prod.mk.injEq] at h
        obtain ⟨rfl, rfl⟩ := h
        obtain ⟨cs, t, hc, hB⟩ := hr.blk id _ hl (by have := hob.1; simp only [Blk.lies, bne_iff_ne]; omega)
        cases hv with
        | rp _ _ _ _ hid => exact ⟨_, _, _, rfl, row hc hB.1 (fun i j hi hj => (hB.2 i j hi hj).1) hob.1 h2⟩
      · cases h
    · cases h
  | _ => simp [cellsAt] at h

theorem range_map_VRs {n : Nat} {c : Nat → AV} {u : Nat → Value} (h : ∀ j, j < n → VR w F μ K (c j) (u j)) : VRs w F μ K ((List.range n).map c) ((List.range n).map u) :=
  ⟨by simp, fun i hi => by
    simp only [List.length_map, List.length_range] at hi
    simpa [List.getD, hi] using h i hi⟩

theorem op_load_agg {o : Oper} {s : SSt} {x : Operand} {t : TypeId} {d : TypeDesc} {i : TypeInfo} {c : Nat → AV} {ob : List Prop} (ho : o.op = .load t x) (ht : P.underlying t = some d) (hi : P.info? t = some i) (ha : aggD d = true)
    (hc : cellsAt s.H (s.aval x) i.size = some (c, ob)) (hob : AllP ob) : OpOk P o s ⟨.agg ((List.range i.size).map c), [], []⟩ :=
  opok_value fun w F μ K a hsr => by
    obtain ⟨b, o', u, hv, hu⟩ := cellsAt_ok hsr.hr hc hob (aval_ok hsr x)
    exact ⟨_, by simp only [execOp, ho, hv, Sem.run_bind, loadVar_agg ht hi ha b o' u (fun j hj => (hu j hj).1), Result.andThen_ok, Sem.run_pure], .mkAgg (range_map_VRs fun j hj => (hu j hj).2)⟩
theorem op_load_one {o : Oper} {s : SSt} {x : Operand} {t : TypeId} {d : TypeDesc} {c : Nat → AV} {ob : List Prop} (ho : o.op = .load t x) (ht : P.underlying t = some d) (ha : aggD d = false)
    (hc : cellsAt s.H (s.aval x) 1 = some (c, ob)) (hob : AllP ob) : OpOk P o s ⟨c 0, [], []⟩ :=
  opok_value fun w F μ K a hsr => by
    obtain ⟨b, o', u, hv, hu⟩ := cellsAt_ok hsr.hr hc hob (aval_ok hsr x)
    exact ⟨_, by simp only [execOp, ho, hv, Sem.run_bind, loadVar_one ht ha b o' (u 0) (hu 0 (by omega)).1, Result.andThen_ok, Sem.run_pure], (hu 0 (by omega)).2⟩

/-! ### A part of a value -/

theorem VRs.take_drop {l : List AV} {vs : List Value} (h : VRs w F μ K l vs) (o n : Nat) : VRs w F μ K ((l.drop o).take n) ((vs.drop o).take n) :=
  ⟨by simp [h.1], fun i hi => by
    simp only [List.length_take, List.length_drop] at hi
    have := h.2 (o + i) (by omega)
    have h2 : o + i < l.length := by omega
    have h3 : o + i < vs.length := h.1 ▸ h2
    have h4 : i < n := by omega
    simpa [List.getD, List.getElem?_take, List.getElem?_drop, h4, h2, h3] using this⟩

def partA (P : Program) (t : TypeId) (cs : List AV) (off : Nat) : Option AV :=
  match P.underlying t, P.info? t with
  | some d, some i => if aggD d then some (.agg ((cs.drop off).take i.size)) else if off.blt cs.length then some (cs.getD off .top) else none
  | _, _ => none

theorem partA_ok {t : TypeId} {cs : List AV} {vs : List Value} {off : Nat} {r : AV} (h : partA P t cs off = some r) (hv : VRs w F μ K cs vs) : ∃ v, (part t ⟨vs⟩ off).run P w = .ok v w ∧ VR w F μ K r v := by
  unfold partA at h
  split at h
  · rename_i d i hd hi
    split at h
    · rename_i ha
      cases h
      refine ⟨.agg ⟨(vs.drop off).take i.size⟩, ?_, .mkAgg (hv.take_drop off i.size)⟩
      simp only [part, Sem.run_bind, run_agg hd, ha, if_true, run_siz hi, Result.andThen_ok, Sem.run_pure]
      congr 2
      simp [List.extract_eq_take_drop]
    · rename_i ha
      split at h
      · rename_i hlt
        cases h
        have hlt : off < cs.length := Nat.le_of_ble_eq_true (by simpa [Nat.blt] using hlt)
        have hlt' : off < vs.length := hv.1 ▸ hlt
        refine ⟨vs.getD off undef, ?_, hv.2 off hlt⟩
        simp only [part, Sem.run_bind, run_agg hd, Result.andThen_ok, if_neg ha]
        simp [hlt', List.getD]
      · cases h
  · cases h

theorem op_field {o : Oper} {s : SSt} {x : Operand} {t : TypeId} {k : Nat} {f : Field} {cs : List AV} {r : AV} (ho : o.op = .field t x k) (hx : s.aval x = .agg cs) (hf : fieldOf P t k = some f) (hr : partA P f.type cs f.offset = some r) :
    OpOk P o s ⟨r, [], []⟩ :=
  opok_value fun w F μ K a hsr => by
    have h := aval_ok hsr x
    rw [hx] at h
    obtain ⟨vs, hv, hvs⟩ := h.agg_inv
    obtain ⟨v, hp, hr'⟩ := partA_ok hr hvs
    unfold fieldOf at hf
    split at hf
    · rename_i fs hu
      exact ⟨v, by simp [execOp, ho, hv, Instr.field, run_und hu, hf, asAgg, hp], hr'⟩
    · cases hf

/-! ### len -/

def lenA : AV → Option Int
  | .str s => some s.length
  | .fs _ n _ => some n
  | .ms _ _ n _ => some n
  | .vs _ n _ => some n
  | .nils => some 0
  | _ => none

def isStr : AV → Bool
  | .str _ => true
  | _ => false

theorem lenA_ok {a : AV} {n : Int} (h : lenA a = some n) {v : Value} (hv : VR w F μ K a v) :
    (isStr a = true ∧ ∃ s : ByteArray, v = .string s ∧ (s.size : Int) = n) ∨ (isStr a = false ∧ ∃ A k cap, v = .slice A k cap ∧ (k : Int) = n) := by
  cases a <;> simp [lenA] at h <;> subst h <;> cases hv
  · exact .inl ⟨rfl, _, rfl, rfl⟩
  all_goals exact .inr ⟨rfl, _, _, _, rfl, by first | rfl | simp⟩

def sliceD : TypeDesc → Bool
  | .slice _ => true
  | _ => false
def stringD : TypeDesc → Bool
  | .string => true
  | _ => false

theorem op_len {o : Oper} {s : SSt} {x : Operand} {t : TypeId} {d : TypeDesc} {n : Int} (ho : o.op = .call ⟨.builtin .len, #[x], #[t]⟩) (hx : lenA (s.aval x) = some n) (ht : P.underlying t = some d)
    (hd : (if isStr (s.aval x) then stringD d else sliceD d) = true) : OpOk P o s ⟨.int .i64 n, [], []⟩ :=
  opok_value fun w F μ K a hsr => by
    refine ⟨.int .i64 n, ?_, .int _ _⟩
    rcases lenA_ok hx (aval_ok hsr x) with ⟨h1, st, h2, rfl⟩ | ⟨h1, A, k, cap, h2, rfl⟩
    · rw [h1, if_pos rfl] at hd
      cases d <;> simp [stringD] at hd
      simp [execOp, ho, resolve, invoke, builtin, Builtin.len_, run_und ht, h2, goInt]
    · rw [h1] at hd
      cases d <;> simp [sliceD] at hd
      simp [execOp, ho, resolve, invoke, builtin, Builtin.len_, run_und ht, h2, goInt]

end Go.Proofs.Ytkfdfapickladaa.Abs
