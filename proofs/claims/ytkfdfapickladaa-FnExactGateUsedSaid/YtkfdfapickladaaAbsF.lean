/- Operations that make or write memory: variables, boxes, rows, stores, append; calls. No condition. -/
import Derived.Test.YtkfdfapickladaaAbsE
namespace Go.Proofs.Ytkfdfapickladaa.Abs
open Go Go.RowKit

variable {w w' w'' : World} {F F' F'' : Nat → Prop} {μ μ' μ'' : Nat → Nat} {K K' K'' : Nat → Prop} {H H' H'' : Hp} {P : Program}

/-! ### Cells of a value -/

/-- Is it the value of one cell? -/
def oneA : AV → Bool
  | .top | .agg _ | .tup _ => false
  | .lit (.agg _) | .lit (.tuple _) => false
  | _ => true

theorem oneA_ok {a : AV} (h : oneA a = true) {v : Value} (hv : VR w F μ K a v) : v.oneCell' = true ∧ v.cells = #[v] := by
  cases hv <;> first | exact ⟨rfl, rfl⟩ | (simp [oneA] at h; done) | skip
  cases v <;> first | exact ⟨rfl, rfl⟩ | (simp [oneA] at h; done)

/-- The cells of a value. -/
def cellsA : AV → Option (List AV)
  | .agg cs => some cs
  | a => if oneA a then some [a] else none

theorem cellsA_ok {a : AV} {l : List AV} (h : cellsA a = some l) {v : Value} (hv : VR w F μ K a v) : VRs w F μ K l v.cells.toList := by
  have one : oneA a = true → l = [a] → VRs w F μ K l v.cells.toList := fun h1 h2 => by
    rw [h2, (oneA_ok h1 hv).2]
    exact .cons hv .nil
  cases a <;> simp only [cellsA] at h
  case agg cs =>
    cases h
    obtain ⟨vs, rfl, hvs⟩ := hv.agg_inv
    exact hvs
  all_goals
    split at h
    · exact one ‹_› (by simpa using h.symm)
    · cases h

theorem VRs.clo1 {l : List AV} {vs : List Value} (h : VRs w F μ K l vs) (hc : l.all cloA1 = true) : VRs w F μ NoK l vs :=
  ⟨h.1, fun i hi => (h.2 i hi).clo1 (by
    simp only [List.all_eq_true] at hc
    simpa [List.getD, hi] using hc _ (List.getElem_mem hi))⟩
theorem VRs.getD {l : List AV} {vs : List Value} (h : VRs w F μ K l vs) (i : Nat) (hi : i < l.length) : VR w F μ K (l.getD i .top) (vs.getD i undef) := h.2 i hi

theorem getD_toList (cs : Array Value) (i : Nat) (d : Value) : cs.toList.getD i d = cs.getD i d := by
  simp [List.getD]

theorem box_ok {l : List AV} {cs : Array Value} (h : VRs w F μ K l cs.toList) : BlkR w F μ K cs (.box l) :=
  ⟨by have := h.1; simp at this; omega, fun j hj => by rw [← getD_toList]; exact h.2 j hj⟩

theorem op_box {o : Oper} {s : SSt} {x : Operand} {t : TypeId} {l : List AV} {N : Nat} (ho : o.op = .box t x) (hx : cellsA (s.aval x) = some l) : OpOk P o s ⟨.bp N 0, [(N, some (.box l))], [N]⟩ :=
  opok_alloc fun w F μ K a hs => by
    have h := cellsA_ok hx (aval_ok hs x)
    refine ⟨.pointer (some ⟨w.heap.size, 0, none⟩), (a.eval x).cells, t, w.drawn, ?_, box_ok h, fun w' μ' _ _ hm => ?_⟩
    · simp [execOp, ho, Instr.box, newVar, newRow]
    · rw [← hm]; exact .bp N 0 (.inr (by simp))

def zeroA (P : Program) (t : TypeId) : Option (List AV) :=
  match P.info? t with
  | some i => match i.zero with
    | some z => some (z.cells.toList.map ofV)
    | none => none
  | none => none

theorem map_ofV (l : List Value) : VRs w F μ K (l.map ofV) l := by
  induction l with
  | nil => exact .nil
  | cons v l ih => exact .cons (ofV_ok v) ih

theorem zeroA_ok {t : TypeId} {l : List AV} (h : zeroA P t = some l) : ∃ z, (∀ w, (zeroValue t).run P w = .ok z w) ∧ l = z.cells.toList.map ofV := by
  unfold zeroA at h
  split at h
  · rename_i i hi
    split at h
    · rename_i z hz
      exact ⟨z, fun w => run_zer hi hz, by simpa using h.symm⟩
    · cases h
  · cases h

theorem op_alloc {o : Oper} {s : SSt} {t : TypeId} {l : List AV} {N : Nat} (ho : o.op = .alloc t) (hz : zeroA P t = some l) : OpOk P o s ⟨.bp N 0, [(N, some (.box l))], [N]⟩ :=
  opok_alloc fun w F μ K a hs => by
    obtain ⟨z, hr, rfl⟩ := zeroA_ok hz
    refine ⟨.pointer (some ⟨w.heap.size, 0, none⟩), z.cells, t, w.drawn, ?_, box_ok (map_ofV _), fun w' μ' _ _ hm => ?_⟩
    · simp [execOp, ho, Instr.alloc, newVar, newRow, hr]
    · rw [← hm]; exact .bp N 0 (.inr (by simp))

/-! ### Stores -/

def setL : List AV → Nat → List AV → List AV
  | l, _, [] => l
  | l, o, x :: r => setL (l.set o x) (o + 1) r
def setV : Array Value → Nat → List Value → Array Value
  | l, _, [] => l
  | l, o, x :: r => setV (l.setIfInBounds o x) (o + 1) r

theorem setL_length (l : List AV) (o : Nat) (r : List AV) : (setL l o r).length = l.length := by
  induction r generalizing l o with
  | nil => rfl
  | cons x r ih => simp [setL, ih]
theorem setV_size (l : Array Value) (o : Nat) (r : List Value) : (setV l o r).size = l.size := by
  induction r generalizing l o with
  | nil => rfl
  | cons x r ih => simp [setV, ih]
theorem setV_getD (l : Array Value) (o : Nat) (r : List Value) (h : o + r.length ≤ l.size) (j : Nat) :
    (setV l o r).getD j undef = if o ≤ j ∧ j < o + r.length then r.getD (j - o) undef else l.getD j undef := by
  induction r generalizing l o with
  | nil => simp [setV]; intro h1 h2; omega
  | cons x r ih =>
    simp only [List.length_cons] at h
    rw [setV, ih _ _ (by simp; omega)]
    by_cases h1 : j = o
    · subst h1
      have : j < l.size := by omega
      simp [this]
      omega
    · by_cases h2 : o + 1 ≤ j ∧ j < o + 1 + r.length
      · rw [if_pos h2, if_pos (by simp; omega)]
        rw [show j - o = (j - (o + 1)) + 1 by omega]
        simp
      · rw [if_neg h2, if_neg (by simp; omega)]
        simp [Array.getElem?_setIfInBounds_ne (Ne.symm h1)]
theorem setL_getD (l : List AV) (o : Nat) (r : List AV) (h : o + r.length ≤ l.length) (j : Nat) :
    (setL l o r).getD j .top = if o ≤ j ∧ j < o + r.length then r.getD (j - o) .top else l.getD j .top := by
  induction r generalizing l o with
  | nil => simp [setL]; intro h1 h2; omega
  | cons x r ih =>
    simp only [List.length_cons] at h
    rw [setL, ih _ _ (by simp; omega)]
    by_cases h1 : j = o
    · subst h1
      have : j < l.length := by omega
      simp [this, List.getD]
      omega
    · by_cases h2 : o + 1 ≤ j ∧ j < o + 1 + r.length
      · rw [if_pos h2, if_pos (by simp; omega)]
        rw [show j - o = (j - (o + 1)) + 1 by omega]
        simp
      · rw [if_neg h2, if_neg (by simp; omega)]
        simp [List.getD, List.getElem?_set_ne (Ne.symm h1)]

theorem run_storeCells {b o : Nat} {t : TypeId} : ∀ (vs : List Value) (i : Nat) (w : World) (cs : Array Value), w.heap[b]? = some (.cells cs t (0, 0)) → (∀ v, v ∈ vs → v.oneCell' = true) → o + i + vs.length ≤ cs.size →
    (storeCells ⟨b, o, none⟩ vs i).run P w = .ok () (wset w b (setV cs (o + i) vs) t)
  | [], i, w, cs, hc, _, _ => by
    simp only [storeCells, Sem.run_pure, setV]
    congr 1
    have hlt : b < w.heap.size := (Array.getElem?_eq_some_iff.1 hc).1
    have he : w.heap.setIfInBounds b (.cells cs t (0, 0)) = w.heap := by
      refine Array.ext_getElem? fun k => ?_
      by_cases e : b = k
      · subst e; rw [hc]; simp [hlt]
      · simp [Array.getElem?_setIfInBounds_ne e]
    unfold wset
    rw [he]
  | v :: vs, i, w, cs, hc, h1, hs => by
    simp only [List.length_cons] at hs
    have hlt : b < w.heap.size := (Array.getElem?_eq_some_iff.1 hc).1
    have ho : o + i < cs.size := by omega
    have h2 : (store ((⟨b, o, none⟩ : Addr).add i) v).run P w = .ok () (wset w b (cs.setIfInBounds (o + i) v) t) := by
      rw [add_mk, run_store P w _ v .plain (h1 v (by simp)), setCell_wset hc]
      have : w.cell? ⟨b, o + i, none⟩ = some (cs[o + i]) := by simp [World.cell?, hc, ho]
      rw [this]
      simp [World.frozen?, hc]
    simp only [storeCells, Sem.run_bind, h2, Result.andThen_ok]
    rw [run_storeCells vs (i + 1) _ (cs.setIfInBounds (o + i) v) (wset_same hlt _ _) (fun u hu => h1 u (by simp [hu])) (by simp; omega), wset_wset]
    rfl

theorem run_storeAt {t : TypeId} {ti : TypeInfo} (hi : P.info? t = some ti) {b o : Nat} {et : TypeId} {cs : Array Value} (hc : w.heap[b]? = some (.cells cs et (0, 0))) {v : Value} (hsz : v.cells.size = ti.size)
    (h1 : ∀ u, u ∈ v.cells.toList → u.oneCell' = true) (hs : o + v.cells.size ≤ cs.size) : (Instr.storeAt t (.pointer (some ⟨b, o, none⟩)) v).run P w = .ok () (wset w b (setV cs o v.cells.toList) et) := by
  simp only [Instr.storeAt, Instr.sureAddr, Sem.run_bind, Sem.run_pure, Result.andThen_ok, storeVar, run_siz hi, hsz, ne_eq, not_true_eq_false, if_false]
  have := run_storeCells (P := P) (b := b) (o := o) (t := et) v.cells.toList 0 w cs hc h1 (by simpa using hs)
  simpa using this

/-- The block after a store of the cells l at an address. -/
def storeA (H : Hp) (a : AV) (l : List AV) : Option (Nat × Blk × List Prop) :=
  match a with
  | .bp id off => match H id with
    | some (.box l0) => if (off + l.length).ble l0.length then some (id, .box (setL l0 off l), []) else none
    | _ => none
  | .rp id esz i j => match H id with
    | some (.row esz' m e) => if esz.beq esz' && l.all cloA1 then (if j.beq 0 && l.length.beq esz then some (id, .row esz m (fun i' j' => if i' = i then l.getD j' .top else e i' j'), [i < m])
        else if (j + l.length).ble esz then some (id, .row esz m (fun i' j' => if i' = i then (if j ≤ j' ∧ j' < j + l.length then l.getD (j' - j) .top else e i' j') else e i' j'), [i < m]) else none) else none
    | some (.vrow esz' m e) => if esz.beq esz' && l.all cloA1 then (if j.beq 0 && l.length.beq esz then some (id, .vrow esz m (fun i' j' => if i' = i then l.getD j' .top else e i' j'), [i < m])
        else if (j + l.length).ble esz then some (id, .vrow esz m (fun i' j' => if i' = i then (if j ≤ j' ∧ j' < j + l.length then l.getD (j' - j) .top else e i' j') else e i' j'), [i < m]) else none) else none
    | _ => none
  | _ => none

theorem row_write {esz m i j : Nat} {e : Nat → Nat → AV} {l : List AV} {cs : Array Value} {vs : List Value} (hB : m * esz ≤ cs.size ∧ ∀ i j, i < m → j < esz → VR w F μ NoK (e i j) (cs.getD (i * esz + j) undef) ∧ (cs.getD (i * esz + j) undef).oneCell' = true)
    (hl : VRs w F μ NoK l vs) (h1 : ∀ u, u ∈ vs → u.oneCell' = true) (hi : i < m) (hj : j + l.length ≤ esz) :
    i * esz + j + vs.length ≤ cs.size ∧ m * esz ≤ (setV cs (i * esz + j) vs).size ∧
    ∀ i' j', i' < m → j' < esz → VR w F μ NoK (if i' = i then (if j ≤ j' ∧ j' < j + l.length then l.getD (j' - j) .top else e i' j') else e i' j') ((setV cs (i * esz + j) vs).getD (i' * esz + j') undef) ∧ ((setV cs (i * esz + j) vs).getD (i' * esz + j') undef).oneCell' = true := by
  have h2 : (i + 1) * esz ≤ m * esz := Nat.mul_le_mul_right _ hi
  rw [Nat.add_mul, Nat.one_mul] at h2
  have hlen : vs.length = l.length := hl.1.symm
  have h3 : i * esz + j + vs.length ≤ cs.size := by have := hB.1; omega
  refine ⟨h3, by rw [setV_size]; exact hB.1, fun i' j' hi' hj' => ?_⟩
  rw [setV_getD _ _ _ h3]
  by_cases e1 : i' = i
  · subst e1
    rw [if_pos rfl]
    by_cases e2 : j ≤ j' ∧ j' < j + l.length
    · rw [if_pos e2, if_pos (by omega), show i' * esz + j' - (i' * esz + j) = j' - j by omega]
      refine ⟨hl.2 _ (by omega), ?_⟩
      have : j' - j < vs.length := by omega
      simpa [List.getD, this] using h1 _ (List.getElem_mem this)
    · rw [if_neg e2, if_neg (by omega)]
      exact hB.2 i' j' hi' hj'
  · rw [if_neg e1, if_neg ?_]
    · exact hB.2 i' j' hi' hj'
    · rcases Nat.lt_or_gt_of_ne e1 with h | h
      · have h4 : (i' + 1) * esz ≤ i * esz := Nat.mul_le_mul_right _ h
        rw [Nat.add_mul, Nat.one_mul] at h4
        omega
      · have h4 : (i + 1) * esz ≤ i' * esz := Nat.mul_le_mul_right _ h
        rw [Nat.add_mul, Nat.one_mul] at h4
        omega

theorem storeA_ok (hr : HR w F μ K H) {a : AV} {l : List AV} {id : Nat} {b' : Blk} {ob : List Prop} (h : storeA H a l = some (id, b', ob)) (hob : AllP ob) {v : Value} (hv : VR w F μ K a v) {vs : List Value} (hl : VRs w F μ K l vs) (hone : ∀ u, u ∈ vs → u.oneCell' = true) :
    ∃ o b cs t, v = .pointer (some ⟨μ id, o, none⟩) ∧ H id = some b ∧ b.lies = true ∧ w.heap[μ id]? = some (.cells cs t (0, 0)) ∧ o + vs.length ≤ cs.size ∧ BlkR w F μ K (setV cs o vs) b' := by
  have full : ∀ {esz i j : Nat} {e : Nat → Nat → AV} (i' j' : Nat), j = 0 → l.length = esz → j' < esz → (if i' = i then l.getD j' .top else e i' j') = (if i' = i then (if j ≤ j' ∧ j' < j + l.length then l.getD (j' - j) .top else e i' j') else e i' j') := by
    intro esz i j e i' j' h1 h2 h3
    subst h1 h2
    simp [h3]
  cases a with
  | bp id' off =>
    simp only [storeA] at h
    split at h
    · rename_i l0 hl0
      split at h
      · rename_i hle
        have hle := Nat.le_of_ble_eq_true hle
        simp only [Option.some.injEq, Prod.mk.injEq] at h
        obtain ⟨rfl, rfl, rfl⟩ := h
        obtain ⟨cs, t, hc, hB⟩ := hr.blk _ _ hl0 rfl
        cases hv with
        | bp _ _ hid =>
          have hlen : vs.length = l.length := hl.1.symm
          have h3 : off + vs.length ≤ cs.size := by have := hB.1; omega
          refine ⟨off, _, cs, t, rfl, hl0, rfl, hc, h3, ?_, fun j hj => ?_⟩
          · rw [setL_length, setV_size]; exact hB.1
          · rw [setL_length] at hj
            rw [setL_getD _ _ _ hle, setV_getD _ _ _ h3, hlen]
            split
            · exact hl.2 _ (by omega)
            · exact hB.2 j hj
      · cases h
    · cases h
  | rp id' esz i j =>
    simp only [storeA] at h
    split at h
    · rename_i esz' m e hl0
      split at h
      · rename_i he
        simp only [Bool.and_eq_true] at he
        obtain ⟨he, hclo⟩ := he
        have he := Nat.eq_of_beq_eq_true he
        subst he
        have hl := hl.clo1 hclo
        obtain ⟨cs, t, hc, hB⟩ := hr.blk _ _ hl0 rfl
        cases hv with
        | rp _ _ _ _ hid =>
          split at h
          · rename_i hz
            simp only [Bool.and_eq_true] at hz
            have hz1 := Nat.eq_of_beq_eq_true hz.1
            have hz2 := Nat.eq_of_beq_eq_true hz.2
            simp only [Option.some.injEq, Prod.mk.injEq] at h
            obtain ⟨rfl, rfl, rfl⟩ := h
            obtain ⟨k1, k2, k3⟩ := row_write hB hl hone hob.1 (j := j) (by omega)
            exact ⟨_, _, cs, t, rfl, hl0, rfl, hc, k1, k2, fun i' j' hi' hj' => by show VR w F μ NoK (if i' = i then l.getD j' .top else e i' j') _ ∧ _; rw [full i' j' hz1 hz2 hj']; exact k3 i' j' hi' hj'⟩
          · split at h
            · rename_i hle
              have hle := Nat.le_of_ble_eq_true hle
              simp only [Option.some.injEq, Prod.mk.injEq] at h
              obtain ⟨rfl, rfl, rfl⟩ := h
              obtain ⟨k1, k2, k3⟩ := row_write hB hl hone hob.1 hle
              exact ⟨_, _, cs, t, rfl, hl0, rfl, hc, k1, k2, k3⟩
            · cases h
      · cases h
    · rename_i esz' m e hl0
      split at h
      · rename_i he
        simp only [Bool.and_eq_true] at he
        obtain ⟨he, hclo⟩ := he
        have he := Nat.eq_of_beq_eq_true he
        subst he
        have hl := hl.clo1 hclo
        cases hv with
        | rp _ _ _ _ hid =>
          split at h
          · rename_i hz
            simp only [Bool.and_eq_true] at hz
            have hz1 := Nat.eq_of_beq_eq_true hz.1
            have hz2 := Nat.eq_of_beq_eq_true hz.2
            simp only [Option.some.injEq, Prod.mk.injEq] at h
            obtain ⟨rfl, rfl, rfl⟩ := h
            have hlies : (Blk.vrow esz m e).lies = true := by have := hob.1; simp only [Blk.lies, bne_iff_ne]; omega
            obtain ⟨cs, t, hc, hB⟩ := hr.blk _ _ hl0 hlies
            obtain ⟨k1, k2, k3⟩ := row_write hB hl hone hob.1 (j := j) (by omega)
            exact ⟨_, _, cs, t, rfl, hl0, hlies, hc, k1, k2, fun i' j' hi' hj' => by show VR w F μ NoK (if i' = i then l.getD j' .top else e i' j') _ ∧ _; rw [full i' j' hz1 hz2 hj']; exact k3 i' j' hi' hj'⟩
          · split at h
            · rename_i hle
              have hle := Nat.le_of_ble_eq_true hle
              simp only [Option.some.injEq, Prod.mk.injEq] at h
              obtain ⟨rfl, rfl, rfl⟩ := h
              have hlies : (Blk.vrow esz m e).lies = true := by have := hob.1; simp only [Blk.lies, bne_iff_ne]; omega
              obtain ⟨cs, t, hc, hB⟩ := hr.blk _ _ hl0 hlies
              obtain ⟨k1, k2, k3⟩ := row_write hB hl hone hob.1 hle
              exact ⟨_, _, cs, t, rfl, hl0, hlies, hc, k1, k2, k3⟩
            · cases h
      · cases h
    · cases h
  | _ => simp [storeA] at h

theorem all_one {l : List AV} {vs : List Value} (h : VRs w F μ K l vs) (ho : l.all oneA = true) : ∀ u, u ∈ vs → u.oneCell' = true := by
  induction l generalizing vs with
  | nil => rw [h.nil_inv]; intro u hu; cases hu
  | cons x l ih =>
    obtain ⟨v, r, rfl, h1, h2⟩ := h.cons_inv
    simp only [List.all_cons, Bool.and_eq_true] at ho
    intro u hu
    rcases List.mem_cons.1 hu with e | e
    · rw [e]; exact (oneA_ok ho.1 h1).1
    · exact ih h2 ho.2 u e

theorem op_store {o : Oper} {s : SSt} {x y : Operand} {t : TypeId} {ti : TypeInfo} {l : List AV} {id : Nat} {b' : Blk} {ob : List Prop} (ho : o.op = .store t x y) (hi : P.info? t = some ti) (hl : cellsA (s.aval y) = some l)
    (h1 : l.all oneA = true) (hsz : l.length = ti.size) (hs : storeA s.H (s.aval x) l = some (id, b', ob)) (hob : AllP ob) : OpOk P o s ⟨.lit undef, [(id, some b')], []⟩ := by
  intro w F μ K a hsr _ Kn Q hk
  have hly := cellsA_ok hl (aval_ok hsr y)
  obtain ⟨off, b, cs, et, hv, hb, hlies, hc, hle, hB⟩ := storeA_ok hsr.hr hs hob (aval_ok hsr x) hly (all_one hly h1)
  obtain ⟨k1, k2, _⟩ := write_step hsr.hr hb hlies hc (setV_size cs off (a.eval y).cells.toList) hB
  unfold Oper.wp
  have hrun : (execOp a.eval o).run P w = .ok .skip (wset w (μ id) (setV cs off (a.eval y).cells.toList) et) := by
    have := run_storeAt (P := P) hi hc (v := a.eval y) (by rw [← Array.length_toList, ← hly.1]; exact hsz) (all_one hly h1) (by simpa using hle)
    simp [execOp, ho, hv, this]
  rw [hrun, Oper.upon_skip]
  refine hk undef _ F μ (.lit _) ?_ ?_ <;> rw [plus_nil]
  · exact k1
  · exact k2

/-! ### Calls -/

theorem op_call {o : Oper} {s : SSt} {f : FuncId} {args : List Operand} {ts : Array TypeId} {H0 : Hp} {r : AV} {up : List (Nat × Option Blk)} {new : List Nat} {l : List AV}
    (ho : o.op = .call ⟨.value (.func f), ⟨args⟩, ts⟩) (hl : ∀ w F μ K vs, VRs w F μ K (args.map s.aval) vs → VRs w F μ K l vs) (hp : Part H0 s.H) (hg : GC P f l H0 r up new) : OpOk P o s ⟨r, up, new⟩ := by
  intro w F μ K a hsr hn Kn Q hk
  have hargs := hl w F μ K _ (avals_ok hsr args)
  unfold Oper.wp
  have hrun : (execOp a.eval o).run P w = .ok (.enter f ⟨args.map a.eval⟩) w := by
    have := hg.1 ⟨args.map a.eval⟩ w
    simp only [execOp, ho, resolve, Act.eval, Deferred.ofValue, Sem.run_bind, Sem.run_pure, Result.andThen_ok, invoke]
    simpa using this
  rw [hrun, Oper.upon_enter]
  refine (hg.2 w F μ K (args.map a.eval) hargs (hsr.hr.part hp) hn).mono fun e w' he => ?_
  obtain ⟨v, F', μ', rfl, hv, hr', hf⟩ := he
  obtain ⟨k1, k2⟩ := frame hsr.hr hp hr' hf
  exact hk v w' F' μ' hv k1 k2

end Go.Proofs.Ytkfdfapickladaa.Abs
