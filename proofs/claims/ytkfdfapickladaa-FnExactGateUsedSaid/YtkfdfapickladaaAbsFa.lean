/- Operations that make rows: make, a literal, append; parts of slices and texts. No condition. -/
import Derived.Test.YtkfdfapickladaaAbsF
namespace Go.Proofs.Ytkfdfapickladaa.Abs
open Go Go.RowKit

variable {w w' w'' : World} {F F' F'' : Nat → Prop} {μ μ' μ'' : Nat → Nat} {K K' K'' : Nat → Prop} {H H' H'' : Hp} {P : Program}

theorem wrap_id {n : Int} (h0 : -9223372036854775808 ≤ n) (h1 : n ≤ 9223372036854775807) : IntKind.i64.wrap n = n := by
  simp only [IntKind.wrap, IntKind.bits, IntKind.signed, Bool.true_and]
  split <;> rename_i h <;> simp at h <;> omega

theorem map_ofV_clo (vs : List Value) (h : (vs.map ofV).all cloA1 = true) : VRs w F μ NoK (vs.map ofV) vs := (map_ofV (w := w) (F := F) (μ := μ) (K := NoK) vs).clo1 h

theorem mod_pos {i j s : Nat} (hj : j < s) : (i * s + j) % s = j := by
  rw [Nat.add_comm, Nat.add_mul_mod_self_right, Nat.mod_eq_of_lt hj]

/-- A row of zero values, the first n of c. -/
theorem zero_row {z : Array Value} {n c : Nat} (hclo : (z.toList.map ofV).all cloA1 = true) (hone : (z.toList.map ofV).all oneA = true) (hn : n ≤ c) :
    BlkR w F μ K ((Array.range (c * z.size)).map (z[· % z.size]!)) (.row z.size n fun _ j => (z.toList.map ofV).getD j .top) := by
  refine ⟨by simp; exact Nat.mul_le_mul_right _ hn, fun i j hi hj => ?_⟩
  have h1 := (map_ofV_clo (w := w) (F := F) (μ := μ) z.toList hclo).2 j (by simpa using hj)
  have h2 : (i + 1) * z.size ≤ c * z.size := Nat.mul_le_mul_right _ (by omega)
  rw [Nat.add_mul, Nat.one_mul] at h2
  have h3 : i * z.size + j < c * z.size := by omega
  have h4 : ((Array.range (c * z.size)).map (z[· % z.size]!)).getD (i * z.size + j) undef = z.toList.getD j undef := by
    simp [h3, mod_pos hj, List.getD, hj]
  rw [h4]
  have h5 := all_one (w := w) (F := F) (μ := μ) (map_ofV_clo (w := w) (F := F) (μ := μ) z.toList hclo) hone (z.toList.getD j undef) (by simp [List.getD, hj])
  exact ⟨h1, h5⟩

theorem op_make {o : Oper} {s : SSt} {x y : Operand} {t et : TypeId} {ti : TypeInfo} {l c : Int} {zs : List AV} {N : Nat} (ho : o.op = .makeSlice t x y) (hx : s.aval x = .int .i64 l) (hy : s.aval y = .int .i64 c)
    (ht : P.underlying t = some (.slice et)) (hi : P.info? et = some ti) (hz : zeroA P et = some zs) (hl : zs.length = ti.size) (hclo : zs.all cloA1 = true) (hone : zs.all oneA = true)
    (h0 : 0 ≤ l) (h1 : l ≤ c) (h2 : c * (ti.bytes : Int) ≤ 140737488355328) (h3 : c ≤ 140737488355328) :
    OpOk P o s ⟨.ms N 0 l.toNat ti.size, [(N, some (.row ti.size l.toNat fun _ j => zs.getD j .top))], [N]⟩ :=
  opok_alloc fun w F μ K a hsr => by
    have hvx := aval_ok hsr x
    rw [hx] at hvx
    have hvy := aval_ok hsr y
    rw [hy] at hvy
    obtain ⟨z, hzr, rfl⟩ := zeroA_ok hz
    have hzs : z.cells.size = ti.size := by simpa using hl
    have wl : IntKind.i64.wrap l = l := wrap_id (by omega) (by omega)
    have wc : IntKind.i64.wrap c = c := wrap_id (by omega) (by omega)
    have hb : (ti.bytes : Int) * c ≤ 281474976710656 := by rw [Int.mul_comm]; omega
    have hc0 : 0 ≤ c := by omega
    refine ⟨.slice (some ⟨w.heap.size, 0, none⟩) l.toNat c.toNat, (Array.range (c.toNat * z.cells.size)).map (z.cells[· % z.cells.size]!), et, w.drawn, ?_, ?_, fun w' μ' _ hsh hm => ?_⟩
    · have e1 : ((decide (c < 0) || decide ((ti.bytes : Int) * c > 2 ^ 48)) || decide (l < 0) || decide (l > c)) = false := by
        have : ¬ (ti.bytes : Int) * c > 2 ^ 48 := by simp only [Int.reducePow]; omega
        simp only [this]; simp; omega
      have e0 : ((decide (c < 0) || decide ((2 : Int) ^ 48 < (ti.bytes : Int) * c)) || decide (l < 0) || decide (c < l)) = false := e1
      simp only [execOp, ho, hvx.int_inv, hvy.int_inv, Sem.run_bind, Instr.makeSlice, run_und ht, Result.andThen_ok, asInt, asIntOf, Sem.run_pure, run_inf hi, wl, wc, gt_iff_lt, e0, Bool.false_eq_true, if_false, run_askRoom, run_siz hi]
      rw [← hzs]
      by_cases h : c.toNat * z.cells.size = 0
      · rw [if_pos h, h]
        have e : ∀ f : Nat → Value, (Array.range 0).map f = #[] := fun f => by simp
        simp only [Sem.run_bind, Sem.run_pure, Result.andThen_ok, newRow, run_newObj, World.alloc_eq, e]
      · rw [if_neg h]
        simp only [Sem.run_bind, Sem.run_pure, Result.andThen_ok, hzr, newRow, run_newObj, World.alloc_eq]
    · have := zero_row (w := w) (F := F) (μ := μ) (K := K) (z := z.cells) (n := l.toNat) (c := c.toNat) hclo hone (by omega)
      rw [← hzs]; exact this
    · rw [← hm]
      have hsz : ((Array.range (c.toNat * z.cells.size)).map (z.cells[· % z.cells.size]!)).size = c.toNat * ti.size := by simp [hzs]
      rw [hsz] at hsh
      have := VR.ms (w := w') (F := F) (μ := μ') (K := plus K [N]) N 0 l.toNat ti.size c.toNat (c.toNat * ti.size) et (.inr (by simp)) (by omega) (by rw [hm]; exact hsh) (by simp)
      simpa using this

/-! ### Literals -/

/-- Parts put into a row of cells: 'place' tells an offset and a size. -/
def fillA (place : Nat → Option (Nat × Nat)) : List AV → List (Nat × List AV) → Option (List AV)
  | cs, [] => some cs
  | cs, (i, l) :: r => match place i with
    | none => none
    | some (off, size) => if Nat.beq l.length size && (off + size).ble cs.length then fillA place (setL cs off l) r else none

theorem foldl_set (l : List Value) : ∀ (k off : Nat) (cs : Array Value), off + k + l.length ≤ cs.size → (l.zipIdx k).foldl (fun cs (x : Value × Nat) => cs.setIfInBounds (off + x.2) x.1) cs = setV cs (off + k) l := by
  induction l with
  | nil => intro k off cs _; rfl
  | cons x l ih =>
    intro k off cs h
    simp only [List.length_cons] at h
    simp only [List.zipIdx_cons, List.foldl_cons, setV]
    rw [ih (k + 1) off _ (by simp; omega)]
    rfl

theorem fillA_ok {place : Nat → Option (Nat × Nat)} : ∀ {ps : List (Nat × List AV)} {vs : List (Nat × Value)} {cs : List AV} {us : Array Value} {r : List AV}, fillA place cs ps = some r → ps.map (·.1) = vs.map (·.1) →
    (∀ k, k < ps.length → VRs w F μ K ((ps.map (·.2)).getD k []) ((vs.map fun v => v.2.cells.toList).getD k [])) → VRs w F μ K cs us.toList → ∃ us', Instr.fill place us vs = some us' ∧ VRs w F μ K r us'.toList
  | [], vs, cs, us, r, h, hi, _, hu => by
    simp only [fillA, Option.some.injEq] at h
    subst h
    have : vs = [] := by cases vs with | nil => rfl | cons v vs => simp at hi
    subst this
    exact ⟨us, rfl, hu⟩
  | (i, l) :: ps, vs, cs, us, r, h, hi, hv, hu => by
    cases vs with
    | nil => simp at hi
    | cons v vs =>
      obtain ⟨i', v⟩ := v
      simp only [List.map_cons, List.cons.injEq] at hi
      obtain ⟨rfl, hi⟩ := hi
      simp only [fillA] at h
      split at h
      · cases h
      · rename_i off size hp
        split at h
        · rename_i hb
          simp only [Bool.and_eq_true] at hb
          have h1 := Nat.eq_of_beq_eq_true hb.1
          have h2 := Nat.le_of_ble_eq_true hb.2
          have hl : VRs w F μ K l v.cells.toList := by simpa using hv 0 (by simp)
          have hlen : l.length = v.cells.size := by have := hl.1; simpa using this
          have hcs : cs.length = us.size := by have := hu.1; simpa using this
          have h3 : off + v.cells.size ≤ us.size := by omega
          have hset : VRs w F μ K (setL cs off l) (setV us off v.cells.toList).toList := by
            refine ⟨by rw [setL_length, hcs]; simp [setV_size], fun j hj => ?_⟩
            rw [setL_length] at hj
            rw [getD_toList, setL_getD _ _ _ (by omega), setV_getD _ _ _ (by simpa using h3)]
            have e : v.cells.toList.length = l.length := hl.1.symm
            rw [e]
            split
            · exact hl.2 _ (by omega)
            · rw [← getD_toList]; exact hu.2 j hj
          obtain ⟨us', k1, k2⟩ := fillA_ok (us := setV us off v.cells.toList) h hi (fun k hk => by simpa using hv (k + 1) (by simpa using hk)) hset
          refine ⟨us', ?_, k2⟩
          have hfold : v.cells.zipIdx.foldl (fun cs (x : Value × Nat) => cs.setIfInBounds (off + x.2) x.1) us = setV us off v.cells.toList := by
            have := foldl_set v.cells.toList 0 off us (by simpa using h3)
            rw [← Array.foldl_toList]
            simpa using this
          simp only [Instr.fill, hp]
          have c1 : ¬ (v.cells.size ≠ size) := by omega
          have c2 : ¬ (us.size < off + v.cells.size) := by omega
          rw [if_neg (by simp [c2]; omega)]
          have : (v.cells.zipIdx.foldl (fun cs x => match x with | (c, j) => cs.setIfInBounds (off + j) c) us) = setV us off v.cells.toList := hfold
          rw [this]
          exact k1
        · cases h

/-- The parts' cells. -/
def partsA (s : SSt) : List (Nat × Operand) → Option (List (Nat × List AV))
  | [] => some []
  | (i, x) :: r => match cellsA (s.aval x), partsA s r with
    | some l, some q => some ((i, l) :: q)
    | _, _ => none
theorem partsA_ok {s : SSt} {a : Act} (hs : SR w F μ K s a) : ∀ {ps : List (Nat × Operand)} {q : List (Nat × List AV)}, partsA s ps = some q → q.map (·.1) = (ps.map fun p => (p.1, a.eval p.2)).map (·.1) ∧
    ∀ k, k < q.length → VRs w F μ K ((q.map (·.2)).getD k []) (((ps.map fun p => (p.1, a.eval p.2)).map fun v => v.2.cells.toList).getD k [])
  | [], q, h => by
    simp only [partsA, Option.some.injEq] at h
    subst h
    exact ⟨rfl, fun k hk => by simp at hk⟩
  | (i, x) :: r, q, h => by
    simp only [partsA] at h
    split at h
    · rename_i l q' hl hq
      simp only [Option.some.injEq] at h
      subst h
      obtain ⟨h1, h2⟩ := partsA_ok hs hq
      refine ⟨by simpa using h1, fun k hk => ?_⟩
      cases k with
      | zero => simpa using cellsA_ok hl (aval_ok hs x)
      | succ k => simpa using h2 k (by simpa using hk)
    · cases h

def fieldsP (P : Program) (fs : List Field) : Option (List (Nat × Nat)) :=
  match fs with
  | [] => some []
  | f :: r => match P.info? f.type, fieldsP P r with
    | some i, some q => some ((f.offset, i.size) :: q)
    | _, _ => none
def fieldPl (f : Field) : Sem (Nat × Nat) := do pure (f.offset, ← sizeOf f.type)
theorem fieldsP_ok (w : World) : ∀ {fs : List Field} {q : List (Nat × Nat)}, fieldsP P fs = some q → (fs.mapM fieldPl).run P w = .ok q w
  | [], q, h => by cases h; simp
  | f :: r, q, h => by
    simp only [fieldsP] at h
    split at h
    · rename_i i q' hi hq
      cases h
      have := fieldsP_ok w hq
      simp only [List.mapM_cons, fieldPl, Sem.run_bind, run_siz hi, Result.andThen_ok, Sem.run_pure]
      rw [this]
      rfl
    · cases h

theorem op_build {o : Oper} {s : SSt} {t : TypeId} {fs : Array Field} {ps : List (Nat × Operand)} {q : List (Nat × List AV)} {pl : List (Nat × Nat)} {zs r : List AV} (ho : o.op = .build t ⟨ps⟩) (ht : P.underlying t = some (.struct fs))
    (hz : zeroA P t = some zs) (hp : fieldsP P fs.toList = some pl) (hq : partsA s ps = some q) (hr : fillA (pl[·]?) zs q = some r) : OpOk P o s ⟨.agg r, [], []⟩ :=
  opok_value fun w F μ K a hs => by
    obtain ⟨z, hzr, rfl⟩ := zeroA_ok hz
    obtain ⟨h1, h2⟩ := partsA_ok hs hq
    obtain ⟨us, k1, k2⟩ := fillA_ok hr h1 h2 (map_ofV z.cells.toList)
    have hm : (fs.mapM fieldPl).run P w = .ok ⟨pl⟩ w := by
      rw [Array.mapM_eq_mapM_toList]
      simp only [Sem.run_map]
      rw [fieldsP_ok w hp]
      rfl
    have k1' : Instr.fill (fun x => (⟨pl⟩ : Array (Nat × Nat))[x]?) z.cells ((⟨ps⟩ : Array (Nat × Operand)).map fun (i, x) => (i, a.eval x)).toList = some us := by
      simpa using k1
    refine ⟨.agg us, ?_, .mkAgg k2⟩
    simp only [execOp, ho, Instr.build, Sem.run_bind, hzr, Result.andThen_ok, run_und ht]
    have e : (fs.mapM fun f => (do pure (f.offset, ← sizeOf f.type) : Sem (Nat × Nat))).run P w = .ok ⟨pl⟩ w := hm
    rw [e]
    simp only [Result.andThen_ok]
    rw [k1']
    simp

theorem foldl_size (off : Nat) : ∀ (l : List (Value × Nat)) (c : Array Value), (l.foldl (fun cs x => cs.setIfInBounds (off + x.2) x.1) c).size = c.size
  | [], _ => rfl
  | x :: l, c => by simp only [List.foldl_cons]; rw [foldl_size off l]; simp
theorem fill_size {place : Nat → Option (Nat × Nat)} : ∀ {vs : List (Nat × Value)} {c c' : Array Value}, Instr.fill place c vs = some c' → c'.size = c.size
  | [], c, c', h => by cases h; rfl
  | (i, v) :: vs, c, c', h => by
    simp only [Instr.fill] at h
    split at h
    · cases h
    · split at h
      · cases h
      · rw [fill_size h, ← Array.foldl_toList]
        exact foldl_size _ _ _

theorem op_buildSlice {o : Oper} {s : SSt} {t et : TypeId} {ti : TypeInfo} {n : Nat} {ps : List (Nat × Operand)} {q : List (Nat × List AV)} {zs r : List AV} {N : Nat} (ho : o.op = .buildSlice t n ⟨ps⟩) (ht : P.underlying t = some (.slice et))
    (hi : P.info? et = some ti) (hz : zeroA P et = some zs) (hl : zs.length = ti.size) (hs0 : ti.size ≠ 0) (hn : n * ti.size ≤ 16777216) (hq : partsA s ps = some q)
    (hr : fillA (fun i => some (i * ti.size, ti.size)) ((List.range n).flatMap fun _ => zs) q = some r) (hclo : r.all cloA1 = true) (hone : r.all oneA = true) :
    OpOk P o s ⟨.ms N 0 n ti.size, [(N, some (.row ti.size n fun i j => r.getD (i * ti.size + j) .top))], [N]⟩ :=
  opok_alloc fun w F μ K a hs => by
    obtain ⟨z, hzr, rfl⟩ := zeroA_ok hz
    have hzs : z.cells.size = ti.size := by simpa using hl
    obtain ⟨h1, h2⟩ := partsA_ok hs hq
    have hz0 : VRs w F μ K ((List.range n).flatMap fun _ => z.cells.toList.map ofV) ((Array.range (n * ti.size)).map (z.cells[· % z.cells.size]!)).toList := by
      have e : ((Array.range (n * ti.size)).map (z.cells[· % z.cells.size]!)).toList = (List.range n).flatMap fun _ => z.cells.toList := by
        refine List.ext_getElem ?_ fun k k1 k2 => ?_
        · simp [List.length_flatMap, hzs, List.map_const', List.sum_replicate_nat]
        · have hk : k < n * z.cells.size := by simpa [hzs] using k1
          have hz1 : 0 < z.cells.size := by omega
          have : ∀ (m k : Nat) (hk : k < m * z.cells.size), ((List.range m).flatMap fun _ => z.cells.toList)[k]? = z.cells.toList[k % z.cells.size]? := by
            intro m
            induction m with
            | zero => intro k hk; omega
            | succ m ih =>
              intro k hk
              rw [List.range_succ_eq_map, List.flatMap_cons, List.flatMap_map]
              by_cases h : k < z.cells.size
              · rw [List.getElem?_append_left (by simpa using h), Nat.mod_eq_of_lt h]
              · rw [List.getElem?_append_right (by simpa using Nat.le_of_not_lt h)]
                have h3 : k - z.cells.size < m * z.cells.size := by rw [Nat.add_mul, Nat.one_mul] at hk; omega
                have := ih (k - z.cells.size) h3
                simp only [Array.length_toList]
                rw [this, ← Nat.mod_eq_sub_mod (by omega)]
          have h4 := this n k hk
          have h5 : k % z.cells.size < z.cells.size := Nat.mod_lt _ hz1
          have h6 : ((List.range n).flatMap fun _ => z.cells.toList)[k] = z.cells[k % z.cells.size] := by
            have := List.getElem?_eq_getElem k2
            rw [h4] at this
            simpa [h5] using this.symm
          rw [h6]
          simp [h5]
      rw [e]
      have : (List.range n).flatMap (fun _ => z.cells.toList.map ofV) = ((List.range n).flatMap fun _ => z.cells.toList).map ofV := by rw [List.map_flatMap]
      rw [this]
      exact map_ofV _
    obtain ⟨us, k1, k2⟩ := fillA_ok hr h1 h2 hz0
    have hus : us.size = n * ti.size := by
      rw [fill_size k1]; simp
    refine ⟨.slice (some ⟨w.heap.size, 0, none⟩) n n, us, et, w.drawn, ?_, ?_, fun w' μ' _ hsh hm => ?_⟩
    · have hle : ¬ n * ti.size > 2 ^ 24 := by simp only [Nat.reducePow]; omega
      have k1' : Instr.fill (fun i => some (i * ti.size, ti.size)) ((Array.range (n * ti.size)).map (z.cells[· % z.cells.size]!)) ((⟨ps⟩ : Array (Nat × Operand)).map fun (i, x) => (i, a.eval x)).toList = some us := by
        simpa using k1
      simp only [execOp, ho, Instr.buildSlice, Sem.run_bind, run_und ht, Result.andThen_ok, run_siz hi, if_neg hle]
      by_cases h : n * ti.size = 0
      · have e : ∀ f g : Nat → Value, (Array.range 0).map f = (Array.range 0).map g := fun f g => by simp
        rw [h] at k1'
        rw [if_pos h, h]
        simp only [Sem.run_bind, Sem.run_pure, Result.andThen_ok]
        rw [e _ (z.cells[· % z.cells.size]!), k1']
        simp [newRow]
      · rw [if_neg h]
        simp only [Sem.run_bind, Sem.run_pure, Result.andThen_ok, hzr]
        rw [k1']
        simp [newRow]
    · have k3 := k2.clo1 hclo
      have hrl : r.length = n * ti.size := by have := k2.1; simpa [hus] using this
      refine ⟨by rw [hus]; exact Nat.le_refl _, fun i j hi hj => ?_⟩
      have h4 : (i + 1) * ti.size ≤ n * ti.size := Nat.mul_le_mul_right _ hi
      rw [Nat.add_mul, Nat.one_mul] at h4
      rw [← getD_toList]
      have hk : i * ti.size + j < us.toList.length := by rw [← k3.1]; omega
      exact ⟨k3.2 _ (by omega), all_one k3 hone _ (by simp only [List.getD]; rw [List.getElem?_eq_getElem hk]; exact List.getElem_mem hk)⟩
    · rw [← hm]
      rw [hus] at hsh
      have := VR.ms (w := w') (F := F) (μ := μ') (K := plus K [N]) N 0 n ti.size n (n * ti.size) et (.inr (by simp)) (Nat.le_refl _) (by rw [hm]; exact hsh) (by simp)
      simpa using this

/-! ### append -/

/-- A slice that is read: its length, its cells, what is asked. -/
def srcRow (H : Hp) (esz : Nat) : AV → Option (Nat × (Nat → Nat → AV) × List Prop)
  | .fs esz' m e => if Nat.beq esz' esz then some (m, e, []) else none
  | .nils => some (0, fun _ _ => .top, [])
  | .ms id i m esz' => match H id with
    | some (.row esz2 n e) => if Nat.beq esz' esz && Nat.beq esz2 esz then some (m, (match i with | 0 => e | _ => fun i' j => e (i + i') j), [addNat i m ≤ n]) else none
    | _ => none
  | .vs id m esz' => match H id with
    | some (.vrow esz2 n e) => if Nat.beq esz' esz && Nat.beq esz2 esz then some (m, e, [m = n]) else none
    | _ => none
  | _ => none

theorem srcRow_ok (hr : HR w F μ K H) {esz : Nat} {a : AV} {m : Nat} {e : Nat → Nat → AV} {ob : List Prop} (h : srcRow H esz a = some (m, e, ob)) (hob : AllP ob) {v : Value} (hv : VR w F μ K a v) :
    ∃ A cap, v = .slice A m cap ∧ (m = 0 ∨ ∃ (b o : Nat) (u : Nat → Nat → Value), A = some ⟨b, o, none⟩ ∧ ∀ i j, i < m → j < esz → w.cell? ⟨b, o + i * esz + j, none⟩ = some (u i j) ∧ VR w F μ NoK (e i j) (u i j) ∧ (u i j).oneCell' = true) ∧ (A = none → m = 0) := by
  cases a with
  | fs esz' m' e' =>
    simp only [srcRow] at h
    split at h
    · rename_i he
      have he := Nat.eq_of_beq_eq_true he
      subst he
      simp only [Option.some.injEq, Prod.mk.injEq] at h
      obtain ⟨rfl, rfl, rfl⟩ := h
      cases hv with
      | fs _ _ _ b o cap u hF hc hu hv => exact ⟨_, cap, rfl, .inr ⟨b, o, u, rfl, fun i j hi hj => ⟨(hu i j hi hj).1, hv i j hi hj, (hu i j hi hj).2⟩⟩, fun h => by cases h⟩
      | fsnil _ _ a cap => exact ⟨a, cap, rfl, .inl rfl, fun _ => rfl⟩
    · cases h
  | nils =>
    simp only [srcRow, Option.some.injEq, Prod.mk.injEq] at h
    obtain ⟨rfl, rfl, rfl⟩ := h
    cases hv
    exact ⟨none, 0, rfl, .inl rfl, fun _ => rfl⟩
  | ms id i m' eszA =>
    simp only [srcRow] at h
    split at h
    · rename_i esz2 n e' hb
      split at h
      · rename_i he
        simp only [Bool.and_eq_true] at he
        have h1 := Nat.eq_of_beq_eq_true he.1
        have h2 := Nat.eq_of_beq_eq_true he.2
        subst h1 h2
        simp only [Option.some.injEq, Prod.mk.injEq] at h
        obtain ⟨rfl, rfl, rfl⟩ := h
        simp only [AllP, addNat_eq, and_true] at hob
        obtain ⟨cs, t, hc, hB⟩ := hr.blk _ _ hb rfl
        cases hv with
        | ms _ _ _ _ cap sz t' hid hcap hs hsz =>
          refine ⟨_, cap, rfl, .inr ⟨μ id, i * esz2, fun i' j => cs.getD ((i + i') * esz2 + j) undef, rfl, fun i' j hi hj => ⟨?_, ?_, (hB.2 (i + i') j (by omega) hj).2⟩⟩, fun h => by cases h⟩
          · have h2 : (i + i' + 1) * esz2 ≤ n * esz2 := Nat.mul_le_mul_right _ (by omega)
            rw [Nat.add_mul, Nat.one_mul] at h2
            have hlt : (i + i') * esz2 + j < cs.size := by have := hB.1; omega
            have e1 : i * esz2 + i' * esz2 + j = (i + i') * esz2 + j := by rw [Nat.add_mul]
            rw [e1]
            simp [World.cell?, hc, hlt]
          · have := (hB.2 (i + i') j (by omega) hj).1
            cases i with
            | zero => simpa using this
            | succ i => exact this
      · cases h
    · cases h
  | vs id m' eszA =>
    simp only [srcRow] at h
    split at h
    · rename_i esz2 n e' hb
      split at h
      · rename_i he
        simp only [Bool.and_eq_true] at he
        have h1 := Nat.eq_of_beq_eq_true he.1
        have h2 := Nat.eq_of_beq_eq_true he.2
        subst h1 h2
        simp only [Option.some.injEq, Prod.mk.injEq] at h
        obtain ⟨rfl, rfl, rfl⟩ := h
        simp only [AllP, and_true] at hob
        subst hob
        cases hv with
        | vs _ _ _ cap sz t' hn hid hcap hs hsz =>
          have hl : (Blk.vrow esz2 m' e').lies = true := by simpa [Blk.lies] using hn
          obtain ⟨cs, t, hc, hB⟩ := hr.blk _ _ hb hl
          refine ⟨_, cap, rfl, .inr ⟨μ id, 0, fun i' j => cs.getD (i' * esz2 + j) undef, rfl, fun i' j hi hj => ⟨?_, (hB.2 i' j hi hj).1, (hB.2 i' j hi hj).2⟩⟩, fun h => by cases h⟩
          have h2 : (i' + 1) * esz2 ≤ m' * esz2 := Nat.mul_le_mul_right _ (by omega)
          rw [Nat.add_mul, Nat.one_mul] at h2
          have hlt : i' * esz2 + j < cs.size := by have := hB.1; omega
          simp [World.cell?, hc, hlt]
        | vsnil => exact ⟨none, 0, rfl, .inl rfl, fun _ => rfl⟩
      · cases h
    · cases h
  | _ => simp [srcRow] at h

/-- The cells of a slice, one row behind the other. -/
def flat (esz m : Nat) (u : Nat → Nat → Value) : List Value := (List.range (m * esz)).map fun k => u (k / esz) (k % esz)

theorem flat_get {esz m : Nat} {u : Nat → Nat → Value} {i j : Nat} (hi : i < m) (hj : j < esz) : (flat esz m u).getD (i * esz + j) undef = u i j := by
  have h2 : (i + 1) * esz ≤ m * esz := Nat.mul_le_mul_right _ hi
  rw [Nat.add_mul, Nat.one_mul] at h2
  have h3 : i * esz + j < m * esz := by omega
  have h4 : (i * esz + j) / esz = i := by
    rw [Nat.add_comm, Nat.add_mul_div_right _ _ (by omega), Nat.div_eq_of_lt hj]; omega
  simp [flat, List.getD, h3, h4, mod_pos hj]
theorem flat_length (esz m : Nat) (u : Nat → Nat → Value) : (flat esz m u).length = m * esz := by simp [flat]

theorem run_firstCells {esz m b o : Nat} {u : Nat → Nat → Value} (he : esz ≠ 0) (h : ∀ i j, i < m → j < esz → w.cell? ⟨b, o + i * esz + j, none⟩ = some (u i j)) (cap : Nat) (L : Nat) :
    (Builtin.firstCells esz m (.slice (some ⟨b, o, none⟩) L cap)).run P w = .ok ⟨flat esz m u⟩ w := by
  simp only [Builtin.firstCells]
  rw [run_loadCells w _ _ (fun k => u (k / esz) (k % esz)) fun k hk => ?_]
  · rfl
  · rw [add_mk]
    have h1 : k / esz < m := Nat.div_lt_of_lt_mul (by rw [Nat.mul_comm]; exact hk)
    have h2 : k % esz < esz := Nat.mod_lt _ (by omega)
    have := h (k / esz) (k % esz) h1 h2
    rw [Nat.add_assoc] at this
    have e : k / esz * esz + k % esz = k := by rw [Nat.mul_comm]; exact Nat.div_add_mod k esz
    rwa [e] at this

theorem cap_bound (need cap : Nat) (h : cap < need) : Builtin.nextslicecap need cap ≤ 2 * need + 768 := by
  unfold Builtin.nextslicecap
  split
  · omega
  · split
    · omega
    · have : ∀ (r c : Nat), c ≤ need → Builtin.growBy need r c ≤ 2 * need + 768 := by
        intro r
        induction r with
        | zero => intro c hc; simp only [Builtin.growBy]; omega
        | succ r ih =>
          intro c hc
          simp only [Builtin.growBy]
          split
          · omega
          · rename_i hlt
            by_cases h2 : c + (c + 768) / 4 ≤ need
            · exact ih _ h2
            · cases r with
              | zero => simp only [Builtin.growBy]; omega
              | succ r =>
                simp only [Builtin.growBy]
                rw [if_pos (by omega)]
                omega
      exact this 4 cap (by omega)

/-- The row that is appended to: its number (none: nil), its length, its cells, what is asked; 'v': may it be nil? -/
def dstRow (H : Hp) (esz : Nat) : AV → Option (Option Nat × Bool × Nat × (Nat → Nat → AV) × List Prop)
  | .nils => some (none, true, 0, fun _ _ => .top, [])
  | .ms id i m esz' => match H id with
    | some (.row esz2 n e) => if Nat.beq esz' esz && Nat.beq esz2 esz && Nat.beq i 0 then some (some id, false, m, e, [m = n]) else none
    | _ => none
  | .vs id m esz' => match H id with
    | some (.vrow esz2 n e) => if Nat.beq esz' esz && Nat.beq esz2 esz then some (some id, true, m, e, [m = n]) else none
    | _ => none
  | _ => none

theorem dstRow_ok (hr : HR w F μ K H) {esz : Nat} {a : AV} {d : Option Nat} {nl : Bool} {m : Nat} {e : Nat → Nat → AV} {ob : List Prop} (h : dstRow H esz a = some (d, nl, m, e, ob)) (hob : AllP ob) {v : Value} (hv : VR w F μ K a v) :
    ∃ A cap, v = .slice A m cap ∧ m ≤ cap ∧ ((A = none ∧ m = 0 ∧ cap = 0 ∧ nl = true) ∨
      ∃ id b cs t, d = some id ∧ A = some ⟨μ id, 0, none⟩ ∧ H id = some b ∧ b.lies = true ∧ w.heap[μ id]? = some (.cells cs t (0, 0)) ∧ cap * esz ≤ cs.size ∧
        (nl = true → m ≠ 0) ∧ ∀ i j, i < m → j < esz → VR w F μ NoK (e i j) (cs.getD (i * esz + j) undef) ∧ (cs.getD (i * esz + j) undef).oneCell' = true) := by
  cases a with
  | nils =>
    simp only [dstRow, Option.some.injEq, Prod.mk.injEq] at h
    obtain ⟨rfl, rfl, rfl, rfl, rfl⟩ := h
    cases hv
    exact ⟨none, 0, rfl, Nat.le_refl _, .inl ⟨rfl, rfl, rfl, rfl⟩⟩
  | ms id i m' eszA =>
    simp only [dstRow] at h
    split at h
    · rename_i esz2 n e' hb
      split at h
      · rename_i he
        simp only [Bool.and_eq_true] at he
        have h1 := Nat.eq_of_beq_eq_true he.1.1
        have h2 := Nat.eq_of_beq_eq_true he.1.2
        have h3 := Nat.eq_of_beq_eq_true he.2
        subst h1 h2 h3
        simp only [Option.some.injEq, Prod.mk.injEq] at h
        obtain ⟨rfl, rfl, rfl, rfl, rfl⟩ := h
        simp only [AllP, and_true] at hob
        subst hob
        obtain ⟨cs, t, hc, hB⟩ := hr.blk _ _ hb rfl
        cases hv with
        | ms _ _ _ _ cap sz t' hid hcap hs hsz =>
          refine ⟨_, cap, rfl, hcap, .inr ⟨id, _, cs, t, rfl, by simp, hb, rfl, hc, ?_, (fun h => by cases h), hB.2⟩⟩
          simp only [World.shape?, hc, Option.some.injEq, Prod.mk.injEq] at hs
          rw [hs.2]; simpa using hsz
      · cases h
    · cases h
  | vs id m' eszA =>
    simp only [dstRow] at h
    split at h
    · rename_i esz2 n e' hb
      split at h
      · rename_i he
        simp only [Bool.and_eq_true] at he
        have h1 := Nat.eq_of_beq_eq_true he.1
        have h2 := Nat.eq_of_beq_eq_true he.2
        subst h1 h2
        simp only [Option.some.injEq, Prod.mk.injEq] at h
        obtain ⟨rfl, rfl, rfl, rfl, rfl⟩ := h
        simp only [AllP, and_true] at hob
        subst hob
        cases hv with
        | vs _ _ _ cap sz t' hn hid hcap hs hsz =>
          have hl : (Blk.vrow esz2 m' e').lies = true := by simpa [Blk.lies] using hn
          obtain ⟨cs, t, hc, hB⟩ := hr.blk _ _ hb hl
          refine ⟨_, cap, rfl, hcap, .inr ⟨id, _, cs, t, rfl, rfl, hb, hl, hc, ?_, (fun _ => hn), hB.2⟩⟩
          simp only [World.shape?, hc, Option.some.injEq, Prod.mk.injEq] at hs
          rw [hs.2]; exact hsz
        | vsnil => exact ⟨none, 0, rfl, Nat.le_refl _, .inl ⟨rfl, rfl, rfl, rfl⟩⟩
      · cases h
    · cases h
  | _ => simp [dstRow] at h

/-- Two rows, one behind the other. -/
def joinR (n : Nat) (e f : Nat → Nat → AV) : Nat → Nat → AV := fun i j => if i < n then e i j else f (i - n) j

def killL (d : Option Nat) : List (Nat × Option Blk) :=
  match d with
  | some id => [(id, none)]
  | none => []

theorem join_ok {esz n m : Nat} {e f : Nat → Nat → AV} {cs : Array Value} {g : Nat → Nat → Value}
    (he : ∀ i j, i < n → j < esz → VR w F μ NoK (e i j) (cs.getD (i * esz + j) undef) ∧ (cs.getD (i * esz + j) undef).oneCell' = true) (hf : ∀ i j, i < m → j < esz → VR w F μ NoK (f i j) (g i j) ∧ (g i j).oneCell' = true) {cs' : Array Value}
    (h1 : ∀ k, k < n * esz → cs'.getD k undef = cs.getD k undef) (h2 : ∀ i j, i < m → j < esz → cs'.getD ((n + i) * esz + j) undef = g i j) (hsz : (n + m) * esz ≤ cs'.size) :
    (n + m) * esz ≤ cs'.size ∧ ∀ i j, i < n + m → j < esz → VR w F μ NoK (joinR n e f i j) (cs'.getD (i * esz + j) undef) ∧ (cs'.getD (i * esz + j) undef).oneCell' = true := by
  refine ⟨hsz, fun i j hi hj => ?_⟩
  unfold joinR
  split
  · rename_i h
    have h3 : (i + 1) * esz ≤ n * esz := Nat.mul_le_mul_right _ h
    rw [Nat.add_mul, Nat.one_mul] at h3
    rw [h1 _ (by omega)]
    exact he i j h hj
  · rename_i h
    have := h2 (i - n) j (by omega) hj
    rw [show n + (i - n) = i by omega] at this
    rw [this]
    exact hf (i - n) j (by omega) hj

theorem op_append {o : Oper} {s : SSt} {x y : Operand} {t u et : TypeId} {ti : TypeInfo} {d : Option Nat} {nl : Bool} {n m : Nat} {e f : Nat → Nat → AV} {ob ob' : List Prop} {eu : TypeId} {z : Value} {N : Nat}
    (ho : o.op = .call ⟨.builtin .append, #[x, y], #[t, u]⟩) (ht : P.underlying t = some (.slice et)) (hu : P.underlying u = some (.slice eu)) (hi : P.info? et = some ti) (hz : ti.zero = some z) (hs0 : ti.size ≠ 0) (hzs : z.cells.size = ti.size)
    (hd : dstRow s.H ti.size (s.aval x) = some (d, nl, n, e, ob)) (hob : AllP ob) (hs : srcRow s.H ti.size (s.aval y) = some (m, f, ob')) (hob' : AllP ob') (hb : (n + m) * ti.bytes ≤ 70368744177664) (hb2 : n + m ≤ 70368744177664) (hb3 : ti.bytes ≤ 4294967296) :
    OpOk P o s ⟨(if nl then .vs N (n + m) ti.size else .ms N 0 (n + m) ti.size), (N, some (if nl then .vrow ti.size (n + m) (joinR n e f) else .row ti.size (n + m) (joinR n e f))) :: killL d, [N]⟩ := by
  intro w F μ K a hsr hn Kn Q hk
  have hN : ¬ K N := hn N (by simp)
  obtain ⟨A, cap, hvx, hcap, hA⟩ := dstRow_ok hsr.hr hd hob (aval_ok hsr x)
  obtain ⟨B, cap2, hvy, hB, hBn⟩ := srcRow_ok hsr.hr hs hob' (aval_ok hsr y)
  -- the cells that are appended
  obtain ⟨g, hg1, hg2⟩ : ∃ g : Nat → Nat → Value, (∀ w', w'.heap = w.heap → (Builtin.firstCells ti.size m (.slice B m cap2)).run P w' = .ok ⟨flat ti.size m g⟩ w') ∧ ∀ i j, i < m → j < ti.size → VR w F μ NoK (f i j) (g i j) ∧ (g i j).oneCell' = true := by
    rcases hB with rfl | ⟨b, o', g, rfl, hg⟩
    · refine ⟨fun _ _ => undef, fun w' _ => ?_, fun i j hi => by omega⟩
      have e0 : flat ti.size 0 (fun _ _ => undef) = [] := by simp [flat]
      rw [e0]
      cases B with
      | none => simp [Builtin.firstCells]
      | some a => simp [Builtin.firstCells, loadCells, loadCellsFrom]
    · refine ⟨g, fun w' hw' => run_firstCells hs0 (fun i j hi hj => ?_) _ _, fun i j hi hj => (hg i j hi hj).2⟩
      have := (hg i j hi hj).1
      simp only [World.cell?] at this ⊢
      rw [hw']; exact this
  have dead : ∀ {w' F' μ'} {b : Option Blk}, HR w' F' μ' (plus K [N]) (s.H.upd [(N, b)]) → Fr w F μ K s.H w' F' μ' (plus K [N]) (s.H.upd [(N, b)]) →
      HR w' F' μ' (plus K [N]) (s.H.upd ((N, b) :: killL d)) ∧ Fr w F μ K s.H w' F' μ' (plus K [N]) (s.H.upd ((N, b) :: killL d)) := by
    intro w' F' μ' b h1 h2
    cases d with
    | none => exact ⟨h1, h2⟩
    | some id =>
      have hne : id ≠ N := by
        rintro rfl
        rcases hA with ⟨_, _, _, _⟩ | ⟨id', b', cs, t', hd', _, hH, _, _⟩
        · have := hd
          unfold dstRow at this
          split at this <;> first
            | (simp at this; done)
            | (split at this <;> first | (cases this; done) | (split at this <;> first | (cases this; done) | (rename_i hb' _; simp only [Option.some.injEq, Prod.mk.injEq] at this; obtain ⟨rfl, _⟩ := this; exact hN (hsr.hr.known _ _ hb'))))
        · cases hd'
          exact hN (hsr.hr.known _ _ hH)
      obtain ⟨k1, k2⟩ := drop_step (N := id) h1 h2
      have e : (s.H.upd [(N, b)]).upd [(id, none)] = s.H.upd ((N, b) :: killL (some id)) := by
        funext k
        simp only [Hp.upd, killL]
        by_cases h1 : k = id
        · subst h1; simp [hne]
        · simp [h1]
      rw [e] at k1 k2
      exact ⟨k1, k2⟩
  unfold Oper.wp
  have pre : (execOp a.eval o).run P w = ((Builtin.append_ #[t, u] o.type #[.slice A n cap, .slice B m cap2]).run P w).andThen fun v w' => .ok (.value v) w' := by
    simp [execOp, ho, resolve, invoke, builtin, hvx, hvy]
  have c1 : ¬ ((9223372036854775807 : Int) < ↑n + ↑m ∧ ti.bytes = 0) := by intro h; omega
  have c2 : n + m > cap → ¬ 281474976710656 < Builtin.nextslicecap (n + m) cap * ti.bytes := by
    intro hc
    have h1 := Nat.mul_le_mul_right ti.bytes (cap_bound (n + m) cap hc)
    rw [Nat.add_mul, Nat.mul_assoc] at h1
    omega
  rw [pre]
  have hv0 : ∀ {K' μ' w'}, n + m = 0 → nl = true → VR w' F μ' K' (if nl then AV.vs N (n + m) ti.size else AV.ms N 0 (n + m) ti.size) (.slice none 0 0) := by
    intro K' μ' w' h1 h2
    rw [h2, h1]
    exact .vsnil _ _
  by_cases hle : n + m ≤ cap
  · -- in place
    rcases hA with ⟨rfl, rfl, rfl, rfl⟩ | ⟨id, b, cs, t', rfl, rfl, hH, hl, hc, hcs, hn0, he⟩
    · -- nil stays nil
      obtain rfl : m = 0 := by omega
      have hrun : (Builtin.append_ #[t, u] o.type #[.slice none 0 0, .slice B 0 cap2]).run P w = .ok (.slice none 0 0) w := by
        simp only [Builtin.append_]
        simp [run_und ht, run_siz hi, run_und hu, Builtin.lenOf, hg1 w rfl]
      rw [hrun, Result.andThen_ok, Oper.upon_value]
      obtain ⟨k1, k2⟩ := virt_step hsr.hr hN ti.size (joinR 0 e f)
      obtain ⟨k3, k4⟩ := dead k1 k2
      exact hk _ w F _ (hv0 rfl rfl) k3 k4
    · have hlt : μ id < w.heap.size := hsr.hr.lt id (hsr.hr.known _ _ hH)
      have h5 : (n + m) * ti.size ≤ cs.size := Nat.le_trans (Nat.mul_le_mul_right _ hle) hcs
      have hone : ∀ v, v ∈ flat ti.size m g → v.oneCell' = true := by
        intro v hv
        simp only [flat, List.mem_map, List.mem_range] at hv
        obtain ⟨k, hk, rfl⟩ := hv
        exact (hg2 _ _ (Nat.div_lt_of_lt_mul (by rw [Nat.mul_comm]; exact hk)) (Nat.mod_lt _ (by omega))).2
      have hst := run_storeCells (P := P) (b := μ id) (o := 0 + n * ti.size) (t := t') (flat ti.size m g) 0 w cs hc hone (by rw [flat_length]; rw [Nat.add_mul] at h5; omega)
      have hrun : (Builtin.append_ #[t, u] o.type #[.slice (some ⟨μ id, 0, none⟩) n cap, .slice B m cap2]).run P w = .ok (.slice (some ⟨μ id, 0, none⟩) (n + m) cap) (wset w (μ id) (setV cs (n * ti.size) (flat ti.size m g)) t') := by
        simp only [Builtin.append_]
        simp [run_und ht, run_siz hi, run_und hu, Builtin.lenOf, hle, hg1 w rfl, add_mk]
        have : (storeCells ⟨μ id, n * ti.size, none⟩ (flat ti.size m g)).run P w = .ok () (wset w (μ id) (setV cs (n * ti.size) (flat ti.size m g)) t') := by simpa using hst
        rw [this]; rfl
      rw [hrun, Result.andThen_ok, Oper.upon_value]
      have hs1 : n * ti.size + (flat ti.size m g).length ≤ cs.size := by rw [flat_length]; rw [Nat.add_mul] at h5; omega
      have hj : (n + m) * ti.size ≤ (setV cs (n * ti.size) (flat ti.size m g)).size ∧ ∀ i j, i < n + m → j < ti.size → VR w F μ NoK (joinR n e f i j) ((setV cs (n * ti.size) (flat ti.size m g)).getD (i * ti.size + j) undef) ∧ ((setV cs (n * ti.size) (flat ti.size m g)).getD (i * ti.size + j) undef).oneCell' = true := by
        refine join_ok he hg2 (fun k hk => ?_) (fun i j hi hj => ?_) (by rw [setV_size]; exact h5)
        · rw [setV_getD _ _ _ hs1, if_neg (by omega)]
        · rw [setV_getD _ _ _ hs1, flat_length]
          have h6 : (i + 1) * ti.size ≤ m * ti.size := Nat.mul_le_mul_right _ hi
          rw [Nat.add_mul, Nat.one_mul] at h6
          rw [Nat.add_mul, if_pos (by omega), show n * ti.size + i * ti.size + j - n * ti.size = i * ti.size + j by omega]
          exact flat_get hi hj
      have hBlk : BlkR w F μ K (setV cs (n * ti.size) (flat ti.size m g)) (if nl then .vrow ti.size (n + m) (joinR n e f) else .row ti.size (n + m) (joinR n e f)) := by
        cases nl <;> exact hj
      obtain ⟨k1, k2⟩ := grow_step hsr.hr hN hH hl hc (setV_size _ _ _) hBlk
      refine hk _ _ F _ ?_ k1 k2
      have hsh : (wset w (μ id) (setV cs (n * ti.size) (flat ti.size m g)) t').shape? (mu1 μ N (μ id) N) = some (t', cs.size) := by
        rw [mu1_new]; simp [World.shape?, wset_same hlt, setV_size]
      cases hnl : nl with
      | false =>
        have := VR.ms (w := wset w (μ id) (setV cs (n * ti.size) (flat ti.size m g)) t') (F := F) (μ := mu1 μ N (μ id)) (K := plus K [N]) N 0 (n + m) ti.size cap cs.size t' (.inr (by simp)) hle hsh (by simpa using hcs)
        rw [mu1_new] at this
        simpa using this
      | true =>
        by_cases h0 : n + m = 0
        · exact absurd (hn0 hnl) (by omega)
        · have := VR.vs (w := wset w (μ id) (setV cs (n * ti.size) (flat ti.size m g)) t') (F := F) (μ := mu1 μ N (μ id)) (K := plus K [N]) N (n + m) ti.size cap cs.size t' h0 (.inr (by simp)) hle hsh hcs
          rw [mu1_new] at this
          simpa using this
  · -- anew
    have hgt : n + m > cap := Nat.lt_of_not_le hle
    have hold : ∃ old : Array Value, (∀ w', w'.heap = w.heap → (Builtin.firstCells ti.size n (.slice A n cap)).run P w' = .ok old w') ∧ old.size = n * ti.size ∧ ∀ i j, i < n → j < ti.size → VR w F μ NoK (e i j) (old.getD (i * ti.size + j) undef) ∧ (old.getD (i * ti.size + j) undef).oneCell' = true := by
      rcases hA with ⟨rfl, rfl, rfl, rfl⟩ | ⟨id, b, cs, t', rfl, rfl, hH, hl, hc, hcs, hn0, he⟩
      · exact ⟨#[], fun w' _ => by simp [Builtin.firstCells], by simp, fun i j hi => by omega⟩
      · have h5 : n * ti.size ≤ cs.size := Nat.le_trans (Nat.mul_le_mul_right _ hcap) hcs
        refine ⟨⟨flat ti.size n fun i j => cs.getD (i * ti.size + j) undef⟩, fun w' hw' => run_firstCells hs0 (fun i j hi hj => ?_) _ _, by simp [flat_length], fun i j hi hj => ?_⟩
        · have h6 : (i + 1) * ti.size ≤ n * ti.size := Nat.mul_le_mul_right _ hi
          rw [Nat.add_mul, Nat.one_mul] at h6
          have : i * ti.size + j < cs.size := by omega
          simp [World.cell?, hw', hc, this]
        · have := flat_get (u := fun i j => cs.getD (i * ti.size + j) undef) hi hj
          rw [← getD_toList]
          show VR w F μ NoK (e i j) ((flat ti.size n fun i j => cs.getD (i * ti.size + j) undef).getD _ _) ∧ ((flat ti.size n fun i j => cs.getD (i * ti.size + j) undef).getD _ _).oneCell' = true
          rw [this]; exact he i j hi hj
    obtain ⟨old, ho1, ho2, ho3⟩ := hold
    obtain ⟨nc, hnc⟩ : ∃ nc, nc = (Question.appendCap (n + m) cap et).cut (w.tape w.drawn (Question.appendCap (n + m) cap et)) := ⟨_, rfl⟩
    have hncle : n + m ≤ nc := by rw [hnc]; exact Nat.le_add_right _ _
    have hzc : z.cells.size = z.cells.size := rfl
    obtain ⟨cs, hcs⟩ : ∃ cs : Array Value, cs = old ++ (⟨flat ti.size m g⟩ ++ Builtin.zeroCells z.cells (nc - (n + m))) := ⟨_, rfl⟩
    have hrun : (Builtin.append_ #[t, u] o.type #[.slice A n cap, .slice B m cap2]).run P w = .ok (.slice (some ⟨w.heap.size, 0, none⟩) (n + m) nc) (({ w with drawn := w.drawn + 1 } : World).alloc (.cells cs et)) := by
      have hf : (Question.appendCap (n + m) cap et).forced = false := rfl
      simp only [Builtin.append_]
      simp [run_und ht, run_siz hi, run_und hu, Builtin.lenOf, hle, run_inf hi, c1, c2 hgt, hf, ho1 w.drew rfl, hg1 w.drew rfl, run_zer hi hz, newRow, ← hnc]
      rw [hcs]
    rw [hrun, Result.andThen_ok, Oper.upon_value]
    have hj : (n + m) * ti.size ≤ cs.size ∧ ∀ i j, i < n + m → j < ti.size → VR w F μ NoK (joinR n e f i j) (cs.getD (i * ti.size + j) undef) ∧ (cs.getD (i * ti.size + j) undef).oneCell' = true := by
      have hfl : (⟨flat ti.size m g⟩ : Array Value).size = m * ti.size := by simp [flat_length]
      refine join_ok ho3 hg2 (fun k hk => ?_) (fun i j hi hj => ?_) ?_
      · rw [hcs]
        have : k < old.size := by omega
        simp [Array.getElem?_append, this]
      · rw [hcs]
        have h6 : (i + 1) * ti.size ≤ m * ti.size := Nat.mul_le_mul_right _ hi
        rw [Nat.add_mul, Nat.one_mul] at h6
        have h7 : ¬ (n + i) * ti.size + j < old.size := by rw [ho2, Nat.add_mul]; omega
        have h8 : (n + i) * ti.size + j - old.size = i * ti.size + j := by rw [ho2, Nat.add_mul]; omega
        have h9 : i * ti.size + j < (flat ti.size m g).length := by rw [flat_length]; omega
        have := flat_get (u := g) hi hj
        simp only [List.getD] at this
        simp [Array.getElem?_append, h7, h8, h9]
        simpa [h9] using this
      · rw [hcs]
        simp only [Array.size_append, hfl, ho2]
        rw [Nat.add_mul]; omega
    have hs' : HR ({ w with drawn := w.drawn + 1 } : World) F μ K s.H := hsr.hr.drew _
    have hBlk : BlkR ({ w with drawn := w.drawn + 1 } : World) F μ K cs (if nl then .vrow ti.size (n + m) (joinR n e f) else .row ti.size (n + m) (joinR n e f)) := by
      have : ∀ {b : Blk}, BlkR w F μ K cs b → BlkR ({ w with drawn := w.drawn + 1 } : World) F μ K cs b := fun h => h.mono (fun _ _ => rfl) (fun _ h => h) (fun _ _ => rfl) (fun _ h => h) (fun _ _ => rfl)
      cases nl <;> exact this hj
    obtain ⟨k1, k2⟩ := alloc_step hs' hN (t := et) hBlk
    obtain ⟨k3, k4⟩ := dead k1 ((Fr.drew _ fun id hl => hsr.hr.live_known hl).trans k2)
    refine hk _ _ F _ ?_ k3 k4
    have hsz : nc * ti.size ≤ cs.size := by
      have hz1 : (Builtin.zeroCells z.cells (nc - (n + m))).size = (nc - (n + m)) * ti.size := by
        rw [← hzs]; simp [Builtin.zeroCells]
      rw [hcs]
      simp only [Array.size_append, hz1, ho2]
      have : (⟨flat ti.size m g⟩ : Array Value).size = m * ti.size := by simp [flat_length]
      rw [this, ← Nat.add_mul, ← Nat.add_mul]
      exact Nat.mul_le_mul_right _ (by omega)
    have hsh : (({ w with drawn := w.drawn + 1 } : World).alloc (.cells cs et)).shape? (mu1 μ N w.heap.size N) = some (et, cs.size) := by
      rw [mu1_new]
      have := heap_new ({ w with drawn := w.drawn + 1 } : World) (.cells cs et)
      unfold World.shape?
      rw [show w.heap.size = ({ w with drawn := w.drawn + 1 } : World).heap.size from rfl, this]
    cases hnl : nl with
    | false =>
      have := VR.ms (w := ({ w with drawn := w.drawn + 1 } : World).alloc (.cells cs et)) (F := F) (μ := mu1 μ N w.heap.size) (K := plus K [N]) N 0 (n + m) ti.size nc cs.size et (.inr (by simp)) hncle hsh (by simpa using hsz)
      rw [mu1_new] at this
      simpa using this
    | true =>
      have := VR.vs (w := ({ w with drawn := w.drawn + 1 } : World).alloc (.cells cs et)) (F := F) (μ := mu1 μ N w.heap.size) (K := plus K [N]) N (n + m) ti.size nc cs.size et (by omega) (.inr (by simp)) hncle hsh hsz
      rw [mu1_new] at this
      simpa using this

end Go.Proofs.Ytkfdfapickladaa.Abs
