/- Parts of texts and of slices. No condition. -/
import Derived.Test.YtkfdfapickladaaAbsFa
namespace Go.Proofs.Ytkfdfapickladaa.Abs
open Go Go.RowKit

variable {w w' w'' : World} {F F' F'' : Nat → Prop} {μ μ' μ'' : Nat → Nat} {K K' K'' : Nat → Prop} {H H' H'' : Hp} {P : Program}

/-- A bound of a part; d where none is given. -/
def bndA (s : SSt) (d : Int) : Option Operand → Option Int
  | none => some d
  | some x => match s.aval x with
    | .int _ i => some i
    | _ => none

theorem bndA_ok {s : SSt} {a : Act} (hs : SR w F μ K s a) {d i : Int} {x : Option Operand} (h : bndA s d x = some i) : (x = none ∧ i = d) ∨ ∃ y k, x = some y ∧ a.eval y = .int k i := by
  cases x with
  | none =>
    simp only [bndA, Option.some.injEq] at h
    exact .inl ⟨rfl, h.symm⟩
  | some y =>
    simp only [bndA] at h
    split at h
    · rename_i k i' hx
      cases h
      have hv := aval_ok hs y
      rw [hx] at hv
      exact .inr ⟨y, _, rfl, hv.int_inv⟩
    · cases h

theorem run_bound {x : Value} {k : IntKind} {i : Int} {y : Nat} {c : BoundsCode} (hx : x = .int k i) (h0 : 0 ≤ i) (h1 : i ≤ y) : (Instr.sliceBound x y c).run P w = .ok i.toNat w := by
  subst hx
  simp only [Instr.sliceBound, asIntOf, Sem.run_bind, Sem.run_pure, Result.andThen_ok, if_pos (And.intro h0 h1)]

theorem run_bounds {s : SSt} {a : Act} (hs : SR w F μ K s a) {lo hi : Option Operand} {l h : Int} {isSl : Bool} {n cap : Nat} (hl : bndA s 0 lo = some l) (hh : bndA s n hi = some h)
    (h0 : 0 ≤ l) (h1 : l ≤ h) (h2 : h ≤ n) (h3 : n ≤ cap) : (Instr.sliceBounds isSl n cap (lo.map a.eval) (hi.map a.eval) none).run P w = .ok (l.toNat, h.toNat, cap) w := by
  have hc : h ≤ (cap : Int) := by omega
  have hlh : l ≤ (h.toNat : Int) := by omega
  rcases bndA_ok hs hh with ⟨rfl, rfl⟩ | ⟨y, k, rfl, hy⟩
  · rcases bndA_ok hs hl with ⟨rfl, rfl⟩ | ⟨z, k', rfl, hz⟩
    · simp [Instr.sliceBounds]
    · simp [Instr.sliceBounds, run_bound hz h0 h1]
  · rcases bndA_ok hs hl with ⟨rfl, rfl⟩ | ⟨z, k', rfl, hz⟩
    · simp [Instr.sliceBounds, run_bound hy (Int.le_trans h0 h1) hc]
    · simp [Instr.sliceBounds, run_bound hy (Int.le_trans h0 h1) hc, run_bound hz h0 hlh]

/-- A part of a text. -/
def subS (m : List UInt8) (l h : Int) : List UInt8 := (m.take h.toNat).drop l.toNat

theorem extract_bytes (m : List UInt8) (l h : Nat) : (⟨⟨m⟩⟩ : ByteArray).extract l h = ⟨⟨(m.take h).drop l⟩⟩ := by
  apply ByteArray.ext
  rw [ByteArray.data_extract]
  apply Array.ext'
  simp [List.extract, List.drop_take]

theorem und_str_sliceAt {t : TypeId} {x : Value} {lo hi mx : Option Value} (ht : P.underlying t = some .string) : (Instr.sliceAt t x lo hi mx).run P w = (Instr.slice t x lo hi mx).run P w := by
  simp only [Instr.sliceAt, Sem.run_bind, run_und ht, Result.andThen_ok]
theorem und_sl_sliceAt {t et : TypeId} {x : Value} {lo hi mx : Option Value} (ht : P.underlying t = some (.slice et)) : (Instr.sliceAt t x lo hi mx).run P w = (Instr.slice t x lo hi mx).run P w := by
  simp only [Instr.sliceAt, Sem.run_bind, run_und ht, Result.andThen_ok]

theorem op_sliceStr {o : Oper} {s : SSt} {x : Operand} {t : TypeId} {lo hi : Option Operand} {m : List UInt8} {l h : Int} (ho : o.op = .slice t x lo hi none) (hx : s.aval x = .str m) (ht : P.underlying t = some .string)
    (hl : bndA s 0 lo = some l) (hh : bndA s m.length hi = some h) (h0 : 0 ≤ l) (h1 : l ≤ h) (h2 : h ≤ m.length) : OpOk P o s ⟨.str (subS m l h), [], []⟩ :=
  opok_value fun w F μ K a hs => by
    have hv := aval_ok hs x
    rw [hx] at hv
    refine ⟨.string ⟨⟨subS m l h⟩⟩, ?_, .str _⟩
    have hb := run_bounds (P := P) (isSl := false) hs hl hh h0 h1 h2 (Nat.le_refl _)
    have hsz : (⟨⟨m⟩⟩ : ByteArray).size = m.length := rfl
    simp only [execOp, ho, Option.map_none, Sem.run_bind, und_str_sliceAt ht, hv.str_inv, Instr.slice, run_und ht, Result.andThen_ok, hsz, Option.isSome_none, Bool.false_eq_true, if_false, Sem.run_pure]
    rw [hb]
    simp only [Result.andThen_ok, extract_bytes, subS]

theorem op_sliceFs {o : Oper} {s : SSt} {x : Operand} {t et : TypeId} {ti : TypeInfo} {lo hi : Option Operand} {esz n : Nat} {e : Nat → Nat → AV} {l h : Int} (ho : o.op = .slice t x lo hi none) (hx : s.aval x = .fs esz n e)
    (ht : P.underlying t = some (.slice et)) (hi' : P.info? et = some ti) (hsz : ti.size = esz)
    (hl : bndA s 0 lo = some l) (hh : bndA s n hi = some h) (h0 : 0 ≤ l) (h1 : l ≤ h) (h2 : h ≤ n) : OpOk P o s ⟨.fs esz (h.toNat - l.toNat) (fun i j => e (l.toNat + i) j), [], []⟩ :=
  opok_value fun w F μ K a hs => by
    have hv := aval_ok hs x
    rw [hx] at hv
    generalize hv' : a.eval x = v at hv
    cases hv with
    | fs _ _ _ b o' cap u hF hc hu hv =>
      have hb := run_bounds (P := P) (isSl := true) hs hl hh h0 h1 h2 hc
      refine ⟨.slice (if cap = l.toNat then some ⟨b, o', none⟩ else (some ⟨b, o', none⟩ : Option Addr).map (·.add (l.toNat * ti.size))) (h.toNat - l.toNat) (cap - l.toNat), ?_, ?_⟩
      · simp only [execOp, ho, Option.map_none, Sem.run_bind, und_sl_sliceAt ht, hv', Instr.slice, run_und ht, Result.andThen_ok]
        rw [hb]
        simp only [Result.andThen_ok, run_siz hi', Sem.run_pure]
      · split
        · rename_i he
          exact .fs _ _ _ b o' _ (fun i j => u i j) hF (by omega) (fun i j hi => by omega) (fun i j hi => by omega)
        · simp only [Option.map_some, add_mk]
          refine .fs _ _ _ b _ _ (fun i j => u (l.toNat + i) j) hF (by omega) (fun i j hi hj => ?_) (fun i j hi hj => hv _ _ (by omega) hj)
          have := hu (l.toNat + i) j (by omega) hj
          rw [hsz]
          rw [Nat.add_mul, ← Nat.add_assoc] at this
          exact this
    | fsnil _ _ ad cap =>
      have hb := run_bounds (P := P) (isSl := true) (cap := cap) hs hl hh h0 h1 h2 (Nat.zero_le _)
      have hl0 : l.toNat = 0 := by omega
      have hh0 : h.toNat = 0 := by omega
      refine ⟨.slice (if cap = l.toNat then ad else ad.map (·.add (l.toNat * ti.size))) (h.toNat - l.toNat) (cap - l.toNat), ?_, ?_⟩
      · simp only [execOp, ho, Option.map_none, Sem.run_bind, und_sl_sliceAt ht, hv', Instr.slice, run_und ht, Result.andThen_ok]
        rw [hb]
        simp only [Result.andThen_ok, run_siz hi', Sem.run_pure]
      · rw [hl0, hh0]; exact .fsnil _ _ _ _

end Go.Proofs.Ytkfdfapickladaa.Abs
