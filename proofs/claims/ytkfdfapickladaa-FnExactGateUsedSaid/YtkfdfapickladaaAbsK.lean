/- A region whose order Go leaves open: whatever the order, it comes to the state that the text's order gives, where no operation looks at what another one, apart from it, writes. No condition. -/
import Derived.Test.YtkfdfapickladaaAbsJ
namespace Go.Proofs.Ytkfdfapickladaa.Abs
open Go Go.RowKit

variable {w w' w'' : World} {F F' F'' : Nat → Prop} {μ μ' μ'' : Nat → Nat} {K K' K'' : Nat → Prop} {H H' H'' : Hp} {P : Program}

/-- What an operation of the region left. -/
structure RE where
  d : Option Nat
  v : AV
  up : List (Nat × Option Blk)
  N : Nat
  k : Nat

def isD (d : Option Nat) (t : Nat) : Bool :=
  match d with
  | some d => Nat.beq d t
  | none => false
theorem isD_iff {d : Option Nat} {t : Nat} : isD d t = true ↔ d = some t := by
  cases d with
  | none => simp [isD]
  | some d => exact ⟨fun h => by rw [Nat.eq_of_beq_eq_true h], fun h => by cases h; simp [isD]⟩
def hasId (up : List (Nat × Option Blk)) (id : Nat) : Bool := up.any fun p => Nat.beq p.1 id
theorem hasId_iff {up : List (Nat × Option Blk)} {id : Nat} : hasId up id = true ↔ id ∈ up.map (·.1) := by
  simp only [hasId, List.any_eq_true, List.mem_map]
  constructor
  · rintro ⟨p, h1, h2⟩; exact ⟨p, h1, Nat.eq_of_beq_eq_true h2⟩
  · rintro ⟨p, h1, h2⟩; exact ⟨p, h1, by simp [h2]⟩

/-- The temporaries, the heap, the numbers given, when the operations in D have run (the newest is the head; the head's number is the tail's length). -/
def ovT (D : Nat → Bool) (s0 : Nat → AV) : List RE → Nat → AV
  | [], t => s0 t
  | e :: r, t => match D r.length && isD e.d t with
    | true => e.v
    | false => ovT D s0 r t
def ovH (D : Nat → Bool) (H0 : Hp) : List RE → Hp
  | [], id => H0 id
  | e :: r, id => match D r.length && hasId e.up id with
    | true => Hp.upd H0 e.up id
    | false => ovH D H0 r id
def kD (D : Nat → Bool) (N0 : Nat) : List RE → Nat → Prop
  | [], id => id < N0
  | e :: r, id => kD D N0 r id ∨ (D r.length = true ∧ e.N ≤ id ∧ id < e.N + e.k)

def Js (s : SSt) (rs : List RE) (D : Nat → Bool) : SSt := ⟨s.nt, s.N, ovT D s.tm rs, ovH D s.H rs⟩

/-- The record number j. -/
def reAt : List RE → Nat → Option RE
  | [], _ => none
  | e :: r, j => if j = r.length then some e else reAt r j

theorem reAt_lt : ∀ {rs : List RE} {j : Nat} {e : RE}, reAt rs j = some e → j < rs.length
  | [], _, _, h => by cases h
  | x :: r, j, e, h => by
    simp only [reAt] at h
    split at h
    · simp [*]
    · have := reAt_lt h; simp; omega

theorem ovT_congr {s0 : Nat → AV} {t : Nat} {D D' : Nat → Bool} : ∀ {rs : List RE}, (∀ j e, reAt rs j = some e → e.d = some t → D j = D' j) → ovT D s0 rs t = ovT D' s0 rs t
  | [], _ => rfl
  | e :: r, h => by
    simp only [ovT]
    have ih : ovT D s0 r t = ovT D' s0 r t := ovT_congr fun j e' hj hd => h j e' (by
      have := reAt_lt hj
      simp only [reAt]; rw [if_neg (by omega)]; exact hj) hd
    cases h1 : isD e.d t with
    | true =>
      rw [h r.length e (by simp [reAt]) (isD_iff.1 h1), ih]
    | false => simp only [Bool.and_false]; exact ih
theorem ovH_congr {H0 : Hp} {id : Nat} {D D' : Nat → Bool} : ∀ {rs : List RE}, (∀ j e, reAt rs j = some e → id ∈ e.up.map (·.1) → D j = D' j) → ovH D H0 rs id = ovH D' H0 rs id
  | [], _ => rfl
  | e :: r, h => by
    simp only [ovH]
    have ih : ovH D H0 r id = ovH D' H0 r id := ovH_congr fun j e' hj hd => h j e' (by
      have := reAt_lt hj
      simp only [reAt]; rw [if_neg (by omega)]; exact hj) hd
    cases h1 : hasId e.up id with
    | true => rw [h r.length e (by simp [reAt]) (hasId_iff.1 h1), ih]
    | false => simp only [Bool.and_false]; exact ih

/-- 'q' is what 'rs' was when it had i records. -/
def Suf (q rs : List RE) : Prop := ∃ p, rs = p ++ q
theorem reAt_suf {q : List RE} : ∀ {p : List RE} {j : Nat}, j < q.length → reAt (p ++ q) j = reAt q j
  | [], _, _ => rfl
  | x :: p, j, h => by
    simp only [List.cons_append, reAt]
    rw [if_neg (by simp; omega)]
    exact reAt_suf h
theorem ovT_suf {s0 : Nat → AV} {t : Nat} {D : Nat → Bool} {q : List RE} : ∀ {p : List RE}, (∀ j, q.length ≤ j → D j = false) → ovT D s0 (p ++ q) t = ovT D s0 q t
  | [], _ => rfl
  | x :: p, h => by
    simp only [List.cons_append, ovT]
    rw [h _ (by simp)]
    exact ovT_suf h
theorem ovH_suf {H0 : Hp} {id : Nat} {D : Nat → Bool} {q : List RE} : ∀ {p : List RE}, (∀ j, q.length ≤ j → D j = false) → ovH D H0 (p ++ q) id = ovH D H0 q id
  | [], _ => rfl
  | x :: p, h => by
    simp only [List.cons_append, ovH]
    rw [h _ (by simp)]
    exact ovH_suf h

/-- One more has run: number i, that none behind it overwrites. -/
def more (D : Nat → Bool) (i : Nat) : Nat → Bool := fun j => if j = i then true else D j

theorem ovT_more {s0 : Nat → AV} {D : Nat → Bool} {i : Nat} {e : RE} : ∀ {rs : List RE}, reAt rs i = some e → (∀ j e', reAt rs j = some e' → i < j → D j = true → e'.d = e.d → e.d = none) → D i = false → ∀ t,
    ovT (more D i) s0 rs t = (match isD e.d t with | true => e.v | false => ovT D s0 rs t)
  | [], h, _, _, _ => by cases h
  | x :: r, h, hb, hi, t => by
    simp only [reAt] at h
    simp only [ovT]
    split at h
    · rename_i hl
      cases h
      subst hl
      have e1 : ovT (more D r.length) s0 r t = ovT D s0 r t := ovT_congr fun j e' hj _ => by
        have := reAt_lt hj
        simp only [more]; rw [if_neg (by omega)]
      simp only [more, if_true, Bool.true_and, hi, Bool.false_and]
      rw [e1]
    · rename_i hl
      have hlt := reAt_lt h
      have ih := ovT_more (s0 := s0) h (fun j e' hj hij hd hde => hb j e' (by
        have := reAt_lt hj
        simp only [reAt]; rw [if_neg (by omega)]; exact hj) hij hd hde) hi t
      have hne : r.length ≠ i := fun e => hl e.symm
      have e0 : more D i r.length = D r.length := by simp [more, hne]
      rw [e0, ih]
      cases h1 : D r.length && isD x.d t with
      | false => rfl
      | true =>
        simp only [Bool.and_eq_true] at h1
        cases h2 : isD e.d t with
        | false => rfl
        | true =>
          have hx := isD_iff.1 h1.2
          have he := isD_iff.1 h2
          have := hb r.length x (by simp [reAt]) hlt h1.1 (hx.trans he.symm)
          rw [he] at this; cases this

theorem ovH_more {H0 : Hp} {D : Nat → Bool} {i : Nat} {e : RE} : ∀ {rs : List RE}, reAt rs i = some e → (∀ j e' id, reAt rs j = some e' → i < j → D j = true → id ∈ e'.up.map (·.1) → id ∉ e.up.map (·.1)) → D i = false → ∀ id,
    ovH (more D i) H0 rs id = (match hasId e.up id with | true => Hp.upd H0 e.up id | false => ovH D H0 rs id)
  | [], h, _, _, _ => by cases h
  | x :: r, h, hb, hi, id => by
    simp only [reAt] at h
    simp only [ovH]
    split at h
    · rename_i hl
      cases h
      subst hl
      have e1 : ovH (more D r.length) H0 r id = ovH D H0 r id := ovH_congr fun j e' hj _ => by
        have := reAt_lt hj
        simp only [more]; rw [if_neg (by omega)]
      simp only [more, if_true, Bool.true_and, hi, Bool.false_and]
      rw [e1]
    · rename_i hl
      have hlt := reAt_lt h
      have ih := ovH_more (H0 := H0) h (fun j e' id hj hij hd hid => hb j e' id (by
        have := reAt_lt hj
        simp only [reAt]; rw [if_neg (by omega)]; exact hj) hij hd hid) hi id
      have hne : r.length ≠ i := fun e => hl e.symm
      have e0 : more D i r.length = D r.length := by simp [more, hne]
      rw [e0, ih]
      cases h1 : D r.length && hasId x.up id with
      | false => rfl
      | true =>
        simp only [Bool.and_eq_true] at h1
        cases h2 : hasId e.up id with
        | false => rfl
        | true => exact absurd (hasId_iff.1 h2) (hb r.length x id (by simp [reAt]) hlt h1.1 (hasId_iff.1 h1.2))

theorem kD_more {N0 : Nat} {D : Nat → Bool} {i : Nat} {e : RE} : ∀ {rs : List RE}, reAt rs i = some e → ∀ id, kD (more D i) N0 rs id ↔ (kD D N0 rs id ∨ (e.N ≤ id ∧ id < e.N + e.k))
  | [], h, _ => by cases h
  | x :: r, h, id => by
    simp only [reAt] at h
    simp only [kD]
    split at h
    · rename_i hl
      cases h
      subst hl
      have e1 : ∀ {q : List RE}, q.length ≤ r.length → (kD (more D r.length) N0 q id ↔ kD D N0 q id) := by
        intro q
        induction q with
        | nil => intro _; exact Iff.rfl
        | cons y q ih =>
          intro hq
          simp only [List.length_cons] at hq
          simp only [kD]
          rw [ih (by omega)]
          simp only [more]; rw [if_neg (by omega)]
      rw [e1 (Nat.le_refl _)]
      simp only [more, if_true, true_and]
      constructor
      · rintro (h | h)
        · exact .inl (.inl h)
        · exact .inr h
      · rintro ((h | h) | h)
        · exact .inl h
        · exact .inr h.2
        · exact .inr h
    · rename_i hl
      have hne : r.length ≠ i := fun e => hl e.symm
      rw [kD_more h id]
      simp only [more]; rw [if_neg hne]
      constructor
      · rintro ((h | h) | h)
        · exact .inl (.inl h)
        · exact .inr h
        · exact .inl (.inr h)
      · rintro ((h | h) | h)
        · exact .inl (.inl h)
        · exact .inr h
        · exact .inl (.inr h)

/-! ### The look at the region -/

def bit (B : Array Nat) (i j : Nat) : Bool := (B.getD i 0).testBit j
/-- Neither waits for the other. -/
def inc (B : Array Nat) (i j : Nat) : Bool := !(Nat.beq i j) && !bit B i j && !bit B j i
def tchOf (tch : List (Nat × List Nat)) (i : Nat) : List Nat :=
  match tch with
  | [] => []
  | (j, l) :: r => match Nat.beq i j with
    | true => l
    | false => tchOf r i
def hidT (B : Array Nat) (i : Nat) (t : Nat) : Nat → List Oper → Bool
  | _, [] => false
  | j, o :: r => (isD o.dst t && inc B i j) || hidT B i t (j + 1) r
def hidH (B : Array Nat) (i : Nat) (id : Nat) : List (Nat × List Nat) → Bool
  | [] => false
  | (j, l) :: r => ((l.any fun x => Nat.beq x id) && inc B i j) || hidH B i id r

/-- What operation number i may look at: rs: the records ahead of it. -/
def maskS (s : SSt) (ops : List Oper) (B : Array Nat) (tch : List (Nat × List Nat)) (rs : List RE) (N : Nat) : SSt :=
  ⟨s.nt, N, fun t => bif hidT B rs.length t 0 ops then .top else ovT (bit B rs.length) s.tm rs t,
   fun id => bif hidH B rs.length id tch then none else ovH (bit B rs.length) s.H rs id⟩

structure Evd where
  rs : List RE
  ob : List Prop
  cs : List CallR
  N : Nat

def evD (P : Program) (ops : List Oper) (B : Array Nat) (tch : List (Nat × List Nat)) (ds : List (Nat × Bool)) (s : SSt) : List Oper → List RE → List CallR → Nat → Option Evd
  | [], rs, cs, N => some ⟨rs, [], cs, N⟩
  | o :: rest, rs, cs, N => if okDst s o.dst then (match wantA ⟨ops⟩ (maskS s ops B tch rs N) o with
    | none => none
    | some false => evD P ops B tch ds s rest (⟨o.dst, .lit undef, [], N, 0⟩ :: rs) cs N
    | some true => match evO P o (maskS s ops B tch rs N) cs with
      | none => none
      | some e => if e.up.all (fun p => (tchOf tch rs.length).any fun x => Nat.beq x p.1) then
          (match evD P ops B tch ds s rest (⟨o.dst, (decA ds o.dst e.v).1, e.up, N, e.k⟩ :: rs) e.cs (N + e.k) with
           | none => none
           | some r => some ⟨r.rs, e.ob ++ ((decA ds o.dst e.v).2 ++ r.ob), r.cs, r.N⟩) else none) else none

/-- Of the operations alone: every edge leads back; what B says an operation waits for, it waits for; two that write one temporary, or touch one block, wait for each other. -/
def statOk (ops : List Oper) (B : Array Nat) (tch : List (Nat × List Nat)) : Bool :=
  go1 0 ops && tch.all (fun p => tch.all fun q => !(q.1.blt p.1) || !(p.2.any fun x => q.2.any fun y => Nat.beq x y) || bit B p.1 q.1)
where
  go1 : Nat → List Oper → Bool
    | _, [] => true
    | i, o :: r => o.after.toList.all (fun e => !Region.binds .any e || e.on.blt i) && (B.getD i 0).blt (2 ^ i) && go3 i o.after.toList i && go2 i o 0 ops && go1 (i + 1) r
  go2 (i : Nat) (o : Oper) : Nat → List Oper → Bool
    | _, [] => true
    | j, p :: r => (!(j.blt i) || !(match o.dst with | some t => isD p.dst t | none => false) || bit B i j) && go2 i o (j + 1) r
  go3 (i : Nat) (es : List Edge) : Nat → Bool
    | 0 => true
    | m + 1 => (!bit B i m || es.any fun e => Region.binds .any e && (Nat.beq e.on m || bit B e.on m)) && go3 i es m

end Go.Proofs.Ytkfdfapickladaa.Abs
