/- The rules for code over abstract states: sequence, test, block, loop; a function's entry and end. No condition. -/
import Derived.Test.YtkfdfapickladaaAbsFc
namespace Go.Proofs.Ytkfdfapickladaa.Abs
open Go Go.RowKit

variable {w w' w'' : World} {F F' F'' : Nat → Prop} {μ μ' μ'' : Nat → Nat} {K K' K'' : Nat → Prop} {H H' H'' : Hp} {P : Program}

def below (N : Nat) : Nat → Prop := fun id => id < N
theorem below_plus (N k : Nat) : plus (below N) (List.range' N k) = below (N + k) := by
  funext id
  simp only [plus, below, List.mem_range'_1, eq_iff_iff]
  omega

/-- What holds behind a piece of code: of the way out and the state. -/
def Post (w : World) (F : Nat → Prop) (μ : Nat → Nat) (N : Nat) (H : Hp) (Q : Exit → SSt → Prop) : Exit → Act → World → Prop := fun e a' w' =>
  ∃ s' F' μ', Q e s' ∧ SR w' F' μ' (below s'.N) s' a' ∧ Fr w F μ (below N) H w' F' μ' (below s'.N) s'.H

def AWP (P : Program) (c : Code) (Q : Exit → SSt → Prop) (s : SSt) : Prop :=
  ∀ w F μ a, SR w F μ (below s.N) s a → c.wp P (Post w F μ s.N s.H Q) a w

theorem Post.mono {N : Nat} {Q Q' : Exit → SSt → Prop} (h : ∀ e s, Q e s → Q' e s) (e : Exit) (a : Act) (w' : World) (hp : Post w F μ N H Q e a w') : Post w F μ N H Q' e a w' := by
  obtain ⟨s', F', μ', hq, hs, hf⟩ := hp
  exact ⟨s', F', μ', h _ _ hq, hs, hf⟩
theorem Post.trans {N N' : Nat} {Q : Exit → SSt → Prop} (hf : Fr w F μ (below N) H w' F' μ' (below N') H') (e : Exit) (a : Act) (w'' : World) (hp : Post w' F' μ' N' H' Q e a w'') : Post w F μ N H Q e a w'' := by
  obtain ⟨s', F'', μ'', hq, hs, hf'⟩ := hp
  exact ⟨s', F'', μ'', hq, hs, hf.trans hf'⟩

theorem awp_mono {c : Code} {Q Q' : Exit → SSt → Prop} {s : SSt} (h : AWP P c Q s) (hq : ∀ e s, Q e s → Q' e s) : AWP P c Q' s :=
  fun w F μ a hs => Code.wp_mono (Post.mono hq) (h w F μ a hs)

/-- A state that knows less: s' of s. -/
def Wk (s' s : SSt) : Prop := ∀ w F μ a, SR w F μ (below s.N) s a → ∃ F' μ', SR w F' μ' (below s'.N) s' a ∧ Fr w F μ (below s.N) s.H w F' μ' (below s'.N) s'.H

theorem awp_weak {c : Code} {Q : Exit → SSt → Prop} {s s' : SSt} (hw : Wk s' s) (h : AWP P c Q s') : AWP P c Q s := by
  intro w F μ a hs
  obtain ⟨F', μ', hs', hf⟩ := hw w F μ a hs
  exact Code.wp_mono (fun e a' w' => Post.trans hf e a' w') (h w F' μ' a hs')

def thenA (next : SSt → Prop) (Q : Exit → SSt → Prop) : Exit → SSt → Prop
  | .normal, s => next s
  | e, s => Q e s
def blockA (id : Nat) (Q : Exit → SSt → Prop) : Exit → SSt → Prop
  | .exit id', s => if id' = id then Q .normal s else Q (.exit id') s
  | e, s => Q e s

theorem awp_seq {x y : Code} {Q : Exit → SSt → Prop} {s : SSt} (h : AWP P x (thenA (fun s' => AWP P y Q s') Q) s) : AWP P (.seq x y) Q s := by
  intro w F μ a hs
  refine wp_seq (Code.wp_mono ?_ (h w F μ a hs))
  rintro e a' w' ⟨s', F', μ', hq, hs', hf⟩
  cases e with
  | normal => exact Code.wp_mono (fun e a' w' => Post.trans hf e a' w') (hq w' F' μ' a' hs')
  | _ => exact ⟨s', F', μ', hq, hs', hf⟩

theorem post_here {N : Nat} {s : SSt} {a : Act} {Q : Exit → SSt → Prop} {e : Exit} (hq : Q e s) (hs : SR w F μ (below s.N) s a) (hN : N = s.N) : Post w F μ N s.H Q e a w := by
  subst hN
  exact ⟨s, F, μ, hq, hs, Fr.refl w F μ fun id hl => hs.hr.live_known hl⟩

theorem awp_skip {Q : Exit → SSt → Prop} {s : SSt} (h : Q .normal s) : AWP P .skip Q s := fun _ _ _ _ hs => wp_skip (post_here h hs rfl)
theorem awp_ret {Q : Exit → SSt → Prop} {s : SSt} (h : Q .ret s) : AWP P .ret Q s := fun _ _ _ _ hs => wp_ret (post_here h hs rfl)
theorem awp_exit {Q : Exit → SSt → Prop} {s : SSt} {id : Nat} (h : Q (.exit id) s) : AWP P (.exit id) Q s := fun _ _ _ _ hs => wp_exit (post_here h hs rfl)

theorem awp_block {id : Nat} {c : Code} {Q : Exit → SSt → Prop} {s : SSt} (h : AWP P c (blockA id Q) s) : AWP P (.block id c) Q s := by
  intro w F μ a hs
  refine wp_block (Code.wp_mono ?_ (h w F μ a hs))
  rintro e a' w' ⟨s', F', μ', hq, hs', hf⟩
  cases e with
  | exit id' =>
    simp only [Exit.inBlock]
    simp only [blockA] at hq
    split
    · rename_i e; rw [if_pos e] at hq; exact ⟨s', F', μ', hq, hs', hf⟩
    · rename_i e; rw [if_neg e] at hq; exact ⟨s', F', μ', hq, hs', hf⟩
  | _ => exact ⟨s', F', μ', hq, hs', hf⟩

theorem awp_cond_k {c : Operand} {x y : Code} {Q : Exit → SSt → Prop} {s : SSt} {b : Bool} (hc : s.aval c = .kb b) (h : AWP P (bif b then x else y) Q s) : AWP P (.cond c x y) Q s := by
  intro w F μ a hs
  have hv := aval_ok hs c
  rw [hc] at hv
  refine wp_cond hv.kb_inv ?_
  cases b
  · exact h w F μ a hs
  · exact h w F μ a hs
theorem awp_cond {c : Operand} {x y : Code} {Q : Exit → SSt → Prop} {s : SSt} {b : Bool} (hc : s.aval c = .bool b) (ht : b = true → AWP P x Q s) (hf : b = false → AWP P y Q s) : AWP P (.cond c x y) Q s := by
  intro w F μ a hs
  have hv := aval_ok hs c
  rw [hc] at hv
  cases b
  · exact wp_cond_false hv.bool_inv (hf rfl w F μ a hs)
  · exact wp_cond_true hv.bool_inv (ht rfl w F μ a hs)

/-! ### Loops -/

def LoopW (P : Program) (c : Code) (Q : Exit → Act → World → Prop) (a : Act) (w : World) : Prop :=
  ∀ (b : Frame) (k : List Item) (cs : List Frame), ∃ e a' w', Q e a' w' ∧ Arrives P (lone (b.at a (.code c :: .inLoop c :: k)) cs w) b k cs e a' w'

theorem LoopW.wp {c : Code} {Q : Exit → Act → World → Prop} {a : Act} (h : LoopW P c Q a w) : (Code.loop c).wp P Q a w := by
  intro b k cs
  obtain ⟨e, a', w', hq, harr⟩ := h b k cs
  exact ⟨e, a', w', hq, .of_steps (.one step_loop) harr⟩

theorem LoopW.round {c : Code} {Q : Exit → Act → World → Prop} {a : Act} (h : c.wp P (Exit.then (LoopW P c Q) Q) a w) : LoopW P c Q a w := by
  intro b k cs
  obtain ⟨e, a₁, w₁, hq, harr⟩ := h b (.inLoop c :: k) cs
  cases e with
  | normal =>
    obtain ⟨e₂, a₂, w₂, hq₂, harr₂⟩ := hq b k cs
    exact ⟨e₂, a₂, w₂, hq₂, .of_steps (Steps.trans harr (.one step_inLoop)) harr₂⟩
  | exit id => exact ⟨_, a₁, w₁, hq, .pass (x := .inLoop c) rfl (fun _ _ => .inl (by simp)) harr⟩
  | goto l => exact ⟨_, a₁, w₁, hq, .pass (x := .inLoop c) rfl (fun _ _ => .inl (by simp)) harr⟩
  | ret => exact ⟨_, a₁, w₁, hq, .pass (x := .inLoop c) rfl (fun _ _ => .inl (by simp)) harr⟩
  | panic ch => exact ⟨_, a₁, w₁, hq, .pass (x := .inLoop c) rfl (fun _ _ => .inl (by simp)) harr⟩
  | outgrown => exact ⟨_, a₁, w₁, hq, .pass (x := .inLoop c) rfl (fun _ _ => .inl (by simp)) harr⟩

theorem LoopW.mono {c : Code} {Q Q' : Exit → Act → World → Prop} {a : Act} (hq : ∀ e a w, Q e a w → Q' e a w) (h : LoopW P c Q a w) : LoopW P c Q' a w := fun b k cs =>
  let ⟨e, a', w', q, r⟩ := h b k cs; ⟨e, a', w', hq _ _ _ q, r⟩

/-- A loop's rounds, from here on. -/
def ALoop (P : Program) (c : Code) (Q : Exit → SSt → Prop) (s : SSt) : Prop :=
  ∀ w F μ a, SR w F μ (below s.N) s a → LoopW P c (Post w F μ s.N s.H Q) a w

theorem awp_loop {c : Code} {Q : Exit → SSt → Prop} {s : SSt} (h : ALoop P c Q s) : AWP P (.loop c) Q s := fun w F μ a hs => (h w F μ a hs).wp
theorem aloop_mono {c : Code} {Q Q' : Exit → SSt → Prop} {s : SSt} (h : ALoop P c Q s) (hq : ∀ e s, Q e s → Q' e s) : ALoop P c Q' s :=
  fun w F μ a hs => LoopW.mono (Post.mono hq) (h w F μ a hs)
theorem aloop_weak {c : Code} {Q : Exit → SSt → Prop} {s s' : SSt} (hw : Wk s' s) (h : ALoop P c Q s') : ALoop P c Q s := by
  intro w F μ a hs
  obtain ⟨F', μ', hs', hf⟩ := hw w F μ a hs
  exact LoopW.mono (fun e a' w' => Post.trans hf e a' w') (h w F' μ' a hs')
theorem aloop_round {c : Code} {Q : Exit → SSt → Prop} {s : SSt} (h : AWP P c (thenA (fun s' => ALoop P c Q s') Q) s) : ALoop P c Q s := by
  intro w F μ a hs
  refine LoopW.round (Code.wp_mono ?_ (h w F μ a hs))
  rintro e a' w' ⟨s', F', μ', hq, hs', hf⟩
  cases e with
  | normal => exact LoopW.mono (fun e a' w' => Post.trans hf e a' w') (hq w' F' μ' a' hs')
  | _ => exact ⟨s', F', μ', hq, hs', hf⟩

/-! ### A function -/

/-- The frame at the entry. -/
def tml : List (Nat × AV) → Nat → AV
  | [], _ => .top
  | (i, v) :: r, t => match Nat.beq t i with
    | true => v
    | false => tml r t
def argL : Nat → List AV → List (Nat × AV)
  | _, [] => []
  | i, a :: r => (i, a) :: argL (i + 1) r
def entry (nt N : Nat) (args : List AV) (H : Hp) : SSt := ⟨nt, N, tml (argL 0 args), H⟩

theorem tml_arg (args : List AV) (i t : Nat) : tml (argL i args) t = if i ≤ t then args.getD (t - i) .top else .top := by
  induction args generalizing i with
  | nil => simp [argL, tml]
  | cons x r ih =>
    simp only [argL, tml]
    cases h : Nat.beq t i with
    | true =>
      have h := Nat.eq_of_beq_eq_true h
      subst h; simp
    | false =>
      have h := Nat.ne_of_beq_eq_false h
      rw [ih]
      by_cases h2 : i + 1 ≤ t
      · rw [if_pos h2, if_pos (by omega), show t - i = (t - (i + 1)) + 1 by omega]
        simp
      · rw [if_neg h2, if_neg (by omega)]

theorem entry_SR {nt N : Nat} {args : List AV} {vs : List Value} (hr : HR w F μ (below N) H) (hv : VRs w F μ (below N) args vs) (hn : args.length ≤ nt) :
    SR w F μ (below N) (entry nt N args H) { tmps := ⟨vs⟩ ++ Array.replicate (nt - (⟨vs⟩ : Array Value).size) undef, defers := [] } where
  hr := hr
  nt := by have := hv.1; simp [entry]; omega
  tm := fun t => by
    show VR w F μ (below N) (tml (argL 0 args) t) _
    rw [tml_arg]
    simp only [Nat.zero_le, if_true, Nat.sub_zero]
    by_cases h : t < args.length
    · have h' : t < vs.length := hv.1 ▸ h
      have := hv.2 t h
      have e : (({ toList := vs } : Array Value) ++ Array.replicate (nt - ({ toList := vs } : Array Value).size) undef).getD t undef = vs.getD t undef := by
        simp [List.getD, Array.getElem?_append, h']
      rw [e]; exact this
    · have : args.getD t .top = .top := by simp [List.getD, List.getElem?_eq_none (Nat.le_of_not_lt h)]
      rw [this]; exact .top _
  df := rfl

/-! ### Values that read alike -/

def nrm1 : AV → AV
  | .kb b => .bool b
  | .nils => .fs 0 0 fun _ _ => .top
  | .fs esz n e => match n with
    | 0 => .fs 0 0 fun _ _ => .top
    | n + 1 => .fs esz (n + 1) e
  | a => a
def nrmE1 : AV → AV
  | .kb b => .bool b
  | .fs esz n e => match n with
    | 0 => .fs 0 0 fun _ _ => .top
    | n + 1 => .fs esz (n + 1) e
  | a => a
def nrm2 : AV → AV
  | .agg cs => .agg (cs.map nrm1)
  | a => nrm1 a
def nrmE2 : AV → AV
  | .agg cs => .agg (cs.map nrmE1)
  | a => nrmE1 a
def nrm : AV → AV
  | .tup cs => .tup (cs.map nrm2)
  | a => nrm2 a
def nrmE : AV → AV
  | .tup cs => .tup (cs.map nrmE2)
  | a => nrmE2 a

theorem VR.fs0 {esz esz' : Nat} {e e' : Nat → Nat → AV} {v : Value} (h : VR w F μ K (.fs esz 0 e) v) : VR w F μ K (.fs esz' 0 e') v := by
  cases h with
  | fs _ _ _ b o cap u hF hc hu hv => exact .fs _ _ _ b o cap u hF hc (fun i j hi => absurd hi (by omega)) (fun i j hi => absurd hi (by omega))
  | fsnil => exact .fsnil _ _ _ _
theorem VR.to_nrm1 {a : AV} {v : Value} (h : VR w F μ K a v) : VR w F μ K (nrm1 a) v := by
  cases a <;> simp only [nrm1] <;> first | exact h | skip
  · cases h; exact .bool _
  · cases h; exact .fsnil _ _ _ _
  · rename_i esz n e
    cases n
    · exact h.fs0
    · exact h
theorem VR.of_nrmE1 {a : AV} {v : Value} (h : VR w F μ K (nrmE1 a) v) : VR w F μ K a v := by
  cases a <;> simp only [nrmE1] at h <;> first | exact h | skip
  · cases h; exact .kb _
  · rename_i esz n e
    cases n
    · exact h.fs0
    · exact h
theorem VRs.map_iff {f g : AV → AV} (hf : ∀ a v, VR w F μ K (f a) v → VR w F μ K (g a) v) {l : List AV} {vs : List Value} (h : VRs w F μ K (l.map f) vs) : VRs w F μ K (l.map g) vs := by
  induction l generalizing vs with
  | nil => exact h
  | cons x l ih =>
    obtain ⟨v, r, rfl, h1, h2⟩ := h.cons_inv
    exact .cons (hf x v h1) (ih h2)
theorem VR.to_nrm2 {a : AV} {v : Value} (h : VR w F μ K a v) : VR w F μ K (nrm2 a) v := by
  cases a <;> simp only [nrm2] <;> first | exact h.to_nrm1 | skip
  obtain ⟨vs, rfl, hv⟩ := h.agg_inv
  exact .mkAgg (VRs.map_iff (f := id) (fun a v h => h.to_nrm1) (by simpa using hv))
theorem VR.of_nrmE2 {a : AV} {v : Value} (h : VR w F μ K (nrmE2 a) v) : VR w F μ K a v := by
  cases a <;> simp only [nrmE2] at h <;> first | exact h.of_nrmE1 | skip
  obtain ⟨vs, rfl, hv⟩ := h.agg_inv
  have := VRs.map_iff (g := id) (fun a v h => VR.of_nrmE1 h) hv
  exact .mkAgg (by simpa using this)
theorem VR.to_nrm {a : AV} {v : Value} (h : VR w F μ K a v) : VR w F μ K (nrm a) v := by
  cases a <;> simp only [nrm] <;> first | exact h.to_nrm2 | skip
  obtain ⟨vs, rfl, hv⟩ := h.tup_inv
  exact .mkTup (VRs.map_iff (f := id) (fun a v h => h.to_nrm2) (by simpa using hv))
theorem VR.of_nrmE {a : AV} {v : Value} (h : VR w F μ K (nrmE a) v) : VR w F μ K a v := by
  cases a <;> simp only [nrmE] at h <;> first | exact h.of_nrmE2 | skip
  obtain ⟨vs, rfl, hv⟩ := h.tup_inv
  have := VRs.map_iff (g := id) (fun a v h => VR.of_nrmE2 h) hv
  exact .mkTup (by simpa using this)
/-- What stands for a value stands for it under another name that reads alike. -/
theorem VR.alike {a b : AV} (he : nrm a = nrmE b) {v : Value} (h : VR w F μ K a v) : VR w F μ K b v := VR.of_nrmE (he ▸ h.to_nrm)
theorem VRs.alike {l m : List AV} (he : l.map nrm = m.map nrmE) {vs : List Value} (h : VRs w F μ K l vs) : VRs w F μ K m vs := by
  have h1 := VRs.map_iff (f := id) (g := nrm) (fun a v h => VR.to_nrm h) (by simpa using h)
  rw [he] at h1
  have := VRs.map_iff (g := id) (fun a v h => VR.of_nrmE h) h1
  simpa using this

def cloR : AV → Bool
  | .tup cs => cs.all cloA
  | a => cloA a
theorem VR.cloR {a : AV} {v : Value} (h : VR w F μ K a v) (hc : cloR a = true) : VR w F μ' K' a v := by
  cases a with
  | tup cs =>
    cases h with
    | tup _ vs hl hv =>
      refine .tup cs vs hl fun i hi => ((hv i hi).clo ?_).up
      simp only [Abs.cloR, List.all_eq_true] at hc
      simpa [List.getD, hi] using hc _ (List.getElem_mem hi)
  | _ => exact (h.clo hc).up

/-! ### At a function's end all that it made is frozen -/

def frz1 (H : Hp) : AV → AV
  | .ms id i n esz => match H id with
    | some (.row esz' _ e) => if esz.beq esz' then .fs esz n (match i with | 0 => e | _ => fun i' j => e (i + i') j) else .top
    | _ => .top
  | .vs id n esz => match H id with
    | some (.vrow esz' _ e) => if esz.beq esz' then .fs esz n e else .top
    | _ => .top
  | .bp _ _ => .top
  | .rp _ _ _ _ => .top
  | a => a
def frzOb1 (H : Hp) : AV → List Prop
  | .ms id i n _ => match H id with
    | some (.row _ m _) => [addNat i n ≤ m]
    | _ => []
  | .vs id n _ => match H id with
    | some (.vrow _ m _) => [n = m]
    | _ => []
  | _ => []
def frz2 (H : Hp) : AV → AV
  | .agg cs => .agg (cs.map (frz1 H))
  | a => frz1 H a
def frzObs1 (H : Hp) : List AV → List Prop
  | [] => []
  | a :: r => frzOb1 H a ++ frzObs1 H r
def frzOb2 (H : Hp) : AV → List Prop
  | .agg cs => frzObs1 H cs
  | a => frzOb1 H a
def frzObs2 (H : Hp) : List AV → List Prop
  | [] => []
  | a :: r => frzOb2 H a ++ frzObs2 H r
def frz (H : Hp) : AV → AV
  | .tup cs => .tup (cs.map (frz2 H))
  | a => frz2 H a
def frzOb (H : Hp) : AV → List Prop
  | .tup cs => frzObs2 H cs
  | a => frzOb2 H a

/-- The frozen blocks, and all of the call's own. -/
def allF (F : Nat → Prop) (μ : Nat → Nat) (H : Hp) : Nat → Prop := fun b => F b ∨ ∃ id, H.live id ∧ μ id = b

theorem VR.frz1 (hr : HR w F μ K H) {a : AV} {v : Value} (h : VR w F μ K a v) (ho : AllP (frzOb1 H a)) : VR w (allF F μ H) μ K (frz1 H a) v := by
  have up : ∀ {K a v}, VR w F μ K a v → VR w (allF F μ H) μ K a v := fun h => h.mono (fun _ _ => rfl) (fun _ h => .inl h) (fun _ _ => rfl) (fun _ h => h) (fun _ _ => rfl)
  cases a <;> simp only [Abs.frz1] <;> first | exact up h | exact .top _ | skip
  · rename_i id i n esz
    split
    · rename_i esz' m e hb
      split
      · rename_i he
        have he := Nat.eq_of_beq_eq_true he
        subst he
        simp only [frzOb1, hb, addNat_eq] at ho
        obtain ⟨ho, _⟩ := ho
        obtain ⟨cs, t, hc, hB⟩ := hr.blk _ _ hb rfl
        cases h with
        | ms _ _ _ _ cap sz t' hid hcap hs hsz =>
          refine .fs _ _ _ (μ id) (i * esz) cap (fun i' j => cs.getD ((i + i') * esz + j) undef) (.inr ⟨id, ⟨_, hb, rfl⟩, rfl⟩) hcap (fun i' j hi hj => ?_) (fun i' j hi hj => ?_)
          · have h2 : (i + i' + 1) * esz ≤ m * esz := Nat.mul_le_mul_right _ (by omega)
            rw [Nat.add_mul, Nat.one_mul] at h2
            have hlt : (i + i') * esz + j < cs.size := by have := hB.1; omega
            have e1 : i * esz + i' * esz + j = (i + i') * esz + j := by rw [Nat.add_mul]
            rw [e1]
            have h7 := (hB.2 (i + i') j (by omega) hj).2
            exact ⟨by simp [World.cell?, hc, hlt], h7⟩
          · have := up (hB.2 (i + i') j (by omega) hj).1
            cases i with
            | zero => simpa using this
            | succ i => exact this
      · exact .top _
    · exact .top _
  · rename_i id n esz
    split
    · rename_i esz' m e hb
      split
      · rename_i he
        have he := Nat.eq_of_beq_eq_true he
        subst he
        simp only [frzOb1, hb] at ho
        obtain ⟨ho, _⟩ := ho
        subst ho
        cases h with
        | vs _ _ _ cap sz t' hn hid hcap hs hsz =>
          have hl : (Blk.vrow esz n e).lies = true := by simpa [Blk.lies] using hn
          obtain ⟨cs, t, hc, hB⟩ := hr.blk _ _ hb hl
          refine .fs _ _ _ (μ id) 0 cap (fun i' j => cs.getD (i' * esz + j) undef) (.inr ⟨id, ⟨_, hb, hl⟩, rfl⟩) hcap (fun i' j hi hj => ?_) (fun i' j hi hj => up (hB.2 i' j hi hj).1)
          have h2 : (i' + 1) * esz ≤ n * esz := Nat.mul_le_mul_right _ (by omega)
          rw [Nat.add_mul, Nat.one_mul] at h2
          have hlt : i' * esz + j < cs.size := by have := hB.1; omega
          exact ⟨by simp [World.cell?, hc, hlt], (hB.2 i' j hi hj).2⟩
        | vsnil => exact .fsnil _ _ _ _
      · exact .top _
    · exact .top _

theorem VRs.frz1 (hr : HR w F μ K H) : ∀ {l : List AV} {vs : List Value}, VRs w F μ K l vs → AllP (frzObs1 H l) → VRs w (allF F μ H) μ K (l.map (frz1 H)) vs
  | [], vs, h, _ => by rw [h.nil_inv]; exact .nil
  | x :: l, vs, h, ho => by
    obtain ⟨v, r, rfl, h1, h2⟩ := h.cons_inv
    exact .cons (h1.frz1 hr ho.app.1) (VRs.frz1 hr h2 ho.app.2)
theorem VR.frz2 (hr : HR w F μ K H) {a : AV} {v : Value} (h : VR w F μ K a v) (ho : AllP (frzOb2 H a)) : VR w (allF F μ H) μ K (frz2 H a) v := by
  cases a <;> simp only [Abs.frz2] <;> first | exact h.frz1 hr ho | skip
  obtain ⟨vs, rfl, hv⟩ := h.agg_inv
  exact .mkAgg (hv.frz1 hr ho)
theorem VRs.frz2 (hr : HR w F μ K H) : ∀ {l : List AV} {vs : List Value}, VRs w F μ K l vs → AllP (frzObs2 H l) → VRs w (allF F μ H) μ K (l.map (frz2 H)) vs
  | [], vs, h, _ => by rw [h.nil_inv]; exact .nil
  | x :: l, vs, h, ho => by
    obtain ⟨v, r, rfl, h1, h2⟩ := h.cons_inv
    exact .cons (h1.frz2 hr ho.app.1) (VRs.frz2 hr h2 ho.app.2)
theorem VR.frz (hr : HR w F μ K H) {a : AV} {v : Value} (h : VR w F μ K a v) (ho : AllP (frzOb H a)) : VR w (allF F μ H) μ K (frz H a) v := by
  cases a <;> simp only [Abs.frz] <;> first | exact h.frz2 hr ho | skip
  obtain ⟨vs, rfl, hv⟩ := h.tup_inv
  exact .mkTup (hv.frz2 hr ho)

/-! ### What a function gives -/

def resL (P : Program) : List ResultVar → SSt → Option (List AV × List Prop)
  | [], _ => some ([], [])
  | .tmp t :: r, s => match resL P r s with
    | some (l, ob) => some (s.tm t :: l, ob)
    | none => none
  | .cell a t :: r, s => match P.underlying t, P.info? t, resL P r s with
    | some d, some i, some (l, ob) => if aggD d then (match cellsAt s.H (s.tm a) i.size with
        | some (c, ob') => some (.agg ((List.range i.size).map c) :: l, ob' ++ ob)
        | none => none) else (match cellsAt s.H (s.tm a) 1 with
        | some (c, ob') => some (c 0 :: l, ob' ++ ob)
        | none => none)
    | _, _, _ => none

def tupOr : List AV → AV
  | [x] => x
  | l => .tup l

def resOne (tmps : Array Value) : ResultVar → Sem Value
  | .tmp t => pure (tmps.getD t undef)
  | .cell a t => do loadVar t (← asAddr (tmps.getD a undef))

theorem resL_ok {s : SSt} {a : Act} (hs : SR w F μ K s a) : ∀ {rs : List ResultVar} {l : List AV} {ob : List Prop}, resL P rs s = some (l, ob) → AllP ob →
    ∃ vs, (rs.mapM (resOne a.tmps)).run P w = .ok vs w ∧ VRs w F μ K l vs
  | [], l, ob, h, _ => by
    simp only [resL, Option.some.injEq, Prod.mk.injEq] at h
    obtain ⟨rfl, _⟩ := h
    exact ⟨[], by simp, .nil⟩
  | .tmp t :: r, l, ob, h, ho => by
    simp only [resL] at h
    split at h
    · rename_i l' ob' hr
      simp only [Option.some.injEq, Prod.mk.injEq] at h
      obtain ⟨rfl, rfl⟩ := h
      obtain ⟨vs, h1, h2⟩ := resL_ok hs hr ho
      exact ⟨_, by simp only [List.mapM_cons, resOne, Sem.run_bind, Sem.run_pure, Result.andThen_ok, h1], .cons (hs.tm t) h2⟩
    · cases h
  | .cell c t :: r, l, ob, h, ho => by
    simp only [resL] at h
    split at h
    · rename_i d i l' ob' hd hi hr
      split at h
      · rename_i ha
        split at h
        · rename_i cc ob2 hc
          simp only [Option.some.injEq, Prod.mk.injEq] at h
          obtain ⟨rfl, rfl⟩ := h
          obtain ⟨vs, h1, h2⟩ := resL_ok hs hr ho.app.2
          obtain ⟨b, o, u, hv, hu⟩ := cellsAt_ok hs.hr hc ho.app.1 (hs.tm c)
          have h3 := loadVar_agg (P := P) (w := w) hd hi ha b o u fun j hj => (hu j hj).1
          simp only [Instr.loadAt, Instr.sureAddr, Sem.run_bind, Sem.run_pure, Result.andThen_ok] at h3
          exact ⟨_, by simp only [List.mapM_cons, resOne, Sem.run_bind, Sem.run_pure, Result.andThen_ok, hv, asAddr, h3, h1], .cons (.mkAgg (range_map_VRs fun j hj => (hu j hj).2)) h2⟩
        · cases h
      · rename_i ha
        split at h
        · rename_i cc ob2 hc
          simp only [Option.some.injEq, Prod.mk.injEq] at h
          obtain ⟨rfl, rfl⟩ := h
          obtain ⟨vs, h1, h2⟩ := resL_ok hs hr ho.app.2
          obtain ⟨b, o, u, hv, hu⟩ := cellsAt_ok hs.hr hc ho.app.1 (hs.tm c)
          have h3 := loadVar_one (P := P) (w := w) hd (by simpa using ha) b o (u 0) (hu 0 (by omega)).1
          simp only [Instr.loadAt, Instr.sureAddr, Sem.run_bind, Sem.run_pure, Result.andThen_ok] at h3
          exact ⟨_, by simp only [List.mapM_cons, resOne, Sem.run_bind, Sem.run_pure, Result.andThen_ok, hv, asAddr, h3, h1], .cons (hu 0 (by omega)).2 h2⟩
        · cases h
    · cases h

theorem results_ok {fn : Func} {s : SSt} {a : Act} (hs : SR w F μ K s a) {l : List AV} {ob : List Prop} (h : resL P fn.results.toList s = some (l, ob)) (ho : AllP ob) :
    ∃ v, (results fn a.tmps).run P w = .ok v w ∧ VR w F μ K (tupOr l) v := by
  obtain ⟨vs, h1, h2⟩ := resL_ok hs h ho
  have h3 : (fn.results.mapM (resOne a.tmps)).run P w = .ok ⟨vs⟩ w := by
    rw [Array.mapM_eq_mapM_toList]
    simp only [Sem.run_map]
    rw [h1]
    rfl
  refine ⟨_, by
    show (do let vs ← fn.results.mapM (resOne a.tmps); pure (if h : vs.size = 1 then vs[0] else .tuple vs) : Sem Value).run P w = _
    simp only [Sem.run_bind]
    rw [h3]
    rfl, ?_⟩
  match l, vs, h2 with
  | [], vs, h2 => rw [h2.nil_inv]; exact .mkTup .nil
  | [x], vs, h2 =>
    obtain ⟨v, r, rfl, k1, k2⟩ := h2.cons_inv
    rw [k2.nil_inv]
    exact k1
  | x :: y :: l, vs, h2 =>
    have : vs.length ≠ 1 := by rw [← h2.1]; simp
    simp only [tupOr]
    rw [dif_neg (by simpa using this)]
    exact .mkTup h2

/-- At the end of a function that gives r, and nothing that it made is written any more. -/
def PEnd (P : Program) (rs : List ResultVar) (r : AV) : Exit → SSt → Prop
  | .normal, s | .ret, s => ∃ l ob, resL P rs s = some (l, ob) ∧ AllP ob ∧ AllP (frzOb s.H (tupOr l)) ∧ nrm (frz s.H (tupOr l)) = nrmE r
  | _, _ => False
/-- What is to be shown at the end, in one reckoning. -/
def finR (P : Program) (rs : List ResultVar) (s : SSt) : Option (List Prop × AV) :=
  match resL P rs s with
  | some (l, ob) => some (ob ++ frzOb s.H (tupOr l), nrm (frz s.H (tupOr l)))
  | none => none
theorem fin_ob {rs : List ResultVar} {s : SSt} {r : AV} (obs : List Prop) (h : finR P rs s = some (obs, nrmE r)) (ho : AllP obs) : ∃ l ob, resL P rs s = some (l, ob) ∧ AllP ob ∧ AllP (frzOb s.H (tupOr l)) ∧ nrm (frz s.H (tupOr l)) = nrmE r := by
  unfold finR at h
  split at h
  · rename_i l ob hl
    simp only [Option.some.injEq, Prod.mk.injEq] at h
    obtain ⟨h1, h2⟩ := h
    rw [← h1] at ho
    exact ⟨l, ob, hl, ho.app.1, ho.app.2, h2⟩
  · cases h
theorem awp_fin {rs : List ResultVar} {s : SSt} {r : AV} (h : finR P rs s = some ([], nrmE r)) : AWP P .ret (PEnd P rs r) s := awp_ret (fin_ob [] h trivial)
theorem awp_fin_ob {rs : List ResultVar} {s : SSt} {r : AV} (obs : List Prop) (h : finR P rs s = some (obs, nrmE r)) (ho : AllP obs) : AWP P .ret (PEnd P rs r) s := awp_ret (fin_ob obs h ho)

/-- THE CONTRACT OF A FUNCTION THAT TURNS NOTHING: closed arguments, a closed answer. -/
def PC (P : Program) (f : FuncId) (args : List AV) (r : AV) : Prop := GC P f args Hp.none' r [] []

theorem HR.none (hpos : 0 < w.heap.size) (hwf : ∀ b, F b → b < w.heap.size) (hlt : ∀ id, K id → μ id < w.heap.size) : HR w F μ K Hp.none' where
  lt := hlt
  known := fun id b hb => by cases hb
  blk := fun id b hb => by cases hb
  nof := fun id ⟨b, hb, _⟩ => by cases hb
  inj := fun id id' ⟨b, hb, _⟩ => by cases hb
  wf := hwf
  pos := hpos

theorem pc_intro {f : FuncId} {fn : Func} {c : Code} {args : List AV} {r : AV} (hcall : ∀ (xs : Array Value) (w : World), (callFunc f xs).run P w = .ok (.enter f xs) w)
    (hf : P.funcs[f]? = some fn) (hb : fn.body = some c) (hn : args.length ≤ fn.ntmps) (hclo : args.all cloA = true) (hr : cloR r = true)
    (h : AWP P c (PEnd P fn.results.toList r) (entry fn.ntmps 0 args Hp.none')) : PC P f args r := by
  refine ⟨hcall, fun w F μ K cargs hargs hrr _ => ?_⟩
  have hr0 : HR w F μ (below 0) Hp.none' := HR.none hrr.pos hrr.wf fun id hid => absurd hid (by simp [below])
  have hargs0 : VRs w F μ (below 0) args cargs := ⟨hargs.1, fun i hi => ((hargs.2 i hi).clo (by
    simp only [List.all_eq_true] at hclo
    simpa [List.getD, hi] using hclo _ (List.getElem_mem hi))).up⟩
  refine calls_of_wp hf hb (Code.wp_mono ?_ (h w F μ _ (entry_SR hr0 hargs0 hn)))
  rintro e a' w' ⟨s', F', μ', hq, hs, hfr⟩
  have fin : (∃ l ob, resL P fn.results.toList s' = some (l, ob) ∧ AllP ob ∧ AllP (frzOb s'.H (tupOr l)) ∧ nrm (frz s'.H (tupOr l)) = nrmE r) →
      a'.defers = [] ∧ ∃ v, (results fn a'.tmps).run P w' = .ok v w' ∧ ∃ v' F'' μ'', Ending.returned v = .returned v' ∧ VR w' F'' μ'' (plus K []) r v' ∧ HR w' F'' μ'' (plus K []) (Hp.none'.upd []) ∧
        Fr w F μ K Hp.none' w' F'' μ'' (plus K []) (Hp.none'.upd []) := by
    rintro ⟨l, ob, h1, h2, h3, h4⟩
    obtain ⟨v, hv, hvr⟩ := results_ok hs h1 h2
    have hvf := hvr.frz hs.hr h3
    refine ⟨hs.df, v, hv, v, allF F' μ' s'.H, μ, rfl, ?_, ?_, ?_⟩
    · rw [plus_nil]
      exact (VR.alike h4 hvf).cloR hr
    · rw [plus_nil]
      refine HR.none (Nat.lt_of_lt_of_le hrr.pos hfr.size) ?_ fun id hid => Nat.lt_of_lt_of_le (hrr.lt id hid) hfr.size
      rintro b (hb | ⟨id, hl, rfl⟩)
      · exact hs.hr.wf b hb
      · exact hs.hr.lt id (hs.hr.live_known hl)
    · rw [plus_nil]
      have nolive : ∀ id, ¬ Hp.none'.live id := fun id ⟨b, hb, _⟩ => by cases hb
      refine { os := hfr.os, tape := hfr.tape, output := hfr.output, size := hfr.size, len := fun _ h => h, mu := fun _ _ => rfl, froz := fun b hb => .inl (hfr.froz b hb), shape := hfr.shape,
               same := fun b hb _ => hfr.same b hb fun id hl => absurd hl (nolive id), old := fun id _ hl => hl, new := fun id _ hl => absurd hl (nolive id), fnew := ?_ }
      rintro b (hb | ⟨id, hl, rfl⟩)
      · rcases hfr.fnew b hb with k | k | ⟨id, k, _⟩
        · exact .inl k
        · exact .inr (.inl k)
        · exact absurd k (nolive id)
      · rcases hfr.new id (fun h => absurd h (Nat.not_lt_zero id)) hl with k | ⟨id0, k, _⟩
        · exact .inr (.inl k)
        · exact absurd k (nolive id0)
  cases e with
  | normal => exact fin hq
  | ret => exact fin hq
  | _ => exact hq.elim

end Go.Proofs.Ytkfdfapickladaa.Abs
