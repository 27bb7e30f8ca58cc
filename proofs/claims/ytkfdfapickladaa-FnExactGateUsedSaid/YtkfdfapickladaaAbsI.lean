/- The evaluator, whole: one operation, a region in the text's order. No condition. -/
import Derived.Test.YtkfdfapickladaaAbsH
namespace Go.Proofs.Ytkfdfapickladaa.Abs
open Go Go.RowKit

variable {w w' w'' : World} {F F' F'' : Nat → Prop} {μ μ' μ'' : Nat → Nat} {K K' K'' : Nat → Prop} {H H' H'' : Hp} {P : Program}

/-- What an operation comes to. -/
def evO (P : Program) (o : Oper) (s : SSt) (cs : List CallR) : Option Ev :=
  match o.op with
  | .move x | .assign x => Ev.val (s.aval x) [] cs
  | .pick c x y => match s.aval c with
    | .kb d => Ev.val (bif d then s.aval x else s.aval y) [] cs
    | .bool d => match boolOf (s.aval x), boolOf (s.aval y) with
      | some p, some q => Ev.val (.bool (bif d then p else q)) [] cs
      | _, _ => none
    | _ => none
  | .extract x i => match s.aval x with
    | .tup l => if (i + 1).ble l.length then Ev.val (l.getD i .top) [] cs else none
    | _ => none
  | .unOp .not _ x => match s.aval x with
    | .kb b => Ev.val (.kb (!b)) [] cs
    | .bool b => Ev.val (.bool (!b)) [] cs
    | _ => none
  | .unOp .neg _ x => match s.aval x with
    | .int k n => Ev.val (.int k (k.wrap (0 - n))) [] cs
    | _ => none
  | .binOp op t x y _ => evBin P op t (s.aval x) (s.aval y) cs
  | .convert t u x => match s.aval x, P.underlying t, P.underlying u with
    | .int _ m, some _, some (.int k') => Ev.val (.int k' (k'.wrap m)) [] cs
    | _, _, _ => none
  | .index t x y => match s.aval x, s.aval y, P.underlying t with
    | .str m, .int _ i, some .string => Ev.val (.int .u8 ((m.getD i.toNat 0).toNat : Int)) [0 ≤ i ∧ i < m.length] cs
    | _, _, _ => none
  | .fieldAddr t x k => match offOf P t k with
    | some off => match addA (s.aval x) off with
      | some r => Ev.val r [] cs
      | none => none
    | none => none
  | .nilCheck x => match addA (s.aval x) 0 with
    | some _ => Ev.val (s.aval x) [] cs
    | none => none
  | .indexAddr t x y => evIdxA P t (s.aval x) (s.aval y) cs
  | .load t x => evLoad P s.H t (s.aval x) cs
  | .field t x k => evField P t (s.aval x) k cs
  | .box _ x => match cellsA (s.aval x) with
    | some l => some ⟨.bp s.N 0, [(s.N, some (.box l))], 1, [], cs⟩
    | none => none
  | .alloc t => match zeroA P t with
    | some l => some ⟨.bp s.N 0, [(s.N, some (.box l))], 1, [], cs⟩
    | none => none
  | .store t x y => evStore P s.H t (s.aval x) (s.aval y) cs
  | .call ⟨.value f, ⟨args⟩, _⟩ => evCall s f args cs
  | .call ⟨.builtin .len, ⟨[x]⟩, ⟨[t]⟩⟩ => evLen P (s.aval x) t cs
  | .call ⟨.invoke x name, ⟨args⟩, _⟩ => evInvoke P s x name args cs
  | .makeFunc fn ⟨xs⟩ ⟨ys⟩ => Ev.val (.fn fn (xs.map s.aval) (ys.map s.aval)) [] cs
  | .makeInterface t x => evIface P s t x cs
  | .makeSlice t x y => evMake P s.N t (s.aval x) (s.aval y) cs
  | .build t ⟨ps⟩ => evBuild P s t ps cs
  | .buildSlice t n ⟨ps⟩ => evBuildSl P s t n ps cs
  | .call ⟨.builtin .append, ⟨[x, y]⟩, ⟨[t, u]⟩⟩ => evAppend P s (s.aval x) (s.aval y) t u cs
  | .slice t x lo hi none => evSlice P s t (s.aval x) lo hi cs
  | _ => none

theorem Ev.val_inv {v : AV} {ob : List Prop} {cs : List CallR} {e : Ev} (h : Ev.val v ob cs = some e) : e.v = v ∧ e.up = [] ∧ e.k = 0 ∧ e.ob = ob ∧ e.cs = cs := by
  cases h; exact ⟨rfl, rfl, rfl, rfl, rfl⟩

/-- 'e' is right of o at s. -/
def EvR (P : Program) (o : Oper) (s : SSt) (cs : List CallR) (e : Ev) : Prop := AllP e.ob → CallsOk P cs → OpOk P o s ⟨e.v, e.up, List.range' s.N e.k⟩ ∧ CallsOk P e.cs

theorem evr_val {o : Oper} {s : SSt} {cs : List CallR} {e : Ev} {v : AV} {ob : List Prop} (h : Ev.val v ob cs = some e) (hr : AllP ob → OpOk P o s ⟨v, [], []⟩) : EvR P o s cs e := by
  obtain ⟨h1, h2, h3, h4, h5⟩ := Ev.val_inv h
  intro ho hc
  rw [h1, h2, h3, h5]
  exact ⟨hr (h4 ▸ ho), hc⟩

theorem evBin_ok {o : Oper} {s : SSt} {cs : List CallR} {e : Ev} {op : BinOp} {t u : TypeId} {x y : Operand} (ho : o.op = .binOp op t x y u) (h : evBin P op t (s.aval x) (s.aval y) cs = some e) : EvR P o s cs e := by
  unfold evBin at h
  split at h
  · rename_i k m k' n hx hy
    split at h
    · rename_i r hr
      exact evr_val h fun hn => op_shift ho hx hy hr hn.1
    · split at h
      · rename_i e1
        subst e1
        split at h
        · rename_i r hr
          exact evr_val h fun _ => op_int ho hx hy hr
        · split at h
          · rename_i r hr
            exact evr_val h fun hn => op_div ho hx hy hr hn.1
          · split at h
            · rename_i r hr
              exact evr_val h fun _ => op_bits ho hx hy hr
            · cases h
      · cases h
  · rename_i m n hx hy
    split at h
    · rename_i r hr
      exact evr_val h fun _ => op_str ho hx hy hr
    · split at h
      · exact evr_val h fun hl => op_cat ho hx hy hl.1
      · cases h
  · split at h
    · rename_i m n hx hy ht
      split at h
      · rename_i r hr
        exact evr_val h fun _ => op_bool ho hx hy ht hr
      · cases h
    · cases h

theorem evIdxA_ok {o : Oper} {s : SSt} {cs : List CallR} {e : Ev} {t : TypeId} {x y : Operand} (ho : o.op = .indexAddr t x y) (h : evIdxA P t (s.aval x) (s.aval y) cs = some e) : EvR P o s cs e := by
  unfold evIdxA at h
  split at h
  · rename_i k i et hy ht
    split at h
    · rename_i ti hi
      split at h
      · rename_i esz n f hx
        split at h
        · rename_i he
          exact evr_val h fun hb => op_indexAddr_fs ho hx hy ht hi (Nat.eq_of_beq_eq_true he) hb.1.1 hb.1.2
        · cases h
      · split at h
        · rename_i id i0 n esz hx
          split at h
          · rename_i he
            exact evr_val h fun hb => op_indexAddr_ms ho hx hy ht hi (Nat.eq_of_beq_eq_true he) hb.1.1 hb.1.2
          · cases h
        · cases h
    · cases h
  · cases h

theorem evLoad_ok {o : Oper} {s : SSt} {cs : List CallR} {e : Ev} {t : TypeId} {x : Operand} (ho : o.op = .load t x) (h : evLoad P s.H t (s.aval x) cs = some e) : EvR P o s cs e := by
  unfold evLoad at h
  split at h
  · rename_i d i hd hi
    split at h
    · rename_i ha
      split at h
      · rename_i c ob hc
        exact evr_val h fun hb => op_load_agg ho hd hi ha hc hb
      · cases h
    · rename_i ha
      split at h
      · rename_i c ob hc
        exact evr_val h fun hb => op_load_one ho hd (by simpa using ha) hc hb
      · cases h
  · cases h

theorem evStore_ok {o : Oper} {s : SSt} {cs : List CallR} {e : Ev} {t : TypeId} {x y : Operand} (ho : o.op = .store t x y) (h : evStore P s.H t (s.aval x) (s.aval y) cs = some e) : EvR P o s cs e := by
  unfold evStore at h
  split at h
  · rename_i ti l hi hl
    split at h
    · rename_i hb
      simp only [Bool.and_eq_true] at hb
      split at h
      · rename_i id b ob hs
        cases h
        exact fun hob hc => ⟨op_store ho hi hl hb.1 (Nat.eq_of_beq_eq_true hb.2) hs hob, hc⟩
      · cases h
    · cases h
  · cases h

theorem evCall_ok {o : Oper} {s : SSt} {cs : List CallR} {e : Ev} {f : Operand} {args : List Operand} {ts : Array TypeId} (ho : o.op = .call ⟨.value f, ⟨args⟩, ts⟩) (h : evCall s f args cs = some e) : EvR P o s cs e := by
  unfold evCall at h
  split at h
  · rename_i f' c r
    split at h
    · rename_i hb
      simp only [Bool.and_eq_true] at hb
      have h1 := Nat.eq_of_beq_eq_true hb.1
      have h2 := Nat.eq_of_beq_eq_true hb.2
      cases h
      subst h1
      intro hob hc
      refine ⟨?_, hc.2⟩
      rw [← h2]
      exact op_call ho (fun w F μ K vs hv => VRs.alike hob.1 hv) (hpl_part hob.2) hc.1
    · cases h
  · rename_i c r _
    split at h
    · rename_i f' a b hx
      split at h
      · rename_i hb
        simp only [Bool.and_eq_true] at hb
        have h1 := Nat.eq_of_beq_eq_true hb.1
        have h2 := Nat.eq_of_beq_eq_true hb.2
        cases h
        subst h1
        intro hob hc
        refine ⟨?_, hc.2⟩
        rw [← h2]
        exact op_callv ho hx (fun w F μ K vs hv => VRs.alike hob.1 hv) (hpl_part hob.2) hc.1
      · cases h
    · cases h
  · cases h

theorem evInvoke_ok {o : Oper} {s : SSt} {cs : List CallR} {e : Ev} {x : Operand} {name : String} {args : List Operand} {ts : Array TypeId} (ho : o.op = .call ⟨.invoke x name, ⟨args⟩, ts⟩) (h : evInvoke P s x name args cs = some e) : EvR P o s cs e := by
  unfold evInvoke at h
  split at h
  · rename_i t b c r hx
    split at h
    · rename_i hb
      have h2 := Nat.eq_of_beq_eq_true hb
      cases h
      intro hob hc
      refine ⟨?_, hc.2⟩
      rw [← h2]
      exact op_invoke ho hx hob.1 (fun w F μ K vs hv => VRs.alike hob.2.1 hv) (hpl_part hob.2.2) hc.1
    · cases h
  · cases h

theorem evIface_ok {o : Oper} {s : SSt} {cs : List CallR} {e : Ev} {t : TypeId} {x : Operand} (ho : o.op = .makeInterface t x) (h : evIface P s t x cs = some e) : EvR P o s cs e := by
  unfold evIface at h
  split at h
  · rename_i d hd
    split at h
    · cases h
    · rename_i hi
      exact evr_val h fun _ => op_makeInterface ho hd (by simpa using hi)
  · cases h

theorem evMake_ok {o : Oper} {s : SSt} {cs : List CallR} {e : Ev} {t : TypeId} {x y : Operand} (ho : o.op = .makeSlice t x y) (h : evMake P s.N t (s.aval x) (s.aval y) cs = some e) : EvR P o s cs e := by
  unfold evMake at h
  split at h
  · rename_i l c et hx hy ht
    split at h
    · rename_i ti zs hi hz
      split at h
      · rename_i hb
        simp only [Bool.and_eq_true] at hb
        cases h
        exact fun hob hc => ⟨op_make ho hx hy ht hi hz (Nat.eq_of_beq_eq_true hb.1.1) hb.1.2 hb.2 hob.1.1 hob.1.2.1 hob.1.2.2.1 hob.1.2.2.2, hc⟩
      · cases h
    · cases h
  · cases h

theorem evBuild_ok {o : Oper} {s : SSt} {cs : List CallR} {e : Ev} {t : TypeId} {ps : List (Nat × Operand)} (ho : o.op = .build t ⟨ps⟩) (h : evBuild P s t ps cs = some e) : EvR P o s cs e := by
  unfold evBuild at h
  split at h
  · rename_i fs ht
    split at h
    · rename_i zs pl q hz hp hq
      split at h
      · rename_i r hr
        exact evr_val h fun _ => op_build ho ht hz hp hq hr
      · cases h
    · cases h
  · cases h

theorem evBuildSl_ok {o : Oper} {s : SSt} {cs : List CallR} {e : Ev} {t : TypeId} {n : Nat} {ps : List (Nat × Operand)} (ho : o.op = .buildSlice t n ⟨ps⟩) (h : evBuildSl P s t n ps cs = some e) : EvR P o s cs e := by
  unfold evBuildSl at h
  split at h
  · rename_i et ht
    split at h
    · rename_i ti zs q hi hz hq
      split at h
      · rename_i r hr
        split at h
        · rename_i hb
          simp only [Bool.and_eq_true, Bool.not_eq_true'] at hb
          cases h
          exact fun hob hc => ⟨op_buildSlice ho ht hi hz (Nat.eq_of_beq_eq_true hb.1.1.1.1) (Nat.ne_of_beq_eq_false hb.1.1.1.2) (Nat.le_of_ble_eq_true hb.1.1.2) hq hr hb.1.2 hb.2, hc⟩
        · cases h
      · cases h
    · cases h
  · cases h

theorem evAppend_ok {o : Oper} {s : SSt} {cs : List CallR} {e : Ev} {t u : TypeId} {x y : Operand} (ho : o.op = .call ⟨.builtin .append, ⟨[x, y]⟩, ⟨[t, u]⟩⟩) (h : evAppend P s (s.aval x) (s.aval y) t u cs = some e) : EvR P o s cs e := by
  unfold evAppend at h
  split at h
  · rename_i et eu ht hu
    split at h
    · rename_i ti hi
      split at h
      · rename_i z hz
        split at h
        · rename_i hb
          simp only [Bool.and_eq_true, Bool.not_eq_true'] at hb
          split at h
          · rename_i d nl n f ob m g ob' hd hs
            cases h
            exact fun hob hc => ⟨op_append ho ht hu hi hz (Nat.ne_of_beq_eq_false hb.1.1) (Nat.eq_of_beq_eq_true hb.1.2) hd hob.app.1.app.1 hs hob.app.1.app.2 hob.app.2.1.1 hob.app.2.1.2 (Nat.le_of_ble_eq_true hb.2), hc⟩
          · cases h
        · cases h
      · cases h
    · cases h
  · cases h

theorem evSlice_ok {o : Oper} {s : SSt} {cs : List CallR} {e : Ev} {t : TypeId} {x : Operand} {lo hi : Option Operand} (ho : o.op = .slice t x lo hi none) (h : evSlice P s t (s.aval x) lo hi cs = some e) : EvR P o s cs e := by
  unfold evSlice at h
  split at h
  · rename_i m hx ht
    split at h
    · rename_i l h' hl hh
      exact evr_val h fun hb => op_sliceStr ho hx ht hl hh hb.1.1 hb.1.2.1 hb.1.2.2
    · cases h
  · rename_i esz n f et hx ht
    split at h
    · rename_i ti l h' hi' hl hh
      split at h
      · rename_i he
        exact evr_val h fun hb => op_sliceFs ho hx ht hi' (Nat.eq_of_beq_eq_true he) hl hh hb.1.1 hb.1.2.1 hb.1.2.2
      · cases h
    · cases h
  · cases h

theorem evO_ok {o : Oper} {s : SSt} {cs : List CallR} {e : Ev} (h : evO P o s cs = some e) : EvR P o s cs e := by
  unfold evO at h
  split at h
  · rename_i x ho; exact evr_val h fun _ => op_move (.inl ho)
  · rename_i x ho; exact evr_val h fun _ => op_move (.inr ho)
  · rename_i c x y ho
    split at h
    · rename_i d hd; exact evr_val h fun _ => op_pick ho hd
    · rename_i d hd
      split at h
      · rename_i p q hp hq; exact evr_val h fun _ => op_pickB ho hd hp hq
      · cases h
    · cases h
  · rename_i x i ho
    split at h
    · rename_i l hl
      split at h
      · rename_i hi; exact evr_val h fun _ => op_extract ho hl (Nat.le_of_ble_eq_true hi)
      · cases h
    · cases h
  · rename_i t x ho
    split at h
    · rename_i b hb; exact evr_val h fun _ => op_notk ho hb
    · rename_i b hb; exact evr_val h fun _ => op_not ho (by rw [hb]; rfl)
    · cases h
  · rename_i t x ho
    split at h
    · rename_i k n hn; exact evr_val h fun _ => op_neg ho hn
    · cases h
  · rename_i op t x y u ho; exact evBin_ok ho h
  · rename_i t u x ho
    split at h
    · rename_i k m d k' hm ht hu; exact evr_val h fun _ => op_conv ho hm ht hu
    · cases h
  · rename_i t x y ho
    split at h
    · rename_i m k i hm hi ht; exact evr_val h fun hb => op_idx ho hm hi ht hb.1.1 hb.1.2
    · cases h
  · rename_i t x k ho
    split at h
    · rename_i off hf
      split at h
      · rename_i r hr; exact evr_val h fun _ => op_fieldAddr ho rfl hf hr
      · cases h
    · cases h
  · rename_i x ho
    split at h
    · rename_i r hr; exact evr_val h fun _ => op_nilCheck ho rfl hr
    · cases h
  · rename_i t x y ho; exact evIdxA_ok ho h
  · rename_i t x ho; exact evLoad_ok ho h
  · rename_i t x k ho
    unfold evField at h
    split at h
    · rename_i l f hl hf
      split at h
      · rename_i r hr; exact evr_val h fun _ => op_field ho hl hf hr
      · cases h
    · cases h
  · rename_i t x ho
    split at h
    · rename_i l hl
      cases h
      exact fun _ hc => ⟨op_box ho hl, hc⟩
    · cases h
  · rename_i t ho
    split at h
    · rename_i l hl
      cases h
      exact fun _ hc => ⟨op_alloc ho hl, hc⟩
    · cases h
  · rename_i t x y ho; exact evStore_ok ho h
  · rename_i f args ts ho; exact evCall_ok ho h
  · rename_i x t ho
    unfold evLen at h
    split at h
    · rename_i n d hn hd
      split at h
      · rename_i hb; exact evr_val h fun _ => op_len ho hn hd (by unfold lenOk at hb; cases h2 : isStr (s.aval x) <;> rw [h2] at hb <;> simpa using hb)
      · cases h
    · cases h
  · rename_i x name args ts ho; exact evInvoke_ok ho h
  · rename_i fn xs ys ho; exact evr_val h fun _ => op_makeFunc ho
  · rename_i t x ho; exact evIface_ok ho h
  · rename_i t x y ho; exact evMake_ok ho h
  · rename_i t ps ho; exact evBuild_ok ho h
  · rename_i t n ps ho; exact evBuildSl_ok ho h
  · rename_i x y t u ho; exact evAppend_ok ho h
  · rename_i t x lo hi ho; exact evSlice_ok ho h
  · cases h

/-! ### A region in the text's order -/

/-- Is the operation wanted? -/
def wantA (ops : Array Oper) (s : SSt) (o : Oper) : Option Bool :=
  match o.guard with
  | none => some true
  | some (j, b) => match (ops[j]?).bind (·.dst) with
    | some t => match s.tm t with
      | .kb c => some (c == b)
      | .lit (.tuple _) => some false
      | _ => none
    | none => some false

theorem wantA_ok {ops : Array Oper} {s : SSt} {a : Act} {o : Oper} {b : Bool} (hs : SR w F μ K s a) (h : wantA ops s o = some b) : Region.wanted o (yielded ops a.tmps) = b := by
  unfold wantA at h
  unfold Region.wanted
  split at h
  · rename_i hg
    rw [hg]; simpa using h
  · rename_i j b' hg
    rw [hg]
    simp only [yielded]
    split at h
    · rename_i t ht
      rw [ht]
      have hv := hs.tm t
      have some_of : ∀ {u : Value}, a.tmps.getD t undef = u → u ≠ undef → a.tmps[t]? = some u := fun h1 h2 => by
        rcases Nat.lt_or_ge t a.tmps.size with h3 | h3
        · simpa [h3] using h1
        · exact absurd (by simpa [Array.getElem?_eq_none h3] using h1.symm) h2
      split at h
      · rename_i c hc
        rw [hc] at hv
        have := some_of hv.kb_inv (by simp [undef])
        simp only [Option.bind_some, this]
        simp only [Option.some.injEq] at h
        rw [← h]
        cases c <;> cases b' <;> rfl
      · rename_i l hc
        rw [hc] at hv
        have hv' : a.tmps.getD t undef = .tuple l := by generalize a.tmps.getD t undef = u at hv; cases hv; rfl
        simp only [Option.some.injEq] at h
        subst h
        simp only [Option.bind_some]
        rcases Nat.lt_or_ge t a.tmps.size with h3 | h3
        · have : a.tmps[t]? = some (.tuple l) := by simpa [h3] using hv'
          rw [this]; simp
        · rw [Array.getElem?_eq_none h3]; simp
      · cases h
    · rename_i ht
      rw [ht]
      simp only [Option.some.injEq] at h
      subst h
      simp

def SSt.put (s : SSt) (d : Option Nat) (v : AV) : SSt :=
  match d with
  | none => s
  | some d => { s with tm := fun t => match Nat.beq t d with
    | true => v
    | false => s.tm t }
theorem SSt.put_N (s : SSt) (d : Option Nat) (v : AV) : (s.put d v).N = s.N := by cases d <;> rfl
theorem SSt.put_H (s : SSt) (d : Option Nat) (v : AV) : (s.put d v).H = s.H := by cases d <;> rfl
def okDst (s : SSt) (d : Option Nat) : Bool :=
  match d with
  | none => true
  | some d => (d + 1).ble s.nt

theorem SR.put {s : SSt} {a : Act} (h : SR w F μ K s a) {d : Option Nat} {v : AV} {u : Value} (hd : okDst s d = true) (hv : VR w F μ K v u) : SR w F μ K (s.put d v) (a.put d u) := by
  cases d with
  | none => exact h
  | some d =>
    have hd : d < s.nt := Nat.le_of_ble_eq_true hd
    refine { hr := h.hr, nt := ?_, tm := fun t => ?_, df := h.df }
    · simp [Act.put, SSt.put, h.nt]
    · simp only [SSt.put, Act.put]
      cases e : Nat.beq t d with
      | true =>
        have e := Nat.eq_of_beq_eq_true e
        subst e
        have : t < a.tmps.size := h.nt ▸ hd
        simpa [this] using hv
      | false =>
        have e := Nat.ne_of_beq_eq_false e
        have := h.tm t
        simpa [Array.getElem?_setIfInBounds_ne (Ne.symm e)] using this

/-- A decision on a bool that is not known: given as (temporary, bool). -/
def decA (ds : List (Nat × Bool)) (d : Option Nat) (v : AV) : AV × List Prop :=
  match d, v with
  | some d, .bool b => go ds d b
  | _, v => (v, [])
where
  go : List (Nat × Bool) → Nat → Bool → AV × List Prop
    | [], _, b => (.bool b, [])
    | (t, c) :: r, d, b => match Nat.beq t d with
      | true => (.kb c, [b = c])
      | false => go r d b

theorem decA_ok {ds : List (Nat × Bool)} {d : Option Nat} {v : AV} (ho : AllP (decA ds d v).2) {u : Value} (hv : VR w F μ K v u) : VR w F μ K (decA ds d v).1 u := by
  unfold decA at *
  split
  · rename_i d b
    simp only at ho
    have key : ∀ ds : List (Nat × Bool), AllP (decA.go ds d b).2 → VR w F μ K (decA.go ds d b).1 u := by
      intro ds
      induction ds with
      | nil => exact fun _ => hv
      | cons x r ih =>
        obtain ⟨t, c⟩ := x
        intro ho
        simp only [decA.go] at ho ⊢
        split
        · rename_i e
          simp only [e] at ho
          obtain ⟨ho, _⟩ := ho
          subst ho
          rw [hv.bool_inv]; exact .kb _
        · rename_i e
          simp only [e] at ho
          exact ih ho
    exact key ds ho
  · exact hv

structure Evs where
  s : SSt
  ob : List Prop
  cs : List CallR

def evSeq (P : Program) (ops : Array Oper) (ds : List (Nat × Bool)) : List Oper → SSt → List CallR → Option Evs
  | [], s, cs => some ⟨s, [], cs⟩
  | o :: rest, s, cs => if okDst s o.dst then (match wantA ops s o with
    | none => none
    | some false => evSeq P ops ds rest (s.put o.dst (.lit undef)) cs
    | some true => match evO P o s cs with
      | none => none
      | some e => match evSeq P ops ds rest (({ s with N := s.N + e.k, H := s.H.upd e.up } : SSt).put o.dst (decA ds o.dst e.v).1) e.cs with
        | none => none
        | some r => some ⟨r.s, e.ob ++ ((decA ds o.dst e.v).2 ++ r.ob), r.cs⟩) else none

theorem evSeq_ok {ops : Array Oper} {ds : List (Nat × Bool)} {Q : Exit → Act → World → Prop} : ∀ (l : List Oper) (s : SSt) (cs : List CallR) (r : Evs), evSeq P ops ds l s cs = some r → AllP r.ob → CallsOk P cs →
    ∀ w F μ a, SR w F μ (below s.N) s a → (∀ w' F' μ' a', SR w' F' μ' (below r.s.N) r.s a' → Fr w F μ (below s.N) s.H w' F' μ' (below r.s.N) r.s.H → Q .normal a' w') → wpList P ops Q l a w
  | [], s, cs, r, h, _, _ => by
    cases h
    intro w F μ a hs hk
    exact hk w F μ a hs (Fr.refl w F μ fun id hl => hs.hr.live_known hl)
  | o :: rest, s, cs, r, h, ho, hc => by
    intro w F μ a hs hk
    simp only [evSeq] at h
    split at h
    · rename_i hd
      split at h
      · cases h
      · rename_i hw
        simp only [wpList, wantA_ok hs hw, Bool.false_eq_true, if_false]
        exact evSeq_ok rest _ cs r h ho hc w F μ _ (by rw [SSt.put_N]; exact hs.put hd (.lit _)) (by rw [SSt.put_N, SSt.put_H]; exact hk)
      · rename_i hw
        simp only [wpList, wantA_ok hs hw, if_true]
        split at h
        · cases h
        · rename_i e he
          split at h
          · cases h
          · rename_i r' hr'
            cases h
            obtain ⟨h1, h2⟩ := evO_ok he ho.app.1 hc
            refine .inl (h1 w F μ (below s.N) a hs ?_ _ _ ?_)
            · intro id hid
              simp only [List.mem_range'_1] at hid
              simp only [below]; omega
            · intro v w' F' μ' hv hr hf
              rw [below_plus] at hv hr hf
              have hs' : SR w' F' μ' (below (s.N + e.k)) { s with N := s.N + e.k, H := s.H.upd e.up } a :=
                { hr := hr, nt := hs.nt, tm := fun t => (hs.tm t).step hs.hr hf, df := hs.df }
              have hs2 := hs'.put (d := o.dst) hd (decA_ok ho.app.2.app.1 hv)
              refine evSeq_ok rest _ e.cs r' hr' ho.app.2.app.2 h2 w' F' μ' _ ?_ fun w'' F'' μ'' a'' hs'' hf'' => ?_
              · rw [SSt.put_N]; exact hs2
              · rw [SSt.put_N, SSt.put_H] at hf''
                exact hk w'' F'' μ'' a'' hs'' (hf.trans hf'')
    · cases h

def evS (P : Program) (ops : List Oper) (ds : List (Nat × Bool)) (s : SSt) (cs : List CallR) : Evs :=
  match evSeq P ⟨ops⟩ ds ops s cs with
  | some r => r
  | none => ⟨s, [False], cs⟩

/-- A region in the text's order. -/
theorem awp_region {id : Nat} {ops : List Oper} {Q : Exit → SSt → Prop} {s : SSt} (ds : List (Nat × Bool)) (cs : List CallR) (obs : List Prop)
    (he : (evS P ops ds s cs).ob = obs) (ho : AllP obs) (hc : CallsOk P cs) (hq : Q .normal (evS P ops ds s cs).s) : AWP P (.region id ⟨ops⟩ false) Q s := by
  intro w F μ a hs
  rw [← he] at ho
  unfold evS at ho hq
  cases hr : evSeq P ⟨ops⟩ ds ops s cs with
  | none => rw [hr] at ho; exact ho.1.elim
  | some r =>
    rw [hr] at ho hq
    exact wp_region_list (evSeq_ok ops s cs r hr ho hc w F μ a hs fun w' F' μ' a' hs' hf => ⟨_, F', μ', hq, hs', hf⟩)
theorem seq_region {id : Nat} {ops : List Oper} {y : Code} {Q : Exit → SSt → Prop} {s : SSt} (ds : List (Nat × Bool)) (cs : List CallR) (obs : List Prop)
    (he : (evS P ops ds s cs).ob = obs) (ho : AllP obs) (hc : CallsOk P cs) (hq : AWP P y Q (evS P ops ds s cs).s) : AWP P (.seq (.region id ⟨ops⟩ false) y) Q s :=
  awp_seq (awp_region ds cs obs he ho hc hq)
/-- One that asks for nothing and calls nothing. -/
theorem seq_reg {id : Nat} {ops : List Oper} {y : Code} {Q : Exit → SSt → Prop} {s : SSt}
    (he : (evS P ops [] s []).ob = []) (hq : AWP P y Q (evS P ops [] s []).s) : AWP P (.seq (.region id ⟨ops⟩ false) y) Q s :=
  seq_region [] [] [] he trivial trivial hq
theorem awp_reg {id : Nat} {ops : List Oper} {Q : Exit → SSt → Prop} {s : SSt}
    (he : (evS P ops [] s []).ob = []) (hq : Q .normal (evS P ops [] s []).s) : AWP P (.region id ⟨ops⟩ false) Q s :=
  awp_region [] [] [] he trivial trivial hq

end Go.Proofs.Ytkfdfapickladaa.Abs
