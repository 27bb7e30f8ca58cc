/- Loops whose frames name the call's own blocks anew; rows of data that are made. No condition. -/
import Derived.Test.YtkfdfapickladaaAbsM
import Derived.Scope
namespace Go.Proofs.Ytkfdfapickladaa.Abs
open Go Go.RowKit

variable {w w' w'' : World} {F F' F'' : Nat → Prop} {μ μ' μ'' : Nat → Nat} {K K' K'' : Nat → Prop} {H H' H'' : Hp} {P : Program}

/-- New names of blocks: (new, old). -/
def rnI : List (Nat × Nat) → Nat → Nat
  | [], id => id
  | (n, o) :: r, id => match Nat.beq id n with
    | true => o
    | false => rnI r id
def ren1 (r : List (Nat × Nat)) : AV → AV
  | .ms id i n e => .ms (rnI r id) i n e
  | .vs id n e => .vs (rnI r id) n e
  | .bp id o => .bp (rnI r id) o
  | .rp id e i j => .rp (rnI r id) e i j
  | a => a
def ren2 (r : List (Nat × Nat)) : AV → AV
  | .agg cs => .agg (cs.map (ren1 r))
  | .tup cs => .tup (cs.map (ren1 r))
  | .fn f xs ys => .fn f (xs.map (ren1 r)) (ys.map (ren1 r))
  | .ifc t a => .ifc t (ren1 r a)
  | a => ren1 r a

theorem VR.ren1 {r : List (Nat × Nat)} {N : Nat} {a : AV} {v : Value} (h : VR w F μ K (Abs.ren1 r a) v) (hr : Abs.ref1 N a = true) : VR w F (fun id => μ (rnI r id)) (Abs.below N) a v := by
  cases a <;> simp only [Abs.ren1] at h
  case agg => simp [Abs.ref1] at hr
  case tup => simp [Abs.ref1] at hr
  case ifc => simp [Abs.ref1] at hr
  case fn => simp [Abs.ref1] at hr
  case ms id i n e =>
    cases h with | ms _ _ _ _ cap sz t hid hc hs hsz => exact VR.ms (μ := fun id => μ (rnI r id)) id i n e cap sz t (Nat.le_of_ble_eq_true hr) hc hs hsz
  case vs id n e =>
    cases h with
    | vs _ _ _ cap sz t hn hid hc hs hsz => exact VR.vs (μ := fun id => μ (rnI r id)) id n e cap sz t hn (Nat.le_of_ble_eq_true hr) hc hs hsz
    | vsnil => exact .vsnil _ _
  case bp id o =>
    cases h with | bp _ _ hid => exact VR.bp (μ := fun id => μ (rnI r id)) id o (Nat.le_of_ble_eq_true hr)
  case rp id e i j =>
    cases h with | rp _ _ _ _ hid => exact VR.rp (μ := fun id => μ (rnI r id)) id e i j (Nat.le_of_ble_eq_true hr)
  case fs =>
    cases h with
    | fs _ _ _ b o cap u hF hc hu hv => exact .fs _ _ _ b o cap u hF hc hu fun i j hi hj => (hv i j hi hj).up
    | fsnil => exact .fsnil _ _ _ _
  case fp =>
    cases h with
    | fp _ _ _ b o u hF hu hv => exact .fp _ _ _ b o u hF hu fun j hj => (hv j hj).up
  all_goals
    cases h <;> first
        | exact .top _ | exact .lit _ | exact .int _ _ | exact .bool _ | exact .kb _ | exact .str _ | exact .nils

theorem getD_map {α β : Type} (f : α → β) (l : List α) (i : Nat) (d : α) (d' : β) (hi : i < l.length) : (l.map f).getD i d' = f (l.getD i d) := by simp [List.getD, hi]

theorem VRl.ren1 {r : List (Nat × Nat)} {N : Nat} {cs : List AV} {vs : List Value} (hv : ∀ i, i < (cs.map (Abs.ren1 r)).length → VR w F μ K ((cs.map (Abs.ren1 r)).getD i .top) (vs.getD i undef)) (hr : cs.all (Abs.ref1 N) = true) :
    ∀ i, i < cs.length → VR w F (fun id => μ (rnI r id)) (Abs.below N) (cs.getD i .top) (vs.getD i undef) := by
  intro i hi
  have h1 := hv i (by simpa using hi)
  rw [getD_map _ _ _ .top _ hi] at h1
  exact h1.ren1 (all_ref1 hr i hi)

theorem VR.ren2 {r : List (Nat × Nat)} {N : Nat} {a : AV} {v : Value} (h : VR w F μ K (Abs.ren2 r a) v) (hr : Abs.ref2 N a = true) : VR w F (fun id => μ (rnI r id)) (Abs.below N) a v := by
  cases a with
  | agg cs => cases h with | agg _ vs hl hv => exact .agg cs vs (by simpa using hl) (VRl.ren1 hv hr)
  | tup cs => cases h with | tup _ vs hl hv => exact .tup cs vs (by simpa using hl) (VRl.ren1 hv hr)
  | fn f xs ys =>
    simp only [Abs.ref2, Bool.and_eq_true] at hr
    cases h with | fn _ _ _ vs us h h' hv hu => exact .fn f xs ys vs us (by simpa using h) (by simpa using h') (VRl.ren1 hv hr.1) (VRl.ren1 hu hr.2)
  | ifc t a => cases h with | ifc _ _ v h => exact .ifc t a v (h.ren1 hr)
  | _ => exact VR.ren1 h hr

/-- They read alike. -/
def Ak (a b : AV) : Prop := a = b ∨ nrm a = nrmE b
theorem Ak.vr {a b : AV} (h : Ak a b) {v : Value} (hv : VR w F μ K a v) : VR w F μ K b v := by
  rcases h with rfl | h
  · exact hv
  · exact VR.alike h hv
def AkL : List AV → List AV → Prop
  | [], [] => True
  | a :: l, b :: m => Ak a b ∧ AkL l m
  | _, _ => False
theorem AkL.get : ∀ {l m : List AV}, AkL l m → ∀ j, Ak (l.getD j .top) (m.getD j .top)
  | [], [], _, _ => .inl rfl
  | [], _ :: _, h, _ => h.elim
  | _ :: _, [], h, _ => h.elim
  | a :: l, b :: m, h, j => by
    cases j with
    | zero => exact h.1
    | succ j => exact AkL.get h.2 j

/-- b knows less than b0. -/
def BlkOr (r : List (Nat × Nat)) (N : Nat) : Option Blk → Blk → Prop
  | some (.box l), .box m => l.map nrm = m.map (fun x => nrmE (ren2 r x)) ∧ m.all (ref2 N) = true
  | some (.row esz n e), .row esz' n' e' => esz = esz' ∧ n = n' ∧ ∀ i j, i < n' → j < esz' → Ak (e i j) (e' i j)
  | some (.vrow esz n e), .vrow esz' n' e' => esz = esz' ∧ n = n' ∧ ∀ i j, i < n' → j < esz' → Ak (e i j) (e' i j)
  | _, _ => False
def HsOr (r : List (Nat × Nat)) (H : Hp) (N : Nat) : List (Nat × Blk) → Prop
  | [] => True
  | (i, b) :: q => (BlkOr r N (H (rnI r i)) b ∧ (i + 1).ble N = true) ∧ HsOr r H N q

theorem hpl_or {r : List (Nat × Nat)} {N : Nat} : ∀ {hs : List (Nat × Blk)}, HsOr r H N hs → ∀ id b, hpl hs id = some b → BlkOr r N (H (rnI r id)) b ∧ id < N ∧ id ∈ hs.map (·.1)
  | [], _, _, _, h => by cases h
  | (i, b0) :: q, h, id, b, hb => by
    simp only [hpl] at hb
    cases e : Nat.beq id i with
    | true =>
      rw [e] at hb
      cases hb
      have e := Nat.eq_of_beq_eq_true e
      subst e
      exact ⟨h.1.1, Nat.le_of_ble_eq_true h.1.2, by simp⟩
    | false =>
      rw [e] at hb
      obtain ⟨h1, h2, h3⟩ := hpl_or h.2 id b hb
      exact ⟨h1, h2, by simp only [List.map_cons, List.mem_cons]; exact .inr h3⟩

theorem BlkOr.live {r : List (Nat × Nat)} {N : Nat} {b : Blk} : ∀ {b0 : Option Blk}, BlkOr r N b0 b → b.lies = true → ∃ b1, b0 = some b1 ∧ b1.lies = true := by
  intro b0 h hl
  cases b0 with
  | none => cases b <;> exact h.elim
  | some b1 =>
    refine ⟨b1, rfl, ?_⟩
    cases b1 <;> cases b <;> first | exact h.elim | rfl | skip
    obtain ⟨_, h2, _⟩ := h
    simpa [Blk.lies, h2] using hl

theorem BlkOr.ob {r : List (Nat × Nat)} {N : Nat} {b b1 : Blk} {cs : Array Value} (h : BlkOr r N (some b1) b) (hB : BlkR w F μ K cs b1) : BlkR w F (fun id => μ (rnI r id)) (below N) cs b := by
  cases b1 <;> cases b <;> first | exact h.elim | skip
  · rename_i l m
    obtain ⟨h1, h2⟩ := h
    have hlen : l.length = m.length := by have := congrArg List.length h1; simpa using this
    refine ⟨hlen ▸ hB.1, fun j hj => ?_⟩
    have hj' : j < l.length := hlen ▸ hj
    have h3 : nrm (l.getD j .top) = nrmE (Abs.ren2 r (m.getD j .top)) := by
      have := congrArg (fun x => x.getD j .top) h1
      simpa [List.getD, hj, hj'] using this
    have h4 : Abs.ref2 N (m.getD j .top) = true := by
      simp only [List.all_eq_true] at h2
      simpa [List.getD, hj] using h2 _ (List.getElem_mem hj)
    exact (VR.alike h3 (hB.2 j hj')).ren2 h4
  · obtain ⟨rfl, rfl, h3⟩ := h
    exact ⟨hB.1, fun i j hi hj => ⟨(h3 i j hi hj).vr (hB.2 i j hi hj).1.up, (hB.2 i j hi hj).2⟩⟩
  · obtain ⟨rfl, rfl, h3⟩ := h
    exact ⟨hB.1, fun i j hi hj => ⟨(h3 i j hi hj).vr (hB.2 i j hi hj).1.up, (hB.2 i j hi hj).2⟩⟩

def noDup : List Nat → Bool
  | [] => true
  | x :: r => !(r.any fun y => Nat.beq x y) && noDup r
theorem noDup_inj {f : Nat → Nat} : ∀ {l : List Nat}, noDup (l.map f) = true → ∀ x y, x ∈ l → y ∈ l → f x = f y → x = y
  | [], _, _, _, h, _, _ => by cases h
  | z :: l, h, x, y, hx, hy, e => by
    simp only [List.map_cons, noDup, Bool.and_eq_true, Bool.not_eq_true', List.any_eq_false, List.mem_map, forall_exists_index, and_imp, forall_apply_eq_imp_iff₂] at h
    have no : ∀ u, u ∈ l → f z ≠ f u := fun u hu e => by
      have := h.1 u hu
      rw [e] at this
      simp at this
    rcases List.mem_cons.1 hx with hz | hx
    · rcases List.mem_cons.1 hy with hz' | hy
      · rw [hz, hz']
      · exact absurd (by rw [← hz]; exact e) (no y hy)
    · rcases List.mem_cons.1 hy with hz | hy
      · exact absurd (by rw [← hz]; exact e.symm) (no x hx)
      · exact noDup_inj h.2 x y hx hy e

/-- What is to be shown for a frame that knows less, its blocks named anew; N0: the names below it stay. -/
def FrChk (s : SSt) (nt N N0 : Nat) (l : List (Nat × AV)) (hs : List (Nat × Blk)) (r : List (Nat × Nat)) : Bool :=
  ((((Nat.beq s.nt nt && N0.ble N) && (List.range N).all fun id => (rnI r id).blt s.N) && l.all (fun p => ref2 N p.2)) && noDup ((hs.map (·.1)).map (rnI r))) && r.all fun p => N0.ble p.1
def FrOb (s : SSt) (nt N N0 : Nat) (l : List (Nat × AV)) (hs : List (Nat × Blk)) (r : List (Nat × Nat)) : Prop :=
  FrChk s nt N N0 l hs r = true ∧ l.map (fun p => nrm (s.tm p.1)) = l.map (fun p => nrmE (ren2 r p.2)) ∧ HsOr r s.H N hs

theorem tml_or {s : SSt} {a : Act} {N : Nat} {r : List (Nat × Nat)} (hs : SR w F μ K s a) : ∀ {l : List (Nat × AV)}, l.map (fun p => nrm (s.tm p.1)) = l.map (fun p => nrmE (ren2 r p.2)) → l.all (fun p => ref2 N p.2) = true →
    ∀ t, VR w F (fun id => μ (rnI r id)) (below N) (tml l t) (a.tmps.getD t undef)
  | [], _, _, _ => .top _
  | (i, v) :: q, h1, h2, t => by
    simp only [tml]
    simp only [List.map_cons, List.cons.injEq] at h1
    simp only [List.all_cons, Bool.and_eq_true] at h2
    cases e : Nat.beq t i with
    | true =>
      rw [Nat.eq_of_beq_eq_true e]
      exact (VR.alike h1.1 (hs.tm i)).ren2 h2.1
    | false => exact tml_or hs h1.2 h2.2 t

theorem rnI_low {N0 : Nat} : ∀ {r : List (Nat × Nat)}, (r.all fun p => N0.ble p.1) = true → ∀ id, id < N0 → rnI r id = id
  | [], _, _, _ => rfl
  | (n, o) :: q, h, id, hid => by
    simp only [List.all_cons, Bool.and_eq_true] at h
    have h1 := Nat.le_of_ble_eq_true h.1
    simp only [rnI]
    cases e : Nat.beq id n with
    | true => have := Nat.eq_of_beq_eq_true e; omega
    | false => exact rnI_low h.2 id hid

theorem fr_go {s : SSt} {a : Act} {nt N N0 : Nat} {l : List (Nat × AV)} {hs : List (Nat × Blk)} {r : List (Nat × Nat)} {w0 : World} {F0 : Nat → Prop} {μ0 : Nat → Nat} {H0 : Hp} (ho : FrOb s nt N N0 l hs r)
    (h : SR w F μ (below s.N) s a) (hf : Fr w0 F0 μ0 (below N0) H0 w F μ (below s.N) s.H) :
    SR w F (fun id => μ (rnI r id)) (below N) (Fm nt N l hs) a ∧ Fr w0 F0 μ0 (below N0) H0 w F (fun id => μ (rnI r id)) (below N) (hpl hs) := by
  obtain ⟨hc, ht, hh⟩ := ho
  simp only [FrChk, Bool.and_eq_true] at hc
  obtain ⟨⟨⟨⟨⟨c1, c2⟩, c3⟩, c4⟩, c5⟩, c6⟩ := hc
  have hnt := Nat.eq_of_beq_eq_true c1
  have hN := Nat.le_of_ble_eq_true c2
  have hlt : ∀ id, id < N → rnI r id < s.N := fun id hid => by
    simp only [List.all_eq_true, List.mem_range] at c3
    have := c3 id hid
    simpa [Nat.blt_eq] using this
  have lv : ∀ id, Hp.live (hpl hs) id → s.H.live (rnI r id) ∧ id < N ∧ id ∈ hs.map (·.1) := by
    rintro id ⟨b, hb, hl⟩
    obtain ⟨k1, k2, k3⟩ := hpl_or hh id b hb
    obtain ⟨b1, e1, hl1⟩ := k1.live hl
    exact ⟨⟨b1, e1, hl1⟩, k2, k3⟩
  refine ⟨{ hr := { lt := ?_, known := ?_, blk := ?_, nof := ?_, inj := ?_, wf := h.hr.wf, pos := h.hr.pos }, nt := h.nt.trans hnt, tm := tml_or h ht c4, df := h.df }, ?_⟩
  · intro id hid; exact h.hr.lt _ (hlt id hid)
  · intro id b hb; exact (hpl_or hh id b hb).2.1
  · intro id b hb hl
    obtain ⟨k1, _⟩ := hpl_or hh id b hb
    obtain ⟨b1, e1, hl1⟩ := k1.live hl
    rw [e1] at k1
    obtain ⟨cs, t, hc, hB⟩ := h.hr.blk _ b1 e1 hl1
    exact ⟨cs, t, hc, k1.ob hB⟩
  · exact fun id hl => h.hr.nof _ (lv id hl).1
  · intro id id' hl hl' e
    exact noDup_inj c5 id id' (lv id hl).2.2 (lv id' hl').2.2 (h.hr.inj _ _ (lv id hl).1 (lv id' hl').1 e)
  · refine { hf with len := ?_, mu := ?_, old := ?_, new := ?_ }
    · exact fun id hid => Nat.lt_of_lt_of_le hid hN
    · intro id hid
      show μ (rnI r id) = μ0 id
      rw [rnI_low c6 id hid]; exact hf.mu id hid
    · intro id hid hl
      have := (lv id hl).1
      rw [rnI_low c6 id hid] at this
      exact hf.old id hid this
    · intro id hid hl
      have k := (lv id hl).1
      by_cases h2 : rnI r id < N0
      · exact .inr ⟨rnI r id, hf.old _ h2 k, hf.mu _ h2⟩
      · exact hf.new _ h2 k

/-- A loop's rounds, seen from a state ahead of it. -/
def ALoopB (P : Program) (c : Code) (Q : Exit → SSt → Prop) (N0 : Nat) (H0 : Hp) (s : SSt) : Prop :=
  ∀ w0 F0 μ0 w F μ a, SR w F μ (below s.N) s a → Fr w0 F0 μ0 (below N0) H0 w F μ (below s.N) s.H → LoopW P c (Post w0 F0 μ0 N0 H0 Q) a w

theorem awp_loop_r {c : Code} {Q : Exit → SSt → Prop} {s : SSt} {nt N : Nat} {l : List (Nat × AV)} {hs : List (Nat × Blk)} {r : List (Nat × Nat)} {N0 : Nat} (hN : N0 = s.N) (ho : FrOb s nt N N0 l hs r)
    (h : ALoopB P c Q N0 s.H (Fm nt N l hs)) : AWP P (.loop c) Q s := by
  subst hN
  intro w F μ a hs
  obtain ⟨k1, k2⟩ := fr_go ho hs (Fr.refl w F μ fun id hl => hs.hr.live_known hl)
  exact (h w F μ w F _ a k1 k2).wp

theorem aloop_r {c : Code} {Q : Exit → SSt → Prop} {s : SSt} {N0 : Nat} {H0 : Hp}
    (h : AWP P c (thenA (fun s1 => ∃ nt N l hs r, FrOb s1 nt N N0 l hs r ∧ ALoopB P c Q N0 H0 (Fm nt N l hs)) Q) s) : ALoopB P c Q N0 H0 s := by
  intro w0 F0 μ0 w F μ a hs hf0
  refine LoopW.round (Code.wp_mono ?_ (h w F μ a hs))
  rintro e a' w' ⟨s', F', μ', hq, hs', hf⟩
  cases e with
  | normal =>
    obtain ⟨nt, N, l, hh, r, ho, hl⟩ := hq
    obtain ⟨k1, k2⟩ := fr_go ho hs' (hf0.trans hf)
    exact hl w0 F0 μ0 w' F' _ a' k1 k2
  | _ => exact ⟨s', F', μ', hq, hs', hf0.trans hf⟩

/-! ### Rows of data that are made -/

section
variable {α : Type} [Inhabited α] {c : α → List AV} {esz n : Nat} {e f : Nat → Nat → AV} {xs ys : List α}

/-- The cells e are those of the list. -/
def RowEq (esz : Nat) (n : Nat) (e : Nat → Nat → AV) (c : α → List AV) (xs : List α) : Prop := n = xs.length ∧ ∀ i j, i < n → j < esz → Ak (e i j) (cells c xs i j)

theorem RowEq.refl : RowEq esz xs.length (cells c xs) c xs := ⟨rfl, fun _ _ _ _ => .inl rfl⟩
theorem RowEq.nil : RowEq esz 0 e c [] := ⟨rfl, fun _ _ h => absurd h (Nat.not_lt_zero _)⟩
theorem RowEq.make {z : α} {zs : List AV} (h : AkL zs (c z)) : RowEq esz n (fun _ j => zs.getD j .top) c (List.replicate n z) :=
  ⟨by simp, fun i j hi _ => by
    have : cells c (List.replicate n z) i j = (c z).getD j .top := by simp [cells, List.getD, hi]
    rw [this]; exact h.get j⟩
theorem RowEq.lit1 {x : α} {r : List AV} (h : AkL r (c x)) : RowEq esz 1 (fun i j => r.getD (i * esz + j) .top) c [x] :=
  ⟨rfl, fun i j hi hj => by
    obtain rfl : i = 0 := by omega
    have : cells c [x] 0 j = (c x).getD j .top := by simp [cells]
    have e : 0 * esz + j = j := by omega
    rw [this]; simp only [e]; exact h.get j⟩
theorem RowEq.app (h : RowEq esz n e c xs) {m : Nat} (hf : RowEq esz m f c ys) : RowEq esz (n + m) (joinR n e f) c (xs ++ ys) :=
  ⟨by simp [h.1, hf.1], fun i j hi hj => by
    obtain ⟨rfl, h2⟩ := h
    obtain ⟨rfl, h3⟩ := hf
    unfold joinR
    split
    · rename_i hlt
      have : cells c (xs ++ ys) i j = cells c xs i j := by simp [cells, List.getD, List.getElem?_append, hlt]
      rw [this]; exact h2 i j hlt hj
    · rename_i hlt
      have : cells c (xs ++ ys) i j = cells c ys (i - xs.length) j := by simp [cells, List.getD, List.getElem?_append, hlt]
      rw [this]; exact h3 _ j (by omega) hj⟩
theorem RowEq.set (h : RowEq esz n e c xs) {i : Nat} {x : α} {l : List AV} (hl : AkL l (c x)) : RowEq esz n (fun i' j' => if i' = i then l.getD j' .top else e i' j') c (xs.set i x) :=
  ⟨by simp [h.1], fun i' j hi hj => by
    obtain ⟨rfl, h2⟩ := h
    simp only
    split
    · rename_i e; subst e
      have : cells c (xs.set i' x) i' j = (c x).getD j .top := by simp [cells, List.getD, hi]
      rw [this]; exact hl.get j
    · rename_i hne
      have : cells c (xs.set i x) i' j = cells c xs i' j := by simp [cells, List.getD, List.getElem?_set_ne (Ne.symm hne)]
      rw [this]; exact h2 i' j hi hj⟩
theorem RowEq.row (h : RowEq esz n e c xs) {n' : Nat} (hn : n = n') : esz = esz ∧ n = n' ∧ ∀ i j, i < n' → j < esz → Ak (e i j) (cells c xs i j) := ⟨rfl, hn, fun i j hi hj => h.2 i j (hn ▸ hi) hj⟩
theorem sl_len (hn : n = xs.length) : sl esz c xs = .fs esz n (cells c xs) := by subst hn; rfl

/-- The own row number id reads as the list. -/
theorem awp_row {c' : Code} {Q : Exit → SSt → Prop} {s : SSt} (id : Nat) (hH : s.H id = some (.row esz n e)) (h : RowEq esz n e c xs) (hq : AWP P c' Q { s with H := s.H.upd [(id, some (.row esz n (cells c xs)))] }) : AWP P c' Q s := by
  refine awp_weak (fun w F μ a hs => ⟨F, μ, ?_, ?_⟩) hq
  · have lv : ∀ i, Hp.live (s.H.upd [(id, some (.row esz n (cells c xs)))]) i → s.H.live i := by
      rintro i ⟨b, hb, hl⟩
      simp only [Hp.upd] at hb
      split at hb
      · rename_i e; subst e
        exact ⟨_, hH, rfl⟩
      · exact ⟨b, hb, hl⟩
    refine { hr := { lt := hs.hr.lt, known := ?_, blk := ?_, nof := fun i hl => hs.hr.nof i (lv i hl), inj := fun i i' hl hl' e => hs.hr.inj i i' (lv i hl) (lv i' hl') e, wf := hs.hr.wf, pos := hs.hr.pos }, nt := hs.nt, tm := hs.tm, df := hs.df }
    · intro i b hb
      simp only [Hp.upd] at hb
      split at hb
      · rename_i e; subst e; exact hs.hr.known _ _ hH
      · exact hs.hr.known _ _ hb
    · intro i b hb hl
      simp only [Hp.upd] at hb
      split at hb
      · rename_i e; subst e
        cases hb
        obtain ⟨cs, t, hc, hB⟩ := hs.hr.blk _ _ hH rfl
        exact ⟨cs, t, hc, hB.1, fun i j hi hj => ⟨(h.2 i j hi hj).vr (hB.2 i j hi hj).1, (hB.2 i j hi hj).2⟩⟩
      · exact hs.hr.blk i b hb hl
  · have := Fr.refl w F μ (K := below s.N) (H := s.H) fun id hl => hs.hr.live_known hl
    have lv : ∀ i, Hp.live (s.H.upd [(id, some (.row esz n (cells c xs)))]) i → s.H.live i := by
      rintro i ⟨b, hb, hl⟩
      simp only [Hp.upd] at hb
      split at hb
      · rename_i e; subst e
        exact ⟨_, hH, rfl⟩
      · exact ⟨b, hb, hl⟩
    exact { this with old := fun i _ hl => lv i hl, new := fun i hi hl => absurd (hs.hr.live_known (lv i hl)) hi }
end

/-! ### Words of the printed walks -/
abbrev same (l : List AV) : Prop := l.map nrmE = l.map nrmE
section
variable {α β γ : Type} {p : Prop} [Decidable p] {b : Bool} {x y : Option α} {g : α → Option β} {z : Option β}
theorem bif_p (hb : decide p = true) (h : (if p then x else y).bind g = z) : x.bind g = z := by rw [if_pos (of_decide_eq_true hb)] at h; exact h
theorem bif_n (hb : decide p = false) (h : (if p then x else y).bind g = z) : y.bind g = z := by rw [if_neg (of_decide_eq_false hb)] at h; exact h
theorem bif_t (hb : b = true) (h : (if b = true then x else y).bind g = z) : x.bind g = z := by rw [if_pos hb] at h; exact h
theorem bif_f (hb : b = false) (h : (if b = true then x else y).bind g = z) : y.bind g = z := by rw [if_neg (by rw [hb]; exact Bool.false_ne_true)] at h; exact h
theorem bif_s {z : β} (h : (if p then x else none).bind g = some z) : p ∧ x.bind g = some z := by
  split at h
  · exact ⟨‹p›, h⟩
  · cases h
theorem bbind_s {x : Option α} {f : α → Option γ} {g : γ → Option β} {z : β} (h : (x.bind f).bind g = some z) : ∃ t, x = some t ∧ (f t).bind g = some z := by
  cases x with
  | none => cases h
  | some t => exact ⟨t, rfl, h⟩
theorem bassoc {x : Option α} {f : α → Option γ} {g : γ → Option β} (h : (x.bind f).bind g = z) : x.bind (fun t => (f t).bind g) = z := by rw [← Option.bind_assoc]; exact h
end

theorem bsome {α β : Type} {a : α} {g : α → Option β} {z : Option β} (h : (some a).bind g = z) : g a = z := h

/-- A printed loop: by its rounds. -/
theorem loop_ind {α β γ : Type} {c : Code} {Q : Exit → SSt → Prop} {N0 : Nat} {H0 : Hp} {fr : α → SSt} {f : Nat → α → Option β} {g : β → Option γ} {r : γ}
    (step : ∀ k v, (∀ v, (f k v).bind g = some r → ALoopB P c Q N0 H0 (fr v)) → (f (k + 1) v).bind g = some r → ALoopB P c Q N0 H0 (fr v)) (zero : ∀ v, f 0 v = none) :
    ∀ k v, (f k v).bind g = some r → ALoopB P c Q N0 H0 (fr v) := by
  intro k
  induction k with
  | zero => intro v h; rw [zero] at h; cases h
  | succ k ih => exact fun v => step k v ih

theorem frob_len {s : SSt} {nt N N0 m m' : Nat} {l : Nat → List (Nat × AV)} {hs : Nat → List (Nat × Blk)} {r : List (Nat × Nat)} (hm : m = m') (h : FrOb s nt N N0 (l m) (hs m) r) : FrOb s nt N N0 (l m') (hs m') r := hm ▸ h

section
variable {α : Type} [Inhabited α] {c : α → List AV} {esz n : Nat} {e f : Nat → Nat → AV} {xs ys : List α}
theorem RowEq.same (h : n = xs.length) : RowEq esz n (cells c xs) c xs := ⟨h, fun _ _ _ _ => .inl rfl⟩
theorem RowEq.len (h : RowEq esz n e c xs) : n = xs.length := h.1
theorem awp_vrow {c' : Code} {Q : Exit → SSt → Prop} {s : SSt} (id : Nat) (hH : s.H id = some (.vrow esz n e)) (h : RowEq esz n e c xs) (hq : AWP P c' Q { s with H := s.H.upd [(id, some (.vrow esz n (cells c xs)))] }) : AWP P c' Q s := by
  have lv : ∀ i, Hp.live (s.H.upd [(id, some (.vrow esz n (cells c xs)))]) i → s.H.live i := by
    rintro i ⟨b, hb, hl⟩
    simp only [Hp.upd] at hb
    split at hb
    · rename_i e; subst e
      cases hb
      exact ⟨_, hH, hl⟩
    · exact ⟨b, hb, hl⟩
  refine awp_weak (fun w F μ a hs => ⟨F, μ, ?_, ?_⟩) hq
  · refine { hr := { lt := hs.hr.lt, known := ?_, blk := ?_, nof := fun i hl => hs.hr.nof i (lv i hl), inj := fun i i' hl hl' e => hs.hr.inj i i' (lv i hl) (lv i' hl') e, wf := hs.hr.wf, pos := hs.hr.pos }, nt := hs.nt, tm := hs.tm, df := hs.df }
    · intro i b hb
      simp only [Hp.upd] at hb
      split at hb
      · rename_i e; subst e; exact hs.hr.known _ _ hH
      · exact hs.hr.known _ _ hb
    · intro i b hb hl
      simp only [Hp.upd] at hb
      split at hb
      · rename_i e; subst e
        cases hb
        obtain ⟨cs, t, hc, hB⟩ := hs.hr.blk _ _ hH hl
        exact ⟨cs, t, hc, hB.1, fun i j hi hj => ⟨(h.2 i j hi hj).vr (hB.2 i j hi hj).1, (hB.2 i j hi hj).2⟩⟩
      · exact hs.hr.blk i b hb hl
  · have := Fr.refl w F μ (K := below s.N) (H := s.H) fun id hl => hs.hr.live_known hl
    exact { this with old := fun i _ hl => lv i hl, new := fun i hi hl => absurd (hs.hr.live_known (lv i hl)) hi }

/-- A slice that is nil becomes an empty row of the call's own. -/
theorem awp_virt {c' : Code} {Q : Exit → SSt → Prop} {s : SSt} (t esz : Nat) (c : α → List AV) (ht : s.tm t = .nils) (hn : t < s.nt ∨ True)
    (hq : AWP P c' Q ⟨s.nt, s.N + 1, fun u => match Nat.beq u t with | true => .vs s.N 0 esz | false => s.tm u, s.H.upd [(s.N, some (.vrow esz 0 (cells c [])))]⟩) : AWP P c' Q s := by
  refine awp_weak (fun w F μ a hs => ?_) hq
  have hN : ¬ below s.N s.N := Nat.lt_irrefl _
  obtain ⟨k1, k2⟩ := virt_step hs.hr hN esz (cells c [])
  have e : plus (below s.N) [s.N] = below (s.N + 1) := below_plus s.N 1
  rw [e] at k1 k2
  refine ⟨F, _, { hr := k1, nt := hs.nt, tm := fun u => ?_, df := hs.df }, k2⟩
  show VR w F _ _ (match Nat.beq u t with | true => .vs s.N 0 esz | false => s.tm u) _
  cases e : Nat.beq u t with
  | true =>
    have e := Nat.eq_of_beq_eq_true e
    subst e
    have hv := hs.tm u
    rw [ht] at hv
    generalize a.tmps.getD u undef = v at hv
    cases hv
    exact .vsnil _ _
  | false => exact (hs.tm u).step hs.hr k2
end

/-! ### The blocks of a frame -/
def boxL : Option Blk → Option (List AV)
  | some (.box l) => some l
  | _ => none
section
variable {r : List (Nat × Nat)} {N i : Nat} {m : List AV} {rest : List (Nat × Blk)}
theorem boxL_some {o : Option Blk} {l : List AV} {f : List AV → List AV} (h : (boxL o).map f = some l) : ∃ k, o = some (.box k) ∧ f k = l := by
  unfold boxL at h
  split at h
  · exact ⟨_, rfl, by simpa using h⟩
  · cases h
theorem or_box (h : (boxL (H (rnI r i))).map (fun l => l.map nrm) = some (m.map fun x => nrmE (ren2 r x))) (hm : (m.all (ref2 N) && (i + 1).ble N) = true) (hr : HsOr r H N rest) : HsOr r H N ((i, .box m) :: rest) := by
  obtain ⟨k, hk, he⟩ := boxL_some h
  simp only [Bool.and_eq_true] at hm
  refine ⟨⟨?_, hm.2⟩, hr⟩
  rw [hk]; exact ⟨he, hm.1⟩
theorem ob_box (h : (boxL (H i)).map (fun l => l.map nrm) = some (m.map nrmE)) (hm : (m.all (ref2 N) && (i + 1).ble N) = true) (hr : HsOb H N rest) : HsOb H N ((i, .box m) :: rest) := by
  obtain ⟨k, hk, he⟩ := boxL_some h
  simp only [Bool.and_eq_true] at hm
  refine ⟨⟨?_, hm.2⟩, hr⟩
  rw [hk]; exact ⟨he, hm.1⟩
variable {esz n : Nat} {e : Nat → Nat → AV}
theorem or_same (h : H (rnI r i) = some (.row esz n e)) (hm : (i + 1).ble N = true) (hr : HsOr r H N rest) : HsOr r H N ((i, .row esz n e) :: rest) := by
  refine ⟨⟨?_, hm⟩, hr⟩
  rw [h]; exact ⟨rfl, rfl, fun _ _ _ _ => .inl rfl⟩
theorem or_vsame (h : H (rnI r i) = some (.vrow esz n e)) (hm : (i + 1).ble N = true) (hr : HsOr r H N rest) : HsOr r H N ((i, .vrow esz n e) :: rest) := by
  refine ⟨⟨?_, hm⟩, hr⟩
  rw [h]; exact ⟨rfl, rfl, fun _ _ _ _ => .inl rfl⟩
theorem ob_same (h : H i = some (.row esz n e)) (hm : (i + 1).ble N = true) (hr : HsOb H N rest) : HsOb H N ((i, .row esz n e) :: rest) := by
  refine ⟨⟨?_, hm⟩, hr⟩
  rw [h]; exact ⟨rfl, rfl, fun _ _ _ _ => rfl⟩
theorem ob_vsame (h : H i = some (.vrow esz n e)) (hm : (i + 1).ble N = true) (hr : HsOb H N rest) : HsOb H N ((i, .vrow esz n e) :: rest) := by
  refine ⟨⟨?_, hm⟩, hr⟩
  rw [h]; exact ⟨rfl, rfl, fun _ _ _ _ => rfl⟩
variable {α : Type} [Inhabited α] {c : α → List AV} {xs : List α}
theorem or_row (h : H (rnI r i) = some (.row esz n e)) (hq : RowEq esz n e c xs) (hm : (i + 1).ble N = true) (hr : HsOr r H N rest) : HsOr r H N ((i, .row esz n (cells c xs)) :: rest) := by
  refine ⟨⟨?_, hm⟩, hr⟩
  rw [h]; exact hq.row rfl
theorem or_vrow (h : H (rnI r i) = some (.vrow esz n e)) (hq : RowEq esz n e c xs) (hm : (i + 1).ble N = true) (hr : HsOr r H N rest) : HsOr r H N ((i, .vrow esz n (cells c xs)) :: rest) := by
  refine ⟨⟨?_, hm⟩, hr⟩
  rw [h]; exact hq.row rfl
end

/-! ### Labels that nothing jumps to -/
def noGotoA (Q : Exit → SSt → Prop) : Exit → SSt → Prop
  | .goto _, _ => False
  | e, s => Q e s
theorem awp_scope {c : Code} {Q : Exit → SSt → Prop} {s : SSt} (h : AWP P c (noGotoA Q) s) : AWP P (.scope c) Q s := by
  intro w F μ a hs
  refine wp_scope_straight (Code.wp_mono ?_ (h w F μ a hs))
  rintro e a' w' ⟨s', F', μ', hq, hs', hf⟩
  cases e with
  | goto l => exact hq.elim
  | _ => exact ⟨s', F', μ', hq, hs', hf⟩
theorem awp_label {l : Nat} {Q : Exit → SSt → Prop} {s : SSt} (h : Q .normal s) : AWP P (.label l) Q s := fun _ _ _ _ hs => wp_label (post_here h hs rfl)

/-- A first part that ends in several ways; the rest is walked once. -/
theorem seq_join {α β γ : Type} {fr : α → SSt} {inn : α → β} {f : Option β} {g : β → Option γ} {r : γ} {x y : Code} {Q : Exit → SSt → Prop} {s : SSt} (h : f.bind g = some r)
    (rest : ∀ q, g (inn q) = some r → AWP P y Q (fr q)) (first : ∀ z, f = some z → g z = some r → AWP P x (thenA (fun s' => ∃ q, z = inn q ∧ Wk (fr q) s') Q) s) : AWP P (.seq x y) Q s := by
  obtain ⟨z, hz, hg⟩ := bind_s h
  refine awp_seq (awp_mono (first z hz hg) fun e s' hq => ?_)
  cases e with
  | normal =>
    obtain ⟨q, rfl, hw⟩ := hq
    exact awp_weak hw (rest q hg)
  | _ => exact hq

end Go.Proofs.Ytkfdfapickladaa.Abs
