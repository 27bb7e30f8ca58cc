/- What code computes, as a function of states. No condition. -/
import Derived.Test.YtnhkbghbllbknaaDoorVX
import Derived.Scope
namespace Go.Proofs.YtnhkbghbllbknaaDoor.Abs
open Go Go.RowKit

variable {w w' w'' : World} {F F' F'' O O' O'' : Nat → Prop} {μ μ' μ'' : Nat → Nat} {K K' K'' : Nat → Prop} {ft ft' : Nat → Nat → Prop} {P : Program} {R : Type}

/-- What is walked once, though several ways lead to it. -/
def share {α β : Type} (x : α) (f : α → β) : β := f x
/-- Rounds. -/
def iter {ts : List Ty} {R : Type} (k : Nat) (body : Nat → Fn' ts (Option R) → Fn' ts (Option R)) : Fn' ts (Option R) := match k with
  | 0 => curT ts fun _ => none
  | k + 1 => body k (iter k body)

/-- What is written beside the code: frames of loops (by their first region), of what several ways lead to, looks at regions that draw. -/
structure Ann where
  loop : List (Nat × Frame')
  join : List (Nat × Frame')
  draw : List (Nat × List Nat × List (Nat × List Nat))
def frOf : List (Nat × Frame') → Nat → Option Frame'
  | [], _ => none
  | (i, f) :: r, k => match Nat.beq k i with
    | true => some f
    | false => frOf r k
def drOf : List (Nat × List Nat × List (Nat × List Nat)) → Nat → Option (List Nat × List (Nat × List Nat))
  | [], _ => none
  | (i, f) :: r, k => match Nat.beq k i with
    | true => some f
    | false => drOf r k
def firstR : Code → Option Nat
  | .region id _ _ => some id
  | .seq a b => match firstR a with
    | some i => some i
    | none => firstR b
  | .cond _ a b => match firstR a with
    | some i => some i
    | none => firstR b
  | .block _ c => firstR c
  | .loop c => firstR c
  | .scope c => firstR c
  | _ => none
def frAt (l : List (Nat × Frame')) (c : Code) : Option Frame' := match firstR c with
  | some i => frOf l i
  | none => none

/-- The ways on. -/
structure Ks (R : Type) where
  n : TSt → Option R
  x : Nat → TSt → Option R
  r : TSt → Option R
  p : TA → TSt → Option R

/-- A nil slice that will be a row. -/
inductive Place where
  | tm (t : Nat) (ty : Ty)
  | cell (id off : Nat) (ty : Ty)
  | ren (id off : Nat)
  | rent (t : Nat)
def virt1 (s : TSt) : Place → TSt
  | .tm t ty => match look s.tm t with
    | .nils => ⟨s.nt, s.N + 1, (t, .ow s.N) :: s.tm, updH s.H [(s.N, some (.row ty true []))]⟩
    | _ => s
  | .cell id off ty => match lookH s.H id with
    | some (.box l) => match l.getD off .top with
      | .nils => ⟨s.nt, s.N + 1, s.tm, updH s.H [(id, some (.box (l.set off (.ow s.N)))), (s.N, some (.row ty true []))]⟩
      | _ => s
    | _ => s
  | .ren id off => match lookH s.H id with
    | some (.box l) => match l.getD off .top with
      | .ow j => match lookH s.H j with
        | some (.row ty v xs) => ⟨s.nt, s.N + 1, s.tm, updH s.H [(id, some (.box (l.set off (.ow s.N)))), (s.N, some (.row ty v xs)), (j, none)]⟩
        | _ => s
      | _ => s
    | _ => s
  | .rent t => match look s.tm t with
    | .ow j => match lookH s.H j with
      | some (.row ty v xs) => ⟨s.nt, s.N + 1, (t, .ow s.N) :: s.tm, updH s.H [(s.N, some (.row ty v xs)), (j, none)]⟩
      | _ => s
    | _ => s
def virts (s : TSt) : List Place → TSt
  | [] => s
  | p :: r => virts (virt1 s p) r

theorem virt_new {s : TSt} {a : Act} (ty : Ty) (hs : SR w F O μ (below s.N) s.st ft a) :
    HR w F O (mu1 μ s.N 0) (below (s.N + 1)) (s.st.H.upd [(s.N, some (.row true (tsz ty) 0 (rcells ty [])))]) ft ∧ Fr w F O μ (below s.N) w F O (mu1 μ s.N 0) := by
  have h := virt_step (N := s.N) (esz := tsz ty) (e := rcells ty []) hs.hr (fun h => absurd h (by simp [below]))
  have e : plus (below s.N) [s.N] = below (s.N + 1) := below_plus s.N 1
  rw [e] at h
  exact h
/-- The same blocks, told otherwise. -/
theorem HR.imp1 {H H' : Hp} (hr : HR w F O μ K H ft) (h : ∀ id b', H' id = some b' → ∃ b, H id = some b ∧ (b'.lies = true → b.lies = true) ∧ ∀ o, BlkR w F μ K (ft id) (μ id) o b → BlkR w F μ K (ft id) (μ id) o b') : HR w F O μ K H' ft := by
  have lv : ∀ id, H'.live id → H.live id := fun id ⟨b', hb', hl⟩ => by
    obtain ⟨b, h1, h2, _⟩ := h id b' hb'
    exact ⟨b, h1, h2 hl⟩
  refine { lt := hr.lt, known := fun id b' hb' => ?_, blk := fun id b' hb' hl => ?_, self := fun id hl => hr.self id (lv id hl), own := fun id hl => hr.own id (lv id hl), dj := fun id id' hl hl' => hr.dj id id' (lv id hl) (lv id' hl'), nof := hr.nof, wf := hr.wf, owf := hr.owf, pos := hr.pos }
  · obtain ⟨b, h1, _⟩ := h id b' hb'
    exact hr.known id b h1
  · obtain ⟨b, h1, h2, h3⟩ := h id b' hb'
    obtain ⟨o, ho, hB⟩ := hr.blk id b h1 (h2 hl)
    exact ⟨o, ho, h3 o hB⟩
theorem ren_row {v : Bool} {j N n esz : Nat} {u : Value} (hN : K N) (hμ : (v = true ∧ n = 0) ∨ μ N = μ j) (h : VR w F μ K (rowAV v j n esz) u) : VR w F μ K (rowAV v N n esz) u := by
  cases v with
  | false =>
    have e : μ N = μ j := by rcases hμ with ⟨h, _⟩ | h; cases h; exact h
    simp only [rowAV] at h ⊢
    cases h with
    | ms _ _ _ _ cap sz t hid hc hs hsz => rw [← e]; exact .ms _ _ _ _ cap sz t hN hc (by rw [e]; exact hs) hsz
  | true =>
    simp only [rowAV] at h ⊢
    cases h with
    | vs _ _ _ cap sz t hn hid hc hs hsz =>
      have e : μ N = μ j := by rcases hμ with ⟨_, h⟩ | h; exact absurd h hn; exact h
      rw [← e]; exact .vs _ _ _ cap sz t hn hN hc (by rw [e]; exact hs) hsz
    | vsnil => exact .vsnil _ _
theorem ren_ok {s : TSt} {a : Act} {j : Nat} {ty : Ty} {v : Bool} {xs : List ty.dn} (hs : SR w F O μ (below s.N) s.st ft a) (hj : lookH s.H j = some (.row ty v xs)) :
    ∃ μ' ft', HR w F O μ' (below (s.N + 1)) (s.st.H.upd [(s.N, some (.row v (tsz ty) xs.length (rcells ty xs))), (j, none)]) ft' ∧ Fr w F O μ (below s.N) w F O μ' ∧
      ∀ u, VR w F μ' (below (s.N + 1)) (rowAV v j xs.length (tsz ty)) u → VR w F μ' (below (s.N + 1)) (rowAV v s.N xs.length (tsz ty)) u := by
  have hH : s.st.H j = some (.row v (tsz ty) xs.length (rcells ty xs)) := st_at hj
  have hjN : j < s.N := hs.hr.known j _ hH
  have eK : plus (below s.N) [s.N] = below (s.N + 1) := below_plus s.N 1
  have hKN : ¬ below s.N s.N := by simp [below]
  cases hl : (Blk.row v (tsz ty) xs.length (rcells ty xs)).lies with
  | true =>
    obtain ⟨o, ho, hB⟩ := hs.hr.blk j _ hH hl
    have hlv : s.st.H.live j := ⟨_, hH, hl⟩
    have hself := hs.hr.self j hlv
    have hO := hs.hr.own j hlv _ hself
    have hp : Put w w (μ j) o := ⟨rfl, rfl, rfl, Nat.le_refl _, hs.hr.lt j hjN, ho, fun _ _ _ => rfl, fun _ _ => rfl⟩
    obtain ⟨k1, k2⟩ := put_step (M := s.N) (L := [j]) (S := ft j) hs.hr hp (.inl hO) (fun h => absurd h hKN) (fun x hx => .inr ⟨j, .inr (by simp), hlv, hx⟩) hself
      (fun id h1 h2 h3 h4 => h3 (by have := hs.hr.dj id j h1 hlv _ h4 hself; simp [this])) hB
    have eO : (fun x => O x ∨ x = μ j) = O := by
      funext x
      exact propext ⟨fun h => by rcases h with h | h; exact h; rw [h]; exact hO, .inl⟩
    rw [eO, eK] at k1
    rw [eO] at k2
    refine ⟨_, _, k1, k2, fun u hu => ren_row (by simp [below]) (.inr ?_) hu⟩
    rw [mu1_new, mu1_old (by omega)]
  | false =>
    have hv : v = true ∧ xs.length = 0 := by
      cases v with
      | false => simp [Blk.lies] at hl
      | true => simpa [Blk.lies] using hl
    obtain ⟨k1, k2⟩ := virt_step (N := s.N) (esz := tsz ty) (e := rcells ty xs) hs.hr hKN
    rw [eK] at k1
    refine ⟨_, ft, k1.imp fun id b' hb' => ?_, k2, fun u hu => ren_row (by simp [below]) (.inl hv) hu⟩
    simp only [Hp.upd] at hb' ⊢
    by_cases e : id = s.N
    · rw [if_pos e] at hb' ⊢
      rw [hv.1, hv.2] at hb'
      exact ⟨b', hb', BImp.refl _⟩
    · rw [if_neg e] at hb' ⊢
      by_cases e2 : id = j
      · rw [if_pos e2] at hb'; cases hb'
      · rw [if_neg e2] at hb'
        exact ⟨b', hb', BImp.refl _⟩
theorem ren_state {s : TSt} {a : Act} {j : Nat} {ty : Ty} {v : Bool} {xs : List ty.dn} (ho : s.ok) (hs : SR w F O μ (below s.N) s.st ft a) (hj : lookH s.H j = some (.row ty v xs)) {tm' : List (Nat × TA)} {H' : List (Nat × TBlk)}
    (hsub : Sub s.H H' s.N) (hN : lookH H' s.N = some (.row ty v xs)) (hj' : ∀ b, lookH H' j = some b → b.vis = false) (htm : ∀ t, look tm' t = look s.tm t ∨ (look s.tm t = .ow j ∧ look tm' t = .ow s.N))
    (hH : ∀ id, id ≠ s.N → id ≠ j → lookH H' id = lookH s.H id ∨ ∃ l off, lookH s.H id = some (.box l) ∧ l.getD off .top = .ow j ∧ lookH H' id = some (.box (l.set off (.ow s.N)))) :
    TSt.ok ⟨s.nt, s.N + 1, tm', H'⟩ ∧ s.N ≤ s.N + 1 ∧ s.nt = s.nt ∧ Sub s.H H' s.N ∧ ∃ μ' ft', SR w F O μ' (below (s.N + 1)) (TSt.st ⟨s.nt, s.N + 1, tm', H'⟩) ft' a ∧ Fr w F O μ (below s.N) w F O μ' := by
  obtain ⟨μ', ft', h1, h2, h3⟩ := ren_ok hs hj
  have hjN : j < s.N := hs.hr.known j _ (st_at hj)
  have ej : (TA.ow j).av s.H = rowAV v j xs.length (tsz ty) := by simp only [TA.av, hj, shp]
  have eN : (TA.ow s.N).av H' = rowAV v s.N xs.length (tsz ty) := by simp only [TA.av, hN, shp]
  have stp : ∀ {x u}, VR w F μ (below s.N) x u → VR w F μ' (below (s.N + 1)) x u := fun hx => hx.step hs.hr h2 fun id (h : id < s.N) => (by show id < s.N + 1; omega)
  refine ⟨⟨fun t => ?_, fun id l hl => ?_⟩, Nat.le_succ _, rfl, hsub, μ', ft', ⟨h1.imp1 fun id b' hb => ?_, hs.nt, fun t => ?_, hs.df⟩, h2⟩
  · show (look tm' t).wf H' (s.N + 1)
    rcases htm t with e | ⟨_, e⟩
    · rw [e]; exact (av_sub hsub (Nat.le_succ _) _ (ho.tm t)).2
    · rw [e]; simp only [TA.wf]; omega
  · have hl : lookH H' id = some (.box l) := hl
    by_cases e : id = s.N
    · rw [e, hN] at hl; cases hl
    · by_cases e2 : id = j
      · subst e2; have := hj' _ hl; cases this
      · rcases hH id e e2 with h | ⟨l0, off, q3, q4, q5⟩
        · rw [h] at hl; exact (avL_sub hsub (Nat.le_succ _) _ (ho.H id l hl)).2
        · rw [q5] at hl
          cases hl
          have hw := (avL_sub hsub (Nat.le_succ s.N) _ (ho.H id l0 q3)).2
          refine wfL_iff.2 fun x hx => ?_
          rcases List.mem_or_eq_of_mem_set hx with h | h
          · exact wfL_iff.1 hw x h
          · rw [h]; simp only [TA.wf]; omega
  · obtain ⟨c, hc, hv, rfl⟩ := hpT_some hb
    by_cases e : id = s.N
    · subst e
      rw [hN] at hc
      cases hc
      exact ⟨_, by simp only [Hp.upd, if_true]; rfl, fun h => h, fun o h => h⟩
    · by_cases e2 : id = j
      · subst e2; have := hj' _ hc; rw [this] at hv; cases hv
      · have eu : (s.st.H.upd [(s.N, some (.row v (tsz ty) xs.length (rcells ty xs))), (j, none)]) id = s.st.H id := by simp only [Hp.upd, if_neg e, if_neg e2]
        rw [eu]
        rcases hH id e e2 with h | ⟨l0, off, q3, q4, q5⟩
        · rw [h] at hc
          refine ⟨_, st_at hc hv, ?_⟩
          rw [show (TSt.H ⟨s.nt, s.N + 1, tm', H'⟩) = H' from rfl, blk_sub hsub fun l e => ho.H id l (e ▸ hc)]
          exact ⟨fun h => h, fun o h => h⟩
        · rw [q5] at hc
          cases hc
          refine ⟨_, st_at q3, fun _ => rfl, fun o ⟨cs, t, m1, m2, m3, m4⟩ => ⟨cs, t, m1, m2, ?_, fun k hk => ?_⟩⟩
          · rw [avL_length] at m3 ⊢; simpa using m3
          · rw [avL_length] at hk
            have hk0 : k < l0.length := by simpa using hk
            have m5 := m4 k (by rw [avL_length]; exact hk0)
            rw [avL_getD _ _ _ hk0] at m5
            rw [avL_getD _ _ _ hk]
            show VR w F μ' _ (((l0.set off (.ow s.N)).getD k .top).av H') _
            by_cases e3 : off = k
            · subst e3
              have e4 : (l0.set off (.ow s.N)).getD off .top = .ow s.N := by simp [List.getD, hk0]
              rw [q4, ej] at m5
              rw [e4, eN]
              exact h3 _ m5
            · have e4 : (l0.set off (.ow s.N)).getD k .top = l0.getD k .top := by simp [List.getD, List.getElem?_set_ne e3]
              rw [e4, (av_sub hsub (Nat.le_refl _) _ (getD_wf (ho.H id l0 q3) k)).1]
              exact m5
  · show VR w F _ _ ((look tm' t).av H') _
    have hv := hs.tm t
    rcases htm t with e | ⟨e0, e⟩
    · rw [e, (av_sub hsub (Nat.le_refl _) _ (ho.tm t)).1]
      exact stp hv
    · rw [e, eN]
      have hv' : VR w F μ (below s.N) ((look s.tm t).av s.H) (a.tmps.getD t undef) := hv
      rw [e0, ej] at hv'
      exact h3 _ (stp hv')
theorem virt1_ok {s : TSt} {a : Act} (p : Place) (ho : s.ok) (hs : SR w F O μ (below s.N) s.st ft a) : (virt1 s p).ok ∧ s.N ≤ (virt1 s p).N ∧ (virt1 s p).nt = s.nt ∧
    Sub s.H (virt1 s p).H s.N ∧ ∃ μ' ft', SR w F O μ' (below (virt1 s p).N) (virt1 s p).st ft' a ∧ Fr w F O μ (below s.N) w F O μ' := by
  have same : s.ok ∧ s.N ≤ s.N ∧ s.nt = s.nt ∧ Sub s.H s.H s.N ∧ ∃ μ' ft', SR w F O μ' (below s.N) s.st ft' a ∧ Fr w F O μ (below s.N) w F O μ' := ⟨ho, Nat.le_refl _, rfl, Sub.refl _ _, μ, ft, hs, Fr.refl _ _ _ _ _⟩
  have key : ∀ (ty : Ty) (tm' : List (Nat × TA)) (H' : List (Nat × TBlk)), Sub s.H H' s.N → lookH H' s.N = some (.row ty true []) → (∀ t, look tm' t = look s.tm t ∨ (look s.tm t = .nils ∧ look tm' t = .ow s.N)) →
      (∀ id, id ≠ s.N → lookH H' id = lookH s.H id ∨ ∃ l off, lookH s.H id = some (.box l) ∧ l.getD off .top = .nils ∧ lookH H' id = some (.box (l.set off (.ow s.N)))) →
      TSt.ok ⟨s.nt, s.N + 1, tm', H'⟩ ∧ s.N ≤ s.N + 1 ∧ s.nt = s.nt ∧ Sub s.H H' s.N ∧ ∃ μ' ft', SR w F O μ' (below (s.N + 1)) (TSt.st ⟨s.nt, s.N + 1, tm', H'⟩) ft' a ∧ Fr w F O μ (below s.N) w F O μ' := by
    intro ty tm' H' hsub hN htm hH
    obtain ⟨h1, h2⟩ := virt_new (s := s) (a := a) ty hs
    have nil_ow' : ∀ {w F μ' K' v}, VR w F μ' K' .nils v → VR w F μ' K' ((TA.ow s.N).av H') v := fun {w F μ' K' v} hv => by
      rw [hv.nils_inv]
      simp only [TA.av, hN, shp, List.length_nil, rowAV]
      exact .vsnil _ _
    have nil_ow : ∀ {μ' K' v}, VR w F μ' K' .nils v → VR w F μ' K' ((TA.ow s.N).av H') v := fun {μ' K' v} hv => nil_ow' hv
    have stp : ∀ {x v}, VR w F μ (below s.N) x v → VR w F (mu1 μ s.N 0) (below (s.N + 1)) x v := fun hx => hx.step hs.hr h2 fun id (h : id < s.N) => (by show id < s.N + 1; omega)
    refine ⟨⟨fun t => ?_, fun id l hl => ?_⟩, Nat.le_succ _, rfl, hsub, _, ft, ⟨h1.imp fun id b' hb => ?_, hs.nt, fun t => ?_, hs.df⟩, h2⟩
    · show (look tm' t).wf H' (s.N + 1)
      rcases htm t with e | ⟨_, e⟩
      · rw [e]; exact (av_sub hsub (Nat.le_succ _) _ (ho.tm t)).2
      · rw [e]; simp only [TA.wf]; omega
    · have hl : lookH H' id = some (.box l) := hl
      by_cases e : id = s.N
      · rw [e, hN] at hl; cases hl
      · rcases hH id e with h | ⟨l0, off, h3, h4, h5⟩
        · rw [h] at hl; exact (avL_sub hsub (Nat.le_succ _) _ (ho.H id l hl)).2
        · rw [h5] at hl
          cases hl
          have hw := (avL_sub hsub (Nat.le_succ s.N) _ (ho.H id l0 h3)).2
          refine wfL_iff.2 fun x hx => ?_
          rcases List.mem_or_eq_of_mem_set hx with h | h
          · exact wfL_iff.1 hw x h
          · rw [h]; simp only [TA.wf]; omega
    · obtain ⟨c, hc, hv, rfl⟩ := hpT_some hb
      by_cases e : id = s.N
      · subst e
        rw [hN] at hc
        cases hc
        exact ⟨_, by rw [Hp.upd_one, if_pos rfl]; rfl, BImp.refl _⟩
      · rw [Hp.upd_one, if_neg e]
        rcases hH id e with h | ⟨l0, off, h3, h4, h5⟩
        · rw [h] at hc
          refine ⟨_, st_at hc hv, ?_⟩
          rw [show (TSt.H ⟨s.nt, s.N + 1, tm', H'⟩) = H' from rfl, blk_sub hsub fun l e => ho.H id l (e ▸ hc)]
          exact BImp.refl _
        · rw [h5] at hc
          cases hc
          refine ⟨_, st_at h3, ?_⟩
          simp only [TBlk.blk]
          refine bimp_box (by rw [avL_length, avL_length]; simp) fun k hk => ?_
          rw [avL_length] at hk
          have hk0 : k < l0.length := by simpa using hk
          rw [avL_getD _ _ _ hk0, avL_getD _ _ _ hk]
          intro w1 F1 μ1 K1 v1 hv1
          by_cases e2 : off = k
          · subst e2
            have e3 : (l0.set off (.ow s.N)).getD off .top = .ow s.N := by simp [List.getD, hk0]
            rw [h4] at hv1
            simp only [TA.av] at hv1
            show VR w1 F1 μ1 K1 (((l0.set off (.ow s.N)).getD off .top).av H') v1
            rw [e3]
            exact nil_ow' hv1
          · have e3 : (l0.set off (.ow s.N)).getD k .top = l0.getD k .top := by simp [List.getD, List.getElem?_set_ne e2]
            show VR w1 F1 μ1 K1 (((l0.set off (.ow s.N)).getD k .top).av H') v1
            rw [e3, (av_sub hsub (Nat.le_refl _) _ (getD_wf (ho.H id l0 h3) k)).1]
            exact hv1
    · show VR w F _ _ ((look tm' t).av H') _
      have hv := hs.tm t
      rcases htm t with e | ⟨e0, e⟩
      · rw [e, (av_sub hsub (Nat.le_refl _) _ (ho.tm t)).1]
        exact stp hv
      · rw [e]
        have hv' : VR w F μ (below s.N) ((look s.tm t).av s.H) (a.tmps.getD t undef) := hv
        rw [e0] at hv'
        simp only [TA.av] at hv'
        exact nil_ow (stp hv')
  cases p with
  | tm t ty =>
    simp only [virt1]
    split
    · rename_i h0
      refine key ty _ _ sub_new (by rw [updH_one, if_pos rfl]) (fun u => ?_) fun id e => .inl (by rw [updH_one, if_neg e])
      simp only [look]
      cases e : Nat.beq u t with
      | true => rw [Nat.eq_of_beq_eq_true e]; exact .inr ⟨h0, rfl⟩
      | false => exact .inl rfl
    · exact same
  | cell id0 off ty =>
    simp only [virt1]
    split
    · rename_i l hl
      split
      · rename_i h0
        have hne : id0 ≠ s.N := fun e => by
          have := hs.hr.known id0 _ (st_at hl)
          simp only [below] at this; omega
        refine key ty _ _ (fun id hid => ?_) ?_ (fun u => .inl rfl) fun id e => ?_
        · simp only [updH, lookH]
          cases e : Nat.beq id id0 with
          | true => rw [Nat.eq_of_beq_eq_true e, hl]; rfl
          | false => simp only [nbeq_ne (show ¬ id = s.N by omega)]
        · simp only [updH, lookH, nbeq_ne (show ¬ s.N = id0 from fun h => hne h.symm), Nat.beq_refl]
        · simp only [updH, lookH]
          cases e2 : Nat.beq id id0 with
          | true => rw [Nat.eq_of_beq_eq_true e2]; exact .inr ⟨l, off, hl, h0, rfl⟩
          | false => exact .inl (by simp only [nbeq_ne e])
      · exact same
    · exact same
  | ren id0 off =>
    simp only [virt1]
    split
    · rename_i l hl
      split
      · rename_i j h0
        split
        · rename_i ty v xs hj
          have hne : id0 ≠ s.N := fun e => by
            have := hs.hr.known id0 _ (st_at hl)
            simp only [below] at this; omega
          have hjN : j < s.N := hs.hr.known j _ (st_at hj)
          have hij : id0 ≠ j := fun e => by subst e; rw [hl] at hj; cases hj
          refine ren_state ho hs hj (fun id hid => ?_) ?_ (fun b hb => ?_) (fun u => .inl rfl) fun id e e2 => ?_
          · simp only [updH, lookH]
            cases e : Nat.beq id id0 with
            | true => rw [Nat.eq_of_beq_eq_true e, hl]; rfl
            | false =>
              simp only [nbeq_ne (show ¬ id = s.N by omega)]
              cases e3 : Nat.beq id j with
              | true => simp only [shp]; rw [Nat.eq_of_beq_eq_true e3]
              | false => rfl
          · simp only [updH, lookH, nbeq_ne (show ¬ s.N = id0 from fun h => hne h.symm), Nat.beq_refl]
          · simp only [updH, lookH, nbeq_ne (show ¬ j = id0 from fun h => hij h.symm), nbeq_ne (show ¬ j = s.N by omega), Nat.beq_refl, Option.some.injEq] at hb
            rw [← hb]; rfl
          · simp only [updH, lookH]
            cases e3 : Nat.beq id id0 with
            | true => rw [Nat.eq_of_beq_eq_true e3]; exact .inr ⟨l, off, hl, h0, rfl⟩
            | false => exact .inl (by simp only [nbeq_ne e, nbeq_ne e2])
        · exact same
      · exact same
    · exact same
  | rent t =>
    simp only [virt1]
    split
    · rename_i j h0
      split
      · rename_i ty v xs hj
        have hjN : j < s.N := hs.hr.known j _ (st_at hj)
        refine ren_state ho hs hj (fun id hid => ?_) ?_ (fun b hb => ?_) (fun u => ?_) fun id e e2 => ?_
        · simp only [updH, lookH, nbeq_ne (show ¬ id = s.N by omega)]
          cases e3 : Nat.beq id j with
          | true => simp only [shp]; rw [Nat.eq_of_beq_eq_true e3]
          | false => rfl
        · simp only [updH, lookH, Nat.beq_refl]
        · simp only [updH, lookH, nbeq_ne (show ¬ j = s.N by omega), Nat.beq_refl, Option.some.injEq] at hb
          rw [← hb]; rfl
        · simp only [look]
          cases e : Nat.beq u t with
          | true => rw [Nat.eq_of_beq_eq_true e]; exact .inr ⟨h0, rfl⟩
          | false => exact .inl rfl
        · exact .inl (by simp only [updH, lookH, nbeq_ne e, nbeq_ne e2])
      · exact same
    · exact same
theorem virts_ok {a : Act} : ∀ (L : List Place) {s : TSt} {μ : Nat → Nat} {ft : Nat → Nat → Prop}, s.ok → SR w F O μ (below s.N) s.st ft a → (virts s L).ok ∧ s.N ≤ (virts s L).N ∧ (virts s L).nt = s.nt ∧
    Sub s.H (virts s L).H s.N ∧ ∃ μ' ft', SR w F O μ' (below (virts s L).N) (virts s L).st ft' a ∧ Fr w F O μ (below s.N) w F O μ'
  | [], s, μ, ft, ho, hs => ⟨ho, Nat.le_refl _, rfl, Sub.refl _ _, μ, ft, hs, Fr.refl _ _ _ _ _⟩
  | p :: r, s, μ, ft, ho, hs => by
    obtain ⟨h1, h2, h3, h6, μ1, ft1, h4, h5⟩ := virt1_ok p ho hs
    obtain ⟨k1, k2, k3, k6, μ2, ft2, k4, k5⟩ := virts_ok r h1 h4
    exact ⟨k1, Nat.le_trans h2 k2, k3.trans h3, (fun id hid => (k6 id (Nat.lt_of_lt_of_le hid h2)).trans (h6 id hid)), μ2, ft2, k4, h5.trans (k5.pin fun id (hid : id < s.N) => (show id < (virt1 s p).N by omega))⟩

/-- The places of a frame where a nil slice stands for a row. -/
def cellPl (m0 : Nat) (bps : List Bp) (id : Nat) : Nat → List Pat → List TA → List Place
  | off, .ow j :: ps, .nils :: as => match bps[j]? with
    | some (.row ty true) => .cell id off ty :: cellPl m0 bps id (off + 1) ps as
    | _ => cellPl m0 bps id (off + 1) ps as
  | off, .ow j :: ps, .ow i :: as => match Nat.ble m0 j && Nat.blt i m0 with
    | true => .ren id off :: cellPl m0 bps id (off + 1) ps as
    | false => cellPl m0 bps id (off + 1) ps as
  | off, _ :: ps, _ :: as => cellPl m0 bps id (off + 1) ps as
  | _, _, _ => []
def boxPl (m0 : Nat) (bps : List Bp) (H : List (Nat × TBlk)) (j id : Nat) : List Place := match bps[j]?, lookH H id with
  | some (.box ps), some (.box l) => cellPl m0 bps id 0 ps l
  | _, _ => []
def tmPl (m0 : Nat) (bps : List Bp) (s : TSt) : List (Nat × Pat) → List Place
  | [] => []
  | (t, .ow j) :: r => match look s.tm t with
    | .nils => match bps[j]? with
      | some (.row ty true) => .tm t ty :: tmPl m0 bps s r
      | _ => tmPl m0 bps s r
    | .ow i => match Nat.ble m0 j && Nat.blt i m0 with
      | true => .rent t :: tmPl m0 bps s r
      | false => tmPl m0 bps s r
    | _ => tmPl m0 bps s r
  | (t, .bp j _) :: r => match look s.tm t with
    | .bp id _ => boxPl m0 bps s.H j id ++ tmPl m0 bps s r
    | _ => tmPl m0 bps s r
  | _ :: r => tmPl m0 bps s r
def pinPl (m0 : Nat) (bps : List Bp) (s : TSt) : Nat → List Place
  | 0 => []
  | m + 1 => boxPl m0 bps s.H m m ++ pinPl m0 bps s m

/-- A state, handed on as its frame tells it. -/
def handT (f : Frame') (m0 : Nat) (J : Fn' f.tys (Option R)) (s : TSt) : Option R := match extF (virts s (pinPl m0 f.bps s m0 ++ tmPl m0 f.bps s f.tms)) m0 f with
  | some ds => match castTup f.tys ds with
    | some x => appT f.tys J x
    | none => none
  | none => none
/-- From data on. -/
def takeT (f : Frame') (nt : Nat) (X : TSt → Option R) : Fn' f.tys (Option R) := curT f.tys fun x => match instF nt f (tupDyn f.tys x) with
  | some s => X s
  | none => none

def den (E : Env) (cts : Nat → List CT) (A : Ann) (m0 : Nat) : Code → Nat → TSt → Ks R → Option R
  | .skip, _, s, ks => ks.n s
  | .region _ ⟨ops⟩ false, k, s, ks => evSeq E (cts k) ⟨ops⟩ ops s ks.n ks.p
  | .region id ⟨ops⟩ true, k, s, ks => match drOf A.draw id with
    | some (B, tch) => evDraw E (cts k) ops ⟨B⟩ tch s ks.n
    | none => none
  | .seq x y, k, s, ks => match frAt A.join y with
    | some f => share (takeT f s.nt fun s' => den E cts A m0 y k s' ks) fun J => den E cts A m0 x k s { ks with n := handT f m0 J }
    | none => den E cts A m0 x k s { ks with n := fun s' => den E cts A m0 y k s' ks }
  | .cond c x y, k, s, ks => match s.val c with
    | .d ⟨.bool, b⟩ => cond b (den E cts A m0 x k s ks) (den E cts A m0 y k s ks)
    | _ => none
  | .block id c, k, s, ks => den E cts A m0 c k s { ks with x := fun i s' => match Nat.beq i id with
    | true => ks.n s'
    | false => ks.x i s' }
  | .loop c, k, s, ks => match frAt A.loop c with
    | some f => handT f m0 (iter k fun k' rec => takeT f s.nt fun s' => den E cts A m0 c k' s' { ks with n := handT f m0 rec }) s
    | none => none
  | .exit id, _, s, ks => ks.x id s
  | .ret, _, s, ks => ks.r s
  | .scope c, k, s, ks => den E cts A m0 c k s ks
  | .label _, _, s, ks => ks.n s
  | _, _, _, _ => none

/-! ### It is right -/

/-- What a way out leads to. -/
def Ks.at (ks : Ks R) (z : R) (e : Exit) (s' : TSt) (w' : World) (F' : Nat → Prop) (μ' : Nat → Nat) : Prop := match e with
  | .normal => ks.n s' = some z
  | .exit i => ks.x i s' = some z
  | .ret => ks.r s' = some z
  | .panic l => ∃ u v, l = [{ v := u, recovered := false }] ∧ ks.p v s' = some z ∧ v.wf s'.H s'.N ∧ VR w' F' μ' (below s'.N) (v.av s'.H) u
  | _ => False
def PostK (ks : Ks R) (z : R) (w : World) (F O : Nat → Prop) (μ : Nat → Nat) (m0 nt : Nat) : Exit → Act → World → Prop := fun e a' w' =>
  ∃ s' F' O' μ' ft', Here w F O μ m0 nt s' a' w' F' O' μ' ft' ∧ ks.at z e s' w' F' μ'
theorem PostK.trans {ks : Ks R} {z : R} {m0 nt : Nat} (hf : Fr w F O μ (below m0) w' F' O' μ') (e : Exit) (a : Act) (w'' : World) (h : PostK ks z w' F' O' μ' m0 nt e a w'') : PostK ks z w F O μ m0 nt e a w'' := by
  obtain ⟨s', F'', O'', μ'', ft', h1, h2⟩ := h
  exact ⟨s', F'', O'', μ'', ft', h1.trans hf, h2⟩

/-- What is handed on. -/
theorem handT_ok {f : Frame'} {m0 : Nat} {J : Fn' f.tys (Option R)} {s : TSt} {z : R} {a : Act} (h : handT f m0 J s = some z) (ho : s.ok) (hm : m0 ≤ s.N) (hs : SR w F O μ (below s.N) s.st ft a) :
    ∃ x s', appT f.tys J x = some z ∧ instF s.nt f (tupDyn f.tys x) = some s' ∧ ∃ F' O' μ' ft', Here w F O μ m0 s.nt s' a w F' O' μ' ft' := by
  unfold handT at h
  split at h
  · rename_i ds hds
    split at h
    · rename_i x hx
      obtain ⟨v1, v2, v3, _, μ1, ft1, v4, v5⟩ := virts_ok (pinPl m0 f.bps s m0 ++ tmPl m0 f.bps s f.tms) ho hs
      obtain ⟨s', h1, h2, h3, h4, h5⟩ := canon_ok hds (Nat.le_trans hm v2)
      obtain ⟨F', O', μ', ft', k1, k2⟩ := h5 v4
      exact ⟨x, s', h, by rw [castTup_some hx, ← v3]; exact h1, F', O', μ', ft', h2, h4, h3.trans v3, k1, (v5.pin fun id (hid : id < m0) => (show id < s.N by omega)).trans k2⟩
    · cases h
  · cases h
theorem takeT_app {f : Frame'} {nt : Nat} {X : TSt → Option R} {x : Tup f.tys} {s' : TSt} (h : instF nt f (tupDyn f.tys x) = some s') : appT f.tys (takeT f nt X) x = X s' := by
  unfold takeT
  rw [appT_curT, h]

def LoopW (P : Program) (c : Code) (Q : Exit → Act → World → Prop) (a : Act) (w : World) : Prop :=
  ∀ (b : Frame) (k : List Item) (cs : List Frame), ∃ e a' w', Q e a' w' ∧ Arrives P (lone (b.at a (.code c :: .inLoop c :: k)) cs w) b k cs e a' w'
theorem LoopW.wp {c : Code} {Q : Exit → Act → World → Prop} {a : Act} (h : LoopW P c Q a w) : (Code.loop c).wp P Q a w := by
  intro b k cs
  obtain ⟨e, a', w', hq, harr⟩ := h b k cs
  exact ⟨e, a', w', hq, .of_steps (.one step_loop) harr⟩
theorem LoopW.round {c : Code} {Q : Exit → Act → World → Prop} {a : Act} (h : c.wp P (Exit.then (LoopW P c Q) Q) a w) : LoopW P c Q a w := by
  intro b k cs
  obtain ⟨e, a₁, w₁, hq, harr⟩ := h b (.inLoop c :: k) cs
  cases e with
  | normal =>
    obtain ⟨e₂, a₂, w₂, hq₂, harr₂⟩ := hq b k cs
    exact ⟨e₂, a₂, w₂, hq₂, .of_steps (Steps.trans harr (.one step_inLoop)) harr₂⟩
  | exit id => exact ⟨_, a₁, w₁, hq, .pass (x := .inLoop c) rfl (fun _ _ => .inl (by simp)) harr⟩
  | goto l => exact ⟨_, a₁, w₁, hq, .pass (x := .inLoop c) rfl (fun _ _ => .inl (by simp)) harr⟩
  | ret => exact ⟨_, a₁, w₁, hq, .pass (x := .inLoop c) rfl (fun _ _ => .inl (by simp)) harr⟩
  | panic ch => exact ⟨_, a₁, w₁, hq, .pass (x := .inLoop c) rfl (fun _ _ => .inl (by simp)) harr⟩
  | outgrown => exact ⟨_, a₁, w₁, hq, .pass (x := .inLoop c) rfl (fun _ _ => .inl (by simp)) harr⟩
theorem LoopW.mono {c : Code} {Q Q' : Exit → Act → World → Prop} {a : Act} (hq : ∀ e a w, Q e a w → Q' e a w) (h : LoopW P c Q a w) : LoopW P c Q' a w := fun b k cs =>
  let ⟨e, a', w', q, r⟩ := h b k cs; ⟨e, a', w', hq _ _ _ q, r⟩


theorem den_ok {E : Env} {cts : Nat → List CT} {A : Ann} {m0 n0 : Nat} {z : R} {K0 : Nat} (hE : ∀ k, k ≤ K0 → EnvOk E (cts k)) (hmix : E.P.follows .mixedOrders = true) : ∀ (c : Code) (k : Nat) (s : TSt) (ks : Ks R), den E cts A m0 c k s ks = some z → k ≤ K0 → s.ok → m0 ≤ s.N → s.nt = n0 →
    ∀ {w : World} {F O : Nat → Prop} {μ : Nat → Nat} {ft : Nat → Nat → Prop} {a : Act}, SR w F O μ (below s.N) s.st ft a → c.wp E.P (PostK ks z w F O μ m0 n0) a w := by
  intro c
  induction c with
  | skip =>
    intro k s ks h hkk ho hm hn w F O μ ft a hs
    exact wp_skip ⟨s, F, O, μ, ft, .refl ho hm hn hs, h⟩
  | label l =>
    intro k s ks h hkk ho hm hn w F O μ ft a hs
    exact wp_label ⟨s, F, O, μ, ft, .refl ho hm hn hs, h⟩
  | exit id =>
    intro k s ks h hkk ho hm hn w F O μ ft a hs
    exact wp_exit ⟨s, F, O, μ, ft, .refl ho hm hn hs, h⟩
  | ret =>
    intro k s ks h hkk ho hm hn w F O μ ft a hs
    exact wp_ret ⟨s, F, O, μ, ft, .refl ho hm hn hs, h⟩
  | goto l => intro k s ks h; simp [den] at h
  | refuse l => intro k s ks h; simp [den] at h
  | rangeFunc f p x y ih1 ih2 => intro k s ks h; simp [den] at h
  | region id ops draw =>
    intro k s ks h hkk ho hm hn w F O μ ft a hs
    obtain ⟨ops⟩ := ops
    cases draw with
    | false =>
      simp only [den] at h
      refine wp_region_list (evSeq_ok (hE k hkk) h ho hm hn hs (fun s' a' w' F' O' μ' ft' h1 h2 => ⟨s', F', O', μ', ft', h2, h1⟩) fun v u s' a' w' F' O' μ' ft' h1 hw h2 h3 => ⟨s', F', O', μ', ft', h3, u, v, rfl, h1, hw, h2⟩)
    | true =>
      simp only [den] at h
      split at h
      · exact evDraw_ok (hE k hkk) hmix h ho hm hn hs fun s' a' w' F' O' μ' ft' h1 h2 => ⟨s', F', O', μ', ft', h2, h1⟩
      · cases h
  | seq x y ihx ihy =>
    intro k s ks h hkk ho hm hn w F O μ ft a hs
    simp only [den] at h
    refine wp_seq ?_
    split at h
    · rename_i f hf
      simp only [share] at h
      refine Code.wp_mono ?_ (ihx k s _ h hkk ho hm hn hs)
      rintro e a' w' ⟨s', F', O', μ', ft', hh, hk⟩
      cases e with
      | normal =>
        obtain ⟨x, s2, h1, h2, F2, O2, μ2, ft2, h3⟩ := handT_ok (w := w') (F := F') (O := O') (μ := μ') (ft := ft') (a := a') hk hh.ok hh.le hh.sr
        have h2' : instF s.nt f (tupDyn f.tys x) = some s2 := by rw [hn, ← hh.nt]; exact h2
        rw [takeT_app h2'] at h1
        exact Code.wp_mono (PostK.trans (hh.fr.trans h3.fr)) (ihy k s2 ks h1 hkk h3.ok h3.le (h3.nt.trans hh.nt) h3.sr)
      | _ => exact ⟨s', F', O', μ', ft', hh, hk⟩
    · refine Code.wp_mono ?_ (ihx k s _ h hkk ho hm hn hs)
      rintro e a' w' ⟨s', F', O', μ', ft', hh, hk⟩
      cases e with
      | normal => exact Code.wp_mono (PostK.trans hh.fr) (ihy k s' ks hk hkk hh.ok hh.le hh.nt hh.sr)
      | _ => exact ⟨s', F', O', μ', ft', hh, hk⟩
  | cond c x y ihx ihy =>
    intro k s ks h hkk ho hm hn w F O μ ft a hs
    simp only [den] at h
    split at h
    · rename_i b hb
      have hv := opd_at hb hs
      simp only [TA.av, dav] at hv
      cases b with
      | true => exact wp_cond_true hv.bool_inv (ihx k s ks h hkk ho hm hn hs)
      | false => exact wp_cond_false hv.bool_inv (ihy k s ks h hkk ho hm hn hs)
    · cases h
  | block id c ih =>
    intro k s ks h hkk ho hm hn w F O μ ft a hs
    simp only [den] at h
    refine wp_block (Code.wp_mono ?_ (ih k s _ h hkk ho hm hn hs))
    rintro e a' w' ⟨s', F', O', μ', ft', hh, hk⟩
    cases e with
    | exit id' =>
      simp only [Ks.at] at hk
      simp only [Exit.inBlock]
      split
      · rename_i e
        subst e
        rw [Nat.beq_refl] at hk
        exact ⟨s', F', O', μ', ft', hh, hk⟩
      · rename_i e
        rw [nbeq_ne e] at hk
        exact ⟨s', F', O', μ', ft', hh, hk⟩
    | _ => exact ⟨s', F', O', μ', ft', hh, hk⟩
  | scope c ih =>
    intro k s ks h hkk ho hm hn w F O μ ft a hs
    simp only [den] at h
    refine wp_scope_straight (Code.wp_mono ?_ (ih k s _ h hkk ho hm hn hs))
    rintro e a' w' ⟨s', F', O', μ', ft', hh, hk⟩
    cases e with
    | goto l => exact hk.elim
    | _ => exact ⟨s', F', O', μ', ft', hh, hk⟩
  | loop c ih =>
    intro k s ks h hkk ho hm hn w F O μ ft a hs
    simp only [den] at h
    split at h
    · rename_i f hf
      have key : ∀ (k : Nat), k ≤ K0 → ∀ (x : Tup f.tys) (s' : TSt), appT f.tys (iter k fun k' rec => takeT f s.nt fun s' => den E cts A m0 c k' s' { ks with n := handT f m0 rec }) x = some z → instF s.nt f (tupDyn f.tys x) = some s' → s'.ok → m0 ≤ s'.N → s'.nt = n0 →
          ∀ {w : World} {F O : Nat → Prop} {μ : Nat → Nat} {ft : Nat → Nat → Prop} {a : Act}, SR w F O μ (below s'.N) s'.st ft a → LoopW E.P c (PostK ks z w F O μ m0 n0) a w := by
        intro k
        induction k with
        | zero =>
          intro _ x s' h1
          simp only [iter] at h1
          rw [appT_curT] at h1
          cases h1
        | succ k ihk =>
          intro hkk x s' h1 h2 ho' hm' hn' w F O μ ft a hs'
          simp only [iter] at h1
          rw [takeT_app h2] at h1
          refine LoopW.round (Code.wp_mono ?_ (ih k s' _ h1 (by omega) ho' hm' hn' hs'))
          rintro e a' w' ⟨s2, F', O', μ', ft', hh, hk⟩
          cases e with
          | normal =>
            obtain ⟨x', s3, k1, k2, F2, O2, μ2, ft2, k3⟩ := handT_ok (w := w') (F := F') (O := O') (μ := μ') (ft := ft') (a := a') hk hh.ok hh.le hh.sr
            have k2' : instF s.nt f (tupDyn f.tys x') = some s3 := by rw [hn, ← hh.nt]; exact k2
            exact LoopW.mono (PostK.trans (hh.fr.trans k3.fr)) (ihk (by omega) x' s3 k1 k2' k3.ok k3.le (k3.nt.trans hh.nt) k3.sr)
          | _ => exact ⟨s2, F', O', μ', ft', hh, hk⟩
      obtain ⟨x, s', h1, h2, F', O', μ', ft', h3⟩ := handT_ok h ho hm hs
      exact (LoopW.mono (PostK.trans h3.fr) (key k hkk x s' h1 h2 h3.ok h3.le (h3.nt.trans hn) h3.sr)).wp
    · cases h

end Go.Proofs.YtnhkbghbllbknaaDoor.Abs
