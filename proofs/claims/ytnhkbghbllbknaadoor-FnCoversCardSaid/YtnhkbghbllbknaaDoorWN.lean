/- The evaluator of maps. No condition. -/
import Derived.Test.YtnhkbghbllbknaaDoorWM
namespace Go.Proofs.YtnhkbghbllbknaaDoor.Abs
open Go Go.RowKit

variable {w w' w'' : World} {F F' F'' O O' O'' : Nat → Prop} {μ μ' μ'' : Nat → Nat} {K K' K'' : Nat → Prop} {ft ft' : Nat → Nat → Prop} {P : Program} {R : Type}

/-- Words on maps: lists of entries in the order of their birth. -/
def mhas {α : Type} (p : α → Bool) (l : List α) : Bool := (l.findIdx? p).isSome
def mget {α β : Type} (p : α → Bool) (f : α → β) (d : β) (l : List α) : β := match l.find? p with
  | some y => f y
  | none => d
def mput {α : Type} (p : α → Bool) (l : List α) (x : α) : List α := match l.findIdx? p with
  | some j => l.set j x
  | none => l ++ [x]

def keq : (t : Ty) → t.dn → t.dn → Bool
  | .int _, a, b => ieq a b
  | .str, a, b => seq a b
  | _, _, _ => false
def keyT : TypeDesc → Ty → Bool
  | .int _, .int _ => true
  | .string, .str => true
  | _, _ => false
theorem keyT_ok {d : TypeDesc} {q : Ty} (h : keyT d q = true) (k : q.dn) : keyD d (dav ⟨q, k⟩) = true ∧ Clo (dav ⟨q, k⟩) ∧ ∀ k', eqA (dav ⟨q, k⟩) (dav ⟨q, k'⟩) = some (keq q k k') := by
  cases q with
  | int kk => exact ⟨by cases d <;> simp [keyT] at h; rfl, dav_clo rfl, fun k' => by simp [dav, eqA, keq]⟩
  | str => exact ⟨by cases d <;> simp [keyT] at h; rfl, dav_clo rfl, fun k' => by simp [dav, eqA, keq]⟩
  | bool => cases d <;> simp [keyT] at h
  | sl => cases d <;> simp [keyT] at h
  | st => cases d <;> simp [keyT] at h

/-- Is it the entry of that key? its value. -/
def keyP (i : Nat) (q : Ty) (k : q.dn) (y : C i) : Bool := match get i y with
  | ⟨t, a⟩ :: _ => if h : t = q then keq q k (h ▸ a) else false
  | [] => false
def valP (i : Nat) (v : Ty) (y : C i) : v.dn := match get i y with
  | _ :: ⟨t, a⟩ :: _ => if h : t = v then h ▸ a else v.df
  | _ => v.df

theorem pair_key {i : Nat} {q : Ty} {r : List Ty} (hl : lts i = q :: r) (y : C i) : ∃ a rest, get i y = ⟨q, a⟩ :: rest ∧ rest.map (·.t) = r := by
  have h := get_ts i y
  rw [hl] at h
  match hg : get i y, h with
  | ⟨t, a⟩ :: rest, h =>
    simp only [List.map_cons, List.cons.injEq] at h
    obtain ⟨h1, h2⟩ := h
    subst h1
    exact ⟨a, rest, rfl, h2⟩
theorem keyP_eq {i : Nat} {q : Ty} {a k : q.dn} {rest : List Dyn} {y : C i} (h : get i y = ⟨q, a⟩ :: rest) : keyP i q k y = keq q k a := by
  unfold keyP
  rw [h]
  simp

theorem pairA_1 (l : List Dyn) (x : Dyn) : (pairA (x :: l)).1 = dav x := by cases l <;> rfl

theorem find_dmap {d : TypeDesc} {i : Nat} {q : Ty} {r : List Ty} (hl : lts i = q :: r) (hd : keyT d q = true) (k : q.dn) : ∀ (l : List (C i)) (n : Nat), findAV (dav ⟨q, k⟩) (l.map fun x => pairA (get i x)) n = some ((l.findIdx? (keyP i q k)).map (n + ·))
  | [], n => rfl
  | y :: l, n => by
    obtain ⟨a, rest, h1, h2⟩ := pair_key hl y
    simp only [List.map_cons, findAV, List.findIdx?_cons]
    rw [h1, pairA_1, (keyT_ok hd k).2.2 a, keyP_eq h1, find_dmap hl hd k l (n + 1)]
    cases keq q k a with
    | true => simp
    | false =>
      simp only [Bool.false_eq_true, if_false, Option.map_map]
      congr 2
      funext j
      simp only [Function.comp]
      omega

/-- A look's answer. -/
def lookT (ok : Bool) (v : TA) (b : Bool) : TA := match ok with
  | true => .tup [v, .d ⟨.bool, b⟩]
  | false => v
theorem lookT_av (ok : Bool) (v : TA) (b : Bool) (H : List (Nat × TBlk)) : (lookT ok v b).av H = lookR ok (v.av H) b := by
  cases ok <;> simp [lookT, lookR, TA.av, avL, dav]
theorem lookT_wf {ok : Bool} {v : TA} {b : Bool} {H : List (Nat × TBlk)} {N : Nat} (h : v.wf H N) : (lookT ok v b).wf H N := by
  cases ok with
  | false => exact h
  | true => simp only [lookT, TA.wf, wfL]; exact ⟨h, trivial, trivial⟩
def zvT (P : Program) (t : TypeId) : Option TA := match P.info? t with
  | some i => match i.zero with
    | some z => match z with
      | .agg ⟨_ :: _⟩ => none
      | z => some (cst z)
    | none => none
  | none => none
theorem zvT_ok {t : TypeId} {a : TA} (h : zvT P t = some a) (H : List (Nat × TBlk)) (N : Nat) : zvA P t = some (a.av H) ∧ a.wf H N := by
  unfold zvT at h
  unfold zvA
  split at h
  · rename_i i hi
    split at h
    · rename_i z hz
      split at h
      · cases h
      · rename_i hne
        cases h
        rw [hi]
        simp only [hz, cst_av]
        refine ⟨?_, cst_wf H N z⟩
        congr 1
        unfold zv
        split
        · rename_i cs
          cases cs with
          | nil => rfl
          | cons a r => exact absurd rfl (hne a r)
        · rfl
    · cases h
  · cases h

/-! ### The operations -/

def evMakeMap (E : Env) (s : TSt) (t : TypeId) (κ : TRes → Option R) : Option R := match (E.mp.find? fun p => Nat.beq p.1 t) with
  | some p => κ ⟨.mp s.N, [(s.N, some (.dmap p.2 []))], 1⟩
  | none => match E.P.underlying t with
    | some (.map kt _) => match tyOf E.tc kt with
      | some q => κ ⟨.mp s.N, [(s.N, some (.fmap q []))], 1⟩
      | none => none
    | _ => none
theorem evMakeMap_ok {E : Env} {o : Oper} {s : TSt} {κ : TRes → Option R} {z : R} {t : TypeId} (ho : o.op = .makeMap t none) (hs : s.ok) (h : evMakeMap E s t κ = some z) : EvR E.P o s κ z := by
  unfold evMakeMap at h
  split at h
  · exact evr_put hs h (op_makeMap (N := s.N) ho) sub_new (by simp only [TA.av]; exact (@Imp.refl _)) (by simp only [TA.wf]) (by simp only [TBlk.blk, List.map_nil]; exact BImp.refl _) (fun l' e => by cases e)
  · split at h
    · split at h
      · exact evr_put hs h (op_makeMap (N := s.N) ho) sub_new (by simp only [TA.av]; exact (@Imp.refl _)) (by simp only [TA.wf]) (by simp only [TBlk.blk, List.map_nil]; exact BImp.refl _) (fun l' e => by cases e)
      · cases h
    · cases h

def lookF {t : Ty} (k : t.dn) (κ : Option FuncId → Option R) : List (t.dn × FuncId) → Option R
  | [] => κ none
  | p :: r => cond (keq t k p.1) (κ (some p.2)) (lookF k κ r)
theorem lookF_ok {d : TypeDesc} {q : Ty} {k : q.dn} (hd : keyT d q = true) {κ : Option FuncId → Option R} {z : R} : ∀ {l : List (q.dn × FuncId)} {n : Nat}, lookF k κ l = some z →
    (findAV (dav ⟨q, k⟩) (l.map fun x => (dav ⟨q, x.1⟩, AV.fn (.func x.2) [] [])) n = some none ∧ κ none = some z) ∨
    ∃ j, n ≤ j ∧ findAV (dav ⟨q, k⟩) (l.map fun x => (dav ⟨q, x.1⟩, AV.fn (.func x.2) [] [])) n = some (some j) ∧ ∃ p, l[j - n]? = some p ∧ κ (some p.2) = some z
  | [], n, h => .inl ⟨rfl, h⟩
  | p :: r, n, h => by
    simp only [lookF] at h
    simp only [List.map_cons, findAV, (keyT_ok hd k).2.2]
    cases e : keq q k p.1 with
    | true =>
      rw [e] at h
      exact .inr ⟨n, Nat.le_refl _, rfl, p, by simp, h⟩
    | false =>
      rw [e] at h
      rcases lookF_ok hd (n := n + 1) h with ⟨h1, h2⟩ | ⟨j, h0, h1, p', h2, h3⟩
      · exact .inl ⟨h1, h2⟩
      · exact .inr ⟨j, by omega, h1, p', by rw [show j - n = (j - (n + 1)) + 1 by omega]; simpa using h2, h3⟩

def evLookup (E : Env) (s : TSt) (t : TypeId) (x k : TA) (ok : Bool) (κ : TRes → Option R) : Option R := match x, k, E.P.underlying t with
  | .mp id, .d ⟨q, kk⟩, some (.map kt et) => match E.P.underlying kt, zvT E.P et with
    | some d, some zt => match keyT d q with
      | true => match lookH s.H id with
        | some (.dmap i l) => match lts i with
          | [q'] => match decEq q' q with
            | .isTrue _ => match zt with
              | .agg [] => κ ⟨lookT ok (.agg []) (mhas (keyP i q kk) l), [], 0⟩
              | _ => none
            | .isFalse _ => none
          | [q', v] => match decEq q' q with
            | .isTrue _ => match leafD v zt with
              | some ⟨v', z⟩ => match decEq v' v with
                | .isTrue e => κ ⟨lookT ok (.d ⟨v, mget (keyP i q kk) (valP i v) (e ▸ z) l⟩) (mhas (keyP i q kk) l), [], 0⟩
                | .isFalse _ => none
              | none => none
            | .isFalse _ => none
          | _ => none
        | some (.fmap q' l) => match decEq q' q with
          | .isTrue e => lookF kk (fun r => match r with
            | some f => κ ⟨lookT ok (.fn (.func f) [] []) true, [], 0⟩
            | none => κ ⟨lookT ok zt false, [], 0⟩) (e ▸ l : List (q.dn × FuncId))
          | .isFalse _ => none
        | _ => none
      | false => none
    | _, _ => none
  | _, _, _ => none

theorem lookR_imp {ok : Bool} {a b : AV} {c : Bool} (h : Imp a b) : Imp (lookR ok a c) (lookR ok b c) := by
  cases ok with
  | false => exact h
  | true =>
    intro w F μ K v hv
    obtain ⟨vs, rfl, hvs⟩ := hv.tup_inv
    obtain ⟨v1, r, rfl, h1, h2⟩ := hvs.cons_inv
    exact .mkTup (.cons (h h1) h2)
theorem find_idx {α : Type} {p : α → Bool} : ∀ {l : List α}, (l.findIdx? p = none ∧ l.find? p = none) ∨ ∃ j y, l.findIdx? p = some j ∧ l[j]? = some y ∧ l.find? p = some y ∧ p y = true
  | [] => .inl ⟨rfl, rfl⟩
  | x :: l => by
    simp only [List.findIdx?_cons, List.find?_cons]
    cases e : p x with
    | true => exact .inr ⟨0, x, by simp, by simp, rfl, e⟩
    | false =>
      rcases find_idx (p := p) (l := l) with ⟨h1, h2⟩ | ⟨j, y, h1, h2, h3, h4⟩
      · exact .inl ⟨by simp [h1], h2⟩
      · exact .inr ⟨j + 1, y, by simp [h1], by simpa using h2, h3, h4⟩

theorem evLookup_ok {E : Env} {o : Oper} {s : TSt} {κ : TRes → Option R} {z : R} {t : TypeId} {x k : Operand} {ok : Bool} (ho : o.op = .lookup t x k ok) (hs : s.ok) (h : evLookup E s t (s.val x) (s.val k) ok κ = some z) : EvR E.P o s κ z := by
  unfold evLookup at h
  split at h
  · rename_i id q kk kt et hx hk ht
    split at h
    · rename_i d zt hkt hz
      split at h
      · rename_i hd
        obtain ⟨hz1, hz2⟩ := zvT_ok hz s.H s.N
        have h1 : Opd s.st x (.mp id) := opd_at hx
        have h2 : Opd s.st k (dav ⟨q, kk⟩) := opd_at hk
        have hkd := keyT_ok hd kk
        split at h
        · rename_i i l hl
          have hH : s.st.H id = some (.map (l.map fun x => pairA (get i x))) := st_at hl
          split at h
          · rename_i q' hts
            split at h
            · rename_i e _
              subst e
              split at h
              · have hf := find_dmap hts hd kk l 0
                have hop := op_lookup ho h1 hH h2 ht hkt hkd.1 hf hz1
                refine evr_val h hop ?_ (lookT_wf (by simp only [TA.wf, wfL]))
                rw [lookT_av]
                simp only [TA.av, avL, mhas]
                show Imp (lookV ok (.agg []) _ ((l.findIdx? (keyP i q' kk)).map (0 + ·))) _
                rcases find_idx (p := keyP i q' kk) (l := l) with ⟨k1, k2⟩ | ⟨j, y, k1, k2, k3, k4⟩
                · rw [k1]; exact (@Imp.refl _)
                · rw [k1]
                  obtain ⟨a, rest, m1, m2⟩ := pair_key hts y
                  have m3 : rest = [] := by simpa using m2
                  have m4 : ((l.map fun x => pairA (get i x)).getD (0 + j) (.top, .top)).2 = .agg [] := by
                    simp [List.getD, k2, m1, m3, pairA]
                  simp only [Option.map_some, Option.isSome_some, lookV, m4]
                  exact (@Imp.refl _)
              · cases h
            · cases h
          · rename_i q' v hts
            split at h
            · rename_i e _
              subst e
              split at h
              · rename_i v' z' hlf
                split at h
                · rename_i e _
                  subst e
                  have hf := find_dmap hts hd kk l 0
                  have hop := op_lookup ho h1 hH h2 ht hkt hkd.1 hf hz1
                  refine evr_val h hop ?_ (lookT_wf (by simp only [TA.wf]))
                  rw [lookT_av]
                  simp only [TA.av, mhas, mget]
                  show Imp (lookV ok (zt.av s.H) _ ((l.findIdx? (keyP i q' kk)).map (0 + ·))) _
                  rcases find_idx (p := keyP i q' kk) (l := l) with ⟨k1, k2⟩ | ⟨j, y, k1, k2, k3, k4⟩
                  · rw [k1, k2]
                    exact lookR_imp ((leafD_some hlf).2.2 s.H)
                  · rw [k1, k3]
                    obtain ⟨a, rest, m1, m2⟩ := pair_key hts y
                    match rest, m2 with
                    | [⟨t', b⟩], m2 =>
                      simp only [List.map_cons, List.map_nil, List.cons.injEq, and_true] at m2
                      subst m2
                      have m4 : ((l.map fun x => pairA (get i x)).getD (0 + j) (.top, .top)).2 = dav ⟨t', b⟩ := by
                        simp [List.getD, k2, m1, pairA]
                      have m5 : valP i t' y = b := by
                        unfold valP
                        rw [m1]
                        simp
                      simp only [Option.map_some, Option.isSome_some, lookV, m4, m5]
                      exact (@Imp.refl _)
                · cases h
              · cases h
            · cases h
          · cases h
        · rename_i q' l hl
          split at h
          · rename_i e _
            subst e
            have hH : s.st.H id = some (.map (l.map fun x => (dav ⟨q', x.1⟩, AV.fn (.func x.2) [] []))) := st_at hl
            rcases lookF_ok hd (n := 0) h with ⟨k1, k2⟩ | ⟨j, _, k1, p, k2, k3⟩
            · have hop := op_lookup ho h1 hH h2 ht hkt hkd.1 k1 hz1
              exact evr_val k2 hop (by rw [lookT_av]; exact (@Imp.refl _)) (lookT_wf hz2)
            · have hop := op_lookup ho h1 hH h2 ht hkt hkd.1 k1 hz1
              refine evr_val k3 hop ?_ (lookT_wf (by simp only [TA.wf, wfL]; exact ⟨trivial, trivial⟩))
              rw [lookT_av]
              rw [Nat.sub_zero] at k2
              have m4 : ((l.map fun x => (dav ⟨q', x.1⟩, AV.fn (.func x.2) [] [])).getD j (.top, .top)).2 = .fn (.func p.2) [] [] := by
                simp [List.getD, k2]
              simp only [lookV, m4, TA.av, avL]
              exact (@Imp.refl _)
          · cases h
        · cases h
      · cases h
    · cases h
  · cases h

def updF {t : Ty} (k : t.dn) (f : FuncId) (κ : List (t.dn × FuncId) → Option R) : List (t.dn × FuncId) → Option R
  | [] => κ [(k, f)]
  | p :: r => cond (keq t k p.1) (κ ((k, f) :: r)) (updF k f (fun l => κ (p :: l)) r)
theorem updF_ok {d : TypeDesc} {q : Ty} {k : q.dn} {f : FuncId} (hd : keyT d q = true) {z : R} : ∀ {l : List (q.dn × FuncId)} {n : Nat} {κ : List (q.dn × FuncId) → Option R}, updF k f κ l = some z →
    ∃ r l', findAV (dav ⟨q, k⟩) (l.map fun x => (dav ⟨q, x.1⟩, AV.fn (.func x.2) [] [])) n = some (r.map (n + ·)) ∧ κ l' = some z ∧
      (l'.map fun x => (dav ⟨q, x.1⟩, AV.fn (.func x.2) [] [])) = putA (l.map fun x => (dav ⟨q, x.1⟩, AV.fn (.func x.2) [] [])) (dav ⟨q, k⟩) (.fn (.func f) [] []) r
  | [], n, κ, h => ⟨none, _, rfl, h, rfl⟩
  | p :: r, n, κ, h => by
    simp only [updF] at h
    simp only [List.map_cons, findAV, (keyT_ok hd k).2.2]
    cases e : keq q k p.1 with
    | true =>
      rw [e] at h
      exact ⟨some 0, _, rfl, h, by simp [putA]⟩
    | false =>
      rw [e] at h
      obtain ⟨r', l', h1, h2, h3⟩ := updF_ok hd (n := n + 1) h
      refine ⟨r'.map (· + 1), p :: l', ?_, h2, ?_⟩
      · simp only [h1, Option.map_map]
        congr 2
        funext j
        simp only [Function.comp]
        omega
      · simp only [List.map_cons, h3]
        cases r' <;> simp [putA]

def evMapUpd (E : Env) (s : TSt) (t : TypeId) (m k x : TA) (κ : TRes → Option R) : Option R := match m, k, E.P.underlying t with
  | .mp id, .d ⟨q, kk⟩, some (.map kt _) => match E.P.underlying kt with
    | some d => match keyT d q with
      | true => match lookH s.H id with
        | some (.dmap i l) => match lts i with
          | [q'] => match decEq q' q, x with
            | .isTrue _, .agg [] => match bld (.st i) [⟨q, kk⟩] with
              | some y => κ ⟨.lit undef, [(id, some (.dmap i (mput (keyP i q kk) l y)))], 0⟩
              | none => none
            | _, _ => none
          | [q', v] => match decEq q' q, leafD v x with
            | .isTrue _, some y0 => match bld (.st i) [⟨q, kk⟩, y0] with
              | some y => κ ⟨.lit undef, [(id, some (.dmap i (mput (keyP i q kk) l y)))], 0⟩
              | none => none
            | _, _ => none
          | _ => none
        | some (.fmap q' l) => match decEq q' q, x with
          | .isTrue e, .fn (.func f) [] [] => updF kk f (fun l' => κ ⟨.lit undef, [(id, some (.fmap q l'))], 0⟩) (e ▸ l : List (q.dn × FuncId))
          | _, _ => none
        | _ => none
      | false => none
    | none => none
  | _, _, _ => none

theorem sub_map {H : List (Nat × TBlk)} {N id0 : Nat} {b b0 : TBlk} (hb : lookH H id0 = some b0) (h1 : shp (some b) = none) (h0 : shp (some b0) = none) : Sub H (updH H [(id0, some b)]) N := sub_put (L := []) fun _ => by rw [hb, h1, h0]
theorem mput_map {i : Nat} {q : Ty} {kk : q.dn} {l : List (C i)} {y : C i} {ka va : AV} (hy : pairA (get i y) = (ka, va)) :
    (mput (keyP i q kk) l y).map (fun x => pairA (get i x)) = putA (l.map fun x => pairA (get i x)) ka va (l.findIdx? (keyP i q kk)) := by
  unfold mput
  cases l.findIdx? (keyP i q kk) with
  | none => simp [putA, hy]
  | some j => simp [putA, List.map_set, hy]

theorem evMapUpd_ok {E : Env} {o : Oper} {s : TSt} {κ : TRes → Option R} {z : R} {t : TypeId} {m k x : Operand} (ho : o.op = .mapUpdate t m k x ∨ o.op = .insert t m k x) (hs : s.ok) (h : evMapUpd E s t (s.val m) (s.val k) (s.val x) κ = some z) : EvR E.P o s κ z := by
  unfold evMapUpd at h
  split at h
  · rename_i id q kk kt et hm hk ht
    split at h
    · rename_i d hkt
      split at h
      · rename_i hd
        have h1 : Opd s.st m (.mp id) := opd_at hm
        have h2 : Opd s.st k (dav ⟨q, kk⟩) := opd_at hk
        have hkd := keyT_ok hd kk
        split at h
        · rename_i i l hl
          have hH : s.st.H id = some (.map (l.map fun x => pairA (get i x))) := st_at hl
          split at h
          · rename_i q' hts
            split at h
            · rename_i e _ hx
              subst e
              split at h
              · rename_i y hy
                have h3 := @opd_at s x _ hx
                simp only [TA.av, avL] at h3
                have hf := find_dmap hts hd kk l 0
                have hop := op_mapUpdate (r := (l.findIdx? (keyP i q' kk))) ho h1 hH h2 h3 (fun {w F μ K v} hv => by obtain ⟨vs, rfl, hvs⟩ := hv.agg_inv; rw [hvs.nil_inv]; exact .mkAgg .nil) hkd.2.1 ht hkt hkd.1
                  (by rw [hf]; cases l.findIdx? (keyP i q' kk) <;> simp)
                have hp : pairA (get i y) = (dav ⟨q', kk⟩, .agg []) := by
                  have : get i y = [⟨q', kk⟩] := bld_some hy
                  rw [this]; rfl
                refine evr_put (k := 0) hs h hop (sub_map hl rfl rfl) (by simp only [TA.av]; exact (@Imp.refl _)) (by simp only [TA.wf]) ?_ (fun l' e => by cases e)
                simp only [TBlk.blk, mput_map hp]
                exact BImp.refl _
              · cases h
            · cases h
          · rename_i q' v hts
            split at h
            · rename_i e y0 _ hlf
              subst e
              split at h
              · rename_i y hy
                obtain ⟨l1, l2, l3⟩ := leafD_some hlf
                have hf := find_dmap hts hd kk l 0
                have h3 : Opd s.st x (dav y0) := fun {w F O μ K ft act} hsr => l3 s.H (opd_val s x hsr)
                have hop := op_mapUpdate (r := (l.findIdx? (keyP i q' kk))) ho h1 hH h2 h3 (dav_clo l2) hkd.2.1 ht hkt hkd.1
                  (by rw [hf]; cases l.findIdx? (keyP i q' kk) <;> simp)
                have hp : pairA (get i y) = (dav ⟨q', kk⟩, dav y0) := by
                  have : get i y = [⟨q', kk⟩, y0] := bld_some hy
                  rw [this]; rfl
                refine evr_put (k := 0) hs h hop (sub_map hl rfl rfl) (by simp only [TA.av]; exact (@Imp.refl _)) (by simp only [TA.wf]) ?_ (fun l' e => by cases e)
                simp only [TBlk.blk, mput_map hp]
                exact BImp.refl _
              · cases h
            · cases h
          · cases h
        · rename_i q' l hl
          split at h
          · rename_i e f _ hx
            subst e
            have hH : s.st.H id = some (.map (l.map fun x => (dav ⟨q', x.1⟩, AV.fn (.func x.2) [] []))) := st_at hl
            have h3 := @opd_at s x _ hx
            simp only [TA.av, avL] at h3
            obtain ⟨r, l', k1, k2, k3⟩ := updF_ok hd (n := 0) h
            have hop := op_mapUpdate (r := r) ho h1 hH h2 h3 (fun {w F μ K v} hv => by
              obtain ⟨vs, us, rfl, a1, a2⟩ := hv.fn_inv
              rw [a1.nil_inv, a2.nil_inv]; exact .mkFn .nil .nil) hkd.2.1 ht hkt hkd.1 (by rw [k1]; cases r <;> simp)
            refine evr_put (k := 0) hs k2 hop (sub_map hl rfl rfl) (by simp only [TA.av]; exact (@Imp.refl _)) (by simp only [TA.wf]) ?_ (fun l' e => by cases e)
            simp only [TBlk.blk, k3]
            exact BImp.refl _
          · cases h
        · cases h
      · cases h
    · cases h
  · cases h

end Go.Proofs.YtnhkbghbllbknaaDoor.Abs
