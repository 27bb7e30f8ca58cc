/- Fields: what fits a field; both texts agree. No condition. -/
import Derived.Test.YtnfalnfifkejhaaPvB
namespace Go.Proofs.Ytnfalnfifkejhaa.Pu
open Go Go.RowKit Go.Proofs.Ytnfalnfifkejhaa.Abs Go.Proofs.Ytnfalnfifkejhaa.Fn

theorem wrap_u8 {n : Int} (h0 : 0 ≤ n) (h1 : n ≤ 255) : IntKind.u8.wrap n = n := by
  simp only [IntKind.wrap, IntKind.bits, IntKind.signed, Bool.false_and]
  split
  · rename_i h; simp at h
  · omega

/-! ### Numbers -/

/-- A number out of its digits. -/
def val : List UInt8 → Int → Option Int
  | [], a => some a
  | c :: r, a => if 48 ≤ bt c ∧ bt c ≤ 57 then val r (a * 10 + (bt c - 48)) else none
theorem val_nonneg : ∀ {s : List UInt8} {a v : Int}, 0 ≤ a → val s a = some v → 0 ≤ v
  | [], a, v, h, e => by simp only [val] at e; cases e; exact h
  | c :: r, a, v, h, e => by
    simp only [val] at e
    split at e
    · exact val_nonneg (by omega) e
    · cases e
/-- A decimal number of 1 to 7 digits. -/
def num (s : List UInt8) : Option Int := if 1 ≤ s.length ∧ s.length ≤ 7 ∧ (1 < s.length → bt (s.getD 0 0) ≠ 48) then val s 0 else none

theorem l1Number_l {s : List UInt8} : ∀ (m i : Nat) (a : Int), i + m = s.length → s.length ≤ 7 → 0 ≤ a → a < 10 ^ i →
    Lp (fun k (J : Int → Option Int) => iter (ts := [.str, .int .i64, .int .i64]) (R := Int) k (spec_l1Number_L5 J) s a (i : Int)) (fun J => match val (s.drop i) a with | some v => J v | none => some (-1))
  | 0, i, a, h, h7, h0, ha => by
    refine Lp.succ ?_
    simp only [iter, spec_l1Number_L5]
    refine Lp.cn (ilt_f (by omega)) ?_
    rw [drop_end (by omega)]
    exact Lp.here
  | m + 1, i, a, h, h7, h0, ha => by
    have hi : i < s.length := by omega
    refine Lp.succ ?_
    simp only [iter, spec_l1Number_L5, share]
    refine Lp.cp (ilt_t (by omega)) (Lp.rq (inb_t (by omega) (by omega)) ?_)
    rw [sidx_get hi, List.drop_eq_getElem_cons hi]
    have hr := bt_range s[i]
    simp only [val]
    by_cases c1 : bt s[i] < 48
    · refine Lp.cp (ilt_t c1) ?_
      rw [if_neg (by omega)]
      exact Lp.here
    · refine Lp.cn (ilt_f c1) (Lp.rq (inb_t (by omega) (by omega)) ?_)
      by_cases c2 : 57 < bt s[i]
      · rw [ilt_t c2, if_neg (by omega)]
        exact Lp.here
      · rw [ilt_f c2, if_pos (by omega)]
        refine Lp.cn rfl (Lp.rq (inb_t (by omega) (by omega)) ?_)
        have hpow : (10 : Int) ^ i ≤ 10 ^ 7 := by
          have h1 : i ≤ 7 := by omega
          have : (10 : Nat) ^ i ≤ 10 ^ 7 := Nat.pow_le_pow_right (by omega) h1
          exact_mod_cast this
        have e1 : imul .i64 a 10 = a * 10 := wrap_id (by omega) (by omega)
        have e2 : iconv .i64 (bt s[i]) = bt s[i] := wrap_id (by omega) (by omega)
        rw [e1, e2, iaddn (by omega) (by omega), isubn (by omega) (by omega), iaddi (n := s.length) (by have := max_eq; omega) hi]
        have e3 : a * 10 + bt s[i] - 48 = a * 10 + (bt s[i] - 48) := by omega
        rw [e3]
        exact l1Number_l m (i + 1) _ (by omega) h7 (by omega) (by rw [Int.pow_succ]; omega)

theorem l1Number_y (s : List UInt8) (hs : s.length ≤ maxLen) : Yd (fun k => spec_l1Number k s) ((num s).getD (-1)) := by
  unfold spec_l1Number
  simp only [share, spec_l1In, Option.bind_some]
  by_cases h1 : 1 ≤ s.length
  · by_cases h7 : s.length ≤ 7
    · have loop : Yd (fun k => iter (ts := [.str, .int .i64, .int .i64]) (R := Int) k (spec_l1Number_L5 fun v => some v) s (0 : Int) (0 : Int)) ((val s 0).getD (-1)) := by
        have := Yd.loop (X := fun _ => fun v : Int => some v) (l1Number_l (s := s) s.length 0 0 (by omega) h7 (by omega) (by decide)) (a := (val s 0).getD (-1)) (by
          rw [List.drop_zero]
          cases val s 0 <;> exact Yd.pure)
        exact_mod_cast this
      rw [ile_t (by omega), ile_t (by omega)]
      simp only [cond_true, Option.bind_some, Bool.not_true, cond_false]
      by_cases h2 : 1 < s.length
      · refine Yd.cp (ilt_t (by omega)) (Yd.rq (inb_t (by omega) (by omega)) ?_)
        have e0 : sidx s 0 = bt (s.getD 0 0) := rfl
        rw [e0]
        by_cases h3 : bt (s.getD 0 0) = 48
        · rw [h3]
          refine Yd.cp rfl (Yd.to Yd.pure ?_)
          rw [num, if_neg (fun h => h.2.2 h2 h3)]; rfl
        · refine Yd.cn (by simpa [ieq] using h3) (Yd.to loop ?_)
          rw [num, if_pos ⟨h1, h7, fun _ => h3⟩]
      · refine Yd.cn (ilt_f (by omega)) (Yd.cn rfl (Yd.to loop ?_))
        rw [num, if_pos ⟨h1, h7, fun h => absurd h h2⟩]
    · rw [ile_t (by omega), ile_f (by omega)]
      refine Yd.of fun _ => ?_
      simp only [cond_true, Option.bind_some, Bool.not_false]
      rw [num, if_neg (by omega)]; rfl
  · rw [ile_f (by omega)]
    refine Yd.of fun _ => ?_
    simp only [cond_false, Option.bind_some, Bool.not_false, cond_true]
    rw [num, if_neg (by omega)]; rfl

theorem decimal_l {s : List UInt8} : ∀ (m i : Nat) (a : Int), i + m = s.length → s.length ≤ 7 → 0 ≤ a → a < 10 ^ i →
    Lp (fun k (J : Int → Option (Int × Bool)) => iter (ts := [.str, .int .i64, .int .i64, .int .i64]) (R := Int × Bool) k (impl_decimal_L5 J) s a (s.length : Int) (i : Int)) (fun J => match val (s.drop i) a with | some v => J v | none => some (0, false))
  | 0, i, a, h, h7, h0, ha => by
    refine Lp.succ ?_
    simp only [iter, impl_decimal_L5]
    refine Lp.cn (ilt_f (by omega)) ?_
    rw [drop_end (by omega)]
    exact Lp.here
  | m + 1, i, a, h, h7, h0, ha => by
    have hi : i < s.length := by omega
    refine Lp.succ ?_
    simp only [iter, impl_decimal_L5, share]
    refine Lp.cp (ilt_t (by omega)) (Lp.rq (inb_t (by omega) (by omega)) ?_)
    rw [sidx_get hi, List.drop_eq_getElem_cons hi]
    have hr := bt_range s[i]
    simp only [val]
    by_cases c1 : bt s[i] < 48
    · refine Lp.cp (ilt_t c1) ?_
      rw [if_neg (by omega)]
      exact Lp.here
    · refine Lp.cn (ilt_f c1) (Lp.rq (inb_t (by omega) (by omega)) ?_)
      by_cases c2 : 57 < bt s[i]
      · rw [ilt_t c2, if_neg (by omega)]
        exact Lp.here
      · rw [ilt_f c2, if_pos (by omega)]
        refine Lp.cn rfl (Lp.rq (inb_t (by omega) (by omega)) ?_)
        have hpow : (10 : Int) ^ i ≤ 10 ^ 7 := by
          have h1 : i ≤ 7 := by omega
          have : (10 : Nat) ^ i ≤ 10 ^ 7 := Nat.pow_le_pow_right (by omega) h1
          exact_mod_cast this
        have e1 : imul .i64 a 10 = a * 10 := wrap_id (by omega) (by omega)
        have e0 : isub .u8 (bt s[i]) 48 = bt s[i] - 48 := wrap_u8 (by omega) (by omega)
        have e2 : iconv .i64 (bt s[i] - 48) = bt s[i] - 48 := wrap_id (by omega) (by omega)
        rw [e0, e1, e2, iaddn (by omega) (by omega), iaddi (n := s.length) (by have := max_eq; omega) hi]
        exact decimal_l m (i + 1) _ (by omega) h7 (by omega) (by rw [Int.pow_succ]; omega)

theorem decimal_y (s : List UInt8) (hs : s.length ≤ maxLen) : Yd (fun k => impl_decimal k s) (match num s with | some v => (v, true) | none => (0, false)) := by
  unfold impl_decimal
  simp only [share]
  have loop : s.length ≤ 7 → Yd (fun k => iter (ts := [.str, .int .i64, .int .i64, .int .i64]) (R := Int × Bool) k (impl_decimal_L5 fun v => some (v, true)) s (0 : Int) (s.length : Int) (0 : Int)) (match val s 0 with | some v => (v, true) | none => (0, false)) := fun h7 => by
    have := Yd.loop (X := fun _ => fun v : Int => some (v, true)) (decimal_l (s := s) s.length 0 0 (by omega) h7 (by omega) (by decide)) (a := match val s 0 with | some v => (v, true) | none => (0, false)) (by
      rw [List.drop_zero]
      cases val s 0 <;> exact Yd.pure)
    exact_mod_cast this
  by_cases h1 : s.length < 1
  · refine Yd.cp (ilt_t (by omega)) (Yd.cp rfl (Yd.to Yd.pure ?_))
    rw [num, if_neg (by omega)]
  · refine Yd.cn (ilt_f (by omega)) ?_
    by_cases h7 : 7 < s.length
    · refine Yd.cp (ilt_t (by omega)) (Yd.cp rfl (Yd.to Yd.pure ?_))
      rw [num, if_neg (by omega)]
    · refine Yd.cn (ilt_f (by omega)) (Yd.rq (inb_t (by omega) (by omega)) ?_)
      have e0 : sidx s 0 = bt (s.getD 0 0) := rfl
      rw [e0]
      by_cases h3 : bt (s.getD 0 0) = 48
      · refine Yd.cp (by simpa [ieq] using h3) ?_
        by_cases h2 : 1 < s.length
        · refine Yd.cp (ilt_t (by omega)) (Yd.to Yd.pure ?_)
          rw [num, if_neg (fun h => h.2.2 h2 h3)]
        · refine Yd.cn (ilt_f (by omega)) (Yd.to (loop (by omega)) ?_)
          rw [num, if_pos ⟨by omega, by omega, fun h => absurd h h2⟩]
      · refine Yd.cn (by simpa [ieq] using h3) (Yd.cn rfl (Yd.to (loop (by omega)) ?_))
        rw [num, if_pos ⟨by omega, by omega, fun _ => h3⟩]

/-! ### Words, texts, links -/

theorem l1Has_y (xs : List (List UInt8)) (s : List UInt8) (hx : xs.length ≤ maxLen) : Yd (fun k => spec_l1Has k xs s) (xs.any fun y => seq y s) := by
  unfold spec_l1Has
  simp only [share]
  have h := scanAny (x := xs) (p := fun y => seq y s) (J := Option Bool) (R := Bool) (l := fun k J i => iter (ts := [.sl .str, .str, .int .i64]) (R := Bool) k (spec_l1Has_L2 J) xs s i) (E := fun J => J) (O := fun _ => some true)
    (Lp.succ (by simp only [iter, spec_l1Has_L2]; exact Lp.cn (ilt_f (by omega)) Lp.here))
    (fun i hi hp H hH => Lp.succ (by
      simp only [iter, spec_l1Has_L2]
      rw [nth_get hi, hp, iaddi hx hi]
      exact Lp.cp (ilt_t (by omega)) (Lp.rq (inb_t (by omega) (by omega)) (Lp.cn rfl hH))))
    (fun i hi hp => Lp.succ (by
      simp only [iter, spec_l1Has_L2]
      rw [nth_get hi, hp]
      exact Lp.cp (ilt_t (by omega)) (Lp.rq (inb_t (by omega) (by omega)) (Lp.cp rfl Lp.here))))
  refine Yd.loop (X := fun _ => some false) h ?_
  cases xs.any fun y => seq y s <;> exact Yd.pure
theorem wordField_y (f : GateField) (s : List UInt8) (hx : f.Words.length ≤ maxLen) : Yd (fun k => impl_wordField_fits k ⟨f⟩ s) (f.Words.any fun y => seq y s) := by
  unfold impl_wordField_fits
  simp only [share]
  have h := scanAny (x := f.Words) (p := fun y => seq y s) (J := Option Bool) (R := Bool) (l := fun k J i => iter (ts := [.str, .sl .str, .int .i64, .int .i64]) (R := Bool) k (impl_wordField_fits_L2 J) s f.Words (f.Words.length : Int) i) (E := fun J => J) (O := fun _ => some true)
    (Lp.succ (by simp only [iter, impl_wordField_fits_L2]; exact Lp.cn (ilt_f (by omega)) Lp.here))
    (fun i hi hp H hH => Lp.succ (by
      simp only [iter, impl_wordField_fits_L2]
      rw [nth_get hi, hp, iaddi hx hi]
      exact Lp.cp (ilt_t (by omega)) (Lp.rq (inb_t (by omega) (by omega)) (Lp.cn rfl hH))))
    (fun i hi hp => Lp.succ (by
      simp only [iter, impl_wordField_fits_L2]
      rw [nth_get hi, hp]
      exact Lp.cp (ilt_t (by omega)) (Lp.rq (inb_t (by omega) (by omega)) (Lp.cp rfl Lp.here))))
  refine Yd.loop (X := fun _ => some false) h ?_
  cases f.Words.any fun y => seq y s <;> exact Yd.pure

/-- A byte that is seen. -/
def seen (c : UInt8) : Bool := ile 33 (bt c) && ile (bt c) 126
/-- A name's byte. -/
def nb (c : UInt8) : Bool := (ile 97 (bt c) && ile (bt c) 122) || ((ile 48 (bt c) && ile (bt c) 57) || ieq (bt c) 45)
theorem l1Byte_e (k : Nat) (n : Int) : spec_l1Byte k n = some ((ile 97 n && ile n 122) || ((ile 48 n && ile n 57) || ieq n 45)) := by
  unfold spec_l1Byte
  cases ile 97 n <;> cases ile n 122 <;> cases ile 48 n <;> cases ile n 57 <;> cases ieq n 45 <;> rfl
theorem nameByte_e (k : Nat) (n : Int) : impl_nameByte k n = some ((ile 97 n && ile n 122) || ((ile 48 n && ile n 57) || ieq n 45)) := by
  unfold impl_nameByte
  cases ile 97 n <;> cases ile n 122 <;> cases ile 48 n <;> cases ile n 57 <;> cases ieq n 45 <;> rfl

/-- A name. -/
def nameOk (s : List UInt8) : Bool := ile 1 (s.length : Int) && (ile (s.length : Int) 16 && s.all nb)
theorem l1NameOk_y (s : List UInt8) (hs : s.length ≤ maxLen) : Yd (fun k => spec_l1NameOk k s) (nameOk s) := by
  unfold spec_l1NameOk
  simp only [share, spec_l1In]
  have h := scanAll (x := s) (p := nb) (J := Option Bool) (R := Bool) (l := fun k J i => iter (ts := [.str, .int .i64]) (R := Bool) k (spec_l1NameOk_L4 J) s i) (E := fun J => J) (O := fun _ => some false)
    (Lp.succ (by simp only [iter, spec_l1NameOk_L4]; exact Lp.cn (ilt_f (by omega)) Lp.here))
    (fun i hi hp H hH => Lp.succ (by
      simp only [iter, spec_l1NameOk_L4, l1Byte_e, Option.bind_some]
      rw [sidx_get hi, iaddi hs hi]
      exact Lp.cp (ilt_t (by omega)) (Lp.rq (inb_t (by omega) (by omega)) (Lp.cn (by show (!nb s[i]) = false; rw [hp]; rfl) hH))))
    (fun i hi hp => Lp.succ (by
      simp only [iter, spec_l1NameOk_L4, l1Byte_e, Option.bind_some]
      rw [sidx_get hi]
      exact Lp.cp (ilt_t (by omega)) (Lp.rq (inb_t (by omega) (by omega)) (Lp.cp (by show (!nb s[i]) = true; rw [hp]; rfl) Lp.here))))
  have loop := Yd.loop (X := fun _ => some true) h (a := s.all nb) (by cases s.all nb <;> exact Yd.pure)
  unfold nameOk
  cases ile 1 (s.length : Int) with
  | false => exact Yd.pure
  | true =>
    cases ile (s.length : Int) 16 with
    | false => exact Yd.pure
    | true => exact loop
theorem nameBytes_y (s : List UInt8) (hs : s.length ≤ maxLen) : Yd (fun k => impl_nameBytes k s) (s.all nb) := by
  unfold impl_nameBytes
  simp only [share]
  have h := scanAll (x := s) (p := nb) (J := Option Bool) (R := Bool) (l := fun k J i => iter (ts := [.str, .int .i64, .int .i64]) (R := Bool) k (impl_nameBytes_L2 J) s (s.length : Int) i) (E := fun J => J) (O := fun _ => some false)
    (Lp.succ (by simp only [iter, impl_nameBytes_L2]; exact Lp.cn (ilt_f (by omega)) Lp.here))
    (fun i hi hp H hH => Lp.succ (by
      simp only [iter, impl_nameBytes_L2, nameByte_e, Option.bind_some]
      rw [sidx_get hi, iaddi hs hi]
      exact Lp.cp (ilt_t (by omega)) (Lp.rq (inb_t (by omega) (by omega)) (Lp.cn (by show (!nb s[i]) = false; rw [hp]; rfl) hH))))
    (fun i hi hp => Lp.succ (by
      simp only [iter, impl_nameBytes_L2, nameByte_e, Option.bind_some]
      rw [sidx_get hi]
      exact Lp.cp (ilt_t (by omega)) (Lp.rq (inb_t (by omega) (by omega)) (Lp.cp (by show (!nb s[i]) = true; rw [hp]; rfl) Lp.here))))
  exact Yd.loop (X := fun _ => some true) h (by cases s.all nb <;> exact Yd.pure)
theorem isName_y (s : List UInt8) (hs : s.length ≤ maxLen) : Yd (fun k => impl_isName k s) (nameOk s) := by
  unfold impl_isName nameOk
  cases ile 1 (s.length : Int) with
  | false => exact Yd.pure
  | true =>
    cases ile (s.length : Int) 16 with
    | false => exact Yd.pure
    | true => exact Yd.bind (nameBytes_y s hs) Yd.pure

/-- A text of a length. -/
def textOk (f : GateField) (s : List UInt8) : Bool := (ile f.Least (s.length : Int) && ile (s.length : Int) f.Most) && s.all seen
theorem textField_y (f : GateField) (s : List UInt8) (hs : s.length ≤ maxLen) : Yd (fun k => impl_textField_fits k ⟨f⟩ s) (textOk f s) := by
  unfold impl_textField_fits
  simp only [share]
  have h := scanAll (x := s) (p := seen) (J := Option Bool) (R := Bool) (l := fun k J i => iter (ts := [.str, .int .i64, .int .i64]) (R := Bool) k (impl_textField_fits_L4 J) s (s.length : Int) i) (E := fun J => J) (O := fun _ => some false)
    (Lp.succ (by simp only [iter, impl_textField_fits_L4]; exact Lp.cn (ilt_f (by omega)) Lp.here))
    (fun i hi hp H hH => Lp.succ (by
      simp only [iter, impl_textField_fits_L4, share]
      rw [sidx_get hi, iaddi hs hi]
      simp only [seen, Bool.and_eq_true, ile, decide_eq_true_eq] at hp
      exact Lp.cp (ilt_t (by omega)) (Lp.rq (inb_t (by omega) (by omega)) (Lp.cn (ilt_f (by omega)) (Lp.rq (inb_t (by omega) (by omega)) (Lp.cn (ilt_f (by omega)) hH)))))  )
    (fun i hi hp => Lp.succ (by
      simp only [iter, impl_textField_fits_L4, share]
      rw [sidx_get hi]
      refine Lp.cp (ilt_t (by omega)) (Lp.rq (inb_t (by omega) (by omega)) ?_)
      by_cases c1 : bt s[i] < 33
      · exact Lp.cp (ilt_t c1) (Lp.cp rfl Lp.here)
      · refine Lp.cn (ilt_f c1) (Lp.rq (inb_t (by omega) (by omega)) (Lp.cp ?_ Lp.here))
        simp only [seen, ile] at hp
        refine ilt_t ?_
        by_cases c2 : 126 < bt s[i]
        · exact c2
        · rw [decide_eq_true (by omega : (33 : Int) ≤ bt s[i]), decide_eq_true (by omega : bt s[i] ≤ 126)] at hp
          cases hp))
  have loop := Yd.loop (X := fun _ => some true) h (a := s.all seen) (by cases s.all seen <;> exact Yd.pure)
  unfold textOk
  by_cases c1 : (s.length : Int) < f.Least
  · refine Yd.cp (ilt_t c1) (Yd.cp rfl (Yd.to Yd.pure ?_))
    rw [ile_f (by omega)]; rfl
  · refine Yd.cn (ilt_f c1) ?_
    by_cases c2 : f.Most < (s.length : Int)
    · refine Yd.cp (ilt_t c2) (Yd.to Yd.pure ?_)
      rw [ile_f (by omega : ¬ (s.length : Int) ≤ f.Most), Bool.and_false]; rfl
    · refine Yd.cn (ilt_f c2) (Yd.to loop ?_)
      rw [ile_t (by omega), ile_t (by omega)]; rfl

/-! ### What fits -/

def fits (f : GateField) (s : List UInt8) : Bool :=
  cond (ieq f.Kind 1) (match num s with | some v => ile f.Least v && ile v f.Most | none => false)
  (cond (ieq f.Kind 2) (!seq s [] && f.Words.any fun y => seq y s)
  (cond (ieq f.Kind 3) (!seq s [] && textOk f s)
  (cond (ieq f.Kind 4) (nameOk s) false)))

theorem num_pos {s : List UInt8} {v : Int} (h : num s = some v) : 0 ≤ v := by
  unfold num at h
  split at h
  · exact val_nonneg (Int.le_refl _) h
  · cases h

theorem specFits_y (f : GateField) (s : List UInt8) (hf : f.Words.length ≤ maxLen) (hs : s.length ≤ maxLen) : Yd (fun k => spec_GateFits k f s) (fits f s) := by
  unfold spec_GateFits fits
  simp only [share, spec_l1In]
  cases h1 : ieq f.Kind 1 with
  | true =>
    simp only [cond_true]
    refine Yd.bind (l1Number_y s hs) ?_
    cases hn : num s with
    | none => exact Yd.cn (ile_f (by simp)) Yd.pure
    | some v =>
      refine Yd.cp (ile_t (num_pos hn)) ?_
      simp only [Option.getD_some]
      cases ile f.Least v <;> exact Yd.pure
  | false =>
    simp only [cond_false]
    cases h2 : ieq f.Kind 2 with
    | true =>
      simp only [cond_true]
      cases seq s [] with
      | true => exact Yd.pure
      | false => exact Yd.bind (l1Has_y f.Words s hf) Yd.pure
    | false =>
      simp only [cond_false]
      cases h3 : ieq f.Kind 3 with
      | true =>
        simp only [cond_true]
        have h := scanAll (x := s) (p := seen) (J := List UInt8 → List UInt8 → Int → Int → Int → List (List UInt8) → List UInt8 → Int → Bool → Bool → List UInt8 → List UInt8 → Option Bool) (R := Bool)
          (l := fun k J i => iter (ts := [.str, .int .i64, .str, .int .i64, .int .i64, .int .i64, .sl .str, .str, .int .i64, .bool, .bool, .str, .str]) (R := Bool) k (spec_GateFits_L9 J) s i f.Name f.Kind f.Least f.Most f.Words f.To f.Role f.Must f.Fixed f.Default f.Weighs)
          (E := fun J => J s f.Name f.Kind f.Least f.Most f.Words f.To f.Role f.Must f.Fixed f.Default f.Weighs) (O := fun _ => some false)
          (Lp.succ (by simp only [iter, spec_GateFits_L9]; exact Lp.cn (ilt_f (by omega)) Lp.here))
          (fun i hi hp H hH => Lp.succ (by
            simp only [iter, spec_GateFits_L9, spec_l1In]
            have e2 : iconv .i64 (bt s[i]) = bt s[i] := by have := bt_range s[i]; exact wrap_id (by omega) (by omega)
            rw [sidx_get hi, iaddi hs hi, e2]
            simp only [seen, Bool.and_eq_true] at hp
            rw [hp.1, hp.2]
            simp only [cond_true, Option.bind_some]
            exact Lp.cp (ilt_t (by omega)) (Lp.rq (inb_t (by omega) (by omega)) (Lp.cn rfl hH))))
          (fun i hi hp => Lp.succ (by
            simp only [iter, spec_GateFits_L9, spec_l1In]
            have e2 : iconv .i64 (bt s[i]) = bt s[i] := by have := bt_range s[i]; exact wrap_id (by omega) (by omega)
            rw [sidx_get hi, e2]
            refine Lp.cp (ilt_t (by omega)) (Lp.rq (inb_t (by omega) (by omega)) ?_)
            simp only [seen] at hp
            cases q1 : ile 33 (bt s[i]) with
            | false =>
              simp only [cond_false, Option.bind_some]
              exact Lp.cp rfl Lp.here
            | true =>
              rw [q1] at hp
              simp only [Bool.true_and] at hp
              rw [hp]
              simp only [cond_true, Option.bind_some]
              exact Lp.cp rfl Lp.here))
        refine Yd.cp rfl (h.yd _ ?_)
        unfold textOk
        cases hall : s.all seen with
        | false => simp
        | true =>
          simp only [cond_true, Bool.and_true]
          cases seq s [] with
          | true => rfl
          | false =>
            cases ile f.Least (s.length : Int) <;> rfl
      | false =>
        simp only [cond_false]
        cases h4 : ieq f.Kind 4 with
        | true => exact Yd.bind (l1NameOk_y s hs) Yd.pure
        | false => exact Yd.pure

theorem implFits_y (f : GateField) (s : List UInt8) (hf : f.Words.length ≤ maxLen) (hs : s.length ≤ maxLen) : Yd (fun k => impl_GateFits k f s) (fits f s) := by
  unfold impl_GateFits impl_sortOf impl_sortOf_1 impl_sortOf_2 impl_sortOf_3 impl_sortOf_4 fits
  cases h1 : ieq f.Kind 1 with
  | true =>
    simp only [cond_true, Option.bind_some, sumC]
    cases he : seq s [] with
    | true =>
      have e : s = [] := by simpa [seq] using he
      subst e
      exact Yd.pure
    | false =>
      refine Yd.bind (a := match num s with | some v => ile f.Least v && ile v f.Most | none => false) ?_ Yd.pure
      unfold impl_numberField_fits
      refine Yd.bind (decimal_y s hs) ?_
      cases num s with
      | none => exact Yd.pure
      | some v =>
        simp only [cond_true]
        cases ile f.Least v <;> exact Yd.pure
  | false =>
    simp only [cond_false]
    cases h2 : ieq f.Kind 2 with
    | true =>
      simp only [cond_true, Option.bind_some, sumC]
      cases seq s [] with
      | true => exact Yd.pure
      | false => exact Yd.bind (wordField_y f s hf) Yd.pure
    | false =>
      simp only [cond_false]
      cases h3 : ieq f.Kind 3 with
      | true =>
        simp only [cond_true, Option.bind_some, sumC]
        cases seq s [] with
        | true => exact Yd.pure
        | false => exact Yd.bind (textField_y f s hs) Yd.pure
      | false =>
        simp only [cond_false]
        cases h4 : ieq f.Kind 4 with
        | true =>
          simp only [cond_true, Option.bind_some, sumC]
          cases he : seq s [] with
          | true =>
            have e : s = [] := by simpa [seq] using he
            subst e
            exact Yd.pure
          | false =>
            unfold impl_linkField_fits
            exact Yd.bind (Yd.bind (isName_y s hs) Yd.pure) Yd.pure
        | false => exact Yd.pure

end Go.Proofs.Ytnfalnfifkejhaa.Pu
