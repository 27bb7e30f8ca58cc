/- Names, numbers, fields: what both texts compute of them. No condition. -/
import Derived.Test.YtdfdiinbiipacaaDoorPwA
namespace Go.Proofs.YtdfdiinbiipacaaDoor.Pu
open Go Go.RowKit Go.Proofs.YtdfdiinbiipacaaDoor.Abs Go.Proofs.YtdfdiinbiipacaaDoor.Fn

theorem wrap_u8 {n : Int} (h0 : 0 ≤ n) (h1 : n ≤ 255) : IntKind.u8.wrap n = n := by
  simp only [IntKind.wrap, IntKind.bits, IntKind.signed, Bool.false_and]
  split
  · rename_i h; simp at h
  · omega

/-! ### Names -/

theorem in_e (k : Nat) (a b c : Int) : spec_l1In k a b c = some (ile b a && ile a c) := by
  unfold spec_l1In
  cases ile b a <;> rfl
/-- A name's byte. -/
def nb (c : UInt8) : Bool := (ile 97 (bt c) && ile (bt c) 122) || ((ile 48 (bt c) && ile (bt c) 57) || ieq (bt c) 45)
theorem l1Byte_e (k : Nat) (c : UInt8) : spec_l1Byte k (bt c) = some (nb c) := by
  unfold spec_l1Byte nb
  cases ile 97 (bt c) <;> cases ile (bt c) 122 <;> cases ile 48 (bt c) <;> cases ile (bt c) 57 <;> cases ieq (bt c) 45 <;> rfl
theorem nameByte_e (k : Nat) (c : UInt8) : impl_nameByte k (bt c) = some (nb c) := by
  unfold impl_nameByte nb
  cases ile 97 (bt c) <;> cases ile (bt c) 122 <;> cases ile 48 (bt c) <;> cases ile (bt c) 57 <;> cases ieq (bt c) 45 <;> rfl
/-- A name. -/
def nameOk (s : List UInt8) : Bool := ile 1 (s.length : Int) && (ile (s.length : Int) 16 && s.all nb)
theorem l1NameOk_e {k : Nat} {s : List UInt8} (hk : 4194304 ≤ k) (hs : sdStr s) : spec_l1NameOk k s = some (nameOk s) := by
  unfold spec_l1NameOk nameOk
  have h := loop_all (x := s) (p := nb) (B := 0) (l := fun k i => iter (ts := spec_l1NameOk_L4_ts) (R := Bool) k (spec_l1NameOk_L4 (some true)) s i) (E := some true) (O := some false)
    (fun k => by simp only [iter, spec_l1NameOk_L4, ilt_e, cond_false] <;> rfl)
    (fun k i hi _ => by
      simp only [iter, spec_l1NameOk_L4, ilt_n hi, inb_n hi, cond_true, req_t, sidx_get hi, l1Byte_e, Option.bind_some, iadd_n hs hi]
      cases nb s[i] <;> rfl) k (by have : s.length ≤ 1048576 := hs; omega)
  simp only [share, in_e, Option.bind_some, h]
  cases ile 1 (s.length : Int) <;> cases ile (s.length : Int) 16 <;> cases s.all nb <;> rfl
theorem nameBytes_e {k : Nat} {s : List UInt8} (hk : 4194304 ≤ k) (hs : sdStr s) : impl_nameBytes k s = some (s.all nb) := by
  unfold impl_nameBytes
  have h := loop_all (x := s) (p := nb) (B := 0) (l := fun k i => iter (ts := impl_nameBytes_L2_ts) (R := Bool) k (impl_nameBytes_L2 (some true)) s (s.length : Int) i) (E := some true) (O := some false)
    (fun k => by simp only [iter, impl_nameBytes_L2, ilt_e, cond_false] <;> rfl)
    (fun k i hi _ => by
      simp only [iter, impl_nameBytes_L2, ilt_n hi, inb_n hi, cond_true, req_t, sidx_get hi, nameByte_e, Option.bind_some, iadd_n hs hi]
      cases nb s[i] <;> rfl) k (by have : s.length ≤ 1048576 := hs; omega)
  simp only [share]
  exact h.trans (by cases s.all nb <;> rfl)
theorem isName_e {k : Nat} {s : List UInt8} (hk : 4194304 ≤ k) (hs : sdStr s) : impl_isName k s = some (nameOk s) := by
  unfold impl_isName nameOk
  simp only [nameBytes_e hk hs, Option.bind_some]
  cases ile 1 (s.length : Int) <;> cases ile (s.length : Int) 16 <;> rfl

/-! ### Numbers -/

/-- A number out of its digits. -/
def val : List UInt8 → Int → Option Int
  | [], a => some a
  | c :: r, a => if 48 ≤ bt c ∧ bt c ≤ 57 then val r (a * 10 + (bt c - 48)) else none
theorem val_nonneg : ∀ {s : List UInt8} {a v : Int}, 0 ≤ a → val s a = some v → 0 ≤ v
  | [], a, v, h, e => by simp only [val] at e; cases e; exact h
  | c :: r, a, v, h, e => by
    simp only [val] at e
    split at e
    · exact val_nonneg (by omega) e
    · cases e
theorem val_lt : ∀ {s : List UInt8} {a v : Int}, 0 ≤ a → val s a = some v → v < (a + 1) * 10 ^ s.length
  | [], a, v, h, e => by simp only [val] at e; cases e; simp only [List.length_nil, Int.pow_zero]; omega
  | c :: r, a, v, h, e => by
    simp only [val] at e
    split at e
    · have := val_lt (by omega) e
      refine Int.lt_of_lt_of_le this ?_
      rw [List.length_cons, Int.pow_succ, Int.mul_comm (10 ^ r.length) 10, ← Int.mul_assoc]
      exact Int.mul_le_mul_of_nonneg_right (by omega) (Int.pow_nonneg (by omega))
    · cases e
/-- A decimal number of 1 to 7 digits. -/
def num (s : List UInt8) : Option Int := if 1 ≤ s.length ∧ s.length ≤ 7 ∧ (1 < s.length → bt (s.getD 0 0) ≠ 48) then val s 0 else none
theorem num_range {s : List UInt8} {v : Int} (h : num s = some v) : 0 ≤ v ∧ v < 10000000 := by
  unfold num at h
  split at h
  · rename_i hc
    have h1 := val_nonneg (by omega) h
    have h2 := val_lt (by omega) h
    have h3 : (10 : Int) ^ s.length ≤ 10 ^ 7 := by
      have : (10 : Nat) ^ s.length ≤ 10 ^ 7 := Nat.pow_le_pow_right (by omega) hc.2.1
      exact_mod_cast this
    omega
  · cases h
def vOr {R : Type} (J : Int → Option R) (r : R) : Option Int → Option R
  | some v => J v
  | none => some r

theorem val_step {s : List UInt8} {i : Nat} {a : Int} (hi : i < s.length) : val (s.drop i) a = if 48 ≤ bt s[i] ∧ bt s[i] ≤ 57 then val (s.drop (i + 1)) (a * 10 + (bt s[i] - 48)) else none := by
  rw [List.drop_eq_getElem_cons hi]; rfl
theorem l1Number_l {s : List UInt8} {J : Int → Option Int} : ∀ (m i k : Nat) (a : Int), i + m = s.length → m < k → s.length ≤ 7 → 0 ≤ a → a < 10 ^ i →
    iter (ts := spec_l1Number_L5_ts) (R := Int) k (spec_l1Number_L5 J) s a (i : Int) = vOr J (-1) (val (s.drop i) a)
  | _, _, 0, _, _, h, _, _, _ => by omega
  | 0, i, k + 1, a, h, _, h7, h0, ha => by
    obtain rfl : i = s.length := by omega
    simp only [iter, spec_l1Number_L5, ilt_e, cond_false, List.drop_length, val, vOr] <;> rfl
  | m + 1, i, k + 1, a, h, hk, h7, h0, ha => by
    have hi : i < s.length := by omega
    have hr := bt_range s[i]
    simp only [iter, spec_l1Number_L5, share, ilt_n hi, inb_n hi, cond_true, req_t, sidx_get hi]
    rw [val_step hi]
    by_cases c1 : bt s[i] < 48
    · rw [ilt_t c1, if_neg (by omega)]; rfl
    · by_cases c2 : 57 < bt s[i]
      · rw [ilt_f c1, ilt_t c2, if_neg (by omega)]; rfl
      · rw [ilt_f c1, ilt_f c2, if_pos (by omega)]
        have hpow : (10 : Int) ^ i ≤ 10 ^ 7 := by
          have : (10 : Nat) ^ i ≤ 10 ^ 7 := Nat.pow_le_pow_right (by omega) (by omega)
          exact_mod_cast this
        have e1 : imul .i64 a 10 = a * 10 := wrap_id (by omega) (by omega)
        have e2 : iconv .i64 (bt s[i]) = bt s[i] := wrap_id (by omega) (by omega)
        simp only [cond_false, e1, e2]
        rw [iaddn (by omega) (by omega), isubn (by omega) (by omega), iadd_n (n := s.length) (by omega) hi, show a * 10 + bt s[i] - 48 = a * 10 + (bt s[i] - 48) by omega]
        exact l1Number_l m (i + 1) k _ (by omega) (by omega) h7 (by omega) (by rw [Int.pow_succ]; omega)
theorem decimal_l {s : List UInt8} {J : Int → Option (Int × Bool)} : ∀ (m i k : Nat) (a : Int), i + m = s.length → m < k → s.length ≤ 7 → 0 ≤ a → a < 10 ^ i →
    iter (ts := impl_decimal_L5_ts) (R := Int × Bool) k (impl_decimal_L5 J) s a (s.length : Int) (i : Int) = vOr J (0, false) (val (s.drop i) a)
  | _, _, 0, _, _, h, _, _, _ => by omega
  | 0, i, k + 1, a, h, _, h7, h0, ha => by
    obtain rfl : i = s.length := by omega
    simp only [iter, impl_decimal_L5, ilt_e, cond_false, List.drop_length, val, vOr] <;> rfl
  | m + 1, i, k + 1, a, h, hk, h7, h0, ha => by
    have hi : i < s.length := by omega
    have hr := bt_range s[i]
    simp only [iter, impl_decimal_L5, share, ilt_n hi, inb_n hi, cond_true, req_t, sidx_get hi]
    rw [val_step hi]
    by_cases c1 : bt s[i] < 48
    · rw [ilt_t c1, if_neg (by omega)]; rfl
    · by_cases c2 : 57 < bt s[i]
      · rw [ilt_f c1, ilt_t c2, if_neg (by omega)]; rfl
      · rw [ilt_f c1, ilt_f c2, if_pos (by omega)]
        have hpow : (10 : Int) ^ i ≤ 10 ^ 7 := by
          have : (10 : Nat) ^ i ≤ 10 ^ 7 := Nat.pow_le_pow_right (by omega) (by omega)
          exact_mod_cast this
        have e1 : imul .i64 a 10 = a * 10 := wrap_id (by omega) (by omega)
        have e0 : isub .u8 (bt s[i]) 48 = bt s[i] - 48 := wrap_u8 (by omega) (by omega)
        have e2 : iconv .i64 (bt s[i] - 48) = bt s[i] - 48 := wrap_id (by omega) (by omega)
        simp only [cond_false, e0, e1, e2]
        rw [iaddn (by omega) (by omega), iadd_n (n := s.length) (by omega) hi]
        exact decimal_l m (i + 1) k _ (by omega) (by omega) h7 (by omega) (by rw [Int.pow_succ]; omega)

theorem l1Number_e {k : Nat} (s : List UInt8) (hk : 4194304 ≤ k) : spec_l1Number k s = some ((num s).getD (-1)) := by
  unfold spec_l1Number
  simp only [share, in_e, Option.bind_some]
  by_cases h1 : 1 ≤ s.length
  · by_cases h7 : s.length ≤ 7
    · have loop := l1Number_l (s := s) (J := fun v => some v) s.length 0 k 0 (by omega) (by omega) h7 (by omega) (by decide)
      rw [List.drop_zero, Int.natCast_zero] at loop
      rw [ile_t (by omega), ile_t (by omega)]
      simp only [Bool.and_true, Bool.not_true, cond_false, loop]
      by_cases h2 : 1 < s.length
      · rw [ilt_t (by omega), inb_t (by omega) (by omega)]
        have e0 : sidx s 0 = bt (s.getD 0 0) := rfl
        simp only [cond_true, req_t, e0]
        by_cases h3 : bt (s.getD 0 0) = 48
        · rw [h3, num, if_neg (fun h => h.2.2 h2 h3)]; rfl
        · rw [show ieq (bt (s.getD 0 0)) 48 = false by simpa [ieq] using h3, num, if_pos ⟨h1, h7, fun _ => h3⟩]
          cases val s 0 <;> rfl
      · rw [ilt_f (by omega), num, if_pos ⟨h1, h7, fun h => absurd h h2⟩]
        cases val s 0 <;> rfl
    · rw [ile_t (by omega), ile_f (by omega), num, if_neg (by omega)]; rfl
  · rw [ile_f (by omega), num, if_neg (by omega)]; rfl
theorem decimal_e {k : Nat} (s : List UInt8) (hk : 4194304 ≤ k) : impl_decimal k s = some (match num s with | some v => (v, true) | none => (0, false)) := by
  unfold impl_decimal
  simp only [share]
  by_cases h1 : s.length < 1
  · rw [ilt_t (by omega), num, if_neg (by omega)]; rfl
  · rw [ilt_f (by omega)]
    by_cases h7 : 7 < s.length
    · rw [ilt_t (by omega), num, if_neg (by omega)]; rfl
    · have loop := decimal_l (s := s) (J := fun v => some (v, true)) s.length 0 k 0 (by omega) (by omega) (by omega) (by omega) (by decide)
      rw [List.drop_zero, Int.natCast_zero] at loop
      have e0 : sidx s 0 = bt (s.getD 0 0) := rfl
      rw [ilt_f (by omega), inb_t (by omega) (by omega)]
      simp only [cond_false, req_t, e0, loop]
      by_cases h3 : bt (s.getD 0 0) = 48
      · rw [show ieq (bt (s.getD 0 0)) 48 = true by simpa [ieq] using h3]
        by_cases h2 : 1 < s.length
        · rw [ilt_t (by omega), num, if_neg (fun h => h.2.2 h2 h3)]; rfl
        · rw [ilt_f (by omega), num, if_pos ⟨by omega, by omega, fun h => absurd h h2⟩]
          cases val s 0 <;> rfl
      · rw [show ieq (bt (s.getD 0 0)) 48 = false by simpa [ieq] using h3, num, if_pos ⟨by omega, by omega, fun _ => h3⟩]
        cases val s 0 <;> rfl

/-! ### Words, texts, links -/

theorem l1Has_e {k : Nat} {xs : List (List UInt8)} {s : List UInt8} (hk : 4194304 ≤ k) (hx : xs.length ≤ 1048576) : spec_l1Has k xs s = some (xs.any fun y => seq y s) := by
  unfold spec_l1Has
  have h := loop_any (x := xs) (p := fun y => seq y s) (B := 0) (l := fun k i => iter (ts := spec_l1Has_L2_ts) (R := Bool) k (spec_l1Has_L2 (some false)) xs s i) (E := some false) (O := some true)
    (fun k => by simp only [iter, spec_l1Has_L2, ilt_e, cond_false] <;> rfl)
    (fun k i hi _ => by simp only [iter, spec_l1Has_L2, ilt_n hi, inb_n hi, cond_true, req_t, nth_i hi, iadd_n hx hi] <;> rfl) k (by omega)
  simp only [share]
  exact h.trans (by cases xs.any fun y => seq y s <;> rfl)
theorem wordField_e {k : Nat} {f : GateField} {s : List UInt8} (hk : 4194304 ≤ k) (hx : f.Words.length ≤ 1048576) : impl_wordField_fits k ⟨f⟩ s = some (f.Words.any fun y => seq y s) := by
  unfold impl_wordField_fits
  have h := loop_any (x := f.Words) (p := fun y => seq y s) (B := 0) (l := fun k i => iter (ts := impl_wordField_fits_L2_ts) (R := Bool) k (impl_wordField_fits_L2 (some false)) s f.Words (f.Words.length : Int) i) (E := some false) (O := some true)
    (fun k => by simp only [iter, impl_wordField_fits_L2, ilt_e, cond_false] <;> rfl)
    (fun k i hi _ => by simp only [iter, impl_wordField_fits_L2, ilt_n hi, inb_n hi, cond_true, req_t, nth_i hi, iadd_n hx hi] <;> rfl) k (by omega)
  simp only [share]
  exact h.trans (by cases f.Words.any fun y => seq y s <;> rfl)
/-- A byte that is seen. -/
def seen (c : UInt8) : Bool := ile 33 (bt c) && ile (bt c) 126
theorem not_ilt (a b : Int) : (!ilt a b) = ile b a := by
  by_cases h : a < b
  · rw [ilt_t h, ile_f (by omega)]; rfl
  · rw [ilt_f h, ile_t (by omega)]; rfl
theorem ilt_not (a b : Int) : ilt a b = !ile b a := by rw [← not_ilt]; simp
/-- A text of a length. -/
def textOk (f : GateField) (s : List UInt8) : Bool := (ile f.Least (s.length : Int) && ile (s.length : Int) f.Most) && s.all seen
theorem textField_e {k : Nat} {f : GateField} {s : List UInt8} (hk : 4194304 ≤ k) (hs : sdStr s) : impl_textField_fits k ⟨f⟩ s = some (textOk f s) := by
  unfold impl_textField_fits textOk
  have h := loop_all (x := s) (p := seen) (B := 0) (l := fun k i => iter (ts := impl_textField_fits_L4_ts) (R := Bool) k (impl_textField_fits_L4 (some true)) s (s.length : Int) i) (E := some true) (O := some false)
    (fun k => by simp only [iter, impl_textField_fits_L4, ilt_e, cond_false] <;> rfl)
    (fun k i hi _ => by
      simp only [iter, impl_textField_fits_L4, share, ilt_n hi, inb_n hi, cond_true, req_t, sidx_get hi, iadd_n hs hi, seen, ilt_not (bt s[i]), ilt_not 126]
      cases ile 33 (bt s[i]) <;> cases ile (bt s[i]) 126 <;> rfl) k (by have : s.length ≤ 1048576 := hs; omega)
  simp only [share, h, ilt_not]
  cases ile f.Least (s.length : Int) <;> cases ile (s.length : Int) f.Most <;> cases s.all seen <;> rfl

/-! ### What fits -/

def inR (f : GateField) : Option Int → Bool
  | some v => ile f.Least v && ile v f.Most
  | none => false
/-- Does a value fit a field? -/
def fits (f : GateField) (s : List UInt8) : Bool := cond (ieq f.Kind 1) (inR f (num s)) (cond (ieq f.Kind 2) (!seq s [] && f.Words.any fun y => seq y s) (cond (ieq f.Kind 3) (!seq s [] && textOk f s) (cond (ieq f.Kind 4) (nameOk s) false)))
theorem iconv_bt (c : UInt8) : iconv .i64 (bt c) = bt c := by have := bt_range c; exact wrap_id (by omega) (by omega)
theorem specFits_e {k : Nat} {f : GateField} {s : List UInt8} (hk : 4194304 ≤ k) (hf : f.Words.length ≤ 1048576) (hs : sdStr s) : spec_GateFits k f s = some (fits f s) := by
  unfold spec_GateFits fits
  have h := fun J => loop_all (x := s) (p := seen) (B := 0) (l := fun k i => iter (ts := spec_GateFits_L9_ts) (R := Bool) k (spec_GateFits_L9 J) s f i) (E := J s f) (O := some false)
    (fun k => by simp only [iter, spec_GateFits_L9, ilt_e, cond_false] <;> rfl)
    (fun k i hi _ => by
      simp only [iter, spec_GateFits_L9, ilt_n hi, inb_n hi, cond_true, req_t, sidx_get hi, iadd_n hs hi, in_e, Option.bind_some, iconv_bt, seen]
      cases ile 33 (bt s[i]) <;> cases ile (bt s[i]) 126 <;> rfl) k (by have : s.length ≤ 1048576 := hs; omega)
  simp only [share, h, l1Number_e s hk, l1Has_e hk hf, l1NameOk_e hk hs, in_e, Option.bind_some]
  cases ieq f.Kind 1 with
  | true =>
    cases hn : num s with
    | none => rfl
    | some v =>
      have := num_range hn
      simp only [Option.getD_some, cond_true, ile_t this.1, inR]
  | false =>
    cases ieq f.Kind 2 with
    | true => cases seq s [] <;> rfl
    | false =>
      cases ieq f.Kind 3 with
      | true =>
        simp only [cond_true, cond_false, textOk]
        cases s.all seen <;> cases seq s [] <;> cases ile f.Least (s.length : Int) <;> cases ile (s.length : Int) f.Most <;> rfl
      | false => cases ieq f.Kind 4 <;> rfl
theorem nameOk_ne {s : List UInt8} (h : seq s [] = true) : nameOk s = false := by
  have e : s = [] := by simpa [seq] using h
  subst e; rfl
theorem num_ne {s : List UInt8} (h : seq s [] = true) : num s = none := by
  have e : s = [] := by simpa [seq] using h
  subst e; rfl
theorem numberField_e {k : Nat} {f : GateField} {s : List UInt8} (hk : 4194304 ≤ k) : impl_numberField_fits k ⟨f⟩ s = some (inR f (num s)) := by
  unfold impl_numberField_fits
  simp only [decimal_e s hk, Option.bind_some]
  cases num s with
  | none => rfl
  | some v => simp only [inR, cond_true]; cases ile f.Least v <;> rfl
theorem implFits_e {k : Nat} {f : GateField} {s : List UInt8} (hk : 4194304 ≤ k) (hf : f.Words.length ≤ 1048576) (hs : sdStr s) : impl_GateFits k f s = some (fits f s) := by
  unfold impl_GateFits impl_sortOf impl_sortOf_1 impl_sortOf_2 impl_sortOf_3 impl_sortOf_4 fits impl_linkField_fits
  cases ieq f.Kind 1 with
  | true =>
    simp only [cond_true, Option.bind_some, sumC, numberField_e hk, wordField_e hk hf, textField_e hk hs, isName_e hk hs]
    cases he : seq s [] with
    | true => rw [num_ne he]; rfl
    | false => rfl
  | false =>
    simp only [cond_false]
    cases ieq f.Kind 2 with
    | true => simp only [cond_true, Option.bind_some, sumC, numberField_e hk, wordField_e hk hf, textField_e hk hs, isName_e hk hs]; cases seq s [] <;> rfl
    | false =>
      simp only [cond_false]
      cases ieq f.Kind 3 with
      | true => simp only [cond_true, Option.bind_some, sumC, numberField_e hk, wordField_e hk hf, textField_e hk hs, isName_e hk hs]; cases seq s [] <;> rfl
      | false =>
        simp only [cond_false]
        cases ieq f.Kind 4 with
        | true =>
          simp only [cond_true, Option.bind_some, sumC, numberField_e hk, wordField_e hk hf, textField_e hk hs, isName_e hk hs]
          cases he : seq s [] with
          | true => rw [nameOk_ne he]; rfl
          | false => rfl
        | false => rfl

end Go.Proofs.YtdfdiinbiipacaaDoor.Pu
