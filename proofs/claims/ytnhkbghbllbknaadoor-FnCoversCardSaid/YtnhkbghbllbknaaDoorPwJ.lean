/- What is drawn: it comes to an end, and it is small. No condition. -/
import Derived.Test.YtnhkbghbllbknaaDoorPwZ
namespace Go.Proofs.YtnhkbghbllbknaaDoor.Pu
open Go Go.RowKit Go.Proofs.YtnhkbghbllbknaaDoor.Abs Go.Proofs.YtnhkbghbllbknaaDoor.Fn

/-- A reader that has picked at most c times. -/
structure RdOk (r : L1Rd) (c : Nat) : Prop where
  b : ∀ y, y ∈ r.b → 0 ≤ y ∧ y ≤ 255
  l : r.b.length ≤ 2000
  p0 : 0 ≤ r.p
  p1 : r.p ≤ c
/-- It gives something of that kind and goes on. -/
def Dr {α : Type} (F : Option (α × L1Rd)) (P : α → Prop) (c : Nat) : Prop := ∃ v r, F = some (v, r) ∧ P v ∧ RdOk r c
theorem Dr.pure {α : Type} {v : α} {r : L1Rd} {P : α → Prop} {c : Nat} (h : P v) (hr : RdOk r c) : Dr (some (v, r)) P c := ⟨v, r, rfl, h, hr⟩
theorem Dr.bind {α β : Type} {F : Option (α × L1Rd)} {G : α × L1Rd → Option (β × L1Rd)} {P : α → Prop} {Q : β → Prop} {c d : Nat} (h : Dr F P c) (hg : ∀ v r, P v → RdOk r c → Dr (G (v, r)) Q d) : Dr (F.bind G) Q d := by
  obtain ⟨v, r, rfl, h1, h2⟩ := h
  exact hg v r h1 h2
theorem Dr.mono {α : Type} {F : Option (α × L1Rd)} {P Q : α → Prop} {c d : Nat} (h : Dr F P c) (hp : ∀ v, P v → Q v) (hc : c ≤ d) : Dr F Q d := by
  obtain ⟨v, r, h1, h2, h3⟩ := h
  exact ⟨v, r, h1, hp v h2, { h3 with p1 := Int.le_trans h3.p1 (by omega) }⟩
theorem RdOk.mono {r : L1Rd} {c d : Nat} (h : RdOk r c) (hc : c ≤ d) : RdOk r d := { h with p1 := Int.le_trans h.p1 (by omega) }

theorem imuln {m n : Int} (h0 : -9223372036854775808 ≤ m * n) (h1 : m * n ≤ 9223372036854775807) : imul .i64 m n = m * n := wrap_id h0 h1
theorem iquo_n {m n : Int} (h0 : 0 ≤ m) (hn : 0 < n) (h1 : m ≤ 9223372036854775807) : iquo .i64 m n = m / n := by
  unfold iquo
  rw [Int.tdiv_eq_ediv_of_nonneg h0]
  have := Int.ediv_nonneg h0 (Int.le_of_lt hn)
  have := Int.ediv_le_self n h0
  exact wrap_id (by omega) (by omega)
theorem irem_n {m n : Int} (h0 : 0 ≤ m) : irem m n = m % n := by
  unfold irem
  rw [Int.tmod_eq_emod_of_nonneg h0]
theorem xor_n {m n : Int} (h0 : 0 ≤ m) (h1 : m < 1099511627776) (h2 : 0 ≤ n) (h3 : n < 1099511627776) : 0 ≤ bXor .i64 m n := by
  obtain ⟨a, rfl⟩ := Int.eq_ofNat_of_zero_le h0
  obtain ⟨b, rfl⟩ := Int.eq_ofNat_of_zero_le h2
  unfold bXor
  have ha : (BitVec.ofInt 64 ((a : Nat) : Int)).toNat = a := by
    rw [BitVec.toNat_ofInt]; omega
  have hb : (BitVec.ofInt 64 ((b : Nat) : Int)).toNat = b := by
    rw [BitVec.toNat_ofInt]; omega
  have hx : (BitVec.ofInt 64 ((a : Nat) : Int) ^^^ BitVec.ofInt 64 ((b : Nat) : Int)).toNat < 1099511627776 := by
    rw [BitVec.toNat_xor, ha, hb]
    exact Nat.xor_lt_two_pow (n := 40) (by omega) (by omega)
  show 0 ≤ IntKind.i64.wrap _
  have e : IntKind.i64.wrap (((BitVec.ofInt 64 ((a : Nat) : Int) ^^^ BitVec.ofInt 64 ((b : Nat) : Int)).toNat : Nat) : Int) = (((BitVec.ofInt 64 ((a : Nat) : Int) ^^^ BitVec.ofInt 64 ((b : Nat) : Int)).toNat : Nat) : Int) := wrap_id (by omega) (by omega)
  exact (show 0 ≤ IntKind.i64.wrap (((BitVec.ofInt 64 ((a : Nat) : Int) ^^^ BitVec.ofInt 64 ((b : Nat) : Int)).toNat : Nat) : Int) by rw [e]; omega)
theorem conv_b {y : Int} (h : 0 ≤ y ∧ y ≤ 255) : iconv .i64 y = y := wrap_id (by omega) (by omega)

theorem pick_e {k c : Nat} {n : Int} {r : L1Rd} (h : RdOk r c) (hc : c < 1000000) (hn : 1 ≤ n) : Dr (spec_l1Rd_pick k n r) (fun v => 0 ≤ v ∧ v < n) (c + 1) := by
  obtain ⟨b, p⟩ := r
  obtain ⟨hb, hl, hp0, hp1⟩ := h
  simp only at hb hl hp0 hp1
  have hr : RdOk ⟨b, p + 1⟩ (c + 1) := ⟨hb, hl, by simp only; omega, by simp only; omega⟩
  have e1 : iadd .i64 p 1 = p + 1 := iaddn (by omega) (by omega)
  have e2 : isub .i64 (p + 1) 1 = p := by rw [isubn (by omega) (by omega)]; omega
  unfold spec_l1Rd_pick
  simp only [share, ilt_f (show ¬ n < 1 by omega), cond_false, e1, e2]
  have hn0 : (!ieq n 0) = true := by simp only [ieq, Bool.not_eq_true', beq_eq_false_iff_ne]; omega
  cases hb0 : ieq (b.length : Int) 0 with
  | true => exact Dr.pure ⟨by omega, by omega⟩ hr
  | false =>
    have hlen : 0 < b.length := by
      simp only [ieq, beq_eq_false_iff_ne] at hb0
      omega
    have by_ : ∀ i : Int, 0 ≤ i → i < (b.length : Int) → 0 ≤ nth (0 : Int) b i ∧ nth (0 : Int) b i ≤ 255 := fun i h0 h1 => by
      obtain ⟨j, rfl⟩ := Int.eq_ofNat_of_zero_le h0
      have hj : j < b.length := by omega
      have : nth (0 : Int) b ((j : Nat) : Int) = b[j] := nth_i hj
      rw [this]
      exact hb _ (mem_i hj)
    have rem : ∀ m : Int, 0 ≤ m → 0 ≤ irem m n ∧ irem m n < n := fun m hm => by
      rw [irem_n hm]
      exact ⟨Int.emod_nonneg _ (by omega), Int.emod_lt_of_pos _ (by omega)⟩
    simp only [cond_false]
    by_cases hlt : p < (b.length : Int)
    · have hy := by_ p hp0 hlt
      simp only [ilt_t hlt, cond_true, inb_t hp0 hlt, req_t, hn0, conv_b hy]
      exact Dr.pure (rem _ hy.1) hr
    · have m7 : imul .i64 p 7 = p * 7 := imuln (by omega) (by omega)
      have m73 : iadd .i64 (p * 7) 3 = p * 7 + 3 := iaddn (by omega) (by omega)
      have i1 : irem p (b.length : Int) = p % (b.length : Int) := irem_n hp0
      have i2 : irem (p * 7 + 3) (b.length : Int) = (p * 7 + 3) % (b.length : Int) := irem_n (by omega)
      have a1 : 0 ≤ p % (b.length : Int) := Int.emod_nonneg _ (by omega)
      have a2 : p % (b.length : Int) < (b.length : Int) := Int.emod_lt_of_pos _ (by omega)
      have a3 : 0 ≤ (p * 7 + 3) % (b.length : Int) := Int.emod_nonneg _ (by omega)
      have a4 : (p * 7 + 3) % (b.length : Int) < (b.length : Int) := Int.emod_lt_of_pos _ (by omega)
      have y1 := by_ _ a1 a2
      have y2 := by_ _ a3 a4
      have hq : iquo .i64 p (b.length : Int) = p / (b.length : Int) := iquo_n hp0 (by omega) (by omega)
      have q0 : 0 ≤ p / (b.length : Int) := Int.ediv_nonneg hp0 (by omega)
      have q1 : p / (b.length : Int) ≤ p := Int.ediv_le_self _ hp0
      simp only [ilt_f hlt, cond_false, m7, m73, i1, i2, hb0, Bool.not_false, req_t, inb_t a1 a2, inb_t a3 a4, hn0, conv_b y1, conv_b y2, hq, show (!ieq (64 : Int) 0) = true from rfl]
      generalize nth (0 : Int) b (p % (b.length : Int)) = y at *
      generalize nth (0 : Int) b ((p * 7 + 3) % (b.length : Int)) = z at *
      generalize p / (b.length : Int) = q at *
      rw [imuln (m := y) (n := 131) (by omega) (by omega), imuln (m := z) (n := 1117) (by omega) (by omega), imuln (m := p) (n := 29) (by omega) (by omega), imuln (m := q) (n := 53) (by omega) (by omega),
        iaddn (m := y * 131) (n := z * 1117) (by omega) (by omega), iaddn (m := y * 131 + z * 1117) (n := p * 29) (by omega) (by omega), iaddn (m := y * 131 + z * 1117 + p * 29) (n := q * 53) (by omega) (by omega)]
      have hA : 0 ≤ y * 131 + z * 1117 + p * 29 + q * 53 := by omega
      have hB : y * 131 + z * 1117 + p * 29 + q * 53 < 1099511627776 := by omega
      generalize y * 131 + z * 1117 + p * 29 + q * 53 = A at *
      rw [iquo_n hA (by omega) (by omega)]
      exact Dr.pure (rem _ (xor_n hA hB (by omega) (by omega))) hr

theorem of_e {k c : Nat} {xs : List Nm} {r : L1Rd} (h : RdOk r c) (hc : c < 1000000) (hx : xs ≠ []) : Dr (spec_l1Rd_of k xs r) (fun s => s ∈ xs) (c + 1) := by
  have hl : 0 < xs.length := List.length_pos_iff.2 hx
  unfold spec_l1Rd_of
  refine Dr.bind (pick_e h hc (by omega)) fun v r' hv hr => ?_
  dsimp only
  rw [inb_t hv.1 hv.2, req_t]
  obtain ⟨j, rfl⟩ := Int.eq_ofNat_of_zero_le hv.1
  have hj : j < xs.length := by omega
  have : nth ([] : List UInt8) xs ((j : Nat) : Int) = xs[j] := nth_i hj
  rw [this]
  exact Dr.pure (mem_i hj) hr

theorem many_e {k : Nat} {s : List UInt8} {n : Nat} (hk : 100000 ≤ k) (hs : s.length ≤ 10) (hn : n ≤ 1000) : ∃ t, spec_l1Many k s (n : Int) = some t ∧ t.length ≤ s.length * n := by
  have go : ∀ (n k : Nat) (s acc : List UInt8), n + 1 ≤ k → n ≤ 1000 → acc.length + s.length * n ≤ 1000000 → ∃ t, iter (ts := spec_l1Many_L2_ts) (R := List UInt8) k (spec_l1Many_L2 fun v => some v) s (n : Int) acc = some t ∧ t.length ≤ acc.length + s.length * n := by
    intro n
    induction n using Nat.strongRecOn with
    | _ n ih =>
      intro k s acc hk hn h2
      obtain ⟨k, rfl⟩ : ∃ q, k = q + 1 := ⟨k - 1, by omega⟩
      simp only [iter, spec_l1Many_L2, share]
      by_cases h0 : n = 0
      · subst h0
        exact ⟨acc, rfl, by omega⟩
      · have e1 : irem ((n : Nat) : Int) 2 = ((n % 2 : Nat) : Int) := by rw [irem_n (by omega)]; norm_cast
        have e2 : iquo .i64 ((n : Nat) : Int) 2 = ((n / 2 : Nat) : Int) := by rw [iquo_n (by omega) (by omega) (by omega)]; norm_cast
        have hls : s.length ≤ 1000000 := by
          have : s.length * 1 ≤ s.length * n := Nat.mul_le_mul_left _ (by omega)
          omega
        have h3 : s.length * n = s.length * (n % 2) + (s.length + s.length) * (n / 2) := by
          have : n = n % 2 + 2 * (n / 2) := by omega
          calc s.length * n = s.length * (n % 2 + 2 * (n / 2)) := by rw [← this]
            _ = s.length * (n % 2) + (s.length + s.length) * (n / 2) := by rw [Nat.mul_add, ← Nat.mul_assoc, Nat.mul_two]
        rw [ilt_t (show (0 : Int) < ((n : Nat) : Int) by omega), e1, e2, catB_t (a := s) (b := s) (by omega) (by omega)]
        simp only [cond_true, req_t, show (!ieq (2 : Int) 0) = true from rfl]
        rcases Nat.mod_two_eq_zero_or_one n with hm | hm
        · rw [hm]
          have h5 : s.length * n = (s.length + s.length) * (n / 2) := by rw [h3, hm] <;> simp
          obtain ⟨t, t1, t2⟩ := ih (n / 2) (by omega) k (s ++ s) acc (by omega) (by omega) (by rw [List.length_append]; omega)
          refine ⟨t, t1, ?_⟩
          rw [List.length_append] at t2
          omega
        · rw [hm]
          have h5 : s.length * n = s.length + (s.length + s.length) * (n / 2) := by rw [h3, hm] <;> simp
          have hc : catB acc s = true := catB_t (by omega) (by omega)
          obtain ⟨t, t1, t2⟩ := ih (n / 2) (by omega) k (s ++ s) (acc ++ s) (by omega) (by omega) (by rw [List.length_append, List.length_append]; omega)
          refine ⟨t, ?_, ?_⟩
          · rw [show ieq ((1 : Nat) : Int) 1 = true from rfl, hc]
            exact t1
          · rw [List.length_append, List.length_append] at t2
            omega
  unfold spec_l1Many
  have h2 : s.length * n ≤ 10 * 1000 := Nat.mul_le_mul hs hn
  obtain ⟨t, t1, t2⟩ := go n k s [] (by omega) hn (by simpa using (by omega))
  exact ⟨t, t1, by simpa using t2⟩

end Go.Proofs.YtnhkbghbllbknaaDoor.Pu
