/- Names, numbers, fields: what both texts compute of them. No condition. -/
import Derived.Test.YtnhkbghbllbknaaDoorPwA
namespace Go.Proofs.YtnhkbghbllbknaaDoor.Pu
open Go Go.RowKit Go.Proofs.YtnhkbghbllbknaaDoor.Abs Go.Proofs.YtnhkbghbllbknaaDoor.Fn

theorem wrap_u8 {n : Int} (h0 : 0 ≤ n) (h1 : n ≤ 255) : IntKind.u8.wrap n = n := by
  simp only [IntKind.wrap, IntKind.bits, IntKind.signed, Bool.false_and]
  split
  · rename_i h; simp at h
  · omega

/-! ### Names -/

theorem in_e (k : Nat) (a b c : Int) : spec_l1In k a b c = some (ile b a && ile a c) := by
  unfold spec_l1In
  cases ile b a <;> rfl
/-- A name's byte. -/
def nb (c : UInt8) : Bool := (ile 97 (bt c) && ile (bt c) 122) || ((ile 48 (bt c) && ile (bt c) 57) || ieq (bt c) 45)
theorem l1Byte_e (k : Nat) (c : UInt8) : spec_l1Byte k (bt c) = some (nb c) := by
  unfold spec_l1Byte nb
  cases ile 97 (bt c) <;> cases ile (bt c) 122 <;> cases ile 48 (bt c) <;> cases ile (bt c) 57 <;> cases ieq (bt c) 45 <;> rfl
theorem nameByte_e (k : Nat) (c : UInt8) : impl_nameByte k (bt c) = some (nb c) := by
  unfold impl_nameByte nb
  cases ile 97 (bt c) <;> cases ile (bt c) 122 <;> cases ile 48 (bt c) <;> cases ile (bt c) 57 <;> cases ieq (bt c) 45 <;> rfl
/-- A name. -/
def nameOk (s : List UInt8) : Bool := ile 1 (s.length : Int) && (ile (s.length : Int) 16 && s.all nb)
theorem l1NameOk_e {k : Nat} {s : List UInt8} (hk : 4194304 ≤ k) (hs : sdStr s) : spec_l1NameOk k s = some (nameOk s) := by
  unfold spec_l1NameOk nameOk
  have h := loop_all (x := s) (p := nb) (B := 0) (l := fun k i => iter (ts := spec_l1NameOk_L4_ts) (R := Bool) k (spec_l1NameOk_L4 (some true)) s i) (E := some true) (O := some false)
    (fun k => by simp only [iter, spec_l1NameOk_L4, ilt_e, cond_false] <;> rfl)
    (fun k i hi _ => by
      simp only [iter, spec_l1NameOk_L4, ilt_n hi, inb_n hi, cond_true, req_t, sidx_get hi, l1Byte_e, Option.bind_some, iadd_n hs hi]
      cases nb s[i] <;> rfl) k (by have : s.length ≤ 1048576 := hs; omega)
  simp only [share, in_e, Option.bind_some, h]
  cases ile 1 (s.length : Int) <;> cases ile (s.length : Int) 16 <;> cases s.all nb <;> rfl
theorem nameBytes_e {k : Nat} {s : List UInt8} (hk : 4194304 ≤ k) (hs : sdStr s) : impl_nameBytes k s = some (s.all nb) := by
  unfold impl_nameBytes
  have h := loop_all (x := s) (p := nb) (B := 0) (l := fun k i => iter (ts := impl_nameBytes_L2_ts) (R := Bool) k (impl_nameBytes_L2 (some true)) s (s.length : Int) i) (E := some true) (O := some false)
    (fun k => by simp only [iter, impl_nameBytes_L2, ilt_e, cond_false] <;> rfl)
    (fun k i hi _ => by
      simp only [iter, impl_nameBytes_L2, ilt_n hi, inb_n hi, cond_true, req_t, sidx_get hi, nameByte_e, Option.bind_some, iadd_n hs hi]
      cases nb s[i] <;> rfl) k (by have : s.length ≤ 1048576 := hs; omega)
  simp only [share]
  exact h.trans (by cases s.all nb <;> rfl)
theorem isName_e {k : Nat} {s : List UInt8} (hk : 4194304 ≤ k) (hs : sdStr s) : impl_isName k s = some (nameOk s) := by
  unfold impl_isName nameOk
  simp only [nameBytes_e hk hs, Option.bind_some]
  cases ile 1 (s.length : Int) <;> cases ile (s.length : Int) 16 <;> rfl

theorem not_ilt (a b : Int) : (!ilt a b) = ile b a := by
  by_cases h : a < b
  · rw [ilt_t h, ile_f (by omega)]; rfl
  · rw [ilt_f h, ile_t (by omega)]; rfl
theorem ilt_not (a b : Int) : ilt a b = !ile b a := by rw [← not_ilt]; simp
/-- A text of a length. -/
theorem nameOk_ne {s : List UInt8} (h : seq s [] = true) : nameOk s = false := by
  have e : s = [] := by simpa [seq] using h
  subst e; rfl

end Go.Proofs.YtnhkbghbllbknaaDoor.Pu
