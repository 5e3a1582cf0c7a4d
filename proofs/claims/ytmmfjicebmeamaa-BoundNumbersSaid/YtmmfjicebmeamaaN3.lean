/- A part of the proof, under no conditions of its own: N3. -/
import Derived.Test.YtmmfjicebmeamaaN2
namespace Go.Proofs.T
open Go Go.Ab Go.RowKit

/-! ## The numbers grow -/

theorem mulS_mono {a b a' b' : Int} (ha : inR a) (hb : inR b) (ha' : inR a') (hb' : inR b') (h : a ≤ a') (k : b ≤ b') : mulS a b ≤ mulS a' b' := by
  rw [mulS_eq ha hb, mulS_eq ha' hb']
  have : a * b ≤ a' * b' := Int.mul_le_mul h k hb.1 ha'.1
  split <;> split <;> omega
theorem addS_mono {a b : Int} (h : a ≤ b) : addS a 1 ≤ addS b 1 := by
  unfold addS
  split <;> split <;> omega
theorem powS_mono {a b : Int} (ha : inR a) (hb : inR b) (h : a ≤ b) : ∀ n, powS a n ≤ powS b n
  | 0 => Int.le_refl _
  | n + 1 => mulS_mono (powS_in ha n) ha (powS_in hb n) hb (powS_mono ha hb h n) h
theorem powS_up {a : Int} (ha : inR a) (h : 1 ≤ a) (n : Nat) : powS a n ≤ powS a (n + 1) := by
  have hp := powS_in ha n
  show powS a n ≤ mulS (powS a n) a
  rw [mulS_eq hp ha]
  have : powS a n * 1 ≤ powS a n * a := Int.mul_le_mul_of_nonneg_left h hp.1
  unfold inR at hp
  split <;> omega
theorem addS_pos {a : Int} (ha : inR a) : 1 ≤ addS a 1 := by
  unfold inR at ha
  unfold addS
  split <;> omega
theorem typS_d {x y : Int} (hx : inR x) (hy : inR y) (h : x ≤ y) (a : Nat) : ∀ n, typS x a n ≤ typS y a n
  | 0 => Int.le_refl _
  | n + 1 => mulS_mono hx (powS_in (addS_in (typS_in hx a n) one_in) a) hy (powS_in (addS_in (typS_in hy a n) one_in) a) h
      (powS_mono (addS_in (typS_in hx a n) one_in) (addS_in (typS_in hy a n) one_in) (addS_mono (typS_d hx hy h a n)) a)
theorem typS_a {x : Int} (hx : inR x) (a : Nat) : ∀ n, typS x a n ≤ typS x (a + 1) n
  | 0 => Int.le_refl _
  | n + 1 => mulS_mono hx (powS_in (addS_in (typS_in hx a n) one_in) a) hx (powS_in (addS_in (typS_in hx (a + 1) n) one_in) (a + 1)) (Int.le_refl _)
      (Int.le_trans (powS_mono (addS_in (typS_in hx a n) one_in) (addS_in (typS_in hx (a + 1) n) one_in) (addS_mono (typS_a hx a n)) a)
        (powS_up (addS_in (typS_in hx (a + 1) n) one_in) (addS_pos (typS_in hx (a + 1) n)) a))
theorem typS_h {x : Int} (hx : inR x) (a : Nat) : ∀ n, typS x a n ≤ typS x a (n + 1)
  | 0 => (typS_in hx a 1).1
  | n + 1 => mulS_mono hx (powS_in (addS_in (typS_in hx a n) one_in) a) hx (powS_in (addS_in (typS_in hx a (n + 1)) one_in) a) (Int.le_refl _)
      (powS_mono (addS_in (typS_in hx a n) one_in) (addS_in (typS_in hx a (n + 1)) one_in) (addS_mono (typS_h hx a n)) a)
end Go.Proofs.T

