/- A part of the proof, under no conditions of its own: A2. -/
import Derived.Test.YtmmfjicebmeamaaA1
namespace Go.Proofs.T
open Go Go.Ab Go.RowKit

/-! ## Comparing -/

def cmpL : List UInt8 → List UInt8 → Int
  | [], [] => 0
  | [], _ :: _ => -1
  | _ :: _, [] => 1
  | a :: x, b :: y => if a < b then -1 else if b < a then 1 else cmpL x y

def cmpS (a b : Str) : Int := cmpL a.data.toList b.data.toList

theorem cmpL_zero : ∀ {x y : List UInt8}, cmpL x y = 0 ↔ x = y
  | [], [] => by simp [cmpL]
  | [], _ :: _ => by simp [cmpL]
  | _ :: _, [] => by simp [cmpL]
  | a :: x, b :: y => by
    simp only [cmpL]
    split
    · rename_i h; simp; rintro rfl; exact absurd h (by simp)
    · split
      · rename_i h; simp; rintro rfl; exact absurd h (by simp)
      · rename_i h1 h2
        have : a = b := by
          apply UInt8.le_antisymm
          · exact UInt8.not_lt.1 h2
          · exact UInt8.not_lt.1 h1
        subst this
        simp [cmpL_zero (x := x) (y := y)]

theorem cmpS_zero {a b : Str} : cmpS a b = 0 ↔ a = b := by
  unfold cmpS
  rw [cmpL_zero, Array.toList_inj]
  constructor
  · intro h; cases a; cases b; simp_all
  · rintro rfl; rfl

theorem str_get {s : Str} {k : Nat} (h : k < s.size) : s[k]? = some (s.data.toList[k]'h) := by
  have : s[k]? = some s[k] := getElem?_pos s k h
  rw [this]; rfl

theorem cmpL_less : ∀ (x y : List UInt8), Op.bytesLess x y = decide (cmpL x y = -1)
  | [], [] => by simp [Op.bytesLess, cmpL]
  | [], _ :: _ => by simp [Op.bytesLess, cmpL]
  | _ :: _, [] => by simp [Op.bytesLess, cmpL]
  | a :: x, b :: y => by
    simp only [Op.bytesLess, cmpL]
    by_cases h1 : a < b
    · simp [h1]
    · by_cases h2 : b < a
      · simp [h1, h2]; intro h; subst h; simp at h2
      · have : a = b := UInt8.le_antisymm (UInt8.not_lt.1 h2) (UInt8.not_lt.1 h1)
        subst this
        simp [h1, cmpL_less x y]

theorem cmpL_range : ∀ (x y : List UInt8), cmpL x y = -1 ∨ cmpL x y = 0 ∨ cmpL x y = 1
  | [], [] => by simp [cmpL]
  | [], _ :: _ => by simp [cmpL]
  | _ :: _, [] => by simp [cmpL]
  | a :: x, b :: y => by
    simp only [cmpL]
    split
    · simp
    · split
      · simp
      · exact cmpL_range x y

theorem cmpS_less (a b : Str) : Op.bytesLess a.toList b.toList = decide (cmpS a b = -1) := by
  rw [cmpL_less, ByteArray.toList_eq, ByteArray.toList_eq]; rfl

end Go.Proofs.T

