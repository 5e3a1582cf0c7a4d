/- A part of the proof, under no conditions of its own: A1. -/
import Derived.Test.YtmmfjicebmeamaaF10
namespace Go.Proofs.T
open Go Go.Ab Go.RowKit

mutual
def count : Ty → Nat → Nat
  | .mk nm xs _, n => countL xs (n + 1 + nm.size / 50)
def countL : List Ty → Nat → Nat
  | [], n => n
  | t :: r, n => if n ≤ 2000 then countL r (count t n) else n
end
theorem count_eq (t : Ty) (n : Nat) : count t n = countL t.args (n + 1 + t.name.size / 50) := by cases t; simp [count]
theorem countL_le {l : List Ty} {n : Nat} (h : 2000 < n) : countL l n = n := by cases l <;> simp [countL]; omega

def big : Nat := 184467440737097518
mutual
theorem count_bound : ∀ (t : Ty) (n : Nat), okTy t → count t n ≤ Nat.max n 2000 + big
  | .mk nm xs p, n, h => by
    simp only [count]
    simp only [okTy] at h
    have h1 : n + 1 + nm.size / 50 ≤ Nat.max n 2000 + big := by
      have : n ≤ Nat.max n 2000 := Nat.le_max_left ..
      unfold big; omega
    have := countL_bound xs (n + 1 + nm.size / 50) (Nat.max n 2000) h.2.2 (Nat.le_max_right ..) h1
    exact this
theorem countL_bound : ∀ (l : List Ty) (n m : Nat), okTys l → 2000 ≤ m → n ≤ m + big → countL l n ≤ m + big
  | [], n, m, _, h2, h => by simpa [countL] using h
  | t :: r, n, m, hk, h2, h => by
    simp only [countL]
    simp only [okTys] at hk
    split
    · rename_i hn
      refine countL_bound r _ m hk.2 h2 ?_
      have := count_bound t n hk.1
      have : Nat.max n 2000 = 2000 := Nat.max_eq_right hn
      omega
    · exact h
end

end Go.Proofs.T

