/- A part of the proof, under no conditions of its own: B20. -/
import Derived.Test.YtjhencaobpihnaaGreatDoorB16
import Derived.Test.YtjhencaobpihnaaGreatDoorXF
namespace Go.Proofs.T
open Go Go.Ab Go.RowKit

/-! ## The declarations twice -/

def twice (p : Prg) : Prg := ⟨p.decls ++ p.decls, p.main⟩
theorem find_twice {α : Type} (l : List α) (f : α → Bool) : (l ++ l).findIdx? f = l.findIdx? f := by
  rw [List.findIdx?_append]
  cases l.findIdx? f <;> simp
theorem tyFind_twice (p : Prg) (n : Str) : tyFind (twice p) n = tyFind p n := find_twice _ _
theorem meFind_twice (p : Prg) (n m : Str) : meFind (twice p) n m = meFind p n m := find_twice _ _
theorem tyDe_twice (p : Prg) (n : Str) : tyDe (twice p) n = tyDe p n := by
  unfold tyDe
  rw [tyFind_twice]
  cases h : tyFind p n with
  | none => rfl
  | some i =>
    obtain ⟨hi, _⟩ := tyFind_some h
    simp [twice, List.getElem?_append_left hi]
theorem kindOf_twice (p : Prg) (n : Str) : kindOf (twice p) n = kindOf p n := by simp only [kindOf, tyDe_twice]
theorem instOf_twice (p : Prg) (x : Ty) (k : Int) : instOf (twice p) x k = instOf p x k := by unfold instOf kindOf fmsOf; rw [tyDe_twice]
theorem meFind_lt {p : Prg} {n m : Str} {k : Nat} (h : meFind p n m = some k) : k < p.decls.length := (meFind_some h).1
theorem mthTo_twice1 (p : Prg) (x : Ty) : ∀ k, k ≤ p.decls.length → mthTo (twice p) x k = mthTo p x k
  | 0, _ => rfl
  | k + 1, h => by
    have ih := mthTo_twice1 p x k (by omega)
    have h1 : k < (twice p).decls.length := by simp [twice]; omega
    have hg : (twice p).decls[k] = p.decls[k] := by simp [twice, List.getElem_append_left (show k < p.decls.length by omega)]
    rw [mthTo_succ _ _ _ h1, mthTo_succ p x k (by omega), ih, hg]
    have hm : mPick (twice p) x k p.decls[k] = mPick p x k p.decls[k] := by unfold mPick; rw [meFind_twice]
    rw [hm]
theorem mthTo_twice2 (p : Prg) (x : Ty) : ∀ k, k ≤ p.decls.length → mthTo (twice p) x (p.decls.length + k) = mthTo p x p.decls.length
  | 0, _ => mthTo_twice1 p x _ (Nat.le_refl _)
  | k + 1, h => by
    have ih := mthTo_twice2 p x k (by omega)
    have h1 : p.decls.length + k < (twice p).decls.length := by simp [twice]; omega
    have hp : mPick (twice p) x (p.decls.length + k) (twice p).decls[p.decls.length + k] = false := by
      unfold mPick
      rw [meFind_twice]
      have : ¬ meFind p x.name (twice p).decls[p.decls.length + k].sig.name = some (p.decls.length + k) := fun e => by
        have := meFind_lt e
        omega
      simp [this]
    rw [← Nat.add_assoc, mthTo_succ _ _ _ h1, hp, ih]
    simp
theorem mthsOf_twice (p : Prg) (x : Ty) : mthsOf (twice p) x = mthsOf p x := by
  unfold mthsOf
  rw [instOf_twice]
  have : (twice p).decls.length = p.decls.length + p.decls.length := by simp [twice]
  rw [this, mthTo_twice2 p x _ (Nat.le_refl _)]
theorem smPr_twice {p : Prg} (h : smPr p) (hl : p.decls.length ≤ 30) : smPr (twice p) :=
  ⟨⟨by simp [twice]; omega, fun f hf => by simp [twice] at hf; exact h.1.2 f hf⟩, h.2⟩


theorem okRowsDe : ∀ l : List Dec, okRows 23 (l.map encDe) := fun l => okRows_map 23 encDe l fun _ => ⟨rfl, rfl⟩
end Go.Proofs.T

