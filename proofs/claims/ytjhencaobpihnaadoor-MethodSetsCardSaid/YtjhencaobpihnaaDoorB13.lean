/- A part of the proof, under no conditions of its own: B13. -/
import Derived.Test.YtjhencaobpihnaaDoorB12
namespace Go.Proofs.T
open Go Go.Ab Go.RowKit

/-! ## The methods of a type: the reference -/

def mthI (p : Prg) (x : Ty) (k : Nat) : List Sig := if instOf p x 1 = true then mthTo p x k else []
def isMth (p : Prg) (x : Ty) (k : Nat) (e : Dec) : Bool := decide (mthIdx p x e.sig.name = some k)
theorem isMth_eq (p : Prg) (x : Ty) (k : Nat) (h : k < p.decls.length) : isMth p x k p.decls[k] = (instOf p x 1 && mPick p x k p.decls[k]) := by
  unfold isMth mthIdx mPick
  cases instOf p x 1 with
  | false => simp
  | true =>
    cases hf : meFind p x.name p.decls[k].sig.name with
    | none => simp
    | some q =>
      by_cases hq : q = k
      · subst hq
        by_cases hv : (p.decls[q].vars.length : Int) = x.args.length
        · simp [Option.filter, h, hv]
        · simp [Option.filter, h, hv]
      · simp [Option.filter, hq]
theorem mthI_succ (p : Prg) (x : Ty) (k : Nat) (h : k < p.decls.length) : mthI p x (k + 1) = if isMth p x k p.decls[k] = true then mthI p x k ++ [mSig x p.decls[k]] else mthI p x k := by
  rw [isMth_eq p x k h]
  unfold mthI
  rw [mthTo_succ p x k h]
  cases instOf p x 1 <;> simp
theorem mthI_len (p : Prg) (x : Ty) (k : Nat) : (mthI p x k).length ≤ k := by
  unfold mthI
  split
  · exact mthTo_len p x k
  · simp
theorem isMth_at {p : Prg} {x : Ty} {k : Nat} (h : k < p.decls.length) (hm : isMth p x k p.decls[k] = true) : p.decls[k].kind = 3 ∧ p.decls[k].name = x.name := by
  rw [isMth_eq p x k h] at hm
  simp only [mPick, Bool.and_eq_true, decide_eq_true_eq] at hm
  have := meFind_at h hm.2.1
  exact ⟨this.1, this.2.1⟩

end Go.Proofs.T

