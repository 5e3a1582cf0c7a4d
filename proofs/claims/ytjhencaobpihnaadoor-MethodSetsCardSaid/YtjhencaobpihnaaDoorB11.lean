/- A part of the proof, under no conditions of its own: B11. -/
import Derived.Test.YtjhencaobpihnaaDoorB10
namespace Go.Proofs.T
open Go Go.Ab Go.RowKit

/-! ## Methods -/

def meDe (p : Prg) (n m : Str) : Option Dec := (meFind p n m).bind fun i => p.decls[i]?
theorem getDe_me (p : Prg) (n m : Str) : getDe p (n, ⟨#[46]⟩ ++ m) = meDe p n m := by simp [getDe, meDe, tfind_me]
theorem meFind_some {p : Prg} {n m : Str} {i : Nat} (h : meFind p n m = some i) : ∃ hi : i < p.decls.length, meDe p n m = some p.decls[i] := by
  obtain ⟨hi, _⟩ := List.findIdx?_eq_some_iff_getElem.1 h
  exact ⟨hi, by simp [meDe, h, hi]⟩
theorem smDe_me {p : Prg} (h : smPr p) (n m : Str) : smDe ((meDe p n m).getD zeroDe) := by
  cases hm : meFind p n m with
  | none => simpa [meDe, hm] using smDe_zero
  | some i =>
    obtain ⟨hi, hd⟩ := meFind_some hm
    rw [hd]
    exact h.1.2 _ (List.getElem_mem hi)
/-- The index of the method that an instance has by a name. -/
def mthIdx (p : Prg) (x : Ty) (m : Str) : Option Nat := if instOf p x 1 = true then (meFind p x.name m).filter fun i => decide ((((p.decls[i]?).getD zeroDe).vars.length : Int) = x.args.length) else none
def mthDe (p : Prg) (x : Ty) (m : Str) : Option Dec := (mthIdx p x m).bind fun i => p.decls[i]?

end Go.Proofs.T

