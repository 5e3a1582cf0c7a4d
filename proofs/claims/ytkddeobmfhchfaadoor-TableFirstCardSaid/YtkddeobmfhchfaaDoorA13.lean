/- A part of the proof, under no conditions of its own: A13. -/
import Derived.Test.YtkddeobmfhchfaaDoorA12
namespace Go.Proofs.T
open Go Go.Ab Go.RowKit

/-! ## Bounds -/

/-- The bound of the first formal of this name. -/
def boundOf (l : List Formal) (t : Ty) : Option Ty := if t.args.length = 0 then (l.findIdx? fun f => isS t.name f.name).bind fun i => l[i]?.map (·.bound) else none

theorem boundOf_some {l : List Formal} {t : Ty} (h0 : t.args.length = 0) {i : Nat} (h : (l.findIdx? fun f => isS t.name f.name) = some i) : ∃ hi : i < l.length, boundOf l t = some l[i].bound := by
  obtain ⟨hi, _⟩ := List.findIdx?_eq_some_iff_getElem.1 h
  exact ⟨hi, by simp [boundOf, h0, h, hi]⟩

end Go.Proofs.T

