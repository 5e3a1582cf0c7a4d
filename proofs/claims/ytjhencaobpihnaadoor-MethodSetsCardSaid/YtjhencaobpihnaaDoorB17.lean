/- A part of the proof, under no conditions of its own: B17. -/
import Derived.Test.YtjhencaobpihnaaDoorB16
namespace Go.Proofs.T
open Go Go.Ab Go.RowKit


theorem mthIdx_some {p : Prg} {x : Ty} {m : Str} {i : Nat} (h : mthIdx p x m = some i) : ∃ hi : i < p.decls.length, mthDe p x m = some p.decls[i] := by
  have h0 := h
  unfold mthIdx at h
  split at h
  · obtain ⟨hq, -⟩ := Option.filter_eq_some_iff.1 h
    obtain ⟨hi, -⟩ := meFind_some hq
    exact ⟨hi, by simp [mthDe, h0, hi]⟩
  · cases h
end Go.Proofs.T

