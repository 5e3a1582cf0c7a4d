/- A part of the proof, under no conditions of its own: B10. -/
import Derived.Test.YtjhencaobpihnaaDoorB9
namespace Go.Proofs.T
open Go Go.Ab Go.RowKit

theorem seen_succ (l : List Sig) (j : Nat) (n : Str) (h : j < l.length) : seen l (j + 1) n = (seen l j n || decide (l[j].name = n)) := by
  unfold seen
  rw [List.take_add_one, List.getElem?_eq_getElem h, List.any_append]
  simp only [Option.toList_some, List.any_cons, List.any_nil, Bool.or_false]
theorem seen_zero (l : List Sig) (n : Str) : seen l 0 n = false := by simp [seen]

end Go.Proofs.T

